/- Maps from ints that the call has made: map[int]bool and map[int]string, in plain words; slices that read as lists, picked at a place. -/
import Derived.Test.YtogljlloobjeoaaProg
import Derived.Test.YtogljlloobjeoaaBase
import Derived.Maps.OwnSet
import Derived.Maps.StringElems
namespace Go.Proofs.Ytogljlloobjeoaa
open Go.RowKit Go.Maps

theorem SlAt.pick {w : World} {ok : Nat → Prop} {a : Option Addr} {n c : Nat} {xs : List Value} (h : SlAt w ok (.slice a n c) xs) {j : Nat} {x : Value} (hj : xs[j]? = some x) : ∃ b o, a = some ⟨b, o, none⟩ ∧ ok b ∧ b < w.heap.size ∧ w.cell? ⟨b, o + j, none⟩ = some x := by
  obtain ⟨a', c', e, hc, hx⟩ := h
  injection e with e1 e2 e3
  subst e1
  obtain ⟨b, o, ha, hb, hl, hg⟩ := hx (by have := (List.getElem?_eq_some_iff.1 hj).1; omega)
  exact ⟨b, o, ha, hb, hl, hg j x hj⟩
theorem SlAt.form {w : World} {ok : Nat → Prop} {v : Value} {xs : List Value} (h : SlAt w ok v xs) : ∃ a c, v = .slice a xs.length c := by
  obtain ⟨a', c', e, hc, hx⟩ := h
  exact ⟨a', c', e⟩
theorem strs_pick {xs : List ByteArray} {i : Nat} {x : ByteArray} (h : xs[i]? = some x) : (strs xs)[i]? = some (.string x) := by simp [strs, h]
theorem nats_pick {xs : List Nat} {i : Nat} {x : Nat} (h : xs[i]? = some x) : (nats xs)[i]? = some (.int .i64 (x : Int)) := by simp [nats, h]
theorem nats_size (xs : List Nat) : (nats xs).length = xs.length := by simp [nats]
theorem strs_size (xs : List ByteArray) : (strs xs).length = xs.length := by simp [strs]
theorem ints_size (xs : List Int) : (ints xs).length = xs.length := by simp [ints]

theorem keyedInt : Keyed Try.prog 3 := int_keyed Try.underlying3
theorem wf_i64 {i : Int} (h0 : -9223372036854775808 ≤ i) (h1 : i ≤ 9223372036854775807) : (Lit.int .i64 i).wf = true := by
  show (decide (IntKind.min .i64 ≤ i) && decide (i ≤ IntKind.max .i64)) = true
  have e1 : IntKind.min .i64 = -9223372036854775808 := by decide
  have e2 : IntKind.max .i64 = 9223372036854775807 := by decide
  rw [e1, e2, decide_eq_true h0, decide_eq_true h1]; rfl
theorem keyInt {i : Int} (h : (Lit.int .i64 i).wf = true) : keyOf Try.prog 3 (.int .i64 i) = some (.int .i64 i) := keyOf_int_mk Try.underlying3 h
theorem isKeyInt (i : Int) : WideAt.IsKeyLit (.int .i64 i) := trivial
theorem key_ne {i j : Int} (h : ¬ i = j) : (Lit.int .i64 i) ≠ (Lit.int .i64 j) := fun e => h (by injection e)
theorem zeroBool (w : World) : (zeroValue 4).run Try.prog w = .ok (.bool false) w := by kernel_rfl
theorem zeroStr (w : World) : (zeroValue 9).run Try.prog w = .ok (.string ByteArray.empty) w := by kernel_rfl

/-! ### map[int]bool -/
/-- The map in block b holds these bools. -/
def MpB (w : World) (b n : Nat) (f : Int → Bool) : Prop :=
  ∃ D : DataW Unit, w.ownsMap Try.prog 3 (plainElem Try.prog 4) b n D ∧ ∀ i : Int, D.atKey (.int .i64 i) (.lit (.bool false)) = .lit (.bool (f i))
theorem plainElem_bool_inv {P : Program} {e : TypeId} (he : P.underlying e = some .bool) {v : Value} {x : Bool} {ps : List MemPlace} (h : plainElem (H := Unit) P e v = some (.lit (.bool x), ps)) : v = .bool x := by
  unfold plainElem at h
  rw [he] at h
  cases v <;> simp at h
  rw [h.1]
theorem MpB.new (w : World) : MpB (w.alloc (.map #[] 0)) w.heap.size 0 (fun _ => false) := ⟨.map [], World.ownsMap_made w _ _ _, fun _ => rfl⟩
theorem MpB.lt {w : World} {b n : Nat} {f : Int → Bool} (h : MpB w b n f) : b < w.heap.size := by obtain ⟨D, h, _⟩ := h; exact h.lt
theorem MpB.fr {w w' : World} {b n : Nat} {f : Int → Bool} (h : MpB w b n f) {S : List Nat} (hf : Fr S w w') (hn : b ∉ S) : MpB w' b n f := by
  have hl := h.lt
  obtain ⟨D, ⟨es, clock, hb, r⟩, hD⟩ := h
  exact ⟨D, ⟨es, clock, (hf.block b hl hn).trans hb, r⟩, hD⟩
set_option maxRecDepth 100000 in
theorem MpB.look {w : World} {b n : Nat} {f : Int → Bool} (h : MpB w b n f) {i : Int} (hi : (Lit.int .i64 i).wf = true) (W : World) (hW : W.heap = w.heap) :
    (Instr.lookup 56 (.map (some b)) (.int .i64 i) false).run Try.prog W = .ok (.bool (f i)) W := by
  obtain ⟨D, ⟨es, clock, hb, r⟩, hD⟩ := h
  have h' : W.ownsMap Try.prog 3 (plainElem Try.prog 4) b n D := ⟨es, clock, by rw [hW]; exact hb, r⟩
  obtain ⟨v, ps, hr, hv⟩ := h'.lookup keyedInt Try.underlying56 (zeroBool W) (plainElem_bool Try.underlying4 false) (keyInt hi)
  rw [hD] at hv
  rw [hr, plainElem_bool_inv Try.underlying4 hv]
theorem MpB.put {w' : World} {b n : Nat} {f : Int → Bool} {D : DataW Unit} {i : Int} {x : Bool} {w : World} (ho : w.ownsMap Try.prog 3 (plainElem Try.prog 4) b n D) (hD : ∀ i : Int, D.atKey (.int .i64 i) (.lit (.bool false)) = .lit (.bool (f i)))
    (h : w'.ownsMap Try.prog 3 (plainElem Try.prog 4) b (n + 1) (D.put (.int .i64 i) (.lit (.bool x)))) : MpB w' b (n + 1) (fun j => if j = i then x else f j) := by
  refine ⟨_, h, fun j => ?_⟩
  by_cases e : j = i
  · subst e
    rw [atKey_put_same ho.isMap (isKeyInt j)]
    show _ = DataW.lit (.bool (if j = j then x else f j))
    rw [if_pos rfl]
  · rw [atKey_put_other (key_ne e), hD]
    show _ = DataW.lit (.bool (if j = i then x else f j))
    rw [if_neg e]

/-! ### map[int]string -/
/-- The map in block b holds these texts. -/
def MpS (w : World) (b n : Nat) (f : Int → Option ByteArray) : Prop :=
  ∃ D : DataW Unit, w.ownsMap Try.prog 3 (plainElem Try.prog 9) b n D ∧ ∀ i : Int, Maps.has D (.int .i64 i) = (f i).isSome ∧ D.atKey (.int .i64 i) (.lit (.string ByteArray.empty.data.toList)) = .lit (.string ((f i).getD ByteArray.empty).data.toList)
theorem MpS.new (w : World) : MpS (w.alloc (.map #[] 0)) w.heap.size 0 (fun _ => none) := ⟨.map [], World.ownsMap_made w _ _ _, fun _ => ⟨rfl, rfl⟩⟩
theorem MpS.lt {w : World} {b n : Nat} {f : Int → Option ByteArray} (h : MpS w b n f) : b < w.heap.size := by obtain ⟨D, h, _⟩ := h; exact h.lt
theorem MpS.fr {w w' : World} {b n : Nat} {f : Int → Option ByteArray} (h : MpS w b n f) {S : List Nat} (hf : Fr S w w') (hn : b ∉ S) : MpS w' b n f := by
  have hl := h.lt
  obtain ⟨D, ⟨es, clock, hb, r⟩, hD⟩ := h
  exact ⟨D, ⟨es, clock, (hf.block b hl hn).trans hb, r⟩, hD⟩
theorem str_eq {a b : ByteArray} (h : a.data.toList = b.data.toList) : a = b := by
  cases a; cases b; congr 1; exact Array.toList_inj.1 h
set_option maxRecDepth 100000 in
theorem MpS.look {w : World} {b n : Nat} {f : Int → Option ByteArray} (h : MpS w b n f) {i : Int} (hi : (Lit.int .i64 i).wf = true) (W : World) (hW : W.heap = w.heap) :
    (Instr.lookup 46 (.map (some b)) (.int .i64 i) true).run Try.prog W = .ok (.tuple #[.string ((f i).getD ByteArray.empty), .bool (f i).isSome]) W := by
  obtain ⟨D, ⟨es, clock, hb, r⟩, hD⟩ := h
  have h' : W.ownsMap Try.prog 3 (plainElem Try.prog 9) b n D := ⟨es, clock, by rw [hW]; exact hb, r⟩
  obtain ⟨v, ps, hr, hv⟩ := h'.look_ok keyedInt Try.underlying46 (zeroStr W) (plainElem_string Try.underlying9 (s := ByteArray.empty) (Nat.zero_le _)) (keyInt hi)
  rw [(hD i).2] at hv
  obtain ⟨s, rfl, hs, _⟩ := plainElem_string_inv Try.underlying9 hv
  rw [hr, (hD i).1]
  injection hs with hs _
  injection hs with hs
  injection hs with hs
  rw [str_eq hs]
theorem MpS.put {w' : World} {b n : Nat} {f : Int → Option ByteArray} {D : DataW Unit} {i : Int} {x : ByteArray} {w : World} (ho : w.ownsMap Try.prog 3 (plainElem Try.prog 9) b n D) (hD : ∀ i : Int, Maps.has D (.int .i64 i) = (f i).isSome ∧ D.atKey (.int .i64 i) (.lit (.string ByteArray.empty.data.toList)) = .lit (.string ((f i).getD ByteArray.empty).data.toList))
    (h : w'.ownsMap Try.prog 3 (plainElem Try.prog 9) b (n + 1) (D.put (.int .i64 i) (.lit (.string x.data.toList)))) : MpS w' b (n + 1) (fun j => if j = i then some x else f j) := by
  refine ⟨_, h, fun j => ?_⟩
  by_cases e : j = i
  · subst e
    rw [atKey_put_same ho.isMap (isKeyInt j), has_put_same ho.isMap (isKeyInt j)]
    have e2 : (if j = j then some x else f j) = some x := if_pos rfl
    exact ⟨by show _ = (if j = j then some x else f j).isSome; rw [e2]; rfl, by show _ = DataW.lit (.string ((if j = j then some x else f j).getD ByteArray.empty).data.toList); rw [e2]; rfl⟩
  · rw [atKey_put_other (key_ne e), has_put_other (key_ne e)]
    have e2 : (if j = i then some x else f j) = f j := if_neg e
    exact ⟨by show _ = (if j = i then some x else f j).isSome; rw [e2]; exact (hD j).1, by show _ = DataW.lit (.string ((if j = i then some x else f j).getD ByteArray.empty).data.toList); rw [e2]; exact (hD j).2⟩
theorem MpS.store {w : World} {b n : Nat} {f : Int → Option ByteArray} (h : MpS w b n f) (hn : n < maxLen) {i : Int} (hi : (Lit.int .i64 i).wf = true) (x : ByteArray) (hx : x.size ≤ maxLen) :
    ∃ w', (Instr.mapUpdate 46 (.map (some b)) (.int .i64 i) (.string x)).run Try.prog w = .ok () w' ∧ MpS w' b (n + 1) (fun j => if j = i then some x else f j) ∧ w.grownBy w' (some b) := by
  obtain ⟨D, ho, hD⟩ := h
  obtain ⟨w', hr, h1, h2⟩ := ho.update keyedInt Try.underlying46 hn (keyInt hi) (plainElem_string Try.underlying9 hx)
  exact ⟨w', hr, MpS.put ho hD h1, h2⟩

end Go.Proofs.Ytogljlloobjeoaa
