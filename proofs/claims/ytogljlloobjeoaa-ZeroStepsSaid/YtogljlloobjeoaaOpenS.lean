/- The arguments of chapter 22's laws, opened. 'open_slice_fields' began as the guide's block (extra-structs.md, 1). -/
import Derived.Test.YtogljlloobjeoaaScr
import Derived.Deep.Slices
import Derived.Deep.Fields
import Derived.ChangeSame
import Derived.ProofKit
namespace Go.Proofs.Ytogljlloobjeoaa
open Go.ChangeShapes Go.WideShapes Go.ChangeAt Go.RowKit Go.Deep

section
variable {H : Type} {enc : TypeId × Value → H} {P : Program} {w : World} {base : Nat} {spare : Nat → Bool} {held : Bool}
theorem open_slice_fields {t e : TypeId} {fs : Array Field} {fuel : Nat} {cs : List Value} {x : DataW H × List MemPlace} (ht : P.underlying t = some (.slice e)) (he : P.underlying e = some (.struct fs))
    (hone : oneCellFields P fs = true) (hC : P.cellsOf e = fs.size) (h : DataW.trod enc P w base spare held fuel t cs = some x) :
    (cs = [.slice none 0 0] ∧ x = (.nil, [])) ∨
    ∃ (a : Addr) (len cap m : Nat) (D : Nat → DataW H) (Pl : Nat → List MemPlace), cs = [.slice (some a) len cap] ∧ base ≤ a.block ∧ len ≤ cap ∧ cap ≤ maxLen ∧ m = (if spare a.block then cap else len) ∧
      x = (.slice ((List.range len).map D) ((List.range (m - len)).map fun j => D (len + j)), MemPlace.row a (m * fs.size) ++ (List.range m).flatMap Pl) ∧
      ∀ i, i < m → ∃ (ys : List (DataW H × List MemPlace)) (n : Nat), D i = .agg (ys.map (·.1)) ∧ Pl i = ys.flatMap (·.2) ∧ ys.length = fs.size ∧
        ∀ (j : Nat) (f : Field), fs[j]? = some f → ∃ (v : Value) (y : DataW H × List MemPlace), w.cell? (a.add (i * fs.size + j)) = some v ∧ ys[j]? = some y ∧ DataW.trod enc P w base spare held n f.type [v] = some y := by
  rcases open_slice ht h with h0 | ⟨a, len, cap, m, n, D, Pl, hcs, hb, hl, hm, hmm, hx, hi⟩
  · exact .inl h0
  · refine .inr ⟨a, len, cap, m, D, Pl, hcs, hb, hl, hm, hmm, by rw [hC] at hx; exact hx, fun i him => ?_⟩
    obtain ⟨cs', hc, ht'⟩ := hi i him
    rw [hC] at hc
    obtain ⟨ys, n', hn', hy, hlen, hyl, hf⟩ := DataW.trod_struct he ht'
    obtain ⟨_, hcl, hat⟩ := World.cells?_some hc
    simp only [Prod.mk.injEq] at hy
    refine ⟨ys, n', hy.1, hy.2, hyl, fun j f hj => ?_⟩
    obtain ⟨ho, hk⟩ := hone_of hone j f hj
    have hjl : j < fs.size := (Array.getElem?_eq_some_iff.1 hj).1
    have hcell := hat j hjl
    have hv : cs'[j]? = some (cs'[j]'(by omega)) := List.getElem?_eq_getElem (by omega)
    have h1 := hf j f hj
    rw [ho, hk] at h1
    have hone' : (cs'.drop j).take 1 = [cs'[j]'(by omega)] := by
      rw [List.drop_eq_getElem_cons (by omega)]
      rfl
    rw [hone'] at h1
    have hys : ys[j]? = some (ys[j]'(by omega)) := List.getElem?_eq_getElem (by omega)
    refine ⟨_, _, ?_, hys, h1.trans hys⟩
    rw [← Go.Deep.add_add, hcell, hv]
end

theorem cell_plain {w : World} {a : Addr} {v : Value} (h : w.cell? a = some v) : a = ⟨a.block, a.off, none⟩ := by
  obtain ⟨b, o, s⟩ := a
  cases s with
  | none => rfl
  | some k =>
    simp only [World.cell?] at h
    split at h <;> simp at h
theorem add_plain (b o k : Nat) : (⟨b, o, none⟩ : Addr).add k = ⟨b, o + k, none⟩ := by unfold Addr.add; split <;> simp_all

section
variable {H : Type} {enc : TypeId × Value → H} {w : World} {base : Nat} {held : Bool}
/-- A slice of ints. -/
theorem open_picks {fuel : Nat} {spare : Nat → Bool} {v : Value} {x : DataW H × List MemPlace} (h : DataW.trod enc Try.prog w base spare held fuel 35 [v] = some x) : ∃ zs : List Int, zs.length ≤ maxLen ∧ SlAt w (fun b => b < w.heap.size) v (ints zs) := by
  rcases open_ints Try.underlying35 Try.underlying3 (by kernel_rfl) h with ⟨hcs, hx⟩ | ⟨a, len, cap, zs, hcs, _, hl, hm, hz, hx, hcell, hwz⟩
  · injection hcs with hcs _
    subst hcs
    exact ⟨[], Nat.zero_le _, SlAt.nil _ _⟩
  · injection hcs with hcs _
    subst hcs
    have hlz : len ≤ zs.length := by rw [hz]; split <;> omega
    have hlt : (zs.take len).length = len := by simp; omega
    have hli : (ints (zs.take len)).length = len := by unfold ints; rw [List.length_map]; exact hlt
    refine ⟨zs.take len, by rw [hlt]; omega, some a, cap, by rw [hli], by rw [hli]; exact hl, fun h0 => ?_⟩
    have h0' : 0 < len := by rwa [hli] at h0
    have hc0 := hcell 0 (by omega)
    have ha : a.add 0 = a := rfl
    rw [ha] at hc0
    refine ⟨a.block, a.off, by rw [← cell_plain hc0], World.block_lt_of_cell? _ _ hc0, World.block_lt_of_cell? _ _ hc0, fun j x hj => ?_⟩
    have hjl : j < len := by
      have := (List.getElem?_eq_some_iff.1 hj).1
      rwa [hli] at this
    have hcj := hcell j (by omega)
    have e := cell_plain hc0
    rw [e, add_plain] at hcj
    rw [hcj]
    have hjl2 : j < zs.length := by omega
    simp [ints, List.getElem?_take_of_lt hjl, List.getElem?_eq_getElem hjl2] at hj
    rw [← hj, List.getD_eq_getElem?_getD, List.getElem?_eq_getElem hjl2]
    rfl

/-- One operation's fields. -/
theorem open_opFields {spare : Nat → Bool} {n b o : Nat} (fs : Array Field) (hu : Try.prog.underlying 37 = some (.struct fs))
    (hf : ∀ (j : Nat) (f : Field), fs[j]? = some f → ∃ (v : Value) (y : DataW H × List MemPlace), w.cell? ⟨b, o + j, none⟩ = some v ∧ DataW.trod enc Try.prog w base spare held n f.type [v] = some y) : ∃ op, OpAt w w.heap.size b o op := by
  rw [Try.underlying37] at hu
  injection hu with hu
  injection hu with hu
  subst hu
  obtain ⟨v0, y0, c0, t0⟩ := hf 0 _ rfl
  obtain ⟨v1, y1, c1, t1⟩ := hf 1 _ rfl
  obtain ⟨v2, y2, c2, t2⟩ := hf 2 _ rfl
  obtain ⟨v3, y3, c3, t3⟩ := hf 3 _ rfl
  obtain ⟨v4, y4, c4, t4⟩ := hf 4 _ rfl
  obtain ⟨n0, e0, _, _⟩ := DataW.trod_int Try.underlying3 t0
  obtain ⟨n1, e1, _, _⟩ := DataW.trod_int Try.underlying3 t1
  obtain ⟨n2, e2, _, w2⟩ := DataW.trod_int Try.underlying5 t2
  obtain ⟨n3, e3, _, _⟩ := DataW.trod_int Try.underlying3 t3
  obtain ⟨zs, hz, hs⟩ := open_picks t4
  injection e0 with e0 _
  injection e1 with e1 _
  injection e2 with e2 _
  injection e3 with e3 _
  subst e0; subst e1; subst e2; subst e3
  have hn2 : 0 ≤ n2 ∧ n2 < 256 := by
    have w3 : (decide (IntKind.min .u8 ≤ n2) && decide (n2 ≤ IntKind.max .u8)) = true := w2
    rw [Bool.and_eq_true, decide_eq_true_iff, decide_eq_true_iff] at w3
    have e1 : IntKind.min .u8 = 0 := by decide
    have e2 : IntKind.max .u8 = 255 := by decide
    rw [e1, e2] at w3
    omega
  have hb : ((UInt8.ofNat n2.toNat).toNat : Int) = n2 := by
    rw [UInt8.toNat_ofNat']
    omega
  exact ⟨⟨n0, n1, UInt8.ofNat n2.toNat, n3, zs⟩, v4, c0, c1, by rw [hb]; exact c2, c3, c4, hs, hz⟩

/-- A slice of operations. -/
theorem open_script {v : Value} {d : DataW H} {p : List MemPlace} (hv : ∃ a n c, v = .slice a n c) (h : DataW.Trod enc Try.prog w 0 (fun _ => true) held 22 v d p) : ∃ ops : List OpT, ScrAt w w.heap.size v ops := by
  obtain ⟨a, n, c, rfl⟩ := hv
  obtain ⟨fuel, hf⟩ := h
  have hf' : DataW.trod enc Try.prog w 0 (fun _ => true) held fuel 22 [.slice a n c] = some (d, p) := hf
  rcases open_slice_fields Try.underlying22 Try.underlying37 (by kernel_rfl) (by kernel_rfl) hf' with ⟨hcs, hx⟩ | ⟨a', len, cap, m, D, Pl, hcs, _, hl, hm, hmm, _, hi⟩
  · injection hcs with hcs _
    injection hcs with e1 e2 e3
    subst e1; subst e2; subst e3
    exact ⟨[], none, 0, rfl, Nat.le_refl _, Nat.zero_le _, fun h => by simp at h⟩
  · injection hcs with hcs _
    injection hcs with e1 e2 e3
    subst e1; subst e2; subst e3
    have hlm : n ≤ m := by rw [hmm]; split <;> omega
    have hex : ∀ i, i < n → ∃ op, OpAt w w.heap.size a'.block (a'.off + i * 5) op := by
      intro i hin
      obtain ⟨ys, k, _, _, _, hfi⟩ := hi i (by omega)
      refine open_opFields (enc := enc) (base := 0) (held := held) (spare := fun _ => true) (n := k) _ Try.underlying37 (fun j f hj => ?_)
      obtain ⟨v, y, hc, _, ht⟩ := hfi j f hj
      refine ⟨v, y, ?_, ht⟩
      obtain ⟨_, _, _, _, _, hf0⟩ := hi 0 (by omega)
      obtain ⟨_, _, hc0, _⟩ := hf0 0 _ rfl
      have e := cell_plain (a := a') hc0
      rw [e, add_plain] at hc
      rw [Nat.add_assoc]
      exact hc
    have hops : ∀ k, k ≤ n → ∃ ops : List OpT, ops.length = k ∧ ∀ j op, ops[j]? = some op → OpAt w w.heap.size a'.block (a'.off + j * 5) op := by
      intro k
      induction k with
      | zero => exact fun _ => ⟨[], rfl, fun j op h => by simp at h⟩
      | succ k ih =>
        intro hk
        obtain ⟨ops, hlen, hops⟩ := ih (by omega)
        obtain ⟨op, hop⟩ := hex k (by omega)
        refine ⟨ops ++ [op], by simp [hlen], fun j o hj => ?_⟩
        rcases Nat.lt_or_ge j ops.length with hlt | hge
        · rw [List.getElem?_append_left hlt] at hj
          exact hops j o hj
        · rw [List.getElem?_append_right hge] at hj
          have : j - ops.length = 0 := by
            have := (List.getElem?_eq_some_iff.1 hj).1
            simp at this; omega
          rw [this] at hj
          simp at hj
          subst hj
          have : j = k := by omega
          rw [this]; exact hop
    obtain ⟨ops, hlen, hops⟩ := hops n (Nat.le_refl _)
    refine ⟨ops, some a', c, by rw [hlen], by omega, hm, fun h0 => ?_⟩
    obtain ⟨op, pv, hc, _⟩ := hex 0 (by omega)
    obtain ⟨_, _, _, _, _, hf0⟩ := hi 0 (by omega)
    obtain ⟨_, _, hc0, _⟩ := hf0 0 _ rfl
    have e := cell_plain (a := a') hc0
    exact ⟨a'.block, a'.off, by rw [← e], World.block_lt_of_cell? (a := ⟨a'.block, a'.off + 0 * 5, none⟩) _ hc, hops⟩
end

end Go.Proofs.Ytogljlloobjeoaa
