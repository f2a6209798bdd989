/- MemoryReadsLast, walked. -/
import Derived.Test.YtogljlloobjeoaaOne
import Derived.Test.YtogljlloobjeoaaMpB
import Derived.BigQuiet
import Derived.Carry
namespace Go.Proofs.Ytogljlloobjeoaa
open Go.RowKit
set_option linter.unusedSimpArgs false
set_option linter.unusedVariables false

/-! ### The plain law -/
/-- Every sector reads as the text that the map holds of it, or as zero bytes. -/
def RL (M : List Sec) (f : Int → Option ByteArray) : Prop := ∀ (k : Nat) s, M[k]? = some s → s.worn = false ∧ s.read = (f (k : Int)).getD zero64
theorem RL.new (n : Nat) : RL (newM n) (fun _ => none) := by
  intro k s h
  unfold newM at h
  rw [List.getElem?_replicate] at h
  split at h
  · injection h with h; rw [← h]; exact ⟨rfl, rfl⟩
  · cases h
def updF (f : Int → Option ByteArray) (i : Int) (x : ByteArray) : Int → Option ByteArray := fun j => if j = i then some x else f j
theorem RL.wr {M : List Sec} {f : Int → Option ByteArray} (h : RL M f) (i : Int) (x : ByteArray) (hE : wrE M i x = 0) : RL (wrM M i x) (updF f i x) ∧ x.size = 64 ∧ 0 ≤ i ∧ i < (M.length : Int) := by
  unfold wrE at hE
  split at hE
  · rename_i hin
    refine ⟨?_, hin.2, hin.1.1, hin.1.2⟩
    intro k s hs
    unfold wrM at hs
    rw [if_pos hin, updS_get] at hs
    obtain ⟨q, rfl⟩ : ∃ q : Nat, i = (q : Int) := ⟨i.toNat, by have := hin.1.1; omega⟩
    rw [Int.toNat_natCast] at hs
    split at hs
    · rename_i e
      subst e
      cases hM : M[q]? with
      | none => rw [hM] at hs; cases hs
      | some t =>
        rw [hM] at hs
        injection hs with hs
        have ht := (h q t hM).1
        have e : s = { t with fresh := x, dirty := true } := by rw [← hs]; unfold Sec.put; rw [if_neg (by simp [ht])]
        rw [e]
        refine ⟨ht, ?_⟩
        unfold updF
        rw [if_pos rfl]
        rfl
    · rename_i e
      unfold updF
      rw [if_neg (by omega)]
      exact h k s hs
  · cases hE
theorem RL.no {M : List Sec} {f : Int → Option ByteArray} (h : RL M f) (i : Int) (x : ByteArray) (hE : ¬ wrE M i x = 0) : RL (wrM M i x) f := by
  have e : wrM M i x = M := by
    unfold wrE at hE
    unfold wrM
    split at hE
    · exact absurd rfl hE
    · rename_i hn; rw [if_neg hn]
  rw [e]; exact h
theorem settle_all (s : Sec) (h : s.WF) (hd : s.dirty = true) : (s.settle 64).read = s.read ∧ (s.settle 64).worn = s.worn := by
  have hf := h.2.2 hd
  have e1 : s.fresh.extract 0 (64 : Int).toNat = s.fresh := by
    have : (64 : Int).toNat = s.fresh.size := by rw [hf]; rfl
    rw [this]; simp
  have e2 : s.now.extract (64 : Int).toNat s.now.size = ByteArray.empty := by
    rw [h.1]; simp
  unfold Sec.settle
  rw [if_pos (by decide)]
  refine ⟨?_, rfl⟩
  unfold Sec.read
  rw [if_pos hd, if_neg (by simp), e1, e2]
  simp
theorem RL.fl {M : List Sec} {f : Int → Option ByteArray} (h : RL M f) (hw : WFM M) : RL (flM M) f := by
  intro k s hs
  unfold flM at hs
  rw [List.getElem?_map] at hs
  cases hM : M[k]? with
  | none => rw [hM] at hs; cases hs
  | some t =>
    rw [hM] at hs
    injection hs with hs
    have ht := h k t hM
    have hs : (if t.dirty = true then Sec.settle 64 t else t) = s := hs
    split at hs
    · rename_i hd
      obtain ⟨e1, e2⟩ := settle_all t (hw t (List.mem_of_getElem? hM)) hd
      rw [← hs]
      exact ⟨e2.trans ht.1, e1.trans ht.2⟩
    · rw [← hs]; exact ht
theorem fl_clean (M : List Sec) : ∀ s ∈ flM M, s.dirty = false := by
  intro s hs
  unfold flM at hs
  obtain ⟨t, _, rfl⟩ := List.mem_map.1 hs
  split
  · unfold Sec.settle; rw [if_pos (by decide)]
  · rename_i hd; simpa using hd
theorem cut_none : ∀ (M : List Sec) (ps : List Int), (∀ s ∈ M, s.dirty = false) → cutM M ps = M
  | [], _, _ => rfl
  | s :: M, ps, h => by
    unfold cutM
    rw [if_neg (by rw [h s (by simp)]; decide), cut_none M ps (fun s hs => h s (by simp [hs]))]
theorem RL.read {M : List Sec} {f : Int → Option ByteArray} (h : RL M f) {k : Nat} (hk : k < M.length) : rdT M (k : Int) = (f (k : Int)).getD zero64 ∧ rdE M (k : Int) = 0 := by
  unfold rdT rdE
  rw [if_pos (by constructor <;> omega), if_pos (by constructor <;> omega), Int.toNat_natCast, List.getElem?_eq_getElem hk]
  exact ⟨(h k _ (List.getElem?_eq_getElem hk)).2, rfl⟩

/-! ### The player, apart from other blocks -/
def OneX (w : World) (B p pm pb : Nat) (s : St) (A : Nat → Prop) : Prop := ∃ X Z, PlAt w X Z B p pm pb (.slice none 0 0) 0 [] s ∧ ∀ b, A b → ¬ X b ∧ ¬ Z b
section
variable {w w' : World} {B p pm pb : Nat} {s : St} {A : Nat → Prop}
theorem One.x (h : One w B p pm pb s) (hA : ∀ b, A b → b < B) : OneX w B p pm pb s A := by
  obtain ⟨X, Z, h⟩ := h
  exact ⟨X, Z, h, fun b hb => ⟨fun hx => by have := (h.lt b (.inl hx)).1; have := hA b hb; omega, fun hx => by have := (h.lt b (.inr hx)).1; have := hA b hb; omega⟩⟩
theorem OneX.fr (h : OneX w B p pm pb s A) (hf : Fr [] w w') : OneX w' B p pm pb s A := by
  obtain ⟨X, Z, h, k⟩ := h
  exact ⟨X, Z, h.fr0 hf, k⟩
theorem OneX.weak (h : OneX w B p pm pb s A) {A' : Nat → Prop} (hA : ∀ b, A' b → A b ∨ w.heap.size ≤ b) : OneX w B p pm pb s A' := by
  obtain ⟨X, Z, h, k⟩ := h
  refine ⟨X, Z, h, fun b hb => ?_⟩
  rcases hA b hb with h1 | h1
  · exact k b h1
  · exact ⟨fun hx => by have := (h.lt b (.inl hx)).2; omega, fun hx => by have := (h.lt b (.inr hx)).2; omega⟩
theorem OneX.set (h : OneX w B p pm pb s A) {b : Nat} (hb : A b) (hf : Fr [b] w w') : OneX w' B p pm pb s A := by
  obtain ⟨X, Z, h, k⟩ := h
  exact ⟨X, Z, h.frP (Y := fun c => c = b) (FrP.of_fr hf (by simp)) (fun c hc => by subst hc; exact k c hb) none_own, k⟩
theorem OneX.c0 (h : OneX w B p pm pb s A) : w.cell? ⟨p, 0, none⟩ = some (.pointer (some ⟨pm, 0, none⟩)) := by obtain ⟨_, _, h, _⟩ := h; exact h.c0
theorem OneX.mem (h : OneX w B p pm pb s A) : MemAt w pm pb s.M := by obtain ⟨_, _, h, _⟩ := h; exact h.mem
theorem OneX.mlen (h : OneX w B p pm pb s A) : s.M.length ≤ 4096 := by obtain ⟨_, _, h, _⟩ := h; exact h.mlen
theorem OneX.wf (h : OneX w B p pm pb s A) : WFM s.M := by obtain ⟨_, _, h, _⟩ := h; exact h.wf
theorem OneX.lp (h : OneX w B p pm pb s A) : B ≤ pb ∧ p ≠ pb ∧ ¬ A pb ∧ pb < w.heap.size := by
  obtain ⟨_, _, h, k⟩ := h
  have h3 := h.lt pb (.inl h.xs.2.2)
  exact ⟨h3.1, h.ne.2, fun ha => (k pb ha).1 h.xs.2.2, h3.2⟩
end
theorem onePlayX (w : World) (B p pm pb : Nat) (s : St) (A : Nat → Prop) (h : OneX w B p pm pb s A) (hA : ∀ b, A b → b < w.heap.size) (hI : s.I.length ≤ 4096) (o : OpT) (pv : Value) (hpv : SlAt w (fun b => b < B) pv (ints o.pk)) (hlen : o.pk.length ≤ maxLen) (hB : B ≤ w.heap.size) :
    Calls Try.prog 22 #[.pointer (some ⟨p, 0, none⟩), .agg #[.int .i64 o.kd, .int .i64 o.i, .int .u8 o.f.toNat, .int .i64 o.sz, pv]] w fun e w' => e = .returned (.int .i64 (playE o s)) ∧ OneX w' B p pm pb (playS o s) A ∧ FrP (fun b => B ≤ b ∧ ¬ A b) w w' := by
  obtain ⟨X, Z, h, k⟩ := h
  refine (mPlay w X Z B p pm pb _ _ _ s h hI o pv hpv hlen).mono ?_
  rintro e w' ⟨rfl, X', Z', hP, hX, hZ, hF⟩
  refine ⟨rfl, ⟨X', Z', hP, fun b hb => ⟨fun hx => ?_, fun hx => ?_⟩⟩, ⟨hF.os, hF.tape, hF.output, hF.size, fun b hb hn => hF.block b hb (fun hx => hn ⟨(h.lt b (.inl hx)).1, fun ha => (k b ha).1 hx⟩)⟩⟩
  · rcases hX b hx with h1 | h1
    · exact (k b hb).1 h1
    · have := hA b hb; omega
  · rcases hZ b hx with h1 | h1
    · exact (k b hb).2 h1
    · have := hA b hb; omega
theorem MpS.frP {w w' : World} {b n : Nat} {f : Int → Option ByteArray} (h : MpS w b n f) {X : Nat → Prop} (hf : FrP X w w') (hn : ¬ X b) : MpS w' b n f := by
  have hl := h.lt
  obtain ⟨D, ⟨es, clock, hb, r⟩, hD⟩ := h
  exact ⟨D, ⟨es, clock, (hf.block b hl hn).trans hb, r⟩, hD⟩

/-- What stands in the loop. -/
def Apart (a K : Nat) (b : Nat) : Prop := b = a ∨ b = K ∨ b = K + 1 ∨ b = K + 2
structure RdI (w : World) (K n p pm pb j : Nat) (M : List Sec) (f : Int → Option ByteArray) (W : World) : Prop where
  one : OneX W (w.heap.size + 1) p pm pb ⟨M, []⟩ (Apart w.heap.size K)
  below : Below w.heap.size w W
  c0 : W.cell? ⟨w.heap.size, 0, none⟩ = some (.int .i64 n)
  c1 : W.cell? ⟨K, 0, none⟩ = some (.pointer (some ⟨p, 0, none⟩))
  c2 : W.cell? ⟨K + 2, 0, none⟩ = some (.map (some (K + 1)))
  mp : MpS W (K + 1) j f
  ml : M.length = n
  sz : K + 3 ≤ W.heap.size
  wK : w.heap.size + 1 ≤ K
theorem RdI.fr0 {w : World} {K n p pm pb j : Nat} {M : List Sec} {f : Int → Option ByteArray} {W W' : World} (h : RdI w K n p pm pb j M f W) (hf : Fr [] W W') : RdI w K n p pm pb j M f W' :=
  ⟨h.one.fr hf, h.below.trans (hf.below h.below.size (by simp)), (hf.cell (World.block_lt_of_cell? _ _ h.c0) (by simp)).trans h.c0, (hf.cell (World.block_lt_of_cell? _ _ h.c1) (by simp)).trans h.c1, (hf.cell (World.block_lt_of_cell? _ _ h.c2) (by simp)).trans h.c2, h.mp.fr hf (by simp), h.ml, Nat.le_trans h.sz hf.size, h.wK⟩
theorem RdI.count {w : World} {K n p pm pb j : Nat} {M : List Sec} {f : Int → Option ByteArray} {W : World} (h : RdI w K n p pm pb j M f W) : RdI w K n p pm pb (j + 1) M f W :=
  ⟨h.one, h.below, h.c0, h.c1, h.c2, (by obtain ⟨D, h1, h2⟩ := h.mp; exact ⟨D, h1.mono (Nat.le_succ _), h2⟩), h.ml, h.sz, h.wK⟩
/-- The player has played. -/
theorem RdI.play {w : World} {K n p pm pb j : Nat} {M M' : List Sec} {f : Int → Option ByteArray} {W W' : World} {A : Nat → Prop} (h : RdI w K n p pm pb j M f W) (hA : ∀ b, Apart w.heap.size K b → A b) (h1 : OneX W' (w.heap.size + 1) p pm pb ⟨M', []⟩ A) (hf : FrP (fun b => w.heap.size + 1 ≤ b ∧ ¬ A b) W W') (hl : M'.length = n) : RdI w K n p pm pb j M' f W' := by
  have hc : ∀ b, Apart w.heap.size K b → ¬ (w.heap.size + 1 ≤ b ∧ ¬ A b) := fun b hb h => h.2 (hA b hb)
  refine ⟨h1.weak (fun b hb => .inl (hA b hb)), h.below.trans (hf.below h.below.size (fun k hk => by omega)), (hf.cell (World.block_lt_of_cell? _ _ h.c0) (hc _ (.inl rfl))).trans h.c0, (hf.cell (World.block_lt_of_cell? _ _ h.c1) (hc _ (.inr (.inl rfl)))).trans h.c1, (hf.cell (World.block_lt_of_cell? _ _ h.c2) (hc _ (.inr (.inr (.inr rfl))))).trans h.c2, h.mp.frP hf (hc _ (.inr (.inr (.inl rfl)))), hl, Nat.le_trans h.sz hf.size, h.wK⟩
/-- The map has been written. -/
theorem RdI.map {w : World} {K n p pm pb j j' : Nat} {M : List Sec} {f f' : Int → Option ByteArray} {W W' : World} (h : RdI w K n p pm pb j M f W) (hf : Fr [K + 1] W W') (hm : MpS W' (K + 1) j' f') : RdI w K n p pm pb j' M f' W' := by
  have hw := h.wK
  exact ⟨h.one.set (.inr (.inr (.inl rfl))) hf, h.below.trans (hf.below h.below.size (by simp; omega)), (hf.cell (World.block_lt_of_cell? _ _ h.c0) (by simp; omega)).trans h.c0, (hf.cell (World.block_lt_of_cell? _ _ h.c1) (by simp)).trans h.c1, (hf.cell (World.block_lt_of_cell? _ _ h.c2) (by simp)).trans h.c2, hm, h.ml, Nat.le_trans h.sz hf.size, hw⟩
theorem text22_small (f : UInt8) (sz : Int) (h : (text22 f sz).size = 64) : (text22 f sz).size ≤ maxLen := by rw [h]; unfold maxLen; omega
/-- What stands behind the loop. -/
structure RdJ (w : World) (K n p pm pb j : Nat) (M : List Sec) (f : Int → Option ByteArray) (W : World) : Prop where
  below : Below w.heap.size w W
  c0 : W.cell? ⟨w.heap.size, 0, none⟩ = some (.int .i64 n)
  c1 : W.cell? ⟨K, 0, none⟩ = some (.pointer (some ⟨p, 0, none⟩))
  c2 : W.cell? ⟨K + 2, 0, none⟩ = some (.map (some (K + 1)))
  cp : W.cell? ⟨p, 0, none⟩ = some (.pointer (some ⟨pm, 0, none⟩))
  mem : MemAt W pm pb M
  wf : WFM M
  mp : MpS W (K + 1) j f
  rl : RL M f
  ml : M.length = n
  ne : w.heap.size < pb ∧ p ≠ pb ∧ pb ≠ K ∧ pb ≠ K + 1 ∧ pb ≠ K + 2 ∧ pb < W.heap.size
theorem RdI.J {w : World} {K n p pm pb j : Nat} {M : List Sec} {f : Int → Option ByteArray} {W : World} (h : RdI w K n p pm pb j M f W) (hr : RL M f) : RdJ w K n p pm pb j M f W := by
  obtain ⟨l1, l2, l3, l4⟩ := h.one.lp
  exact ⟨h.below, h.c0, h.c1, h.c2, h.one.c0, h.one.mem, h.one.wf, h.mp, hr, h.ml, by omega, l2, fun e => l3 (.inr (.inl e)), fun e => l3 (.inr (.inr (.inl e))), fun e => l3 (.inr (.inr (.inr e))), l4⟩
theorem RdJ.bel {w : World} {K n p pm pb j : Nat} {M : List Sec} {f : Int → Option ByteArray} {W W' : World} (h : RdJ w K n p pm pb j M f W) (hb : Below W.heap.size W W') : RdJ w K n p pm pb j M f W' := by
  have hf : Fr [] W W' := Fr.of_below hb
  exact ⟨h.below.trans (hf.below h.below.size (by simp)), (hf.cell (World.block_lt_of_cell? _ _ h.c0) (by simp)).trans h.c0, (hf.cell (World.block_lt_of_cell? _ _ h.c1) (by simp)).trans h.c1, (hf.cell (World.block_lt_of_cell? _ _ h.c2) (by simp)).trans h.c2, (hf.cell (World.block_lt_of_cell? _ _ h.cp) (by simp)).trans h.cp, h.mem.fr hf (by simp) (by simp), h.wf, h.mp.fr hf (by simp), h.rl, h.ml, by have := h.ne; have := hf.size; omega⟩
theorem RdJ.op {w : World} {K n p pm pb j : Nat} {M M' : List Sec} {f : Int → Option ByteArray} {W W' : World} (h : RdJ w K n p pm pb j M f W) (hM : MemAt W' pm pb M') (hf : Fr [pb] W W') (hw : WFM M') (hr : RL M' f) (hl : M'.length = n) : RdJ w K n p pm pb j M' f W' := by
  obtain ⟨n1, n2, n3, n4, n5, n6⟩ := h.ne
  exact ⟨h.below.trans (hf.below h.below.size (by simp; omega)), (hf.cell (World.block_lt_of_cell? _ _ h.c0) (by simp; omega)).trans h.c0, (hf.cell (World.block_lt_of_cell? _ _ h.c1) (by simp; omega)).trans h.c1, (hf.cell (World.block_lt_of_cell? _ _ h.c2) (by simp; omega)).trans h.c2, (hf.cell (World.block_lt_of_cell? _ _ h.cp) (by simpa using n2)).trans h.cp, hM, hw, h.mp.fr hf (by simp; omega), hr, hl, n1, n2, n3, n4, n5, Nat.lt_of_lt_of_le n6 hf.size⟩

/-! ### The closure -/
set_option maxRecDepth 100000 in
set_option maxHeartbeats 4000000 in
theorem lHolds (w : World) (b0 b1 b2 p pm pb bm m n : Nat) (M : List Sec) (f : Int → Option ByteArray) (hn : n ≤ 64) (hl : M.length = n) (c0 : w.cell? ⟨b0, 0, none⟩ = some (.int .i64 n)) (c1 : w.cell? ⟨b1, 0, none⟩ = some (.pointer (some ⟨p, 0, none⟩))) (c2 : w.cell? ⟨b2, 0, none⟩ = some (.map (some bm)))
    (cp : w.cell? ⟨p, 0, none⟩ = some (.pointer (some ⟨pm, 0, none⟩))) (hM : MemAt w pm pb M) (hm : MpS w bm m f) (hR : RL M f) :
    Calls Try.prog 26 #[.pointer (some ⟨b0, 0, none⟩), .pointer (some ⟨b1, 0, none⟩), .pointer (some ⟨b2, 0, none⟩)] w fun e w' => e = .returned (.bool true) ∧ Below w.heap.size w w' := by
  have hM' := Lib.hid hM
  have hm' := Lib.hid hm
  have hR' := Lib.hid hR
  have l1 := World.block_lt_of_cell? _ _ c1
  have l2 := World.block_lt_of_cell? _ _ c2
  have lp := World.block_lt_of_cell? _ _ cp
  simp only at l1 l2 lp
  have k1 := Lib.hid c1
  have k2 := Lib.hid c2
  have kp := Lib.hid cp
  have hni : (n : Int) ≤ 64 := by omega
  clear hM hm hR c1 c2 cp
  go_enter Try.func26, Try.ntmps26
  go_wp2_with fail
  go_loopw [10] (fun t wr => ∃ k : Nat, k ≤ n ∧ t = .int .i64 (k : Int) ∧ Below w.heap.size w wr) (fun t _ => n - (intOf t).toNat)
  case atStart => exact ⟨0, Nat.zero_le _, rfl, Below.refl _ _⟩
  case round =>
    obtain ⟨k, hk, rfl, hB⟩ := hrel
    by_cases hlt : k < n
    · have hlti : (k : Int) < (n : Int) := by omega
      have hkM : k < M.length := by omega
      have e1 := (hB.cell (p := ⟨b1, 0, none⟩) l1).trans k1.out
      have e2 := (hB.cell (p := ⟨b2, 0, none⟩) l2).trans k2.out
      have ep := (hB.cell (p := ⟨p, 0, none⟩) lp).trans kp.out
      have c := mRead wr pm pb _ (hM'.out.fr (S := []) (Fr.of_below hB) (by simp) (by simp)) (by omega) k
      rw [(hR'.out.read hkM).1, (hR'.out.read hkM).2] at c
      have hlk := (hm'.out.fr (S := []) (Fr.of_below hB) (by simp)).look (i := (k : Int)) (wf_i64 (by omega) (by omega)) wr rfl
      cases hf : f (k : Int) with
      | some x =>
        rw [hf] at c hlk
        simp only [Option.getD_some, Option.isSome_some] at c hlk
        have hcmp := beqT (rfl : x = x)
        clear hf
        go_wp2_with fail
        refine c.mono ?_
        clear c
        rintro e w' ⟨rfl, rfl⟩
        go_wp2_with fail
        go_roundw
        case rel => exact ⟨k + 1, by omega, by go_num, hB⟩
        case measure => simp [intOf]; omega
      | none =>
        rw [hf] at c hlk
        simp only [Option.getD_none, Option.isSome_none] at c hlk
        have hcmp := beqT (rfl : zero64 = zero64)
        clear hf
        go_wp2_with fail
        refine c.mono ?_
        clear c
        rintro e w' ⟨rfl, rfl⟩
        go_wp2_with fail
        refine (lRepZ _).mono ?_
        rintro e w2 ⟨rfl, hB2⟩
        have hB3 := hB.trans (hB2.mono hB.size)
        clear hB2 hB e1 e2 ep hlk
        go_wp2_with fail
        go_roundw
        case rel => exact ⟨k + 1, by omega, by go_num, hB3⟩
        case measure => simp [intOf]; omega
    · obtain rfl : k = n := by omega
      go_wp2_with fail
      go_ret
      exact ⟨rfl, hB⟩

/-! ### The walk -/
set_option maxRecDepth 100000 in
set_option maxHeartbeats 40000000 in
theorem reads_bad (w : World) (n : Int) (v1 pv : Value) (ops : List OpT) (hs : ScrAt w w.heap.size v1 ops) (ps : List Int) (hps : SlAt w (fun b => b < w.heap.size) pv (ints ps)) (h : n < 1 ∨ 64 < n) :
    Calls Try.prog 4 #[.int .i64 n, v1, pv] w fun e w' => e = .returned (.bool true) ∧ Below w.heap.size w w' := by
  obtain ⟨a, cap, rfl, hcap, hmx, hx⟩ := hs
  clear hx
  obtain ⟨oa, oc, rfl⟩ := hps.form
  clear hps
  have hb := fun W => lPlayers_bad W n h
  clear h
  go_enter Try.func4, Try.ntmps4
  go_wp2_with fail
  generalize hW0 : w.alloc (.cells #[.int .i64 n] 3) = W0
  have hB0 : Below w.heap.size w W0 := by rw [← hW0]; exact (Below.refl _ _).alloc (Nat.le_refl _) _
  have hz0 : W0.heap.size = w.heap.size + 1 := by rw [← hW0]; simp
  have q0 : W0.cell? ⟨w.heap.size, 0, none⟩ = some (.int .i64 n) := by rw [← hW0]; simp
  clear hW0
  refine (hb _).mono ?_
  rintro e w1 ⟨rfl, hB1⟩
  have hB2 := hB0.trans (hB1.mono hB0.size)
  clear hB0 hB1 hb q0
  go_wp2_with fail
  generalize hWa : w1.alloc _ = wa
  have hBa := hB2.trans (((Fr.refl [] w1).alloc _ |> fun h => (by rw [hWa] at h; exact h : Fr [] w1 wa)).below hB2.size (by simp))
  clear hWa
  refine (lSanity _).mono ?_
  rintro e w2 ⟨rfl, hB3⟩
  have hB4 := hBa.trans (hB3.mono hBa.size)
  clear hBa hB3 hB2
  go_wp2
  go_ret
  exact ⟨rfl, hB4⟩

set_option maxRecDepth 100000 in
set_option maxHeartbeats 40000000 in
theorem reads_long (w : World) (n : Nat) (v1 pv : Value) (ops : List OpT) (hs : ScrAt w w.heap.size v1 ops) (ps : List Int) (hps : SlAt w (fun b => b < w.heap.size) pv (ints ps)) (h1 : 1 ≤ n) (h2 : n ≤ 64) (h : 60 < ops.length) :
    Calls Try.prog 4 #[.int .i64 n, v1, pv] w fun e w' => e = .returned (.bool true) ∧ Below w.heap.size w w' := by
  obtain ⟨a, cap, rfl, hcap, hmx, hx⟩ := hs
  clear hx
  obtain ⟨oa, oc, rfl⟩ := hps.form
  clear hps
  have hb := fun W => onePlayers W n h1 h2
  have hl' : (60 : Int) < (ops.length : Int) := by omega
  have hm1 : (ops.length : Int) ≤ 9223372036854775807 := by unfold maxLen at hmx; omega
  clear h
  go_enter Try.func4, Try.ntmps4
  go_wp2_with fail
  generalize hW0 : w.alloc (.cells #[.int .i64 n] 3) = W0
  have hB0 : Below w.heap.size w W0 := by rw [← hW0]; exact (Below.refl _ _).alloc (Nat.le_refl _) _
  have hz0 : W0.heap.size = w.heap.size + 1 := by rw [← hW0]; simp
  have q0 : W0.cell? ⟨w.heap.size, 0, none⟩ = some (.int .i64 n) := by rw [← hW0]; simp
  clear hW0
  refine (hb _).mono ?_
  rintro e w1 ⟨p, pm, pb, q, rfl, hP, hB1⟩
  have hB2 := hB0.trans (hB1.mono hB0.size)
  clear hB0 hB1 hb q0 hP
  go_wp2_with fail
  generalize hWa : w1.alloc _ = wa
  have hBa := hB2.trans (((Fr.refl [] w1).alloc _ |> fun h => (by rw [hWa] at h; exact h : Fr [] w1 wa)).below hB2.size (by simp))
  clear hWa
  refine (lSanity _).mono ?_
  rintro e w2 ⟨rfl, hB3⟩
  have hB4 := hBa.trans (hB3.mono hBa.size)
  clear hBa hB3 hB2
  go_wp2
  go_ret
  exact ⟨rfl, hB4⟩

set_option maxRecDepth 100000 in
set_option maxHeartbeats 40000000 in
theorem reads_ok (w : World) (n : Nat) (v1 pv : Value) (ops : List OpT) (hs : ScrAt w w.heap.size v1 ops) (ps : List Int) (hpl' : ps.length ≤ maxLen) (hps : SlAt w (fun b => b < w.heap.size) pv (ints ps)) (h1 : 1 ≤ n) (h2 : n ≤ 64) (hl : ops.length ≤ 60) :
    Calls Try.prog 4 #[.int .i64 n, v1, pv] w fun e w' => e = .returned (.bool true) ∧ Below w.heap.size w w' := by
  have hs' := Lib.hid hs
  have hps' := Lib.hid hps
  obtain ⟨a, cap, rfl, hcap, hmx, hx⟩ := hs
  clear hx
  obtain ⟨oa, oc, rfl⟩ := hps.form
  clear hps
  have hl' : (ops.length : Int) ≤ 60 := by omega
  have hn' : (n : Int) ≤ 64 := by omega
  have hn1 : (1 : Int) ≤ n := by omega
  have hmm := @run_makeMap Try.prog
  go_enter Try.func4, Try.ntmps4
  go_wp2_with fail
  generalize hW0 : w.alloc (.cells #[.int .i64 n] 3) = W0
  have hB0 : Below w.heap.size w W0 := by rw [← hW0]; exact (Below.refl _ _).alloc (Nat.le_refl _) _
  have hz0 : W0.heap.size = w.heap.size + 1 := by rw [← hW0]; simp
  have q0 : W0.cell? ⟨w.heap.size, 0, none⟩ = some (.int .i64 n) := by rw [← hW0]; simp
  clear hW0
  refine (onePlayers _ n h1 h2).mono ?_
  rintro e w1 ⟨p, pm, pb, q, rfl, hP1, hB1⟩
  have hB2 := Lib.hid (hB0.trans (hB1.mono hB0.size))
  have q1 := (hB1.cell (p := ⟨w.heap.size, 0, none⟩) (by show w.heap.size < W0.heap.size; omega)).trans q0
  have hz1 : w.heap.size + 1 ≤ w1.heap.size := by have := hB1.size; omega
  have hP1' := Lib.hid hP1
  rw [hz0] at hP1'
  clear hB0 hB1 q0 hP1
  go_wp2_with fail
  generalize hWa : ((w1.alloc (.cells #[.pointer (some ⟨p, 0, none⟩)] 28)).alloc (.map #[] 0)).alloc (.cells #[.map (some (w1.heap.size + 1))] 46) = w3
  have hF3 : Fr [] w1 w3 := by rw [← hWa]; exact (((Fr.refl _ _).alloc _).alloc _).alloc _
  obtain ⟨K, hK⟩ : ∃ K, w1.heap.size = K := ⟨_, rfl⟩
  have hI3 : Hid (RdI w K n p pm pb 0 (newM n) (fun _ => none) w3) := by
    refine ⟨?_, hB2.out.trans (hF3.below hB2.out.size (by simp)), (hF3.cell (World.block_lt_of_cell? _ _ q1) (by simp)).trans q1, ?_, ?_, ?_, by simp [newM], ?_, by omega⟩
    · refine (((hP1'.out.x (A := fun b => b = w.heap.size) (fun b hb => by omega)).weak (A' := Apart w.heap.size K) (fun b hb => ?_))).fr hF3
      rcases hb with hb | hb | hb | hb
      · exact .inl hb
      all_goals exact .inr (by omega)
    · rw [← hWa, ← hK]
      have e : ((w1.alloc (.cells #[.pointer (some ⟨p, 0, none⟩)] 28))).cell? ⟨w1.heap.size, 0, none⟩ = some (.pointer (some ⟨p, 0, none⟩)) := by simp
      have hf : Fr [] (w1.alloc (.cells #[.pointer (some ⟨p, 0, none⟩)] 28)) (((w1.alloc (.cells #[.pointer (some ⟨p, 0, none⟩)] 28)).alloc (.map #[] 0)).alloc (.cells #[.map (some (w1.heap.size + 1))] 46)) := ((Fr.refl _ _).alloc _).alloc _
      exact (hf.cell (World.block_lt_of_cell? _ _ e) (by simp)).trans e
    · rw [← hWa, ← hK]
      have e := cell_one ((w1.alloc (.cells #[.pointer (some ⟨p, 0, none⟩)] 28)).alloc (.map #[] 0)) (.map (some (w1.heap.size + 1))) 46 0 _ rfl
      simpa [Addr.add] using e
    · rw [← hWa, ← hK]
      have e := MpS.new (w1.alloc (.cells #[.pointer (some ⟨p, 0, none⟩)] 28))
      rw [World.size_alloc] at e
      exact e.fr (S := []) ((Fr.refl _ _).alloc _) (by simp)
    · rw [← hWa, ← hK]; simp
  rw [hK]
  clear hWa hF3 hP1' hB2 q1 hK hmm hz1
  go_loopw [12, 31] (fun bx t wr => ∃ (j : Nat) (M : List Sec) (f : Int → Option ByteArray), j ≤ ops.length ∧ t = .int .i64 (j : Int) ∧ Hid (RdI w K n p pm pb j M f wr) ∧ Hid (RL M f)) (fun _ t _ => ops.length - (intOf t).toNat)
  case atStart => exact ⟨0, newM n, fun _ => none, Nat.zero_le _, rfl, hI3, RL.new n⟩
  case round =>
    obtain ⟨j, M, f, hj, rfl, hI, hRL⟩ := hrel
    clear hI3
    by_cases hlt : j < ops.length
    · have hlti : (j : Int) < (ops.length : Int) := by omega
      obtain ⟨o, ho⟩ : ∃ o, ops[j]? = some o := ⟨ops[j], List.getElem?_eq_getElem hlt⟩
      have hsx := hs'.out.below (Nat.le_refl _) hI.out.below
      obtain ⟨a', cap', e, -, -, hx⟩ := hsx
      injection e with e1 _ e3
      subst e1; subst e3
      obtain ⟨b, off, rfl, hbB, hop⟩ := hx (by omega)
      obtain ⟨pv, d0, d1, d2, d3, d4, hpv, hpl⟩ := hop j o ho
      have hbl : b < wr.heap.size := by have := hI.out.below.size; omega
      obtain ⟨pa, pn, pc, rfl⟩ : ∃ a n c, pv = .slice a n c := by obtain ⟨a, c, h, _⟩ := hpv; exact ⟨_, _, _, h⟩
      clear hx hop ho
      generalize hWb : wr.alloc (.cells #[.int .i64 o.kd, .int .i64 o.i, .int .u8 o.f.toNat, .int .i64 o.sz, .slice pa pn pc] 37) = wb
      have hFb : Fr [] wr wb := by rw [← hWb]; exact (Fr.refl _ _).alloc _
      obtain ⟨x, hx⟩ : ∃ x, wr.heap.size = x := ⟨_, rfl⟩
      have e0 : Hid (wb.cell? ⟨x, 0, none⟩ = some (.int .i64 o.kd)) := by rw [← hWb, ← hx]; unfold Hid; simp
      have e1 : Hid (wb.cell? ⟨x, 1, none⟩ = some (.int .i64 o.i)) := by rw [← hWb, ← hx]; unfold Hid; simp
      have e2 : Hid (wb.cell? ⟨x, 2, none⟩ = some (.int .u8 o.f.toNat)) := by rw [← hWb, ← hx]; unfold Hid; simp
      have e3 : Hid (wb.cell? ⟨x, 3, none⟩ = some (.int .i64 o.sz)) := by rw [← hWb, ← hx]; unfold Hid; simp
      have e4 : Hid (wb.cell? ⟨x, 4, none⟩ = some (.slice pa pn pc)) := by rw [← hWb, ← hx]; unfold Hid; simp
      have hIb := Lib.hid (hI.out.fr0 hFb)
      have hob : Hid (OneX wb (w.heap.size + 1) p pm pb ⟨M, []⟩ (fun b => Apart w.heap.size K b ∨ b = x)) := (hI.out.one.weak (fun b hb => by rcases hb with hb | hb; exact .inl hb; exact .inr (by omega))).fr hFb
      have hxl : x < wb.heap.size := World.block_lt_of_cell? _ _ e0.out
      have hpb := Lib.hid ((hpv.fr hFb (by simp)).imp (ok' := fun b => b < w.heap.size + 1) (fun b hb => by omega))
      have hcl := Lib.hid (onePlayX wb (w.heap.size + 1) p pm pb ⟨M, []⟩ _ hob.out (fun b hb => by have := hIb.out.sz; have := hIb.out.below.size; have := hIb.out.wK; rcases hb with (rfl | rfl | rfl | rfl) | rfl <;> omega) (Nat.zero_le _) o _ hpb.out hpl (by have := hIb.out.sz; have := hIb.out.wK; omega))
      have cb1 := hIb.out.c1
      have v0 := e0.out
      have v1 := e1.out
      have v2 := e2.out
      have v3 := e3.out
      have v4 := e4.out
      clear hpv hFb hob hpb hpl
      by_cases hk1 : o.kd = 1
      · have hS : playS o ⟨M, []⟩ = ⟨wrM M o.i (text22 o.f o.sz), []⟩ := by unfold playS; rw [if_pos hk1]
        have hE : playE o ⟨M, []⟩ = wrE M o.i (text22 o.f o.sz) := by unfold playE; rw [if_pos hk1]
        rw [hS, hE, hk1] at hcl
        rw [hk1] at d0 e0 v0 hWb
        clear hS hE hk1
        by_cases hE : wrE M o.i (text22 o.f o.sz) = 0
        · obtain ⟨hrl, hx64, hi0, hi1⟩ := hRL.out.wr o.i (text22 o.f o.sz) hE
          rw [hE] at hcl
          have hrl' := Lib.hid hrl
          have hiw := wf_i64 (i := o.i) (by omega) (by have := hI.out.ml; omega)
          have hxs := text22_small o.f o.sz hx64
          clear hE hi0 hi1 hrl hx64
          go_wp2_with fail
          refine hcl.out.mono ?_
          rintro e w2 ⟨rfl, hP2, hF2⟩
          have hA : ∀ b, Apart w.heap.size K b ∨ b = x → ¬ (w.heap.size + 1 ≤ b ∧ ¬ (Apart w.heap.size K b ∨ b = x)) := fun b hb h => h.2 hb
          have m1 := (hF2.cell (World.block_lt_of_cell? _ _ e1.out) (hA _ (.inr rfl))).trans e1.out
          have m0 := (hF2.cell (World.block_lt_of_cell? _ _ e0.out) (hA _ (.inr rfl))).trans e0.out
          have m2 := (hF2.cell (World.block_lt_of_cell? _ _ e2.out) (hA _ (.inr rfl))).trans e2.out
          have m3 := (hF2.cell (World.block_lt_of_cell? _ _ e3.out) (hA _ (.inr rfl))).trans e3.out
          have m4 := (hF2.cell (World.block_lt_of_cell? _ _ e4.out) (hA _ (.inr rfl))).trans e4.out
          have mc := (hF2.cell (World.block_lt_of_cell? _ _ hIb.out.c2) (hA _ (.inl (.inr (.inr (.inr rfl)))))).trans hIb.out.c2
          have hm2 := Lib.hid (hIb.out.mp.frP hF2 (hA _ (.inl (.inr (.inr (.inl rfl))))))
          have hP2' := Lib.hid hP2
          have hF2' := Lib.hid hF2
          clear hWb hx hcl hA hP2 hF2 d0 d1 d2 d3 d4 e0 e1 e2 e3 e4 cb1 v0 v1 v2 v3 v4 hbl hxl
          have mc' : w2.cell? ⟨K + 1 + 1, 0, none⟩ = some (.map (some (K + 1))) := mc
          have hm2l := hm2.out.lt
          clear mc
          go_wp2_with fail
          go_region_law (first
            | (refine step_call _ (by rfl) 25 _ _ (by rfl) [.agg #[.int .i64 1, .int .i64 o.i, .int .u8 o.f.toNat, .int .i64 o.sz, .slice pa pn pc]] (by rfl) (enters_of Try.func25 (by kernel_rfl) rfl) ?_
               refine (rText _ 1 o.i o.sz o.f _).mono ?_
               rintro e wt ⟨rfl, hBt⟩
               refine ⟨.string (text22 o.f o.sz), rfl, ?_⟩
               have hFt : Fr [] w2 wt := (Fr.refl _ _).drew.trans (Fr.of_below hBt)
               have n0 := (hFt.cell (World.block_lt_of_cell? _ _ m0) List.not_mem_nil).trans m0
               have n1 := (hFt.cell (World.block_lt_of_cell? _ _ m1) List.not_mem_nil).trans m1
               have n2 := (hFt.cell (World.block_lt_of_cell? _ _ m2) List.not_mem_nil).trans m2
               have n3 := (hFt.cell (World.block_lt_of_cell? _ _ m3) List.not_mem_nil).trans m3
               have n4 := (hFt.cell (World.block_lt_of_cell? _ _ m4) List.not_mem_nil).trans m4
               have nc := (hFt.cell (World.block_lt_of_cell? _ _ mc') List.not_mem_nil).trans mc'
               obtain ⟨wu, hmu, hmU, hgU⟩ := MpS.store (hm2.out.fr hFt List.not_mem_nil) (by unfold maxLen; omega) hiw (text22 o.f o.sz) hxs
               have hmU' := Lib.hid hmU
               have hgU' := Lib.hid hgU
               have hFt' := Lib.hid hFt
               clear hFt hBt hmU hgU))
          all_goals
            have hI2 := hIb.out.play (fun b hb => .inl hb) hP2'.out hF2'.out (by rw [wrM_length]; exact hIb.out.ml)
            have hFu : Fr [K + 1] wt wu := (Fr.refl _ _).grown hgU'.out (fun k hk => by injection hk with hk; exact .inl (by simp [hk]))
            have hI4 := Lib.hid ((hI2.fr0 hFt'.out).map hFu hmU'.out)
            clear hI2 hFu m0 m1 m2 m3 m4 mc' n0 n1 n2 n3 n4 nc hmu
            go_wp2_with fail
            go_roundw
            case rel => exact ⟨j + 1, _, _, by omega, by go_num, hI4, hrl'⟩
            case measure => simp [intOf]; omega
        · have hrl := Lib.hid (hRL.out.no o.i (text22 o.f o.sz) hE)
          have hEf : (wrE M o.i (text22 o.f o.sz) == 0) = false := by simpa using hE
          clear hE
          generalize wrE M o.i (text22 o.f o.sz) = E at *
          go_wp2_with fail
          refine hcl.out.mono ?_
          rintro e w2 ⟨rfl, hP2, hF2⟩
          have hI2 := Lib.hid (hIb.out.play (fun b hb => .inl hb) hP2 hF2 (by rw [wrM_length]; exact hIb.out.ml)).count
          clear hWb hx hcl hP2 hF2 d0 d1 d2 d3 d4 e0 e1 e2 e3 e4 cb1 v0 v1 v2 v3 v4 hbl hxl
          go_wp2_with fail
          go_roundw
          case rel => exact ⟨j + 1, _, _, by omega, by go_num, hI2, hrl⟩
          case measure => simp [intOf]; omega
      by_cases hk2 : o.kd = 2
      · have hS : playS o ⟨M, []⟩ = ⟨flM M, []⟩ := by unfold playS; rw [if_neg hk1, if_pos hk2]
        have hE : playE o ⟨M, []⟩ = 0 := by unfold playE; rw [if_neg hk1, if_neg (by omega), if_neg (by omega), if_neg (by omega)]
        have hrl := Lib.hid (hRL.out.fl hI.out.one.wf)
        rw [hS, hE, hk2] at hcl
        rw [hk2] at d0 e0 v0 hWb
        clear hS hE hk1 hk2
        go_wp2_with fail
        refine hcl.out.mono ?_
        rintro e w2 ⟨rfl, hP2, hF2⟩
        have hI2 := Lib.hid (hIb.out.play (fun b hb => .inl hb) hP2 hF2 (by rw [flM_length]; exact hIb.out.ml)).count
        clear hWb hx hcl hP2 hF2 d0 d1 d2 d3 d4 e0 e1 e2 e3 e4 cb1 v0 v1 v2 v3 v4 hbl hxl
        go_wp2_with fail
        go_roundw
        case rel => exact ⟨j + 1, _, _, by omega, by go_num, hI2, hrl⟩
        case measure => simp [intOf]; omega
      have m1 : (o.kd == 1) = false := by simpa using hk1
      have m2 : (o.kd == 2) = false := by simpa using hk2
      have hI2 := Lib.hid hIb.out.count
      clear hcl hk1 hk2 hI
      go_wp2_with fail
      go_roundw
      case rel => exact ⟨j + 1, M, f, by omega, by go_num, hI2, hRL⟩
      case measure => simp [intOf]; omega
    · obtain rfl : j = ops.length := by omega
      have hJ := Lib.hid (hI.out.J hRL.out)
      obtain ⟨wo, rfl⟩ : ∃ wo : World, wo = wr := ⟨_, rfl⟩
      clear hI hRL
      go_wp2_with fail
      refine (lHolds _ w.heap.size K (K + 2) p pm pb (K + 1) _ n M f h2 hJ.out.ml hJ.out.c0 hJ.out.c1 hJ.out.c2 hJ.out.cp hJ.out.mem hJ.out.mp hJ.out.rl).mono ?_
      rintro e w4 ⟨rfl, hB4⟩
      have hJ4 := Lib.hid (hJ.out.bel hB4)
      have c1 := hJ4.out.c1
      have cp := hJ4.out.cp
      clear hJ hB4
      go_wp2_with fail
      refine (mFlush _ pm pb _ hJ4.out.mem (by have := hJ4.out.ml; omega) hJ4.out.wf).mono ?_
      rintro e w5 ⟨rfl, hM5, hF5⟩
      have hJ5 := Lib.hid (hJ4.out.op hM5 hF5 (flM_WF hJ4.out.wf) (hJ4.out.rl.fl hJ4.out.wf) (by rw [flM_length]; exact hJ4.out.ml))
      have c1' := hJ5.out.c1
      have cp' := hJ5.out.cp
      clear hM5 hF5 hJ4 c1 cp
      go_wp2_with fail
      refine (mCut _ pm pb _ hJ5.out.mem (by have := hJ5.out.ml; omega) hJ5.out.wf _ ps (fun b => b < w.heap.size) (hps'.out.below hJ5.out.below) hpl' (fun b hb => ⟨by have := hJ5.out.ne; omega, by have := hJ5.out.below.size; omega⟩)).mono ?_
      rintro e w6 ⟨rfl, hM6, hF6⟩
      have hcn : cutM (flM M) ps = flM M := cut_none _ _ (fl_clean M)
      have hJ6 := Lib.hid (hJ5.out.op hM6 hF6 (by rw [hcn]; exact hJ5.out.wf) (by rw [hcn]; exact hJ5.out.rl) (by rw [hcn]; exact hJ5.out.ml))
      clear hM6 hF6 hJ5 c1' cp' hcn
      go_wp2_with fail
      refine (lSanity _).mono ?_
      rintro e w7 ⟨rfl, hB7⟩
      have hJ7 := Lib.hid (hJ6.out.bel hB7)
      clear hB7 hJ6
      go_wp2_with fail
      refine (lHolds _ w.heap.size K (K + 2) p pm pb (K + 1) _ n _ f h2 hJ7.out.ml hJ7.out.c0 hJ7.out.c1 hJ7.out.c2 hJ7.out.cp hJ7.out.mem hJ7.out.mp hJ7.out.rl).mono ?_
      rintro e w8 ⟨rfl, hB8⟩
      have hJ8 := Lib.hid (hJ7.out.bel hB8)
      clear hB8 hJ7
      go_wp2_with fail
      go_ret
      exact ⟨rfl, hJ8.out.below⟩

theorem lReads (w : World) (n : Int) (v1 : Value) (ops : List OpT) (hs : ScrAt w w.heap.size v1 ops) (pv : Value) (ps : List Int) (hl : ps.length ≤ maxLen) (hps : SlAt w (fun b => b < w.heap.size) pv (ints ps)) :
    Calls Try.prog 4 #[.int .i64 n, v1, pv] w fun e w' => e = .returned (.bool true) ∧ Below w.heap.size w w' := by
  by_cases hbad : n < 1 ∨ 64 < n
  · exact reads_bad w n v1 pv ops hs ps hps hbad
  · obtain ⟨k, rfl⟩ : ∃ k : Nat, n = (k : Int) := ⟨n.toNat, by omega⟩
    by_cases hlong : 60 < ops.length
    · exact reads_long w k v1 pv ops hs ps hps (by omega) (by omega) hlong
    · exact reads_ok w k v1 pv ops hs ps hl hps (by omega) (by omega) (by omega)

end Go.Proofs.Ytogljlloobjeoaa
