/- MemoryTears, walked. -/
import Derived.Test.YtogljlloobjeoaaOne
import Derived.Test.YtogljlloobjeoaaMpB
import Derived.Test.YtogljlloobjeoaaTear
import Derived.BigQuiet
import Derived.Carry
namespace Go.Proofs.Ytogljlloobjeoaa
open Go.RowKit
set_option linter.unusedSimpArgs false
set_option linter.unusedVariables false

/-! ### The plain law -/
theorem idxFrom_mem (f : Sec → Bool) : ∀ (M : List Sec) (k j : Nat), j ∈ idxFrom f k M ↔ ∃ i s, j = k + i ∧ M[i]? = some s ∧ f s = true := by
  intro M
  induction M with
  | nil => intro k j; simp [idxFrom]
  | cons a M ih =>
    intro k j
    unfold idxFrom
    constructor
    · intro h
      split at h
      · rename_i ha
        rcases List.mem_cons.1 h with rfl | h
        · exact ⟨0, a, rfl, rfl, ha⟩
        · obtain ⟨i, s, e, h1, h2⟩ := (ih _ _).1 h
          exact ⟨i + 1, s, by omega, by simpa using h1, h2⟩
      · obtain ⟨i, s, e, h1, h2⟩ := (ih _ _).1 h
        exact ⟨i + 1, s, by omega, by simpa using h1, h2⟩
    · rintro ⟨i, s, e, h1, h2⟩
      cases i with
      | zero =>
        simp only [List.getElem?_cons_zero, Option.some.injEq] at h1
        subst h1
        rw [if_pos h2]
        exact List.mem_cons.2 (.inl (by omega))
      | succ i =>
        have hm : j ∈ idxFrom f (k + 1) M := (ih _ _).2 ⟨i, s, by omega, by simpa using h1, h2⟩
        split
        · exact List.mem_cons_of_mem _ hm
        · exact hm
def inB (L : List Nat) (i : Int) : Bool := L.any fun j => decide ((j : Int) = i)
theorem inB_succ (L : List Nat) (j : Nat) (h : j < L.length) : inB (L.take (j + 1)) = fun i => if i = (L[j] : Int) then true else inB (L.take j) i := by
  funext i
  unfold inB
  rw [List.take_succ_eq_append_getElem h, List.any_append]
  simp only [List.any_cons, List.any_nil, Bool.or_false]
  by_cases e : i = (L[j] : Int)
  · rw [if_pos e, decide_eq_true e.symm, Bool.or_true]
  · rw [if_neg e, decide_eq_false (fun h => e h.symm), Bool.or_false]
theorem inB_dirty {M : List Sec} {i : Nat} {s : Sec} (h : M[i]? = some s) : inB (idxs Sec.dirty M) (i : Int) = s.dirty := by
  unfold inB idxs
  cases hd : s.dirty
  · rw [List.any_eq_false]
    intro j hj
    obtain ⟨k, t, e, h1, h2⟩ := (idxFrom_mem Sec.dirty M 0 j).1 hj
    simp only [decide_eq_true_eq]
    intro e2
    have : k = i := by omega
    subst this
    rw [h] at h1
    injection h1 with h1
    subst h1
    rw [hd] at h2
    cases h2
  · rw [List.any_eq_true]
    exact ⟨i, (idxFrom_mem Sec.dirty M 0 i).2 ⟨i, s, by omega, h, hd⟩, by simp⟩
theorem settle_clean (s : Sec) (p : Int) : (s.settle p).dirty = false := by unfold Sec.settle; split <;> rfl
theorem cut_clean : ∀ (M : List Sec) (ps : List Int), ∀ s ∈ cutM M ps, s.dirty = false
  | [], _ => by intro s hs; cases hs
  | t :: M, ps => by
    unfold cutM
    split
    · intro s hs
      rcases List.mem_cons.1 hs with rfl | hs
      · exact settle_clean _ _
      · exact cut_clean M _ s hs
    · rename_i hd
      intro s hs
      rcases List.mem_cons.1 hs with rfl | hs
      · simpa using hd
      · exact cut_clean M _ s hs
theorem cut_idxs (M : List Sec) (ps : List Int) : idxs Sec.dirty (cutM M ps) = [] := by
  cases h : idxs Sec.dirty (cutM M ps) with
  | nil => rfl
  | cons j l =>
    have hj : j ∈ idxs Sec.dirty (cutM M ps) := by rw [h]; simp
    obtain ⟨i, s, _, h1, h2⟩ := (idxFrom_mem Sec.dirty _ 0 j).1 hj
    rw [cut_clean M ps s (List.mem_of_getElem? h1)] at h2
    cases h2
theorem cut_at (M : List Sec) (zs : List Int) (i : Nat) (h : i < M.length) : ∃ s p, M[i]? = some s ∧ (cutM M zs)[i]? = some (s.torn p) ∧ 0 ≤ p ∧ p ≤ 64 :=
  ⟨M[i], pickAt M zs i, List.getElem?_eq_getElem h, by rw [cutM_get, List.getElem?_eq_getElem h]; rfl, clampP_nonneg _, clampP_le _⟩
theorem torn_len {s : Sec} (hw : s.WF) (p : Int) (h1 : p ≤ 64) : (s.torn p).now.size = 64 := by
  unfold Sec.torn
  split
  · rename_i hd; exact (settle_WF hw hd p h1).1
  · exact hw.1
theorem read_len {s : Sec} (hw : s.WF) : s.read.size = 64 := by
  unfold Sec.read
  split
  · rename_i hd; exact hw.2.2 hd
  · exact hw.1
def freshL (M : List Sec) : List ByteArray := M.map Sec.read
theorem fresh_rd {M : List Sec} {j : Nat} (h : j < M.length) : rdT M (j : Int) = (freshL M)[j]'(by simpa [freshL] using h) ∧ rdE M (j : Int) = 0 := by
  unfold rdT rdE
  rw [if_pos (by constructor <;> omega), if_pos (by constructor <;> omega), Int.toNat_natCast, List.getElem?_eq_getElem h]
  simp [freshL]
theorem strs_snoc (F : List ByteArray) (k : Nat) (h : k < F.length) : strs (F.take (k + 1)) = strs (F.take k) ++ [.string F[k]] := by
  unfold strs
  rw [List.take_succ_eq_append_getElem h, List.map_append]; rfl

theorem SlAt.here {w : World} {ok : Nat → Prop} {v : Value} {xs : List Value} (h : SlAt w ok v xs) : SlAt w (fun b => ok b ∧ b < w.heap.size) v xs := by
  obtain ⟨a, c, e1, e2, e3⟩ := h
  exact ⟨a, c, e1, e2, fun h0 => by obtain ⟨b, o, f1, f2, f3, f4⟩ := e3 h0; exact ⟨b, o, f1, ⟨f2, f3⟩, f3, f4⟩⟩
theorem torn_same {s : Sec} (h : s.dirty = false) (p : Int) : (s.torn p).now = s.now ∧ s.read = s.now := by
  unfold Sec.torn Sec.read
  rw [if_neg (by simp [h]), if_neg (by simp [h])]
  exact ⟨rfl, rfl⟩

/-! ### What stands behind the script -/
structure MemI (w : World) (p pm pb : Nat) (M : List Sec) (W : World) : Prop where
  c0 : W.cell? ⟨p, 0, none⟩ = some (.pointer (some ⟨pm, 0, none⟩))
  mem : MemAt W pm pb M
  below : Below w.heap.size w W
  lp : w.heap.size ≤ pb ∧ p ≠ pb
  wf : WFM M
  ml : M.length ≤ 4096
theorem MemI.fr {w : World} {p pm pb : Nat} {M : List Sec} {W W' : World} (h : MemI w p pm pb M W) {S : List Nat} (hf : Fr S W W') (h0 : p ∉ S) (h1 : pm ∉ S) (h2 : pb ∉ S) (ho : ∀ k ∈ S, w.heap.size ≤ k) : MemI w p pm pb M W' :=
  ⟨(hf.cell (World.block_lt_of_cell? _ _ h.c0) h0).trans h.c0, h.mem.fr hf h1 h2, h.below.trans (hf.below h.below.size ho), h.lp, h.wf, h.ml⟩
theorem MemI.fr0 {w : World} {p pm pb : Nat} {M : List Sec} {W W' : World} (h : MemI w p pm pb M W) (hf : Fr [] W W') : MemI w p pm pb M W' := h.fr hf (by simp) (by simp) (by simp) (by simp)
theorem MemI.bel {w : World} {p pm pb : Nat} {M : List Sec} {W W' : World} (h : MemI w p pm pb M W) (hf : Below W.heap.size W W') : MemI w p pm pb M W' := h.fr0 (Fr.of_below hf)
theorem MemI.op {w : World} {p pm pb : Nat} {M M' : List Sec} {W W' : World} (h : MemI w p pm pb M W) (hM : MemAt W' pm pb M') (hf : Fr [pb] W W') (hw : WFM M') (hl : M'.length ≤ 4096) : MemI w p pm pb M' W' :=
  ⟨(hf.cell (World.block_lt_of_cell? _ _ h.c0) (by simpa using h.lp.2)).trans h.c0, hM, h.below.trans (hf.below h.below.size (by simpa using h.lp.1)), h.lp, hw, hl⟩
theorem MemI.lt {w : World} {p pm pb : Nat} {M : List Sec} {W : World} (h : MemI w p pm pb M W) : p < W.heap.size ∧ pm < W.heap.size ∧ pb < W.heap.size := ⟨World.block_lt_of_cell? _ _ h.c0, h.mem.lt, h.mem.arr.lt⟩
theorem One.memI {w W : World} {p pm pb : Nat} {s : St} (h : One W w.heap.size p pm pb s) (hB : Below w.heap.size w W) : MemI w p pm pb s.M W :=
  ⟨h.c0, h.mem, hB, ⟨h.lp.2.2.1, h.lp.2.2.2.2.2.2.2⟩, h.wf, h.mlen⟩

/-! ### The walk -/
set_option maxRecDepth 100000 in
set_option maxHeartbeats 40000000 in
theorem tears_bad (w : World) (n : Int) (v1 pv : Value) (ops : List OpT) (hs : ScrAt w w.heap.size v1 ops) (ps : List Int) (hps : SlAt w (fun b => b < w.heap.size) pv (ints ps)) (h : n < 1 ∨ 64 < n) :
    Calls Try.prog 5 #[.int .i64 n, v1, pv] w fun e w' => e = .returned (.bool true) ∧ Below w.heap.size w w' := by
  obtain ⟨a, cap, rfl, hcap, hmx, hx⟩ := hs
  clear hx
  obtain ⟨oa, oc, rfl⟩ := hps.form
  clear hps
  have hb := lPlayers_bad w n h
  clear h
  go_enter Try.func5, Try.ntmps5
  go_wp2_with fail
  refine hb.mono ?_
  rintro e w1 ⟨rfl, hB1⟩
  go_wp2_with fail
  refine (lSanity _).mono ?_
  rintro e w2 ⟨rfl, hB2⟩
  go_wp2
  go_ret
  exact ⟨rfl, hB1.trans (hB2.mono hB1.size)⟩

set_option maxRecDepth 100000 in
set_option maxHeartbeats 40000000 in
theorem tears_long (w : World) (n : Nat) (v1 pv : Value) (ops : List OpT) (hs : ScrAt w w.heap.size v1 ops) (ps : List Int) (hps : SlAt w (fun b => b < w.heap.size) pv (ints ps)) (h1 : 1 ≤ n) (h2 : n ≤ 64) (h : 60 < ops.length) :
    Calls Try.prog 5 #[.int .i64 n, v1, pv] w fun e w' => e = .returned (.bool true) ∧ Below w.heap.size w w' := by
  obtain ⟨a, cap, rfl, hcap, hmx, hx⟩ := hs
  clear hx
  obtain ⟨oa, oc, rfl⟩ := hps.form
  clear hps
  have hb := onePlayers w n h1 h2
  have hl' : (60 : Int) < (ops.length : Int) := by omega
  have hm1 : (ops.length : Int) ≤ 9223372036854775807 := by unfold maxLen at hmx; omega
  clear h
  go_enter Try.func5, Try.ntmps5
  go_wp2_with fail
  refine hb.mono ?_
  rintro e w1 ⟨p, pm, pb, q, rfl, hP, hB1⟩
  go_wp2_with fail
  refine (lSanity _).mono ?_
  rintro e w2 ⟨rfl, hB2⟩
  go_wp2
  go_ret
  exact ⟨rfl, hB1.trans (hB2.mono hB1.size)⟩

set_option maxRecDepth 100000 in
set_option maxHeartbeats 40000000 in
theorem tears_ok (w : World) (n : Nat) (v1 pv : Value) (ops : List OpT) (hs : ScrAt w w.heap.size v1 ops) (ps : List Int) (hpl' : ps.length ≤ maxLen) (hps : SlAt w (fun b => b < w.heap.size) pv (ints ps)) (h1 : 1 ≤ n) (h2 : n ≤ 64) (hl : ops.length ≤ 60) :
    Calls Try.prog 5 #[.int .i64 n, v1, pv] w fun e w' => e = .returned (.bool true) ∧ Below w.heap.size w w' := by
  have hs' := Lib.hid hs
  have hps' := Lib.hid hps
  obtain ⟨a, cap, rfl, hcap, hmx, hx⟩ := hs
  clear hx
  obtain ⟨oa, oc, rfl⟩ := hps.form
  clear hps
  have hl' : (ops.length : Int) ≤ 60 := by omega
  have hn' : (n : Int) ≤ 64 := by omega
  have hn1 : (1 : Int) ≤ n := by omega
  obtain ⟨i0, hi0, hz0', hz1', hz2'⟩ := info_parts infoStr
  go_enter Try.func5, Try.ntmps5
  go_wp2_with fail
  refine (onePlayers _ n h1 h2).mono ?_
  rintro e w1 ⟨p, pm, pb, q, rfl, hP1, hB1⟩
  go_wp2_with fail
  have hz1 := hB1.size
  go_loopw [11, 39] (fun bx t wr => ∃ j : Nat, j ≤ ops.length ∧ t = .int .i64 (j : Int) ∧ One wr w.heap.size p pm pb (runS (ops.take j) ⟨newM n, []⟩) ∧ Below w.heap.size w wr) (fun _ t _ => ops.length - (intOf t).toNat)
  case atStart => exact ⟨0, Nat.zero_le _, rfl, hP1, hB1⟩
  case round =>
    obtain ⟨j, hj, rfl, hP, hB⟩ := hrel
    have hzB := hB.size
    by_cases hlt : j < ops.length
    · have hlti : (j : Int) < (ops.length : Int) := by omega
      obtain ⟨o, ho⟩ : ∃ o, ops[j]? = some o := ⟨ops[j], List.getElem?_eq_getElem hlt⟩
      have hsI : (runS (ops.take j) ⟨newM n, []⟩).I.length ≤ 4096 := by have := runS_I (ops.take j) ⟨newM n, []⟩; simp at this; omega
      have hT1 : runS (ops.take (j + 1)) ⟨newM n, []⟩ = playS o (runS (ops.take j) ⟨newM n, []⟩) := runS_take_succ _ _ _ _ ho
      generalize runS (ops.take j) ⟨newM n, []⟩ = s at *
      have hsx := hs'.out.below (Nat.le_refl _) hB
      obtain ⟨a', cap', e, -, -, hx⟩ := hsx
      injection e with e1 _ e3
      subst e1; subst e3
      obtain ⟨b, off, rfl, hbB, hop⟩ := hx (by omega)
      obtain ⟨pv, d0, d1, d2, d3, d4, hpv, hpl⟩ := hop j o ho
      have hbl : b < wr.heap.size := by omega
      obtain ⟨pa, pn, pc, rfl⟩ : ∃ a n c, pv = .slice a n c := by obtain ⟨a, c, h, _⟩ := hpv; exact ⟨_, _, _, h⟩
      clear hx hop ho hP1
      have hfa := (Fr.refl [] wr).alloc (.cells #[.int .i64 o.kd, .int .i64 o.i, .int .u8 o.f.toNat, .int .i64 o.sz, .slice pa pn pc] 37)
      have hpv' := Lib.hid (hpv.below (hfa.below hzB (by simp)))
      have hPa := Lib.hid (hP.fr hfa)
      have hBa := hB.trans (hfa.below hzB (by simp))
      clear hpv hfa hP hB
      go_wp2_with fail
      refine (onePlay _ w.heap.size p pm pb s hPa.out hsI o _ hpv'.out hpl hBa.size).mono ?_
      rintro e w2 ⟨rfl, hP2, hB2⟩
      have hB3 := hBa.trans hB2
      clear hPa hpv' hB2 hBa d0 d1 d2 d3 d4
      go_wp2
      go_roundw
      case rel => exact ⟨j + 1, by omega, by go_num, by rw [hT1]; exact hP2, hB3⟩
      case measure => simp [intOf]; omega
    · obtain rfl : j = ops.length := by omega
      rw [List.take_length] at hP
      have hI := Lib.hid (hP.memI hB)
      have hsM : Hid ((runS ops ⟨newM n, []⟩).M.length = n) := by unfold Hid; rw [runS_M]; simp [newM]
      generalize (runS ops ⟨newM n, []⟩).M = M at *
      obtain ⟨wo, rfl⟩ : ∃ wo : World, wo = wr := ⟨_, rfl⟩
      clear hP hB hP1 hB1 hz1 hzB
      have c0 := hI.out.c0
      go_wp2_with fail
      refine (mImage _ pm pb _ hI.out.mem hI.out.ml).mono ?_
      rintro e w2 ⟨v0, rfl, hv0, hBa⟩
      have hI2 := Lib.hid (hI.out.bel hBa)
      have hln0 : (strs (imgM M)).length = n := by have := hsM.out; simp [strs, imgM, this]
      have hv02 := Lib.hid ((hv0.imp (ok' := fun b => b ≠ pb) (fun b hb => by have := hI.out.lt; omega)).here)
      obtain ⟨a0, k0, rfl⟩ := hv0.form
      rw [hln0] at hv02 ⊢
      clear hv0 hBa hI hln0 c0
      have hmm := @run_makeMap Try.prog
      have c2 := hI2.out.c0
      have hpl : p < w2.heap.size := hI2.out.lt.1
      go_wp2_with fail
      generalize hW3 : w2.alloc (.map #[] 0) = w3
      have hF3 : Fr [] w2 w3 := by rw [← hW3]; exact (Fr.refl _ _).alloc _
      have hm3 : Hid (MpB w3 w2.heap.size 0 (fun _ => false)) := by rw [← hW3]; exact MpB.new w2
      obtain ⟨bm, hbm⟩ : ∃ bm, w2.heap.size = bm := ⟨_, rfl⟩
      rw [hbm] at hm3 ⊢
      have hbp : Hid (p < bm ∧ pm < bm ∧ pb < bm ∧ w.heap.size ≤ bm) := by rw [← hbm]; exact ⟨hI2.out.lt.1, hI2.out.lt.2.1, hI2.out.lt.2.2, hI2.out.below.size⟩
      have hI3 := Lib.hid (hI2.out.fr0 hF3)
      have hv03 := Lib.hid ((hv02.out.imp (ok' := fun b => b ≠ pb ∧ b ≠ bm) (fun b hb => ⟨hb.1, by have := hb.2; omega⟩)).fr hF3 (by simp))
      have hbl3 : bm < w3.heap.size := hm3.out.lt
      clear hW3 hF3 hI2 hv02 c2 hpl hmm
      refine (mDirty _ pm pb _ hI3.out.mem hI3.out.ml).mono ?_
      rintro e w4 ⟨vd, rfl, hvd, hBd⟩
      have hI4 := Lib.hid (hI3.out.bel hBd)
      have hv04 := Lib.hid (hv03.out.fr (S := []) (Fr.of_below hBd) (by simp))
      have hm4 := Lib.hid (hm3.out.fr (S := []) (Fr.of_below hBd) (by simp))
      have hvd4 := Lib.hid (hvd.imp (ok' := fun b => b ≠ bm) (fun b hb => by omega))
      have hdl : Hid (∀ (i : Nat) (s : Sec), M[i]? = some s → inB (idxs Sec.dirty M) (i : Int) = s.dirty) := fun i s h => inB_dirty h
      have hLl : (idxs Sec.dirty M).length ≤ 64 := by have := idxs_length_le Sec.dirty M; have := hsM.out; omega
      have hLb : Hid (∀ j ∈ idxs Sec.dirty M, j < 64) := fun j hj => by
        obtain ⟨i, s, e, h1, _⟩ := (idxFrom_mem Sec.dirty M 0 j).1 hj
        have h2 := (List.getElem?_eq_some_iff.1 h1).1
        have := hsM.out
        omega
      obtain ⟨ad, kd, rfl⟩ := hvd.form
      rw [nats_size] at hvd4 ⊢
      generalize idxs Sec.dirty M = L at *
      clear hvd hBd hI3 hv03 hm3 hbm hbl3
      have hLi : (L.length : Int) ≤ 64 := by omega
      go_wp2_with fail
      go_loopw [59] (fun t wr => ∃ j : Nat, j ≤ L.length ∧ t = .int .i64 (j : Int) ∧ Hid (MpB wr bm j (inB (L.take j))) ∧ Fr [bm] w4 wr) (fun t _ => L.length - (intOf t).toNat)
      case atStart => exact ⟨0, Nat.zero_le _, rfl, hm4, Fr.refl _ _⟩
      case round =>
        obtain ⟨j, hj, rfl, hm, hF⟩ := hrel
        clear hm4
        by_cases hlt : j < L.length
        · have hlti : (j : Int) < (L.length : Int) := by omega
          have hsu := Lib.hid (inB_succ L j hlt)
          obtain ⟨db, dof, rfl, hdb, hdbl, hdg⟩ := (hvd4.out.fr hF (by simp)).pick (nats_pick (List.getElem?_eq_getElem hlt))
          have hxb := hLb.out L[j] (List.getElem_mem hlt)
          obtain ⟨D, hown, hD⟩ := hm.out
          have hD' := Lib.hid hD
          generalize L[j] = x at *
          clear hm hD
          go_wp2_with (at_mapUpdate; refine wpList_mapUpdate_own _ rfl _ _ _ 56 rfl 3 4 keyedInt Try.underlying56 (plainElem Try.prog 4) bm j D rfl hown (by unfold maxLen; omega) _ _ (.int .i64 (x : Int)) rfl rfl (keyInt (wf_i64 (by omega) (by omega))) (.lit (.bool true)) [] (plainElem_bool Try.underlying4 true) ?_)
          intro w5 hown' hgrow
          have hm5 : Hid (MpB w5 bm (j + 1) (inB (L.take (j + 1)))) := by rw [hsu.out]; exact MpB.put hown hD'.out hown'
          have hF5 : Fr [bm] w4 w5 := hF.grown hgrow (fun k hk => by injection hk with hk; exact .inl (by simp [hk]))
          clear hown hown' hgrow hD' hF hdg
          go_wp2
          go_roundw
          case rel => exact ⟨j + 1, by omega, by go_num, hm5, hF5⟩
          case measure => simp [intOf]; omega
        · obtain rfl : j = L.length := by omega
          rw [List.take_length] at hm
          obtain ⟨w5, rfl⟩ : ∃ w5 : World, w5 = wr := ⟨_, rfl⟩
          have hbp' := hbp.out
          have hI5 := Lib.hid (hI4.out.fr hF (by simp; omega) (by simp; omega) (by simp; omega) (by simp; omega))
          have hv05 := Lib.hid (hv04.out.fr hF (fun b hb => by simpa using hb.2))
          clear hbp' hI4 hv04 hvd4 hF hlt
          go_wp2_with fail
          go_loopw [16, 67] (fun v t wr => ∃ j : Nat, j ≤ n ∧ t = .int .i64 (j : Int) ∧ wr.ownsRow w5.heap.size 9 1 v (strs ((freshL M).take j)).length (strs ((freshL M).take j)) ∧ Below w5.heap.size w5 wr) (fun _ t _ => n - (intOf t).toNat)
          case atStart => exact ⟨0, Nat.zero_le _, rfl, World.ownsRow_nil _ _ _ _, Below.refl _ _⟩
          case round =>
            obtain ⟨j, hj, rfl, hown, hB⟩ := hrel
            have hBs := hB.size
            by_cases hlt : j < n
            · have hlti : (j : Int) < (n : Int) := by omega
              have hjM : j < M.length := by have := hsM.out; omega
              have hjf : j < (freshL M).length := by simpa [freshL] using hjM
              have hsu := Lib.hid (strs_snoc (freshL M) j hjf)
              have hle : (strs ((freshL M).take j)).length ≤ 64 := by simp [strs]; omega
              have hIr := hI5.out.bel hB
              have cr := hIr.c0
              have c := mRead wr pm pb _ hIr.mem hIr.ml j
              rw [(fresh_rd hjM).1, (fresh_rd hjM).2] at c
              generalize (freshL M)[j] = x at *
              clear hIr
              go_wp2_with fail
              refine c.mono ?_
              clear c
              rintro e w' ⟨rfl, rfl⟩
              go_wp2_with (at_builtin; refine wpList_append_own _ rfl _ _ 54 rfl w5.heap.size 9 i0 (.string ByteArray.empty) 1 16 Try.underlying54 hi0 hz0' hz1' hz2' rfl (by decide) _ _ _ rfl (hown.alloc _) ⟨wr.heap.size, 0, none⟩ 1 1 [.string x] rfl rfl (cell_one _ _ _) (oneC_str _) ?c3 ?c4 ?c5 ?_)
              case c3 => unfold maxLen; omega
              case c4 => omega
              case c5 => simp; omega
              intro v' w6 hown' hgrow _
              have hB' : Below w5.heap.size w5 w6 := (hB.alloc hBs _).grown hgrow (by simp; omega) (fun k hk => (hown.lt k hk).1)
              have hown2 : w6.ownsRow w5.heap.size 9 1 v' (strs ((freshL M).take (j + 1))).length (strs ((freshL M).take (j + 1))) := by rw [hsu.out]; simpa using hown'
              clear hown' hgrow hown hB
              go_wp2
              go_roundw
              case rel => exact ⟨j + 1, by omega, by go_num, hown2, hB'⟩
              case measure => simp [intOf]; omega
            · obtain rfl : j = n := by omega
              obtain ⟨w6, rfl⟩ : ∃ w6 : World, w6 = wr := ⟨_, rfl⟩
              rw [show (freshL M).take j = freshL M from List.take_of_length_le (by have := hsM.out; simp [freshL, this])] at hown
              have hlb : (strs (freshL M)).length = j := by have := hsM.out; simp [strs, freshL, this]
              have hvf := (SlAt.of_own hown).imp (ok' := fun b => b ≠ pb) (fun b hb => by have := hI5.out.lt; omega)
              have hI6 := Lib.hid (hI5.out.bel hB)
              have hv06 := Lib.hid (hv05.out.fr (S := []) (Fr.of_below hB) (by simp))
              have hm6 := Lib.hid (hm.out.fr (S := []) (Fr.of_below hB) (by simp))
              obtain ⟨af, kf, rfl⟩ := hvf.form
              rw [hlb] at hvf ⊢
              have hvf6 := Lib.hid hvf
              have c6 := hI6.out.c0
              clear hown hlb hvf hI5 hv05 hm hB hlt
              go_wp2_with fail
              refine (mCut _ pm pb _ hI6.out.mem hI6.out.ml hI6.out.wf _ ps (fun b => b < w.heap.size) (hps'.out.below hI6.out.below) hpl' (fun b hb => ⟨by have := hI6.out.lp; omega, by have := hI6.out.below.size; omega⟩)).mono ?_
              rintro e w7 ⟨rfl, hM7, hF7⟩
              have hI7 := Lib.hid (hI6.out.op hM7 hF7 (cutM_WF hI6.out.wf ps) (by rw [cutM_length]; exact hI6.out.ml))
              have hv07 := Lib.hid (hv06.out.fr hF7 (fun b hb => by simpa using hb.1))
              have hvf7 := Lib.hid (hvf6.out.fr hF7 (fun b hb => by simpa using hb))
              have hm7 := Lib.hid (hm6.out.fr hF7 (by have := hbp.out; simp; omega))
              have c7 := hI7.out.c0
              have hok0 := Lib.hid hI6.out.wf
              clear hM7 hF7 hI6 hv06 hvf6 hm6 c6
              go_wp2_with fail
              refine (mImage _ pm pb _ hI7.out.mem hI7.out.ml).mono ?_
              rintro e w8 ⟨v1, rfl, hv1, hB8⟩
              have hI8 := Lib.hid (hI7.out.bel hB8)
              have hln1 : (strs (imgM (cutM M ps))).length = j := by have := hsM.out; have e := cutM_length M ps; simp [strs, imgM]; omega
              have hv08 := Lib.hid (hv07.out.fr (S := []) (Fr.of_below hB8) (by simp))
              have hvf8 := Lib.hid (hvf7.out.fr (S := []) (Fr.of_below hB8) (by simp))
              have hm8 := Lib.hid (hm7.out.fr (S := []) (Fr.of_below hB8) (by simp))
              obtain ⟨a1, k1, rfl⟩ := hv1.form
              rw [hln1] at hv1 ⊢
              have hv18 := Lib.hid hv1
              have c8 := hI8.out.c0
              have hd8 := mDirty w8 pm pb _ hI8.out.mem hI8.out.ml
              rw [cut_idxs] at hd8
              clear hv1 hB8 hI7 hv07 hvf7 hm7 c7 hln1
              go_wp2_with fail
              refine hd8.mono ?_
              clear hd8
              rintro e w9 ⟨vd2, rfl, hvd2, hB9⟩
              obtain ⟨ad2, kd2, rfl⟩ := hvd2.form
              rw [show (nats []).length = 0 from rfl]
              have hI9 := Lib.hid (hI8.out.bel hB9)
              have hv09 := Lib.hid (hv08.out.fr (S := []) (Fr.of_below hB9) (by simp))
              have hvf9 := Lib.hid (hvf8.out.fr (S := []) (Fr.of_below hB9) (by simp))
              have hv19 := Lib.hid (hv18.out.fr (S := []) (Fr.of_below hB9) (by simp))
              have hm9 := Lib.hid (hm8.out.fr (S := []) (Fr.of_below hB9) (by simp))
              clear hvd2 hB9 hI8 hv08 hvf8 hv18 hm8 c8
              go_wp2_with fail
              go_loopw [115] (fun t wr => ∃ k : Nat, k ≤ j ∧ t = .int .i64 (k : Int) ∧ Fr [] w9 wr) (fun t _ => j - (intOf t).toNat)
              case atStart => exact ⟨0, Nat.zero_le _, rfl, Fr.refl _ _⟩
              case round =>
                obtain ⟨k, hk, rfl, hFi⟩ := hrel
                by_cases hlt : k < j
                · have hlti : (k : Int) < (j : Int) := by omega
                  obtain ⟨s1, pc, hM0, hM1, hp0, hp1⟩ := cut_at M ps k (by have := hsM.out; omega)
                  have hwf := hok0.out s1 (List.mem_of_getElem? hM0)
                  have hsuf := Lib.hid (fun i hi hx => torn_suffix hwf pc hp0 hp1 i hi hx)
                  have hcl := Lib.hid (fun h => torn_same (s := s1) h pc)
                  have hlk0 := fun m => (hm9.out.fr hFi (by simp)).look (i := (k : Int)) (wf_i64 (by omega) (by omega)) (wr.drewN m) rfl
                  rw [hdl.out k s1 hM0] at hlk0
                  obtain ⟨b1, o1, rfl, _, hl1, g1⟩ := (hv19.out.fr hFi (by simp)).pick (strs_pick (show (imgM (cutM M ps))[k]? = some (s1.torn pc).now by unfold imgM; rw [List.getElem?_map, hM1]; rfl))
                  obtain ⟨b2, o2, rfl, _, hl2, g2⟩ := (hvf9.out.fr hFi (by simp)).pick (strs_pick (show (freshL M)[k]? = some s1.read by unfold freshL; rw [List.getElem?_map, hM0]; rfl))
                  obtain ⟨b0, o0, rfl, _, hl0, g0⟩ := (hv09.out.fr hFi (by simp)).pick (strs_pick (show (imgM M)[k]? = some s1.now by unfold imgM; rw [List.getElem?_map, hM0]; rfl))
                  have hxs := torn_len hwf pc hp1
                  have hys := read_len hwf
                  have hzs := hwf.1
                  generalize (s1.torn pc).now = x at *
                  generalize s1.read = y at *
                  generalize s1.now = z at *
                  generalize s1.dirty = dd at *
                  have hlk := hlk0
                  clear hM0 hM1 hwf hlk0
                  have hxi : (x.size : Int) = 64 := by omega
                  have hyi : (y.size : Int) = 64 := by omega
                  have hzi : (z.size : Int) = 64 := by omega
                  have hcmp : dd = true ∨ (dd = false ∧ (x.toList == z.toList) = true ∧ (y.toList == z.toList) = true) := by
                    cases dd
                    · exact .inr ⟨rfl, beqT (hcl.out rfl).1, beqT (hcl.out rfl).2⟩
                    · exact .inl rfl
                  have g1p := Lib.hid g1
                  have g2p := Lib.hid g2
                  have g0p := Lib.hid g0
                  obtain ⟨wq, rfl⟩ : ∃ wq : World, wq = wr := ⟨_, rfl⟩
                  clear hcl
                  rcases hcmp with rfl | ⟨rfl, e1, e2⟩
                  all_goals
                    go_wp2_with fail
                    go_quiet (fail)
                    go_wp2_with fail
                    generalize hWi : wq.drewN nq = wi
                    have hFq : Fr [] wq wi := by rw [← hWi]; exact (Fr.refl _ _).drewN _
                    have g1 := (hFq.cell hl1 (by simp)).trans g1p.out
                    have g2 := (hFq.cell hl2 (by simp)).trans g2p.out
                    have g0 := (hFq.cell hl0 (by simp)).trans g0p.out
                    have hm1 : b1 < wi.heap.size := Nat.lt_of_lt_of_le hl1 hFq.size
                    have hm2 : b2 < wi.heap.size := Nat.lt_of_lt_of_le hl2 hFq.size
                    have hm0 : b0 < wi.heap.size := Nat.lt_of_lt_of_le hl0 hFq.size
                    have hFi2 := hFi.trans hFq
                    have g1h := Lib.hid g1
                    have g0h := Lib.hid g0
                    clear hWi g1p g2p g0p hl1 hl2 hl0 hlk hFq hFi
                    go_loopw [22] (fun q wr => ∃ i : Nat, i ≤ 64 ∧ q = .int .i64 (i : Int) ∧ Fr [] wi wr) (fun q _ => 64 - (intOf q).toNat)
                    case atStart => exact ⟨0, Nat.zero_le _, rfl, Fr.refl _ _⟩
                    case round =>
                      obtain ⟨i, hi, rfl, hFk⟩ := hrel
                      have g1k := (hFk.cell hm1 (by simp)).trans g1
                      have g2k := (hFk.cell hm2 (by simp)).trans g2
                      have g0k := (hFk.cell hm0 (by simp)).trans g0
                      clear g1 g2 g0
                      by_cases hk64 : i < 64
                      · have hk64i : (i : Int) < 64 := by omega
                        have ix := idxRun Try.underlying9 x i (by omega)
                        have iy := idxRun Try.underlying9 y i (by omega)
                        by_cases hb : bN x i = bN y i
                        · rw [hb] at ix
                          clear hb
                          go_wp2_with fail
                          go_quiet (fail)
                          go_wp2_with fail
                          generalize hWd : wr.drewN nq = wd
                          have hFd : Fr [] wi wd := by rw [← hWd]; exact hFk.drewN _
                          clear hWd
                          go_roundw
                          case rel => exact ⟨i + 1, by omega, by go_num, hFd⟩
                          case measure => simp [intOf]; omega
                        · have hbi : (((bN x i : Nat) : Int) == ((bN y i : Nat) : Int)) = false := by simp; omega
                          have hsu := beqT (hsuf.out i hi (by exact .inr hb))
                          have ex := endRun Try.underlying9 x i (by omega)
                          have ez := endRun Try.underlying9 z i (by omega)
                          generalize x.extract i x.size = xe at *
                          generalize z.extract i z.size = ze at *
                          go_wp2_with fail
                          go_quiet (fail)
                          go_wp2_with fail
                          generalize hWd : wr.drewN nq = wd
                          have hFd : Fr [] wi wd := by rw [← hWd]; exact hFk.drewN _
                          have g1d := (hFd.cell hm1 (by simp)).trans g1h.out
                          have g0d := (hFd.cell hm0 (by simp)).trans g0h.out
                          clear hWd g1k g2k g0k
                          go_quiet (fail)
                          go_wp2_with fail
                          generalize hWe : wd.drewN nq = we
                          have hFe : Fr [] w9 we := by rw [← hWe]; exact (hFi2.trans hFd).drewN _
                          clear hWe
                          go_roundw
                          case rel => exact ⟨k + 1, by omega, by go_num, hFe⟩
                          case measure => simp [intOf]; omega
                      · have hk64i : decide ((i : Int) < 64) = false := decide_eq_false (by omega)
                        have hsu := beqT (hsuf.out i hi (by left; omega))
                        have ex := endRun Try.underlying9 x i (by omega)
                        have ez := endRun Try.underlying9 z i (by omega)
                        generalize x.extract i x.size = xe at *
                        generalize z.extract i z.size = ze at *
                        go_wp2_with fail
                        go_quiet (fail)
                        go_wp2_with fail
                        generalize hWd : wr.drewN nq = wd
                        have hFd : Fr [] wi wd := by rw [← hWd]; exact hFk.drewN _
                        have g1d := (hFd.cell hm1 (by simp)).trans g1h.out
                        have g0d := (hFd.cell hm0 (by simp)).trans g0h.out
                        clear hWd g1k g2k g0k
                        go_quiet (fail)
                        go_wp2_with fail
                        generalize hWe : wd.drewN nq = we
                        have hFe : Fr [] w9 we := by rw [← hWe]; exact (hFi2.trans hFd).drewN _
                        clear hWe
                        go_roundw
                        case rel => exact ⟨k + 1, by omega, by go_num, hFe⟩
                        case measure => simp [intOf]; omega
                · obtain rfl : k = j := by omega
                  have hIz := Lib.hid (hI9.out.fr0 hFi)
                  go_wp2_with fail
                  refine (lSanity _).mono ?_
                  rintro e wz ⟨rfl, hBz⟩
                  go_wp2
                  go_ret
                  exact ⟨rfl, hIz.out.below.trans (hBz.mono hIz.out.below.size)⟩

theorem lTears (w : World) (n : Int) (v1 : Value) (ops : List OpT) (hs : ScrAt w w.heap.size v1 ops) (pv : Value) (ps : List Int) (hl : ps.length ≤ maxLen) (hps : SlAt w (fun b => b < w.heap.size) pv (ints ps)) :
    Calls Try.prog 5 #[.int .i64 n, v1, pv] w fun e w' => e = .returned (.bool true) ∧ Below w.heap.size w w' := by
  by_cases hbad : n < 1 ∨ 64 < n
  · exact tears_bad w n v1 pv ops hs ps hps hbad
  · obtain ⟨k, rfl⟩ : ∃ k : Nat, n = (k : Int) := ⟨n.toNat, by omega⟩
    by_cases hlong : 60 < ops.length
    · exact tears_long w k v1 pv ops hs ps hps (by omega) (by omega) hlong
    · exact tears_ok w k v1 pv ops hs ps hl hps (by omega) (by omega) (by omega)

end Go.Proofs.Ytogljlloobjeoaa
