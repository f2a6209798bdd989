/- MemoryRollsBack: the plain law, and the walk. -/
import Derived.Test.YtogljlloobjeoaaLawW
import Derived.StillTailTactics
import Derived.BigQuiet
namespace Go.Proofs.Ytogljlloobjeoaa
open Go.RowKit
set_option linter.unusedSimpArgs false

/-! ### The plain law -/
theorem fl_clean {M : List Sec} (h : ∀ s ∈ M, s.dirty = false) : flM M = M := by
  unfold flM
  rw [List.map_congr_left (g := id) (fun s hs => by simp [h s hs])]
  simp
theorem fl_all (M : List Sec) : ∀ s ∈ flM M, s.dirty = false := by
  intro s hs
  obtain ⟨j, hj⟩ := List.getElem?_of_mem hs
  exact fl_dirty hj
theorem settle_full {s : Sec} {x : ByteArray} (hf : s.fresh = x) (hx : x.size = 64) (hn : s.now.size = 64) : s.settle 64 = { now := x, before := s.now, fresh := ByteArray.empty, dirty := false, worn := s.worn } := by
  unfold Sec.settle
  rw [if_pos (by omega), hf]
  have e1 : x.extract 0 (64 : Int).toNat = x := by
    have : (64 : Int).toNat = x.size := by rw [hx]; rfl
    rw [this]; simp
  have e2 : s.now.extract (64 : Int).toNat s.now.size = ByteArray.empty := by
    apply ByteArray.ext
    simp [hn]
  rw [e1, e2]
  simp
theorem rolls {M : List Sec} (hwf : WFM M) (hnd : ∀ s ∈ M, s.dirty = false) {i : Int} {x : ByteArray} (hin : isIn M i) (hx : x.size = 64) (hw : ∀ s, M[i.toNat]? = some s → s.worn = false) :
    rdT (flM (wrM M i x)) i = x ∧ imgM (stM (flM (wrM M i x)) i) = imgM M := by
  have hlt : i.toNat < M.length := by unfold isIn at hin; omega
  have hs : M[i.toNat]? = some M[i.toNat] := List.getElem?_eq_getElem hlt
  have hsw := hw _ hs
  have hsn := (hwf _ (List.getElem_mem hlt)).1
  have hlen : (flM (wrM M i x)).length = M.length := by rw [flM_length, wrM_length]
  have hin2 : isIn (flM (wrM M i x)) i := by unfold isIn at hin ⊢; rw [hlen]; exact hin
  have hget : ∀ j : Nat, (flM (wrM M i x))[j]? = if i.toNat = j then some { now := x, before := M[i.toNat].now, fresh := ByteArray.empty, dirty := false, worn := M[i.toNat].worn } else M[j]? := by
    intro j
    unfold flM wrM
    rw [List.getElem?_map, if_pos ⟨hin, hx⟩, updS_get]
    by_cases e : i.toNat = j
    · subst e
      rw [if_pos rfl, if_pos rfl, hs]
      simp only [Option.map_some, Sec.put, hsw, Bool.false_eq_true, if_false, if_true]
      exact congrArg some (settle_full (x := x) rfl hx hsn)
    · rw [if_neg e, if_neg e]
      cases hM : M[j]? with
      | none => rfl
      | some y => simp [hnd y (List.mem_of_getElem? hM)]
  constructor
  · unfold rdT
    rw [if_pos hin2, hget, if_pos rfl]
    rfl
  · apply List.ext_getElem?
    intro j
    unfold imgM stM
    rw [if_pos hin2, List.getElem?_map, List.getElem?_map, updS_get, hget]
    by_cases e : i.toNat = j
    · subst e
      rw [if_pos rfl, if_pos rfl, hs]; rfl
    · rw [if_neg e, if_neg e]

/-! ### The walk -/
/-- The box of the operation. -/
structure Box22 (W : World) (b : Nat) (kd i : Int) (f : UInt8) (sz : Int) (pv : Value) : Prop where
  c0 : W.cell? ⟨b, 0, none⟩ = some (.int .i64 kd)
  c1 : W.cell? ⟨b, 1, none⟩ = some (.int .i64 i)
  c2 : W.cell? ⟨b, 2, none⟩ = some (.int .u8 f.toNat)
  c3 : W.cell? ⟨b, 3, none⟩ = some (.int .i64 sz)
  c4 : W.cell? ⟨b, 4, none⟩ = some pv
  z0 : W.frozen? ⟨b, 0, none⟩ = false
theorem Box22.fr {W W' : World} {b : Nat} {kd i : Int} {f : UInt8} {sz : Int} {pv : Value} {S : List Nat} (h : Box22 W b kd i f sz pv) (hf : Fr S W W') (hn : b ∉ S) : Box22 W' b kd i f sz pv := by
  have l0 : b < W.heap.size := World.block_lt_of_cell? _ _ h.c0
  exact ⟨(hf.cell (by exact l0) hn).trans h.c0, (hf.cell (by exact l0) hn).trans h.c1, (hf.cell (by exact l0) hn).trans h.c2, (hf.cell (by exact l0) hn).trans h.c3, (hf.cell (by exact l0) hn).trans h.c4, (hf.frozen (by exact l0) hn).trans h.z0⟩
theorem Box22.below {W W' : World} {b B : Nat} {kd i : Int} {f : UInt8} {sz : Int} {pv : Value} (h : Box22 W b kd i f sz pv) (hf : Below B W W') (hb : b < B) : Box22 W' b kd i f sz pv :=
  ⟨(hf.cell (by exact hb)).trans h.c0, (hf.cell (by exact hb)).trans h.c1, (hf.cell (by exact hb)).trans h.c2, (hf.cell (by exact hb)).trans h.c3, (hf.cell (by exact hb)).trans h.c4, (hf.frozen (by exact hb)).trans h.z0⟩
theorem Box22.kind {W : World} {b : Nat} {kd i : Int} {f : UInt8} {sz : Int} {pv : Value} (h : Box22 W b kd i f sz pv) (k : Int) : Box22 (W.setCell ⟨b, 0, none⟩ (.int .i64 k)) b k i f sz pv := by
  refine ⟨by simp [cell_set, h.c0], ?_, ?_, ?_, ?_, (World.frozen?_setCell _ _ _ _).trans h.z0⟩
  · rw [cell_set, if_neg (by simp)]; exact h.c1
  · rw [cell_set, if_neg (by simp)]; exact h.c2
  · rw [cell_set, if_neg (by simp)]; exact h.c3
  · rw [cell_set, if_neg (by simp)]; exact h.c4
theorem box22 {w : World} {kd i : Int} {f : UInt8} {sz : Int} {pv : Value} {T : TypeId} : ∀ W, w.alloc (.cells #[.int .i64 kd, .int .i64 i, .int .u8 f.toNat, .int .i64 sz, pv] T) = W → Box22 W w.heap.size kd i f sz pv ∧ Fr [] w W ∧ W.heap.size = w.heap.size + 1 := by
  rintro W rfl
  exact ⟨⟨by simp, by simp, by simp, by simp, by simp, by simp⟩, (Fr.refl _ _).alloc _, by simp⟩

def anyEq (l : List Nat) (i : Int) : Bool := l.any fun k => (k : Int) == i
theorem anyEq_succ (l : List Nat) (i : Int) (j : Nat) (h : j < l.length) : anyEq (l.take (j + 1)) i = (anyEq (l.take j) i || ((l[j] : Int) == i)) := by
  unfold anyEq
  rw [List.take_succ_eq_append_getElem h, List.any_append]
  simp
theorem anyEq_worn {M : List Sec} {i : Int} (hin : isIn M i) (h : anyEq (idxs Sec.worn M) i = false) : ∀ s, M[i.toNat]? = some s → s.worn = false := by
  intro s hs
  cases hw : s.worn
  · rfl
  · exfalso
    have hm : i.toNat ∈ idxs Sec.worn M := by
      have hsu := idxs_take_succ Sec.worn M i.toNat s hs
      have hle : ∀ k, idxs Sec.worn (M.take k) ++ idxFrom Sec.worn (M.take k).length (M.drop k) = idxs Sec.worn M := fun k => by
        have := idxFrom_append Sec.worn 0 (M.take k) (M.drop k)
        rw [List.take_append_drop, Nat.zero_add] at this
        exact this.symm
      rw [← hle (i.toNat + 1), hsu, hw]
      simp
    unfold anyEq at h
    rw [List.any_eq_false] at h
    have h2 := h _ hm
    have h0 : ((i.toNat : Nat) : Int) = i := by unfold isIn at hin; omega
    exact h2 (by simpa using h0)

set_option maxRecDepth 100000 in
set_option maxHeartbeats 4000000 in
theorem rolls_bad (w : World) (n : Int) (v1 : Value) (ops : List OpT) (hs : ScrAt w w.heap.size v1 ops) (kd i : Int) (f : UInt8) (sz : Int) (pv : Value) (h : n < 1 ∨ 64 < n) :
    Calls Try.prog 8 #[.int .i64 n, v1, .agg #[.int .i64 kd, .int .i64 i, .int .u8 f.toNat, .int .i64 sz, pv]] w fun e w' => e = .returned (.bool true) ∧ Below w.heap.size w w' := by
  obtain ⟨a, cap, rfl, hcap, hmx, hx⟩ := hs
  clear hx
  have hb := fun w => lPlayers_bad w n h
  clear h
  go_enter Try.func8, Try.ntmps8
  go_wp2_with fail
  refine (hb _).mono ?_
  rintro e w1 ⟨rfl, hB1⟩
  have hB0 : Below w.heap.size w w1 := ((Below.refl _ _).alloc (Nat.le_refl _) _).trans (hB1.mono (by simp))
  go_wp2_with fail
  refine (lSanity _).mono ?_
  rintro e w2 ⟨rfl, hB2⟩
  go_wp2
  go_ret
  exact ⟨rfl, hB0.trans (hB2.mono hB0.size)⟩

set_option maxRecDepth 100000 in
set_option maxHeartbeats 4000000 in
theorem rolls_long (w : World) (n : Nat) (v1 : Value) (ops : List OpT) (hs : ScrAt w w.heap.size v1 ops) (kd i : Int) (f : UInt8) (sz : Int) (pv : Value) (h1 : 1 ≤ n) (h2 : n ≤ 64) (h : 60 < ops.length) :
    Calls Try.prog 8 #[.int .i64 n, v1, .agg #[.int .i64 kd, .int .i64 i, .int .u8 f.toNat, .int .i64 sz, pv]] w fun e w' => e = .returned (.bool true) ∧ Below w.heap.size w w' := by
  obtain ⟨a, cap, rfl, hcap, hmx, hx⟩ := hs
  clear hx
  have hm1 : (ops.length : Int) ≤ 9223372036854775807 := by unfold maxLen at hmx; omega
  have hl' : (60 : Int) < (ops.length : Int) := by omega
  have hb := fun w => onePlayers w n h1 h2
  clear h
  go_enter Try.func8, Try.ntmps8
  go_wp2_with fail
  refine (hb _).mono ?_
  rintro e w1 ⟨p, pm, pb, q, rfl, hP, hB1⟩
  have hB0 : Below w.heap.size w w1 := ((Below.refl _ _).alloc (Nat.le_refl _) _).trans (hB1.mono (by simp))
  go_wp2_with fail
  refine (lSanity _).mono ?_
  rintro e w2 ⟨rfl, hB2⟩
  go_wp2
  go_ret
  exact ⟨rfl, hB0.trans (hB2.mono hB0.size)⟩

set_option maxRecDepth 100000 in
set_option maxHeartbeats 4000000 in
theorem rolls_ok (w : World) (n : Nat) (v1 : Value) (ops : List OpT) (hs : ScrAt w w.heap.size v1 ops) (kd i : Int) (f : UInt8) (sz : Int) (pv : Value) (zs : List Int) (_hzl : zs.length ≤ maxLen) (hpv : SlAt w (fun b => b < w.heap.size) pv (ints zs)) (h1 : 1 ≤ n) (h2 : n ≤ 64) (hl : ops.length ≤ 60) :
    Calls Try.prog 8 #[.int .i64 n, v1, .agg #[.int .i64 kd, .int .i64 i, .int .u8 f.toNat, .int .i64 sz, pv]] w fun e w' => e = .returned (.bool true) ∧ Below w.heap.size w w' := by
  have hs' := Lib.hid hs
  obtain ⟨a, cap, rfl, hcap, hmx, hx⟩ := hs
  clear hx
  have hpv' := Lib.hid hpv
  clear hpv
  have hl' : (ops.length : Int) ≤ 60 := by omega
  have hn' : (n : Int) ≤ 64 := by omega
  go_enter Try.func8, Try.ntmps8
  go_wp2_with fail
  generalize hW : w.alloc (.cells #[.int .i64 kd, .int .i64 i, .int .u8 f.toNat, .int .i64 sz, pv] 37) = W0
  obtain ⟨hbx, hf0, hz0⟩ := box22 _ hW
  clear hW
  have hB0 : Below w.heap.size w W0 := hf0.below (Nat.le_refl _) (by simp)
  have hz0' := Lib.hid hz0
  have hwl : w.heap.size < W0.heap.size := by omega
  clear hf0 hz0
  refine (onePlayers _ n h1 h2).mono ?_
  rintro e w1 ⟨p, pm, pb, q, rfl, hP1, hB1⟩
  have hz1 := hB1.size
  go_wp2_with fail
  go_loopw [11, 35] (fun bx t wr => ∃ j : Nat, j ≤ ops.length ∧ t = .int .i64 (j : Int) ∧ One wr W0.heap.size p pm pb (runS (ops.take j) ⟨newM n, []⟩) ∧ Below W0.heap.size W0 wr) (fun _ t _ => ops.length - (intOf t).toNat)
  case atStart => exact ⟨0, Nat.zero_le _, rfl, hP1, hB1⟩
  case round =>
    obtain ⟨j, hj, rfl, hP, hB⟩ := hrel
    have hzB := hB.size
    by_cases hlt : j < ops.length
    · have hlti : (j : Int) < (ops.length : Int) := by omega
      obtain ⟨o, ho⟩ : ∃ o, ops[j]? = some o := ⟨ops[j], List.getElem?_eq_getElem hlt⟩
      have hsI : (runS (ops.take j) ⟨newM n, []⟩).I.length ≤ 4096 := by have := runS_I (ops.take j) ⟨newM n, []⟩; simp at this; omega
      have hT1 : runS (ops.take (j + 1)) ⟨newM n, []⟩ = playS o (runS (ops.take j) ⟨newM n, []⟩) := runS_take_succ _ _ _ _ ho
      generalize runS (ops.take j) ⟨newM n, []⟩ = s at *
      have hsx := (hs'.out.below (Nat.le_refl _) (hB0.trans (hB.mono (Nat.le_of_lt hwl))))
      obtain ⟨a', cap', e, -, -, hx⟩ := hsx
      injection e with e1 _ e3
      subst e1; subst e3
      obtain ⟨b, off, rfl, hbB, hop⟩ := hx (by omega)
      obtain ⟨pv', d0, d1, d2, d3, d4, hpvj, hpl⟩ := hop j o ho
      have hbl : b < wr.heap.size := by omega
      obtain ⟨pa, pn, pc, rfl⟩ : ∃ a n c, pv' = .slice a n c := by obtain ⟨a, c, h, _⟩ := hpvj; exact ⟨_, _, _, h⟩
      clear hx hop ho hP1 hbx
      have hfa := (Fr.refl [] wr).alloc (.cells #[.int .i64 o.kd, .int .i64 o.i, .int .u8 o.f.toNat, .int .i64 o.sz, .slice pa pn pc] 37)
      have hpvj' := Lib.hid ((hpvj.fr (S := []) hfa (fun _ _ => List.not_mem_nil)).imp (ok' := fun b => b < W0.heap.size) (fun b hb => Nat.lt_trans hb hwl))
      have hPa := Lib.hid (hP.fr hfa)
      have hBa := hB.trans (hfa.below hzB (by simp))
      clear hpvj hfa hP hB
      go_wp2_with fail
      refine (onePlay _ W0.heap.size p pm pb s hPa.out hsI o _ hpvj'.out hpl hBa.size).mono ?_
      rintro e w2 ⟨rfl, hP2, hB2⟩
      have hB3 := hBa.trans hB2
      clear hPa hpvj' hB2 hBa d0 d1 d2 d3 d4
      go_wp2
      go_roundw
      case rel => exact ⟨j + 1, by omega, by go_num, by rw [hT1]; exact hP2, hB3⟩
      case measure => simp [intOf]; omega
    · obtain rfl : j = ops.length := by omega
      rw [List.take_length] at hP
      have hsI : (runS ops ⟨newM n, []⟩).I.length ≤ 60 := by have := runS_I ops ⟨newM n, []⟩; simp at this; omega
      have hsM : (runS ops ⟨newM n, []⟩).M.length = n := by rw [runS_M]; simp [newM]
      generalize runS ops ⟨newM n, []⟩ = s at *
      have hlp := hP.lp
      have hbx1 := hbx.below hB hwl
      have hc0 := hP.c0
      go_wp2_with fail
      refine (mFlush _ pm pb _ hP.mem hP.mlen hP.wf).mono ?_
      rintro e w2 ⟨rfl, hM2, hF2⟩
      have hP2 := hP.step hM2 hF2 (flM_WF hP.wf) (by rw [flM_length]; exact hP.mlen)
      have hkb : ∀ k ∈ [pb], W0.heap.size ≤ k := by simp; omega
      have hB2 := hB.trans (hF2.below hzB hkb)
      have hbx2 := hbx1.fr hF2 (by simp; omega)
      have hkb' := Lib.hid hkb
      clear hc0 hP hM2 hF2 hP1 hbx1 hkb hbx
      have hc2 := hP2.c0
      go_wp2_with fail
      refine (mImage _ pm pb _ hP2.mem hP2.mlen).mono ?_
      rintro e w3 ⟨vo, rfl, hso, hB3⟩
      obtain ⟨oa, on, oc, rfl⟩ : ∃ a n c, vo = .slice a n c := by obtain ⟨a, c, h, _⟩ := hso; exact ⟨_, _, _, h⟩
      have hP3 := hP2.fr (Fr.of_below hB3)
      have hbx3 := hbx2.fr (S := []) (Fr.of_below hB3) List.not_mem_nil
      have hB4 := hB2.trans (hB3.mono hB2.size)
      have hno : pb < w2.heap.size ∧ w.heap.size < w2.heap.size := by have := hP2.lp; omega
      have hso' := Lib.hid (hso.imp (ok' := fun b => b ≠ pb ∧ b ≠ w.heap.size) (fun b hb => by have hb' : w2.heap.size ≤ b := hb; omega))
      clear hc2 hP2 hbx2 hB2 hB3 hso
      have q0 := hbx3.c0
      have qz := hbx3.z0
      have hc3 := hP3.c0
      go_wp2_with fail
      generalize hW4 : w3.setCell ⟨w.heap.size, 0, none⟩ (.int .i64 1) = w4
      have hF4 : Fr [w.heap.size] w3 w4 := by rw [← hW4]; exact (Fr.refl _ _).setCell (by simp) _
      have hbx4 : Box22 w4 w.heap.size 1 i f sz pv := by rw [← hW4]; exact hbx3.kind 1
      have hP4 := hP3.apart hF4 (fun k hk => by simp at hk; subst hk; exact .inl hwl)
      have hB4' : Below w.heap.size w w4 := (hB0.trans (hB4.mono (Nat.le_of_lt hwl))).trans (hF4.below (by have := hB0.trans (hB4.mono (Nat.le_of_lt hwl)); exact this.size) (by simp))
      have hso4 := Lib.hid (hso'.out.fr hF4 (fun b hb => by have := hb.2; simpa using this))
      clear hW4 hF4 hbx3 hP3 hB4 hso' q0 qz hc3
      refine (mWorn _ pm pb _ hP4.mem hP4.mlen).mono ?_
      rintro e w5 ⟨vw, rfl, hsw, hB5⟩
      have hP5 := hP4.fr (Fr.of_below hB5)
      have hbx5 := hbx4.fr (S := []) (Fr.of_below hB5) List.not_mem_nil
      have hB6 := hB4'.trans (hB5.mono hB4'.size)
      have hso5 := Lib.hid (hso4.out.fr (S := []) (Fr.of_below hB5) (fun _ _ => List.not_mem_nil))
      have hnlen : (nats (idxs Sec.worn (flM s.M))).length ≤ 64 := by have := idxs_length_le Sec.worn (flM s.M); rw [flM_length, hsM] at this; simp [nats]; omega
      have hnl2 : (nats (idxs Sec.worn (flM s.M))).length = (idxs Sec.worn (flM s.M)).length := by simp [nats]
      clear hP4 hbx4 hB4' hso4 hB5
      obtain ⟨wa, wc, rfl, hwc, hwx⟩ := hsw
      have hwx' := Lib.hid hwx
      have hsM' := Lib.hid hsM
      have hnl3 := Lib.hid hnl2
      clear hwx hsM hnl2
      have k1 := hbx5.c1
      go_wp2_with fail
      go_loop [13, 60] (fun b t => ∃ j : Nat, j ≤ (nats (idxs Sec.worn (flM s.M))).length ∧ t = .int .i64 (j : Int) ∧ b = .bool (anyEq ((idxs Sec.worn (flM s.M)).take j) i)) (fun _ t => (nats (idxs Sec.worn (flM s.M))).length - (intOf t).toNat)
      case atStart => exact ⟨0, Nat.zero_le _, rfl, rfl⟩
      case round =>
        obtain ⟨j, hj, rfl, rfl⟩ := hrel
        by_cases hjl : j < (nats (idxs Sec.worn (flM s.M))).length
        · have hjli : (j : Int) < ((nats (idxs Sec.worn (flM s.M))).length : Int) := by omega
          obtain ⟨b, off, rfl, _, hbl, hcell⟩ := hwx'.out (by omega)
          have hjd : j < (idxs Sec.worn (flM s.M)).length := by have := hnl3.out; omega
          have hcj := hcell j (.int .i64 ((idxs Sec.worn (flM s.M))[j] : Int)) (by simp [nats, hjd])
          have hsu := Lib.hid (anyEq_succ (idxs Sec.worn (flM s.M)) i j hjd)
          clear hcell
          cases hb : anyEq ((idxs Sec.worn (flM s.M)).take j) i
          all_goals
            have hb' := Lib.hid hb
            clear hb
            go_wp2_with fail
            go_round
            case rel => exact ⟨j + 1, by omega, by go_num, by rw [hsu.out, hb'.out]; simp⟩
            case measure => simp [intOf]; omega
        · obtain rfl : j = (nats (idxs Sec.worn (flM s.M))).length := by omega
          rw [show List.take (nats (idxs Sec.worn (flM s.M))).length (idxs Sec.worn (flM s.M)) = idxs Sec.worn (flM s.M) from List.take_of_length_le (by rw [hnl3.out]; exact Nat.le_refl _)]
          obtain ⟨wb, hwb⟩ : ∃ wb, anyEq (idxs Sec.worn (flM s.M)) i = wb := ⟨_, rfl⟩
          have hwb' := Lib.hid hwb
          rw [hwb]
          have hpv5 := (hpv'.out.below (hB6.mono (Nat.le_refl _))).imp (ok' := fun b => b < W0.heap.size) (fun b hb => Nat.lt_trans hb hwl)
          have hlp5 := hP5.lp
          have hpl := mPlay1 w5 p pm pb (flM s.M) hP5.mem hP5.mlen hP5.c0 hP5.lp.2.2.2.2.2.2.2 i f sz pv
          have hpl' := Lib.hid hpl
          have hP5' := Lib.hid hP5
          have hbx5' := Lib.hid hbx5
          have hwf0 := Lib.hid (show WFM (flM s.M) from hP5.wf)
          have hd0 := hbx5.c0
          have hd2 := hbx5.c2
          have hd3 := hbx5.c3
          have hd4 := hbx5.c4
          obtain ⟨pva, pvn, pvc, rfl⟩ : ∃ a n c, pv = .slice a n c := by obtain ⟨a, c, h, _⟩ := hpv5; exact ⟨_, _, _, h⟩
          clear hwb hpl hpv5 hbx5 hwx' hP5
          by_cases hok : isIn (flM s.M) i ∧ (text22 f sz).size = 64
          · rw [show wrE (flM s.M) i (text22 f sz) = 0 from if_pos hok] at hpl'
            have hok' := Lib.hid hok
            clear hok
            cases wb
            · go_wp2_with fail
              refine hpl'.out.mono ?_
              rintro e w6 ⟨rfl, hM6, hF6⟩
              have hP6 := hP5'.out.step hM6 hF6 (wrM_WF hwf0.out _ _) (by rw [wrM_length]; exact hP5'.out.mlen)
              have hbx6 := hbx5'.out.fr hF6 (by simp; omega)
              have hB8 := hB6.trans (hF6.below hB6.size (by simp; omega))
              have hso6 := Lib.hid (hso5.out.fr hF6 (fun b hb => by have := hb.1; simpa using this))
              clear hpl' hM6 hF6 hbx5' hP5' hd0 hd2 hd3 hd4 k1 hso5
              have hc6 := hP6.c0
              go_wp2_with fail
              refine (mFlush _ pm pb _ hP6.mem hP6.mlen hP6.wf).mono ?_
              rintro e w7 ⟨rfl, hM7, hF7⟩
              have hP7 := hP6.step hM7 hF7 (flM_WF hP6.wf) (by rw [flM_length]; exact hP6.mlen)
              have hbx7 := hbx6.fr hF7 (by simp; omega)
              have hB9 := hB8.trans (hF7.below hB8.size (by simp; omega))
              have hso7 := Lib.hid (hso6.out.fr hF7 (fun b hb => by have := hb.1; simpa using this))
              have hro := rolls hwf0.out (fl_all s.M) hok'.out.1 hok'.out.2 (anyEq_worn hok'.out.1 hwb'.out)
              have hin7 : isIn (flM (wrM (flM s.M) i (text22 f sz))) i := by have := hok'.out.1; unfold isIn at this ⊢; rw [flM_length, wrM_length]; exact this
              have cR : ∀ m, Calls Try.prog 27 #[.pointer (some ⟨pm, 0, none⟩), .int .i64 i] (w7.drewN m) fun e w' => e = .returned (.tuple #[.string (text22 f sz), .int .i64 0]) ∧ w' = w7.drewN m := fun m => by
                have := mRead (w7.drewN m) pm pb _ (hM7.fr (S := []) ((Fr.refl _ _).drewN _) List.not_mem_nil List.not_mem_nil) hP7.mlen i
                rw [hro.1, show rdE (flM (wrM (flM s.M) i (text22 f sz))) i = 0 from if_pos hin7] at this
                exact this.mono fun _ _ ⟨he, hw⟩ => ⟨he, hw.symm⟩
              have cR' := Lib.hid cR
              have hin7' := Lib.hid hin7
              have him := Lib.hid hro.2
              clear hP6 hbx6 hB8 hso6 hc6 hM7 hF7 hro cR hin7
              have hc7 := hP7.c0
              have k0 := hbx7.c0
              have k1 := hbx7.c1
              go_wp2_with fail
              go_quiet ((go_at_call 27; exact Calls.quiet_of_same (cR'.out _)))
              go_wp2_with fail
              generalize hWd : w7.drewN nq = wd
              have hFd : Fr [] w7 wd.drew := by rw [← hWd]; exact ((Fr.refl _ _).drewN _).drew
              have hPd := hP7.fr hFd
              have hbxd := hbx7.fr (S := []) hFd List.not_mem_nil
              have hBd := hB9.trans (hFd.below hB9.size (by simp))
              have hsod := Lib.hid (hso7.out.fr (S := []) hFd (fun _ _ => List.not_mem_nil))
              have kd0 : wd.cell? ⟨p, 0, none⟩ = some (.pointer (some ⟨pm, 0, none⟩)) := hPd.c0
              have kd1 : wd.cell? ⟨w.heap.size, 1, none⟩ = some (.int .i64 i) := hbxd.c1
              clear hWd hFd hP7 hbx7 hB9 hso7 hc7 k0 k1
              go_still_tail 6, (by kernel_rfl)
              change wpList _ _ _ _ _ wd.drew
              go_wp2_with fail
              refine (mStale _ pm pb _ hPd.mem hPd.mlen i).mono ?_
              rintro e w8 ⟨rfl, hM8, hF8⟩
              rw [show rdE (flM (wrM (flM s.M) i (text22 f sz))) i = 0 from if_pos hin7'.out]
              have hP8 := hPd.step hM8 hF8 (stM_WF hPd.wf _) (by rw [stM_length]; exact hPd.mlen)
              have hbx8 := hbxd.fr hF8 (by simp; omega)
              have hBe := hBd.trans (hF8.below hBd.size (by simp; omega))
              have hso8 := Lib.hid (hsod.out.fr hF8 (fun b hb => by have := hb.1; simpa using this))
              clear hPd hbxd hBd hsod kd0 kd1 hM8 hF8
              go_wp2_with fail
              refine (lSanity _).mono ?_
              rintro e w9 ⟨rfl, hB9⟩
              have hP9 := hP8.fr (Fr.of_below hB9)
              have hbx9 := hbx8.fr (S := []) (Fr.of_below hB9) List.not_mem_nil
              have hBf := hBe.trans (hB9.mono hBe.size)
              have hso9 := Lib.hid (hso8.out.fr (S := []) (Fr.of_below hB9) (fun _ _ => List.not_mem_nil))
              clear hP8 hbx8 hBe hso8 hB9
              have k0 := hbx9.c0
              have k1 := hbx9.c1
              have k2 := hbx9.c2
              have k3 := hbx9.c3
              have k4 := hbx9.c4
              go_wp2_with fail
              refine (rText _ _ _ _ _ _).mono ?_
              rintro e wa ⟨rfl, hBa⟩
              have hPa := hP9.fr (Fr.of_below hBa)
              have hBg := hBf.trans (hBa.mono hBf.size)
              have hsoa := Lib.hid (hso9.out.fr (S := []) (Fr.of_below hBa) (fun _ _ => List.not_mem_nil))
              clear hP9 hbx9 hBf hso9 hBa k0 k1 k2 k3 k4
              have hca := hPa.c0
              go_wp2_with fail
              refine (mImage _ pm pb _ hPa.mem hPa.mlen).mono ?_
              rintro e wb ⟨vi, rfl, hsi, hBb⟩
              have hBh := hBg.trans (hBb.mono hBg.size)
              have hsob := hsoa.out.fr (S := []) (Fr.of_below hBb) (fun _ _ => List.not_mem_nil)
              rw [him.out] at hsi
              have cS := rSameTexts wb _ _ _ _ _ _ hsi hsob (by have := hsM'.out; simp [imgM, flM_length]; omega)
              rw [decide_eq_true rfl] at cS
              obtain ⟨ja, jk, jc, rfl⟩ : ∃ a n c, vi = .slice a n c := by obtain ⟨a, c, h, _⟩ := hsi; exact ⟨_, _, _, h⟩
              clear hPa hBg hsoa hca hBb hsob hsi
              go_wp2_with fail
              refine cS.mono ?_
              clear cS
              rintro e wc ⟨rfl, hFc⟩
              have hBi := hBh.trans (hFc.below hBh.size (by simp))
              clear hFc hBh
              go_wp2
              go_ret
              exact ⟨rfl, hBi⟩
            · go_wp2_with fail
              refine hpl'.out.mono ?_
              rintro e w6 ⟨rfl, hM6, hF6⟩
              have hB8 := hB6.trans (hF6.below hB6.size (by simp; omega))
              clear hpl' hM6 hF6 k1 hd0 hd2 hd3 hd4
              go_wp2_with fail
              refine (lSanity _).mono ?_
              rintro e w7 ⟨rfl, hB9⟩
              go_wp2
              go_ret
              exact ⟨rfl, hB8.trans (hB9.mono hB8.size)⟩
          · rw [show wrE (flM s.M) i (text22 f sz) = 1 from if_neg hok] at hpl'
            clear hok
            go_wp2_with fail
            refine hpl'.out.mono ?_
            rintro e w6 ⟨rfl, hM6, hF6⟩
            have hB8 := hB6.trans (hF6.below hB6.size (by simp; omega))
            clear hpl' hM6 hF6 k1 hd0 hd2 hd3 hd4
            go_wp2_with fail
            refine (lSanity _).mono ?_
            rintro e w7 ⟨rfl, hB9⟩
            go_wp2
            go_ret
            exact ⟨rfl, hB8.trans (hB9.mono hB8.size)⟩

theorem lRolls (w : World) (n : Int) (v1 : Value) (ops : List OpT) (hs : ScrAt w w.heap.size v1 ops) (kd i : Int) (f : UInt8) (sz : Int) (pv : Value) (zs : List Int) (hzl : zs.length ≤ maxLen) (hpv : SlAt w (fun b => b < w.heap.size) pv (ints zs)) :
    Calls Try.prog 8 #[.int .i64 n, v1, .agg #[.int .i64 kd, .int .i64 i, .int .u8 f.toNat, .int .i64 sz, pv]] w fun e w' => e = .returned (.bool true) ∧ Below w.heap.size w w' := by
  by_cases hbad : n < 1 ∨ 64 < n
  · exact rolls_bad w n v1 ops hs kd i f sz pv hbad
  · obtain ⟨k, rfl⟩ : ∃ k : Nat, n = (k : Int) := ⟨n.toNat, by omega⟩
    by_cases hlong : 60 < ops.length
    · exact rolls_long w k v1 ops hs kd i f sz pv (by omega) (by omega) hlong
    · exact rolls_ok w k v1 ops hs kd i f sz pv zs hzl hpv (by omega) (by omega) (by omega)

end Go.Proofs.Ytogljlloobjeoaa
