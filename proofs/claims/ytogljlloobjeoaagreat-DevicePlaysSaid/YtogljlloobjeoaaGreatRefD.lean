/- settle, Flush and Cut of the reference of chapter 22. -/
import Derived.Test.YtogljlloobjeoaaGreatRefC
namespace Go.Proofs.YtogljlloobjeoaaGreat
open Go.RowKit

/-- The first k dirty sectors are settled. -/
def rpart (p : Nat → Int) (M : List Sec) (k : Nat) : List Sec := M.mapIdx fun j s => if before M j < k ∧ s.dirty = true then s.settle (p j) else s
theorem rpart_length (p : Nat → Int) (M : List Sec) (k : Nat) : (rpart p M k).length = M.length := by simp [rpart]
theorem rpart_get (p : Nat → Int) (M : List Sec) (k j : Nat) : (rpart p M k)[j]? = M[j]?.map fun s => if before M j < k ∧ s.dirty = true then s.settle (p j) else s := by
  simp [rpart, List.getElem?_mapIdx]
theorem rpart_zero (p : Nat → Int) (M : List Sec) : rpart p M 0 = M := by
  apply List.ext_getElem?; intro j; rw [rpart_get]; cases M[j]? <;> simp
theorem rpart_here (p : Nat → Int) (M : List Sec) (k j : Nat) (h : before M j = k) : (rpart p M k)[j]? = M[j]? := by
  rw [rpart_get, h]; cases M[j]? <;> simp
theorem before_lt {M : List Sec} {i j : Nat} (h : i < j) {s : Sec} (hs : M[i]? = some s) (hd : s.dirty = true) : before M i < before M j := by
  have h1 := before_succ M i s hs
  rw [if_pos hd] at h1
  have h2 : ∀ a b, a ≤ b → before M a ≤ before M b := fun a b hab => by
    unfold before
    have : (M.take a) <+: (M.take b) := List.take_prefix_take_left hab
    exact (this.filter _).length_le
  have := h2 (i + 1) j h
  omega
theorem rpart_step (p : Nat → Int) (M : List Sec) (k i : Nat) (s : Sec) (hs : M[i]? = some s) (hd : s.dirty = true) (hb : before M i = k) : rpart p M (k + 1) = (rpart p M k).set i (s.settle (p i)) := by
  have hi : i < M.length := (List.getElem?_eq_some_iff.1 hs).1
  apply List.ext_getElem?; intro j
  rw [List.getElem?_set, rpart_get, rpart_get]
  by_cases e : i = j
  · subst e
    rw [if_pos rfl, if_pos (by rw [rpart_length]; exact hi), hs]
    simp [hd, hb]
  · rw [if_neg e]
    cases hj : M[j]? with
    | none => rfl
    | some t =>
      cases ht : t.dirty
      · simp [ht]
      · have hne : before M j ≠ k := by
          rcases Nat.lt_or_gt_of_ne e with h | h
          · have := before_lt h hs hd; omega
          · have := before_lt h hj ht; omega
        have : (before M j < k + 1) = (before M j < k) := by rw [eq_iff_iff]; omega
        simp only [this]
theorem idxFrom_get (M : List Sec) : ∀ (o k i : Nat), (idxFrom Sec.dirty o M)[k]? = some i → ∃ s, o ≤ i ∧ M[i - o]? = some s ∧ s.dirty = true ∧ before M (i - o) = k := by
  induction M with
  | nil => intro o k i h; simp [idxFrom] at h
  | cons s M ih =>
    intro o k i h
    unfold idxFrom at h
    cases hd : s.dirty
    · rw [hd] at h
      simp only [Bool.false_eq_true, if_false] at h
      obtain ⟨t, h1, h2, h3, h4⟩ := ih _ _ _ h
      have he : i - o = (i - (o + 1)) + 1 := by omega
      refine ⟨t, by omega, ?_, h3, ?_⟩
      · rw [he, List.getElem?_cons_succ]; exact h2
      · rw [he, before_cons, hd]; simpa using h4
    · rw [hd] at h
      simp only [if_true] at h
      cases k with
      | zero =>
        simp at h; subst h
        exact ⟨s, Nat.le_refl _, by simp, hd, by simp [before]⟩
      | succ k =>
        rw [List.getElem?_cons_succ] at h
        obtain ⟨t, h1, h2, h3, h4⟩ := ih _ _ _ h
        have he : i - o = (i - (o + 1)) + 1 := by omega
        refine ⟨t, by omega, ?_, h3, ?_⟩
        · rw [he, List.getElem?_cons_succ]; exact h2
        · rw [he, before_cons, hd, h4]; simp [Nat.add_comm]
theorem idxs_get {M : List Sec} {k i : Nat} (h : (idxs Sec.dirty M)[k]? = some i) : ∃ s, M[i]? = some s ∧ s.dirty = true ∧ before M i = k := by
  obtain ⟨s, _, h2, h3, h4⟩ := idxFrom_get M 0 k i h
  exact ⟨s, h2, h3, h4⟩
theorem idxFrom_length (M : List Sec) : ∀ o, (idxFrom Sec.dirty o M).length = (M.filter Sec.dirty).length := by
  induction M with
  | nil => intro o; rfl
  | cons s M ih => intro o; unfold idxFrom; cases hd : s.dirty <;> simp [hd, ih]
theorem idxs_length (M : List Sec) : (idxs Sec.dirty M).length = before M M.length := by
  unfold idxs before; rw [idxFrom_length, List.take_length]
theorem rpart_all (p : Nat → Int) (M : List Sec) : rpart p M (idxs Sec.dirty M).length = part p M M.length := by
  apply List.ext_getElem?; intro j
  rw [rpart_get, part_get, idxs_length]
  cases hj : M[j]? with
  | none => rfl
  | some s =>
    have hjl : j < M.length := (List.getElem?_eq_some_iff.1 hj).1
    cases hd : s.dirty
    · simp [hd]
    · have := before_lt hjl hj hd
      simp [hd, hjl, this]

/-- Behind the stores of settle: the sector is written back. -/
theorem MemAt.back {w : World} {pm pb i : Nat} {M : List Sec} {s t : Sec} (h : MemAt w pm pb M) (hi : M[i]? = some s) :
    MemAt (((((w.setCell ⟨pb, i * 5, none⟩ (.string t.now)).setCell ⟨pb, i * 5 + 1, none⟩ (.string t.before)).setCell ⟨pb, i * 5 + 2, none⟩ (.string t.fresh)).setCell ⟨pb, i * 5 + 3, none⟩ (.bool t.dirty)).setCell ⟨pb, i * 5 + 4, none⟩ (.bool t.worn)) pm pb (M.set i t) := by
  obtain ⟨c0, c1, c2, c3, c4⟩ := h.arr.sec i s hi
  refine h.upd (((((Fr.refl _ _).setCell (by simp) _).setCell (by simp) _).setCell (by simp) _).setCell (by simp) _ |>.setCell (by simp) _) ?_ (fun o ho => ?_) (fun o => by simp)
  · refine ⟨?_, ?_, ?_, ?_, ?_⟩ <;> simp [cell_set, c0, c1, c2, c3, c4]
  · rw [cell_set, if_neg (by omega), cell_set, if_neg (by omega), cell_set, if_neg (by omega), cell_set, if_neg (by omega), cell_set, if_neg (by omega)]

set_option maxRecDepth 100000 in
set_option maxHeartbeats 8000000 in
theorem rSettle_all (w : World) (pm pb : Nat) (M : List Sec) (hM : MemAt w pm pb M) (hn : M.length ≤ 4096) (hwf : WFM M) :
    Calls Tryz.prog 103 #[.pointer (some ⟨pm, 0, none⟩), .slice none 0 0, .bool true] w fun e w' => e = .returned (.tuple #[]) ∧ MemAt w' pm pb (flM M) ∧ Fr [pb] w w' := by
  have hltm := hM.lt
  have hltb := hM.arr.lt
  have hdl := idxs_length_le Sec.dirty M
  go_enter Tryz.func103, Tryz.ntmps103
  go_wp2_with fail
  refine (rDirty w pm pb M hM hn).mono ?_
  rintro e w1 ⟨v, rfl, hS, hB⟩
  obtain ⟨a1, cap1, rfl, hc1, hx1⟩ := hS
  have e1 : (nats (idxs Sec.dirty M)).length = (idxs Sec.dirty M).length := by simp [nats]
  rw [e1] at hc1 hx1 ⊢
  clear e1
  obtain ⟨D, hD⟩ : ∃ D, idxs Sec.dirty M = D := ⟨_, rfl⟩
  rw [hD] at hc1 hx1 hdl ⊢
  have hDr : rpart (fun _ => 64) M D.length = (flM M) := by rw [← hD, rpart_all]; exact part_flM M
  have hD' := Lib.hid hD
  have hDr' := Lib.hid hDr
  clear hD hDr
  have hfr1 : Fr [] w w1 := Fr.of_below hB
  have hM1 := hM.fr hfr1 (by simp) (by simp)
  go_wp2
  go_loopw [7, 8, 9] (fun k _ _ wr => ∃ i : Nat, i ≤ D.length ∧ k = .int .i64 (i : Int) ∧ MemAt wr pm pb (rpart (fun _ => 64) M i) ∧ Fr [pb] w1 wr) (fun k _ _ _ => D.length - (intOf k).toNat)
  case atStart => exact ⟨0, Nat.zero_le _, rfl, by rw [rpart_zero]; exact hM1, Fr.refl _ _⟩
  case round =>
    obtain ⟨i, hi, rfl, hMi, hfr⟩ := hrel
    by_cases hlt : i < D.length
    · obtain ⟨b1, o1, rfl, hob, hb1, hcell1⟩ := hx1 (by omega)
      have hDi : D[i]? = some D[i] := List.getElem?_eq_getElem hlt
      have d1 := (hfr.cell (p := ⟨b1, o1 + i, none⟩) hb1 (by have h1 : w.heap.size ≤ b1 := hob; simp; omega)).trans (hcell1 i (.int .i64 (D[i] : Nat)) (by simp [nats, hDi]))
      obtain ⟨j, hj⟩ : ∃ j, D[i] = j := ⟨_, rfl⟩
      rw [hj] at d1
      obtain ⟨s, hs, hd, hbj⟩ := idxs_get (M := M) (k := i) (i := j) (by rw [hD'.out, hDi, hj])
      have hjl : j < M.length := (List.getElem?_eq_some_iff.1 hs).1
      obtain ⟨capi, hci, _⟩ := hMi.ptr
      rw [rpart_length] at hci
      have hhere := rpart_here (fun _ => 64) M i j hbj
      have hstep := rpart_step (fun _ => 64) M i j s hs hd hbj
      obtain ⟨c0, c1, c2, c3, c4⟩ := hMi.arr.sec j s (by rw [hhere]; exact hs)
      have f0 := hMi.arr.frz (j * 5)
      have f1 := hMi.arr.frz (j * 5 + 1)
      have f2 := hMi.arr.frz (j * 5 + 2)
      have f3 := hMi.arr.frz (j * 5 + 3)
      have f4 := hMi.arr.frz (j * 5 + 4)
      have hjlti : (j : Int) < (M.length : Int) := by omega
      have hilti : (i : Int) < (D.length : Int) := by omega
      have hw1 : pm < wr.heap.size := hMi.lt
      have hw2 : pb < wr.heap.size := hMi.arr.lt
      have hw3 : b1 < wr.heap.size := Nat.lt_of_lt_of_le hb1 hfr.size
      have hwe := Lib.hid hw3
      have hi0 : (0 : Int) ≤ (i : Int) := by omega
      clear hx1 hcell1 hj
      have hswf := Lib.hid (hwf s (List.mem_of_getElem? hs))
      have hd2 := Lib.hid hd
      have hstep' := Lib.hid hstep
      have hhere' := Lib.hid (hhere.trans hs)
      clear hs hd hbj hDi hhere hstep
      have hsf : (64 : Int) ≤ (s.fresh.size : Int) := by have := hswf.out.2.2 hd2.out; omega
      have hsn : (64 : Int) ≤ (s.now.size : Int) := by have := hswf.out.1; omega
      have hadd : ∀ W : World, (Op.stringOp .add (s.fresh.extract 0 64) (s.now.extract 64 s.now.size)).run Tryz.prog W = .ok (.string (s.fresh.extract 0 64 ++ s.now.extract 64 s.now.size)) W :=
        fun W => run_string_add_sum W _ _ (by rw [ByteArray.size_extract, ByteArray.size_extract]; have := hswf.out.1; omega)
      go_wp2_with fail
      go_region
      go_wp2
      go_region
      go_wp2
      go_region
      have hb2 := hMi.back (t := { now := s.fresh.extract 0 64 ++ s.now.extract 64 s.now.size, before := s.now, fresh := ⟨#[]⟩, dirty := false, worn := s.worn }) hhere'.out
      have hset : rpart (fun _ => 64) M (i + 1) = (rpart (fun _ => 64) M i).set j { now := s.fresh.extract 0 64 ++ s.now.extract 64 s.now.size, before := s.now, fresh := ⟨#[]⟩, dirty := false, worn := s.worn } := by
        rw [hstep'.out]
        congr 1
        all_goals
          have hp0 : (fun _ : Nat => (64 : Int)) j = 64 := rfl
          rw [hp0]
          exact if_pos (by omega)
      rw [← hset] at hb2
      have hfr2 : Fr [pb] w1 ((((((wr.setCell ⟨pb, j * 5, none⟩ (.string (s.fresh.extract 0 64 ++ s.now.extract 64 s.now.size))).setCell ⟨pb, j * 5 + 1, none⟩ (.string s.now)).setCell ⟨pb, j * 5 + 2, none⟩ (.string ⟨#[]⟩)).setCell ⟨pb, j * 5 + 3, none⟩ (.bool false)).setCell ⟨pb, j * 5 + 4, none⟩ (.bool s.worn)).alloc (.cells #[.string (s.fresh.extract 0 64 ++ s.now.extract 64 s.now.size), .string s.now, .string ⟨#[]⟩, .bool false, .bool s.worn] 92)) :=
        (((((hfr.setCell (by simp) _).setCell (by simp) _).setCell (by simp) _).setCell (by simp) _).setCell (by simp) _).alloc _
      have hb3 := hb2.fr (S := []) ((Fr.refl _ _).alloc (.cells #[.string (s.fresh.extract 0 64 ++ s.now.extract 64 s.now.size), .string s.now, .string ⟨#[]⟩, .bool false, .bool s.worn] 92)) (by simp) (by simp)
      clear c0 c1 c2 c3 c4 f0 f1 f2 f3 f4 hci d1 hb2 hadd
      go_wp2
      go_roundw
      case rel => exact ⟨i + 1, by omega, by go_num, hb3.fr (S := []) ((Fr.refl _ _).drew.drew.drew) (by simp) (by simp), hfr2.drew.drew.drew⟩
      case measure => simp [intOf]; omega
    · obtain rfl : i = D.length := by omega
      rw [hDr'.out] at hMi
      go_wp2
      go_end0
      exact ⟨rfl, hMi, (hfr1.weaken (by simp)).trans hfr⟩

set_option maxRecDepth 100000 in
set_option maxHeartbeats 8000000 in
theorem rSettle_cut (w : World) (pm pb : Nat) (M : List Sec) (hM : MemAt w pm pb M) (hn : M.length ≤ 4096) (hwf : WFM M) (vp : Value) (ps : List Int) (ok : Nat → Prop) (hps : SlAt w ok vp (ints ps)) (hok : ∀ b, ok b → b ≠ pb) (_hlen : ps.length ≤ maxLen) :
    Calls Tryz.prog 103 #[.pointer (some ⟨pm, 0, none⟩), vp, .bool false] w fun e w' => e = .returned (.tuple #[]) ∧ MemAt w' pm pb (cutM M ps) ∧ Fr [pb] w w' := by
  have hps' := hps
  obtain ⟨ap, capp, rfl, hcp, hxp⟩ := hps'
  have ep : (ints ps).length = ps.length := by simp [ints]
  rw [ep] at hcp hxp hps ⊢
  clear ep
  have hltm := hM.lt
  have hltb := hM.arr.lt
  have hdl := idxs_length_le Sec.dirty M
  go_enter Tryz.func103, Tryz.ntmps103
  go_wp2_with fail
  refine (rDirty w pm pb M hM hn).mono ?_
  rintro e w1 ⟨v, rfl, hS, hB⟩
  obtain ⟨a1, cap1, rfl, hc1, hx1⟩ := hS
  have e1 : (nats (idxs Sec.dirty M)).length = (idxs Sec.dirty M).length := by simp [nats]
  rw [e1] at hc1 hx1 ⊢
  clear e1
  obtain ⟨D, hD⟩ : ∃ D, idxs Sec.dirty M = D := ⟨_, rfl⟩
  rw [hD] at hc1 hx1 hdl ⊢
  have hDr : rpart (pickAt M ps) M D.length = (cutM M ps) := by rw [← hD, rpart_all]; exact part_cutM M ps
  have hD' := Lib.hid hD
  have hDr' := Lib.hid hDr
  clear hD hDr
  have hfr1 : Fr [] w w1 := Fr.of_below hB
  have hM1 := hM.fr hfr1 (by simp) (by simp)
  go_wp2
  go_loopw [7, 8, 9] (fun k _ _ wr => ∃ i : Nat, i ≤ D.length ∧ k = .int .i64 (i : Int) ∧ MemAt wr pm pb (rpart (pickAt M ps) M i) ∧ Fr [pb] w1 wr) (fun k _ _ _ => D.length - (intOf k).toNat)
  case atStart => exact ⟨0, Nat.zero_le _, rfl, by rw [rpart_zero]; exact hM1, Fr.refl _ _⟩
  case round =>
    obtain ⟨i, hi, rfl, hMi, hfr⟩ := hrel
    by_cases hlt : i < D.length
    · obtain ⟨b1, o1, rfl, hob, hb1, hcell1⟩ := hx1 (by omega)
      have hDi : D[i]? = some D[i] := List.getElem?_eq_getElem hlt
      have d1 := (hfr.cell (p := ⟨b1, o1 + i, none⟩) hb1 (by have h1 : w.heap.size ≤ b1 := hob; simp; omega)).trans (hcell1 i (.int .i64 (D[i] : Nat)) (by simp [nats, hDi]))
      obtain ⟨j, hj⟩ : ∃ j, D[i] = j := ⟨_, rfl⟩
      rw [hj] at d1
      obtain ⟨s, hs, hd, hbj⟩ := idxs_get (M := M) (k := i) (i := j) (by rw [hD'.out, hDi, hj])
      have hjl : j < M.length := (List.getElem?_eq_some_iff.1 hs).1
      obtain ⟨capi, hci, _⟩ := hMi.ptr
      rw [rpart_length] at hci
      have hhere := rpart_here (pickAt M ps) M i j hbj
      have hstep := rpart_step (pickAt M ps) M i j s hs hd hbj
      obtain ⟨c0, c1, c2, c3, c4⟩ := hMi.arr.sec j s (by rw [hhere]; exact hs)
      have f0 := hMi.arr.frz (j * 5)
      have f1 := hMi.arr.frz (j * 5 + 1)
      have f2 := hMi.arr.frz (j * 5 + 2)
      have f3 := hMi.arr.frz (j * 5 + 3)
      have f4 := hMi.arr.frz (j * 5 + 4)
      have hjlti : (j : Int) < (M.length : Int) := by omega
      have hilti : (i : Int) < (D.length : Int) := by omega
      have hw1 : pm < wr.heap.size := hMi.lt
      have hw2 : pb < wr.heap.size := hMi.arr.lt
      have hw3 : b1 < wr.heap.size := Nat.lt_of_lt_of_le hb1 hfr.size
      have hwe := Lib.hid hw3
      have hi0 : (0 : Int) ≤ (i : Int) := by omega
      clear hx1 hcell1 hj
      have hswf := Lib.hid (hwf s (List.mem_of_getElem? hs))
      have hd2 := Lib.hid hd
      have hstep' := Lib.hid hstep
      have hhere' := Lib.hid (hhere.trans hs)
      have hpk := Lib.hid (show pickAt M ps j = clampP (ps.getD i 0) by unfold pickAt; rw [hbj])
      clear hs hd hbj hDi hhere hstep
      by_cases hip : i < ps.length
      · obtain ⟨bp, op, rfl, hobp, hbp, hcellp⟩ := hxp (by omega)
        have hbpw : bp < wr.heap.size := by have := hB.size; have := hfr.size; omega
        have hpi : ps[i]? = some ps[i] := List.getElem?_eq_getElem hip
        obtain ⟨x, hx⟩ : ∃ x, ps[i] = x := ⟨_, rfl⟩
        have dp := (hfr.cell (p := ⟨bp, op + i, none⟩) (by have := hB.size; show bp < _; omega) (by have := hok bp hobp; simpa using this)).trans ((hB.cell (p := ⟨bp, op + i, none⟩) (by exact hbp)).trans (hcellp i (.int .i64 x) (by simp [ints, hpi, hx])))
        have hgx := Lib.hid (show ps.getD i 0 = x by rw [List.getD_eq_getElem?_getD, hpi, hx]; rfl)
        clear hxp hcellp hx hpi
        have hipi : (i : Int) < (ps.length : Int) := by omega
        by_cases hx0 : x ≤ 0
        · go_wp2_with fail
          go_region
          go_wp2
          go_region
          have hb2 := hMi.back (t := { s with fresh := ⟨#[]⟩, dirty := false }) hhere'.out
          have hset : rpart (pickAt M ps) M (i + 1) = (rpart (pickAt M ps) M i).set j { s with fresh := ⟨#[]⟩, dirty := false } := by
            rw [hstep'.out]
            congr 1
            have hp0 : pickAt M ps j = 0 := by rw [hpk.out, hgx.out]; unfold clampP; omega
            rw [hp0]
            rfl
          rw [← hset] at hb2
          have hfr2 : Fr [pb] w1 ((((((wr.setCell ⟨pb, j * 5, none⟩ (.string s.now)).setCell ⟨pb, j * 5 + 1, none⟩ (.string s.before)).setCell ⟨pb, j * 5 + 2, none⟩ (.string ⟨#[]⟩)).setCell ⟨pb, j * 5 + 3, none⟩ (.bool false)).setCell ⟨pb, j * 5 + 4, none⟩ (.bool s.worn)).alloc (.cells #[.string s.now, .string s.before, .string ⟨#[]⟩, .bool false, .bool s.worn] 92)) :=
            (((((hfr.setCell (by simp) _).setCell (by simp) _).setCell (by simp) _).setCell (by simp) _).setCell (by simp) _).alloc _
          have hb3 := hb2.fr (S := []) ((Fr.refl _ _).alloc (.cells #[.string s.now, .string s.before, .string ⟨#[]⟩, .bool false, .bool s.worn] 92)) (by simp) (by simp)
          clear c0 c1 c2 c3 c4 f0 f1 f2 f3 f4 hci d1 hb2
          go_wp2
          go_roundw
          case rel => exact ⟨i + 1, by omega, by go_num, hb3.fr (S := []) ((Fr.refl _ _).drew.drew) (by simp) (by simp), hfr2.drew.drew⟩
          case measure => simp [intOf]; omega
        · by_cases hx64 : x ≤ 64
          · have hx0i : 0 < x := by omega
            have hx0l : 0 ≤ x := by omega
            have hsf : x ≤ (s.fresh.size : Int) := by have := hswf.out.2.2 hd2.out; omega
            have hsn : x ≤ (s.now.size : Int) := by have := hswf.out.1; omega
            have hadd : ∀ W : World, (Op.stringOp .add (s.fresh.extract 0 x.toNat) (s.now.extract x.toNat s.now.size)).run Tryz.prog W = .ok (.string (s.fresh.extract 0 x.toNat ++ s.now.extract x.toNat s.now.size)) W :=
              fun W => run_string_add_sum W _ _ (by rw [ByteArray.size_extract, ByteArray.size_extract]; have := hswf.out.1; omega)
            go_wp2_with fail
            go_region
            go_wp2
            go_region
            go_wp2
            go_region
            have hb2 := hMi.back (t := { now := s.fresh.extract 0 x.toNat ++ s.now.extract x.toNat s.now.size, before := s.now, fresh := ⟨#[]⟩, dirty := false, worn := s.worn }) hhere'.out
            have hset : rpart (pickAt M ps) M (i + 1) = (rpart (pickAt M ps) M i).set j { now := s.fresh.extract 0 x.toNat ++ s.now.extract x.toNat s.now.size, before := s.now, fresh := ⟨#[]⟩, dirty := false, worn := s.worn } := by
              rw [hstep'.out]
              congr 1
              all_goals
                have hp0 : pickAt M ps j = x := by rw [hpk.out, hgx.out]; unfold clampP; omega
                rw [hp0]
                exact if_pos (by omega)
            rw [← hset] at hb2
            have hfr2 : Fr [pb] w1 ((((((wr.setCell ⟨pb, j * 5, none⟩ (.string (s.fresh.extract 0 x.toNat ++ s.now.extract x.toNat s.now.size))).setCell ⟨pb, j * 5 + 1, none⟩ (.string s.now)).setCell ⟨pb, j * 5 + 2, none⟩ (.string ⟨#[]⟩)).setCell ⟨pb, j * 5 + 3, none⟩ (.bool false)).setCell ⟨pb, j * 5 + 4, none⟩ (.bool s.worn)).alloc (.cells #[.string (s.fresh.extract 0 x.toNat ++ s.now.extract x.toNat s.now.size), .string s.now, .string ⟨#[]⟩, .bool false, .bool s.worn] 92)) :=
              (((((hfr.setCell (by simp) _).setCell (by simp) _).setCell (by simp) _).setCell (by simp) _).setCell (by simp) _).alloc _
            have hb3 := hb2.fr (S := []) ((Fr.refl _ _).alloc (.cells #[.string (s.fresh.extract 0 x.toNat ++ s.now.extract x.toNat s.now.size), .string s.now, .string ⟨#[]⟩, .bool false, .bool s.worn] 92)) (by simp) (by simp)
            clear c0 c1 c2 c3 c4 f0 f1 f2 f3 f4 hci d1 hb2 hadd
            go_wp2
            go_roundw
            case rel => exact ⟨i + 1, by omega, by go_num, hb3.fr (S := []) ((Fr.refl _ _).drew.drew.drew) (by simp) (by simp), hfr2.drew.drew.drew⟩
            case measure => simp [intOf]; omega
          · have hx64i : 64 < x := by omega
            have hsf : (64 : Int) ≤ (s.fresh.size : Int) := by have := hswf.out.2.2 hd2.out; omega
            have hsn : (64 : Int) ≤ (s.now.size : Int) := by have := hswf.out.1; omega
            have hadd : ∀ W : World, (Op.stringOp .add (s.fresh.extract 0 64) (s.now.extract 64 s.now.size)).run Tryz.prog W = .ok (.string (s.fresh.extract 0 64 ++ s.now.extract 64 s.now.size)) W :=
              fun W => run_string_add_sum W _ _ (by rw [ByteArray.size_extract, ByteArray.size_extract]; have := hswf.out.1; omega)
            go_wp2_with fail
            go_region
            go_wp2
            go_region
            go_wp2
            go_region
            have hb2 := hMi.back (t := { now := s.fresh.extract 0 64 ++ s.now.extract 64 s.now.size, before := s.now, fresh := ⟨#[]⟩, dirty := false, worn := s.worn }) hhere'.out
            have hset : rpart (pickAt M ps) M (i + 1) = (rpart (pickAt M ps) M i).set j { now := s.fresh.extract 0 64 ++ s.now.extract 64 s.now.size, before := s.now, fresh := ⟨#[]⟩, dirty := false, worn := s.worn } := by
              rw [hstep'.out]
              congr 1
              all_goals
                have hp0 : pickAt M ps j = 64 := by rw [hpk.out, hgx.out]; unfold clampP; omega
                rw [hp0]
                exact if_pos (by omega)
            rw [← hset] at hb2
            have hfr2 : Fr [pb] w1 ((((((wr.setCell ⟨pb, j * 5, none⟩ (.string (s.fresh.extract 0 64 ++ s.now.extract 64 s.now.size))).setCell ⟨pb, j * 5 + 1, none⟩ (.string s.now)).setCell ⟨pb, j * 5 + 2, none⟩ (.string ⟨#[]⟩)).setCell ⟨pb, j * 5 + 3, none⟩ (.bool false)).setCell ⟨pb, j * 5 + 4, none⟩ (.bool s.worn)).alloc (.cells #[.string (s.fresh.extract 0 64 ++ s.now.extract 64 s.now.size), .string s.now, .string ⟨#[]⟩, .bool false, .bool s.worn] 92)) :=
              (((((hfr.setCell (by simp) _).setCell (by simp) _).setCell (by simp) _).setCell (by simp) _).setCell (by simp) _).alloc _
            have hb3 := hb2.fr (S := []) ((Fr.refl _ _).alloc (.cells #[.string (s.fresh.extract 0 64 ++ s.now.extract 64 s.now.size), .string s.now, .string ⟨#[]⟩, .bool false, .bool s.worn] 92)) (by simp) (by simp)
            clear c0 c1 c2 c3 c4 f0 f1 f2 f3 f4 hci d1 hb2 hadd
            go_wp2
            go_roundw
            case rel => exact ⟨i + 1, by omega, by go_num, hb3.fr (S := []) ((Fr.refl _ _).drew.drew.drew) (by simp) (by simp), hfr2.drew.drew.drew⟩
            case measure => simp [intOf]; omega
      · have hgx := Lib.hid (show ps.getD i 0 = 0 by rw [List.getD_eq_getElem?_getD, List.getElem?_eq_none (by omega)]; rfl)
        have hipi : (ps.length : Int) ≤ (i : Int) := by omega
        clear hxp
        go_wp2_with fail
        go_region
        go_wp2
        go_region
        have hb2 := hMi.back (t := { s with fresh := ⟨#[]⟩, dirty := false }) hhere'.out
        have hset : rpart (pickAt M ps) M (i + 1) = (rpart (pickAt M ps) M i).set j { s with fresh := ⟨#[]⟩, dirty := false } := by
          rw [hstep'.out]
          congr 1
          have hp0 : pickAt M ps j = 0 := by rw [hpk.out, hgx.out]; rfl
          rw [hp0]
          rfl
        rw [← hset] at hb2
        have hfr2 : Fr [pb] w1 ((((((wr.setCell ⟨pb, j * 5, none⟩ (.string s.now)).setCell ⟨pb, j * 5 + 1, none⟩ (.string s.before)).setCell ⟨pb, j * 5 + 2, none⟩ (.string ⟨#[]⟩)).setCell ⟨pb, j * 5 + 3, none⟩ (.bool false)).setCell ⟨pb, j * 5 + 4, none⟩ (.bool s.worn)).alloc (.cells #[.string s.now, .string s.before, .string ⟨#[]⟩, .bool false, .bool s.worn] 92)) :=
          (((((hfr.setCell (by simp) _).setCell (by simp) _).setCell (by simp) _).setCell (by simp) _).setCell (by simp) _).alloc _
        have hb3 := hb2.fr (S := []) ((Fr.refl _ _).alloc (.cells #[.string s.now, .string s.before, .string ⟨#[]⟩, .bool false, .bool s.worn] 92)) (by simp) (by simp)
        clear c0 c1 c2 c3 c4 f0 f1 f2 f3 f4 hci d1 hb2
        go_wp2
        go_roundw
        case rel => exact ⟨i + 1, by omega, by go_num, hb3.fr (S := []) ((Fr.refl _ _).drew.drew) (by simp) (by simp), hfr2.drew.drew⟩
        case measure => simp [intOf]; omega
    · obtain rfl : i = D.length := by omega
      rw [hDr'.out] at hMi
      go_wp2
      go_end0
      exact ⟨rfl, hMi, (hfr1.weaken (by simp)).trans hfr⟩

set_option maxHeartbeats 400000 in
theorem rFlush (w : World) (pm pb : Nat) (M : List Sec) (hM : MemAt w pm pb M) (hn : M.length ≤ 4096) (hwf : WFM M) :
    Calls Tryz.prog 84 #[.pointer (some ⟨pm, 0, none⟩)] w fun e w' => e = .returned (.tuple #[]) ∧ MemAt w' pm pb (flM M) ∧ Fr [pb] w w' := by
  go_enter Tryz.func84, Tryz.ntmps84
  go_wp2_with (go_at_call 103; refine (rSettle_all w pm pb M hM hn hwf).mono ?_; rintro e w' ⟨rfl, h1, h2⟩)
  go_end0
  exact ⟨rfl, h1, h2⟩
set_option maxHeartbeats 400000 in
theorem rCut (w : World) (pm pb : Nat) (M : List Sec) (hM : MemAt w pm pb M) (hn : M.length ≤ 4096) (hwf : WFM M) (vp : Value) (ps : List Int) (ok : Nat → Prop) (hps : SlAt w ok vp (ints ps)) (hok : ∀ b, ok b → b ≠ pb) (hlen : ps.length ≤ maxLen) :
    Calls Tryz.prog 85 #[.pointer (some ⟨pm, 0, none⟩), vp] w fun e w' => e = .returned (.tuple #[]) ∧ MemAt w' pm pb (cutM M ps) ∧ Fr [pb] w w' := by
  have H := Lib.hid (rSettle_cut w pm pb M hM hn hwf vp ps ok hps hok hlen)
  obtain ⟨ap, capp, rfl, _, _⟩ := hps
  go_enter Tryz.func85, Tryz.ntmps85
  go_wp2_with (go_at_call 103; refine H.out.mono ?_; rintro e w' ⟨rfl, h1, h2⟩)
  go_end0
  exact ⟨rfl, h1, h2⟩

end Go.Proofs.YtogljlloobjeoaaGreat
