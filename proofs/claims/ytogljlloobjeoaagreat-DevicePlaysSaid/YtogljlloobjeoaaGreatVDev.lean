/- The methods of the specification's device. -/
import Derived.Test.YtogljlloobjeoaaGreatVBase
import Derived.Test.YtogljlloobjeoaaGreatLoad
import Derived.Test.YtogljlloobjeoaaGreatRefD
import Derived.Test.YtogljlloobjeoaaGreatImg
import Derived.Test.YtogljlloobjeoaaGreatEmp
import Derived.Test.YtogljlloobjeoaaGreatDevE
namespace Go.Proofs.YtogljlloobjeoaaGreat
open Go.RowKit
set_option linter.unusedSimpArgs false
set_option linter.unusedVariables false

theorem RevAt.on {w : World} {B : DB} {d : Dv} (h : RevAt w B d) (hd : d.dn = false) : w.cell? ⟨B.d, 5, none⟩ = some (.bool true) := by rw [h.c5, hd]; rfl
theorem RevAt.off {w : World} {B : DB} {d : Dv} (h : RevAt w B d) (hd : d.dn = true) : w.cell? ⟨B.d, 5, none⟩ = some (.bool false) := by rw [h.c5, hd]; rfl
set_option maxRecDepth 100000 in
set_option maxHeartbeats 1600000 in
theorem qUp (w : World) (B : DB) (d : Dv) (h : RevAt w B d) : Calls Tryz.prog 56 #[.pointer (some ⟨B.d, 0, none⟩)] w fun e w' => e = .returned (.bool (!d.dn)) ∧ w = w' := by
  have c5 := h.c5
  go_enter Tryz.func56, Tryz.ntmps56
  go_wp2
  go_ret
  exact ⟨rfl, rfl⟩
set_option maxRecDepth 100000 in
set_option maxHeartbeats 1600000 in
theorem qCounter (w : World) (B : DB) (d : Dv) (h : RevAt w B d) : Calls Tryz.prog 58 #[.pointer (some ⟨B.d, 0, none⟩)] w fun e w' => e = .returned (.int .i64 d.cnt) ∧ w = w' := by
  have c5 := h.c2
  go_enter Tryz.func58, Tryz.ntmps58
  go_wp2
  go_ret
  exact ⟨rfl, rfl⟩
set_option maxRecDepth 100000 in
set_option maxHeartbeats 1600000 in
theorem qNow (w : World) (B : DB) (d : Dv) (h : RevAt w B d) : Calls Tryz.prog 59 #[.pointer (some ⟨B.d, 0, none⟩)] w fun e w' => e = .returned (.int .i64 d.clk) ∧ w = w' := by
  have c5 := h.c3
  go_enter Tryz.func59, Tryz.ntmps59
  go_wp2
  go_ret
  exact ⟨rfl, rfl⟩
set_option maxRecDepth 100000 in
set_option maxHeartbeats 1600000 in
theorem qSectors (w : World) (B : DB) (d : Dv) (h : RevAt w B d) : Calls Tryz.prog 57 #[.pointer (some ⟨B.d, 0, none⟩)] w fun e w' => e = .returned (.int .i64 d.M.length) ∧ w = w' := by
  have c4 := h.k0
  obtain ⟨cap, hp, _⟩ := h.mem.ptr
  go_enter Tryz.func57, Tryz.ntmps57
  go_wp2
  go_ret
  exact ⟨rfl, rfl⟩
set_option maxRecDepth 100000 in
set_option maxHeartbeats 1600000 in
theorem qImage (w : World) (B : DB) (d : Dv) (h : RevAt w B d) : Calls Tryz.prog 54 #[.pointer (some ⟨B.d, 0, none⟩)] w fun e w' => ∃ v, e = .returned v ∧ SlAt w' (fun b => w.heap.size ≤ b) v (strs (imgM d.M)) ∧ Below w.heap.size w w' := by
  have c4 := h.k0
  have hm := h.mem
  have hl := h.ok.m1
  go_enter Tryz.func54, Tryz.ntmps54
  go_wp2_with fail
  refine (rImage _ _ _ _ hm hl).mono ?_
  rintro e w' ⟨v, rfl, hs, hB⟩
  go_wp2
  go_ret
  exact ⟨_, rfl, hs, hB⟩
set_option maxRecDepth 100000 in
set_option maxHeartbeats 1600000 in
theorem qRead (w : World) (B : DB) (d : Dv) (h : RevAt w B d) (i : Int) : Calls Tryz.prog 41 #[.pointer (some ⟨B.d, 0, none⟩), .int .i64 i] w fun e w' => e = .returned (.tuple #[.string (dRdT d i), .int .i64 (dRdE d i)]) ∧ w = w' := by
  have c4 := h.k0
  have hm := h.mem
  have hl := h.ok.m1
  unfold dRdT dRdE
  cases hd : d.dn
  · have c5 := h.on hd
    clear hd
    go_enter Tryz.func41, Tryz.ntmps41
    go_wp2_with fail
    refine (rRead _ _ _ _ hm hl i).mono ?_
    rintro e w' ⟨rfl, rfl⟩
    go_wp2
    go_ret2
    exact ⟨rfl, rfl⟩
  · have c5 := h.off hd
    clear hd
    go_enter Tryz.func41, Tryz.ntmps41
    go_wp2_with fail
    go_ret2
    exact ⟨rfl, rfl⟩
set_option maxRecDepth 100000 in
set_option maxHeartbeats 1600000 in
theorem qStale (w : World) (B : DB) (d : Dv) (h : RevAt w B d) (i : Int) : Calls Tryz.prog 52 #[.pointer (some ⟨B.d, 0, none⟩), .int .i64 i] w fun e w' => e = .returned (.int .i64 (rdE d.M i)) ∧ RevAt w' B { d with M := stM d.M i } ∧ Fr B.l w w' := by
  have c4 := h.k0
  have hl := h.ok.m1
  go_enter Tryz.func52, Tryz.ntmps52
  go_wp2_with fail
  refine (rStale _ _ _ _ h.mem hl i).mono ?_
  rintro e w' ⟨rfl, hM, hF⟩
  have hr := h.frM hM hF (Keeps.mem _ _ (fun k => stM_WF k _) (stM_length _ _))
  clear hM hF c4 h
  go_wp2
  go_ret
  exact ⟨rfl, hr⟩
set_option maxRecDepth 100000 in
set_option maxHeartbeats 1600000 in
theorem qWear (w : World) (B : DB) (d : Dv) (h : RevAt w B d) (i : Int) : Calls Tryz.prog 53 #[.pointer (some ⟨B.d, 0, none⟩), .int .i64 i] w fun e w' => e = .returned (.int .i64 (rdE d.M i)) ∧ RevAt w' B { d with M := weM d.M i } ∧ Fr B.l w w' := by
  have c4 := h.k0
  have hl := h.ok.m1
  go_enter Tryz.func53, Tryz.ntmps53
  go_wp2_with fail
  refine (rWear _ _ _ _ h.mem hl i).mono ?_
  rintro e w' ⟨rfl, hM, hF⟩
  have hr := h.frM hM hF (Keeps.mem _ _ (fun k => weM_WF k _) (weM_length _ _))
  clear hM hF c4 h
  go_wp2
  go_ret
  exact ⟨rfl, hr⟩
set_option maxRecDepth 100000 in
set_option maxHeartbeats 1600000 in
theorem qRestore (w : World) (B : DB) (d : Dv) (h : RevAt w B d) (ok : Nat → Prop) (v : Value) (l : List ByteArray) (hv : SlAt w ok v (strs l)) (hn : l.length ≤ 4611686018427387904) (hok : ∀ b, ok b → b ∉ B.l) :
    Calls Tryz.prog 55 #[.pointer (some ⟨B.d, 0, none⟩), v] w fun e w' => e = .returned (.int .i64 (ldE d.M l)) ∧ RevAt w' B { d with M := ldM d.M l } ∧ Fr B.l w w' := by
  have c4 := h.k0
  have hl := h.ok.m1
  have hv' := Lib.hid hv
  obtain ⟨a, cap, rfl, _⟩ := hv
  go_enter Tryz.func55, Tryz.ntmps55
  go_wp2_with fail
  refine (rLoad _ _ _ ok _ h.mem hl _ l hv'.out hn (fun b hb e => hok b hb (by subst e; simp [DB.l]))).mono ?_
  rintro e w' ⟨rfl, hM, hF⟩
  have hr := h.frM hM hF (Keeps.mem _ _ (fun k => ldM_WF k _) (ldM_length _ _))
  clear hM hF c4 h
  go_wp2
  go_ret
  exact ⟨rfl, hr⟩
set_option maxRecDepth 100000 in
set_option maxHeartbeats 1600000 in
theorem qTrip (w : World) (B : DB) (d : Dv) (h : RevAt w B d) (n : Int) (hn : n ≤ 9223372036854775807) : Calls Tryz.prog 49 #[.pointer (some ⟨B.d, 0, none⟩), .int .i64 n] w fun e w' => e = .returned (.tuple #[]) ∧ RevAt w' B (dTr d n) ∧ Fr B.l w w' := by
  obtain ⟨ar, l, a1, a2, a3⟩ := h.arm
  have z6 := h.frd 6
  have z7 := h.frd 7
  have hr := Lib.hid (h.trip' n hn)
  have hF : Fr B.l w ((w.setCell ⟨B.d, 6, none⟩ (.bool (decide (0 ≤ n)))).setCell ⟨B.d, 7, none⟩ (.int .i64 n)) := ((Fr.refl _ _).setCell (by simp [DB.l]) _).setCell (by simp [DB.l]) _
  clear h a3
  go_enter Tryz.func49, Tryz.ntmps49
  go_wp2
  go_end0
  exact ⟨rfl, hr.out, hF⟩
set_option maxRecDepth 100000 in
set_option maxHeartbeats 1600000 in
theorem qMount (w : World) (B : DB) (d : Dv) (h : RevAt w B d) (ok : Nat → Prop) (v : Value) (ps : List Int) (hv : SlAt w ok v (ints ps)) (hn : ps.length ≤ maxLen) (hok : ∀ b, ok b → b ∉ B.l ∧ b < w.heap.size) :
    Calls Tryz.prog 50 #[.pointer (some ⟨B.d, 0, none⟩), v] w fun e w' => e = .returned (.tuple #[]) ∧ RevAt w' B (dMo d ps) ∧ Fr B.l w w' := by
  have c4 := h.k0
  have hl := h.ok.m1
  have hwf := h.ok.wf
  have hv' := Lib.hid hv
  obtain ⟨a, cap, rfl, _⟩ := hv
  go_enter Tryz.func50, Tryz.ntmps50
  go_wp2_with fail
  refine (rCut _ _ _ _ h.mem hl hwf _ ps _ hv'.out (fun b hb e => (hok b hb).1 (by subst e; simp [DB.l])) hn).mono ?_
  rintro e w' ⟨rfl, hM, hF⟩
  have hr := h.frM hM hF (Keeps.mem _ _ (fun k => cutM_WF k _) (cutM_length _ _))
  obtain ⟨h1, hF1⟩ := hr
  have c5 := h1.c5
  obtain ⟨ar, l, a1, a2, a3⟩ := h1.arm
  have z5 := h1.frd 5
  have z6 := h1.frd 6
  have h2 := Lib.hid (h1.power false)
  have hF2 : Fr B.l w ((w'.setCell ⟨B.d, 5, none⟩ (.bool true)).setCell ⟨B.d, 6, none⟩ (.bool false)) := (hF1.setCell (by simp [DB.l]) _).setCell (by simp [DB.l]) _
  clear hM hF c4 h h1 hF1 a3
  go_wp2
  go_end0
  exact ⟨rfl, h2.out, hF2⟩
set_option maxRecDepth 100000 in
set_option maxHeartbeats 1600000 in
theorem qStep_ok (w : World) (B : DB) (d : Dv) (h : RevAt w B d) (hl : ¬ d.lf = 0) : Calls Tryz.prog 82 #[.pointer (some ⟨B.d, 0, none⟩)] w fun e w' => e = .returned (.bool true) ∧ RevAt w' B d.less ∧ Fr [B.d] w w' := by
  obtain ⟨ar, l, a1, a2, a3⟩ := h.arm
  have h' := Lib.hid h
  rcases a3 with ⟨rfl, hlf⟩ | ⟨rfl, rfl, h0⟩
  · have e : d.less = d := by unfold Dv.less; rw [hlf]; cases d; cases hlf; rfl
    rw [e]
    clear h hl hlf e
    go_enter Tryz.func82, Tryz.ntmps82
    go_wp2
    go_ret
    exact ⟨rfl, h'.out, Fr.refl _ _⟩
  · have hpos : 0 < d.lf := by omega
    have hb := h.ok.lf1
    have e : d.less = { d with lf := d.lf - 1 } := by unfold Dv.less; congr 1; omega
    rw [e]
    have hr := Lib.hid (h.left' (d.lf - 1) a1 (by omega) (by omega))
    have hF : Fr [B.d] w (w.setCell ⟨B.d, 7, none⟩ (.int .i64 (d.lf - 1))) := (Fr.refl _ _).setCell (by simp) _
    have z7 := h.frd 7
    clear h hl e h0
    go_enter Tryz.func82, Tryz.ntmps82
    go_wp2
    go_ret
    exact ⟨rfl, hr.out, hF⟩
set_option maxRecDepth 100000 in
set_option maxHeartbeats 1600000 in
theorem qStep_no (w : World) (B : DB) (d : Dv) (h : RevAt w B d) (hl : d.lf = 0) : Calls Tryz.prog 82 #[.pointer (some ⟨B.d, 0, none⟩)] w fun e w' => e = .returned (.bool false) ∧ RevAt w' B { d with dn := true, lf := -1 } ∧ Fr [B.d] w w' := by
  obtain ⟨ar, l, a1, a2, a3⟩ := h.arm
  rcases a3 with ⟨rfl, hlf⟩ | ⟨rfl, rfl, h0⟩
  · omega
  · have hr := Lib.hid (h.power true)
    have hF : Fr [B.d] w ((w.setCell ⟨B.d, 5, none⟩ (.bool false)).setCell ⟨B.d, 6, none⟩ (.bool false)) := ((Fr.refl _ _).setCell (by simp) _).setCell (by simp) _
    have z5 := h.frd 5
    have z6 := h.frd 6
    have c5 := h.c5
    rw [hl] at a2
    clear h hl h0
    go_enter Tryz.func82, Tryz.ntmps82
    go_wp2
    go_ret
    exact ⟨rfl, hr.out, hF⟩
set_option maxRecDepth 100000 in
set_option maxHeartbeats 1600000 in
theorem qFlush (w : World) (B : DB) (d : Dv) (h : RevAt w B d) : Calls Tryz.prog 43 #[.pointer (some ⟨B.d, 0, none⟩)] w fun e w' => e = .returned (.int .i64 (stpE d 0)) ∧ RevAt w' B (dFl d) ∧ Fr B.l w w' := by
  by_cases hd : d.dn = true
  · have hE : stpE d 0 = 14 := if_pos hd
    have hD : (dFl d) = d := if_pos hd
    rw [hE, hD]
    have c5 := h.off hd
    have h' := Lib.hid h
    clear hE hD hd h
    go_enter Tryz.func43, Tryz.ntmps43
    go_wp2
    go_ret
    exact ⟨rfl, h'.out, Fr.refl _ _⟩
  have hdn : d.dn = false := by simpa using hd
  have c5 := h.on hdn
  have k0 := h.k0
  by_cases hc : 0 = 0
  · by_cases hl : d.lf = 0
    · have hE : stpE d 0 = 14 := by unfold stpE; rw [if_neg hd, if_neg (by simp [hc]), if_pos hl]
      have hD : (dFl d) = { d with dn := true, lf := -1 } := by show stpD d _ _ = _; unfold stpD; rw [if_neg hd, if_neg (by simp [hc]), if_pos hl]
      rw [hE, hD]
      have hst := Lib.hid (qStep_no w B d h hl)
      clear hE hD hl hd hdn hc
      go_enter Tryz.func43, Tryz.ntmps43
      go_wp2_with fail
      refine hst.out.mono ?_
      rintro e w1 ⟨rfl, h1, hF⟩
      have h1' := Lib.hid h1
      have hF' := Lib.hid (hF.weaken (T := B.l) (by simp [DB.l]))
      clear h1 hF
      go_wp2
      go_ret
      exact ⟨rfl, h1'.out, hF'.out⟩
    · have hE : stpE d 0 = 0 := by unfold stpE; rw [if_neg hd, if_neg (by simp [hc]), if_neg hl]
      have hst := Lib.hid (qStep_ok w B d h hl)
      rw [hE]
      have hD : (dFl d) = { d.less with M := flM d.less.M } := by show stpD d _ _ = _; unfold stpD; rw [if_neg hd, if_neg (by simp [hc]), if_neg hl]
      rw [hD]
      clear hE hD hl hd hdn
      go_enter Tryz.func43, Tryz.ntmps43
      go_wp2_with fail
      refine hst.out.mono ?_
      rintro e w1 ⟨rfl, h1, hF⟩
      have hm := h1.mem
      have k1 := h1.k0
      have hl := h1.ok.m1
      have hwf := h1.ok.wf
      have h1' := Lib.hid h1
      have hF' := Lib.hid (hF.weaken (T := B.l) (by simp [DB.l]))
      clear hF
      go_wp2_with fail
      refine (rFlush _ _ _ _ hm hl hwf).mono ?_
      rintro e w2 ⟨rfl, hM, hF2⟩
      have hr := h1'.out.frM hM hF2 (Keeps.mem _ _ (fun k => flM_WF k) (flM_length _))
      have hr' := Lib.hid (show RevAt w2 B { d.less with M := flM d.less.M } ∧ Fr B.l w w2 from ⟨hr.1, hF'.out.trans hr.2⟩)
      clear hr hM hF2 h1
      go_wp2
      go_ret
      exact ⟨rfl, hr'.out⟩
  · exact absurd rfl hc
set_option maxRecDepth 100000 in
set_option maxHeartbeats 1600000 in
theorem qWrite (w : World) (B : DB) (d : Dv) (h : RevAt w B d) (i : Int) (x : ByteArray) : Calls Tryz.prog 42 #[.pointer (some ⟨B.d, 0, none⟩), .int .i64 i, .string x] w fun e w' => e = .returned (.int .i64 (stpE d (wrC d i x))) ∧ RevAt w' B (dWr d i x) ∧ Fr B.l w w' := by
  obtain ⟨mcap, hp, _⟩ := h.mem.ptr
  by_cases hd : d.dn = true
  · have hE : stpE d (wrC d i x) = 14 := if_pos hd
    have hD : (dWr d i x) = d := if_pos hd
    rw [hE, hD]
    have c5 := h.off hd
    have h' := Lib.hid h
    clear hE hD hd h
    go_enter Tryz.func42, Tryz.ntmps42
    go_wp2
    go_ret
    exact ⟨rfl, h'.out, Fr.refl _ _⟩
  have hdn : d.dn = false := by simpa using hd
  have c5 := h.on hdn
  have k0 := h.k0
  by_cases hc : (wrC d i x) = 0
  · by_cases hl : d.lf = 0
    · have hE : stpE d (wrC d i x) = 14 := by unfold stpE; rw [if_neg hd, if_neg (by simp [hc]), if_pos hl]
      have hD : (dWr d i x) = { d with dn := true, lf := -1 } := by show stpD d _ _ = _; unfold stpD; rw [if_neg hd, if_neg (by simp [hc]), if_pos hl]
      rw [hE, hD]
      have hst := Lib.hid (qStep_no w B d h hl)
      have hin : isIn d.M i ∧ x.size = 64 := by
        unfold wrC at hc
        split at hc
        · assumption
        · cases hc
      have hi0 : 0 ≤ i := hin.1.1
      have hi1 : i < (d.M.length : Int) := hin.1.2
      have hxi : (x.size : Int) = 64 := by have := hin.2; omega
      clear hin
      clear hE hD hl hd hdn hc
      go_enter Tryz.func42, Tryz.ntmps42
      go_wp2_with fail
      refine hst.out.mono ?_
      rintro e w1 ⟨rfl, h1, hF⟩
      have h1' := Lib.hid h1
      have hF' := Lib.hid (hF.weaken (T := B.l) (by simp [DB.l]))
      clear h1 hF
      go_wp2
      go_ret
      exact ⟨rfl, h1'.out, hF'.out⟩
    · have hE : stpE d (wrC d i x) = 0 := by unfold stpE; rw [if_neg hd, if_neg (by simp [hc]), if_neg hl]
      have hst := Lib.hid (qStep_ok w B d h hl)
      rw [hE]
      have hin : isIn d.M i ∧ x.size = 64 := by
        unfold wrC at hc
        split at hc
        · assumption
        · cases hc
      have hi0 : 0 ≤ i := hin.1.1
      have hi1 : i < (d.M.length : Int) := hin.1.2
      have hxi : (x.size : Int) = 64 := by have := hin.2; omega
      clear hin
      have hD : (dWr d i x) = { d.less with M := wrM d.less.M i x } := by show stpD d _ _ = _; unfold stpD; rw [if_neg hd, if_neg (by simp [hc]), if_neg hl]
      rw [hD]
      clear hE hD hl hd hdn
      go_enter Tryz.func42, Tryz.ntmps42
      go_wp2_with fail
      refine hst.out.mono ?_
      rintro e w1 ⟨rfl, h1, hF⟩
      have hm := h1.mem
      have k1 := h1.k0
      have hl := h1.ok.m1
      have h1' := Lib.hid h1
      have hF' := Lib.hid (hF.weaken (T := B.l) (by simp [DB.l]))
      have hw0 : wrE d.less.M i x = 0 := if_pos ⟨⟨hi0, hi1⟩, by omega⟩
      have cw := rWrite w1 _ _ _ hm hl i x
      rw [hw0] at cw
      clear hF hw0
      go_wp2_with fail
      refine cw.mono ?_
      clear cw
      rintro e w2 ⟨rfl, hM, hF2⟩
      have hr := h1'.out.frM hM hF2 (Keeps.mem _ _ (fun k => wrM_WF k _ _) (wrM_length _ _ _))
      have hr' := Lib.hid (show RevAt w2 B { d.less with M := wrM d.less.M i x } ∧ Fr B.l w w2 from ⟨hr.1, hF'.out.trans hr.2⟩)
      clear hr hM hF2 h1 hm k1
      go_wp2
      go_ret
      exact ⟨rfl, hr'.out⟩
  · have hD : (dWr d i x) = d := by show stpD d _ _ = _; unfold stpD; rw [if_neg hd, if_pos hc]
    have h' := Lib.hid h
    rw [hD]
    by_cases hi0 : i < 0
    · have hcode : wrC d i x = 1 := if_neg (fun k => by have := k.1.1; omega)
      have hE : stpE d (wrC d i x) = 1 := by unfold stpE; rw [if_neg hd, if_pos hc]; exact hcode
      rw [hE]
      clear hE hD hd hdn hc hcode h
      go_enter Tryz.func42, Tryz.ntmps42
      go_wp2
      go_ret
      exact ⟨rfl, h'.out, Fr.refl _ _⟩
    by_cases hi1 : (d.M.length : Int) ≤ i
    · have hcode : wrC d i x = 1 := if_neg (fun k => by have := k.1.2; omega)
      have hi0' : 0 ≤ i := by omega
      have hE : stpE d (wrC d i x) = 1 := by unfold stpE; rw [if_neg hd, if_pos hc]; exact hcode
      rw [hE]
      clear hE hD hd hdn hc hcode h
      go_enter Tryz.func42, Tryz.ntmps42
      go_wp2
      go_ret
      exact ⟨rfl, h'.out, Fr.refl _ _⟩
    · have hx : ¬ x.size = 64 := fun e => hc (if_pos ⟨⟨by omega, by omega⟩, e⟩)
      have hcode : wrC d i x = 1 := if_neg (fun k => hx k.2)
      have hi0' : 0 ≤ i := by omega
      have hi1' : i < (d.M.length : Int) := by omega
      have hxi : ((x.size : Int) == 64) = false := by simp; omega
      have hxj : ((x.size : Int) != 64) = true := by simp; omega
      have hE : stpE d (wrC d i x) = 1 := by unfold stpE; rw [if_neg hd, if_pos hc]; exact hcode
      rw [hE]
      clear hi0 hi1 hx
      clear hE hD hd hdn hc hcode h
      go_enter Tryz.func42, Tryz.ntmps42
      go_wp2
      go_ret
      exact ⟨rfl, h'.out, Fr.refl _ _⟩
set_option maxRecDepth 100000 in
set_option maxHeartbeats 1600000 in
theorem qStore (w : World) (B : DB) (d : Dv) (h : RevAt w B d) (i : Int) (x : ByteArray) : Calls Tryz.prog 45 #[.pointer (some ⟨B.d, 0, none⟩), .int .i64 i, .string x] w fun e w' => e = .returned (.int .i64 (stpE d (slC d i x))) ∧ RevAt w' B (dSt d i x) ∧ Fr B.l w w' := by
  obtain ⟨scap, hscap, k2⟩ := h.c0
  have hs1 := h.ok.s1
  by_cases hd : d.dn = true
  · have hE : stpE d (slC d i x) = 14 := if_pos hd
    have hD : (dSt d i x) = d := if_pos hd
    rw [hE, hD]
    have c5 := h.off hd
    have h' := Lib.hid h
    clear hE hD hd h
    go_enter Tryz.func45, Tryz.ntmps45
    go_wp2
    go_ret
    exact ⟨rfl, h'.out, Fr.refl _ _⟩
  have hdn : d.dn = false := by simpa using hd
  have c5 := h.on hdn
  have k0 := h.k0
  by_cases hc : (slC d i x) = 0
  · by_cases hl : d.lf = 0
    · have hE : stpE d (slC d i x) = 14 := by unfold stpE; rw [if_neg hd, if_neg (by simp [hc]), if_pos hl]
      have hD : (dSt d i x) = { d with dn := true, lf := -1 } := by show stpD d _ _ = _; unfold stpD; rw [if_neg hd, if_neg (by simp [hc]), if_pos hl]
      rw [hE, hD]
      have hst := Lib.hid (qStep_no w B d h hl)
      have hin : (0 ≤ i ∧ i < (d.S.length : Int)) ∧ x.size = 32 := by
        unfold slC at hc
        split at hc
        · assumption
        · cases hc
      obtain ⟨k, rfl⟩ : ∃ k : Nat, i = (k : Int) := ⟨i.toNat, by have := hin.1.1; omega⟩
      have hi1 : (k : Int) < (d.S.length : Int) := hin.1.2
      have hxi : (x.size : Int) = 32 := by have := hin.2; omega
      clear hin
      clear hE hD hl hd hdn hc
      go_enter Tryz.func45, Tryz.ntmps45
      go_wp2_with fail
      refine hst.out.mono ?_
      rintro e w1 ⟨rfl, h1, hF⟩
      have h1' := Lib.hid h1
      have hF' := Lib.hid (hF.weaken (T := B.l) (by simp [DB.l]))
      clear h1 hF
      go_wp2
      go_ret
      exact ⟨rfl, h1'.out, hF'.out⟩
    · have hE : stpE d (slC d i x) = 0 := by unfold stpE; rw [if_neg hd, if_neg (by simp [hc]), if_neg hl]
      have hst := Lib.hid (qStep_ok w B d h hl)
      rw [hE]
      have hin : (0 ≤ i ∧ i < (d.S.length : Int)) ∧ x.size = 32 := by
        unfold slC at hc
        split at hc
        · assumption
        · cases hc
      obtain ⟨k, rfl⟩ : ∃ k : Nat, i = (k : Int) := ⟨i.toNat, by have := hin.1.1; omega⟩
      have hi1 : (k : Int) < (d.S.length : Int) := hin.1.2
      have hxi : (x.size : Int) = 32 := by have := hin.2; omega
      clear hin
      have hD : (dSt d (k : Int) x) = { d.less with S := d.less.S.set (k : Int).toNat x } := by show stpD d _ _ = _; unfold stpD; rw [if_neg hd, if_neg (by simp [hc]), if_neg hl]
      rw [hD]
      clear hE hD hl hd hdn
      go_enter Tryz.func45, Tryz.ntmps45
      go_wp2_with fail
      refine hst.out.mono ?_
      rintro e w1 ⟨rfl, h1, hF⟩
      obtain ⟨sc1, hsc1, k1⟩ := h1.c0
      have hkl : k < d.less.S.length := by show k < d.S.length; omega
      obtain ⟨y, hx1⟩ : ∃ y, w1.cell? ⟨B.s, k, none⟩ = some (.string y) := ⟨_, h1.slot k _ (List.getElem?_eq_getElem hkl)⟩
      have z1 := h1.frs k
      rw [show d.less.S.length = d.S.length from rfl] at k1
      have hr := h1.slot' k x
      have hr' := Lib.hid (show RevAt (w1.setCell ⟨B.s, k, none⟩ (.string x)) B { d.less with S := d.less.S.set (k : Int).toNat x } ∧ Fr B.l w (w1.setCell ⟨B.s, k, none⟩ (.string x)) from
        ⟨by rw [Int.toNat_natCast]; exact hr, (hF.weaken (T := B.l) (by simp [DB.l])).setCell (by simp [DB.l]) _⟩)
      clear hr hF h1 hkl hsc1
      go_wp2
      go_ret
      exact ⟨rfl, hr'.out⟩
  · have hD : (dSt d i x) = d := by show stpD d _ _ = _; unfold stpD; rw [if_neg hd, if_pos hc]
    have h' := Lib.hid h
    rw [hD]
    by_cases hi0 : i < 0
    · have hcode : slC d i x = 1 := if_neg (fun k => by have := k.1.1; omega)
      have hE : stpE d (slC d i x) = 1 := by unfold stpE; rw [if_neg hd, if_pos hc]; exact hcode
      rw [hE]
      clear hE hD hd hdn hc hcode h
      go_enter Tryz.func45, Tryz.ntmps45
      go_wp2
      go_ret
      exact ⟨rfl, h'.out, Fr.refl _ _⟩
    by_cases hi1 : (d.S.length : Int) ≤ i
    · have hcode : slC d i x = 1 := if_neg (fun k => by have := k.1.2; omega)
      have hi0' : 0 ≤ i := by omega
      have hE : stpE d (slC d i x) = 1 := by unfold stpE; rw [if_neg hd, if_pos hc]; exact hcode
      rw [hE]
      clear hE hD hd hdn hc hcode h
      go_enter Tryz.func45, Tryz.ntmps45
      go_wp2
      go_ret
      exact ⟨rfl, h'.out, Fr.refl _ _⟩
    · have hx : ¬ x.size = 32 := fun e => hc (if_pos ⟨⟨by omega, by omega⟩, e⟩)
      have hcode : slC d i x = 1 := if_neg (fun k => hx k.2)
      have hi0' : 0 ≤ i := by omega
      have hi1' : i < (d.S.length : Int) := by omega
      have hxi : ((x.size : Int) == 32) = false := by simp; omega
      have hxj : ((x.size : Int) != 32) = true := by simp; omega
      have hE : stpE d (slC d i x) = 1 := by unfold stpE; rw [if_neg hd, if_pos hc]; exact hcode
      rw [hE]
      clear hi0 hi1 hx
      clear hE hD hd hdn hc hcode h
      go_enter Tryz.func45, Tryz.ntmps45
      go_wp2
      go_ret
      exact ⟨rfl, h'.out, Fr.refl _ _⟩
set_option maxRecDepth 100000 in
set_option maxHeartbeats 1600000 in
theorem qBurn (w : World) (B : DB) (d : Dv) (h : RevAt w B d) (i : Int) : Calls Tryz.prog 46 #[.pointer (some ⟨B.d, 0, none⟩), .int .i64 i] w fun e w' => e = .returned (.int .i64 (stpE d (buC d i))) ∧ RevAt w' B (dBu d i) ∧ Fr B.l w w' := by
  obtain ⟨scap, hscap, k2⟩ := h.c1
  have hs1 := h.ok.f1
  by_cases hd : d.dn = true
  · have hE : stpE d (buC d i) = 14 := if_pos hd
    have hD : (dBu d i) = d := if_pos hd
    rw [hE, hD]
    have c5 := h.off hd
    have h' := Lib.hid h
    clear hE hD hd h
    go_enter Tryz.func46, Tryz.ntmps46
    go_wp2
    go_ret
    exact ⟨rfl, h'.out, Fr.refl _ _⟩
  have hdn : d.dn = false := by simpa using hd
  have c5 := h.on hdn
  have k0 := h.k0
  by_cases hc : (buC d i) = 0
  · by_cases hl : d.lf = 0
    · have hE : stpE d (buC d i) = 14 := by unfold stpE; rw [if_neg hd, if_neg (by simp [hc]), if_pos hl]
      have hD : (dBu d i) = { d with dn := true, lf := -1 } := by show stpD d _ _ = _; unfold stpD; rw [if_neg hd, if_neg (by simp [hc]), if_pos hl]
      rw [hE, hD]
      have hst := Lib.hid (qStep_no w B d h hl)
      have hin : 0 ≤ i ∧ i < (d.F.length : Int) := by
        unfold buC at hc
        split at hc
        · assumption
        · cases hc
      obtain ⟨k, rfl⟩ : ∃ k : Nat, i = (k : Int) := ⟨i.toNat, by have := hin.1; omega⟩
      have hi1 : (k : Int) < (d.F.length : Int) := hin.2
      clear hin
      clear hE hD hl hd hdn hc
      go_enter Tryz.func46, Tryz.ntmps46
      go_wp2_with fail
      refine hst.out.mono ?_
      rintro e w1 ⟨rfl, h1, hF⟩
      have h1' := Lib.hid h1
      have hF' := Lib.hid (hF.weaken (T := B.l) (by simp [DB.l]))
      clear h1 hF
      go_wp2
      go_ret
      exact ⟨rfl, h1'.out, hF'.out⟩
    · have hE : stpE d (buC d i) = 0 := by unfold stpE; rw [if_neg hd, if_neg (by simp [hc]), if_neg hl]
      have hst := Lib.hid (qStep_ok w B d h hl)
      rw [hE]
      have hin : 0 ≤ i ∧ i < (d.F.length : Int) := by
        unfold buC at hc
        split at hc
        · assumption
        · cases hc
      obtain ⟨k, rfl⟩ : ∃ k : Nat, i = (k : Int) := ⟨i.toNat, by have := hin.1; omega⟩
      have hi1 : (k : Int) < (d.F.length : Int) := hin.2
      clear hin
      have hD : (dBu d (k : Int)) = { d.less with F := d.less.F.set (k : Int).toNat true } := by show stpD d _ _ = _; unfold stpD; rw [if_neg hd, if_neg (by simp [hc]), if_neg hl]
      rw [hD]
      clear hE hD hl hd hdn
      go_enter Tryz.func46, Tryz.ntmps46
      go_wp2_with fail
      refine hst.out.mono ?_
      rintro e w1 ⟨rfl, h1, hF⟩
      obtain ⟨sc1, hsc1, k1⟩ := h1.c1
      have hkl : k < d.less.F.length := by show k < d.F.length; omega
      obtain ⟨y, hx1⟩ : ∃ y, w1.cell? ⟨B.f, k, none⟩ = some (.bool y) := ⟨_, h1.fuse k _ (List.getElem?_eq_getElem hkl)⟩
      have z1 := h1.frf k
      rw [show d.less.F.length = d.F.length from rfl] at k1
      have hr := h1.fuse' k true
      have hr' := Lib.hid (show RevAt (w1.setCell ⟨B.f, k, none⟩ (.bool true)) B { d.less with F := d.less.F.set (k : Int).toNat true } ∧ Fr B.l w (w1.setCell ⟨B.f, k, none⟩ (.bool true)) from
        ⟨by rw [Int.toNat_natCast]; exact hr, (hF.weaken (T := B.l) (by simp [DB.l])).setCell (by simp [DB.l]) _⟩)
      clear hr hF h1 hkl hsc1
      go_wp2
      go_ret
      exact ⟨rfl, hr'.out⟩
  · have hD : (dBu d i) = d := by show stpD d _ _ = _; unfold stpD; rw [if_neg hd, if_pos hc]
    have h' := Lib.hid h
    rw [hD]
    by_cases hi0 : i < 0
    · have hcode : buC d i = 1 := if_neg (fun k => by have := k.1; omega)
      have hE : stpE d (buC d i) = 1 := by unfold stpE; rw [if_neg hd, if_pos hc]; exact hcode
      rw [hE]
      clear hE hD hd hdn hc hcode h
      go_enter Tryz.func46, Tryz.ntmps46
      go_wp2
      go_ret
      exact ⟨rfl, h'.out, Fr.refl _ _⟩
    · have hi1 : (d.F.length : Int) ≤ i := by
        apply Classical.byContradiction
        intro hn
        exact hc (if_pos ⟨by omega, by omega⟩)
      have hcode : buC d i = 1 := if_neg (fun k => by have := k.2; omega)
      have hi0' : 0 ≤ i := by omega
      have hE : stpE d (buC d i) = 1 := by unfold stpE; rw [if_neg hd, if_pos hc]; exact hcode
      rw [hE]
      clear hE hD hd hdn hc hcode h
      go_enter Tryz.func46, Tryz.ntmps46
      go_wp2
      go_ret
      exact ⟨rfl, h'.out, Fr.refl _ _⟩
set_option maxRecDepth 100000 in
set_option maxHeartbeats 1600000 in
theorem qRaise (w : World) (B : DB) (d : Dv) (h : RevAt w B d) (n : Int) : Calls Tryz.prog 47 #[.pointer (some ⟨B.d, 0, none⟩), .int .i64 n] w fun e w' => e = .returned (.int .i64 (stpE d (raC d n))) ∧ RevAt w' B (dRa d n) ∧ Fr B.l w w' := by
  have k2 := h.c2
  by_cases hd : d.dn = true
  · have hE : stpE d (raC d n) = 14 := if_pos hd
    have hD : (dRa d n) = d := if_pos hd
    rw [hE, hD]
    have c5 := h.off hd
    have h' := Lib.hid h
    clear hE hD hd h
    go_enter Tryz.func47, Tryz.ntmps47
    go_wp2
    go_ret
    exact ⟨rfl, h'.out, Fr.refl _ _⟩
  have hdn : d.dn = false := by simpa using hd
  have c5 := h.on hdn
  have k0 := h.k0
  by_cases hc : (raC d n) = 0
  · by_cases hl : d.lf = 0
    · have hE : stpE d (raC d n) = 14 := by unfold stpE; rw [if_neg hd, if_neg (by simp [hc]), if_pos hl]
      have hD : (dRa d n) = { d with dn := true, lf := -1 } := by show stpD d _ _ = _; unfold stpD; rw [if_neg hd, if_neg (by simp [hc]), if_pos hl]
      rw [hE, hD]
      have hst := Lib.hid (qStep_no w B d h hl)
      have hin : (0 ≤ n ∧ n ≤ 4611686018427387904) ∧ ¬ n < d.cnt := by
        unfold raC at hc
        split at hc
        · split at hc
          · cases hc
          · rename_i h1 h2; exact ⟨h1, h2⟩
        · cases hc
      have hi0 : 0 ≤ n := hin.1.1
      have hi1 : n ≤ 4611686018427387904 := hin.1.2
      have hi2 : d.cnt ≤ n := by have := hin.2; omega
      clear hin
      clear hE hD hl hd hdn hc
      go_enter Tryz.func47, Tryz.ntmps47
      go_wp2_with fail
      refine hst.out.mono ?_
      rintro e w1 ⟨rfl, h1, hF⟩
      have h1' := Lib.hid h1
      have hF' := Lib.hid (hF.weaken (T := B.l) (by simp [DB.l]))
      clear h1 hF
      go_wp2
      go_ret
      exact ⟨rfl, h1'.out, hF'.out⟩
    · have hE : stpE d (raC d n) = 0 := by unfold stpE; rw [if_neg hd, if_neg (by simp [hc]), if_neg hl]
      have hst := Lib.hid (qStep_ok w B d h hl)
      rw [hE]
      have hin : (0 ≤ n ∧ n ≤ 4611686018427387904) ∧ ¬ n < d.cnt := by
        unfold raC at hc
        split at hc
        · split at hc
          · cases hc
          · rename_i h1 h2; exact ⟨h1, h2⟩
        · cases hc
      have hi0 : 0 ≤ n := hin.1.1
      have hi1 : n ≤ 4611686018427387904 := hin.1.2
      have hi2 : d.cnt ≤ n := by have := hin.2; omega
      clear hin
      have hD : (dRa d n) = { d.less with cnt := n } := by show stpD d _ _ = _; unfold stpD; rw [if_neg hd, if_neg (by simp [hc]), if_neg hl]
      rw [hD]
      clear hE hD hl hd hdn
      go_enter Tryz.func47, Tryz.ntmps47
      go_wp2_with fail
      refine hst.out.mono ?_
      rintro e w1 ⟨rfl, h1, hF⟩
      have k1 := h1.c2
      have z1 := h1.frd 3
      have hr := h1.cnt' n hi0 hi1
      have hr' := Lib.hid (show RevAt (w1.setCell ⟨B.d, 3, none⟩ (.int .i64 n)) B { d.less with cnt := n } ∧ Fr B.l w (w1.setCell ⟨B.d, 3, none⟩ (.int .i64 n)) from ⟨hr, (hF.weaken (T := B.l) (by simp [DB.l])).setCell (by simp [DB.l]) _⟩)
      clear hr hF h1
      go_wp2
      go_ret
      exact ⟨rfl, hr'.out⟩
  · have hD : (dRa d n) = d := by show stpD d _ _ = _; unfold stpD; rw [if_neg hd, if_pos hc]
    have h' := Lib.hid h
    rw [hD]
    by_cases hi0 : n < 0
    · have hcode : raC d n = 1 := if_neg (fun k => by have := k.1; omega)
      have hE : stpE d (raC d n) = 1 := by unfold stpE; rw [if_neg hd, if_pos hc]; exact hcode
      rw [hE]
      clear hE hD hd hdn hc hcode h
      go_enter Tryz.func47, Tryz.ntmps47
      go_wp2
      go_ret
      exact ⟨rfl, h'.out, Fr.refl _ _⟩
    by_cases hi1 : 4611686018427387904 < n
    · have hcode : raC d n = 1 := if_neg (fun k => by have := k.2; omega)
      have hi0' : 0 ≤ n := by omega
      have hE : stpE d (raC d n) = 1 := by unfold stpE; rw [if_neg hd, if_pos hc]; exact hcode
      rw [hE]
      clear hE hD hd hdn hc hcode h
      go_enter Tryz.func47, Tryz.ntmps47
      go_wp2
      go_ret
      exact ⟨rfl, h'.out, Fr.refl _ _⟩
    · have hi2 : n < d.cnt := by
        apply Classical.byContradiction
        intro hn
        refine hc ?_
        unfold raC
        rw [if_pos ⟨by omega, by omega⟩, if_neg hn]
      have hcode : raC d n = 20 := by unfold raC; rw [if_pos ⟨by omega, by omega⟩, if_pos hi2]
      have hi0' : 0 ≤ n := by omega
      have hi1' : n ≤ 4611686018427387904 := by omega
      have hE : stpE d (raC d n) = 20 := by unfold stpE; rw [if_neg hd, if_pos hc]; exact hcode
      rw [hE]
      clear hi0 hi1
      clear hE hD hd hdn hc hcode h
      go_enter Tryz.func47, Tryz.ntmps47
      go_wp2
      go_ret
      exact ⟨rfl, h'.out, Fr.refl _ _⟩
set_option maxRecDepth 100000 in
set_option maxHeartbeats 800000 in
theorem qTick (w : World) (B : DB) (d : Dv) (h : RevAt w B d) (n : Int) : Calls Tryz.prog 48 #[.pointer (some ⟨B.d, 0, none⟩), .int .i64 n] w fun e w' => e = .returned (.int .i64 (tiE d n)) ∧ RevAt w' B (dTi d n) ∧ Fr B.l w w' := by
  have c3 := h.c3
  have z3 := h.frd 4
  have k0 := h.ok.clk0
  have k1 := h.ok.clk1
  unfold tiE dTi
  by_cases h0 : n < 0
  · have h' := Lib.hid h
    rw [if_pos (.inl h0), if_pos (.inl h0)]
    clear h
    go_enter Tryz.func48, Tryz.ntmps48
    go_wp2
    go_ret
    exact ⟨rfl, h'.out, Fr.refl _ _⟩
  · by_cases h1 : 1099511627776 - d.clk < n
    · have h' := Lib.hid h
      rw [if_pos (.inr h1), if_pos (.inr h1)]
      clear h
      go_enter Tryz.func48, Tryz.ntmps48
      go_wp2
      go_ret
      exact ⟨rfl, h'.out, Fr.refl _ _⟩
    · rw [if_neg (by omega), if_neg (by omega)]
      have hr := Lib.hid (h.clk' (d.clk + n) (by omega) (by omega))
      have hF : Fr B.l w (w.setCell ⟨B.d, 4, none⟩ (.int .i64 (d.clk + n))) := (Fr.refl _ _).setCell (by simp [DB.l]) _
      clear h
      go_enter Tryz.func48, Tryz.ntmps48
      go_wp2
      go_ret
      exact ⟨rfl, hr.out, hF⟩

set_option maxRecDepth 100000 in
set_option maxHeartbeats 800000 in
theorem qLoad (w : World) (B : DB) (d : Dv) (h : RevAt w B d) (i : Int) : Calls Tryz.prog 44 #[.pointer (some ⟨B.d, 0, none⟩), .int .i64 i] w fun e w' => e = .returned (.tuple #[.string (dLdT d i), .int .i64 (dLdE d i)]) ∧ w = w' := by
  obtain ⟨cap, hcap, c0⟩ := h.c0
  have s1 := h.ok.s1
  unfold dLdT dLdE
  cases hd : d.dn
  · have c5 := h.on hd
    simp only [Bool.false_eq_true, if_false]
    clear hd
    by_cases hi : 0 ≤ i ∧ i < (d.S.length : Int)
    · obtain ⟨k, rfl⟩ : ∃ k : Nat, i = (k : Int) := ⟨i.toNat, by omega⟩
      rw [if_pos hi, if_pos hi]
      have hk : k < d.S.length := by omega
      have hk1 : (k : Int) < (d.S.length : Int) := by omega
      have hx := h.slot k _ (List.getElem?_eq_getElem hk)
      rw [Int.toNat_natCast, List.getElem?_eq_getElem hk]
      clear hi h
      go_enter Tryz.func44, Tryz.ntmps44
      go_wp2
      go_ret2
      exact ⟨rfl, rfl⟩
    · rw [if_neg hi, if_neg hi]
      by_cases h0 : i < 0
      · clear h hi
        go_enter Tryz.func44, Tryz.ntmps44
        go_wp2
        go_ret2
        exact ⟨rfl, rfl⟩
      · have h1 : (d.S.length : Int) ≤ i := by omega
        clear h hi
        go_enter Tryz.func44, Tryz.ntmps44
        go_wp2
        go_ret2
        exact ⟨rfl, rfl⟩
  · have c5 := h.off hd
    simp only [if_true]
    clear hd h
    go_enter Tryz.func44, Tryz.ntmps44
    go_wp2
    go_ret2
    exact ⟨rfl, rfl⟩

set_option maxRecDepth 100000 in
set_option maxHeartbeats 800000 in
theorem qBurned (w : World) (B : DB) (d : Dv) (h : RevAt w B d) (i : Int) : Calls Tryz.prog 60 #[.pointer (some ⟨B.d, 0, none⟩), .int .i64 i] w fun e w' => e = .returned (.bool (dBd d i)) ∧ w = w' := by
  obtain ⟨cap, hcap, c1⟩ := h.c1
  have s1 := h.ok.f1
  unfold dBd
  by_cases hi : 0 ≤ i ∧ i < (d.F.length : Int)
  · obtain ⟨k, rfl⟩ : ∃ k : Nat, i = (k : Int) := ⟨i.toNat, by omega⟩
    rw [if_pos hi]
    have hk : k < d.F.length := by omega
    have hk1 : (k : Int) < (d.F.length : Int) := by omega
    have hx := h.fuse k _ (List.getElem?_eq_getElem hk)
    rw [Int.toNat_natCast, List.getElem?_eq_getElem hk]
    clear hi h
    go_enter Tryz.func60, Tryz.ntmps60
    go_wp2
    go_ret
    exact ⟨rfl, rfl⟩
  · rw [if_neg hi]
    by_cases h0 : i < 0
    · clear h hi
      go_enter Tryz.func60, Tryz.ntmps60
      go_wp2
      go_ret
      exact ⟨rfl, rfl⟩
    · have h1 : (d.F.length : Int) ≤ i := by omega
      clear h hi
      go_enter Tryz.func60, Tryz.ntmps60
      go_wp2
      go_ret
      exact ⟨rfl, rfl⟩

set_option maxRecDepth 100000 in
set_option maxHeartbeats 1600000 in
theorem qZero (w : World) : Calls Tryz.prog 30 #[] w fun e w' => e = .returned (.string zero32) ∧ Below w.heap.size w w' := by
  have hmk := mk32
  have hcv := cv32
  go_enter Tryz.func30, Tryz.ntmps30
  go_wp2
  go_ret
  exact ⟨rfl, (Below.refl _ _).alloc (Nat.le_refl _) _⟩
set_option maxRecDepth 100000 in
set_option maxHeartbeats 1600000 in
theorem qBattery (w : World) (B : DB) (d : Dv) (h : RevAt w B d) : Calls Tryz.prog 51 #[.pointer (some ⟨B.d, 0, none⟩)] w fun e w' => e = .returned (.tuple #[]) ∧ RevAt w' B (dBa d) ∧ Fr B.l w w' := by
  obtain ⟨cap, hcap, c0⟩ := h.c0
  have s1 := h.ok.s1
  have h' := Lib.hid h
  go_enter Tryz.func51, Tryz.ntmps51
  go_wp2_with fail
  clear h c0
  go_loopw [2] (fun t wr => ∃ j : Nat, j ≤ d.S.length ∧ t = .int .i64 (j : Int) ∧ RevAt wr B (batD d j) ∧ Fr B.l w wr) (fun t _ => d.S.length - (intOf t).toNat)
  case atStart => exact ⟨0, Nat.zero_le _, rfl, by simpa [batD] using h'.out, Fr.refl _ _⟩
  case round =>
    obtain ⟨j, hj, rfl, hD, hF⟩ := hrel
    by_cases hlt : j < d.S.length
    · have hlti : (j : Int) < (d.S.length : Int) := by omega
      have hsl : (batD d j).S.length = d.S.length := by simp [batD]; omega
      have hsucc := Lib.hid (batD_succ d j hlt)
      generalize batD d j = dj at *
      obtain ⟨cap, hcap, c0⟩ := hD.c0
      rw [hsl] at c0
      have hjl : j < dj.S.length := by omega
      have hx := hD.slot j _ (List.getElem?_eq_getElem hjl)
      have hz := hD.frs j
      clear hcap
      have hD' := Lib.hid hD
      have hltd := hD.ltd
      have hlts := hD.lts
      clear hD h'
      go_wp2_with fail
      go_region_law (first
        | (refine step_call _ (by rfl) 30 _ _ (by rfl) [] (by rfl) (enters_of Tryz.func30 (by kernel_rfl) rfl) ?_
           refine (qZero _).mono ?_
           rintro e w2 ⟨rfl, hB2⟩
           refine ⟨.string zero32, rfl, ?_⟩
           have hfr2 : Fr [] wr w2 := (Fr.refl _ _).drew.trans (Fr.of_below hB2)
           have c02 := (hfr2.cell (p := ⟨B.d, 1, none⟩) hltd (by simp)).trans c0
           have hx2 := (hfr2.cell (p := ⟨B.s, j, none⟩) hlts (by simp)).trans hx
           have hz2 := (hfr2.frozen (p := ⟨B.s, j, none⟩) hlts (by simp)).trans hz))
      all_goals
        have hr := Lib.hid ((hD'.out.fr hfr2 (by simp)).slot' j zero32)
        have hF2 : Fr B.l w (w2.setCell ⟨B.s, j, none⟩ (.string zero32)) := (hF.trans (hfr2.weaken (by simp))).setCell (by simp [DB.l]) _
        clear hfr2 hF hD' hB2 c0 hx hz c02 hx2 hz2
        go_wp2
        go_roundw
        case rel => exact ⟨j + 1, by omega, by go_num, by rw [hsucc.out]; exact hr.out, hF2⟩
        case measure => simp [intOf]; omega
    · obtain rfl : j = d.S.length := by omega
      clear h'
      have hsl : (batD d d.S.length).S.length = d.S.length := by simp [batD]
      obtain ⟨cap, hcap, c0⟩ := hD.c0
      rw [hsl] at c0
      clear hsl hcap
      go_wp2_with fail
      go_end0
      refine ⟨rfl, ?_, hF⟩
      have e : batD d d.S.length = dBa d := by unfold batD dBa; simp
      rw [← e]; exact hD

end Go.Proofs.YtogljlloobjeoaaGreat
