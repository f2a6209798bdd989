/- The steps of a device: step, at each function that is handed to it. Printed by a program first. -/
import Derived.Test.YtogljlloobjeoaaGreatDevB
namespace Go.Proofs.YtogljlloobjeoaaGreat
open Go.RowKit

set_option maxRecDepth 100000 in
set_option maxHeartbeats 800000 in
theorem dStepBurn (w : World) (B : DB) (d : Dv) (h : DevAt w B d) (c : Int) (i : Int) (hc : c = buC d i) (b1 : Nat) (cb1 : w.cell? ⟨b1, 0, none⟩ = some (.pointer (some ⟨B.d, 0, none⟩))) (nb1 : b1 ≠ B.d) (b2 : Nat) (cb2 : w.cell? ⟨b2, 0, none⟩ = some (.int .i64 i)) (nb2 : b2 ≠ B.d) :
    Calls Tryz.prog 62 #[.pointer (some ⟨B.d, 0, none⟩), .int .i64 c, .func (.func 65) #[] #[.pointer (some ⟨b1, 0, none⟩), .pointer (some ⟨b2, 0, none⟩)]] w fun e w' => e = .returned (.int .i64 (stpE d c)) ∧ DevAt w' B (dBu d i) ∧ Fr B.l w w' := by
  unfold dBu
  rw [← hc]
  by_cases hno : d.dn = true ∨ c ≠ 0 ∨ d.lf = 0
  · exact dStep_no w B d h c _ _ hno
  · have hd : d.dn = false := by
      cases e : d.dn
      · rfl
      · exact absurd (.inl e) hno
    have hlf : d.lf ≠ 0 := fun e => hno (.inr (.inr e))
    obtain rfl : c = 0 := by
      by_cases e : c = 0
      · exact e
      · exact absurd (.inr (.inl e)) hno
    obtain ⟨k, rfl, hk⟩ : ∃ k : Nat, i = (k : Int) ∧ k < d.F.length := by
      unfold buC at hc
      split at hc
      · rename_i hi; exact ⟨i.toNat, by omega, by omega⟩
      · cases hc
    clear hc
    rw [Int.toNat_natCast]
    have e1 : stpE d 0 = 0 := by unfold stpE; rw [hd]; simp [hlf]
    have e2 : ∀ g, stpD d 0 g = g d.less := fun g => by unfold stpD; rw [hd]; simp [hlf]
    rw [e1, e2]
    have c5 := h.c5
    rw [hd] at c5
    have c6 := h.c6
    have z6 := h.frd 6
    have hlf1 := h.ok.lf1
    obtain ⟨x, hx, hL, hFL⟩ := h.less' hlf
    have hcall := Lib.hid (dBurn1 _ B d.less hL k hk b1 b2 (boxFar cb1 nb1) (boxFar cb2 nb2))
    have hFL' := Lib.hid hFL
    have hlf' : (d.lf == 0) = false := by simpa using hlf
    clear e1 e2 hno hd hlf hL hFL h cb1 cb2
    rcases hx with ⟨hp, rfl⟩ | ⟨hp, rfl⟩
    · go_enter Tryz.func62, Tryz.ntmps62
      go_wp2_with fail
      refine hcall.out.mono ?_
      rintro e w' ⟨rfl, hD, hF⟩
      go_wp2
      go_ret
      exact ⟨rfl, hD, hFL'.out.trans hF⟩
    · rw [hp] at c6
      clear hlf' hp hlf1
      go_enter Tryz.func62, Tryz.ntmps62
      go_wp2_with fail
      refine hcall.out.mono ?_
      rintro e w' ⟨rfl, hD, hF⟩
      go_wp2
      go_ret
      exact ⟨rfl, hD, hFL'.out.trans hF⟩

set_option maxRecDepth 100000 in
set_option maxHeartbeats 800000 in
theorem dStepStore (w : World) (B : DB) (d : Dv) (h : DevAt w B d) (c : Int) (i : Int) (x : ByteArray) (hc : c = slC d i x) (b1 : Nat) (cb1 : w.cell? ⟨b1, 0, none⟩ = some (.pointer (some ⟨B.d, 0, none⟩))) (nb1 : b1 ≠ B.d) (b2 : Nat) (cb2 : w.cell? ⟨b2, 0, none⟩ = some (.int .i64 i)) (nb2 : b2 ≠ B.d) (b3 : Nat) (cb3 : w.cell? ⟨b3, 0, none⟩ = some (.string x)) (nb3 : b3 ≠ B.d) :
    Calls Tryz.prog 62 #[.pointer (some ⟨B.d, 0, none⟩), .int .i64 c, .func (.func 64) #[] #[.pointer (some ⟨b3, 0, none⟩), .pointer (some ⟨b1, 0, none⟩), .pointer (some ⟨b2, 0, none⟩)]] w fun e w' => e = .returned (.int .i64 (stpE d c)) ∧ DevAt w' B (dSt d i x) ∧ Fr B.l w w' := by
  unfold dSt
  rw [← hc]
  by_cases hno : d.dn = true ∨ c ≠ 0 ∨ d.lf = 0
  · exact dStep_no w B d h c _ _ hno
  · have hd : d.dn = false := by
      cases e : d.dn
      · rfl
      · exact absurd (.inl e) hno
    have hlf : d.lf ≠ 0 := fun e => hno (.inr (.inr e))
    obtain rfl : c = 0 := by
      by_cases e : c = 0
      · exact e
      · exact absurd (.inr (.inl e)) hno
    obtain ⟨k, rfl, hk⟩ : ∃ k : Nat, i = (k : Int) ∧ k < d.S.length := by
      unfold slC at hc
      split at hc
      · rename_i hi; exact ⟨i.toNat, by omega, by omega⟩
      · cases hc
    clear hc
    rw [Int.toNat_natCast]
    have e1 : stpE d 0 = 0 := by unfold stpE; rw [hd]; simp [hlf]
    have e2 : ∀ g, stpD d 0 g = g d.less := fun g => by unfold stpD; rw [hd]; simp [hlf]
    rw [e1, e2]
    have c5 := h.c5
    rw [hd] at c5
    have c6 := h.c6
    have z6 := h.frd 6
    have hlf1 := h.ok.lf1
    obtain ⟨y, hx, hL, hFL⟩ := h.less' hlf
    have hcall := Lib.hid (dStore1 _ B d.less hL k hk x b1 b2 b3 (boxFar cb3 nb3) (boxFar cb1 nb1) (boxFar cb2 nb2))
    have hFL' := Lib.hid hFL
    have hlf' : (d.lf == 0) = false := by simpa using hlf
    clear e1 e2 hno hd hlf hL hFL h cb1 cb2 cb3
    rcases hx with ⟨hp, rfl⟩ | ⟨hp, rfl⟩
    · go_enter Tryz.func62, Tryz.ntmps62
      go_wp2_with fail
      refine hcall.out.mono ?_
      rintro e w' ⟨rfl, hD, hF⟩
      go_wp2
      go_ret
      exact ⟨rfl, hD, hFL'.out.trans hF⟩
    · rw [hp] at c6
      clear hlf' hp hlf1
      go_enter Tryz.func62, Tryz.ntmps62
      go_wp2_with fail
      refine hcall.out.mono ?_
      rintro e w' ⟨rfl, hD, hF⟩
      go_wp2
      go_ret
      exact ⟨rfl, hD, hFL'.out.trans hF⟩

set_option maxRecDepth 100000 in
set_option maxHeartbeats 800000 in
theorem dStepRaise (w : World) (B : DB) (d : Dv) (h : DevAt w B d) (c : Int) (n : Int) (hc : c = raC d n) (b1 : Nat) (cb1 : w.cell? ⟨b1, 0, none⟩ = some (.pointer (some ⟨B.d, 0, none⟩))) (nb1 : b1 ≠ B.d) (b2 : Nat) (cb2 : w.cell? ⟨b2, 0, none⟩ = some (.int .i64 n)) (nb2 : b2 ≠ B.d) :
    Calls Tryz.prog 62 #[.pointer (some ⟨B.d, 0, none⟩), .int .i64 c, .func (.func 67) #[] #[.pointer (some ⟨b2, 0, none⟩), .pointer (some ⟨b1, 0, none⟩)]] w fun e w' => e = .returned (.int .i64 (stpE d c)) ∧ DevAt w' B (dRa d n) ∧ Fr B.l w w' := by
  unfold dRa
  rw [← hc]
  by_cases hno : d.dn = true ∨ c ≠ 0 ∨ d.lf = 0
  · exact dStep_no w B d h c _ _ hno
  · have hd : d.dn = false := by
      cases e : d.dn
      · rfl
      · exact absurd (.inl e) hno
    have hlf : d.lf ≠ 0 := fun e => hno (.inr (.inr e))
    obtain rfl : c = 0 := by
      by_cases e : c = 0
      · exact e
      · exact absurd (.inr (.inl e)) hno
    obtain ⟨hn, hn1⟩ : 0 ≤ n ∧ n ≤ 4611686018427387904 := by
      unfold raC at hc
      split at hc
      · rename_i hi; exact hi
      · cases hc
    clear hc
    have e1 : stpE d 0 = 0 := by unfold stpE; rw [hd]; simp [hlf]
    have e2 : ∀ g, stpD d 0 g = g d.less := fun g => by unfold stpD; rw [hd]; simp [hlf]
    rw [e1, e2]
    have c5 := h.c5
    rw [hd] at c5
    have c6 := h.c6
    have z6 := h.frd 6
    have hlf1 := h.ok.lf1
    obtain ⟨x, hx, hL, hFL⟩ := h.less' hlf
    have hcall := Lib.hid (dRaise1 _ B d.less hL n hn hn1 b1 b2 (boxFar cb2 nb2) (boxFar cb1 nb1))
    have hFL' := Lib.hid hFL
    have hlf' : (d.lf == 0) = false := by simpa using hlf
    clear e1 e2 hno hd hlf hL hFL h cb1 cb2
    rcases hx with ⟨hp, rfl⟩ | ⟨hp, rfl⟩
    · go_enter Tryz.func62, Tryz.ntmps62
      go_wp2_with fail
      refine hcall.out.mono ?_
      rintro e w' ⟨rfl, hD, hF⟩
      go_wp2
      go_ret
      exact ⟨rfl, hD, hFL'.out.trans hF⟩
    · rw [hp] at c6
      clear hlf' hp hlf1
      go_enter Tryz.func62, Tryz.ntmps62
      go_wp2_with fail
      refine hcall.out.mono ?_
      rintro e w' ⟨rfl, hD, hF⟩
      go_wp2
      go_ret
      exact ⟨rfl, hD, hFL'.out.trans hF⟩

set_option maxRecDepth 100000 in
set_option maxHeartbeats 800000 in
theorem dStepWrite (w : World) (B : DB) (d : Dv) (h : DevAt w B d) (c : Int) (i : Int) (x : ByteArray) (hc : c = wrC d i x) (b1 : Nat) (cb1 : w.cell? ⟨b1, 0, none⟩ = some (.pointer (some ⟨B.d, 0, none⟩))) (nb1 : b1 ≠ B.d) (b2 : Nat) (cb2 : w.cell? ⟨b2, 0, none⟩ = some (.int .i64 i)) (nb2 : b2 ≠ B.d) (b3 : Nat) (cb3 : w.cell? ⟨b3, 0, none⟩ = some (.string x)) (nb3 : b3 ≠ B.d) :
    Calls Tryz.prog 62 #[.pointer (some ⟨B.d, 0, none⟩), .int .i64 c, .func (.func 75) #[] #[.pointer (some ⟨b1, 0, none⟩), .pointer (some ⟨b2, 0, none⟩), .pointer (some ⟨b3, 0, none⟩)]] w fun e w' => e = .returned (.int .i64 (stpE d c)) ∧ DevAt w' B (dWr d i x) ∧ Fr B.l w w' := by
  unfold dWr
  rw [← hc]
  by_cases hno : d.dn = true ∨ c ≠ 0 ∨ d.lf = 0
  · exact dStep_no w B d h c _ _ hno
  · have hd : d.dn = false := by
      cases e : d.dn
      · rfl
      · exact absurd (.inl e) hno
    have hlf : d.lf ≠ 0 := fun e => hno (.inr (.inr e))
    obtain rfl : c = 0 := by
      by_cases e : c = 0
      · exact e
      · exact absurd (.inr (.inl e)) hno
    clear hc
    have e1 : stpE d 0 = 0 := by unfold stpE; rw [hd]; simp [hlf]
    have e2 : ∀ g, stpD d 0 g = g d.less := fun g => by unfold stpD; rw [hd]; simp [hlf]
    rw [e1, e2]
    have c5 := h.c5
    rw [hd] at c5
    have c6 := h.c6
    have z6 := h.frd 6
    have hlf1 := h.ok.lf1
    obtain ⟨y, hx, hL, hFL⟩ := h.less' hlf
    have hcall := Lib.hid (dWrite1 _ B d.less hL i x b1 b2 b3 (boxFar cb1 nb1) (boxFar cb2 nb2) (boxFar cb3 nb3))
    have hFL' := Lib.hid hFL
    have hlf' : (d.lf == 0) = false := by simpa using hlf
    clear e1 e2 hno hd hlf hL hFL h cb1 cb2 cb3
    rcases hx with ⟨hp, rfl⟩ | ⟨hp, rfl⟩
    · go_enter Tryz.func62, Tryz.ntmps62
      go_wp2_with fail
      refine hcall.out.mono ?_
      rintro e w' ⟨rfl, hD, hF⟩
      go_wp2
      go_ret
      exact ⟨rfl, hD, hFL'.out.trans hF⟩
    · rw [hp] at c6
      clear hlf' hp hlf1
      go_enter Tryz.func62, Tryz.ntmps62
      go_wp2_with fail
      refine hcall.out.mono ?_
      rintro e w' ⟨rfl, hD, hF⟩
      go_wp2
      go_ret
      exact ⟨rfl, hD, hFL'.out.trans hF⟩

set_option maxRecDepth 100000 in
set_option maxHeartbeats 800000 in
theorem dStepFlush (w : World) (B : DB) (d : Dv) (h : DevAt w B d)  :
    Calls Tryz.prog 62 #[.pointer (some ⟨B.d, 0, none⟩), .int .i64 0, .func (.func 77) #[.pointer (some ⟨B.m, 0, none⟩)] #[]] w fun e w' => e = .returned (.int .i64 (stpE d 0)) ∧ DevAt w' B (dFl d) ∧ Fr B.l w w' := by
  unfold dFl
  by_cases hno : d.dn = true ∨ (0 : Int) ≠ 0 ∨ d.lf = 0
  · exact dStep_no w B d h 0 _ _ hno
  · have hd : d.dn = false := by
      cases e : d.dn
      · rfl
      · exact absurd (.inl e) hno
    have hlf : d.lf ≠ 0 := fun e => hno (.inr (.inr e))
    have e1 : stpE d 0 = 0 := by unfold stpE; rw [hd]; simp [hlf]
    have e2 : ∀ g, stpD d 0 g = g d.less := fun g => by unfold stpD; rw [hd]; simp [hlf]
    rw [e1, e2]
    have c5 := h.c5
    rw [hd] at c5
    have c6 := h.c6
    have z6 := h.frd 6
    have hlf1 := h.ok.lf1
    obtain ⟨x, hx, hL, hFL⟩ := h.less' hlf
    have hcall := Lib.hid (mFlush _ _ _ _ hL.mem hL.ok.m1 hL.ok.wf)
    have hFL' := Lib.hid hFL
    have hL' := Lib.hid hL
    have hlf' : (d.lf == 0) = false := by simpa using hlf
    clear e1 e2 hno hd hlf hL hFL h 
    rcases hx with ⟨hp, rfl⟩ | ⟨hp, rfl⟩
    · go_enter Tryz.func62, Tryz.ntmps62
      go_wp2_with fail
      refine hcall.out.mono ?_
      rintro e w' ⟨rfl, hM, hF1⟩
      have hr := hL'.out.frM hM hF1 (Keeps.mem _ _ (fun k => flM_WF k) (flM_length _))
      obtain ⟨hD, hF⟩ := hr
      clear hM hF1
      go_wp2
      go_ret
      exact ⟨rfl, hD, hFL'.out.trans hF⟩
    · rw [hp] at c6
      clear hlf' hp hlf1
      go_enter Tryz.func62, Tryz.ntmps62
      go_wp2_with fail
      refine hcall.out.mono ?_
      rintro e w' ⟨rfl, hM, hF1⟩
      have hr := hL'.out.frM hM hF1 (Keeps.mem _ _ (fun k => flM_WF k) (flM_length _))
      obtain ⟨hD, hF⟩ := hr
      clear hM hF1
      go_wp2
      go_ret
      exact ⟨rfl, hD, hFL'.out.trans hF⟩

end Go.Proofs.YtogljlloobjeoaaGreat
