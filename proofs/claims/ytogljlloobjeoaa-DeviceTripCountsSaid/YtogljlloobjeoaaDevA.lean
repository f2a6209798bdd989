/- The methods of package device that only read, and those that hand on to the memory. -/
import Derived.Test.YtogljlloobjeoaaDBase
import Derived.Test.YtogljlloobjeoaaLoad
import Derived.Test.YtogljlloobjeoaaMemD
import Derived.Test.YtogljlloobjeoaaImg
namespace Go.Proofs.Ytogljlloobjeoaa
open Go.RowKit

section
variable {w : World} {B : DB} {d : Dv}
theorem DevAt.frM (h : DevAt w B d) {w' : World} {M' : List Sec} (hM : MemAt w' B.m B.b M') (hf : Fr [B.b] w w') (hk : Keeps d { d with M := M' }) : DevAt w' B { d with M := M' } ∧ Fr B.l w w' :=
  ⟨h.setM hM hf (hk.ok h.ok), hf.weaken (by simp [DB.l])⟩
end

set_option maxHeartbeats 400000 in
theorem dUp (w : World) (B : DB) (d : Dv) (h : DevAt w B d) : Calls Try.prog 55 #[.pointer (some ⟨B.d, 0, none⟩)] w fun e w' => e = .returned (.bool (!d.dn)) ∧ w = w' := by
  have c5 := h.c5
  go_enter Try.func55, Try.ntmps55
  go_wp2
  go_ret
  exact ⟨rfl, rfl⟩
set_option maxHeartbeats 400000 in
theorem dCounter (w : World) (B : DB) (d : Dv) (h : DevAt w B d) : Calls Try.prog 61 #[.pointer (some ⟨B.d, 0, none⟩)] w fun e w' => e = .returned (.int .i64 d.cnt) ∧ w = w' := by
  have c5 := h.c2
  go_enter Try.func61, Try.ntmps61
  go_wp2
  go_ret
  exact ⟨rfl, rfl⟩
set_option maxHeartbeats 400000 in
theorem dNow (w : World) (B : DB) (d : Dv) (h : DevAt w B d) : Calls Try.prog 62 #[.pointer (some ⟨B.d, 0, none⟩)] w fun e w' => e = .returned (.int .i64 d.clk) ∧ w = w' := by
  have c5 := h.c3
  go_enter Try.func62, Try.ntmps62
  go_wp2
  go_ret
  exact ⟨rfl, rfl⟩
set_option maxHeartbeats 400000 in
theorem dSectors (w : World) (B : DB) (d : Dv) (h : DevAt w B d) : Calls Try.prog 109 #[.pointer (some ⟨B.d, 0, none⟩)] w fun e w' => e = .returned (.int .i64 d.M.length) ∧ w = w' := by
  have c4 := h.c4
  obtain ⟨cap, hp, _⟩ := h.mem.ptr
  go_enter Try.func109, Try.ntmps109
  go_wp2_with (go_at_call 71; refine (mLen_c _ _ _ _ _ hp).mono ?_; rintro e w' ⟨rfl, rfl⟩)
  go_ret
  exact ⟨rfl, rfl⟩
set_option maxHeartbeats 400000 in
theorem dImage (w : World) (B : DB) (d : Dv) (h : DevAt w B d) : Calls Try.prog 49 #[.pointer (some ⟨B.d, 0, none⟩)] w fun e w' => ∃ v, e = .returned v ∧ SlAt w' (fun b => w.heap.size ≤ b) v (strs (imgM d.M)) ∧ Below w.heap.size w w' := by
  have c4 := h.c4
  have hm := h.mem
  have hl := h.ok.m1
  go_enter Try.func49, Try.ntmps49
  go_wp2_with fail
  refine (mImage _ _ _ _ hm hl).mono ?_
  rintro e w' ⟨v, rfl, hs, hB⟩
  go_wp2
  go_ret
  exact ⟨_, rfl, hs, hB⟩
set_option maxHeartbeats 400000 in
theorem dRead (w : World) (B : DB) (d : Dv) (h : DevAt w B d) (i : Int) : Calls Try.prog 50 #[.pointer (some ⟨B.d, 0, none⟩), .int .i64 i] w fun e w' => e = .returned (.tuple #[.string (dRdT d i), .int .i64 (dRdE d i)]) ∧ w = w' := by
  have c4 := h.c4
  have c5 := h.c5
  have hm := h.mem
  have hl := h.ok.m1
  unfold dRdT dRdE
  cases hd : d.dn
  · rw [hd] at c5
    clear hd
    go_enter Try.func50, Try.ntmps50
    go_wp2_with fail
    refine (mRead _ _ _ _ hm hl i).mono ?_
    rintro e w' ⟨rfl, rfl⟩
    go_wp2
    go_ret2
    exact ⟨rfl, rfl⟩
  · rw [hd] at c5
    clear hd
    go_enter Try.func50, Try.ntmps50
    go_wp2_with fail
    go_ret2
    exact ⟨rfl, rfl⟩
set_option maxHeartbeats 400000 in
theorem dStale (w : World) (B : DB) (d : Dv) (h : DevAt w B d) (i : Int) : Calls Try.prog 111 #[.pointer (some ⟨B.d, 0, none⟩), .int .i64 i] w fun e w' => e = .returned (.int .i64 (rdE d.M i)) ∧ DevAt w' B { d with M := stM d.M i } ∧ Fr B.l w w' := by
  have c4 := h.c4
  have hl := h.ok.m1
  go_enter Try.func111, Try.ntmps111
  go_wp2_with fail
  refine (mStale _ _ _ _ h.mem hl i).mono ?_
  rintro e w' ⟨rfl, hM, hF⟩
  have hr := h.frM hM hF (Keeps.mem _ _ (fun k => stM_WF k _) (stM_length _ _))
  clear hM hF c4 h
  go_wp2
  go_ret
  exact ⟨rfl, hr⟩
set_option maxHeartbeats 400000 in
theorem dWear (w : World) (B : DB) (d : Dv) (h : DevAt w B d) (i : Int) : Calls Try.prog 112 #[.pointer (some ⟨B.d, 0, none⟩), .int .i64 i] w fun e w' => e = .returned (.int .i64 (rdE d.M i)) ∧ DevAt w' B { d with M := weM d.M i } ∧ Fr B.l w w' := by
  have c4 := h.c4
  have hl := h.ok.m1
  go_enter Try.func112, Try.ntmps112
  go_wp2_with fail
  refine (mWear _ _ _ _ h.mem hl i).mono ?_
  rintro e w' ⟨rfl, hM, hF⟩
  have hr := h.frM hM hF (Keeps.mem _ _ (fun k => weM_WF k _) (weM_length _ _))
  clear hM hF c4 h
  go_wp2
  go_ret
  exact ⟨rfl, hr⟩
set_option maxHeartbeats 400000 in
theorem dRestore (w : World) (B : DB) (d : Dv) (h : DevAt w B d) (ok : Nat → Prop) (v : Value) (l : List ByteArray) (hv : SlAt w ok v (strs l)) (hn : l.length ≤ 4611686018427387904) (hok : ∀ b, ok b → b ∉ B.l) :
    Calls Try.prog 42 #[.pointer (some ⟨B.d, 0, none⟩), v] w fun e w' => e = .returned (.int .i64 (ldE d.M l)) ∧ DevAt w' B { d with M := ldM d.M l } ∧ Fr B.l w w' := by
  have c4 := h.c4
  have hl := h.ok.m1
  have hv' := Lib.hid hv
  obtain ⟨a, cap, rfl, _⟩ := hv
  go_enter Try.func42, Try.ntmps42
  go_wp2_with fail
  refine (mLoad _ _ _ ok _ h.mem hl _ l hv'.out hn (fun b hb e => hok b hb (by subst e; simp [DB.l]))).mono ?_
  rintro e w' ⟨rfl, hM, hF⟩
  have hr := h.frM hM hF (Keeps.mem _ _ (fun k => ldM_WF k _) (ldM_length _ _))
  clear hM hF c4 h
  go_wp2
  go_ret
  exact ⟨rfl, hr⟩
set_option maxHeartbeats 400000 in
theorem dTrip (w : World) (B : DB) (d : Dv) (h : DevAt w B d) (n : Int) (hn : n ≤ 9223372036854775807) : Calls Try.prog 39 #[.pointer (some ⟨B.d, 0, none⟩), .int .i64 n] w fun e w' => e = .returned (.tuple #[]) ∧ DevAt w' B (dTr d n) ∧ Fr B.l w w' := by
  have c6 := h.c6
  have hz := h.frd 6
  have hr : DevAt (w.setCell ⟨B.d, 6, none⟩ (.int .i64 (max n (-1)))) B (dTr d n) ∧ Fr B.l w (w.setCell ⟨B.d, 6, none⟩ (.int .i64 (max n (-1)))) := ⟨h.lf' _ (by omega) (by omega), (Fr.refl _ _).setCell (by simp [DB.l]) _⟩
  go_enter Try.func39, Try.ntmps39
  go_wp2
  all_goals
    go_end0
    refine ⟨rfl, ?_⟩
    first
      | (have e : max n (-1) = n := by omega
         rw [e] at hr
         exact hr)
      | (have e : max n (-1) = -1 := by omega
         rw [e] at hr
         exact hr)
set_option maxHeartbeats 400000 in
theorem dMount (w : World) (B : DB) (d : Dv) (h : DevAt w B d) (ok : Nat → Prop) (v : Value) (ps : List Int) (hv : SlAt w ok v (ints ps)) (hn : ps.length ≤ maxLen) (hok : ∀ b, ok b → b ∉ B.l ∧ b < w.heap.size) :
    Calls Try.prog 36 #[.pointer (some ⟨B.d, 0, none⟩), v] w fun e w' => e = .returned (.tuple #[]) ∧ DevAt w' B (dMo d ps) ∧ Fr B.l w w' := by
  have c4 := h.c4
  have hl := h.ok.m1
  have hwf := h.ok.wf
  have hv' := Lib.hid hv
  obtain ⟨a, cap, rfl, _⟩ := hv
  go_enter Try.func36, Try.ntmps36
  go_wp2_with fail
  refine (mCut _ _ _ _ h.mem hl hwf _ ps _ hv'.out hn (fun b hb => ⟨fun e => (hok b hb).1 (by subst e; simp [DB.l]), (hok b hb).2⟩)).mono ?_
  rintro e w' ⟨rfl, hM, hF⟩
  have hr := h.frM hM hF (Keeps.mem _ _ (fun k => cutM_WF k _) (cutM_length _ _))
  obtain ⟨h1, hF1⟩ := hr
  have c5 := h1.c5
  have c6 := h1.c6
  have z5 := h1.frd 5
  have z6 := h1.frd 6
  have h2 := Lib.hid ((h1.dn' false).lf' (-1) (by omega) (by omega))
  have hF2 : Fr B.l w ((w'.setCell ⟨B.d, 5, none⟩ (.bool false)).setCell ⟨B.d, 6, none⟩ (.int .i64 (-1))) := (hF1.setCell (by simp [DB.l]) _).setCell (by simp [DB.l]) _
  clear hM hF c4 h h1 hF1
  go_wp2
  go_end0
  exact ⟨rfl, h2.out, hF2⟩

/-! ### A step -/
set_option maxHeartbeats 400000 in
theorem dValid (w : World) (b : Bool) : Calls Try.prog 98 #[.bool b] w fun e w' => e = .returned (.int .i64 (if b = true then 0 else 1)) ∧ w = w' := by
  cases b
  all_goals
    go_enter Try.func98, Try.ntmps98
    go_wp2
    go_ret
    exact ⟨rfl, rfl⟩

set_option maxHeartbeats 800000 in
theorem dStep_no (w : World) (B : DB) (d : Dv) (h : DevAt w B d) (c : Int) (fv : Value) (g : Dv → Dv) (hno : d.dn = true ∨ c ≠ 0 ∨ d.lf = 0) :
    Calls Try.prog 97 #[.pointer (some ⟨B.d, 0, none⟩), .int .i64 c, fv] w fun e w' => e = .returned (.int .i64 (stpE d c)) ∧ DevAt w' B (stpD d c g) ∧ Fr B.l w w' := by
  have c5 := h.c5
  have c6 := h.c6
  have z5 := h.frd 5
  have z6 := h.frd 6
  unfold stpE stpD
  cases hd : d.dn
  · rw [hd] at c5
    by_cases hc : c = 0
    · subst hc
      have hlf : d.lf = 0 := by
        rcases hno with e | e | e
        · rw [hd] at e; cases e
        · exact absurd rfl e
        · exact e
      rw [hlf] at c6
      simp only [hlf, if_true, Bool.false_eq_true, if_false, ne_eq, not_true_eq_false]
      have h2 := Lib.hid ((h.dn' true).lf' (-1) (by omega) (by omega))
      have hF2 : Fr B.l w ((w.setCell ⟨B.d, 5, none⟩ (.bool true)).setCell ⟨B.d, 6, none⟩ (.int .i64 (-1))) := ((Fr.refl _ _).setCell (by simp [DB.l]) _).setCell (by simp [DB.l]) _
      clear hd hlf hno h
      go_enter Try.func97, Try.ntmps97
      go_wp2
      go_ret
      exact ⟨rfl, h2.out, hF2⟩
    · simp only [Bool.false_eq_true, if_false, ne_eq, hc, not_false_eq_true, if_true]
      have hc' : (c == 0) = false := by simpa using hc
      have hc2 : (c != 0) = true := by simpa using hc
      have h' := Lib.hid h
      clear hd hno hc h
      go_enter Try.func97, Try.ntmps97
      go_wp2
      go_ret
      exact ⟨rfl, h'.out, Fr.refl _ _⟩
  · rw [hd] at c5
    simp only [if_true]
    have h' := Lib.hid h
    clear hd hno h
    go_enter Try.func97, Try.ntmps97
    go_wp2
    go_ret
    exact ⟨rfl, h'.out, Fr.refl _ _⟩

end Go.Proofs.Ytogljlloobjeoaa
