/- The methods of package device that only read, and those that hand on to the memory. -/
import Derived.Test.YtogljlloobjeoaaGreatDBase
import Derived.Test.YtogljlloobjeoaaGreatLoad
import Derived.Test.YtogljlloobjeoaaGreatMemD
import Derived.Test.YtogljlloobjeoaaGreatImg
namespace Go.Proofs.YtogljlloobjeoaaGreat
open Go.RowKit

section
variable {w : World} {B : DB} {d : Dv}
theorem DevAt.frM (h : DevAt w B d) {w' : World} {M' : List Sec} (hM : MemAt w' B.m B.b M') (hf : Fr [B.b] w w') (hk : Keeps d { d with M := M' }) : DevAt w' B { d with M := M' } ∧ Fr B.l w w' :=
  ⟨h.setM hM hf (hk.ok h.ok), hf.weaken (by simp [DB.l])⟩
end

set_option maxHeartbeats 400000 in
theorem dUp (w : World) (B : DB) (d : Dv) (h : DevAt w B d) : Calls Tryz.prog 17 #[.pointer (some ⟨B.d, 0, none⟩)] w fun e w' => e = .returned (.bool (!d.dn)) ∧ w = w' := by
  have c5 := h.c5
  go_enter Tryz.func17, Tryz.ntmps17
  go_wp2
  go_ret
  exact ⟨rfl, rfl⟩
set_option maxHeartbeats 400000 in
theorem dCounter (w : World) (B : DB) (d : Dv) (h : DevAt w B d) : Calls Tryz.prog 25 #[.pointer (some ⟨B.d, 0, none⟩)] w fun e w' => e = .returned (.int .i64 d.cnt) ∧ w = w' := by
  have c5 := h.c2
  go_enter Tryz.func25, Tryz.ntmps25
  go_wp2
  go_ret
  exact ⟨rfl, rfl⟩
set_option maxHeartbeats 400000 in
theorem dNow (w : World) (B : DB) (d : Dv) (h : DevAt w B d) : Calls Tryz.prog 24 #[.pointer (some ⟨B.d, 0, none⟩)] w fun e w' => e = .returned (.int .i64 d.clk) ∧ w = w' := by
  have c5 := h.c3
  go_enter Tryz.func24, Tryz.ntmps24
  go_wp2
  go_ret
  exact ⟨rfl, rfl⟩
set_option maxHeartbeats 400000 in
theorem dSectors (w : World) (B : DB) (d : Dv) (h : DevAt w B d) : Calls Tryz.prog 26 #[.pointer (some ⟨B.d, 0, none⟩)] w fun e w' => e = .returned (.int .i64 d.M.length) ∧ w = w' := by
  have c4 := h.c4
  obtain ⟨cap, hp, _⟩ := h.mem.ptr
  go_enter Tryz.func26, Tryz.ntmps26
  go_wp2_with (go_at_call 69; refine (mLen_c _ _ _ _ _ hp).mono ?_; rintro e w' ⟨rfl, rfl⟩)
  go_ret
  exact ⟨rfl, rfl⟩
set_option maxHeartbeats 400000 in
theorem dImage (w : World) (B : DB) (d : Dv) (h : DevAt w B d) : Calls Tryz.prog 23 #[.pointer (some ⟨B.d, 0, none⟩)] w fun e w' => ∃ v, e = .returned v ∧ SlAt w' (fun b => w.heap.size ≤ b) v (strs (imgM d.M)) ∧ Below w.heap.size w w' := by
  have c4 := h.c4
  have hm := h.mem
  have hl := h.ok.m1
  go_enter Tryz.func23, Tryz.ntmps23
  go_wp2_with fail
  refine (mImage _ _ _ _ hm hl).mono ?_
  rintro e w' ⟨v, rfl, hs, hB⟩
  go_wp2
  go_ret
  exact ⟨_, rfl, hs, hB⟩
set_option maxHeartbeats 400000 in
theorem dRead (w : World) (B : DB) (d : Dv) (h : DevAt w B d) (i : Int) : Calls Tryz.prog 35 #[.pointer (some ⟨B.d, 0, none⟩), .int .i64 i] w fun e w' => e = .returned (.tuple #[.string (dRdT d i), .int .i64 (dRdE d i)]) ∧ w = w' := by
  have c4 := h.c4
  have c5 := h.c5
  have hm := h.mem
  have hl := h.ok.m1
  unfold dRdT dRdE
  cases hd : d.dn
  · rw [hd] at c5
    clear hd
    go_enter Tryz.func35, Tryz.ntmps35
    go_wp2_with fail
    refine (mRead _ _ _ _ hm hl i).mono ?_
    rintro e w' ⟨rfl, rfl⟩
    go_wp2
    go_ret2
    exact ⟨rfl, rfl⟩
  · rw [hd] at c5
    clear hd
    go_enter Tryz.func35, Tryz.ntmps35
    go_wp2_with fail
    go_ret2
    exact ⟨rfl, rfl⟩
set_option maxHeartbeats 400000 in
theorem dStale (w : World) (B : DB) (d : Dv) (h : DevAt w B d) (i : Int) : Calls Tryz.prog 38 #[.pointer (some ⟨B.d, 0, none⟩), .int .i64 i] w fun e w' => e = .returned (.int .i64 (rdE d.M i)) ∧ DevAt w' B { d with M := stM d.M i } ∧ Fr B.l w w' := by
  have c4 := h.c4
  have hl := h.ok.m1
  go_enter Tryz.func38, Tryz.ntmps38
  go_wp2_with fail
  refine (mStale _ _ _ _ h.mem hl i).mono ?_
  rintro e w' ⟨rfl, hM, hF⟩
  have hr := h.frM hM hF (Keeps.mem _ _ (fun k => stM_WF k _) (stM_length _ _))
  clear hM hF c4 h
  go_wp2
  go_ret
  exact ⟨rfl, hr⟩
set_option maxHeartbeats 400000 in
theorem dWear (w : World) (B : DB) (d : Dv) (h : DevAt w B d) (i : Int) : Calls Tryz.prog 39 #[.pointer (some ⟨B.d, 0, none⟩), .int .i64 i] w fun e w' => e = .returned (.int .i64 (rdE d.M i)) ∧ DevAt w' B { d with M := weM d.M i } ∧ Fr B.l w w' := by
  have c4 := h.c4
  have hl := h.ok.m1
  go_enter Tryz.func39, Tryz.ntmps39
  go_wp2_with fail
  refine (mWear _ _ _ _ h.mem hl i).mono ?_
  rintro e w' ⟨rfl, hM, hF⟩
  have hr := h.frM hM hF (Keeps.mem _ _ (fun k => weM_WF k _) (weM_length _ _))
  clear hM hF c4 h
  go_wp2
  go_ret
  exact ⟨rfl, hr⟩
set_option maxHeartbeats 400000 in
theorem dRestore (w : World) (B : DB) (d : Dv) (h : DevAt w B d) (ok : Nat → Prop) (v : Value) (l : List ByteArray) (hv : SlAt w ok v (strs l)) (hn : l.length ≤ 4611686018427387904) (hok : ∀ b, ok b → b ∉ B.l) :
    Calls Tryz.prog 40 #[.pointer (some ⟨B.d, 0, none⟩), v] w fun e w' => e = .returned (.int .i64 (ldE d.M l)) ∧ DevAt w' B { d with M := ldM d.M l } ∧ Fr B.l w w' := by
  have c4 := h.c4
  have hl := h.ok.m1
  have hv' := Lib.hid hv
  obtain ⟨a, cap, rfl, _⟩ := hv
  go_enter Tryz.func40, Tryz.ntmps40
  go_wp2_with fail
  refine (mLoad _ _ _ ok _ h.mem hl _ l hv'.out hn (fun b hb e => hok b hb (by subst e; simp [DB.l]))).mono ?_
  rintro e w' ⟨rfl, hM, hF⟩
  have hr := h.frM hM hF (Keeps.mem _ _ (fun k => ldM_WF k _) (ldM_length _ _))
  clear hM hF c4 h
  go_wp2
  go_ret
  exact ⟨rfl, hr⟩
set_option maxHeartbeats 400000 in
theorem dTrip (w : World) (B : DB) (d : Dv) (h : DevAt w B d) (n : Int) (hn : n ≤ 9223372036854775807) : Calls Tryz.prog 14 #[.pointer (some ⟨B.d, 0, none⟩), .int .i64 n] w fun e w' => e = .returned (.tuple #[]) ∧ DevAt w' B (dTr d n) ∧ Fr B.l w w' := by
  have c6 := h.c6
  have hz := h.frd 6
  have hr : DevAt (w.setCell ⟨B.d, 6, none⟩ (.int .i64 (max n (-1)))) B (dTr d n) ∧ Fr B.l w (w.setCell ⟨B.d, 6, none⟩ (.int .i64 (max n (-1)))) := ⟨h.lf' _ (by omega) (by omega), (Fr.refl _ _).setCell (by simp [DB.l]) _⟩
  go_enter Tryz.func14, Tryz.ntmps14
  go_wp2
  all_goals
    go_end0
    refine ⟨rfl, ?_⟩
    first
      | (have e : max n (-1) = n := by omega
         rw [e] at hr
         exact hr)
      | (have e : max n (-1) = -1 := by omega
         rw [e] at hr
         exact hr)
set_option maxHeartbeats 400000 in
theorem dMount (w : World) (B : DB) (d : Dv) (h : DevAt w B d) (ok : Nat → Prop) (v : Value) (ps : List Int) (hv : SlAt w ok v (ints ps)) (hn : ps.length ≤ maxLen) (hok : ∀ b, ok b → b ∉ B.l ∧ b < w.heap.size) :
    Calls Tryz.prog 20 #[.pointer (some ⟨B.d, 0, none⟩), v] w fun e w' => e = .returned (.tuple #[]) ∧ DevAt w' B (dMo d ps) ∧ Fr B.l w w' := by
  have c4 := h.c4
  have hl := h.ok.m1
  have hwf := h.ok.wf
  have hv' := Lib.hid hv
  obtain ⟨a, cap, rfl, _⟩ := hv
  go_enter Tryz.func20, Tryz.ntmps20
  go_wp2_with fail
  refine (mCut _ _ _ _ h.mem hl hwf _ ps _ hv'.out hn (fun b hb => ⟨fun e => (hok b hb).1 (by subst e; simp [DB.l]), (hok b hb).2⟩)).mono ?_
  rintro e w' ⟨rfl, hM, hF⟩
  have hr := h.frM hM hF (Keeps.mem _ _ (fun k => cutM_WF k _) (cutM_length _ _))
  obtain ⟨h1, hF1⟩ := hr
  have c5 := h1.c5
  have c6 := h1.c6
  have z5 := h1.frd 5
  have z6 := h1.frd 6
  have h2 := Lib.hid ((h1.dn' false).lf' (-1) (by omega) (by omega))
  have hF2 : Fr B.l w ((w'.setCell ⟨B.d, 5, none⟩ (.bool false)).setCell ⟨B.d, 6, none⟩ (.int .i64 (-1))) := (hF1.setCell (by simp [DB.l]) _).setCell (by simp [DB.l]) _
  clear hM hF c4 h h1 hF1
  go_wp2
  go_end0
  exact ⟨rfl, h2.out, hF2⟩

/-! ### A step -/
set_option maxHeartbeats 400000 in
theorem dValid (w : World) (b : Bool) : Calls Tryz.prog 63 #[.bool b] w fun e w' => e = .returned (.int .i64 (if b = true then 0 else 1)) ∧ w = w' := by
  cases b
  all_goals
    go_enter Tryz.func63, Tryz.ntmps63
    go_wp2
    go_ret
    exact ⟨rfl, rfl⟩

set_option maxHeartbeats 800000 in
theorem dStep_no (w : World) (B : DB) (d : Dv) (h : DevAt w B d) (c : Int) (fv : Value) (g : Dv → Dv) (hno : d.dn = true ∨ c ≠ 0 ∨ d.lf = 0) :
    Calls Tryz.prog 62 #[.pointer (some ⟨B.d, 0, none⟩), .int .i64 c, fv] w fun e w' => e = .returned (.int .i64 (stpE d c)) ∧ DevAt w' B (stpD d c g) ∧ Fr B.l w w' := by
  have c5 := h.c5
  have c6 := h.c6
  have z5 := h.frd 5
  have z6 := h.frd 6
  unfold stpE stpD
  cases hd : d.dn
  · rw [hd] at c5
    by_cases hc : c = 0
    · subst hc
      have hlf : d.lf = 0 := by
        rcases hno with e | e | e
        · rw [hd] at e; cases e
        · exact absurd rfl e
        · exact e
      rw [hlf] at c6
      simp only [hlf, if_true, Bool.false_eq_true, if_false, ne_eq, not_true_eq_false]
      have h2 := Lib.hid ((h.dn' true).lf' (-1) (by omega) (by omega))
      have hF2 : Fr B.l w ((w.setCell ⟨B.d, 5, none⟩ (.bool true)).setCell ⟨B.d, 6, none⟩ (.int .i64 (-1))) := ((Fr.refl _ _).setCell (by simp [DB.l]) _).setCell (by simp [DB.l]) _
      clear hd hlf hno h
      go_enter Tryz.func62, Tryz.ntmps62
      go_wp2
      go_ret
      exact ⟨rfl, h2.out, hF2⟩
    · simp only [Bool.false_eq_true, if_false, ne_eq, hc, not_false_eq_true, if_true]
      have hc' : (c == 0) = false := by simpa using hc
      have hc2 : (c != 0) = true := by simpa using hc
      have h' := Lib.hid h
      clear hd hno hc h
      go_enter Tryz.func62, Tryz.ntmps62
      go_wp2
      go_ret
      exact ⟨rfl, h'.out, Fr.refl _ _⟩
  · rw [hd] at c5
    simp only [if_true]
    have h' := Lib.hid h
    clear hd hno h
    go_enter Tryz.func62, Tryz.ntmps62
    go_wp2
    go_ret
    exact ⟨rfl, h'.out, Fr.refl _ _⟩

end Go.Proofs.YtogljlloobjeoaaGreat
