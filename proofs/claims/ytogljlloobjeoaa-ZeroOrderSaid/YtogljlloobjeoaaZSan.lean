/- The examples of chapter 33, played. -/
import Derived.Test.YtogljlloobjeoaaZE
import Derived.Test.YtogljlloobjeoaaZPl
import Derived.Test.YtogljlloobjeoaaDSan
namespace Go.Proofs.Ytogljlloobjeoaa
open Go.RowKit
set_option linter.unusedSimpArgs false

theorem dText65y (w : World) (n : Nat) (hn : 2 ≤ n) (hn2 : n ≤ 1000) : Calls Try.prog 48 #[.agg #[.int .i64 0, .int .i64 0, .int .i64 0, .int .u8 65, .bool false, .slice none 0 0], .int .i64 (n : Int)] w fun e w' => e = .returned (.string (dtext 65 false n)) ∧ Below w.heap.size w w' :=
  dText w 0 0 0 65 false _ n hn hn2

set_option maxRecDepth 100000 in
set_option maxHeartbeats 8000000 in
theorem zSanity (w : World) : Calls Try.prog 35 #[] w fun e w' => e = .returned (.bool true) ∧ Below w.heap.size w w' := by
  have hmk := mk32
  have hcv := cv32
  go_enter Try.func35, Try.ntmps35
  go_wp2_with fail
  refine (dNew_ok w 2 1 2 (by omega) (by omega) (by omega) (by omega) (by omega) (by omega)).mono ?_
  rintro e w1 ⟨B, rfl, h, hBa, hB⟩
  have hBl : Hid (∀ k ∈ B.l, w.heap.size ≤ k) := fun k hk => hBa k (B.l_all k hk)
  clear hBa
  have hD := Lib.hid (show DevAt w1 B u0 from h)
  clear h
  have c := zState_c _ B _ hD.out
  rw [show zState u0 = 0 from rfl] at c
  go_wp2_with fail
  refine c.mono ?_
  clear c
  rintro e w' ⟨rfl, rfl⟩
  have c := zStepsN _ B _ hD.out
  rw [show ((zSteps u0 : Nat) : Int) = 0 from rfl] at c
  go_wp2_with fail
  refine c.mono ?_
  clear c
  rintro e w2 ⟨rfl, h, hF⟩
  have hD2 := Lib.hid h
  have hB2 := hB.trans (hF.below hB.size hBl.out)
  clear h hF hD hB
  have c := zResume _ B _ hD2.out
  rw [show resume u0 = (0, u0) from rfl] at c
  go_wp2_with fail
  refine c.mono ?_
  clear c
  rintro e w3 ⟨rfl, h, hF⟩
  have hD := Lib.hid (show DevAt w3 B u0 from h)
  have hB := hB2.trans (hF.below hB2.size hBl.out)
  clear h hF hD2 hB2
  go_wp2_with fail
  refine (dText65y _ 32 (by omega) (by omega)).mono ?_
  rintro e w4 ⟨rfl, hB2⟩
  have hD2 := Lib.hid (hD.out.below hB2)
  have hB3 := hB.trans (hB2.mono hB.size)
  clear hD hB hB2
  have c := dStore _ B _ hD2.out 0 y32
  rw [u1_E] at c
  go_wp2_with fail
  refine c.mono ?_
  clear c
  rintro e w5 ⟨rfl, h, hF⟩
  have hD := Lib.hid (show DevAt w5 B u1 from h)
  have hB := hB3.trans (hF.below hB3.size hBl.out)
  clear h hF hD2 hB3
  go_wp2_with fail
  refine (dText65y _ 64 (by omega) (by omega)).mono ?_
  rintro e w6 ⟨rfl, hB2⟩
  have hD2 := Lib.hid (hD.out.below hB2)
  have hB3 := hB.trans (hB2.mono hB.size)
  clear hD hB hB2
  have c := dWrite _ B _ hD2.out 1 y64
  rw [u2_E] at c
  go_wp2_with fail
  refine c.mono ?_
  clear c
  rintro e w7 ⟨rfl, h, hF⟩
  have hD := Lib.hid (show DevAt w7 B u2 from h)
  have hB := hB3.trans (hF.below hB3.size hBl.out)
  clear h hF hD2 hB3
  have c := dFlush _ B _ hD.out
  rw [u3_E] at c
  go_wp2_with fail
  refine c.mono ?_
  clear c
  rintro e w8 ⟨rfl, h, hF⟩
  have hD2 := Lib.hid (show DevAt w8 B u3 from h)
  have hB2 := hB.trans (hF.below hB.size hBl.out)
  clear h hF hD hB
  have c := zLeft_c _ B _ hD2.out
  rw [u3_left] at c
  go_wp2_with fail
  refine c.mono ?_
  clear c
  rintro e w9 ⟨v, rfl, ⟨a, cp, rfl, hcp, _⟩, hB4⟩
  have hD := Lib.hid (hD2.out.below hB4)
  have hB := hB2.trans (hB4.mono hB2.size)
  have hl1 : (natInts [1]).length = 1 := rfl
  rw [hl1]
  clear hD2 hB2 hB4 hcp hl1
  go_wp2_with fail
  refine (dTrip _ B _ hD.out 2 (by omega)).mono ?_
  rintro e wa ⟨rfl, h, hF⟩
  have hD2 := Lib.hid (show DevAt wa B u4 from h)
  have hB2 := hB.trans (hF.below hB.size hBl.out)
  clear h hF hD hB
  have c := zBegin _ B _ hD2.out
  rw [show (beginZ u4).1 = 14 from by rw [u5_both]] at c
  go_wp2_with fail
  refine c.mono ?_
  clear c
  rintro e wb ⟨rfl, h, hF⟩
  have hD := Lib.hid (show DevAt wb B u5 from h)
  have hB := hB2.trans (hF.below hB2.size hBl.out)
  clear h hF hD2 hB2
  go_wp2_with fail
  refine (dMount _ B _ hD.out (fun _ => False) _ [] (SlAt.nil _ _) (by simp) (fun _ h => h.elim)).mono ?_
  rintro e wc ⟨rfl, h, hF⟩
  have hD2 := Lib.hid (show DevAt wc B u6 from h)
  have hB2 := hB.trans (hF.below hB.size hBl.out)
  clear h hF hD hB
  have c := zState_c _ B _ hD2.out
  rw [u6_state] at c
  go_wp2_with fail
  refine c.mono ?_
  clear c
  rintro e w' ⟨rfl, rfl⟩
  have c := zStepsN _ B _ hD2.out
  rw [u6_steps] at c
  go_wp2_with fail
  refine c.mono ?_
  clear c
  rintro e wd ⟨rfl, h, hF⟩
  have hD := Lib.hid h
  have hB := hB2.trans (hF.below hB2.size hBl.out)
  clear h hF hD2 hB2
  have c := zResume _ B _ hD.out
  rw [show (resume u6).1 = 0 from by rw [u7_both]] at c
  go_wp2_with fail
  refine c.mono ?_
  clear c
  rintro e we ⟨rfl, h, hF⟩
  have hD2 := Lib.hid (show DevAt we B u7 from h)
  have hB2 := hB.trans (hF.below hB.size hBl.out)
  clear h hF hD hB
  have c := dLoad _ B _ hD2.out 0
  rw [u7_T, u7_TE] at c
  go_wp2_with fail
  refine c.mono ?_
  clear c
  rintro e w' ⟨rfl, rfl⟩
  have c1 := zState_c _ B _ hD2.out
  rw [u7_state] at c1
  have c2 := fun W (hW : Fr [] we W) => zLeft_c W B _ (hD2.out.fr hW (by simp))
  simp only [u7_left] at c2
  go_wp2_with fail
  refine c1.mono ?_
  clear c1
  rintro e w' ⟨rfl, rfl⟩
  go_wp2_with fail
  refine (c2 _ ((Fr.refl _ _).alloc _)).mono ?_
  clear c2
  rintro e wf ⟨v, rfl, ⟨a, cp, rfl, hcp, _⟩, hB4⟩
  have hl1 : (natInts []).length = 0 := rfl
  rw [hl1]
  have hB := hB2.trans ((((Below.refl _ _).alloc (Nat.le_refl _) _).trans (hB4.mono (by simp))).mono hB2.size)
  clear hl1 hcp hB4 hB2 hD2
  go_wp2_with fail
  go_ret
  exact ⟨rfl, hB⟩

end Go.Proofs.Ytogljlloobjeoaa
