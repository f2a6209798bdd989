/- alike: both devices look the same. -/
import Derived.Test.YtogljlloobjeoaaGreatVDev
import Derived.Test.YtogljlloobjeoaaGreatDevE
import Derived.Test.YtogljlloobjeoaaGreatSame
namespace Go.Proofs.YtogljlloobjeoaaGreat
open Go.RowKit
set_option linter.unusedSimpArgs false
set_option linter.unusedVariables false

set_option maxRecDepth 100000 in
set_option maxHeartbeats 8000000 in
theorem qAlike (w : World) (B C : DB) (d : Dv) (h : DevAt w B d) (k : RevAt w C d) (hm : d.M.length ≤ 64) :
    Calls Tryz.prog 12 #[.pointer (some ⟨B.d, 0, none⟩), .pointer (some ⟨C.d, 0, none⟩)] w fun e w' => e = .returned (.bool true) ∧ Below w.heap.size w w' := by
  have h' := Lib.hid h
  have k' := Lib.hid k
  obtain ⟨cs, hcs, k1⟩ := k.c0
  obtain ⟨cf, hcf, k2⟩ := k.c1
  have s1 : (d.S.length : Int) ≤ 16 := by have := h.ok.s1; omega
  have f1 : (d.F.length : Int) ≤ 16 := by have := h.ok.f1; omega
  have m1 : (d.M.length : Int) ≤ 64 := by omega
  clear h k hcs hcf
  go_enter Tryz.func12, Tryz.ntmps12
  go_wp2_with fail
  refine (dUp _ B _ h'.out).mono ?_
  rintro e w' ⟨rfl, rfl⟩
  go_wp2_with fail
  refine (qUp _ C _ k'.out).mono ?_
  rintro e w' ⟨rfl, rfl⟩
  go_wp2_with fail
  refine (dSectors _ B _ h'.out).mono ?_
  rintro e w' ⟨rfl, rfl⟩
  go_wp2_with fail
  refine (qSectors _ C _ k'.out).mono ?_
  rintro e w' ⟨rfl, rfl⟩
  go_wp2_with fail
  refine (dCounter _ B _ h'.out).mono ?_
  rintro e w' ⟨rfl, rfl⟩
  go_wp2_with fail
  refine (qCounter _ C _ k'.out).mono ?_
  rintro e w' ⟨rfl, rfl⟩
  go_wp2_with fail
  refine (dNow _ B _ h'.out).mono ?_
  rintro e w' ⟨rfl, rfl⟩
  go_wp2_with fail
  refine (qNow _ C _ k'.out).mono ?_
  rintro e w' ⟨rfl, rfl⟩
  go_wp2_with fail
  go_loop [5] (fun q => ∃ i : Int, -1 ≤ i ∧ i ≤ (d.F.length : Int) + 1 ∧ q = .int .i64 i) (fun q => ((d.F.length : Int) + 1 - intOf q).toNat)
  case atStart => exact ⟨-1, by omega, by omega, rfl⟩
  case round =>
    obtain ⟨i, hi0, hi1, rfl⟩ := hrel
    by_cases hlt : i ≤ (d.F.length : Int)
    · have cB := dBurned _ B _ h'.out i
      have cC := qBurned _ C _ k'.out i
      generalize dBd d i = b at *
      go_wp2_with fail
      refine cB.mono ?_
      clear cB
      rintro e w' ⟨rfl, rfl⟩
      go_wp2_with fail
      refine cC.mono ?_
      clear cC
      rintro e w' ⟨rfl, rfl⟩
      go_wp2_with fail
      go_round
      case rel => exact ⟨i + 1, by omega, by omega, by go_num⟩
      case measure => simp [intOf]; omega
    · have hgt : (d.F.length : Int) < i := by omega
      clear hlt
      go_wp2_with fail
      clear hi0 hi1 hgt
      go_loop [6] (fun q => ∃ i : Int, -1 ≤ i ∧ i ≤ (d.S.length : Int) + 1 ∧ q = .int .i64 i) (fun q => ((d.S.length : Int) + 1 - intOf q).toNat)
      case atStart => exact ⟨-1, by omega, by omega, rfl⟩
      case round =>
        obtain ⟨i, hi0, hi1, rfl⟩ := hrel
        by_cases hlt : i ≤ (d.S.length : Int)
        · have cB := dLoad _ B _ h'.out i
          have cC := qLoad _ C _ k'.out i
          have hcmp := beqT (rfl : dLdT d i = dLdT d i)
          generalize dLdT d i = x at *
          generalize dLdE d i = E at *
          go_wp2_with fail
          refine cB.mono ?_
          clear cB
          rintro e w' ⟨rfl, rfl⟩
          go_wp2_with fail
          refine cC.mono ?_
          clear cC
          rintro e w' ⟨rfl, rfl⟩
          go_wp2_with fail
          go_round
          case rel => exact ⟨i + 1, by omega, by omega, by go_num⟩
          case measure => simp [intOf]; omega
        · have hgt : (d.S.length : Int) < i := by omega
          clear hlt
          go_wp2_with fail
          clear hi0 hi1 hgt
          go_loop [11] (fun q => ∃ i : Int, -1 ≤ i ∧ i ≤ (d.M.length : Int) + 1 ∧ q = .int .i64 i) (fun q => ((d.M.length : Int) + 1 - intOf q).toNat)
          case atStart => exact ⟨-1, by omega, by omega, rfl⟩
          case round =>
            obtain ⟨i, hi0, hi1, rfl⟩ := hrel
            by_cases hlt : i ≤ (d.M.length : Int)
            · have cB := dRead _ B _ h'.out i
              have cC := qRead _ C _ k'.out i
              have cS := qSectors _ C _ k'.out
              have hcmp := beqT (rfl : dRdT d i = dRdT d i)
              generalize dRdT d i = x at *
              generalize dRdE d i = E at *
              go_wp2_with fail
              refine cS.mono ?_
              clear cS
              rintro e w' ⟨rfl, rfl⟩
              go_wp2_with fail
              refine cB.mono ?_
              clear cB
              rintro e w' ⟨rfl, rfl⟩
              go_wp2_with fail
              refine cC.mono ?_
              clear cC
              rintro e w' ⟨rfl, rfl⟩
              go_wp2_with fail
              go_round
              case rel => exact ⟨i + 1, by omega, by omega, by go_num⟩
              case measure => simp [intOf]; omega
            · have hgt : (d.M.length : Int) < i := by omega
              clear hlt
              go_wp2_with fail
              refine (qSectors _ C _ k'.out).mono ?_
              rintro e w' ⟨rfl, rfl⟩
              go_wp2_with fail
              refine (dImage _ B _ h'.out).mono ?_
              rintro e w2 ⟨v1, rfl, hv1, hB⟩
              have k2' := Lib.hid (k'.out.below hB)
              have hv1' := Lib.hid hv1
              have hB' := Lib.hid hB
              obtain ⟨a1, c1, e1, _⟩ := hv1
              subst e1
              clear hB k1 k2
              go_wp2_with fail
              refine (qImage _ C _ k2'.out).mono ?_
              rintro e w3 ⟨v2, rfl, hv2, hB3⟩
              have cS := wSameTexts w3 _ _ _ _ _ _ (hv1'.out.fr (S := []) (Fr.of_below hB3) (by simp)) hv2 (by unfold imgM; rw [List.length_map]; omega)
              rw [decide_eq_true rfl] at cS
              have hB4 := hB'.out.trans (hB3.mono hB'.out.size)
              obtain ⟨a2, c2, e2, _⟩ := hv2
              subst e2
              clear hB3
              go_wp2_with fail
              refine cS.mono ?_
              clear cS
              rintro e w4 ⟨rfl, hF⟩
              have hB5 := hB4.trans (hF.below hB4.size (by simp))
              go_wp2_with fail
              go_ret
              exact ⟨rfl, hB5⟩

end Go.Proofs.YtogljlloobjeoaaGreat
