/- Package zero: State, slots, the steps' closures. -/
import Derived.Test.YtogljlloobjeoaaZMod
import Derived.Test.YtogljlloobjeoaaEmp
import Derived.Test.YtogljlloobjeoaaDevE
import Derived.Deep.RegionHeld3
namespace Go.Proofs.Ytogljlloobjeoaa
open Go.RowKit

attribute [local go_sem] Oper.semAt_some

set_option maxHeartbeats 800000 in
set_option maxRecDepth 100000 in
theorem zState_c (w : World) (B : DB) (d : Dv) (h : DevAt w B d) : Calls Try.prog 43 #[.pointer (some ⟨B.d, 0, none⟩)] w fun e w' => e = .returned (.int .i64 (zState d)) ∧ w = w' := by
  unfold zState
  cases h1 : dBd d 1
  · cases h0 : dBd d 0
    all_goals
      have k1 := dBurned w B d h 1
      have k0 := dBurned w B d h 0
      rw [h1] at k1
      rw [h0] at k0
      clear h1 h0 h
      go_enter Try.func43, Try.ntmps43
      go_wp2_with fail
      refine k1.mono ?_
      rintro e w' ⟨rfl, rfl⟩
      go_wp2_with fail
      refine k0.mono ?_
      rintro e w' ⟨rfl, rfl⟩
      go_wp2_with fail
      go_ret
      exact ⟨rfl, rfl⟩
  · have k1 := dBurned w B d h 1
    rw [h1] at k1
    clear h1 h
    go_enter Try.func43, Try.ntmps43
    go_wp2_with fail
    refine k1.mono ?_
    rintro e w' ⟨rfl, rfl⟩
    go_wp2_with fail
    go_ret
    exact ⟨rfl, rfl⟩

theorem dLdE_in (d : Dv) (i : Nat) (h : d.dn = false) (hi : i < d.S.length) : dLdE d i = 0 := by
  unfold dLdE
  rw [if_neg (by simp [h]), if_pos (by constructor <;> omega)]
theorem dLdE_out (d : Dv) (i : Nat) (h : d.dn = true ∨ d.S.length ≤ i) : dLdE d i ≠ 0 := by
  unfold dLdE
  rcases h with h | h
  · rw [if_pos h]; decide
  · split
    · decide
    · rw [if_neg (by omega)]; decide

set_option maxRecDepth 100000 in
set_option maxHeartbeats 1600000 in
theorem zSlots_c (w : World) (B : DB) (d : Dv) (h : DevAt w B d) : Calls Try.prog 125 #[.pointer (some ⟨B.d, 0, none⟩)] w fun e w' => e = .returned (.int .i64 (zSlots d : Nat)) ∧ w = w' := by
  have hs1 := h.ok.s1
  have hzs : zSlots d ≤ d.S.length := by unfold zSlots; split <;> omega
  go_enter Try.func125, Try.ntmps125
  go_wp2_with fail
  go_loopw [2, 3, 4, 5, 6, 7, 8, 9, 10, 11, 12, 13, 14, 15] (fun t _ _ _ _ _ _ _ _ _ _ _ _ _ wr => ∃ j : Nat, j ≤ zSlots d ∧ t = .int .i64 (j : Int) ∧ w = wr) (fun t _ _ _ _ _ _ _ _ _ _ _ _ _ _ => 17 - (intOf t).toNat)
  case atStart => exact ⟨0, Nat.zero_le _, rfl, rfl⟩
  case round =>
    obtain ⟨j, hj, rfl, rfl⟩ := hrel
    have kj := dLoad w B d h j
    by_cases hlt : j < zSlots d
    · have e1 : dLdE d j = 0 := by
        unfold zSlots at hlt
        split at hlt
        · omega
        · rename_i hdn; exact dLdE_in d j (by simpa using hdn) hlt
      rw [e1] at kj
      clear e1 h
      go_wp2_with (first
        | (go_at_call 64; refine kj.mono ?_; rintro e w' ⟨rfl, rfl⟩))
      go_roundw
      case rel => exact ⟨j + 1, by omega, by go_num, trivial⟩
      case measure => simp [intOf]; omega
    · obtain rfl : j = zSlots d := by omega
      have e1 : dLdE d (zSlots d) ≠ 0 := by
        apply dLdE_out
        unfold zSlots
        split
        · rename_i hdn; exact .inl hdn
        · exact .inr (Nat.le_refl _)
      have e2 : (dLdE d (zSlots d) == 0) = false := by simpa using e1
      clear h
      go_wp2_with (first
        | (go_at_call 64; refine kj.mono ?_; rintro e w' ⟨rfl, rfl⟩))
      go_ret
      exact ⟨rfl, rfl⟩

/-! ### The steps' closures -/
theorem below_of_drew' {B : Nat} {a b : World} (h : Below B a.drew b) : Below B a b := ⟨h.os, h.tape, h.output, h.size, h.block⟩
set_option maxRecDepth 100000 in
set_option maxHeartbeats 1600000 in
theorem zSt_c (w : World) (B : DB) (d : Dv) (h : DevAt w B d) (b1 b3 i : Nat) (k1 : w.cell? ⟨b1, 0, none⟩ = some (.pointer (some ⟨B.d, 0, none⟩))) (k3 : w.cell? ⟨b3, 0, none⟩ = some (.int .i64 (i : Int))) (n1 : b1 ∉ B.l) (n3 : b3 ∉ B.l) :
    Calls Try.prog 126 #[.pointer (some ⟨b1, 0, none⟩), .pointer (some ⟨b3, 0, none⟩)] w fun e w' => e = .returned (.int .i64 (zE d (.st i))) ∧ DevAt w' B (zD d (.st i)) ∧ Fr B.l w w' := by
  have l1 := World.block_lt_of_cell? _ _ k1
  have l3 := World.block_lt_of_cell? _ _ k3
  go_enter Try.func126, Try.ntmps126
  go_wp2_with fail
  have hS' := Lib.hid (show ∀ W, Fr B.l w W → W.cell? ⟨b1, 0, none⟩ = some (.pointer (some ⟨B.d, 0, none⟩)) ∧ W.cell? ⟨b3, 0, none⟩ = some (.int .i64 (i : Int)) from fun W hW => ⟨(hW.cell l1 n1).trans k1, (hW.cell l3 n3).trans k3⟩)
  go_region_held3 (fun w' => w'.cell? ⟨b1, 0, none⟩ = some (.pointer (some ⟨B.d, 0, none⟩)) ∧ w'.cell? ⟨b3, 0, none⟩ = some (.int .i64 (i : Int))) (exact hS'.out _ (by first | assumption | exact (Fr.refl _ _).drew))
    (first | (go_at_call 127; refine (zEmptySlot _).mono ?_; rintro e w2 ⟨rfl, hB2⟩; have hfr2 : Fr B.l w w2 := (Fr.refl _ _).drew.trans (Fr.of_below hB2))
           | (go_at_call 95; refine (dStore _ B d (h.fr (S := []) (Fr.of_below (below_of_drew' hB2)) (by simp)) _ _).mono ?_; rintro e w3 ⟨rfl, hD3, hfr4⟩; have hfr3 := hfr2.trans hfr4))
  all_goals
    go_wp2
    go_ret
    exact ⟨rfl, hD3, hfr3⟩
set_option maxRecDepth 100000 in
set_option maxHeartbeats 1600000 in
theorem zWr_c (w : World) (B : DB) (d : Dv) (h : DevAt w B d) (b1 b3 i : Nat) (k1 : w.cell? ⟨b1, 0, none⟩ = some (.pointer (some ⟨B.d, 0, none⟩))) (k3 : w.cell? ⟨b3, 0, none⟩ = some (.int .i64 (i : Int))) (n1 : b1 ∉ B.l) (n3 : b3 ∉ B.l) :
    Calls Try.prog 128 #[.pointer (some ⟨b1, 0, none⟩), .pointer (some ⟨b3, 0, none⟩)] w fun e w' => e = .returned (.int .i64 (zE d (.wr i))) ∧ DevAt w' B (zD d (.wr i)) ∧ Fr B.l w w' := by
  have l1 := World.block_lt_of_cell? _ _ k1
  have l3 := World.block_lt_of_cell? _ _ k3
  go_enter Try.func128, Try.ntmps128
  go_wp2_with fail
  have hS' := Lib.hid (show ∀ W, Fr B.l w W → W.cell? ⟨b1, 0, none⟩ = some (.pointer (some ⟨B.d, 0, none⟩)) ∧ W.cell? ⟨b3, 0, none⟩ = some (.int .i64 (i : Int)) from fun W hW => ⟨(hW.cell l1 n1).trans k1, (hW.cell l3 n3).trans k3⟩)
  go_region_held3 (fun w' => w'.cell? ⟨b1, 0, none⟩ = some (.pointer (some ⟨B.d, 0, none⟩)) ∧ w'.cell? ⟨b3, 0, none⟩ = some (.int .i64 (i : Int))) (exact hS'.out _ (by first | assumption | exact (Fr.refl _ _).drew))
    (first | (go_at_call 101; refine (zEmptySector _).mono ?_; rintro e w2 ⟨rfl, hB2⟩; have hfr2 : Fr B.l w w2 := (Fr.refl _ _).drew.trans (Fr.of_below hB2))
           | (go_at_call 47; refine (dWrite _ B d (h.fr (S := []) (Fr.of_below (below_of_drew' hB2)) (by simp)) _ _).mono ?_; rintro e w3 ⟨rfl, hD3, hfr4⟩; have hfr3 := hfr2.trans hfr4))
  all_goals
    go_wp2
    go_ret
    exact ⟨rfl, hD3, hfr3⟩
set_option maxHeartbeats 800000 in
theorem zBu_c (w : World) (B : DB) (d : Dv) (h : DevAt w B d) (b1 : Nat) (k1 : w.cell? ⟨b1, 0, none⟩ = some (.pointer (some ⟨B.d, 0, none⟩))) :
    Calls Try.prog 129 #[.pointer (some ⟨b1, 0, none⟩)] w fun e w' => e = .returned (.int .i64 (zE d .bu)) ∧ DevAt w' B (zD d .bu) ∧ Fr B.l w w' := by
  go_enter Try.func129, Try.ntmps129
  go_wp2_with (go_at_call 38; refine (dBurn _ B d h 1).mono ?_; rintro e w3 ⟨rfl, hD3, hfr4⟩)
  go_ret
  exact ⟨rfl, hD3, hfr4⟩

end Go.Proofs.Ytogljlloobjeoaa
