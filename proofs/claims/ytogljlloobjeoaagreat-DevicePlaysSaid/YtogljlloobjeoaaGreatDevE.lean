/- Raise, Tick, Load, Burned, Battery of the device. -/
import Derived.Test.YtogljlloobjeoaaGreatDevD
import Derived.Test.YtogljlloobjeoaaGreatApp
import Derived.Test.YtogljlloobjeoaaGreatRep
import Derived.Deep.RegionHeld3
namespace Go.Proofs.YtogljlloobjeoaaGreat
open Go.RowKit

attribute [local irreducible] Go.wpStill

theorem dValid1 (w : World) : Calls Tryz.prog 63 #[.bool true] w fun e w' => e = .returned (.int .i64 0) ∧ w = w' := dValid w true
theorem dValid0 (w : World) : Calls Tryz.prog 63 #[.bool false] w fun e w' => e = .returned (.int .i64 1) ∧ w = w' := dValid w false

set_option maxRecDepth 100000 in
set_option maxHeartbeats 1600000 in
theorem dRaise_c (w : World) (B : DB) (d : Dv) (h : DevAt w B d) (n c : Int) (hc : c = raC d n) (hcase : (0 ≤ n ∧ n ≤ 4611686018427387904 ∧ d.cnt ≤ n ∧ c = 0) ∨ (0 ≤ n ∧ n ≤ 4611686018427387904 ∧ n < d.cnt ∧ c = 20) ∨ (n < 0 ∧ c = 1) ∨ (0 ≤ n ∧ 4611686018427387904 < n ∧ c = 1)) :
    Calls Tryz.prog 22 #[.pointer (some ⟨B.d, 0, none⟩), .int .i64 n] w fun e w' => e = .returned (.int .i64 (stpE d c)) ∧ DevAt w' B (dRa d n) ∧ Fr B.l w w' := by
  have hltd := h.ltd
  have fin : ∀ W0, W0.heap.size = w.heap.size + 2 → W0.cell? ⟨w.heap.size, 0, none⟩ = some (.pointer (some ⟨B.d, 0, none⟩)) → W0.cell? ⟨w.heap.size + 1, 0, none⟩ = some (.int .i64 n) → Fr [] w W0 → ∀ m, Hid (Calls Tryz.prog 62 #[.pointer (some ⟨B.d, 0, none⟩), .int .i64 c, .func (.func 67) #[] #[.pointer (some ⟨w.heap.size + 1, 0, none⟩), .pointer (some ⟨w.heap.size, 0, none⟩)]] (W0.drewN m) fun e w' => e = .returned (.int .i64 (stpE d c)) ∧ DevAt w' B (dRa d n) ∧ Fr B.l w w') := by
    intro W0 hz k1 k2 hf m
    exact (dStepRaise (W0.drewN m) B d (h.fr (hf.drewN m) (by simp)) c n hc w.heap.size k1 (by omega) (w.heap.size + 1) k2 (by omega)).mono fun e w' ⟨he, hD, hF⟩ => ⟨he, hD, ((hf.drewN m).weaken (by simp)).trans hF⟩
  have fin' := Lib.hid fin
  clear fin hc
  rcases hcase with ⟨i0, i1, i2, rfl⟩ | ⟨i0, i1, i2, rfl⟩ | ⟨i0, rfl⟩ | ⟨i0, i1, rfl⟩
  · go_enter Tryz.func22, Tryz.ntmps22
    go_wp2_with fail
    refine (dValid1 _).mono ?_
    rintro e w' ⟨rfl, rfl⟩
    go_wp2_with fail
    generalize hW : (w.alloc (.cells #[.pointer (some ⟨B.d, 0, none⟩)] 27)).alloc (.cells #[.int .i64 n] 3) = W0
    obtain ⟨k1, k2, hf0, hz0⟩ := two_boxes _ hW
    clear hW
    have c2 := (h.fr hf0 (by simp)).c2
    have hfin := fin'.out W0 hz0 k1 k2 hf0
    clear fin' hf0 hz0 h
    have hg : decide (n < d.cnt) = false := by simpa using i2
    go_quiet (fail)
    go_wp2_with fail
    refine (hfin _).mono ?_
    rintro e w' ⟨rfl, hD, hF⟩
    clear hfin
    go_wp2
    go_ret
    exact ⟨rfl, hD, hF⟩
  · go_enter Tryz.func22, Tryz.ntmps22
    go_wp2_with fail
    refine (dValid1 _).mono ?_
    rintro e w' ⟨rfl, rfl⟩
    go_wp2_with fail
    generalize hW : (w.alloc (.cells #[.pointer (some ⟨B.d, 0, none⟩)] 27)).alloc (.cells #[.int .i64 n] 3) = W0
    obtain ⟨k1, k2, hf0, hz0⟩ := two_boxes _ hW
    clear hW
    have c2 := (h.fr hf0 (by simp)).c2
    have hfin := fin'.out W0 hz0 k1 k2 hf0
    clear fin' hf0 hz0 h
    go_quiet (fail)
    go_wp2_with fail
    refine (hfin _).mono ?_
    rintro e w' ⟨rfl, hD, hF⟩
    clear hfin
    go_wp2
    go_ret
    exact ⟨rfl, hD, hF⟩
  · go_enter Tryz.func22, Tryz.ntmps22
    go_wp2_with fail
    refine (dValid0 _).mono ?_
    rintro e w' ⟨rfl, rfl⟩
    go_wp2_with fail
    generalize hW : (w.alloc (.cells #[.pointer (some ⟨B.d, 0, none⟩)] 27)).alloc (.cells #[.int .i64 n] 3) = W0
    obtain ⟨k1, k2, hf0, hz0⟩ := two_boxes _ hW
    clear hW
    have hfin := fin'.out W0 hz0 k1 k2 hf0
    clear fin' hf0 hz0 h
    go_quiet (fail)
    go_wp2_with fail
    refine (hfin _).mono ?_
    rintro e w' ⟨rfl, hD, hF⟩
    clear hfin
    go_wp2
    go_ret
    exact ⟨rfl, hD, hF⟩
  · have hg : decide (n ≤ 4611686018427387904) = false := by simpa using i1
    go_enter Tryz.func22, Tryz.ntmps22
    go_wp2_with fail
    refine (dValid0 _).mono ?_
    rintro e w' ⟨rfl, rfl⟩
    go_wp2_with fail
    generalize hW : (w.alloc (.cells #[.pointer (some ⟨B.d, 0, none⟩)] 27)).alloc (.cells #[.int .i64 n] 3) = W0
    obtain ⟨k1, k2, hf0, hz0⟩ := two_boxes _ hW
    clear hW
    have hfin := fin'.out W0 hz0 k1 k2 hf0
    clear fin' hf0 hz0 h
    go_quiet (fail)
    go_wp2_with fail
    refine (hfin _).mono ?_
    rintro e w' ⟨rfl, hD, hF⟩
    clear hfin
    go_wp2
    go_ret
    exact ⟨rfl, hD, hF⟩

theorem dRaise (w : World) (B : DB) (d : Dv) (h : DevAt w B d) (n : Int) : Calls Tryz.prog 22 #[.pointer (some ⟨B.d, 0, none⟩), .int .i64 n] w fun e w' => e = .returned (.int .i64 (stpE d (raC d n))) ∧ DevAt w' B (dRa d n) ∧ Fr B.l w w' := by
  refine dRaise_c w B d h n _ rfl ?_
  unfold raC
  by_cases h0 : 0 ≤ n
  · by_cases h1 : n ≤ 4611686018427387904
    · rw [if_pos ⟨h0, h1⟩]
      by_cases h2 : n < d.cnt
      · rw [if_pos h2]; exact .inr (.inl ⟨h0, h1, h2, rfl⟩)
      · rw [if_neg h2]; exact .inl ⟨h0, h1, by omega, rfl⟩
    · rw [if_neg (fun k => h1 k.2)]; exact .inr (.inr (.inr ⟨h0, by omega, rfl⟩))
  · rw [if_neg (fun k => h0 k.1)]; exact .inr (.inr (.inl ⟨by omega, rfl⟩))

set_option maxRecDepth 100000 in
set_option maxHeartbeats 800000 in
theorem dTick (w : World) (B : DB) (d : Dv) (h : DevAt w B d) (n : Int) : Calls Tryz.prog 19 #[.pointer (some ⟨B.d, 0, none⟩), .int .i64 n] w fun e w' => e = .returned (.int .i64 (tiE d n)) ∧ DevAt w' B (dTi d n) ∧ Fr B.l w w' := by
  have c3 := h.c3
  have z3 := h.frd 3
  have k0 := h.ok.clk0
  have k1 := h.ok.clk1
  unfold tiE dTi
  by_cases h0 : n < 0
  · have h' := Lib.hid h
    rw [if_pos (.inl h0), if_pos (.inl h0)]
    clear h
    go_enter Tryz.func19, Tryz.ntmps19
    go_wp2
    go_ret
    exact ⟨rfl, h'.out, Fr.refl _ _⟩
  · by_cases h1 : 1099511627776 - d.clk < n
    · have h' := Lib.hid h
      rw [if_pos (.inr h1), if_pos (.inr h1)]
      clear h
      go_enter Tryz.func19, Tryz.ntmps19
      go_wp2
      go_ret
      exact ⟨rfl, h'.out, Fr.refl _ _⟩
    · rw [if_neg (by omega), if_neg (by omega)]
      have hr := Lib.hid (h.clk' (d.clk + n) (by omega) (by omega))
      have hF : Fr B.l w (w.setCell ⟨B.d, 3, none⟩ (.int .i64 (d.clk + n))) := (Fr.refl _ _).setCell (by simp [DB.l]) _
      clear h
      go_enter Tryz.func19, Tryz.ntmps19
      go_wp2
      go_ret
      exact ⟨rfl, hr.out, hF⟩

set_option maxRecDepth 100000 in
set_option maxHeartbeats 800000 in
theorem dLoad (w : World) (B : DB) (d : Dv) (h : DevAt w B d) (i : Int) : Calls Tryz.prog 21 #[.pointer (some ⟨B.d, 0, none⟩), .int .i64 i] w fun e w' => e = .returned (.tuple #[.string (dLdT d i), .int .i64 (dLdE d i)]) ∧ w = w' := by
  have c5 := h.c5
  obtain ⟨cap, hcap, c0⟩ := h.c0
  have s1 := h.ok.s1
  unfold dLdT dLdE
  cases hd : d.dn
  · rw [hd] at c5
    simp only [Bool.false_eq_true, if_false]
    clear hd
    by_cases hi : 0 ≤ i ∧ i < (d.S.length : Int)
    · obtain ⟨k, rfl⟩ : ∃ k : Nat, i = (k : Int) := ⟨i.toNat, by omega⟩
      rw [if_pos hi, if_pos hi]
      have hk : k < d.S.length := by omega
      have hk1 : (k : Int) < (d.S.length : Int) := by omega
      have hx := h.slot k _ (List.getElem?_eq_getElem hk)
      rw [Int.toNat_natCast, List.getElem?_eq_getElem hk]
      clear hi h
      go_enter Tryz.func21, Tryz.ntmps21
      go_wp2
      go_ret2
      exact ⟨rfl, rfl⟩
    · rw [if_neg hi, if_neg hi]
      by_cases h0 : i < 0
      · clear h hi
        go_enter Tryz.func21, Tryz.ntmps21
        go_wp2
        go_ret2
        exact ⟨rfl, rfl⟩
      · have h1 : (d.S.length : Int) ≤ i := by omega
        clear h hi
        go_enter Tryz.func21, Tryz.ntmps21
        go_wp2
        go_ret2
        exact ⟨rfl, rfl⟩
  · rw [hd] at c5
    simp only [if_true]
    clear hd h
    go_enter Tryz.func21, Tryz.ntmps21
    go_wp2
    go_ret2
    exact ⟨rfl, rfl⟩

set_option maxRecDepth 100000 in
set_option maxHeartbeats 800000 in
theorem dBurned (w : World) (B : DB) (d : Dv) (h : DevAt w B d) (i : Int) : Calls Tryz.prog 18 #[.pointer (some ⟨B.d, 0, none⟩), .int .i64 i] w fun e w' => e = .returned (.bool (dBd d i)) ∧ w = w' := by
  obtain ⟨cap, hcap, c1⟩ := h.c1
  have s1 := h.ok.f1
  unfold dBd
  by_cases hi : 0 ≤ i ∧ i < (d.F.length : Int)
  · obtain ⟨k, rfl⟩ : ∃ k : Nat, i = (k : Int) := ⟨i.toNat, by omega⟩
    rw [if_pos hi]
    have hk : k < d.F.length := by omega
    have hk1 : (k : Int) < (d.F.length : Int) := by omega
    have hx := h.fuse k _ (List.getElem?_eq_getElem hk)
    rw [Int.toNat_natCast, List.getElem?_eq_getElem hk]
    clear hi h
    go_enter Tryz.func18, Tryz.ntmps18
    go_wp2
    go_ret
    exact ⟨rfl, rfl⟩
  · rw [if_neg hi]
    by_cases h0 : i < 0
    · clear h hi
      go_enter Tryz.func18, Tryz.ntmps18
      go_wp2
      go_ret
      exact ⟨rfl, rfl⟩
    · have h1 : (d.F.length : Int) ≤ i := by omega
      clear h hi
      go_enter Tryz.func18, Tryz.ntmps18
      go_wp2
      go_ret
      exact ⟨rfl, rfl⟩

/-! ### Battery -/
set_option maxRecDepth 100000 in
theorem lRep32 (w : World) : Calls Tryz.prog 70 #[.string ⟨#[0]⟩, .int .i64 32] w fun e w' => e = .returned (.string zero32) ∧ Below w.heap.size w w' := by
  have := Tryz.strings_Repeat ⟨#[0]⟩ 32 w (by omega) (by simp [ByteArray.size])
  exact this
set_option maxRecDepth 100000 in
theorem dEmpty (w : World) : Calls Tryz.prog 72 #[] w fun e w' => e = .returned (.string zero32) ∧ Below w.heap.size w w' := by
  go_enter Tryz.func72, Tryz.ntmps72
  go_wp2_with fail
  refine (lRep32 _).mono ?_
  rintro e w' ⟨rfl, hB⟩
  go_wp2
  go_ret
  exact ⟨rfl, hB⟩

def batD (d : Dv) (j : Nat) : Dv := { d with S := List.replicate j zero32 ++ d.S.drop j }
theorem batD_succ (d : Dv) (j : Nat) (h : j < d.S.length) : batD d (j + 1) = { batD d j with S := (batD d j).S.set j zero32 } := by
  unfold batD
  congr 1
  apply List.ext_getElem?
  intro k
  simp only [List.getElem?_set, List.getElem?_append, List.length_append, List.length_replicate, List.getElem?_replicate, List.getElem?_drop, List.length_drop]
  by_cases h1 : k < j
  · rw [if_pos (by omega), if_pos (by omega), if_neg (by omega), if_pos h1, if_pos h1]
  · by_cases h2 : k = j
    · subst h2; rw [if_pos (by omega), if_pos (by omega), if_pos rfl, if_pos (by omega)]
    · rw [if_neg (by omega), if_neg (by omega), if_neg h1]
      congr 1; omega

set_option maxRecDepth 100000 in
set_option maxHeartbeats 1600000 in
theorem dBattery (w : World) (B : DB) (d : Dv) (h : DevAt w B d) : Calls Tryz.prog 28 #[.pointer (some ⟨B.d, 0, none⟩)] w fun e w' => e = .returned (.tuple #[]) ∧ DevAt w' B (dBa d) ∧ Fr B.l w w' := by
  obtain ⟨cap, hcap, c0⟩ := h.c0
  have s1 := h.ok.s1
  have h' := Lib.hid h
  go_enter Tryz.func28, Tryz.ntmps28
  go_wp2_with fail
  clear h c0
  go_loopw [9] (fun t wr => ∃ j : Nat, j ≤ d.S.length ∧ t = .int .i64 (j : Int) ∧ DevAt wr B (batD d j) ∧ Fr B.l w wr) (fun t _ => d.S.length - (intOf t).toNat)
  case atStart => exact ⟨0, Nat.zero_le _, rfl, by simpa [batD] using h'.out, Fr.refl _ _⟩
  case round =>
    obtain ⟨j, hj, rfl, hD, hF⟩ := hrel
    by_cases hlt : j < d.S.length
    · have hlti : (j : Int) < (d.S.length : Int) := by omega
      have hsl : (batD d j).S.length = d.S.length := by simp [batD]; omega
      have hsucc := Lib.hid (batD_succ d j hlt)
      generalize batD d j = dj at *
      obtain ⟨cap, hcap, c0⟩ := hD.c0
      rw [hsl] at c0
      have hjl : j < dj.S.length := by omega
      have hx := hD.slot j _ (List.getElem?_eq_getElem hjl)
      have hz := hD.frs j
      clear hcap
      have hD' := Lib.hid hD
      have hltd := hD.ltd
      have hlts := hD.lts
      clear hD h'
      go_wp2_with fail
      go_region_law (first
        | (refine step_call _ (by rfl) 72 _ _ (by rfl) [] (by rfl) (enters_of Tryz.func72 (by kernel_rfl) rfl) ?_
           refine (dEmpty _).mono ?_
           rintro e w2 ⟨rfl, hB2⟩
           refine ⟨.string zero32, rfl, ?_⟩
           have hfr2 : Fr [] wr w2 := (Fr.refl _ _).drew.trans (Fr.of_below hB2)
           have c02 := (hfr2.cell (p := ⟨B.d, 0, none⟩) hltd (by simp)).trans c0
           have hx2 := (hfr2.cell (p := ⟨B.s, j, none⟩) hlts (by simp)).trans hx
           have hz2 := (hfr2.frozen (p := ⟨B.s, j, none⟩) hlts (by simp)).trans hz))
      all_goals
        have hr := Lib.hid ((hD'.out.fr hfr2 (by simp)).slot' j zero32)
        have hF2 : Fr B.l w (w2.setCell ⟨B.s, j, none⟩ (.string zero32)) := (hF.trans (hfr2.weaken (by simp))).setCell (by simp [DB.l]) _
        clear hfr2 hF hD' hB2 c0 hx hz c02 hx2 hz2
        go_wp2
        go_roundw
        case rel => exact ⟨j + 1, by omega, by go_num, by rw [hsucc.out]; exact hr.out, hF2⟩
        case measure => simp [intOf]; omega
    · obtain rfl : j = d.S.length := by omega
      clear h'
      go_wp2_with fail
      go_end0
      refine ⟨rfl, ?_, hF⟩
      have e : batD d d.S.length = dBa d := by unfold batD dBa; simp
      rw [← e]; exact hD

end Go.Proofs.YtogljlloobjeoaaGreat
