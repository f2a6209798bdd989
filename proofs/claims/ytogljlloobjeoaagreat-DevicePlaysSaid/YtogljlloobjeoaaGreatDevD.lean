/- The methods of the device that make a step; Load, Burned, Tick. -/
import Derived.Test.YtogljlloobjeoaaGreatDevC
import Derived.StillTailTactics
namespace Go.Proofs.YtogljlloobjeoaaGreat
open Go.RowKit

attribute [local irreducible] Go.wpStill

theorem ite_bool01 (b : Bool) (p : Prop) [Decidable p] (h : b = decide p) : (if b = true then (0 : Int) else 1) = if p then 0 else 1 := by
  subst h; by_cases hp : p <;> simp [hp]

theorem dValidS (w : World) (b : Bool) : Calls Tryz.prog 63 #[.bool b] w fun e w' => e = .returned (.int .i64 (if b = true then 0 else 1)) ∧ w' = w :=
  (dValid w b).mono fun _ _ ⟨he, hw⟩ => ⟨he, hw.symm⟩

set_option maxHeartbeats 800000 in
theorem dFlush (w : World) (B : DB) (d : Dv) (h : DevAt w B d) : Calls Tryz.prog 37 #[.pointer (some ⟨B.d, 0, none⟩)] w fun e w' => e = .returned (.int .i64 (stpE d 0)) ∧ DevAt w' B (dFl d) ∧ Fr B.l w w' := by
  have c4 := h.c4
  go_enter Tryz.func37, Tryz.ntmps37
  go_wp2_with fail
  refine (dStepFlush _ B d h).mono ?_
  rintro e w' ⟨rfl, hD, hF⟩
  go_wp2
  go_ret
  exact ⟨rfl, hD, hF⟩

theorem three_boxes {w : World} {u v x : Value} {T U V : TypeId} : ∀ W, ((w.alloc (.cells #[u] T)).alloc (.cells #[v] U)).alloc (.cells #[x] V) = W →
    W.cell? ⟨w.heap.size, 0, none⟩ = some u ∧ W.cell? ⟨w.heap.size + 1, 0, none⟩ = some v ∧ W.cell? ⟨w.heap.size + 1 + 1, 0, none⟩ = some x ∧ Fr [] w W ∧ W.heap.size = w.heap.size + 3 := by
  rintro W rfl
  refine ⟨?_, ?_, ?_, (((Fr.refl _ _).alloc _).alloc _).alloc _, by simp⟩
  · rw [World.cell?_alloc_lt _ _ _ (by simp; omega), World.cell?_alloc_lt _ _ _ (by simp)]; simp
  · rw [World.cell?_alloc_lt _ _ _ (by simp)]; exact World.cell?_alloc_at _ _ _ _ (by simp)
  · exact World.cell?_alloc_at _ _ _ _ (by simp)
theorem two_boxes {w : World} {u v : Value} {T U : TypeId} : ∀ W, (w.alloc (.cells #[u] T)).alloc (.cells #[v] U) = W →
    W.cell? ⟨w.heap.size, 0, none⟩ = some u ∧ W.cell? ⟨w.heap.size + 1, 0, none⟩ = some v ∧ Fr [] w W ∧ W.heap.size = w.heap.size + 2 := by
  rintro W rfl
  refine ⟨?_, ?_, ((Fr.refl _ _).alloc _).alloc _, by simp⟩
  · rw [World.cell?_alloc_lt _ _ _ (by simp)]; simp
  · exact World.cell?_alloc_at _ _ _ _ (by simp)

set_option maxRecDepth 100000 in
set_option maxHeartbeats 1600000 in
theorem dBurn_0 (w : World) (B : DB) (d : Dv) (h : DevAt w B d) (i : Int) (i0 : 0 ≤ i) (i1 : i < (d.F.length : Int)) (hc : 0 = buC d i) : Calls Tryz.prog 16 #[.pointer (some ⟨B.d, 0, none⟩), .int .i64 i] w fun e w' => e = .returned (.int .i64 (stpE d 0)) ∧ DevAt w' B (dBu d i) ∧ Fr B.l w w' := by
  have hltd := h.ltd
  go_enter Tryz.func16, Tryz.ntmps16
  go_wp2_with fail
  generalize hW : (w.alloc (.cells #[.pointer (some ⟨B.d, 0, none⟩)] 27)).alloc (.cells #[.int .i64 i] 3) = W0
  obtain ⟨k1, k2, hf0, hz0⟩ := two_boxes _ hW
  clear hW
  have h0 := h.fr hf0 (by simp)
  obtain ⟨cap, hcap, e1⟩ := h0.c1
  have hf1 := h.ok.f1

  have hfin := Lib.hid (dStepBurn W0.drew B d (h0.fr (S := []) (Fr.refl _ _).drew (by simp)) _ i hc w.heap.size k1 (by omega) (w.heap.size + 1) k2 (by omega))
  have hfr0 := Lib.hid (show Fr B.l w W0.drew from (hf0.weaken (by simp)).drew)
  clear h h0 hf0 hz0 hltd hc
  go_still_tail 15, (by kernel_rfl)
  still_call (dValidS _ _)
  repeat still_step
  refine wpStill_nil ?_
  change wpList _ _ _ _ _ W0.drew
  go_wp2_with fail
  refine hfin.out.mono ?_
  rintro e w' ⟨rfl, hD, hF⟩
  have hF2 := hfr0.out.trans hF
  clear hF hfin hfr0
  go_wp2
  go_ret
  exact ⟨rfl, hD, hF2⟩

set_option maxRecDepth 100000 in
set_option maxHeartbeats 1600000 in
theorem dBurn_1 (w : World) (B : DB) (d : Dv) (h : DevAt w B d) (i : Int) (i0 : i < 0) (hc : 1 = buC d i) : Calls Tryz.prog 16 #[.pointer (some ⟨B.d, 0, none⟩), .int .i64 i] w fun e w' => e = .returned (.int .i64 (stpE d 1)) ∧ DevAt w' B (dBu d i) ∧ Fr B.l w w' := by
  have hltd := h.ltd
  go_enter Tryz.func16, Tryz.ntmps16
  go_wp2_with fail
  generalize hW : (w.alloc (.cells #[.pointer (some ⟨B.d, 0, none⟩)] 27)).alloc (.cells #[.int .i64 i] 3) = W0
  obtain ⟨k1, k2, hf0, hz0⟩ := two_boxes _ hW
  clear hW
  have h0 := h.fr hf0 (by simp)
  obtain ⟨cap, hcap, e1⟩ := h0.c1
  have hf1 := h.ok.f1

  have hfin := Lib.hid (dStepBurn W0.drew B d (h0.fr (S := []) (Fr.refl _ _).drew (by simp)) _ i hc w.heap.size k1 (by omega) (w.heap.size + 1) k2 (by omega))
  have hfr0 := Lib.hid (show Fr B.l w W0.drew from (hf0.weaken (by simp)).drew)
  clear h h0 hf0 hz0 hltd hc
  have hg : decide (0 ≤ i) = false := by simpa using i0
  go_still_tail 15, (by kernel_rfl)
  still_call (dValidS _ _)
  repeat still_step
  refine wpStill_nil ?_
  change wpList _ _ _ _ _ W0.drew
  go_wp2_with fail
  refine hfin.out.mono ?_
  rintro e w' ⟨rfl, hD, hF⟩
  have hF2 := hfr0.out.trans hF
  clear hF hfin hfr0
  go_wp2
  go_ret
  exact ⟨rfl, hD, hF2⟩

set_option maxRecDepth 100000 in
set_option maxHeartbeats 1600000 in
theorem dBurn_2 (w : World) (B : DB) (d : Dv) (h : DevAt w B d) (i : Int) (i0 : 0 ≤ i) (hg : decide (i < (d.F.length : Int)) = false) (hc : 1 = buC d i) : Calls Tryz.prog 16 #[.pointer (some ⟨B.d, 0, none⟩), .int .i64 i] w fun e w' => e = .returned (.int .i64 (stpE d 1)) ∧ DevAt w' B (dBu d i) ∧ Fr B.l w w' := by
  have hltd := h.ltd
  go_enter Tryz.func16, Tryz.ntmps16
  go_wp2_with fail
  generalize hW : (w.alloc (.cells #[.pointer (some ⟨B.d, 0, none⟩)] 27)).alloc (.cells #[.int .i64 i] 3) = W0
  obtain ⟨k1, k2, hf0, hz0⟩ := two_boxes _ hW
  clear hW
  have h0 := h.fr hf0 (by simp)
  obtain ⟨cap, hcap, e1⟩ := h0.c1
  have hf1 := h.ok.f1

  have hfin := Lib.hid (dStepBurn W0.drew B d (h0.fr (S := []) (Fr.refl _ _).drew (by simp)) _ i hc w.heap.size k1 (by omega) (w.heap.size + 1) k2 (by omega))
  have hfr0 := Lib.hid (show Fr B.l w W0.drew from (hf0.weaken (by simp)).drew)
  clear h h0 hf0 hz0 hltd hc
  go_still_tail 15, (by kernel_rfl)
  still_call (dValidS _ _)
  repeat still_step
  refine wpStill_nil ?_
  change wpList _ _ _ _ _ W0.drew
  go_wp2_with fail
  refine hfin.out.mono ?_
  rintro e w' ⟨rfl, hD, hF⟩
  have hF2 := hfr0.out.trans hF
  clear hF hfin hfr0
  go_wp2
  go_ret
  exact ⟨rfl, hD, hF2⟩

theorem dBurn (w : World) (B : DB) (d : Dv) (h : DevAt w B d) (i : Int) : Calls Tryz.prog 16 #[.pointer (some ⟨B.d, 0, none⟩), .int .i64 i] w fun e w' => e = .returned (.int .i64 (stpE d (buC d i))) ∧ DevAt w' B (dBu d i) ∧ Fr B.l w w' := by
  by_cases h0 : 0 ≤ i
  · by_cases h1 : i < (d.F.length : Int)
    · have e : 0 = buC d i := (if_pos ⟨h0, h1⟩).symm
      rw [← e]; exact dBurn_0 w B d h i h0 h1 e
    · have e : 1 = buC d i := (if_neg (by omega)).symm
      rw [← e]; exact dBurn_2 w B d h i h0 (by simpa using h1) e
  · have e : 1 = buC d i := (if_neg (by omega)).symm
    rw [← e]; exact dBurn_1 w B d h i (by omega) e

set_option maxRecDepth 100000 in
set_option maxHeartbeats 1600000 in
theorem dStore_0 (w : World) (B : DB) (d : Dv) (h : DevAt w B d) (i : Int) (x : ByteArray) (i0 : 0 ≤ i) (i1 : i < (d.S.length : Int)) (hx : ((x.size : Int) == 32) = true) (hc : 0 = slC d i x) : Calls Tryz.prog 15 #[.pointer (some ⟨B.d, 0, none⟩), .int .i64 i, .string x] w fun e w' => e = .returned (.int .i64 (stpE d 0)) ∧ DevAt w' B (dSt d i x) ∧ Fr B.l w w' := by
  have hltd := h.ltd
  go_enter Tryz.func15, Tryz.ntmps15
  go_wp2_with fail
  generalize hW : ((w.alloc (.cells #[.pointer (some ⟨B.d, 0, none⟩)] 27)).alloc (.cells #[.int .i64 i] 3)).alloc (.cells #[.string x] 9) = W0
  obtain ⟨k1, k2, k3, hf0, hz0⟩ := three_boxes _ hW
  clear hW
  have h0 := h.fr hf0 (by simp)
  obtain ⟨cap, hcap, e1⟩ := h0.c0
  have hf1 := h.ok.s1

  have hfin := Lib.hid (dStepStore W0.drew B d (h0.fr (S := []) (Fr.refl _ _).drew (by simp)) _ i x hc w.heap.size k1 (by omega) (w.heap.size + 1) k2 (by omega) (w.heap.size + 1 + 1) k3 (by omega))
  have hfr0 := Lib.hid (show Fr B.l w W0.drew from (hf0.weaken (by simp)).drew)
  clear h h0 hf0 hz0 hltd hc
  go_still_tail 20, (by kernel_rfl)
  still_call (dValidS _ _)
  repeat still_step
  refine wpStill_nil ?_
  change wpList _ _ _ _ _ W0.drew
  go_wp2_with fail
  refine hfin.out.mono ?_
  rintro e w' ⟨rfl, hD, hF⟩
  have hF2 := hfr0.out.trans hF
  clear hF hfin hfr0
  go_wp2
  go_ret
  exact ⟨rfl, hD, hF2⟩

set_option maxRecDepth 100000 in
set_option maxHeartbeats 1600000 in
theorem dStore_1 (w : World) (B : DB) (d : Dv) (h : DevAt w B d) (i : Int) (x : ByteArray) (i0 : i < 0) (hc : 1 = slC d i x) : Calls Tryz.prog 15 #[.pointer (some ⟨B.d, 0, none⟩), .int .i64 i, .string x] w fun e w' => e = .returned (.int .i64 (stpE d 1)) ∧ DevAt w' B (dSt d i x) ∧ Fr B.l w w' := by
  have hltd := h.ltd
  go_enter Tryz.func15, Tryz.ntmps15
  go_wp2_with fail
  generalize hW : ((w.alloc (.cells #[.pointer (some ⟨B.d, 0, none⟩)] 27)).alloc (.cells #[.int .i64 i] 3)).alloc (.cells #[.string x] 9) = W0
  obtain ⟨k1, k2, k3, hf0, hz0⟩ := three_boxes _ hW
  clear hW
  have h0 := h.fr hf0 (by simp)
  obtain ⟨cap, hcap, e1⟩ := h0.c0
  have hf1 := h.ok.s1

  have hfin := Lib.hid (dStepStore W0.drew B d (h0.fr (S := []) (Fr.refl _ _).drew (by simp)) _ i x hc w.heap.size k1 (by omega) (w.heap.size + 1) k2 (by omega) (w.heap.size + 1 + 1) k3 (by omega))
  have hfr0 := Lib.hid (show Fr B.l w W0.drew from (hf0.weaken (by simp)).drew)
  clear h h0 hf0 hz0 hltd hc
  have hg : decide (0 ≤ i) = false := by simpa using i0
  go_still_tail 20, (by kernel_rfl)
  still_call (dValidS _ _)
  repeat still_step
  refine wpStill_nil ?_
  change wpList _ _ _ _ _ W0.drew
  go_wp2_with fail
  refine hfin.out.mono ?_
  rintro e w' ⟨rfl, hD, hF⟩
  have hF2 := hfr0.out.trans hF
  clear hF hfin hfr0
  go_wp2
  go_ret
  exact ⟨rfl, hD, hF2⟩

set_option maxRecDepth 100000 in
set_option maxHeartbeats 1600000 in
theorem dStore_2 (w : World) (B : DB) (d : Dv) (h : DevAt w B d) (i : Int) (x : ByteArray) (i0 : 0 ≤ i) (hg : decide (i < (d.S.length : Int)) = false) (hc : 1 = slC d i x) : Calls Tryz.prog 15 #[.pointer (some ⟨B.d, 0, none⟩), .int .i64 i, .string x] w fun e w' => e = .returned (.int .i64 (stpE d 1)) ∧ DevAt w' B (dSt d i x) ∧ Fr B.l w w' := by
  have hltd := h.ltd
  go_enter Tryz.func15, Tryz.ntmps15
  go_wp2_with fail
  generalize hW : ((w.alloc (.cells #[.pointer (some ⟨B.d, 0, none⟩)] 27)).alloc (.cells #[.int .i64 i] 3)).alloc (.cells #[.string x] 9) = W0
  obtain ⟨k1, k2, k3, hf0, hz0⟩ := three_boxes _ hW
  clear hW
  have h0 := h.fr hf0 (by simp)
  obtain ⟨cap, hcap, e1⟩ := h0.c0
  have hf1 := h.ok.s1

  have hfin := Lib.hid (dStepStore W0.drew B d (h0.fr (S := []) (Fr.refl _ _).drew (by simp)) _ i x hc w.heap.size k1 (by omega) (w.heap.size + 1) k2 (by omega) (w.heap.size + 1 + 1) k3 (by omega))
  have hfr0 := Lib.hid (show Fr B.l w W0.drew from (hf0.weaken (by simp)).drew)
  clear h h0 hf0 hz0 hltd hc
  go_still_tail 20, (by kernel_rfl)
  still_call (dValidS _ _)
  repeat still_step
  refine wpStill_nil ?_
  change wpList _ _ _ _ _ W0.drew
  go_wp2_with fail
  refine hfin.out.mono ?_
  rintro e w' ⟨rfl, hD, hF⟩
  have hF2 := hfr0.out.trans hF
  clear hF hfin hfr0
  go_wp2
  go_ret
  exact ⟨rfl, hD, hF2⟩

set_option maxRecDepth 100000 in
set_option maxHeartbeats 1600000 in
theorem dStore_3 (w : World) (B : DB) (d : Dv) (h : DevAt w B d) (i : Int) (x : ByteArray) (i0 : 0 ≤ i) (i1 : i < (d.S.length : Int)) (hx : ((x.size : Int) == 32) = false) (hc : 1 = slC d i x) : Calls Tryz.prog 15 #[.pointer (some ⟨B.d, 0, none⟩), .int .i64 i, .string x] w fun e w' => e = .returned (.int .i64 (stpE d 1)) ∧ DevAt w' B (dSt d i x) ∧ Fr B.l w w' := by
  have hltd := h.ltd
  go_enter Tryz.func15, Tryz.ntmps15
  go_wp2_with fail
  generalize hW : ((w.alloc (.cells #[.pointer (some ⟨B.d, 0, none⟩)] 27)).alloc (.cells #[.int .i64 i] 3)).alloc (.cells #[.string x] 9) = W0
  obtain ⟨k1, k2, k3, hf0, hz0⟩ := three_boxes _ hW
  clear hW
  have h0 := h.fr hf0 (by simp)
  obtain ⟨cap, hcap, e1⟩ := h0.c0
  have hf1 := h.ok.s1

  have hfin := Lib.hid (dStepStore W0.drew B d (h0.fr (S := []) (Fr.refl _ _).drew (by simp)) _ i x hc w.heap.size k1 (by omega) (w.heap.size + 1) k2 (by omega) (w.heap.size + 1 + 1) k3 (by omega))
  have hfr0 := Lib.hid (show Fr B.l w W0.drew from (hf0.weaken (by simp)).drew)
  clear h h0 hf0 hz0 hltd hc
  go_still_tail 20, (by kernel_rfl)
  still_call (dValidS _ _)
  repeat still_step
  refine wpStill_nil ?_
  change wpList _ _ _ _ _ W0.drew
  go_wp2_with fail
  refine hfin.out.mono ?_
  rintro e w' ⟨rfl, hD, hF⟩
  have hF2 := hfr0.out.trans hF
  clear hF hfin hfr0
  go_wp2
  go_ret
  exact ⟨rfl, hD, hF2⟩

theorem dStore (w : World) (B : DB) (d : Dv) (h : DevAt w B d) (i : Int) (x : ByteArray) : Calls Tryz.prog 15 #[.pointer (some ⟨B.d, 0, none⟩), .int .i64 i, .string x] w fun e w' => e = .returned (.int .i64 (stpE d (slC d i x))) ∧ DevAt w' B (dSt d i x) ∧ Fr B.l w w' := by
  by_cases h0 : 0 ≤ i
  · by_cases h1 : i < (d.S.length : Int)
    · by_cases hx : x.size = 32
      · have e : 0 = slC d i x := (if_pos ⟨⟨h0, h1⟩, hx⟩).symm
        rw [← e]; exact dStore_0 w B d h i x h0 h1 (by simp [hx]) e
      · have e : 1 = slC d i x := (if_neg (fun k => hx k.2)).symm
        rw [← e]; exact dStore_3 w B d h i x h0 h1 (by simp; omega) e
    · have e : 1 = slC d i x := (if_neg (fun k => h1 k.1.2)).symm
      rw [← e]; exact dStore_2 w B d h i x h0 (by simpa using h1) e
  · have e : 1 = slC d i x := (if_neg (fun k => h0 k.1.1)).symm
    rw [← e]; exact dStore_1 w B d h i x (by omega) e

theorem mLenS (w : World) (pm pb n cap : Nat) (hc : w.cell? ⟨pm, 0, none⟩ = some (.slice (some ⟨pb, 0, none⟩) n cap)) :
    Calls Tryz.prog 69 #[.pointer (some ⟨pm, 0, none⟩)] w.drew fun e w' => e = .returned (.int .i64 n) ∧ w' = w.drew :=
  (mLen_c w.drew pm pb n cap hc).mono fun _ _ ⟨he, hw⟩ => ⟨he, hw.symm⟩

set_option maxRecDepth 100000 in
set_option maxHeartbeats 1600000 in
theorem dWrite_0 (w : World) (B : DB) (d : Dv) (h : DevAt w B d) (i : Int) (x : ByteArray) (i0 : 0 ≤ i) (i1 : i < (d.M.length : Int)) (hx : ((x.size : Int) == 64) = true) (hc : 0 = wrC d i x) : Calls Tryz.prog 36 #[.pointer (some ⟨B.d, 0, none⟩), .int .i64 i, .string x] w fun e w' => e = .returned (.int .i64 (stpE d 0)) ∧ DevAt w' B (dWr d i x) ∧ Fr B.l w w' := by
  have hltd := h.ltd
  go_enter Tryz.func36, Tryz.ntmps36
  go_wp2_with fail
  generalize hW : ((w.alloc (.cells #[.pointer (some ⟨B.d, 0, none⟩)] 27)).alloc (.cells #[.int .i64 i] 3)).alloc (.cells #[.string x] 9) = W0
  obtain ⟨k1, k2, k3, hf0, hz0⟩ := three_boxes _ hW
  clear hW
  have h0 := h.fr hf0 (by simp)
  obtain ⟨cap, e1, hcap⟩ := h0.mem.ptr
  have hf1 := h.ok.m1
  have c4 := h0.c4

  have hfin := Lib.hid (dStepWrite W0.drew B d (h0.fr (S := []) (Fr.refl _ _).drew (by simp)) _ i x hc w.heap.size k1 (by omega) (w.heap.size + 1) k2 (by omega) (w.heap.size + 1 + 1) k3 (by omega))
  have hfr0 := Lib.hid (show Fr B.l w W0.drew from (hf0.weaken (by simp)).drew)
  clear h h0 hf0 hz0 hltd hc
  go_still_tail 19, (by kernel_rfl)
  still_call (mLenS _ _ _ _ _ e1)
  repeat still_step
  still_call (dValidS _ _)
  repeat still_step
  refine wpStill_nil ?_
  change wpList _ _ _ _ _ W0.drew
  go_wp2_with fail
  refine hfin.out.mono ?_
  rintro e w' ⟨rfl, hD, hF⟩
  have hF2 := hfr0.out.trans hF
  clear hF hfin hfr0
  go_wp2
  go_ret
  exact ⟨rfl, hD, hF2⟩

set_option maxRecDepth 100000 in
set_option maxHeartbeats 1600000 in
theorem dWrite_1 (w : World) (B : DB) (d : Dv) (h : DevAt w B d) (i : Int) (x : ByteArray) (i0 : i < 0) (hc : 1 = wrC d i x) : Calls Tryz.prog 36 #[.pointer (some ⟨B.d, 0, none⟩), .int .i64 i, .string x] w fun e w' => e = .returned (.int .i64 (stpE d 1)) ∧ DevAt w' B (dWr d i x) ∧ Fr B.l w w' := by
  have hltd := h.ltd
  go_enter Tryz.func36, Tryz.ntmps36
  go_wp2_with fail
  generalize hW : ((w.alloc (.cells #[.pointer (some ⟨B.d, 0, none⟩)] 27)).alloc (.cells #[.int .i64 i] 3)).alloc (.cells #[.string x] 9) = W0
  obtain ⟨k1, k2, k3, hf0, hz0⟩ := three_boxes _ hW
  clear hW
  have h0 := h.fr hf0 (by simp)
  obtain ⟨cap, e1, hcap⟩ := h0.mem.ptr
  have hf1 := h.ok.m1
  have c4 := h0.c4

  have hfin := Lib.hid (dStepWrite W0.drew B d (h0.fr (S := []) (Fr.refl _ _).drew (by simp)) _ i x hc w.heap.size k1 (by omega) (w.heap.size + 1) k2 (by omega) (w.heap.size + 1 + 1) k3 (by omega))
  have hfr0 := Lib.hid (show Fr B.l w W0.drew from (hf0.weaken (by simp)).drew)
  clear h h0 hf0 hz0 hltd hc
  have hg : decide (0 ≤ i) = false := by simpa using i0
  go_still_tail 19, (by kernel_rfl)
  still_call (dValidS _ _)
  repeat still_step
  refine wpStill_nil ?_
  change wpList _ _ _ _ _ W0.drew
  go_wp2_with fail
  refine hfin.out.mono ?_
  rintro e w' ⟨rfl, hD, hF⟩
  have hF2 := hfr0.out.trans hF
  clear hF hfin hfr0
  go_wp2
  go_ret
  exact ⟨rfl, hD, hF2⟩

set_option maxRecDepth 100000 in
set_option maxHeartbeats 1600000 in
theorem dWrite_2 (w : World) (B : DB) (d : Dv) (h : DevAt w B d) (i : Int) (x : ByteArray) (i0 : 0 ≤ i) (hg : decide (i < (d.M.length : Int)) = false) (hc : 1 = wrC d i x) : Calls Tryz.prog 36 #[.pointer (some ⟨B.d, 0, none⟩), .int .i64 i, .string x] w fun e w' => e = .returned (.int .i64 (stpE d 1)) ∧ DevAt w' B (dWr d i x) ∧ Fr B.l w w' := by
  have hltd := h.ltd
  go_enter Tryz.func36, Tryz.ntmps36
  go_wp2_with fail
  generalize hW : ((w.alloc (.cells #[.pointer (some ⟨B.d, 0, none⟩)] 27)).alloc (.cells #[.int .i64 i] 3)).alloc (.cells #[.string x] 9) = W0
  obtain ⟨k1, k2, k3, hf0, hz0⟩ := three_boxes _ hW
  clear hW
  have h0 := h.fr hf0 (by simp)
  obtain ⟨cap, e1, hcap⟩ := h0.mem.ptr
  have hf1 := h.ok.m1
  have c4 := h0.c4

  have hfin := Lib.hid (dStepWrite W0.drew B d (h0.fr (S := []) (Fr.refl _ _).drew (by simp)) _ i x hc w.heap.size k1 (by omega) (w.heap.size + 1) k2 (by omega) (w.heap.size + 1 + 1) k3 (by omega))
  have hfr0 := Lib.hid (show Fr B.l w W0.drew from (hf0.weaken (by simp)).drew)
  clear h h0 hf0 hz0 hltd hc
  go_still_tail 19, (by kernel_rfl)
  still_call (mLenS _ _ _ _ _ e1)
  repeat still_step
  still_call (dValidS _ _)
  repeat still_step
  refine wpStill_nil ?_
  change wpList _ _ _ _ _ W0.drew
  go_wp2_with fail
  refine hfin.out.mono ?_
  rintro e w' ⟨rfl, hD, hF⟩
  have hF2 := hfr0.out.trans hF
  clear hF hfin hfr0
  go_wp2
  go_ret
  exact ⟨rfl, hD, hF2⟩

set_option maxRecDepth 100000 in
set_option maxHeartbeats 1600000 in
theorem dWrite_3 (w : World) (B : DB) (d : Dv) (h : DevAt w B d) (i : Int) (x : ByteArray) (i0 : 0 ≤ i) (i1 : i < (d.M.length : Int)) (hx : ((x.size : Int) == 64) = false) (hc : 1 = wrC d i x) : Calls Tryz.prog 36 #[.pointer (some ⟨B.d, 0, none⟩), .int .i64 i, .string x] w fun e w' => e = .returned (.int .i64 (stpE d 1)) ∧ DevAt w' B (dWr d i x) ∧ Fr B.l w w' := by
  have hltd := h.ltd
  go_enter Tryz.func36, Tryz.ntmps36
  go_wp2_with fail
  generalize hW : ((w.alloc (.cells #[.pointer (some ⟨B.d, 0, none⟩)] 27)).alloc (.cells #[.int .i64 i] 3)).alloc (.cells #[.string x] 9) = W0
  obtain ⟨k1, k2, k3, hf0, hz0⟩ := three_boxes _ hW
  clear hW
  have h0 := h.fr hf0 (by simp)
  obtain ⟨cap, e1, hcap⟩ := h0.mem.ptr
  have hf1 := h.ok.m1
  have c4 := h0.c4

  have hfin := Lib.hid (dStepWrite W0.drew B d (h0.fr (S := []) (Fr.refl _ _).drew (by simp)) _ i x hc w.heap.size k1 (by omega) (w.heap.size + 1) k2 (by omega) (w.heap.size + 1 + 1) k3 (by omega))
  have hfr0 := Lib.hid (show Fr B.l w W0.drew from (hf0.weaken (by simp)).drew)
  clear h h0 hf0 hz0 hltd hc
  go_still_tail 19, (by kernel_rfl)
  still_call (mLenS _ _ _ _ _ e1)
  repeat still_step
  still_call (dValidS _ _)
  repeat still_step
  refine wpStill_nil ?_
  change wpList _ _ _ _ _ W0.drew
  go_wp2_with fail
  refine hfin.out.mono ?_
  rintro e w' ⟨rfl, hD, hF⟩
  have hF2 := hfr0.out.trans hF
  clear hF hfin hfr0
  go_wp2
  go_ret
  exact ⟨rfl, hD, hF2⟩

theorem dWrite (w : World) (B : DB) (d : Dv) (h : DevAt w B d) (i : Int) (x : ByteArray) : Calls Tryz.prog 36 #[.pointer (some ⟨B.d, 0, none⟩), .int .i64 i, .string x] w fun e w' => e = .returned (.int .i64 (stpE d (wrC d i x))) ∧ DevAt w' B (dWr d i x) ∧ Fr B.l w w' := by
  by_cases h0 : 0 ≤ i
  · by_cases h1 : i < (d.M.length : Int)
    · by_cases hx : x.size = 64
      · have e : 0 = wrC d i x := (if_pos ⟨⟨h0, h1⟩, hx⟩).symm
        rw [← e]; exact dWrite_0 w B d h i x h0 h1 (by simp [hx]) e
      · have e : 1 = wrC d i x := (if_neg (fun k => hx k.2)).symm
        rw [← e]; exact dWrite_3 w B d h i x h0 h1 (by simp; omega) e
    · have e : 1 = wrC d i x := (if_neg (fun k => h1 k.1.2)).symm
      rw [← e]; exact dWrite_2 w B d h i x h0 (by simpa using h1) e
  · have e : 1 = wrC d i x := (if_neg (fun k => h0 k.1.1)).symm
    rw [← e]; exact dWrite_1 w B d h i x (by omega) e

end Go.Proofs.YtogljlloobjeoaaGreat
