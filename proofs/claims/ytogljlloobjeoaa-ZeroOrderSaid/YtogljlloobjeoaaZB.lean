/- Package zero: the iterator over the steps. -/
import Derived.Test.YtogljlloobjeoaaZA
import Derived.Test.YtogljlloobjeoaaMemB
namespace Go.Proofs.Ytogljlloobjeoaa
open Go.RowKit Go.Shelf

attribute [local go_sem] Oper.semAt_some

set_option maxHeartbeats 400000 in
theorem zSteps_make (w : World) (p : Nat) :
    Calls Try.prog 100 #[.pointer (some ⟨p, 0, none⟩)] w fun e w' => e = .returned (.func (.func 124) #[] #[.pointer (some ⟨w.heap.size, 0, none⟩)]) ∧
      w.alloc (.cells #[.pointer (some ⟨p, 0, none⟩)] 63) = w' := by
  go_enter Try.func100, Try.ntmps100
  go_wp2
  go_ret
  exact ⟨rfl, rfl⟩

set_option maxRecDepth 100000 in
set_option maxHeartbeats 2000000 in
theorem zSteps1_c (n l m : Nat) (J : Nat → World → Prop) (Jx : World → Prop) (b1 : Nat) (B : DB) (nS nM : Nat) (hS : nS ≤ 16) (hM : nM ≤ 4096) (hm : n - 1 = m)
    (hJ : ∀ i W, J i W → W.cell? ⟨b1, 0, none⟩ = some (.pointer (some ⟨B.d, 0, none⟩)))
    (hal : ∀ i W W', J i W → Below W.heap.size W W' → J i W')
    (hsl : ∀ W, J 0 W → ∃ d, DevAt W B d ∧ zSlots d = nS)
    (hse : ∀ W, J nS W → ∃ d, DevAt W B d ∧ d.M.length = nM)
    (hY1 : ∀ i W b3, J i W → i < nS → W.cell? ⟨b3, 0, none⟩ = some (.int .i64 (i : Int)) → (∃ k W0, J k W0 ∧ b3 = W0.heap.size) → YieldAt Fence.wide m Try.prog l #[.func (.func 126) #[] #[.pointer (some ⟨b1, 0, none⟩), .pointer (some ⟨b3, 0, none⟩)]] W fun e W' =>
      (e = .returned (.bool true) ∧ J (i + 1) W') ∨ (e = .returned (.bool false) ∧ Jx W'))
    (hY2 : ∀ i W b3, J (nS + i) W → i < nM → W.cell? ⟨b3, 0, none⟩ = some (.int .i64 (i : Int)) → (∃ k W0, J k W0 ∧ b3 = W0.heap.size) → YieldAt Fence.wide m Try.prog l #[.func (.func 128) #[] #[.pointer (some ⟨b1, 0, none⟩), .pointer (some ⟨b3, 0, none⟩)]] W fun e W' =>
      (e = .returned (.bool true) ∧ J (nS + (i + 1)) W') ∨ (e = .returned (.bool false) ∧ Jx W'))
    (hY3 : ∀ W, J (nS + nM) W → YieldAt Fence.wide m Try.prog l #[.func (.func 96) #[.pointer (some ⟨B.d, 0, none⟩)] #[]] W fun e W' =>
      (e = .returned (.bool true) ∧ J (nS + nM + 1) W') ∨ (e = .returned (.bool false) ∧ Jx W'))
    (hY4 : ∀ W, J (nS + nM + 1) W → YieldAt Fence.wide m Try.prog l #[.func (.func 129) #[] #[.pointer (some ⟨b1, 0, none⟩)]] W fun e W' =>
      (e = .returned (.bool true) ∧ J (nS + nM + 2) W') ∨ (e = .returned (.bool false) ∧ Jx W'))
    (W : World) (h0 : J 0 W) :
    CallsIn Fence.wide n Try.prog 124 #[.func (.yield l) #[] #[], .pointer (some ⟨b1, 0, none⟩)] W fun e W' => (∃ v, e = .returned v) ∧ (J (nS + nM + 2) W' ∨ Jx W') := by
  subst hm
  refine callsIn_of_wp Try.func124 rfl trivial ?_ rfl
  simp only [Try.ntmps124, List.size_toArray, List.length_cons, List.length_nil, Nat.reduceAdd, Nat.reduceSub, Array.replicate_succ, Array.replicate_zero, List.push_toArray, List.append_toArray, List.nil_append, List.cons_append]
  have q1 := hJ 0 W h0
  obtain ⟨d0, hD0, hd0⟩ := hsl W h0
  have ks := zSlots_c W B d0 hD0
  rw [hd0] at ks
  clear hD0 hd0
  have hwd : Fence.wide.depth.isSome = false := rfl
  have hwf : ∀ f, Fence.wide.fn f := fun _ => trivial
  gi_wp2_with (gi_at_call 125; refine (callsIn_wide.2 ks).mono ?_; rintro e w' ⟨rfl, rfl⟩)
  clear q1 ks
  obtain ⟨Wo, rfl⟩ : ∃ Wo, Wo = W := ⟨_, rfl⟩
  gi_loopw [3, 7, 8, 9, 10, 11, 12, 13, 14] (fun _ k _ _ _ _ _ _ _ wr => ∃ i : Nat, k = .int .i64 (i : Int) ∧ i ≤ nS ∧ J i wr) (fun _ k _ _ _ _ _ _ _ _ => nS - (intOf k).toNat)
  case atStart => exact ⟨0, rfl, Nat.zero_le _, h0⟩
  case round =>
    obtain ⟨i, rfl, hi, hj⟩ := hrel
    by_cases hlt : i < nS
    · have q1 := hJ i wr hj
      have hlti : (i : Int) < (nS : Int) := by omega
      obtain ⟨fn, tmps, assign, body, hyy, hR⟩ := hY1 i _ wr.heap.size (hal i wr (wr.alloc (.cells #[.int .i64 (i : Int)] 3)) hj ((Below.refl _ _).alloc (Nat.le_refl _) _)) hlt (cell_newB _ _ _) ⟨_, wr, hj, rfl⟩
      gi_wp2
      refine hR.mono ?_
      rintro e W3 (⟨rfl, hJ3⟩ | ⟨rfl, hJx3⟩)
      · gi_wp2
        go_roundw
        case rel => exact ⟨i + 1, by go_num, hlt, hJ3⟩
        case measure => simp [intOf]; omega
      · gi_wp2
        refine bodyPost_ret (results_none rfl _ _ _) rfl ?_
        exact ⟨⟨_, rfl⟩, .inr hJx3⟩
    · obtain rfl : i = nS := by omega
      have q1 := hJ i wr hj
      obtain ⟨d1, hD1, hd1⟩ := hse wr hj
      have ks := dSectors wr B d1 hD1
      rw [hd1] at ks
      clear hD1 hd1
      gi_wp2_with (gi_at_call 109; refine (callsIn_wide.2 ks).mono ?_; rintro e w' ⟨rfl, rfl⟩)
      clear q1 ks h0
      obtain ⟨Wo, rfl⟩ : ∃ Wo, Wo = wr := ⟨_, rfl⟩
      gi_loopw [4, 17, 18, 19, 20, 21, 22, 23, 24] (fun _ k _ _ _ _ _ _ _ wr => ∃ j : Nat, k = .int .i64 (j : Int) ∧ j ≤ nM ∧ J (i + j) wr) (fun _ k _ _ _ _ _ _ _ _ => nM - (intOf k).toNat)
      case atStart => exact ⟨0, rfl, Nat.zero_le _, hj⟩
      case round =>
        clear hj
        obtain ⟨j, rfl, hjn, hj⟩ := hrel
        by_cases hlt2 : j < nM
        · have q1 := hJ _ wr hj
          have hlti : (j : Int) < (nM : Int) := by omega
          obtain ⟨fn, tmps, assign, body, hyy, hR⟩ := hY2 j _ wr.heap.size (hal _ wr (wr.alloc (.cells #[.int .i64 (j : Int)] 3)) hj ((Below.refl _ _).alloc (Nat.le_refl _) _)) hlt2 (cell_newB _ _ _) ⟨_, wr, hj, rfl⟩
          gi_wp2
          refine hR.mono ?_
          rintro e W3 (⟨rfl, hJ3⟩ | ⟨rfl, hJx3⟩)
          · gi_wp2
            go_roundw
            case rel => exact ⟨j + 1, by go_num, hlt2, hJ3⟩
            case measure => simp [intOf]; omega
          · gi_wp2
            refine bodyPost_ret (results_none rfl _ _ _) rfl ?_
            exact ⟨⟨_, rfl⟩, .inr hJx3⟩
        · obtain rfl : j = nM := by omega
          have q1 := hJ _ wr hj
          obtain ⟨fn, tmps, assign, body, hyy, hR⟩ := hY3 wr hj
          gi_wp2
          refine hR.mono ?_
          rintro e W3 (⟨rfl, hJ3⟩ | ⟨rfl, hJx3⟩)
          · clear hyy hR fn tmps assign body q1
            have q1 := hJ _ W3 hJ3
            obtain ⟨fn, tmps, assign, body, hyy, hR⟩ := hY4 W3 hJ3
            gi_wp2
            refine hR.mono ?_
            rintro e W4 (⟨rfl, hJ4⟩ | ⟨rfl, hJx4⟩)
            · gi_wp2
              go_end0
              exact ⟨⟨_, rfl⟩, .inl hJ4⟩
            · gi_wp2
              go_end0
              exact ⟨⟨_, rfl⟩, .inr hJx4⟩
          · gi_wp2
            go_end0
            exact ⟨⟨_, rfl⟩, .inr hJx3⟩

end Go.Proofs.Ytogljlloobjeoaa
