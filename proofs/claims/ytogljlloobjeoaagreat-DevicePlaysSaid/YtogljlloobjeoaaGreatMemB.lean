/- The iterator of package memory over the sectors that satisfy a condition. -/
import Derived.Test.YtogljlloobjeoaaGreatMemA
import Derived.Test.YtogljlloobjeoaaGreatRf
namespace Go.Proofs.YtogljlloobjeoaaGreat
open Go.RowKit Go.Shelf

attribute [local go_sem] Oper.semAt_some

set_option maxRecDepth 100000 in
set_option maxHeartbeats 2000000 in
theorem mSuch_dirty (n l m : Nat) (J : Nat → World → Prop) (Jx : World → Prop) (b1 b2 pm pb N cap : Nat) (yes : Nat → Bool) (hN : N ≤ 4096) (hm : n - 1 = m)
    (hJ : ∀ i W, J i W → W.cell? ⟨b1, 0, none⟩ = some (.pointer (some ⟨pm, 0, none⟩)) ∧ W.cell? ⟨b2, 0, none⟩ = some (.func (.func 91) #[] #[]) ∧ W.cell? ⟨pm, 0, none⟩ = some (.slice (some ⟨pb, 0, none⟩) N cap))
    (his : ∀ i W, J i W → i < N → W.cell? ⟨pb, i * 5 + 3, none⟩ = some (.bool (yes i)))
    (hno : ∀ i W, J i W → i < N → yes i = false → J (i + 1) W)
    (hY : ∀ i W, J i W → i < N → yes i = true → YieldAt Fence.wide m Tryz.prog l #[.int .i64 (i : Int), .pointer (some ⟨pb, i * 5, none⟩)] W fun e W' =>
      (e = .returned (.bool true) ∧ J (i + 1) W') ∨ (e = .returned (.bool false) ∧ Jx W'))
    (W : World) (h0 : J 0 W) :
    CallsIn Fence.wide n Tryz.prog 104 #[.func (.yield l) #[] #[], .pointer (some ⟨b1, 0, none⟩), .pointer (some ⟨b2, 0, none⟩)] W fun e W' => (∃ v, e = .returned v) ∧ (J N W' ∨ Jx W') := by
  subst hm
  refine callsIn_of_wp Tryz.func104 rfl trivial ?_ rfl
  simp only [Tryz.ntmps104, List.size_toArray, List.length_cons, List.length_nil, Nat.reduceAdd, Nat.reduceSub, Array.replicate_succ, Array.replicate_zero, List.push_toArray, List.append_toArray, List.nil_append, List.cons_append]
  obtain ⟨q1, q2, q3⟩ := hJ 0 W h0
  have hwd : Fence.wide.depth.isSome = false := rfl
  have hwf : ∀ f, Fence.wide.fn f := fun _ => trivial
  gi_wp2
  clear q1 q2 q3
  gi_loopw [4, 5, 11, 24, 25, 26, 27, 28] (fun _ _ k _ _ _ _ _ wr => ∃ i : Nat, k = .int .i64 (i : Int) ∧ i ≤ N ∧ J i wr) (fun _ _ k _ _ _ _ _ _ => N - (intOf k).toNat)
  case atStart => exact ⟨0, rfl, Nat.zero_le _, h0⟩
  case round =>
    obtain ⟨i, rfl, hi, hj⟩ := hrel
    by_cases hlt : i < N
    · obtain ⟨q1, q2, q3⟩ := hJ i wr hj
      have q4 := his i wr hj hlt
      cases hy : yes i
      · rw [hy] at q4
        have hj' := hno i wr hj hlt hy
        clear hy
        gi_wp2_with (gi_at_call 91; refine (callsIn_wide.2 (mIsDirty_c _ pb i false (by assumption))).mono ?_; rintro e w' ⟨rfl, rfl⟩)
        go_roundw
        case rel => exact ⟨i + 1, by go_num, hlt, hj'⟩
        case measure => simp [intOf]; omega
      · rw [hy] at q4
        obtain ⟨fn, tmps, assign, body, hyy, hR⟩ := hY i wr hj hlt hy
        clear hy
        gi_wp2_with (gi_at_call 91; refine (callsIn_wide.2 (mIsDirty_c _ pb i true (by assumption))).mono ?_; rintro e w' ⟨rfl, rfl⟩)
        refine hR.mono ?_
        rintro e W3 (⟨rfl, hJ3⟩ | ⟨rfl, hJx3⟩)
        · gi_wp2
          go_roundw
          case rel => exact ⟨i + 1, by go_num, hlt, hJ3⟩
          case measure => simp [intOf]; omega
        · gi_wp2
          refine bodyPost_ret (results_none rfl _ _ _) rfl ?_
          exact ⟨⟨_, rfl⟩, .inr hJx3⟩
    · obtain rfl : i = N := by omega
      obtain ⟨q1, q2, q3⟩ := hJ i wr hj
      gi_wp2
      go_end0
      exact ⟨⟨_, rfl⟩, .inl hj⟩

end Go.Proofs.YtogljlloobjeoaaGreat
