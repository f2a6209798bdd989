/- 'same' of chapter 22: a memory and the specification's that hold the same sectors. -/
import Derived.Test.YtogljlloobjeoaaPlayers
namespace Go.Proofs.Ytogljlloobjeoaa
open Go.RowKit

theorem nats_ints (l : List Nat) : nats l = ints (l.map fun n : Nat => (n : Int)) := by unfold nats ints; rw [List.map_map]; rfl

set_option maxRecDepth 100000 in
set_option maxHeartbeats 1600000 in
theorem lSame (w : World) (pm pb qm qb : Nat) (M : List Sec) (hM : MemAt w pm pb M) (hN : MemAt w qm qb M) (hn : M.length ≤ 4096) :
    Calls Try.prog 24 #[.pointer (some ⟨pm, 0, none⟩), .pointer (some ⟨qm, 0, none⟩)] w fun e w' => e = .returned (.bool true) ∧ Fr [] w w' := by
  obtain ⟨cap, hc, hcap⟩ := hM.ptr
  obtain ⟨cap2, hc2, hcap2⟩ := hN.ptr
  have il : (imgM M).length ≤ 4611686018427387904 := by simp [imgM]; omega
  have idl : ∀ f, ((idxs f M).map fun n : Nat => (n : Int)).length ≤ 4611686018427387904 := fun f => by
    have := idxs_length_le f M
    simp; omega
  have hM' := Lib.hid hM
  have hN' := Lib.hid hN
  have idl' := Lib.hid idl
  have il' := Lib.hid il
  clear hM hN il idl
  go_enter Try.func24, Try.ntmps24
  go_wp2_with (first
    | (go_at_call 71; refine (mLen_c _ _ _ _ _ hc).mono ?_; rintro e w' ⟨rfl, rfl⟩)
    | (go_at_call 79; refine (rLen _ _ _ _ _ hc2).mono ?_; rintro e w' ⟨rfl, rfl⟩)
    | (go_at_call 31; refine (mImage _ _ _ _ hM'.out hn).mono ?_; rintro e w1 ⟨v1, rfl, hs1, hB1⟩; have hs1' := Lib.hid hs1; clear hs1; have f1 : Fr [] w w1 := Fr.of_below hB1)
    | (go_at_call 78; refine (rImage _ _ _ _ (hN'.out.fr f1 (by simp) (by simp)) hn).mono ?_; rintro e w2 ⟨v2, rfl, hs2, hB2⟩; have hs2' := Lib.hid hs2; clear hs2; have f2 : Fr [] w1 w2 := Fr.of_below hB2; have f12 := f1.trans f2)
    | (go_at_call 53; refine (rSameTexts _ _ _ _ _ _ _ (hs1'.out.fr f2 (by simp)) hs2'.out il'.out).mono ?_; rintro e w3 ⟨rfl, f3⟩; have f13 := f12.trans f3)
    | (go_at_call 32; refine (mDirty _ _ _ _ (hM'.out.fr f13 (by simp) (by simp)) hn).mono ?_; rintro e w4 ⟨v4, rfl, hs4, hB4⟩; have hs4' := Lib.hid hs4; clear hs4; have f4 : Fr [] w3 w4 := Fr.of_below hB4; have f14 := f13.trans f4)
    | (go_at_call 81; refine (rDirty _ _ _ _ (hN'.out.fr f14 (by simp) (by simp)) hn).mono ?_; rintro e w5 ⟨v5, rfl, hs5, hB5⟩; have hs5' := Lib.hid hs5; clear hs5; have f5 : Fr [] w4 w5 := Fr.of_below hB5; have f15 := f14.trans f5)
    | (go_at_call 51; refine (mWorn _ _ _ _ (hM'.out.fr f16 (by simp) (by simp)) hn).mono ?_; rintro e w7 ⟨v7, rfl, hs7, hB7⟩; have hs7' := Lib.hid hs7; clear hs7; have f7 : Fr [] w6 w7 := Fr.of_below hB7; have f17 := f16.trans f7)
    | (go_at_call 82; refine (rWorn _ _ _ _ (hN'.out.fr f17 (by simp) (by simp)) hn).mono ?_; rintro e w8 ⟨v8, rfl, hs8, hB8⟩; have hs8' := Lib.hid hs8; clear hs8; have f8 : Fr [] w7 w8 := Fr.of_below hB8; have f18 := f17.trans f8)
    | (go_at_call 80; refine (wSameInts _ _ _ _ _ _ _ (by have := hs7'.out.fr f8 (by simp); rw [nats_ints] at this; exact this) (by have := hs8'.out; rw [nats_ints] at this; exact this) (idl'.out _)).mono ?_; rintro e w9 ⟨rfl, f9⟩; have f19 := f18.trans f9)
    | (go_at_call 80; refine (wSameInts _ _ _ _ _ _ _ (by have := hs4'.out.fr f5 (by simp); rw [nats_ints] at this; exact this) (by have := hs5'.out; rw [nats_ints] at this; exact this) (idl'.out _)).mono ?_; rintro e w6 ⟨rfl, f6⟩; have f16 := f15.trans f6))
  have hM9 := hM'.out.fr f19 (by simp) (by simp)
  have hN9 := hN'.out.fr f19 (by simp) (by simp)
  have hc29 := hN9.ptr
  obtain ⟨cap9, hc9, _⟩ := hc29
  have hrd := fun k => mRead w9 pm pb M hM9 hn k
  have hrr := fun k => rRead w9 qm qb M hN9 hn k
  have hrd' := Lib.hid hrd
  have hrr' := Lib.hid hrr
  have f19' := Lib.hid f19
  clear hrd hrr hM9 hN9 hc hc2 f19 hB1 hB2 hB4 hB5 hB7 hB8 f1 f2 f12 f3 f13 f4 f14 f5 f15 f6 f16 f7 f17 f8 f18 f9 hs1' hs2' hs4' hs5' hs7' hs8'
  go_loopw [5, 6, 7, 8, 9] (fun a b c d e wr => ∃ j : Nat, j ≤ M.length + 2 ∧ a = .int .i64 ((j : Int) - 1) ∧ wr = w9) (fun a _ _ _ _ _ => M.length + 2 - (intOf a + 1).toNat)
  case atStart => exact ⟨0, by omega, rfl, rfl⟩
  case round =>
    obtain ⟨j, hj, rfl, rfl⟩ := hrel
    by_cases hlt : j < M.length + 2
    · have hle : (j : Int) - 1 ≤ (M.length : Int) := by omega
      go_wp2_with (first
        | (go_at_call 79; refine (rLen _ _ _ _ _ hc9).mono ?_; rintro e w' ⟨rfl, rfl⟩)
        | (go_at_call 27; refine (hrd'.out _).mono ?_; rintro e w' ⟨rfl, rfl⟩)
        | (go_at_call 83; refine (hrr'.out _).mono ?_; rintro e w' ⟨rfl, rfl⟩))
      go_roundw
      case rel => exact ⟨j + 1, by omega, by simp, trivial⟩
      case measure => simp [intOf]; omega
    · obtain rfl : j = M.length + 2 := by omega
      go_wp2_with (go_at_call 79; refine (rLen _ _ _ _ _ hc9).mono ?_; rintro e w' ⟨rfl, rfl⟩)
      go_ret
      exact ⟨rfl, f19'.out⟩

end Go.Proofs.Ytogljlloobjeoaa
