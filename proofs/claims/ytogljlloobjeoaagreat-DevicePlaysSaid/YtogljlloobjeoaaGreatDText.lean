/- The text of an operation of chapter 23. -/
import Derived.Test.YtogljlloobjeoaaGreatDScr
import Derived.Test.YtogljlloobjeoaaGreatText
import Derived.Test.YtogljlloobjeoaaGreatRefA
import Derived.Test.YtogljlloobjeoaaGreatDevN
import Derived.IntWalk
namespace Go.Proofs.YtogljlloobjeoaaGreat
open Go.RowKit

def dnums (f : UInt8) (k : Nat) : List Int := (List.range k).map fun i => ((f + UInt8.ofNat (i % 5)).toNat : Int)
theorem dnums_length (f : UInt8) (k : Nat) : (dnums f k).length = k := by simp [dnums]
theorem dnums_succ (f : UInt8) (k : Nat) : dnums f (k + 1) = dnums f k ++ [((f + UInt8.ofNat (k % 5)).toNat : Int)] := by simp [dnums, List.range_succ]
theorem dnums_text (f : UInt8) (sh : Bool) (n : Nat) : strOfNums (dnums f (if sh = true then n - 1 else n)) = dtext f sh n := by
  unfold dtext dnums strOfNums
  congr 2
  rw [List.map_map]
  apply List.map_congr_left
  intro i _
  simp only [Function.comp_apply, Int.toNat_natCast]
  exact UInt8.ofNat_toNat
def u8s (l : List Int) : List Value := l.map (.int .u8)
theorem oneC_u8 (n : Int) : ∀ u ∈ [Value.int .u8 n], u.oneCell' = true := by intro u hu; simp at hu; subst hu; rfl
theorem u8_sum (f : UInt8) (k : Nat) : ((f.toNat : Int) + (k : Int) % 5) % 256 = ((f + UInt8.ofNat (k % 5)).toNat : Int) := by
  have h : (f + UInt8.ofNat (k % 5)).toNat = (f.toNat + k % 5) % 256 := by
    rw [UInt8.toNat_add, UInt8.toNat_ofNat']
    have : k % 5 % 2 ^ 8 = k % 5 := by omega
    rw [this]
  rw [h]
  omega
theorem u8s_succ (f : UInt8) (k : Nat) : u8s (dnums f (k + 1)) = u8s (dnums f k) ++ [.int .u8 ((f + UInt8.ofNat (k % 5)).toNat : Int)] := by rw [dnums_succ]; simp [u8s]
theorem u8s_length (f : UInt8) (k : Nat) : (u8s (dnums f k)).length = k := by simp [u8s, dnums]

set_option maxRecDepth 100000 in
set_option maxHeartbeats 1600000 in
theorem dText (w : World) (kd a b : Int) (f : UInt8) (sh : Bool) (pk : Value) (n : Nat) (hn : 2 ≤ n) (hn2 : n ≤ 1000) :
    Calls Tryz.prog 13 #[.agg #[.int .i64 kd, .int .i64 a, .int .i64 b, .int .u8 f.toNat, .bool sh, pk], .int .i64 n] w fun e w' => e = .returned (.string (dtext f sh n)) ∧ Below w.heap.size w w' := by
  rw [← dnums_text]
  obtain ⟨i0, hi, hz0, hz1, hz2⟩ := info_parts infoByte
  obtain ⟨k, hk⟩ : ∃ k : Nat, (if sh = true then n - 1 else n) = k := ⟨_, rfl⟩
  have hk1 : 1 ≤ k ∧ k ≤ 1000 := by split at hk <;> omega
  have hk2 : (if sh = true then (n : Int) - 1 else n) = (k : Int) := by split at hk <;> simp_all <;> omega
  rw [hk]
  have a1 : (1 : Int) ≤ k := by omega
  have a2 : (k : Int) ≤ 1000 := by omega
  have b1 : (2 : Int) ≤ n := by omega
  have b2 : (n : Int) ≤ 1000 := by omega
  clear hk
  cases sh
  · obtain rfl : n = k := by simp at hk2; omega
    clear hk2
    go_enter Tryz.func13, Tryz.ntmps13
    go_wp2
    generalize hW : w.alloc (.cells #[.int .i64 kd, .int .i64 a, .int .i64 b, .int .u8 f.toNat, .bool false, pk] 43) = W0
    have c3 : W0.cell? ⟨w.heap.size, 3, none⟩ = some (.int .u8 f.toNat) := by rw [← hW]; simp
    have hz0s : W0.heap.size = w.heap.size + 1 := by rw [← hW]; simp
    have hB0 : Below w.heap.size w W0 := by rw [← hW]; exact (Below.refl _ _).alloc (Nat.le_refl _) _
    clear hW
    have hz0' := Lib.hid hz0s
    clear hz0s
    skip
    go_loopw [5, 6] (fun v i wr => ∃ j : Nat, j ≤ n ∧ i = .int .i64 (j : Int) ∧ wr.ownsRow (w.heap.size + 1) 5 1 v (u8s (dnums f j)).length (u8s (dnums f j)) ∧ Below (w.heap.size + 1) W0 wr) (fun _ i _ => n - (intOf i).toNat)
    case atStart => exact ⟨0, Nat.zero_le _, rfl, World.ownsRow_nil _ _ _ _, Below.refl _ _⟩
    case round =>
      obtain ⟨j, hj, rfl, hown, hB⟩ := hrel
      have hBs := hB.size
      have hz := hz0'.out
      have hws : w.heap.size + 1 ≤ wr.heap.size := by omega
      have hwl : w.heap.size < W0.heap.size := by omega
      clear hz
      by_cases hlt : j < n
      · have hlti : (j : Int) < (n : Int) := by omega
        have c3' := (hB.cell (p := ⟨w.heap.size, 3, none⟩) (Nat.lt_succ_self _)).trans c3
        have hfl : (f.toNat : Int) < 256 := by have := f.toNat_lt; omega
        have hfl0 : (0 : Int) ≤ (f.toNat : Int) := by omega
        have hu8 := Lib.hid (u8_sum f j)
        have hsu := Lib.hid (u8s_succ f j)
        have hle : (u8s (dnums f j)).length ≤ 1000 := by rw [u8s_length]; omega
        clear c3
        go_wp2_with (at_builtin; refine wpList_append_own _ rfl _ _ 78 rfl (w.heap.size + 1) 5 i0 (.int .u8 0) 1 1 Tryz.underlying78 hi hz0 hz1 hz2 rfl (by decide) _ _ _ rfl (hown.alloc _) ⟨wr.heap.size, 0, none⟩ 1 1 [.int .u8 (((f.toNat : Int) + (j : Int) % 5) % 256)] rfl rfl (cell_one _ _ _) (oneC_u8 _) ?c3 ?c4 ?c5 ?_)
        case c3 => unfold maxLen; omega
        case c4 => omega
        case c5 => simp; omega
        intro v' w1 hown' hgrow _
        have hB' : Below (w.heap.size + 1) W0 w1 := (hB.alloc hws _).grown hgrow (by simp; omega) (fun k hk => (hown.lt k hk).1)
        have hown2 : w1.ownsRow (w.heap.size + 1) 5 1 v' (u8s (dnums f (j + 1))).length (u8s (dnums f (j + 1))) := by
          rw [hsu.out, ← hu8.out]; simpa using hown'
        clear hown' hgrow hown c3' hB
        go_wp2
        go_roundw
        case rel => exact ⟨j + 1, by omega, by go_num, hown2, hB'⟩
        case measure => simp [intOf]; omega
      · obtain rfl : j = n := by omega
        obtain ⟨g, cp, rfl, hcp, hgb, hgl, hgc, hgz⟩ := row_of_own hown (by rw [u8s_length]; omega)
        have hconv := run_convert_bytes_arg (P := Tryz.prog) wr 78 5 Tryz.underlying78 Tryz.underlying5 g 0 (u8s (dnums f j)).length cp (dnums f j) (by simp [u8s])
          (fun q hq => by
            rw [Nat.zero_add]
            refine hgc q _ ?_
            have hq' : q < (dnums f j).length := by simpa [u8s] using hq
            simp [u8s, List.getElem?_eq_getElem hq', List.getD_eq_getElem?_getD]) 9 Tryz.underlying9
        clear hown hgc hgz c3
        go_wp2
        go_ret
        exact ⟨rfl, hB0.trans (hB.mono (by omega))⟩
  · have hk2' := Lib.hid (show (n : Int) - 1 = k from by simpa using hk2)
    clear hk2
    go_enter Tryz.func13, Tryz.ntmps13
    go_wp2
    generalize hW : w.alloc (.cells #[.int .i64 kd, .int .i64 a, .int .i64 b, .int .u8 f.toNat, .bool true, pk] 43) = W0
    have c3 : W0.cell? ⟨w.heap.size, 3, none⟩ = some (.int .u8 f.toNat) := by rw [← hW]; simp
    have hz0s : W0.heap.size = w.heap.size + 1 := by rw [← hW]; simp
    have hB0 : Below w.heap.size w W0 := by rw [← hW]; exact (Below.refl _ _).alloc (Nat.le_refl _) _
    clear hW
    have hz0' := Lib.hid hz0s
    clear hz0s
    rw [hk2'.out]
    go_loopw [5, 6] (fun v i wr => ∃ j : Nat, j ≤ k ∧ i = .int .i64 (j : Int) ∧ wr.ownsRow (w.heap.size + 1) 5 1 v (u8s (dnums f j)).length (u8s (dnums f j)) ∧ Below (w.heap.size + 1) W0 wr) (fun _ i _ => k - (intOf i).toNat)
    case atStart => exact ⟨0, Nat.zero_le _, rfl, World.ownsRow_nil _ _ _ _, Below.refl _ _⟩
    case round =>
      obtain ⟨j, hj, rfl, hown, hB⟩ := hrel
      have hBs := hB.size
      have hz := hz0'.out
      have hws : w.heap.size + 1 ≤ wr.heap.size := by omega
      have hwl : w.heap.size < W0.heap.size := by omega
      clear hz
      by_cases hlt : j < k
      · have hlti : (j : Int) < (k : Int) := by omega
        have c3' := (hB.cell (p := ⟨w.heap.size, 3, none⟩) (Nat.lt_succ_self _)).trans c3
        have hfl : (f.toNat : Int) < 256 := by have := f.toNat_lt; omega
        have hfl0 : (0 : Int) ≤ (f.toNat : Int) := by omega
        have hu8 := Lib.hid (u8_sum f j)
        have hsu := Lib.hid (u8s_succ f j)
        have hle : (u8s (dnums f j)).length ≤ 1000 := by rw [u8s_length]; omega
        clear c3
        go_wp2_with (at_builtin; refine wpList_append_own _ rfl _ _ 78 rfl (w.heap.size + 1) 5 i0 (.int .u8 0) 1 1 Tryz.underlying78 hi hz0 hz1 hz2 rfl (by decide) _ _ _ rfl (hown.alloc _) ⟨wr.heap.size, 0, none⟩ 1 1 [.int .u8 (((f.toNat : Int) + (j : Int) % 5) % 256)] rfl rfl (cell_one _ _ _) (oneC_u8 _) ?c3 ?c4 ?c5 ?_)
        case c3 => unfold maxLen; omega
        case c4 => omega
        case c5 => simp; omega
        intro v' w1 hown' hgrow _
        have hB' : Below (w.heap.size + 1) W0 w1 := (hB.alloc hws _).grown hgrow (by simp; omega) (fun k hk => (hown.lt k hk).1)
        have hown2 : w1.ownsRow (w.heap.size + 1) 5 1 v' (u8s (dnums f (j + 1))).length (u8s (dnums f (j + 1))) := by
          rw [hsu.out, ← hu8.out]; simpa using hown'
        clear hown' hgrow hown c3' hB
        go_wp2
        go_roundw
        case rel => exact ⟨j + 1, by omega, by go_num, hown2, hB'⟩
        case measure => simp [intOf]; omega
      · obtain rfl : j = k := by omega
        obtain ⟨g, cp, rfl, hcp, hgb, hgl, hgc, hgz⟩ := row_of_own hown (by rw [u8s_length]; omega)
        have hconv := run_convert_bytes_arg (P := Tryz.prog) wr 78 5 Tryz.underlying78 Tryz.underlying5 g 0 (u8s (dnums f j)).length cp (dnums f j) (by simp [u8s])
          (fun q hq => by
            rw [Nat.zero_add]
            refine hgc q _ ?_
            have hq' : q < (dnums f j).length := by simpa [u8s] using hq
            simp [u8s, List.getElem?_eq_getElem hq', List.getD_eq_getElem?_getD]) 9 Tryz.underlying9
        clear hown hgc hgz c3
        go_wp2
        go_ret
        exact ⟨rfl, hB0.trans (hB.mono (by omega))⟩

end Go.Proofs.YtogljlloobjeoaaGreat
