/- The texts of operations. -/
import Derived.Test.YtogljlloobjeoaaSame
namespace Go.Proofs.Ytogljlloobjeoaa
open Go.RowKit

def textLen (size : Int) : Nat := (max 0 (min size 100)).toNat
def text22 (f : UInt8) (size : Int) : ByteArray := ⟨Array.replicate (textLen size) f⟩

def tArr (f : Int) (k j : Nat) : Array Value := (List.replicate j (Value.int .u8 f) ++ List.replicate (k - j) (Value.int .u8 0)).toArray

theorem infoByte : (Try.prog.info? 5).map (fun i => (i.zero, i.size, i.bytes)) = some (some (.int .u8 0), 1, 1) := by kernel_rfl

theorem tArr_get (f : Int) (k j i : Nat) (hj : j ≤ k) (hi : i < k) : (tArr f k j)[i]? = some (.int .u8 (if i < j then f else 0)) := by
  unfold tArr
  rw [List.getElem?_toArray, List.getElem?_append]
  simp only [List.length_replicate]
  by_cases h : i < j
  · rw [if_pos h, List.getElem?_replicate, if_pos h, if_pos h]
  · rw [if_neg h, List.getElem?_replicate, if_pos (by omega), if_neg h]
theorem tArr_size (f : Int) (k j : Nat) (hj : j ≤ k) : (tArr f k j).size = k := by unfold tArr; simp; omega
theorem tArr_zero (f : Int) (k : Nat) : madeCells (Value.int .u8 0).cells (k * 1) = tArr f k 0 := by
  apply Array.ext_getElem?
  intro i
  rcases Nat.lt_or_ge i k with h | h
  · rw [tArr_get f k 0 i (Nat.zero_le _) h]
    have h' : i < k * 1 := by omega
    have h1 : (Value.int .u8 0).cells = #[Value.int .u8 0] := rfl
    rw [h1]
    simp [madeCells, Nat.mod_one]
    exact ⟨i, by rw [Array.getElem?_range, if_pos h]⟩
  · rw [Array.getElem?_eq_none (by simp [size_madeCells]; omega), Array.getElem?_eq_none (by rw [tArr_size _ _ _ (Nat.zero_le _)]; exact h)]
theorem tArr_step (f : Int) (k j : Nat) (hj : j < k) : (tArr f k j).setIfInBounds j (.int .u8 f) = tArr f k (j + 1) := by
  apply Array.ext_getElem?
  intro i
  rw [Array.getElem?_setIfInBounds]
  rcases Nat.lt_or_ge i k with h | h
  · rw [tArr_get f k (j + 1) i hj h]
    by_cases e : j = i
    · subst e
      rw [if_pos rfl, if_pos (by rw [tArr_size _ _ _ (by omega)]; exact hj), if_pos (by omega)]
    · rw [if_neg e, tArr_get f k j i (by omega) h]
      have : (i < j + 1) = (i < j) := by rw [eq_iff_iff]; omega
      simp only [this]
  · have e : j ≠ i := by omega
    rw [if_neg e, Array.getElem?_eq_none (by rw [tArr_size _ _ _ (by omega)]; exact h), Array.getElem?_eq_none (by rw [tArr_size _ _ _ hj]; exact h)]
theorem strOf_rep (f : UInt8) (k : Nat) : strOfNums (List.replicate k (f.toNat : Int)) = ⟨Array.replicate k f⟩ := by
  unfold strOfNums
  simp

set_option maxRecDepth 100000 in
set_option maxHeartbeats 1600000 in
theorem rText (w : World) (kd i sz : Int) (f : UInt8) (pk : Value) :
    Calls Try.prog 25 #[.agg #[.int .i64 kd, .int .i64 i, .int .u8 f.toNat, .int .i64 sz, pk]] w fun e w' => e = .returned (.string (text22 f sz)) ∧ Below w.heap.size w w' := by
  obtain ⟨k, hk⟩ : ∃ k, textLen sz = k := ⟨_, rfl⟩
  have hk100 : k ≤ 100 := by unfold textLen at hk; omega
  have hki : (if 0 < (if 100 < sz then (100 : Int) else sz) then (if 100 < sz then (100 : Int) else sz) else 0) = (k : Int) := by
    unfold textLen at hk; split <;> split <;> omega
  unfold text22
  rw [hk]
  clear hk
  obtain ⟨i0, hi, hz0, hz1, hz2⟩ := info_parts infoByte
  have hmk := fun W => run_make_rowN (P := Try.prog) 94 5 i0 (.int .u8 0) Try.underlying94 hi hz0 .i64 .i64 k k (Nat.le_refl _) (by rw [hz2]; omega) (by omega) W
  have hmade : madeCells (Value.int .u8 0).cells (k * i0.size) = tArr f.toNat k 0 := by
    rw [hz1]; exact tArr_zero _ _
  rw [hmade] at hmk
  clear hmade hi hz0 hz1 hz2
  go_enter Try.func25, Try.ntmps25
  go_wp2
  all_goals
    go_loopw [4] (fun t wr => ∃ j : Nat, j ≤ k ∧ t = .int .i64 (j : Int) ∧ wr = (w.alloc (.cells #[.int .i64 kd, .int .i64 i, .int .u8 f.toNat, .int .i64 sz, pk] 37)).alloc (.cells (tArr f.toNat k j) 5)) (fun t _ => k - (intOf t).toNat)
    case atStart => exact ⟨0, Nat.zero_le _, rfl, rfl⟩
    case round =>
      obtain ⟨j, hj, rfl, hwr⟩ := hrel
      subst hwr
      by_cases hlt : j < k
      · have h0 := tArr_get f.toNat k j j hj hlt
        rw [if_neg (Nat.lt_irrefl _)] at h0
        have hst := tArr_step f.toNat k j hlt
        go_wp2
        go_roundw
        case rel => exact ⟨j + 1, by omega, by go_num, rfl⟩
        case measure => simp [intOf]; omega
      · obtain rfl : j = k := by omega
        have hconv := run_convert_bytes_arg (P := Try.prog) ((w.alloc (.cells #[.int .i64 kd, .int .i64 i, .int .u8 f.toNat, .int .i64 sz, pk] 37)).alloc (.cells (tArr f.toNat j j) 5)) 94 5 Try.underlying94 Try.underlying5 (w.heap.size + 1) 0 j j (List.replicate j (f.toNat : Int)) (by simp)
          (fun q hq => by
            rw [Nat.zero_add, World.cell?_alloc_at _ _ _ _ (by simp), tArr_get _ _ _ _ (Nat.le_refl _) hq, if_pos hq]
            simp [hq]) 9 Try.underlying9
        rw [strOf_rep] at hconv
        go_wp2
        go_ret
        exact ⟨rfl, ((Below.refl _ _).alloc (Nat.le_refl _) _).alloc (by simp) _⟩

end Go.Proofs.Ytogljlloobjeoaa
