/- The texts of operations. -/
import Derived.Test.YtogljlloobjeoaaGreatSame
namespace Go.Proofs.YtogljlloobjeoaaGreat
open Go.RowKit

def textLen (size : Int) : Nat := (max 0 (min size 100)).toNat
def text22 (f : UInt8) (size : Int) : ByteArray := ⟨Array.replicate (textLen size) f⟩

def tArr (f : Int) (k j : Nat) : Array Value := (List.replicate j (Value.int .u8 f) ++ List.replicate (k - j) (Value.int .u8 0)).toArray

theorem infoByte : (Tryz.prog.info? 5).map (fun i => (i.zero, i.size, i.bytes)) = some (some (.int .u8 0), 1, 1) := by kernel_rfl

theorem tArr_get (f : Int) (k j i : Nat) (hj : j ≤ k) (hi : i < k) : (tArr f k j)[i]? = some (.int .u8 (if i < j then f else 0)) := by
  unfold tArr
  rw [List.getElem?_toArray, List.getElem?_append]
  simp only [List.length_replicate]
  by_cases h : i < j
  · rw [if_pos h, List.getElem?_replicate, if_pos h, if_pos h]
  · rw [if_neg h, List.getElem?_replicate, if_pos (by omega), if_neg h]
theorem tArr_size (f : Int) (k j : Nat) (hj : j ≤ k) : (tArr f k j).size = k := by unfold tArr; simp; omega
theorem tArr_zero (f : Int) (k : Nat) : madeCells (Value.int .u8 0).cells (k * 1) = tArr f k 0 := by
  apply Array.ext_getElem?
  intro i
  rcases Nat.lt_or_ge i k with h | h
  · rw [tArr_get f k 0 i (Nat.zero_le _) h]
    have h' : i < k * 1 := by omega
    have h1 : (Value.int .u8 0).cells = #[Value.int .u8 0] := rfl
    rw [h1]
    simp [madeCells, Nat.mod_one]
    exact ⟨i, by rw [Array.getElem?_range, if_pos h]⟩
  · rw [Array.getElem?_eq_none (by simp [size_madeCells]; omega), Array.getElem?_eq_none (by rw [tArr_size _ _ _ (Nat.zero_le _)]; exact h)]
theorem tArr_step (f : Int) (k j : Nat) (hj : j < k) : (tArr f k j).setIfInBounds j (.int .u8 f) = tArr f k (j + 1) := by
  apply Array.ext_getElem?
  intro i
  rw [Array.getElem?_setIfInBounds]
  rcases Nat.lt_or_ge i k with h | h
  · rw [tArr_get f k (j + 1) i hj h]
    by_cases e : j = i
    · subst e
      rw [if_pos rfl, if_pos (by rw [tArr_size _ _ _ (by omega)]; exact hj), if_pos (by omega)]
    · rw [if_neg e, tArr_get f k j i (by omega) h]
      have : (i < j + 1) = (i < j) := by rw [eq_iff_iff]; omega
      simp only [this]
  · have e : j ≠ i := by omega
    rw [if_neg e, Array.getElem?_eq_none (by rw [tArr_size _ _ _ (by omega)]; exact h), Array.getElem?_eq_none (by rw [tArr_size _ _ _ hj]; exact h)]
theorem strOf_rep (f : UInt8) (k : Nat) : strOfNums (List.replicate k (f.toNat : Int)) = ⟨Array.replicate k f⟩ := by
  unfold strOfNums
  simp

end Go.Proofs.YtogljlloobjeoaaGreat
