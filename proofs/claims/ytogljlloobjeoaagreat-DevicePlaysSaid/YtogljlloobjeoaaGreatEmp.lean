/- Texts of zero bytes that are made in place. -/
import Derived.Test.YtogljlloobjeoaaGreatNewR
import Derived.Test.YtogljlloobjeoaaGreatDMod
namespace Go.Proofs.YtogljlloobjeoaaGreat
open Go.RowKit

theorem mk32 (W : World) : (Instr.makeSlice 78 (.int .i64 32) (.int .i64 32)).run Tryz.prog W = .ok (.slice (some ⟨W.heap.size, 0, none⟩) 32 32) (W.alloc (.cells (tArr 0 32 0) 5)) := by
  obtain ⟨i1, hi1, hy0, hy1, hy2⟩ := info_parts infoByte
  have := run_make_rowN (P := Tryz.prog) 78 5 i1 (.int .u8 0) Tryz.underlying78 hi1 hy0 .i64 .i64 32 32 (Nat.le_refl _) (by rw [hy2]; omega) (by omega) W
  rw [hy1, tArr_zero 0] at this
  exact this
theorem cv32 (W : World) : (convert 78 9 (.slice (some ⟨W.heap.size, 0, none⟩) 32 32)).run Tryz.prog (W.alloc (.cells (tArr 0 32 0) 5)) = .ok (.string zero32) (W.alloc (.cells (tArr 0 32 0) 5)) := by
  have := run_convert_bytes_arg (P := Tryz.prog) (W.alloc (.cells (tArr 0 32 0) 5)) 78 5 Tryz.underlying78 Tryz.underlying5 W.heap.size 0 32 32 (List.replicate 32 ((0 : UInt8).toNat : Int)) (by simp)
    (fun q hq => by
      rw [Nat.zero_add, World.cell?_alloc_at _ _ _ _ rfl, tArr_get _ _ _ _ (Nat.zero_le _) hq, if_neg (Nat.not_lt_zero _)]
      rw [getD_rep _ _ _ hq]; rfl) 9 Tryz.underlying9
  rw [strOf_rep] at this
  exact this
theorem mk64 (W : World) : (Instr.makeSlice 78 (.int .i64 64) (.int .i64 64)).run Tryz.prog W = .ok (.slice (some ⟨W.heap.size, 0, none⟩) 64 64) (W.alloc (.cells (tArr 0 64 0) 5)) := by
  obtain ⟨i1, hi1, hy0, hy1, hy2⟩ := info_parts infoByte
  have := run_make_rowN (P := Tryz.prog) 78 5 i1 (.int .u8 0) Tryz.underlying78 hi1 hy0 .i64 .i64 64 64 (Nat.le_refl _) (by rw [hy2]; omega) (by omega) W
  rw [hy1, tArr_zero 0] at this
  exact this
theorem cv64 (W : World) : (convert 78 9 (.slice (some ⟨W.heap.size, 0, none⟩) 64 64)).run Tryz.prog (W.alloc (.cells (tArr 0 64 0) 5)) = .ok (.string zero64) (W.alloc (.cells (tArr 0 64 0) 5)) := by
  have := run_convert_bytes_arg (P := Tryz.prog) (W.alloc (.cells (tArr 0 64 0) 5)) 78 5 Tryz.underlying78 Tryz.underlying5 W.heap.size 0 64 64 (List.replicate 64 ((0 : UInt8).toNat : Int)) (by simp)
    (fun q hq => by
      rw [Nat.zero_add, World.cell?_alloc_at _ _ _ _ rfl, tArr_get _ _ _ _ (Nat.zero_le _) hq, if_neg (Nat.not_lt_zero _)]
      rw [getD_rep _ _ _ hq]; rfl) 9 Tryz.underlying9
  rw [strOf_rep] at this
  exact this
end Go.Proofs.YtogljlloobjeoaaGreat
