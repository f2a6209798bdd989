/- Contracts of the small functions of package memory. -/
import Derived.Test.YtogljlloobjeoaaGreatRows
import Derived.Test.YtogljlloobjeoaaGreatMod
import Derived.StillTailTactics
import Derived.Deep.QuietTactic
import Derived.BigQuiet
import Derived.BigRegion
import Derived.Deep.RegionHeld3
import Derived.ChangeAlike
namespace Go.Proofs.YtogljlloobjeoaaGreat
open Go.RowKit

set_option maxHeartbeats 400000 in
theorem mAt_in (w : World) (pm pb n cap : Nat) (i : Nat) (hc : w.cell? ⟨pm, 0, none⟩ = some (.slice (some ⟨pb, 0, none⟩) n cap)) (h1 : i < n) (_hn : n ≤ 4096) :
    Calls Tryz.prog 99 #[.pointer (some ⟨pm, 0, none⟩), .int .i64 i] w fun e w' => e = .returned (.pointer (some ⟨pb, i * 5, none⟩)) ∧ w = w' := by
  go_enter Tryz.func99, Tryz.ntmps99
  go_wp2
  go_ret
  exact ⟨rfl, rfl⟩

set_option maxHeartbeats 400000 in
theorem mAt_out (w : World) (pm pb n cap : Nat) (i : Int) (hc : w.cell? ⟨pm, 0, none⟩ = some (.slice (some ⟨pb, 0, none⟩) n cap)) (h1 : i < 0 ∨ (n : Int) ≤ i) :
    Calls Tryz.prog 99 #[.pointer (some ⟨pm, 0, none⟩), .int .i64 i] w fun e w' => e = .returned (.pointer none) ∧ w = w' := by
  rcases Int.lt_or_le i 0 with h | h
  · go_enter Tryz.func99, Tryz.ntmps99
    go_wp2
    go_ret
    exact ⟨rfl, rfl⟩
  · have h2 : (n : Int) ≤ i := by omega
    clear h1
    go_enter Tryz.func99, Tryz.ntmps99
    go_wp2
    go_ret
    exact ⟨rfl, rfl⟩

set_option maxHeartbeats 400000 in
theorem mLen_c (w : World) (pm pb n cap : Nat) (hc : w.cell? ⟨pm, 0, none⟩ = some (.slice (some ⟨pb, 0, none⟩) n cap)) :
    Calls Tryz.prog 69 #[.pointer (some ⟨pm, 0, none⟩)] w fun e w' => e = .returned (.int .i64 n) ∧ w = w' := by
  go_enter Tryz.func69, Tryz.ntmps69
  go_wp2
  go_ret
  exact ⟨rfl, rfl⟩

set_option maxHeartbeats 400000 in
theorem mIsDirty_c (w : World) (pb i : Nat) (b : Bool) (hc : w.cell? ⟨pb, i * 5 + 3, none⟩ = some (.bool b)) :
    Calls Tryz.prog 91 #[.pointer (some ⟨pb, i * 5, none⟩)] w fun e w' => e = .returned (.bool b) ∧ w = w' := by
  go_enter Tryz.func91, Tryz.ntmps91
  go_wp2
  go_ret
  exact ⟨rfl, rfl⟩

set_option maxHeartbeats 400000 in
theorem mWrite_w0 (w : World) (pm pb n cap : Nat) (x : ByteArray) (i : Nat) (f0 : ByteArray) (d0 : Bool) (hc : w.cell? ⟨pm, 0, none⟩ = some (.slice (some ⟨pb, 0, none⟩) n cap)) (h1 : i < n) (hn : n ≤ 4096)
    (c2 : w.cell? ⟨pb, i * 5 + 2, none⟩ = some (.string f0)) (c3 : w.cell? ⟨pb, i * 5 + 3, none⟩ = some (.bool d0)) (c4 : w.cell? ⟨pb, i * 5 + 4, none⟩ = some (.bool false)) (hf2 : w.frozen? ⟨pb, i * 5 + 2, none⟩ = false) (hf3 : w.frozen? ⟨pb, i * 5 + 3, none⟩ = false)
    (hx : ((x.size : Int) != 64) = false) :
    Calls Tryz.prog 76 #[.pointer (some ⟨pm, 0, none⟩), .int .i64 i, .string x] w fun e w' => e = .returned (.int .i64 0) ∧
      w' = (w.setCell ⟨pb, i * 5 + 2, none⟩ (.string x)).setCell ⟨pb, i * 5 + 3, none⟩ (.bool true) := by
  go_enter Tryz.func76, Tryz.ntmps76
  go_wp2_with ((with_reducible refine (mAt_in _ _ pb n cap i (by assumption) (by omega) (by omega)).mono ?_); rintro e w' ⟨rfl, rfl⟩)
  go_ret
  exact ⟨rfl, rfl⟩

set_option maxHeartbeats 400000 in
theorem mWrite_w1 (w : World) (pm pb n cap : Nat) (x : ByteArray) (i : Nat) (hc : w.cell? ⟨pm, 0, none⟩ = some (.slice (some ⟨pb, 0, none⟩) n cap)) (h1 : i < n) (hn : n ≤ 4096)
    (c4 : w.cell? ⟨pb, i * 5 + 4, none⟩ = some (.bool true)) (hx : ((x.size : Int) != 64) = false) :
    Calls Tryz.prog 76 #[.pointer (some ⟨pm, 0, none⟩), .int .i64 i, .string x] w fun e w' => e = .returned (.int .i64 0) ∧ w = w' := by
  go_enter Tryz.func76, Tryz.ntmps76
  go_wp2_with ((with_reducible refine (mAt_in _ _ pb n cap i (by assumption) (by omega) (by omega)).mono ?_); rintro e w' ⟨rfl, rfl⟩)
  go_ret
  exact ⟨rfl, rfl⟩

set_option maxHeartbeats 400000 in
theorem mWrite_w2 (w : World) (pm pb n cap : Nat) (x : ByteArray) (i : Nat) (hc : w.cell? ⟨pm, 0, none⟩ = some (.slice (some ⟨pb, 0, none⟩) n cap)) (h1 : i < n) (hn : n ≤ 4096)
    (hx : ((x.size : Int) != 64) = true) :
    Calls Tryz.prog 76 #[.pointer (some ⟨pm, 0, none⟩), .int .i64 i, .string x] w fun e w' => e = .returned (.int .i64 1) ∧ w = w' := by
  go_enter Tryz.func76, Tryz.ntmps76
  go_wp2_with ((with_reducible refine (mAt_in _ _ pb n cap i (by assumption) (by omega) (by omega)).mono ?_); rintro e w' ⟨rfl, rfl⟩)
  go_ret
  exact ⟨rfl, rfl⟩

set_option maxHeartbeats 400000 in
theorem mWrite_w3 (w : World) (pm pb n cap : Nat) (x : ByteArray) (i : Int) (hc : w.cell? ⟨pm, 0, none⟩ = some (.slice (some ⟨pb, 0, none⟩) n cap)) (h1 : i < 0 ∨ (n : Int) ≤ i) :
    Calls Tryz.prog 76 #[.pointer (some ⟨pm, 0, none⟩), .int .i64 i, .string x] w fun e w' => e = .returned (.int .i64 1) ∧ w = w' := by
  go_enter Tryz.func76, Tryz.ntmps76
  go_wp2_with ((with_reducible refine (mAt_out _ _ pb n cap i (by assumption) (by assumption)).mono ?_); rintro e w' ⟨rfl, rfl⟩)
  go_ret
  exact ⟨rfl, rfl⟩

/-- Write. -/
theorem mWrite (w : World) (pm pb : Nat) (M : List Sec) (hM : MemAt w pm pb M) (hn : M.length ≤ 4096) (i : Int) (x : ByteArray) :
    Calls Tryz.prog 76 #[.pointer (some ⟨pm, 0, none⟩), .int .i64 i, .string x] w fun e w' => e = .returned (.int .i64 (wrE M i x)) ∧ MemAt w' pm pb (wrM M i x) ∧ Fr [pb] w w' := by
  obtain ⟨cap, hc, hcap⟩ := hM.ptr
  by_cases hin : isIn M i
  · obtain ⟨k, rfl⟩ := Int.eq_ofNat_of_zero_le hin.1
    have hlt : k < M.length := by have := hin.2; omega
    have hs : M[k]? = some M[k] := List.getElem?_eq_getElem hlt
    have hsa := hM.arr.sec k _ hs
    obtain ⟨c0, c1, c2, c3, c4⟩ := hsa
    by_cases hx : x.size = 64
    · have hxe : ((x.size : Int) != 64) = false := by simp [hx]
      have e1 : wrE M (k : Int) x = 0 := if_pos ⟨hin, hx⟩
      have e2 : wrM M (k : Int) x = M.set k (Sec.put x M[k]) := (if_pos ⟨hin, hx⟩).trans (by rw [Int.toNat_natCast]; exact updS_some _ hs)
      rw [e1, e2]
      cases hw : (M[k]).worn
      · refine (mWrite_w0 w pm pb M.length cap x k _ _ hc hlt hn c2 c3 (by rw [c4, hw]) (hM.arr.frz _) (hM.arr.frz _) hxe).mono ?_
        rintro e w' ⟨rfl, rfl⟩
        have hfr : Fr [pb] w ((w.setCell ⟨pb, k * 5 + 2, none⟩ (.string x)).setCell ⟨pb, k * 5 + 3, none⟩ (.bool true)) := ((Fr.refl _ _).setCell (by simp) _).setCell (by simp) _
        refine ⟨rfl, hM.upd hfr ?_ (fun o ho => ?_) (fun o => by simp), hfr⟩
        · have e3 : Sec.put x M[k] = { M[k] with fresh := x, dirty := true } := by simp [Sec.put, hw]
          rw [e3]
          refine ⟨?_, ?_, ?_, ?_, ?_⟩ <;> simp [cell_set, c0, c1, c2, c3, c4]
        · rw [cell_set, if_neg (by omega), cell_set, if_neg (by omega)]
      · refine (mWrite_w1 w pm pb M.length cap x k hc hlt hn (by rw [c4, hw]) hxe).mono ?_
        rintro e w' ⟨rfl, rfl⟩
        have e3 : Sec.put x M[k] = M[k] := by simp [Sec.put, hw]
        rw [e3, List.set_getElem_self]
        exact ⟨rfl, hM, Fr.refl _ _⟩
    · have hxe : ((x.size : Int) != 64) = true := by simp; omega
      have e1 : wrE M (k : Int) x = 1 := if_neg (fun h => hx h.2)
      have e2 : wrM M (k : Int) x = M := if_neg (fun h => hx h.2)
      rw [e1, e2]
      refine (mWrite_w2 w pm pb M.length cap x k hc hlt hn hxe).mono ?_
      rintro e w' ⟨rfl, rfl⟩
      exact ⟨rfl, hM, Fr.refl _ _⟩
  · have e1 : wrE M i x = 1 := if_neg (fun h => hin h.1)
    have e2 : wrM M i x = M := if_neg (fun h => hin h.1)
    rw [e1, e2]
    refine (mWrite_w3 w pm pb M.length cap x i hc (by unfold isIn at hin; omega)).mono ?_
    rintro e w' ⟨rfl, rfl⟩
    exact ⟨rfl, hM, Fr.refl _ _⟩

theorem mRead_w (w : World) (pm pb n cap : Nat) (i : Nat) (f0 n0 : ByteArray) (d0 : Bool) (hc : w.cell? ⟨pm, 0, none⟩ = some (.slice (some ⟨pb, 0, none⟩) n cap)) (h1 : i < n) (hn : n ≤ 4096)
    (c0 : w.cell? ⟨pb, i * 5, none⟩ = some (.string n0)) (c2 : w.cell? ⟨pb, i * 5 + 2, none⟩ = some (.string f0)) (c3 : w.cell? ⟨pb, i * 5 + 3, none⟩ = some (.bool d0)) :
    Calls Tryz.prog 74 #[.pointer (some ⟨pm, 0, none⟩), .int .i64 i] w fun e w' => e = .returned (.tuple #[.string (if d0 then f0 else n0), .int .i64 0]) ∧ w = w' := by
  cases d0
  all_goals
    go_enter Tryz.func74, Tryz.ntmps74
    go_wp2_with ((with_reducible refine (mAt_in _ _ pb n cap i (by assumption) (by omega) (by omega)).mono ?_); rintro e w' ⟨rfl, rfl⟩)
    go_ret2
    exact ⟨rfl, rfl⟩

theorem mRead_out (w : World) (pm pb n cap : Nat) (i : Int) (hc : w.cell? ⟨pm, 0, none⟩ = some (.slice (some ⟨pb, 0, none⟩) n cap)) (h1 : i < 0 ∨ (n : Int) ≤ i) :
    Calls Tryz.prog 74 #[.pointer (some ⟨pm, 0, none⟩), .int .i64 i] w fun e w' => e = .returned (.tuple #[.string ByteArray.empty, .int .i64 1]) ∧ w = w' := by
  go_enter Tryz.func74, Tryz.ntmps74
  go_wp2_with ((with_reducible refine (mAt_out _ _ pb n cap i (by assumption) (by assumption)).mono ?_); rintro e w' ⟨rfl, rfl⟩)
  go_ret2
  exact ⟨rfl, rfl⟩

/-- Read. -/
theorem mRead (w : World) (pm pb : Nat) (M : List Sec) (hM : MemAt w pm pb M) (hn : M.length ≤ 4096) (i : Int) :
    Calls Tryz.prog 74 #[.pointer (some ⟨pm, 0, none⟩), .int .i64 i] w fun e w' => e = .returned (.tuple #[.string (rdT M i), .int .i64 (rdE M i)]) ∧ w = w' := by
  obtain ⟨cap, hc, hcap⟩ := hM.ptr
  by_cases hin : isIn M i
  · obtain ⟨k, rfl⟩ := Int.eq_ofNat_of_zero_le hin.1
    have hlt : k < M.length := by have := hin.2; omega
    have hs : M[k]? = some M[k] := List.getElem?_eq_getElem hlt
    obtain ⟨c0, c1, c2, c3, c4⟩ := hM.arr.sec k _ hs
    have e1 : rdE M (k : Int) = 0 := if_pos hin
    have e2 : rdT M (k : Int) = if (M[k]).dirty then (M[k]).fresh else (M[k]).now := (if_pos hin).trans (by rw [Int.toNat_natCast, hs]; rfl)
    rw [e1, e2]
    exact mRead_w w pm pb M.length cap k _ _ _ hc hlt hn c0 c2 c3
  · have e1 : rdE M i = 1 := if_neg hin
    have e2 : rdT M i = ByteArray.empty := if_neg hin
    rw [e1, e2]
    exact mRead_out w pm pb M.length cap i hc (by unfold isIn at hin; omega)

set_option maxHeartbeats 400000 in
theorem mStale_w0 (w : World) (pm pb n cap : Nat) (i : Nat) (b0 n0 : ByteArray) (hc : w.cell? ⟨pm, 0, none⟩ = some (.slice (some ⟨pb, 0, none⟩) n cap)) (h1 : i < n) (hn : n ≤ 4096)
    (c0 : w.cell? ⟨pb, i * 5, none⟩ = some (.string n0)) (c1 : w.cell? ⟨pb, i * 5 + 1, none⟩ = some (.string b0)) (hf0 : w.frozen? ⟨pb, i * 5, none⟩ = false) :
    Calls Tryz.prog 78 #[.pointer (some ⟨pm, 0, none⟩), .int .i64 i] w fun e w' => e = .returned (.int .i64 0) ∧ w' = w.setCell ⟨pb, i * 5, none⟩ (.string b0) := by
  go_enter Tryz.func78, Tryz.ntmps78
  go_wp2_with ((with_reducible refine (mAt_in _ _ pb n cap i (by assumption) (by omega) (by omega)).mono ?_); rintro e w' ⟨rfl, rfl⟩)
  go_ret
  exact ⟨rfl, rfl⟩
set_option maxHeartbeats 400000 in
theorem mStale_w1 (w : World) (pm pb n cap : Nat) (i : Int) (hc : w.cell? ⟨pm, 0, none⟩ = some (.slice (some ⟨pb, 0, none⟩) n cap)) (h1 : i < 0 ∨ (n : Int) ≤ i) :
    Calls Tryz.prog 78 #[.pointer (some ⟨pm, 0, none⟩), .int .i64 i] w fun e w' => e = .returned (.int .i64 1) ∧ w = w' := by
  go_enter Tryz.func78, Tryz.ntmps78
  go_wp2_with ((with_reducible refine (mAt_out _ _ pb n cap i (by assumption) (by assumption)).mono ?_); rintro e w' ⟨rfl, rfl⟩)
  go_ret
  exact ⟨rfl, rfl⟩
/-- Stale. -/
theorem mStale (w : World) (pm pb : Nat) (M : List Sec) (hM : MemAt w pm pb M) (hn : M.length ≤ 4096) (i : Int) :
    Calls Tryz.prog 78 #[.pointer (some ⟨pm, 0, none⟩), .int .i64 i] w fun e w' => e = .returned (.int .i64 (rdE M i)) ∧ MemAt w' pm pb (stM M i) ∧ Fr [pb] w w' := by
  obtain ⟨cap, hc, hcap⟩ := hM.ptr
  by_cases hin : isIn M i
  · obtain ⟨k, rfl⟩ := Int.eq_ofNat_of_zero_le hin.1
    have hlt : k < M.length := by have := hin.2; omega
    have hs : M[k]? = some M[k] := List.getElem?_eq_getElem hlt
    obtain ⟨c0, c1, c2, c3, c4⟩ := hM.arr.sec k _ hs
    have e1 : rdE M (k : Int) = 0 := if_pos hin
    have e2 : stM M (k : Int) = M.set k (Sec.back M[k]) := (if_pos hin).trans (by rw [Int.toNat_natCast]; exact updS_some _ hs)
    rw [e1, e2]
    refine (mStale_w0 w pm pb M.length cap k _ _ hc hlt hn c0 c1 (hM.arr.frz _)).mono ?_
    rintro e w' ⟨rfl, rfl⟩
    have hfr : Fr [pb] w (w.setCell ⟨pb, k * 5, none⟩ (.string (M[k]).before)) := (Fr.refl _ _).setCell (by simp) _
    refine ⟨rfl, hM.upd hfr ?_ (fun o ho => ?_) (fun o => by simp), hfr⟩
    · refine ⟨?_, ?_, ?_, ?_, ?_⟩ <;> simp [cell_set, Sec.back, c0, c1, c2, c3, c4]
    · rw [cell_set, if_neg (by omega)]
  · have e1 : rdE M i = 1 := if_neg hin
    have e2 : stM M i = M := if_neg hin
    rw [e1, e2]
    refine (mStale_w1 w pm pb M.length cap i hc (by unfold isIn at hin; omega)).mono ?_
    rintro e w' ⟨rfl, rfl⟩
    exact ⟨rfl, hM, Fr.refl _ _⟩

set_option maxHeartbeats 400000 in
theorem mWear_w0 (w : World) (pm pb n cap : Nat) (i : Nat) (d0 : Bool) (hc : w.cell? ⟨pm, 0, none⟩ = some (.slice (some ⟨pb, 0, none⟩) n cap)) (h1 : i < n) (hn : n ≤ 4096)
    (c4 : w.cell? ⟨pb, i * 5 + 4, none⟩ = some (.bool d0)) (hf4 : w.frozen? ⟨pb, i * 5 + 4, none⟩ = false) :
    Calls Tryz.prog 79 #[.pointer (some ⟨pm, 0, none⟩), .int .i64 i] w fun e w' => e = .returned (.int .i64 0) ∧ w' = w.setCell ⟨pb, i * 5 + 4, none⟩ (.bool true) := by
  go_enter Tryz.func79, Tryz.ntmps79
  go_wp2_with ((with_reducible refine (mAt_in _ _ pb n cap i (by assumption) (by omega) (by omega)).mono ?_); rintro e w' ⟨rfl, rfl⟩)
  go_ret
  exact ⟨rfl, rfl⟩
set_option maxHeartbeats 400000 in
theorem mWear_w1 (w : World) (pm pb n cap : Nat) (i : Int) (hc : w.cell? ⟨pm, 0, none⟩ = some (.slice (some ⟨pb, 0, none⟩) n cap)) (h1 : i < 0 ∨ (n : Int) ≤ i) :
    Calls Tryz.prog 79 #[.pointer (some ⟨pm, 0, none⟩), .int .i64 i] w fun e w' => e = .returned (.int .i64 1) ∧ w = w' := by
  go_enter Tryz.func79, Tryz.ntmps79
  go_wp2_with ((with_reducible refine (mAt_out _ _ pb n cap i (by assumption) (by assumption)).mono ?_); rintro e w' ⟨rfl, rfl⟩)
  go_ret
  exact ⟨rfl, rfl⟩
/-- Wear. -/
theorem mWear (w : World) (pm pb : Nat) (M : List Sec) (hM : MemAt w pm pb M) (hn : M.length ≤ 4096) (i : Int) :
    Calls Tryz.prog 79 #[.pointer (some ⟨pm, 0, none⟩), .int .i64 i] w fun e w' => e = .returned (.int .i64 (rdE M i)) ∧ MemAt w' pm pb (weM M i) ∧ Fr [pb] w w' := by
  obtain ⟨cap, hc, hcap⟩ := hM.ptr
  by_cases hin : isIn M i
  · obtain ⟨k, rfl⟩ := Int.eq_ofNat_of_zero_le hin.1
    have hlt : k < M.length := by have := hin.2; omega
    have hs : M[k]? = some M[k] := List.getElem?_eq_getElem hlt
    obtain ⟨c0, c1, c2, c3, c4⟩ := hM.arr.sec k _ hs
    have e1 : rdE M (k : Int) = 0 := if_pos hin
    have e2 : weM M (k : Int) = M.set k (Sec.wear M[k]) := (if_pos hin).trans (by rw [Int.toNat_natCast]; exact updS_some _ hs)
    rw [e1, e2]
    refine (mWear_w0 w pm pb M.length cap k _ hc hlt hn c4 (hM.arr.frz _)).mono ?_
    rintro e w' ⟨rfl, rfl⟩
    have hfr : Fr [pb] w (w.setCell ⟨pb, k * 5 + 4, none⟩ (.bool true)) := (Fr.refl _ _).setCell (by simp) _
    refine ⟨rfl, hM.upd hfr ?_ (fun o ho => ?_) (fun o => by simp), hfr⟩
    · refine ⟨?_, ?_, ?_, ?_, ?_⟩ <;> simp [cell_set, Sec.wear, c0, c1, c2, c3, c4]
    · rw [cell_set, if_neg (by omega)]
  · have e1 : rdE M i = 1 := if_neg hin
    have e2 : weM M i = M := if_neg hin
    rw [e1, e2]
    refine (mWear_w1 w pm pb M.length cap i hc (by unfold isIn at hin; omega)).mono ?_
    rintro e w' ⟨rfl, rfl⟩
    exact ⟨rfl, hM, Fr.refl _ _⟩

set_option maxHeartbeats 400000 in
theorem mSettle_w0 (w : World) (pb i : Nat) (f0 n0 b0 : ByteArray) (d0 : Bool)
    (_c0 : w.cell? ⟨pb, i * 5, none⟩ = some (.string n0)) (_c1 : w.cell? ⟨pb, i * 5 + 1, none⟩ = some (.string b0)) (c2 : w.cell? ⟨pb, i * 5 + 2, none⟩ = some (.string f0)) (c3 : w.cell? ⟨pb, i * 5 + 3, none⟩ = some (.bool d0))
    (_g0 : w.frozen? ⟨pb, i * 5, none⟩ = false) (_g1 : w.frozen? ⟨pb, i * 5 + 1, none⟩ = false) (g2 : w.frozen? ⟨pb, i * 5 + 2, none⟩ = false) (g3 : w.frozen? ⟨pb, i * 5 + 3, none⟩ = false) :
    Calls Tryz.prog 92 #[.pointer (some ⟨pb, i * 5, none⟩), .int .i64 0] w fun e w' => e = .returned (.tuple #[]) ∧
      w' = (w.setCell ⟨pb, i * 5 + 2, none⟩ (.string ByteArray.empty)).setCell ⟨pb, i * 5 + 3, none⟩ (.bool false) := by
  go_enter Tryz.func92, Tryz.ntmps92
  go_wp2
  go_end0
  exact ⟨rfl, rfl⟩

set_option maxRecDepth 100000 in
set_option maxHeartbeats 400000 in
theorem mSettle_w1 (w : World) (pb i : Nat) (n : Int) (f0 n0 b0 : ByteArray) (d0 : Bool) (hn : 0 < n) (hf : n ≤ f0.size) (hs : n ≤ n0.size) (hf1 : f0.size ≤ 64) (hs1 : n0.size ≤ 64)
    (c0 : w.cell? ⟨pb, i * 5, none⟩ = some (.string n0)) (c1 : w.cell? ⟨pb, i * 5 + 1, none⟩ = some (.string b0)) (c2 : w.cell? ⟨pb, i * 5 + 2, none⟩ = some (.string f0)) (c3 : w.cell? ⟨pb, i * 5 + 3, none⟩ = some (.bool d0))
    (g0 : w.frozen? ⟨pb, i * 5, none⟩ = false) (g1 : w.frozen? ⟨pb, i * 5 + 1, none⟩ = false) (g2 : w.frozen? ⟨pb, i * 5 + 2, none⟩ = false) (g3 : w.frozen? ⟨pb, i * 5 + 3, none⟩ = false) :
    Calls Tryz.prog 92 #[.pointer (some ⟨pb, i * 5, none⟩), .int .i64 n] w fun e w' => e = .returned (.tuple #[]) ∧
      w' = ((((w.drew.setCell ⟨pb, i * 5, none⟩ (.string (f0.extract 0 n.toNat ++ n0.extract n.toNat n0.size))).setCell ⟨pb, i * 5 + 1, none⟩ (.string n0)).setCell ⟨pb, i * 5 + 2, none⟩ (.string ByteArray.empty)).setCell ⟨pb, i * 5 + 3, none⟩ (.bool false)) := by
  have hc : decide (0 < n) = true := by simpa using hn
  have h0 : 0 ≤ n := by omega
  have hadd : ∀ W : World, (Op.stringOp .add (f0.extract 0 n.toNat) (n0.extract n.toNat n0.size)).run Tryz.prog W = .ok (.string (f0.extract 0 n.toNat ++ n0.extract n.toNat n0.size)) W :=
    fun W => run_string_add_sum W _ _ (by rw [ByteArray.size_extract, ByteArray.size_extract]; omega)
  go_enter Tryz.func92, Tryz.ntmps92
  go_wp2_with fail
  go_region
  all_goals go_wp2
  all_goals go_end0
  exact ⟨rfl, rfl⟩

/-- settle of a sector: sector i of the memory is settled; nothing else turns but what was drawn. -/
theorem mSettle (w : World) (pm pb : Nat) (M : List Sec) (hM : MemAt w pm pb M) (i : Nat) (s : Sec) (hi : M[i]? = some s) (hw : s.WF) (hd : s.dirty = true) (n : Int) (h0 : 0 ≤ n) (h1 : n ≤ 64) :
    Calls Tryz.prog 92 #[.pointer (some ⟨pb, i * 5, none⟩), .int .i64 n] w fun e w' => e = .returned (.tuple #[]) ∧ MemAt w' pm pb (M.set i (s.settle n)) ∧ w.grownBy w' (some pb) ∧ w'.heap.size = w.heap.size := by
  obtain ⟨c0, c1, c2, c3, c4⟩ := hM.arr.sec i s hi
  have hfz := hM.arr.frz
  by_cases hn : 0 < n
  · refine (mSettle_w1 w pb i n s.fresh s.now s.before s.dirty hn (by have := hw.2.2 hd; omega) (by have := hw.1; omega) (by have := hw.2.2 hd; omega) (by have := hw.1; omega) c0 c1 c2 c3 (hfz _) (hfz _) (hfz _) (hfz _)).mono ?_
    rintro e w' ⟨rfl, rfl⟩
    refine ⟨rfl, ?_, ?_, by simp⟩
    · refine hM.upd (((((Fr.refl _ _).drew.setCell (by simp) _).setCell (by simp) _).setCell (by simp) _).setCell (by simp) _) ?_ (fun o ho => ?_) (fun o => by simp)
      · unfold Sec.settle
        rw [if_pos hn]
        refine ⟨?_, ?_, ?_, ?_, ?_⟩ <;> simp [cell_set, c0, c1, c2, c3, c4]
      · rw [cell_set, if_neg (by omega), cell_set, if_neg (by omega), cell_set, if_neg (by omega), cell_set, if_neg (by omega)]; rfl
    · exact ⟨rfl, rfl, rfl, by simp, fun k hk hne => by
        have hne' : k ≠ pb := fun e => hne (by rw [e])
        rw [Below.heap_setCell _ _ _ _ hne', Below.heap_setCell _ _ _ _ hne', Below.heap_setCell _ _ _ _ hne', Below.heap_setCell _ _ _ _ hne']; rfl⟩
  · obtain rfl : n = 0 := by omega
    refine (mSettle_w0 w pb i s.fresh s.now s.before s.dirty c0 c1 c2 c3 (hfz _) (hfz _) (hfz _) (hfz _)).mono ?_
    rintro e w' ⟨rfl, rfl⟩
    refine ⟨rfl, ?_, ?_, by simp⟩
    · refine hM.upd (((Fr.refl _ _).setCell (by simp) _).setCell (by simp) _) ?_ (fun o ho => ?_) (fun o => by simp)
      · unfold Sec.settle
        rw [if_neg (by omega)]
        refine ⟨?_, ?_, ?_, ?_, ?_⟩ <;> simp [cell_set, c0, c1, c2, c3, c4]
      · rw [cell_set, if_neg (by omega), cell_set, if_neg (by omega)]
    · exact ⟨rfl, rfl, rfl, by simp, fun k hk hne => by
        have hne' : k ≠ pb := fun e => hne (by rw [e])
        rw [Below.heap_setCell _ _ _ _ hne', Below.heap_setCell _ _ _ _ hne']⟩

end Go.Proofs.YtogljlloobjeoaaGreat
