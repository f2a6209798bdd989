/- Contracts of the reference of chapter 22: the operations on one sector. -/
import Derived.Test.YtogljlloobjeoaaGreatRefA
namespace Go.Proofs.YtogljlloobjeoaaGreat
open Go.RowKit

set_option maxHeartbeats 400000 in
theorem rIs_in (w : World) (pm pb n cap : Nat) (i : Nat) (hc : w.cell? ⟨pm, 0, none⟩ = some (.slice (some ⟨pb, 0, none⟩) n cap)) (h1 : i < n) :
    Calls Tryz.prog 102 #[.pointer (some ⟨pm, 0, none⟩), .int .i64 i] w fun e w' => e = .returned (.bool true) ∧ w = w' := by
  go_enter Tryz.func102, Tryz.ntmps102
  go_wp2
  go_ret
  exact ⟨by simp, rfl⟩
set_option maxHeartbeats 400000 in
theorem rIs_out (w : World) (pm pb n cap : Nat) (i : Int) (hc : w.cell? ⟨pm, 0, none⟩ = some (.slice (some ⟨pb, 0, none⟩) n cap)) (h1 : i < 0 ∨ (n : Int) ≤ i) :
    Calls Tryz.prog 102 #[.pointer (some ⟨pm, 0, none⟩), .int .i64 i] w fun e w' => e = .returned (.bool false) ∧ w = w' := by
  rcases Int.lt_or_le i 0 with h | h
  · clear h1
    go_enter Tryz.func102, Tryz.ntmps102
    go_wp2
    go_ret
    exact ⟨by simp <;> omega, rfl⟩
  · have h2 : (n : Int) ≤ i := by omega
    clear h1
    go_enter Tryz.func102, Tryz.ntmps102
    go_wp2
    go_ret
    exact ⟨by simp; omega, rfl⟩

set_option maxHeartbeats 400000 in
theorem rWrite_w0 (w : World) (pm pb n cap : Nat) (x : ByteArray) (i : Nat) (f0 : ByteArray) (d0 : Bool) (hc : w.cell? ⟨pm, 0, none⟩ = some (.slice (some ⟨pb, 0, none⟩) n cap)) (h1 : i < n) (_hn : n ≤ 4096) (_hne : pm ≠ pb)
    (c2 : w.cell? ⟨pb, i * 5 + 2, none⟩ = some (.string f0)) (c3 : w.cell? ⟨pb, i * 5 + 3, none⟩ = some (.bool d0)) (c4 : w.cell? ⟨pb, i * 5 + 4, none⟩ = some (.bool false)) (hf2 : w.frozen? ⟨pb, i * 5 + 2, none⟩ = false) (hf3 : w.frozen? ⟨pb, i * 5 + 3, none⟩ = false)
    (hx : ((x.size : Int) != 64) = false) :
    Calls Tryz.prog 83 #[.pointer (some ⟨pm, 0, none⟩), .int .i64 i, .string x] w fun e w' => e = .returned (.int .i64 0) ∧
      w' = (w.setCell ⟨pb, i * 5 + 2, none⟩ (.string x)).setCell ⟨pb, i * 5 + 3, none⟩ (.bool true) := by
  have hc' : (w.setCell ⟨pb, i * 5 + 2, none⟩ (.string x)).cell? ⟨pm, 0, none⟩ = some (.slice (some ⟨pb, 0, none⟩) n cap) := by rw [cell_set, if_neg (by omega), hc]
  go_enter Tryz.func83, Tryz.ntmps83
  go_wp2_with ((with_reducible refine (rIs_in _ _ pb n cap i (by assumption) (by omega)).mono ?_); rintro e w' ⟨rfl, rfl⟩)
  go_ret
  exact ⟨rfl, rfl⟩

set_option maxHeartbeats 400000 in
theorem rWrite_w1 (w : World) (pm pb n cap : Nat) (x : ByteArray) (i : Nat) (hc : w.cell? ⟨pm, 0, none⟩ = some (.slice (some ⟨pb, 0, none⟩) n cap)) (h1 : i < n) (_hn : n ≤ 4096)
    (c4 : w.cell? ⟨pb, i * 5 + 4, none⟩ = some (.bool true)) (hx : ((x.size : Int) != 64) = false) :
    Calls Tryz.prog 83 #[.pointer (some ⟨pm, 0, none⟩), .int .i64 i, .string x] w fun e w' => e = .returned (.int .i64 0) ∧ w = w' := by
  go_enter Tryz.func83, Tryz.ntmps83
  go_wp2_with ((with_reducible refine (rIs_in _ _ pb n cap i (by assumption) (by omega)).mono ?_); rintro e w' ⟨rfl, rfl⟩)
  go_ret
  exact ⟨rfl, rfl⟩

set_option maxHeartbeats 400000 in
theorem rWrite_w2 (w : World) (pm pb n cap : Nat) (x : ByteArray) (i : Nat) (hc : w.cell? ⟨pm, 0, none⟩ = some (.slice (some ⟨pb, 0, none⟩) n cap)) (h1 : i < n) (_hn : n ≤ 4096)
    (hx : ((x.size : Int) != 64) = true) :
    Calls Tryz.prog 83 #[.pointer (some ⟨pm, 0, none⟩), .int .i64 i, .string x] w fun e w' => e = .returned (.int .i64 1) ∧ w = w' := by
  go_enter Tryz.func83, Tryz.ntmps83
  go_wp2_with ((with_reducible refine (rIs_in _ _ pb n cap i (by assumption) (by omega)).mono ?_); rintro e w' ⟨rfl, rfl⟩)
  go_ret
  exact ⟨rfl, rfl⟩

set_option maxHeartbeats 400000 in
theorem rWrite_w3 (w : World) (pm pb n cap : Nat) (x : ByteArray) (i : Int) (hc : w.cell? ⟨pm, 0, none⟩ = some (.slice (some ⟨pb, 0, none⟩) n cap)) (h1 : i < 0 ∨ (n : Int) ≤ i) :
    Calls Tryz.prog 83 #[.pointer (some ⟨pm, 0, none⟩), .int .i64 i, .string x] w fun e w' => e = .returned (.int .i64 1) ∧ w = w' := by
  go_enter Tryz.func83, Tryz.ntmps83
  go_wp2_with ((with_reducible refine (rIs_out _ _ pb n cap i (by assumption) (by assumption)).mono ?_); rintro e w' ⟨rfl, rfl⟩)
  go_ret
  exact ⟨rfl, rfl⟩

set_option maxHeartbeats 400000 in
theorem rRead_w (w : World) (pm pb n cap : Nat) (i : Nat) (f0 n0 : ByteArray) (d0 : Bool) (hc : w.cell? ⟨pm, 0, none⟩ = some (.slice (some ⟨pb, 0, none⟩) n cap)) (h1 : i < n) (_hn : n ≤ 4096)
    (c0 : w.cell? ⟨pb, i * 5, none⟩ = some (.string n0)) (c2 : w.cell? ⟨pb, i * 5 + 2, none⟩ = some (.string f0)) (c3 : w.cell? ⟨pb, i * 5 + 3, none⟩ = some (.bool d0)) :
    Calls Tryz.prog 81 #[.pointer (some ⟨pm, 0, none⟩), .int .i64 i] w fun e w' => e = .returned (.tuple #[.string (if d0 then f0 else n0), .int .i64 0]) ∧ w = w' := by
  cases d0
  all_goals
    go_enter Tryz.func81, Tryz.ntmps81
    go_wp2_with ((with_reducible refine (rIs_in _ _ pb n cap i (by assumption) (by omega)).mono ?_); rintro e w' ⟨rfl, rfl⟩)
    go_ret2
    exact ⟨rfl, rfl⟩
set_option maxHeartbeats 400000 in
theorem rRead_out (w : World) (pm pb n cap : Nat) (i : Int) (hc : w.cell? ⟨pm, 0, none⟩ = some (.slice (some ⟨pb, 0, none⟩) n cap)) (h1 : i < 0 ∨ (n : Int) ≤ i) :
    Calls Tryz.prog 81 #[.pointer (some ⟨pm, 0, none⟩), .int .i64 i] w fun e w' => e = .returned (.tuple #[.string ByteArray.empty, .int .i64 1]) ∧ w = w' := by
  go_enter Tryz.func81, Tryz.ntmps81
  go_wp2_with ((with_reducible refine (rIs_out _ _ pb n cap i (by assumption) (by assumption)).mono ?_); rintro e w' ⟨rfl, rfl⟩)
  go_ret2
  exact ⟨rfl, rfl⟩
set_option maxRecDepth 100000 in
set_option maxHeartbeats 400000 in
theorem rStale_w0 (w : World) (pm pb n cap : Nat) (i : Nat) (b0 n0 : ByteArray) (hc : w.cell? ⟨pm, 0, none⟩ = some (.slice (some ⟨pb, 0, none⟩) n cap)) (h1 : i < n) (_hn : n ≤ 4096)
    (c0 : w.cell? ⟨pb, i * 5, none⟩ = some (.string n0)) (c1 : w.cell? ⟨pb, i * 5 + 1, none⟩ = some (.string b0)) (hf0 : w.frozen? ⟨pb, i * 5, none⟩ = false) :
    Calls Tryz.prog 86 #[.pointer (some ⟨pm, 0, none⟩), .int .i64 i] w fun e w' => e = .returned (.int .i64 0) ∧ w' = (w.setCell ⟨pb, i * 5, none⟩ (.string b0)).drew := by
  have h1i : (i : Int) < (n : Int) := by omega
  go_enter Tryz.func86, Tryz.ntmps86
  go_wp2_with ((with_reducible refine (rIs_in _ _ pb n cap i (by assumption) (by omega)).mono ?_); rintro e w' ⟨rfl, rfl⟩)
  go_region
  all_goals go_wp2
  all_goals go_ret
  all_goals exact ⟨rfl, rfl⟩
set_option maxHeartbeats 400000 in
theorem rStale_w1 (w : World) (pm pb n cap : Nat) (i : Int) (hc : w.cell? ⟨pm, 0, none⟩ = some (.slice (some ⟨pb, 0, none⟩) n cap)) (h1 : i < 0 ∨ (n : Int) ≤ i) :
    Calls Tryz.prog 86 #[.pointer (some ⟨pm, 0, none⟩), .int .i64 i] w fun e w' => e = .returned (.int .i64 1) ∧ w = w' := by
  go_enter Tryz.func86, Tryz.ntmps86
  go_wp2_with ((with_reducible refine (rIs_out _ _ pb n cap i (by assumption) (by assumption)).mono ?_); rintro e w' ⟨rfl, rfl⟩)
  go_ret
  exact ⟨rfl, rfl⟩
set_option maxHeartbeats 400000 in
theorem rWear_w0 (w : World) (pm pb n cap : Nat) (i : Nat) (d0 : Bool) (hc : w.cell? ⟨pm, 0, none⟩ = some (.slice (some ⟨pb, 0, none⟩) n cap)) (h1 : i < n) (_hn : n ≤ 4096)
    (c4 : w.cell? ⟨pb, i * 5 + 4, none⟩ = some (.bool d0)) (hf4 : w.frozen? ⟨pb, i * 5 + 4, none⟩ = false) :
    Calls Tryz.prog 87 #[.pointer (some ⟨pm, 0, none⟩), .int .i64 i] w fun e w' => e = .returned (.int .i64 0) ∧ w' = w.setCell ⟨pb, i * 5 + 4, none⟩ (.bool true) := by
  go_enter Tryz.func87, Tryz.ntmps87
  go_wp2_with ((with_reducible refine (rIs_in _ _ pb n cap i (by assumption) (by omega)).mono ?_); rintro e w' ⟨rfl, rfl⟩)
  go_ret
  exact ⟨rfl, rfl⟩
set_option maxHeartbeats 400000 in
theorem rWear_w1 (w : World) (pm pb n cap : Nat) (i : Int) (hc : w.cell? ⟨pm, 0, none⟩ = some (.slice (some ⟨pb, 0, none⟩) n cap)) (h1 : i < 0 ∨ (n : Int) ≤ i) :
    Calls Tryz.prog 87 #[.pointer (some ⟨pm, 0, none⟩), .int .i64 i] w fun e w' => e = .returned (.int .i64 1) ∧ w = w' := by
  go_enter Tryz.func87, Tryz.ntmps87
  go_wp2_with ((with_reducible refine (rIs_out _ _ pb n cap i (by assumption) (by assumption)).mono ?_); rintro e w' ⟨rfl, rfl⟩)
  go_ret
  exact ⟨rfl, rfl⟩

/-- Write. -/
theorem rWrite (w : World) (pm pb : Nat) (M : List Sec) (hM : MemAt w pm pb M) (hn : M.length ≤ 4096) (i : Int) (x : ByteArray) :
    Calls Tryz.prog 83 #[.pointer (some ⟨pm, 0, none⟩), .int .i64 i, .string x] w fun e w' => e = .returned (.int .i64 (wrE M i x)) ∧ MemAt w' pm pb (wrM M i x) ∧ Fr [pb] w w' := by
  obtain ⟨cap, hc, hcap⟩ := hM.ptr
  by_cases hin : isIn M i
  · obtain ⟨k, rfl⟩ := Int.eq_ofNat_of_zero_le hin.1
    have hlt : k < M.length := by have := hin.2; omega
    have hs : M[k]? = some M[k] := List.getElem?_eq_getElem hlt
    have hsa := hM.arr.sec k _ hs
    obtain ⟨c0, c1, c2, c3, c4⟩ := hsa
    by_cases hx : x.size = 64
    · have hxe : ((x.size : Int) != 64) = false := by simp [hx]
      have e1 : wrE M (k : Int) x = 0 := if_pos ⟨hin, hx⟩
      have e2 : wrM M (k : Int) x = M.set k (Sec.put x M[k]) := (if_pos ⟨hin, hx⟩).trans (by rw [Int.toNat_natCast]; exact updS_some _ hs)
      rw [e1, e2]
      cases hw : (M[k]).worn
      · refine (rWrite_w0 w pm pb M.length cap x k _ _ hc hlt hn hM.ne c2 c3 (by rw [c4, hw]) (hM.arr.frz _) (hM.arr.frz _) hxe).mono ?_
        rintro e w' ⟨rfl, rfl⟩
        have hfr : Fr [pb] w ((w.setCell ⟨pb, k * 5 + 2, none⟩ (.string x)).setCell ⟨pb, k * 5 + 3, none⟩ (.bool true)) := ((Fr.refl _ _).setCell (by simp) _).setCell (by simp) _
        refine ⟨rfl, hM.upd hfr ?_ (fun o ho => ?_) (fun o => by simp), hfr⟩
        · have e3 : Sec.put x M[k] = { M[k] with fresh := x, dirty := true } := by simp [Sec.put, hw]
          rw [e3]
          refine ⟨?_, ?_, ?_, ?_, ?_⟩ <;> simp [cell_set, c0, c1, c2, c3, c4]
        · rw [cell_set, if_neg (by omega), cell_set, if_neg (by omega)]
      · refine (rWrite_w1 w pm pb M.length cap x k hc hlt hn (by rw [c4, hw]) hxe).mono ?_
        rintro e w' ⟨rfl, rfl⟩
        have e3 : Sec.put x M[k] = M[k] := by simp [Sec.put, hw]
        rw [e3, List.set_getElem_self]
        exact ⟨rfl, hM, Fr.refl _ _⟩
    · have hxe : ((x.size : Int) != 64) = true := by simp; omega
      have e1 : wrE M (k : Int) x = 1 := if_neg (fun h => hx h.2)
      have e2 : wrM M (k : Int) x = M := if_neg (fun h => hx h.2)
      rw [e1, e2]
      refine (rWrite_w2 w pm pb M.length cap x k hc hlt hn hxe).mono ?_
      rintro e w' ⟨rfl, rfl⟩
      exact ⟨rfl, hM, Fr.refl _ _⟩
  · have e1 : wrE M i x = 1 := if_neg (fun h => hin h.1)
    have e2 : wrM M i x = M := if_neg (fun h => hin h.1)
    rw [e1, e2]
    refine (rWrite_w3 w pm pb M.length cap x i hc (by unfold isIn at hin; omega)).mono ?_
    rintro e w' ⟨rfl, rfl⟩
    exact ⟨rfl, hM, Fr.refl _ _⟩

/-- Read. -/
theorem rRead (w : World) (pm pb : Nat) (M : List Sec) (hM : MemAt w pm pb M) (hn : M.length ≤ 4096) (i : Int) :
    Calls Tryz.prog 81 #[.pointer (some ⟨pm, 0, none⟩), .int .i64 i] w fun e w' => e = .returned (.tuple #[.string (rdT M i), .int .i64 (rdE M i)]) ∧ w = w' := by
  obtain ⟨cap, hc, hcap⟩ := hM.ptr
  by_cases hin : isIn M i
  · obtain ⟨k, rfl⟩ := Int.eq_ofNat_of_zero_le hin.1
    have hlt : k < M.length := by have := hin.2; omega
    have hs : M[k]? = some M[k] := List.getElem?_eq_getElem hlt
    obtain ⟨c0, c1, c2, c3, c4⟩ := hM.arr.sec k _ hs
    have e1 : rdE M (k : Int) = 0 := if_pos hin
    have e2 : rdT M (k : Int) = if (M[k]).dirty then (M[k]).fresh else (M[k]).now := (if_pos hin).trans (by rw [Int.toNat_natCast, hs]; rfl)
    rw [e1, e2]
    exact rRead_w w pm pb M.length cap k _ _ _ hc hlt hn c0 c2 c3
  · have e1 : rdE M i = 1 := if_neg hin
    have e2 : rdT M i = ByteArray.empty := if_neg hin
    rw [e1, e2]
    exact rRead_out w pm pb M.length cap i hc (by unfold isIn at hin; omega)

/-- Stale. -/
theorem rStale (w : World) (pm pb : Nat) (M : List Sec) (hM : MemAt w pm pb M) (hn : M.length ≤ 4096) (i : Int) :
    Calls Tryz.prog 86 #[.pointer (some ⟨pm, 0, none⟩), .int .i64 i] w fun e w' => e = .returned (.int .i64 (rdE M i)) ∧ MemAt w' pm pb (stM M i) ∧ Fr [pb] w w' := by
  obtain ⟨cap, hc, hcap⟩ := hM.ptr
  by_cases hin : isIn M i
  · obtain ⟨k, rfl⟩ := Int.eq_ofNat_of_zero_le hin.1
    have hlt : k < M.length := by have := hin.2; omega
    have hs : M[k]? = some M[k] := List.getElem?_eq_getElem hlt
    obtain ⟨c0, c1, c2, c3, c4⟩ := hM.arr.sec k _ hs
    have e1 : rdE M (k : Int) = 0 := if_pos hin
    have e2 : stM M (k : Int) = M.set k (Sec.back M[k]) := (if_pos hin).trans (by rw [Int.toNat_natCast]; exact updS_some _ hs)
    rw [e1, e2]
    refine (rStale_w0 w pm pb M.length cap k _ _ hc hlt hn c0 c1 (hM.arr.frz _)).mono ?_
    rintro e w' ⟨rfl, rfl⟩
    have hfr : Fr [pb] w (w.setCell ⟨pb, k * 5, none⟩ (.string (M[k]).before)).drew := ((Fr.refl _ _).setCell (by simp) _).drew
    refine ⟨rfl, hM.upd hfr ?_ (fun o ho => ?_) (fun o => by simp), hfr⟩
    · refine ⟨?_, ?_, ?_, ?_, ?_⟩ <;> simp [cell_set, Sec.back, c0, c1, c2, c3, c4]
    · rw [World.cell?_drew, cell_set, if_neg (by omega)]
  · have e1 : rdE M i = 1 := if_neg hin
    have e2 : stM M i = M := if_neg hin
    rw [e1, e2]
    refine (rStale_w1 w pm pb M.length cap i hc (by unfold isIn at hin; omega)).mono ?_
    rintro e w' ⟨rfl, rfl⟩
    exact ⟨rfl, hM, Fr.refl _ _⟩

/-- Wear. -/
theorem rWear (w : World) (pm pb : Nat) (M : List Sec) (hM : MemAt w pm pb M) (hn : M.length ≤ 4096) (i : Int) :
    Calls Tryz.prog 87 #[.pointer (some ⟨pm, 0, none⟩), .int .i64 i] w fun e w' => e = .returned (.int .i64 (rdE M i)) ∧ MemAt w' pm pb (weM M i) ∧ Fr [pb] w w' := by
  obtain ⟨cap, hc, hcap⟩ := hM.ptr
  by_cases hin : isIn M i
  · obtain ⟨k, rfl⟩ := Int.eq_ofNat_of_zero_le hin.1
    have hlt : k < M.length := by have := hin.2; omega
    have hs : M[k]? = some M[k] := List.getElem?_eq_getElem hlt
    obtain ⟨c0, c1, c2, c3, c4⟩ := hM.arr.sec k _ hs
    have e1 : rdE M (k : Int) = 0 := if_pos hin
    have e2 : weM M (k : Int) = M.set k (Sec.wear M[k]) := (if_pos hin).trans (by rw [Int.toNat_natCast]; exact updS_some _ hs)
    rw [e1, e2]
    refine (rWear_w0 w pm pb M.length cap k _ hc hlt hn c4 (hM.arr.frz _)).mono ?_
    rintro e w' ⟨rfl, rfl⟩
    have hfr : Fr [pb] w (w.setCell ⟨pb, k * 5 + 4, none⟩ (.bool true)) := (Fr.refl _ _).setCell (by simp) _
    refine ⟨rfl, hM.upd hfr ?_ (fun o ho => ?_) (fun o => by simp), hfr⟩
    · refine ⟨?_, ?_, ?_, ?_, ?_⟩ <;> simp [cell_set, Sec.wear, c0, c1, c2, c3, c4]
    · rw [cell_set, if_neg (by omega)]
  · have e1 : rdE M i = 1 := if_neg hin
    have e2 : weM M i = M := if_neg hin
    rw [e1, e2]
    refine (rWear_w1 w pm pb M.length cap i hc (by unfold isIn at hin; omega)).mono ?_
    rintro e w' ⟨rfl, rfl⟩
    exact ⟨rfl, hM, Fr.refl _ _⟩

end Go.Proofs.YtogljlloobjeoaaGreat
