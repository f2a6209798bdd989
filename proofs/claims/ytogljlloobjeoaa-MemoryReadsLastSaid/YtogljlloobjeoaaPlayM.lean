/- The play of one operation of chapter 22. -/
import Derived.Test.YtogljlloobjeoaaRep
import Derived.Test.YtogljlloobjeoaaRefD
import Derived.Test.YtogljlloobjeoaaMemD
import Derived.Test.YtogljlloobjeoaaLoad
import Derived.Test.YtogljlloobjeoaaText
import Derived.Test.YtogljlloobjeoaaImg
import Derived.Deep.RegionHeld3
import Derived.Test.YtogljlloobjeoaaApp
namespace Go.Proofs.Ytogljlloobjeoaa
open Go.RowKit

/-- An operation of a script. -/
structure OpT where
  kd : Int
  i : Int
  f : UInt8
  sz : Int
  pk : List Int
theorem below_of_drew {B : Nat} {a b : World} (h : Below B a.drew b) : Below B a b := ⟨h.os, h.tape, h.output, h.size, h.block⟩

set_option maxRecDepth 100000 in
set_option maxHeartbeats 1600000 in
theorem mPlay1 (w : World) (p pm pb : Nat) (M : List Sec) (hM : MemAt w pm pb M) (hn : M.length ≤ 4096) (hp : w.cell? ⟨p, 0, none⟩ = some (.pointer (some ⟨pm, 0, none⟩))) (hpb : p ≠ pb) (i : Int) (f : UInt8) (sz : Int) (pk : Value) :
    Calls Try.prog 22 #[.pointer (some ⟨p, 0, none⟩), .agg #[.int .i64 1, .int .i64 i, .int .u8 f.toNat, .int .i64 sz, pk]] w fun e w' => e = .returned (.int .i64 (wrE M i (text22 f sz))) ∧ MemAt w' pm pb (wrM M i (text22 f sz)) ∧ Fr [pb] w w' := by
  have hpl := World.block_lt_of_cell? _ _ hp
  have hbl := hM.arr.lt
  go_enter Try.func22, Try.ntmps22
  go_wp2_with fail
  generalize hW : w.alloc (.cells #[.int .i64 1, .int .i64 i, .int .u8 f.toNat, .int .i64 sz, pk] 37) = W0
  have c1 : W0.cell? ⟨w.heap.size, 0, none⟩ = some (.int .i64 1) := by rw [← hW]; simp
  have c2 : W0.cell? ⟨w.heap.size, 1, none⟩ = some (.int .i64 i) := by rw [← hW]; simp
  have c3 : W0.cell? ⟨w.heap.size, 2, none⟩ = some (.int .u8 f.toNat) := by rw [← hW]; simp
  have c4 : W0.cell? ⟨w.heap.size, 3, none⟩ = some (.int .i64 sz) := by rw [← hW]; simp
  have c5 : W0.cell? ⟨w.heap.size, 4, none⟩ = some pk := by rw [← hW]; simp
  have hfr : Fr [] w W0 := by rw [← hW]; exact (Fr.refl _ _).alloc _
  have hp0 := (hfr.cell (p := ⟨p, 0, none⟩) hpl (by simp)).trans hp
  have hM0 := hM.fr hfr (by simp) (by simp)
  have hz0 : W0.heap.size = w.heap.size + 1 := by rw [← hW]; simp
  clear hW hp
  have hS : ∀ W, Fr [pb] W0 W → W.cell? ⟨p, 0, none⟩ = some (.pointer (some ⟨pm, 0, none⟩)) ∧ W.cell? ⟨w.heap.size, 0, none⟩ = some (.int .i64 1) ∧ W.cell? ⟨w.heap.size, 1, none⟩ = some (.int .i64 i) ∧ W.cell? ⟨w.heap.size, 2, none⟩ = some (.int .u8 f.toNat) ∧ W.cell? ⟨w.heap.size, 3, none⟩ = some (.int .i64 sz) ∧ W.cell? ⟨w.heap.size, 4, none⟩ = some pk := fun W hW => by
    have hb : w.heap.size ∉ [pb] := by simp; omega
    refine ⟨(hW.cell ?_ ?_).trans hp0, (hW.cell ?_ hb).trans c1, (hW.cell ?_ hb).trans c2, (hW.cell ?_ hb).trans c3, (hW.cell ?_ hb).trans c4, (hW.cell ?_ hb).trans c5⟩ <;> first | (simp only [hz0]; omega) | simpa using hpb
  have hS' := Lib.hid hS
  clear hS
  go_region_held3 (fun w' => w'.cell? ⟨p, 0, none⟩ = some (.pointer (some ⟨pm, 0, none⟩)) ∧ w'.cell? ⟨w.heap.size, 0, none⟩ = some (.int .i64 1) ∧ w'.cell? ⟨w.heap.size, 1, none⟩ = some (.int .i64 i) ∧ w'.cell? ⟨w.heap.size, 2, none⟩ = some (.int .u8 f.toNat) ∧ w'.cell? ⟨w.heap.size, 3, none⟩ = some (.int .i64 sz) ∧ w'.cell? ⟨w.heap.size, 4, none⟩ = some pk) (exact hS'.out _ (by first | assumption | exact (Fr.refl _ _).drew)) (first | (go_at_call 25; refine (rText _ _ _ _ _ _).mono ?_; rintro e w2 ⟨rfl, hB2⟩; have hfr2 : Fr [pb] W0 w2 := (Fr.refl _ _).drew.trans (Fr.of_below hB2)) | (go_at_call 69; refine (mWrite _ _ _ _ (hM0.fr (S := []) (Fr.of_below (below_of_drew hB2)) (by simp) (by simp)) hn _ _).mono ?_; rintro e w3 ⟨rfl, hM3, hfr4⟩; have hfr3 := hfr2.trans hfr4))
  all_goals
    go_wp2
    go_ret
    exact ⟨rfl, hM3, (hfr.weaken (by simp)).trans hfr3⟩

set_option maxRecDepth 100000 in
set_option maxHeartbeats 1600000 in
theorem mPlay2 (w : World) (p pm pb : Nat) (M : List Sec) (hM : MemAt w pm pb M) (hn : M.length ≤ 4096) (hp : w.cell? ⟨p, 0, none⟩ = some (.pointer (some ⟨pm, 0, none⟩))) (_hpb : p ≠ pb) (i : Int) (f : UInt8) (sz : Int) (pk : Value) (hwf : WFM M) :
    Calls Try.prog 22 #[.pointer (some ⟨p, 0, none⟩), .agg #[.int .i64 2, .int .i64 i, .int .u8 f.toNat, .int .i64 sz, pk]] w fun e w' => e = .returned (.int .i64 (0)) ∧ MemAt w' pm pb (flM M) ∧ Fr [pb] w w' := by
  have hpl := World.block_lt_of_cell? _ _ hp
  have hbl := hM.arr.lt
  go_enter Try.func22, Try.ntmps22
  go_wp2_with fail
  generalize hW : w.alloc (.cells #[.int .i64 2, .int .i64 i, .int .u8 f.toNat, .int .i64 sz, pk] 37) = W0
  have c1 : W0.cell? ⟨w.heap.size, 0, none⟩ = some (.int .i64 2) := by rw [← hW]; simp
  have c2 : W0.cell? ⟨w.heap.size, 1, none⟩ = some (.int .i64 i) := by rw [← hW]; simp
  have c3 : W0.cell? ⟨w.heap.size, 2, none⟩ = some (.int .u8 f.toNat) := by rw [← hW]; simp
  have c4 : W0.cell? ⟨w.heap.size, 3, none⟩ = some (.int .i64 sz) := by rw [← hW]; simp
  have c5 : W0.cell? ⟨w.heap.size, 4, none⟩ = some pk := by rw [← hW]; simp
  have hfr : Fr [] w W0 := by rw [← hW]; exact (Fr.refl _ _).alloc _
  have hp0 := (hfr.cell (p := ⟨p, 0, none⟩) hpl (by simp)).trans hp
  have hM0 := hM.fr hfr (by simp) (by simp)
  have hz0 : W0.heap.size = w.heap.size + 1 := by rw [← hW]; simp
  clear hW hp
  go_at_call 29
  refine (mFlush _ _ _ _ hM0 hn hwf).mono ?_
  rintro e w3 ⟨rfl, hM3, hfr3⟩
  all_goals
    go_wp2
    go_ret
    exact ⟨rfl, hM3, (hfr.weaken (by simp)).trans hfr3⟩

set_option maxRecDepth 100000 in
set_option maxHeartbeats 1600000 in
theorem mPlay3 (w : World) (p pm pb : Nat) (M : List Sec) (hM : MemAt w pm pb M) (hn : M.length ≤ 4096) (hp : w.cell? ⟨p, 0, none⟩ = some (.pointer (some ⟨pm, 0, none⟩))) (hpb : p ≠ pb) (i : Int) (f : UInt8) (sz : Int) (pk : Value) (hwf : WFM M) (ps : List Int) (ok : Nat → Prop) (hps : SlAt w ok pk (ints ps)) (hlen : ps.length ≤ maxLen) (hok : ∀ b, ok b → b ≠ pb ∧ b < w.heap.size) :
    Calls Try.prog 22 #[.pointer (some ⟨p, 0, none⟩), .agg #[.int .i64 3, .int .i64 i, .int .u8 f.toNat, .int .i64 sz, pk]] w fun e w' => e = .returned (.int .i64 (0)) ∧ MemAt w' pm pb (cutM M ps) ∧ Fr [pb] w w' := by
  have hpl := World.block_lt_of_cell? _ _ hp
  have hbl := hM.arr.lt
  go_enter Try.func22, Try.ntmps22
  go_wp2_with fail
  generalize hW : w.alloc (.cells #[.int .i64 3, .int .i64 i, .int .u8 f.toNat, .int .i64 sz, pk] 37) = W0
  have c1 : W0.cell? ⟨w.heap.size, 0, none⟩ = some (.int .i64 3) := by rw [← hW]; simp
  have c2 : W0.cell? ⟨w.heap.size, 1, none⟩ = some (.int .i64 i) := by rw [← hW]; simp
  have c3 : W0.cell? ⟨w.heap.size, 2, none⟩ = some (.int .u8 f.toNat) := by rw [← hW]; simp
  have c4 : W0.cell? ⟨w.heap.size, 3, none⟩ = some (.int .i64 sz) := by rw [← hW]; simp
  have c5 : W0.cell? ⟨w.heap.size, 4, none⟩ = some pk := by rw [← hW]; simp
  have hfr : Fr [] w W0 := by rw [← hW]; exact (Fr.refl _ _).alloc _
  have hp0 := (hfr.cell (p := ⟨p, 0, none⟩) hpl (by simp)).trans hp
  have hM0 := hM.fr hfr (by simp) (by simp)
  have hz0 : W0.heap.size = w.heap.size + 1 := by rw [← hW]; simp
  clear hW hp
  have hS : ∀ W, Fr [pb] W0 W → W.cell? ⟨p, 0, none⟩ = some (.pointer (some ⟨pm, 0, none⟩)) ∧ W.cell? ⟨w.heap.size, 0, none⟩ = some (.int .i64 3) ∧ W.cell? ⟨w.heap.size, 1, none⟩ = some (.int .i64 i) ∧ W.cell? ⟨w.heap.size, 2, none⟩ = some (.int .u8 f.toNat) ∧ W.cell? ⟨w.heap.size, 3, none⟩ = some (.int .i64 sz) ∧ W.cell? ⟨w.heap.size, 4, none⟩ = some pk := fun W hW => by
    have hb : w.heap.size ∉ [pb] := by simp; omega
    refine ⟨(hW.cell ?_ ?_).trans hp0, (hW.cell ?_ hb).trans c1, (hW.cell ?_ hb).trans c2, (hW.cell ?_ hb).trans c3, (hW.cell ?_ hb).trans c4, (hW.cell ?_ hb).trans c5⟩ <;> first | (simp only [hz0]; omega) | simpa using hpb
  have hS' := Lib.hid hS
  clear hS
  have hps0 := Lib.hid (hps.fr hfr (by simp))
  have hok0 : Hid (∀ b, ok b → b ≠ pb ∧ b < W0.drew.heap.size) := fun b hb => ⟨(hok b hb).1, by show b < W0.heap.size; have := (hok b hb).2; omega⟩
  go_region_held3 (fun w' => w'.cell? ⟨p, 0, none⟩ = some (.pointer (some ⟨pm, 0, none⟩)) ∧ w'.cell? ⟨w.heap.size, 0, none⟩ = some (.int .i64 3) ∧ w'.cell? ⟨w.heap.size, 1, none⟩ = some (.int .i64 i) ∧ w'.cell? ⟨w.heap.size, 2, none⟩ = some (.int .u8 f.toNat) ∧ w'.cell? ⟨w.heap.size, 3, none⟩ = some (.int .i64 sz) ∧ w'.cell? ⟨w.heap.size, 4, none⟩ = some pk) (exact hS'.out _ (by first | assumption | exact (Fr.refl _ _).drew)) (first | (go_at_call 30; refine (mCut _ _ _ _ (hM0.fr (S := []) (Fr.refl _ _).drew (by simp) (by simp)) hn hwf _ _ ok (hps0.out.fr (S := []) (Fr.refl _ _).drew (by simp)) hlen hok0.out).mono ?_; rintro e w3 ⟨rfl, hM3, hfr4⟩; have hfr3 : Fr [pb] W0 w3 := (Fr.refl _ _).drew.trans hfr4))
  all_goals
    go_wp2
    go_ret
    exact ⟨rfl, hM3, (hfr.weaken (by simp)).trans hfr3⟩

set_option maxRecDepth 100000 in
set_option maxHeartbeats 1600000 in
theorem mPlay4 (w : World) (p pm pb : Nat) (M : List Sec) (hM : MemAt w pm pb M) (hn : M.length ≤ 4096) (hp : w.cell? ⟨p, 0, none⟩ = some (.pointer (some ⟨pm, 0, none⟩))) (hpb : p ≠ pb) (i : Int) (f : UInt8) (sz : Int) (pk : Value) :
    Calls Try.prog 22 #[.pointer (some ⟨p, 0, none⟩), .agg #[.int .i64 4, .int .i64 i, .int .u8 f.toNat, .int .i64 sz, pk]] w fun e w' => e = .returned (.int .i64 (rdE M i)) ∧ MemAt w' pm pb (stM M i) ∧ Fr [pb] w w' := by
  have hpl := World.block_lt_of_cell? _ _ hp
  have hbl := hM.arr.lt
  go_enter Try.func22, Try.ntmps22
  go_wp2_with fail
  generalize hW : w.alloc (.cells #[.int .i64 4, .int .i64 i, .int .u8 f.toNat, .int .i64 sz, pk] 37) = W0
  have c1 : W0.cell? ⟨w.heap.size, 0, none⟩ = some (.int .i64 4) := by rw [← hW]; simp
  have c2 : W0.cell? ⟨w.heap.size, 1, none⟩ = some (.int .i64 i) := by rw [← hW]; simp
  have c3 : W0.cell? ⟨w.heap.size, 2, none⟩ = some (.int .u8 f.toNat) := by rw [← hW]; simp
  have c4 : W0.cell? ⟨w.heap.size, 3, none⟩ = some (.int .i64 sz) := by rw [← hW]; simp
  have c5 : W0.cell? ⟨w.heap.size, 4, none⟩ = some pk := by rw [← hW]; simp
  have hfr : Fr [] w W0 := by rw [← hW]; exact (Fr.refl _ _).alloc _
  have hp0 := (hfr.cell (p := ⟨p, 0, none⟩) hpl (by simp)).trans hp
  have hM0 := hM.fr hfr (by simp) (by simp)
  have hz0 : W0.heap.size = w.heap.size + 1 := by rw [← hW]; simp
  clear hW hp
  have hS : ∀ W, Fr [pb] W0 W → W.cell? ⟨p, 0, none⟩ = some (.pointer (some ⟨pm, 0, none⟩)) ∧ W.cell? ⟨w.heap.size, 0, none⟩ = some (.int .i64 4) ∧ W.cell? ⟨w.heap.size, 1, none⟩ = some (.int .i64 i) ∧ W.cell? ⟨w.heap.size, 2, none⟩ = some (.int .u8 f.toNat) ∧ W.cell? ⟨w.heap.size, 3, none⟩ = some (.int .i64 sz) ∧ W.cell? ⟨w.heap.size, 4, none⟩ = some pk := fun W hW => by
    have hb : w.heap.size ∉ [pb] := by simp; omega
    refine ⟨(hW.cell ?_ ?_).trans hp0, (hW.cell ?_ hb).trans c1, (hW.cell ?_ hb).trans c2, (hW.cell ?_ hb).trans c3, (hW.cell ?_ hb).trans c4, (hW.cell ?_ hb).trans c5⟩ <;> first | (simp only [hz0]; omega) | simpa using hpb
  have hS' := Lib.hid hS
  clear hS
  go_region_held3 (fun w' => w'.cell? ⟨p, 0, none⟩ = some (.pointer (some ⟨pm, 0, none⟩)) ∧ w'.cell? ⟨w.heap.size, 0, none⟩ = some (.int .i64 4) ∧ w'.cell? ⟨w.heap.size, 1, none⟩ = some (.int .i64 i) ∧ w'.cell? ⟨w.heap.size, 2, none⟩ = some (.int .u8 f.toNat) ∧ w'.cell? ⟨w.heap.size, 3, none⟩ = some (.int .i64 sz) ∧ w'.cell? ⟨w.heap.size, 4, none⟩ = some pk) (exact hS'.out _ (by first | assumption | exact (Fr.refl _ _).drew)) (first | (go_at_call 52; refine (mStale _ _ _ _ (hM0.fr (S := []) (Fr.refl _ _).drew (by simp) (by simp)) hn _).mono ?_; rintro e w3 ⟨rfl, hM3, hfr4⟩; have hfr3 : Fr [pb] W0 w3 := (Fr.refl _ _).drew.trans hfr4))
  all_goals
    go_wp2
    go_ret
    exact ⟨rfl, hM3, (hfr.weaken (by simp)).trans hfr3⟩

set_option maxRecDepth 100000 in
set_option maxHeartbeats 1600000 in
theorem mPlay5 (w : World) (p pm pb : Nat) (M : List Sec) (hM : MemAt w pm pb M) (hn : M.length ≤ 4096) (hp : w.cell? ⟨p, 0, none⟩ = some (.pointer (some ⟨pm, 0, none⟩))) (hpb : p ≠ pb) (i : Int) (f : UInt8) (sz : Int) (pk : Value) :
    Calls Try.prog 22 #[.pointer (some ⟨p, 0, none⟩), .agg #[.int .i64 5, .int .i64 i, .int .u8 f.toNat, .int .i64 sz, pk]] w fun e w' => e = .returned (.int .i64 (rdE M i)) ∧ MemAt w' pm pb (weM M i) ∧ Fr [pb] w w' := by
  have hpl := World.block_lt_of_cell? _ _ hp
  have hbl := hM.arr.lt
  go_enter Try.func22, Try.ntmps22
  go_wp2_with fail
  generalize hW : w.alloc (.cells #[.int .i64 5, .int .i64 i, .int .u8 f.toNat, .int .i64 sz, pk] 37) = W0
  have c1 : W0.cell? ⟨w.heap.size, 0, none⟩ = some (.int .i64 5) := by rw [← hW]; simp
  have c2 : W0.cell? ⟨w.heap.size, 1, none⟩ = some (.int .i64 i) := by rw [← hW]; simp
  have c3 : W0.cell? ⟨w.heap.size, 2, none⟩ = some (.int .u8 f.toNat) := by rw [← hW]; simp
  have c4 : W0.cell? ⟨w.heap.size, 3, none⟩ = some (.int .i64 sz) := by rw [← hW]; simp
  have c5 : W0.cell? ⟨w.heap.size, 4, none⟩ = some pk := by rw [← hW]; simp
  have hfr : Fr [] w W0 := by rw [← hW]; exact (Fr.refl _ _).alloc _
  have hp0 := (hfr.cell (p := ⟨p, 0, none⟩) hpl (by simp)).trans hp
  have hM0 := hM.fr hfr (by simp) (by simp)
  have hz0 : W0.heap.size = w.heap.size + 1 := by rw [← hW]; simp
  clear hW hp
  have hS : ∀ W, Fr [pb] W0 W → W.cell? ⟨p, 0, none⟩ = some (.pointer (some ⟨pm, 0, none⟩)) ∧ W.cell? ⟨w.heap.size, 0, none⟩ = some (.int .i64 5) ∧ W.cell? ⟨w.heap.size, 1, none⟩ = some (.int .i64 i) ∧ W.cell? ⟨w.heap.size, 2, none⟩ = some (.int .u8 f.toNat) ∧ W.cell? ⟨w.heap.size, 3, none⟩ = some (.int .i64 sz) ∧ W.cell? ⟨w.heap.size, 4, none⟩ = some pk := fun W hW => by
    have hb : w.heap.size ∉ [pb] := by simp; omega
    refine ⟨(hW.cell ?_ ?_).trans hp0, (hW.cell ?_ hb).trans c1, (hW.cell ?_ hb).trans c2, (hW.cell ?_ hb).trans c3, (hW.cell ?_ hb).trans c4, (hW.cell ?_ hb).trans c5⟩ <;> first | (simp only [hz0]; omega) | simpa using hpb
  have hS' := Lib.hid hS
  clear hS
  go_region_held3 (fun w' => w'.cell? ⟨p, 0, none⟩ = some (.pointer (some ⟨pm, 0, none⟩)) ∧ w'.cell? ⟨w.heap.size, 0, none⟩ = some (.int .i64 5) ∧ w'.cell? ⟨w.heap.size, 1, none⟩ = some (.int .i64 i) ∧ w'.cell? ⟨w.heap.size, 2, none⟩ = some (.int .u8 f.toNat) ∧ w'.cell? ⟨w.heap.size, 3, none⟩ = some (.int .i64 sz) ∧ w'.cell? ⟨w.heap.size, 4, none⟩ = some pk) (exact hS'.out _ (by first | assumption | exact (Fr.refl _ _).drew)) (first | (go_at_call 33; refine (mWear _ _ _ _ (hM0.fr (S := []) (Fr.refl _ _).drew (by simp) (by simp)) hn _).mono ?_; rintro e w3 ⟨rfl, hM3, hfr4⟩; have hfr3 : Fr [pb] W0 w3 := (Fr.refl _ _).drew.trans hfr4))
  all_goals
    go_wp2
    go_ret
    exact ⟨rfl, hM3, (hfr.weaken (by simp)).trans hfr3⟩

set_option maxRecDepth 100000 in
set_option maxHeartbeats 1600000 in
theorem mPlay0 (w : World) (p pm pb : Nat) (M : List Sec) (hM : MemAt w pm pb M) (_hn : M.length ≤ 4096) (_hp : w.cell? ⟨p, 0, none⟩ = some (.pointer (some ⟨pm, 0, none⟩))) (_hpb : p ≠ pb) (i : Int) (f : UInt8) (sz : Int) (pk : Value) (kd : Int) (hkd : kd < 1 ∨ 7 < kd) :
    Calls Try.prog 22 #[.pointer (some ⟨p, 0, none⟩), .agg #[.int .i64 kd, .int .i64 i, .int .u8 f.toNat, .int .i64 sz, pk]] w fun e w' => e = .returned (.int .i64 (0)) ∧ MemAt w' pm pb (M) ∧ Fr [pb] w w' := by
  rcases hkd with hkd | hkd
  all_goals
    go_enter Try.func22, Try.ntmps22
    go_wp2
    go_ret
    exact ⟨rfl, hM.fr (S := []) ((Fr.refl _ _).alloc _) (by simp) (by simp), (Fr.refl _ _).alloc _⟩

-- SIX
set_option maxRecDepth 100000 in
set_option maxHeartbeats 1600000 in
theorem mPlay6_in (w : World) (p pm pb : Nat) (M : List Sec) (hM : MemAt w pm pb M) (hn : M.length ≤ 4096) (hp : w.cell? ⟨p, 0, none⟩ = some (.pointer (some ⟨pm, 0, none⟩))) (hpb : p ≠ pb) (k : Nat) (f : UInt8) (sz : Int) (pk : Value) (g n cap : Nat) (hpi : w.cell? ⟨p, 1, none⟩ = some (.slice (some ⟨g, 0, none⟩) n cap)) (_hcap : n ≤ cap) (hk : k < n) (_hn2 : n ≤ 4096) (u : Value) (hu : w.cell? ⟨g, k, none⟩ = some u) (hg : g ≠ pb) (l : List ByteArray) (ok : Nat → Prop) (hl : SlAt w ok u (strs l)) (hok : ∀ b, ok b → b ≠ pb) (hll : l.length ≤ 4611686018427387904) :
    Calls Try.prog 22 #[.pointer (some ⟨p, 0, none⟩), .agg #[.int .i64 6, .int .i64 (k : Int), .int .u8 f.toNat, .int .i64 sz, pk]] w fun e w' => e = .returned (.int .i64 (ldE M l)) ∧ MemAt w' pm pb (ldM M l) ∧ Fr [pb] w w' := by
  have hpl := World.block_lt_of_cell? _ _ hp
  have hbl := hM.arr.lt
  have hgl := World.block_lt_of_cell? _ _ hu
  have hki : (k : Int) < (n : Int) := by omega
  have hk0 : (0 : Int) ≤ (k : Int) := by omega
  go_enter Try.func22, Try.ntmps22
  go_wp2_with fail
  generalize hW : w.alloc (.cells #[.int .i64 6, .int .i64 (k : Int), .int .u8 f.toNat, .int .i64 sz, pk] 37) = W0
  have c2 : W0.cell? ⟨w.heap.size, 1, none⟩ = some (.int .i64 (k : Int)) := by rw [← hW]; simp
  have hfr : Fr [] w W0 := by rw [← hW]; exact (Fr.refl _ _).alloc _
  have hp0 := (hfr.cell (p := ⟨p, 0, none⟩) hpl (by simp)).trans hp
  have hpi0 := (hfr.cell (p := ⟨p, 1, none⟩) hpl (by simp)).trans hpi
  have hM0 := hM.fr hfr (by simp) (by simp)
  have hz0 : W0.heap.size = w.heap.size + 1 := by rw [← hW]; simp
  clear hW hp hpi
  have hu0 := (hfr.cell (p := ⟨g, k, none⟩) hgl (by simp)).trans hu
  have hl0 := Lib.hid (hl.fr hfr (by simp))
  have hS : ∀ W, Fr [pb] W0 W → W.cell? ⟨p, 0, none⟩ = some (.pointer (some ⟨pm, 0, none⟩)) ∧ W.cell? ⟨p, 1, none⟩ = some (.slice (some ⟨g, 0, none⟩) n cap) ∧ W.cell? ⟨w.heap.size, 1, none⟩ = some (.int .i64 (k : Int)) ∧ W.cell? ⟨g, k, none⟩ = some u := fun W hW => by
    have hb : w.heap.size ∉ [pb] := by simp; omega
    refine ⟨(hW.cell ?_ ?_).trans hp0, (hW.cell ?_ ?_).trans hpi0, (hW.cell ?_ hb).trans c2, (hW.cell ?_ ?_).trans hu0⟩ <;> first | (simp only [hz0]; omega) | simpa using hpb | simpa using hg
  have hS' := Lib.hid hS
  clear hS hl hu
  go_region_held3 (fun w' => w'.cell? ⟨p, 0, none⟩ = some (.pointer (some ⟨pm, 0, none⟩)) ∧ w'.cell? ⟨p, 1, none⟩ = some (.slice (some ⟨g, 0, none⟩) n cap) ∧ w'.cell? ⟨w.heap.size, 1, none⟩ = some (.int .i64 (k : Int)) ∧ w'.cell? ⟨g, k, none⟩ = some u) (exact hS'.out _ (by first | assumption | exact (Fr.refl _ _).drew)) (fail)
  go_wp2_with fail
  go_region_held3 (fun w' => w'.cell? ⟨p, 0, none⟩ = some (.pointer (some ⟨pm, 0, none⟩)) ∧ w'.cell? ⟨p, 1, none⟩ = some (.slice (some ⟨g, 0, none⟩) n cap) ∧ w'.cell? ⟨w.heap.size, 1, none⟩ = some (.int .i64 (k : Int)) ∧ w'.cell? ⟨g, k, none⟩ = some u) (exact hS'.out _ (by first | assumption | exact (Fr.refl _ _).drew.drew)) (first | (go_at_call 70; refine (mLoad _ _ _ ok _ (hM0.fr (S := []) (Fr.refl _ _).drew.drew (by simp) (by simp)) hn _ _ (hl0.out.fr (S := []) (Fr.refl _ _).drew.drew (by simp)) hll hok).mono ?_; rintro e w3 ⟨rfl, hM3, hfr4⟩; have hfr3 : Fr [pb] W0 w3 := (Fr.refl _ _).drew.drew.trans hfr4))
  all_goals
    go_wp2
    go_ret
    exact ⟨rfl, hM3, (hfr.weaken (by simp)).trans hfr3⟩

set_option maxRecDepth 100000 in
set_option maxHeartbeats 1600000 in
theorem mPlay6_out (w : World) (p pm pb : Nat) (M : List Sec) (hM : MemAt w pm pb M) (hn : M.length ≤ 4096) (hp : w.cell? ⟨p, 0, none⟩ = some (.pointer (some ⟨pm, 0, none⟩))) (hpb : p ≠ pb) (i : Int) (f : UInt8) (sz : Int) (pk : Value) (a : Option Addr) (n cap : Nat) (hpi : w.cell? ⟨p, 1, none⟩ = some (.slice a n cap)) (_hn2 : n ≤ 4096) (hi : i < 0 ∨ (n : Int) ≤ i) :
    Calls Try.prog 22 #[.pointer (some ⟨p, 0, none⟩), .agg #[.int .i64 6, .int .i64 i, .int .u8 f.toNat, .int .i64 sz, pk]] w fun e w' => e = .returned (.int .i64 (ldE M [])) ∧ MemAt w' pm pb (ldM M []) ∧ Fr [pb] w w' := by
  rcases Int.lt_or_le i 0 with hi0 | hi0
  · have hge : ¬ ((0 : Int) ≤ i) := by omega
    have hgd : decide ((0 : Int) ≤ i) = false := by simpa using hge
    clear hi
    have hpl := World.block_lt_of_cell? _ _ hp
    have hbl := hM.arr.lt
    go_enter Try.func22, Try.ntmps22
    go_wp2_with fail
    generalize hW : w.alloc (.cells #[.int .i64 6, .int .i64 i, .int .u8 f.toNat, .int .i64 sz, pk] 37) = W0
    have c2 : W0.cell? ⟨w.heap.size, 1, none⟩ = some (.int .i64 i) := by rw [← hW]; simp
    have hfr : Fr [] w W0 := by rw [← hW]; exact (Fr.refl _ _).alloc _
    have hp0 := (hfr.cell (p := ⟨p, 0, none⟩) hpl (by simp)).trans hp
    have hpi0 := (hfr.cell (p := ⟨p, 1, none⟩) hpl (by simp)).trans hpi
    have hM0 := hM.fr hfr (by simp) (by simp)
    have hz0 : W0.heap.size = w.heap.size + 1 := by rw [← hW]; simp
    clear hW hp hpi
    have hS : ∀ W, Fr [pb] W0 W → W.cell? ⟨p, 0, none⟩ = some (.pointer (some ⟨pm, 0, none⟩)) ∧ W.cell? ⟨p, 1, none⟩ = some (.slice a n cap) ∧ W.cell? ⟨w.heap.size, 1, none⟩ = some (.int .i64 i) := fun W hW => by
      have hb : w.heap.size ∉ [pb] := by simp; omega
      refine ⟨(hW.cell ?_ ?_).trans hp0, (hW.cell ?_ ?_).trans hpi0, (hW.cell ?_ hb).trans c2⟩ <;> first | (simp only [hz0]; omega) | simpa using hpb
    have hS' := Lib.hid hS
    clear hS
    go_quiet (fail)
    go_wp2_with fail
    go_wp2_with (go_at_call 70; refine (mLoad _ _ _ (fun _ => False) _ (hM0.fr (S := []) ((Fr.refl _ _).drewN _) (by simp) (by simp)) hn _ [] (SlAt.nil _ _) (by simp) (fun _ h => h.elim)).mono ?_; rintro e w3 ⟨rfl, hM3, hfr4⟩; have hfr3 : Fr [pb] W0 w3 := ((Fr.refl _ _).drewN _).trans hfr4)
    all_goals
      go_ret
      exact ⟨rfl, hM3, (hfr.weaken (by simp)).trans hfr3⟩
  · have hi2 : (n : Int) ≤ i := by omega
    clear hi
    have hpl := World.block_lt_of_cell? _ _ hp
    have hbl := hM.arr.lt
    go_enter Try.func22, Try.ntmps22
    go_wp2_with fail
    generalize hW : w.alloc (.cells #[.int .i64 6, .int .i64 i, .int .u8 f.toNat, .int .i64 sz, pk] 37) = W0
    have c2 : W0.cell? ⟨w.heap.size, 1, none⟩ = some (.int .i64 i) := by rw [← hW]; simp
    have hfr : Fr [] w W0 := by rw [← hW]; exact (Fr.refl _ _).alloc _
    have hp0 := (hfr.cell (p := ⟨p, 0, none⟩) hpl (by simp)).trans hp
    have hpi0 := (hfr.cell (p := ⟨p, 1, none⟩) hpl (by simp)).trans hpi
    have hM0 := hM.fr hfr (by simp) (by simp)
    have hz0 : W0.heap.size = w.heap.size + 1 := by rw [← hW]; simp
    clear hW hp hpi
    have hS : ∀ W, Fr [pb] W0 W → W.cell? ⟨p, 0, none⟩ = some (.pointer (some ⟨pm, 0, none⟩)) ∧ W.cell? ⟨p, 1, none⟩ = some (.slice a n cap) ∧ W.cell? ⟨w.heap.size, 1, none⟩ = some (.int .i64 i) := fun W hW => by
      have hb : w.heap.size ∉ [pb] := by simp; omega
      refine ⟨(hW.cell ?_ ?_).trans hp0, (hW.cell ?_ ?_).trans hpi0, (hW.cell ?_ hb).trans c2⟩ <;> first | (simp only [hz0]; omega) | simpa using hpb
    have hS' := Lib.hid hS
    clear hS
    go_region_held3 (fun w' => w'.cell? ⟨p, 0, none⟩ = some (.pointer (some ⟨pm, 0, none⟩)) ∧ w'.cell? ⟨p, 1, none⟩ = some (.slice a n cap) ∧ w'.cell? ⟨w.heap.size, 1, none⟩ = some (.int .i64 i)) (exact hS'.out _ (by first | assumption | exact (Fr.refl _ _).drew)) (fail)
    go_wp2_with fail
    go_wp2_with (go_at_call 70; refine (mLoad _ _ _ (fun _ => False) _ (hM0.fr (S := []) ((Fr.refl _ _).drew) (by simp) (by simp)) hn _ [] (SlAt.nil _ _) (by simp) (fun _ h => h.elim)).mono ?_; rintro e w3 ⟨rfl, hM3, hfr4⟩; have hfr3 : Fr [pb] W0 w3 := ((Fr.refl _ _).drew).trans hfr4)
    all_goals
      go_ret
      exact ⟨rfl, hM3, (hfr.weaken (by simp)).trans hfr3⟩

-- SEVEN
theorem infoSS : (Try.prog.info? 54).map (fun i => (i.zero, i.size, i.bytes)) = some (some (.slice none 0 0), 1, 24) := by kernel_rfl
theorem oneC_slice {v : Value} (h : ∃ a n c, v = .slice a n c) : ∀ u ∈ [v], u.oneCell' = true := by intro u hu; simp at hu; subst hu; obtain ⟨a, n, c, rfl⟩ := h; rfl

set_option maxRecDepth 100000 in
set_option maxHeartbeats 1600000 in
theorem mPlay7 (w : World) (p pm pb : Nat) (M : List Sec) (hM : MemAt w pm pb M) (hn : M.length ≤ 4096) (hp : w.cell? ⟨p, 0, none⟩ = some (.pointer (some ⟨pm, 0, none⟩))) (_hpb : p ≠ pb) (i : Int) (f : UInt8) (sz : Int) (pk : Value)
    (base : Nat) (v : Value) (n : Nat) (xs : List Value) (hpi : w.cell? ⟨p, 1, none⟩ = some v) (hown : w.ownsRow base 54 1 v n xs) (hbase : base ≤ w.heap.size) (hg : ∀ g, v.ownBlock = some g → g ≠ p) (hn2 : n ≤ 4096) (hfz : ∀ o, w.frozen? ⟨p, o, none⟩ = false) :
    Calls Try.prog 22 #[.pointer (some ⟨p, 0, none⟩), .agg #[.int .i64 7, .int .i64 i, .int .u8 f.toNat, .int .i64 sz, pk]] w fun e w' => e = .returned (.int .i64 0) ∧
      ∃ g cap u, w'.cell? ⟨p, 0, none⟩ = some (.pointer (some ⟨pm, 0, none⟩)) ∧ w'.cell? ⟨p, 1, none⟩ = some (.slice (some ⟨g, 0, none⟩) (n + 1) cap) ∧ (∀ o, w'.frozen? ⟨p, o, none⟩ = false) ∧
        w'.ownsRow base 54 1 (.slice (some ⟨g, 0, none⟩) (n + 1) cap) (n + 1) (xs ++ [u]) ∧ SlAt w' (fun b => w.heap.size ≤ b ∧ b ≠ g) u (strs (imgM M)) ∧ Fr (p :: v.ownBlock.toList) w w' ∧ (v = .slice (some ⟨g, 0, none⟩) n cap ∨ (w.heap.size ≤ g ∧ Fr [p] w w')) := by
  obtain ⟨i0, hi, hz0, hz1, hz2⟩ := info_parts infoSS
  have hpl := World.block_lt_of_cell? _ _ hp
  have hbl := hM.arr.lt
  go_enter Try.func22, Try.ntmps22
  go_wp2_with fail
  generalize hW : w.alloc (.cells #[.int .i64 7, .int .i64 i, .int .u8 f.toNat, .int .i64 sz, pk] 37) = W0
  have hfr : Fr [] w W0 := by rw [← hW]; exact (Fr.refl _ _).alloc _
  have hp0 := (hfr.cell (p := ⟨p, 0, none⟩) hpl (by simp)).trans hp
  have hpi0 := (hfr.cell (p := ⟨p, 1, none⟩) hpl (by simp)).trans hpi
  have hM0 := hM.fr hfr (by simp) (by simp)
  have hz0' : W0.heap.size = w.heap.size + 1 := by rw [← hW]; simp
  have hown0 := Lib.hid (ownsRow_fr hown hfr (by simp))
  have hfz0 : Hid (∀ o, W0.frozen? ⟨p, o, none⟩ = false) := fun o => (hfr.frozen (p := ⟨p, o, none⟩) hpl (by simp)).trans (hfz o)
  have hown1 := Lib.hid hown
  clear hW hp hpi hown hfz
  have hpW : ∀ W, Fr [] W0 W → ∀ o x, W0.cell? ⟨p, o, none⟩ = some x → W.cell? ⟨p, o, none⟩ = some x := fun W hW o x hx => (hW.cell (p := ⟨p, o, none⟩) (by show p < W0.heap.size; omega) (by simp)).trans hx
  have hpf : ∀ W, Fr [] W0 W → ∀ o, W.frozen? ⟨p, o, none⟩ = false := fun W hW o => (hW.frozen (p := ⟨p, o, none⟩) (by show p < W0.heap.size; omega) (by simp)).trans (hfz0.out o)
  have hpW' := Lib.hid hpW
  have hpf' := Lib.hid hpf
  have hz0h := Lib.hid hz0'
  clear hpW hpf hz0'
  go_region_law (first
    | (refine step_call _ (by rfl) 31 _ _ (by rfl) [.pointer (some ⟨pm, 0, none⟩)] (by rfl) (enters_of Try.func31 (by kernel_rfl) rfl) ?_
       refine (mImage _ pm pb M (hM0.fr (S := []) (Fr.refl _ _).drew (by simp) (by simp)) hn).mono ?_
       rintro e w2 ⟨u, rfl, hsl, hB2⟩
       obtain ⟨au, nu, cu, hu⟩ : ∃ a n c, u = .slice a n c := by obtain ⟨a, c, h1, h2⟩ := hsl; exact ⟨a, _, c, h1⟩
       subst hu
       refine ⟨.slice au nu cu, rfl, ?_⟩
       have hsl' := Lib.hid hsl
       clear hsl
       have hfr2 : Fr [] W0 w2 := (Fr.refl _ _).drew.trans (Fr.of_below hB2)
       have hp2 := hpW'.out _ hfr2 0 _ hp0
       have hpi2 := hpW'.out _ hfr2 1 _ hpi0
       have hpl2 : p < w2.heap.size := World.block_lt_of_cell? _ _ hp2
       have hown2 := Lib.hid ((ownsRow_fr hown0.out hfr2 (by simp)).alloc (.cells #[.slice au nu cu] 54))
       have hus := Lib.hid (oneC_slice (v := .slice au nu cu) ⟨_, _, _, rfl⟩))
    | (refine step_append_keep _ (by rfl) _ _ _ (by rfl) base 54 i0 (.slice none 0 0) 1 24 Try.underlying40 hi hz0 hz1 hz2 rfl (by decide) v n xs (by rfl) hown2.out ⟨w2.heap.size, 0, none⟩ 1 1 [.slice au nu cu] (by rfl) rfl (cell_one w2 (.slice au nu cu) 54) hus.out (by omega) (by unfold maxLen; omega) (by omega) (by have := hfr2.size; have := hz0h.out; show base ≤ (w2.heap.push _).size; simp; omega) ?_
       intro g cap w4 hown4 hgrow hor hgl
       have hfra : Fr [] W0 (w2.alloc (.cells #[.slice au nu cu] 54)) := hfr2.alloc _
       have hblk := hgrow.block p (by have := hfra.size; have := hz0h.out; omega) (fun e => hg p e.symm rfl)
       have hc41 : w4.cell? ⟨p, 1, none⟩ = some v := (World.cell?_of_block (a := ⟨p, 1, none⟩) hblk).trans (hpW'.out _ hfra 1 _ hpi0)
       have hc40 : w4.cell? ⟨p, 0, none⟩ = some (.pointer (some ⟨pm, 0, none⟩)) := (World.cell?_of_block (a := ⟨p, 0, none⟩) hblk).trans (hpW'.out _ hfra 0 _ hp0)
       have hf4 := Lib.hid (fun o => (World.frozen?_of_block (a := ⟨p, o, none⟩) hblk).trans (hpf'.out _ hfra o))
       have hf41 : w4.frozen? ⟨p, 1, none⟩ = false := hf4.out 1
       have hown4' := Lib.hid hown4
       have hgrow' := Lib.hid hgrow
       have hor' := Lib.hid hor
       have hfra' := Lib.hid hfra
       clear hown4 hgrow hor hfra hblk))
  all_goals
    have hend := append_end hpl hfr hfr2 hown1.out hsl'.out hgrow'.out hor'.out hg hc40 hc41 hf4.out hown4'.out _ rfl
    generalize w4.setCell ⟨p, 1, none⟩ (.slice (some ⟨g, 0, none⟩) (n + 1) cap) = w5 at *
    go_wp2
    go_ret
    exact ⟨rfl, g, cap, _, hend⟩

end Go.Proofs.Ytogljlloobjeoaa
