/- New and Clone of the reference of chapter 22. -/
import Derived.Test.YtogljlloobjeoaaGreatRefD
import Derived.Deep.RegionLaw
import Derived.Deep.RegionLawGrows
import Derived.RangeFuncBox
import Derived.Deep.AppendLies
namespace Go.Proofs.YtogljlloobjeoaaGreat
open Go.RowKit

def Sec.cells (s : Sec) : List Value := [.string s.now, .string s.before, .string s.fresh, .bool s.dirty, .bool s.worn]
theorem Sec.cells_length (s : Sec) : s.cells.length = 5 := rfl
def secCells (M : List Sec) : List Value := M.flatMap Sec.cells
theorem secCells_length (M : List Sec) : (secCells M).length = M.length * 5 := by
  induction M with
  | nil => rfl
  | cons s M ih => unfold secCells at ih ⊢; rw [List.flatMap_cons, List.length_append, ih, Sec.cells_length, List.length_cons]; omega
theorem secCells_append (A B : List Sec) : secCells (A ++ B) = secCells A ++ secCells B := by unfold secCells; rw [List.flatMap_append]
theorem secCells_get : ∀ (M : List Sec) (i j : Nat) (s : Sec), M[i]? = some s → j < 5 → (secCells M)[i * 5 + j]? = s.cells[j]?
  | [], i, j, s, h, _ => by simp at h
  | t :: M, 0, j, s, h, hj => by
    simp at h; subst h
    unfold secCells
    rw [List.flatMap_cons, List.getElem?_append_left (by rw [Sec.cells_length]; omega), Nat.zero_mul, Nat.zero_add]
  | t :: M, i + 1, j, s, h, hj => by
    have ih := secCells_get M i j s (by simpa using h) hj
    unfold secCells at ih ⊢
    rw [List.flatMap_cons, List.getElem?_append_right (by rw [Sec.cells_length]; omega), Sec.cells_length, ← ih]
    congr 1
    omega
theorem ArrAt.of_cells {w : World} {pb : Nat} {M : List Sec} (hl : pb < w.heap.size) (hc : ∀ k u, (secCells M)[k]? = some u → w.cell? ⟨pb, k, none⟩ = some u) (hf : ∀ o, w.frozen? ⟨pb, o, none⟩ = false) : ArrAt w pb M :=
  ⟨hl, fun i s hi => by
    have h := fun j hj u hu => hc (i * 5 + j) u ((secCells_get M i j s hi hj).trans hu)
    exact ⟨h 0 (by omega) _ rfl, h 1 (by omega) _ rfl, h 2 (by omega) _ rfl, h 3 (by omega) _ rfl, h 4 (by omega) _ rfl⟩, hf⟩
theorem ArrAt.cells {w : World} {pb : Nat} {M : List Sec} (h : ArrAt w pb M) (k : Nat) (u : Value) (hk : (secCells M)[k]? = some u) : w.cell? ⟨pb, k, none⟩ = some u := by
  have hl : k < M.length * 5 := by rw [← secCells_length]; exact (List.getElem?_eq_some_iff.1 hk).1
  have hi : k / 5 < M.length := by omega
  have hs : M[k / 5]? = some M[k / 5] := List.getElem?_eq_getElem hi
  have he : k = k / 5 * 5 + k % 5 := by omega
  rw [he, secCells_get M (k / 5) (k % 5) _ hs (by omega)] at hk
  obtain ⟨c0, c1, c2, c3, c4⟩ := h.sec _ _ hs
  rw [he]
  have hm : k % 5 < 5 := by omega
  generalize k % 5 = r at *
  match r, hm with
  | 0, _ => cases hk; exact c0
  | 1, _ => cases hk; exact c1
  | 2, _ => cases hk; exact c2
  | 3, _ => cases hk; exact c3
  | 4, _ => cases hk; exact c4
theorem ArrAt.cells_add {w : World} {pb : Nat} {M : List Sec} (h : ArrAt w pb M) (j : Nat) (u : Value) (hj : (secCells M)[j]? = some u) : w.cell? ((⟨pb, 0, none⟩ : Addr).add j) = some u := by
  have : (⟨pb, 0, none⟩ : Addr).add j = ⟨pb, j, none⟩ := by unfold Addr.add; split <;> simp_all
  rw [this]; exact h.cells j u hj
theorem secCells_one {M : List Sec} : ∀ u ∈ secCells M, u.oneCell' = true := by
  intro u hu
  unfold secCells at hu
  obtain ⟨s, _, hs⟩ := List.mem_flatMap.1 hu
  simp [Sec.cells] at hs
  rcases hs with rfl | rfl | rfl | rfl | rfl <;> rfl
/-- A row of the call's own that holds sectors is their array. -/
theorem arr_of_own {w : World} {base : Nat} {e : TypeId} {v : Value} {n : Nat} {M : List Sec} (h : w.ownsRow base e 5 v n (secCells M)) (h0 : 0 < M.length) :
    ∃ pb cap, v = .slice (some ⟨pb, 0, none⟩) M.length cap ∧ M.length ≤ cap ∧ base ≤ pb ∧ ArrAt w pb M := by
  obtain ⟨hl, h2⟩ := h
  rw [secCells_length] at hl
  have hn : n = M.length := by omega
  subst hn
  rcases h2 with ⟨_, h2⟩ | ⟨g, cap, cur, rfl, hb, hg, hn, hm, hs, ht⟩
  · omega
  · refine ⟨g, cap, rfl, hn, hb, ArrAt.of_cells (Array.getElem?_eq_some_iff.1 hg).1 (fun k u hk => ?_) (fun o => ?_)⟩
    · have hkl : k < M.length * 5 := by rw [← secCells_length]; exact (List.getElem?_eq_some_iff.1 hk).1
      rw [← ht, List.getElem?_take_of_lt hkl, Array.getElem?_toList] at hk
      simp only [World.cell?, hg]
      exact hk
    · simp [World.frozen?, hg]

theorem infoRSec : (Tryz.prog.info? 92).map (fun i => (i.zero, i.size, i.bytes)) = some (some (.agg #[.string ByteArray.empty, .string ByteArray.empty, .string ByteArray.empty, .bool false, .bool false]), 5, 56) := by kernel_rfl

theorem cells_alloc (W : World) (n : Nat) (hn : n = W.heap.size) (xs : List Value) (T : TypeId) : ∀ (j : Nat) (u : Value), xs[j]? = some u → (W.alloc (.cells xs.toArray T)).cell? ((⟨n, 0, none⟩ : Addr).add j) = some u := by
  intro j u hj
  subst hn
  have : (⟨W.heap.size, 0, none⟩ : Addr).add j = ⟨W.heap.size, j, none⟩ := by unfold Addr.add; split <;> simp_all
  rw [this, World.cell?_alloc_new]
  simpa using hj
theorem getD_rep (k q : Nat) (x : Int) (h : q < k) : (List.replicate k x).getD q 0 = x := by
  rw [List.getD_eq_getElem?_getD, List.getElem?_replicate, if_pos h]; rfl
theorem newM_succ (n : Nat) : newM (n + 1) = newM n ++ newM 1 := by
  unfold newM; rw [List.replicate_succ']; rfl

set_option maxRecDepth 100000 in
set_option maxHeartbeats 1600000 in
theorem rNew_bad (w : World) (n : Int) (h : n < 1 ∨ 4096 < n) :
    Calls Tryz.prog 29 #[.int .i64 n] w fun e w' => e = .returned (.tuple #[.pointer none, .int .i64 1]) ∧ w = w' := by
  rcases Int.lt_or_le n 1 with h1 | h1
  · clear h
    go_enter Tryz.func29, Tryz.ntmps29
    go_wp2
    go_ret2
    exact ⟨rfl, rfl⟩
  · have h2 : 4096 < n := by omega
    clear h
    go_enter Tryz.func29, Tryz.ntmps29
    go_wp2
    go_ret2
    exact ⟨rfl, rfl⟩

set_option maxRecDepth 100000 in
set_option maxHeartbeats 1600000 in
theorem rNew_ok (w : World) (n : Nat) (h1 : 1 ≤ n) (h2 : n ≤ 4096) :
    Calls Tryz.prog 29 #[.int .i64 n] w fun e w' => ∃ pm pb, e = .returned (.tuple #[.pointer (some ⟨pm, 0, none⟩), .int .i64 0]) ∧ MemAt w' pm pb (newM n) ∧ w.heap.size ≤ pm ∧ w.heap.size ≤ pb ∧ Below w.heap.size w w' := by
  obtain ⟨i0, hi, hz0, hz1, hz2⟩ := info_parts infoRSec
  have hmk : ∀ W : World, (Instr.makeSlice 78 (.int .i64 64) (.int .i64 64)).run Tryz.prog W = .ok (.slice (some ⟨W.heap.size, 0, none⟩) 64 64) (W.alloc (.cells (tArr 0 64 0) 5)) := fun W => by
    obtain ⟨i1, hi1, hy0, hy1, hy2⟩ := info_parts infoByte
    have := run_make_rowN (P := Tryz.prog) 78 5 i1 (.int .u8 0) Tryz.underlying78 hi1 hy0 .i64 .i64 64 64 (Nat.le_refl _) (by rw [hy2]; omega) (by omega) W
    rw [hy1, tArr_zero 0] at this
    exact this
  have hcv : ∀ W : World, (convert 78 9 (.slice (some ⟨W.heap.size, 0, none⟩) 64 64)).run Tryz.prog (W.alloc (.cells (tArr 0 64 0) 5)) = .ok (.string zero64) (W.alloc (.cells (tArr 0 64 0) 5)) := fun W => by
    have := run_convert_bytes_arg (P := Tryz.prog) (W.alloc (.cells (tArr 0 64 0) 5)) 78 5 Tryz.underlying78 Tryz.underlying5 W.heap.size 0 64 64 (List.replicate 64 ((0 : UInt8).toNat : Int)) (by simp)
      (fun q hq => by
        rw [Nat.zero_add, World.cell?_alloc_at _ _ _ _ rfl, tArr_get _ _ _ _ (Nat.zero_le _) hq, if_neg (Nat.not_lt_zero _)]
        rw [getD_rep _ _ _ hq]; rfl) 9 Tryz.underlying9
    rw [strOf_rep] at this
    exact this
  go_enter Tryz.func29, Tryz.ntmps29
  go_wp2
  generalize hW : (w.alloc (.cells (tArr 0 64 0) 5)).alloc (.cells #[.slice none 0 0] 90) = W1
  have hz1' : W1.heap.size = w.heap.size + 2 := by rw [← hW]; simp
  have hzw : w.heap.size + 2 ≤ W1.heap.size := by omega
  have hBw : Below w.heap.size w W1 := by rw [← hW]; exact ((Below.refl _ _).alloc (Nat.le_refl _) _).alloc (by simp) _
  have hcw : W1.cell? ⟨w.heap.size + 1, 0, none⟩ = some (.slice none 0 0) := by
    rw [← hW]; exact World.cell?_alloc_at _ _ _ _ (by simp)
  have hfw : ∀ o, W1.frozen? ⟨w.heap.size + 1, o, none⟩ = false := fun o => by rw [← hW]; exact World.frozen?_alloc_at _ _ _ _ (by simp)
  clear hW hz1' hmk hcv
  go_loopw [6] (fun t wr => ∃ i : Nat, i ≤ n ∧ t = .int .i64 (i : Int) ∧ Below w.heap.size w wr ∧ w.heap.size + 2 ≤ wr.heap.size ∧ (∃ v, wr.cell? ⟨w.heap.size + 1, 0, none⟩ = some v ∧ wr.ownsRow (w.heap.size + 2) 92 5 v i (secCells (newM i))) ∧ Hid (∀ o, wr.frozen? ⟨w.heap.size + 1, o, none⟩ = false))
    (fun t _ => n - (intOf t).toNat)
  case atStart => exact ⟨0, Nat.zero_le _, rfl, hBw, hzw, ⟨_, hcw, World.ownsRow_nil _ _ _ _⟩, hfw⟩
  case round =>
    obtain ⟨i, hin, rfl, hB, hz, ⟨v, hc, hown⟩, hf⟩ := hrel
    have hf0 := hf.out 0
    by_cases hlt : i < n
    · go_wp2_with (at_builtin; refine wpList_append_own _ rfl _ _ 88 rfl (w.heap.size + 2) 92 i0 (.agg #[.string ByteArray.empty, .string ByteArray.empty, .string ByteArray.empty, .bool false, .bool false]) 5 56 Tryz.underlying88 hi hz0 hz1 hz2 rfl (by decide) _ _ _ rfl (hown.alloc _) ⟨wr.heap.size, 0, none⟩ 1 1 (secCells (newM 1)) rfl (by rw [secCells_length]; rfl) ?c1 secCells_one ?c3 ?c4 ?c5 ?_)
      case c1 => exact cells_alloc _ _ rfl (secCells (newM 1)) _
      case c3 => unfold maxLen; omega
      case c4 => omega
      case c5 => simp; omega
      intro v' w1 hown' hgrow _
      have hB' : Below w.heap.size w w1 := (hB.alloc hB.size _).grown hgrow (by have := hB.size; simp; omega) (fun k hk => by have := (hown.lt k hk).1; omega)
      have hz' : w.heap.size + 2 ≤ w1.heap.size := by have := hgrow.size; simp at this; omega
      rw [← secCells_append, ← newM_succ] at hown'
      have hne : some (w.heap.size + 1) ≠ v.ownBlock := fun e => by have := (hown.lt _ e.symm).1; omega
      have hblk := (hgrow.block (w.heap.size + 1) (by simp; omega) hne).trans (Below.heap_alloc wr _ (w.heap.size + 1) (by omega))
      have hc1 : w1.cell? ⟨w.heap.size + 1, 0, none⟩ = some v := (World.cell?_of_block (w := wr) hblk).trans hc
      have hf1 : Hid (∀ o, w1.frozen? ⟨w.heap.size + 1, o, none⟩ = false) := fun o => (World.frozen?_of_block (w := wr) hblk).trans (hf.out o)
      have hf10 := hf1.out 0
      have hown2 : w1.ownsRow (w.heap.size + 2) 92 5 v' (i + 1) (secCells (newM (i + 1))) := hown'
      clear hown' hgrow hown hc hf0 hblk hf hne
      obtain ⟨g', cap', hv'⟩ := ownsRow_succ hown2
      subst hv'
      go_wp2
      go_roundw
      case rel => exact ⟨i + 1, by omega, by go_num, hB'.setCell (p := ⟨w.heap.size + 1, 0, none⟩) (by show w.heap.size ≤ w.heap.size + 1; omega) _, by simpa using hz', ⟨_, World.cell?_setCell_same _ _ _ hc1, ownsRow_setCell_below hown2 (by show w.heap.size + 1 < _; omega) _⟩, fun o => (World.frozen?_setCell _ _ _ _).trans (hf1.out o)⟩
      case measure => simp [intOf]; omega
    · obtain rfl : i = n := by omega
      obtain ⟨pb, cap, hv, hcap, hpb, harr⟩ := arr_of_own hown (by simp [newM]; omega)
      subst hv
      go_wp2
      go_ret2
      exact ⟨w.heap.size + 1, pb, rfl, ⟨⟨cap, hc, hcap⟩, by omega, hf.out, harr, by omega⟩, by omega, by omega, hB⟩

set_option maxRecDepth 100000 in
set_option maxHeartbeats 1600000 in
theorem rClone (w : World) (pm pb : Nat) (M : List Sec) (hM : MemAt w pm pb M) (hn : M.length ≤ 4096) (h0 : 0 < M.length) :
    Calls Tryz.prog 34 #[.pointer (some ⟨pm, 0, none⟩)] w fun e w' => ∃ pm' pb', e = .returned (.pointer (some ⟨pm', 0, none⟩)) ∧ MemAt w' pm' pb' M ∧ w.heap.size ≤ pm' ∧ w.heap.size ≤ pb' ∧ Below w.heap.size w w' := by
  obtain ⟨i0, hi, hz0, hz1, hz2⟩ := info_parts infoRSec
  obtain ⟨cap, hc, hcap⟩ := hM.ptr
  have hltm := hM.lt
  have hltb := hM.arr.lt
  go_enter Tryz.func34, Tryz.ntmps34
  go_wp2_with fail
  generalize hW : w.alloc (.cells #[.slice none 0 0] 90) = W1
  have hzw : W1.heap.size = w.heap.size + 1 := by rw [← hW]; simp
  have hcw : W1.cell? ⟨w.heap.size, 0, none⟩ = some (.slice none 0 0) := by rw [← hW]; simp
  have hfw : ∀ o, W1.frozen? ⟨w.heap.size, o, none⟩ = false := fun o => by rw [← hW]; simp
  have hfr : Fr [] w W1 := by rw [← hW]; exact (Fr.refl _ _).alloc _
  have hM1 : MemAt W1 pm pb M := hM.fr hfr (by simp) (by simp)
  have hc1 := (hfr.cell (p := ⟨pm, 0, none⟩) hltm (by simp)).trans hc
  have hf0 := hfw 0
  have hfw' := Lib.hid hfw
  clear hW hfw hc
  have hzw' := Lib.hid hzw
  clear hzw
  go_region_law ((refine step_append_lies _ (by rfl) _ _ _ (by rfl) (w.heap.size + 1) 92 i0 (.agg #[.string ByteArray.empty, .string ByteArray.empty, .string ByteArray.empty, .bool false, .bool false]) 5 56 Tryz.underlying88 hi hz0 hz1 hz2 rfl (by decide) (.slice none 0 0) 0 [] (by rfl) (World.ownsRow_nil _ _ _ _) ⟨pb, 0, none⟩ M.length cap (secCells M) (by rfl) (secCells_length M) hM1.arr.cells_add secCells_one (by omega) (by unfold maxLen; omega) (by omega) (by show w.heap.size + 1 ≤ W1.heap.size; rw [hzw'.out]; exact Nat.le_refl _) W1.heap.size rfl ?_; intro g cap' w' hown' hgrow hor hgl; have hblk := hgrow.block w.heap.size (by show w.heap.size < W1.heap.size; rw [hzw'.out]; omega) (by simp [Value.ownBlock]); have hcb : w'.cell? ⟨w.heap.size, 0, none⟩ = some (.slice none 0 0) := (World.cell?_of_block (w := W1) hblk).trans hcw; have hfb : w'.frozen? ⟨w.heap.size, 0, none⟩ = false := (World.frozen?_of_block (w := W1) hblk).trans hf0; have hfB := Lib.hid (fun o => (World.frozen?_of_block (w := W1) (a := ⟨w.heap.size, o, none⟩) hblk).trans (hfw'.out o)); clear hblk))
  all_goals
    have hown2 : w'.ownsRow (w.heap.size + 1) 92 5 (.slice (some ⟨g, 0, none⟩) M.length cap') M.length (secCells M) := by simpa using hown'
    obtain ⟨pb', cap2, hv, hcap2, hpb, harr⟩ := arr_of_own hown2 h0
    have hgp : g = pb' ∧ cap' = cap2 := by injection hv with e1 _ e3; injection e1 with e1; injection e1 with e1; exact ⟨e1, e3⟩
    have hB : Below w.heap.size w w' := (hfr.below (Nat.le_refl _) (by simp)).trans ((Below.refl w.heap.size W1).grown (w' := w') ⟨hgrow.os, hgrow.tape, hgrow.output, hgrow.size, hgrow.block⟩ (by rw [hzw'.out]; omega) (by intro k hk; simp [Value.ownBlock] at hk))
    have hwl : w.heap.size < w'.heap.size := World.block_lt_of_cell? _ _ hcb
    clear hown' hgrow hor hown2 hv
    obtain ⟨rfl, rfl⟩ := hgp
    have hcb2 := World.cell?_setCell_same w' ⟨w.heap.size, 0, none⟩ (.slice (some ⟨g, 0, none⟩) M.length cap') hcb
    have hfr3 : Fr [w.heap.size] w' (w'.setCell ⟨w.heap.size, 0, none⟩ (.slice (some ⟨g, 0, none⟩) M.length cap')) := (Fr.refl _ _).setCell (by simp) _
    have hfB3 : Hid (∀ o, (w'.setCell ⟨w.heap.size, 0, none⟩ (.slice (some ⟨g, 0, none⟩) M.length cap')).frozen? ⟨w.heap.size, o, none⟩ = false) := fun o => (World.frozen?_setCell _ _ _ _).trans (hfB.out o)
    have hB3 := hB.trans (hfr3.below (B := w.heap.size) (by omega) (by simp))
    have harr3 := harr.fr hfr3 (by simp; omega)
    have hwl3 : w.heap.size < (w'.setCell ⟨w.heap.size, 0, none⟩ (.slice (some ⟨g, 0, none⟩) M.length cap')).heap.size := by simpa using hwl
    clear hB harr hfr3 hcb hfb hfB hwl
    generalize w'.setCell ⟨w.heap.size, 0, none⟩ (.slice (some ⟨g, 0, none⟩) M.length cap') = W3 at *
    go_wp2
    go_ret
    exact ⟨w.heap.size, g, rfl, ⟨⟨cap', hcb2, hcap2⟩, hwl3, hfB3.out, harr3, by omega⟩, Nat.le_refl _, by omega, hB3⟩

end Go.Proofs.YtogljlloobjeoaaGreat
