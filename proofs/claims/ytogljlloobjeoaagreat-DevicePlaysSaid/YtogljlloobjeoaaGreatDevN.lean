/- A device is made; a device is copied. -/
import Derived.Test.YtogljlloobjeoaaGreatDevE
import Derived.Test.YtogljlloobjeoaaGreatNewM
namespace Go.Proofs.YtogljlloobjeoaaGreat
open Go.RowKit
set_option linter.unusedSimpArgs false

theorem row_of_own {w : World} {base : Nat} {e : TypeId} {v : Value} {n : Nat} {xs : List Value} (h : w.ownsRow base e 1 v n xs) (h0 : 0 < n) :
    ∃ g cap, v = .slice (some ⟨g, 0, none⟩) n cap ∧ n ≤ cap ∧ base ≤ g ∧ g < w.heap.size ∧ (∀ (j : Nat) x, xs[j]? = some x → w.cell? ⟨g, j, none⟩ = some x) ∧ ∀ o, w.frozen? ⟨g, o, none⟩ = false := by
  obtain ⟨hl, h2⟩ := h
  rcases h2 with ⟨_, h2⟩ | ⟨g, cap, cur, rfl, hb, hg, hn, hm, hs, ht⟩
  · omega
  · refine ⟨g, cap, rfl, hn, hb, (Array.getElem?_eq_some_iff.1 hg).1, fun k u hk => ?_, fun o => ?_⟩
    · have hkl : k < n * 1 := by have := (List.getElem?_eq_some_iff.1 hk).1; omega
      rw [← ht, List.getElem?_take_of_lt hkl, Array.getElem?_toList] at hk
      simp only [World.cell?, hg]
      exact hk
    · simp [World.frozen?, hg]

theorem made_get (z : Value) (k i : Nat) (hz : z.cells = #[z]) (hi : i < k) : (madeCells z.cells (k * 1))[i]? = some z := by
  rw [hz]
  simp [madeCells, Nat.mod_one]
  exact ⟨i, by rw [Array.getElem?_range, if_pos (by omega)]⟩

def rowS (n : Nat) : Array Value := madeCells (Value.string ByteArray.empty).cells (n * 1)
def rowF (n : Nat) : Array Value := madeCells (Value.bool false).cells (n * 1)
def rawD (n s f : Nat) : Dv := { M := newM n, S := List.replicate s ByteArray.empty, F := List.replicate f false, cnt := 0, clk := 0, dn := false, lf := -1 }
theorem rawD_ok (n s f : Nat) (n0 : 0 < n) (n1 : n ≤ 4096) (s0 : 0 < s) (s1 : s ≤ 16) (f0 : 0 < f) (f1 : f ≤ 16) : (rawD n s f).Ok := by
  constructor
  · exact newM_WF n
  all_goals simp [rawD, newM]
  all_goals omega
theorem rawD_ba (n s f : Nat) : dBa (rawD n s f) = newD n s f := by simp [dBa, rawD, newD]
theorem devRaw {W0 W5 : World} {bd pm pb ps pf n s f : Nat} {T U : TypeId} (hk : (rawD n s f).Ok) (hM0 : MemAt W0 pm pb (newM n))
    (H : W0.cell? ⟨bd, 2, none⟩ = some (.int .i64 0) ∧ W0.cell? ⟨bd, 3, none⟩ = some (.int .i64 0) ∧ W0.cell? ⟨bd, 4, none⟩ = some (.pointer (some ⟨pm, 0, none⟩)) ∧ W0.cell? ⟨bd, 5, none⟩ = some (.bool false) ∧ W0.cell? ⟨bd, 6, none⟩ = some (.int .i64 (-1)))
    (hF : Fr [bd] W0 W5) (c0 : W5.cell? ⟨bd, 0, none⟩ = some (.slice (some ⟨ps, 0, none⟩) s s)) (c1 : W5.cell? ⟨bd, 1, none⟩ = some (.slice (some ⟨pf, 0, none⟩) f f)) (e : ∀ o, 2 ≤ o → W5.cell? ⟨bd, o, none⟩ = W0.cell? ⟨bd, o, none⟩) (fz : ∀ o, W5.frozen? ⟨bd, o, none⟩ = false)
    (hs : W5.heap[ps]? = some (.cells (rowS s) T (0, 0))) (hf : W5.heap[pf]? = some (.cells (rowF f) U (0, 0))) (hbm : bd ≠ pm ∧ bd ≠ pb) (hps : W0.heap.size ≤ ps) (hpf : W0.heap.size ≤ pf) (hne : ps ≠ pf) :
    DevAt W5 ⟨bd, pm, pb, ps, pf⟩ (rawD n s f) := by
  have l0 : bd < W0.heap.size := World.block_lt_of_cell? _ _ H.1
  have l1 := hM0.lt
  have l2 := hM0.arr.lt
  refine ⟨hM0.fr hF (by simp; omega) (by simp; omega), ⟨s, by simp [rawD], by simpa [rawD] using c0⟩, ⟨f, by simp [rawD], by simpa [rawD] using c1⟩, (e 2 (by omega)).trans H.1, (e 3 (by omega)).trans H.2.1, (e 4 (by omega)).trans H.2.2.1, (e 5 (by omega)).trans H.2.2.2.1, (e 6 (by omega)).trans H.2.2.2.2,
    fun j x hj => ?_, fun j x hj => ?_, (Array.getElem?_eq_some_iff.1 hs).1, (Array.getElem?_eq_some_iff.1 hf).1, fz, fun o => by simp [World.frozen?, hs], fun o => by simp [World.frozen?, hf], ?_, hk⟩
  · have hj' : j < s := by have := (List.getElem?_eq_some_iff.1 hj).1; simpa [rawD] using this
    have hx : x = ByteArray.empty := by simp [rawD, List.getElem?_replicate, hj'] at hj; exact hj.symm
    subst hx
    simp only [World.cell?, hs]
    exact made_get _ _ _ rfl hj'
  · have hj' : j < f := by have := (List.getElem?_eq_some_iff.1 hj).1; simpa [rawD] using this
    have hx : x = false := by simp [rawD, List.getElem?_replicate, hj'] at hj; exact hj
    subst hx
    simp only [World.cell?, hf]
    exact made_get _ _ _ rfl hj'
  · simp only; omega
/-- Behind the two rows' making, in either order. -/
theorem devEnd {W0 X : World} {bd pm pb ps pf n s f : Nat} (hk : (rawD n s f).Ok) (hM0 : MemAt W0 pm pb (newM n))
    (H : W0.cell? ⟨bd, 2, none⟩ = some (.int .i64 0) ∧ W0.cell? ⟨bd, 3, none⟩ = some (.int .i64 0) ∧ W0.cell? ⟨bd, 4, none⟩ = some (.pointer (some ⟨pm, 0, none⟩)) ∧ W0.cell? ⟨bd, 5, none⟩ = some (.bool false) ∧ W0.cell? ⟨bd, 6, none⟩ = some (.int .i64 (-1)))
    (hF : Fr [bd] W0 X) (hX : X.heap.size = W0.heap.size) (A C : Array Value) (T U : TypeId) (c0 : X.cell? ⟨bd, 0, none⟩ = some (.slice (some ⟨ps, 0, none⟩) s s)) (c1 : X.cell? ⟨bd, 1, none⟩ = some (.slice (some ⟨pf, 0, none⟩) f f)) (e : ∀ o, 2 ≤ o → X.cell? ⟨bd, o, none⟩ = W0.cell? ⟨bd, o, none⟩) (fz : ∀ o, X.frozen? ⟨bd, o, none⟩ = false)
    (hbm : bd ≠ pm ∧ bd ≠ pb) (hor : (ps = W0.heap.size ∧ pf = W0.heap.size + 1 ∧ A = rowS s ∧ C = rowF f) ∨ (pf = W0.heap.size ∧ ps = W0.heap.size + 1 ∧ A = rowF f ∧ C = rowS s)) :
    DevAt ((X.alloc (.cells A T)).alloc (.cells C U)).drew ⟨bd, pm, pb, ps, pf⟩ (rawD n s f) ∧ Fr [bd] W0 ((X.alloc (.cells A T)).alloc (.cells C U)).drew := by
  have l0 : bd < X.heap.size := World.block_lt_of_cell? _ _ c0
  have hFF : Fr [] X ((X.alloc (.cells A T)).alloc (.cells C U)).drew := (((Fr.refl _ _).alloc _).alloc _).drew
  have k1 : ((X.alloc (.cells A T)).alloc (.cells C U)).drew.heap[X.heap.size]? = some (.cells A T (0, 0)) := (Below.heap_alloc _ _ _ (by simp)).trans (World.alloc_heap_new X _)
  have k2 : ((X.alloc (.cells A T)).alloc (.cells C U)).drew.heap[X.heap.size + 1]? = some (.cells C U (0, 0)) := by have := World.alloc_heap_new (X.alloc (.cells A T)) (.cells C U); rwa [World.size_alloc] at this
  rw [hX] at k1 k2
  have cc : ∀ o, ((X.alloc (.cells A T)).alloc (.cells C U)).drew.cell? ⟨bd, o, none⟩ = X.cell? ⟨bd, o, none⟩ := fun o => hFF.cell (p := ⟨bd, o, none⟩) l0 (by simp)
  have hFa := hF.trans (hFF.weaken (by simp))
  refine ⟨?_, hFa⟩
  rcases hor with ⟨rfl, rfl, rfl, rfl⟩ | ⟨rfl, rfl, rfl, rfl⟩
  · exact devRaw hk hM0 H hFa ((cc _).trans c0) ((cc _).trans c1) (fun o ho => (cc _).trans (e o ho)) (fun o => (hFF.frozen (p := ⟨bd, o, none⟩) l0 (by simp)).trans (fz o)) k1 k2 hbm (by omega) (by omega) (by omega)
  · exact devRaw hk hM0 H hFa ((cc _).trans c0) ((cc _).trans c1) (fun o ho => (cc _).trans (e o ho)) (fun o => (hFF.frozen (p := ⟨bd, o, none⟩) l0 (by simp)).trans (fz o)) k2 k1 hbm (by omega) (by omega) (by omega)
theorem infoStrD : (Tryz.prog.info? 9).map (fun i => (i.zero, i.size, i.bytes)) = some (some (.string ByteArray.empty), 1, 16) := by kernel_rfl

set_option maxRecDepth 100000 in
set_option maxHeartbeats 1600000 in
theorem dNew_bad (w : World) (n s f : Int) (hs1 : s ≤ 9223372036854775807) (hf1 : f ≤ 9223372036854775807) (h : n < 1 ∨ 4096 < n ∨ s < 1 ∨ 16 < s ∨ f < 1 ∨ 16 < f) :
    Calls Tryz.prog 6 #[.int .i64 n, .int .i64 s, .int .i64 f] w fun e w' => e = .returned (.tuple #[.pointer none, .int .i64 1]) ∧ Below w.heap.size w w' := by
  by_cases hbad : n < 1 ∨ 4096 < n
  · have hm := mNew_bad w n hbad
    clear hbad h
    go_enter Tryz.func6, Tryz.ntmps6
    go_wp2_with (first | (go_at_call 27; refine hm.mono ?_; rintro e w' ⟨rfl, rfl⟩))
    go_ret2
    exact ⟨rfl, Below.refl _ _⟩
  · obtain ⟨k, rfl⟩ : ∃ k : Nat, n = (k : Int) := ⟨n.toNat, by omega⟩
    have hm := mNew_ok w k (by omega) (by omega)
    have hcase : (s < 1 ∨ f < 1) ∨ (1 ≤ s ∧ 1 ≤ f ∧ (16 < s ∨ 16 < f)) := by omega
    clear hbad h
    rcases hcase with hc | ⟨h1, h2, hc⟩
    · have hmin : min s f < 1 := by omega
      clear hc
      go_enter Tryz.func6, Tryz.ntmps6
      go_wp2_with (first | (go_at_call 27; refine hm.mono ?_; rintro e w1 ⟨pm, pb, rfl, hM1, hpm, hpb, hB1⟩))
      all_goals
        go_ret2
        exact ⟨rfl, hB1⟩
    · have hmax : 16 < max s f := by omega
      clear hc
      go_enter Tryz.func6, Tryz.ntmps6
      go_wp2_with (first | (go_at_call 27; refine hm.mono ?_; rintro e w1 ⟨pm, pb, rfl, hM1, hpm, hpb, hB1⟩))
      all_goals
        go_ret2
        exact ⟨rfl, hB1⟩

set_option maxRecDepth 100000 in
set_option maxHeartbeats 1600000 in
theorem dNew_ok (w : World) (n s f : Nat) (n0 : 1 ≤ n) (n1 : n ≤ 4096) (s0 : 1 ≤ s) (s1 : s ≤ 16) (f0 : 1 ≤ f) (f1 : f ≤ 16) :
    Calls Tryz.prog 6 #[.int .i64 n, .int .i64 s, .int .i64 f] w fun e w' => ∃ B : DB, e = .returned (.tuple #[.pointer (some ⟨B.d, 0, none⟩), .int .i64 0]) ∧ DevAt w' B (newD n s f) ∧ (∀ k ∈ B.all, w.heap.size ≤ k) ∧ Below w.heap.size w w' := by
  obtain ⟨i0, hi, hz0, hz1, hz2⟩ := info_parts infoStrD
  obtain ⟨i1, hi', hz0', hz1', hz2'⟩ := info_parts infoBool
  have hmkS : ∀ W : World, (Instr.makeSlice 36 (.int .i64 (s : Int)) (.int .i64 (s : Int))).run Tryz.prog W = .ok (.slice (some ⟨W.heap.size, 0, none⟩) s s) (W.alloc (.cells (rowS s) 9)) := fun W => by
    have := run_make_rowN (P := Tryz.prog) 36 9 i0 _ Tryz.underlying36 hi hz0 .i64 .i64 s s (Nat.le_refl _) (by rw [hz2]; omega) (by omega) W
    rw [this, hz1]; rfl
  have hmkF : ∀ W : World, (Instr.makeSlice 60 (.int .i64 (f : Int)) (.int .i64 (f : Int))).run Tryz.prog W = .ok (.slice (some ⟨W.heap.size, 0, none⟩) f f) (W.alloc (.cells (rowF f) 4)) := fun W => by
    have := run_make_rowN (P := Tryz.prog) 60 4 i1 _ Tryz.underlying60 hi' hz0' .i64 .i64 f f (Nat.le_refl _) (by rw [hz2']; omega) (by omega) W
    rw [this, hz1']; rfl
  have hm := mNew_ok w n (by omega) (by omega)
  have a1 : (1 : Int) ≤ (s : Int) := by omega
  have a2 : (s : Int) ≤ 16 := by omega
  have a3 : (1 : Int) ≤ (f : Int) := by omega
  have a4 : (f : Int) ≤ 16 := by omega
  have b1 : ¬ min (s : Int) (f : Int) < 1 := by omega
  have b2 : ¬ 16 < max (s : Int) (f : Int) := by omega
  clear hi hz0 hz1 hz2 hi' hz0' hz1' hz2'
  go_enter Tryz.func6, Tryz.ntmps6
  go_wp2_with (first | (go_at_call 27; refine hm.mono ?_; rintro e w1 ⟨pm, pb, rfl, hM1, hpm, hpb, hB1⟩))
  have hz1 := hB1.size
  have hl1 := hM1.lt
  have hl2 := hM1.arr.lt
  generalize hbd : w1.heap.size = bd at *
  generalize hW : w1.alloc (.cells #[.slice none 0 0, .slice none 0 0, .int .i64 0, .int .i64 0, .pointer (some ⟨pm, 0, none⟩), .bool false, .int .i64 (-1)] 64) = W0
  have hF0 : Fr [] w1 W0 := by rw [← hW]; exact (Fr.refl _ _).alloc _
  have q0 : W0.cell? ⟨bd, 0, none⟩ = some (.slice none 0 0) := by rw [← hW, ← hbd]; simp
  have q1 : W0.cell? ⟨bd, 1, none⟩ = some (.slice none 0 0) := by rw [← hW, ← hbd]; simp
  have q2 : W0.cell? ⟨bd, 2, none⟩ = some (.int .i64 0) := by rw [← hW, ← hbd]; simp
  have q3 : W0.cell? ⟨bd, 3, none⟩ = some (.int .i64 0) := by rw [← hW, ← hbd]; simp
  have q4 : W0.cell? ⟨bd, 4, none⟩ = some (.pointer (some ⟨pm, 0, none⟩)) := by rw [← hW, ← hbd]; simp
  have q5 : W0.cell? ⟨bd, 5, none⟩ = some (.bool false) := by rw [← hW, ← hbd]; simp
  have q6 : W0.cell? ⟨bd, 6, none⟩ = some (.int .i64 (-1)) := by rw [← hW, ← hbd]; simp
  have qz : ∀ o, W0.frozen? ⟨bd, o, none⟩ = false := fun o => by rw [← hW, ← hbd]; simp
  have qs : W0.heap.size = bd + 1 := by rw [← hW, ← hbd]; simp
  have qz0 := qz 0
  have qz1 := qz 1
  have ql : bd < W0.heap.size := by omega
  have hM0 := Lib.hid (hM1.fr hF0 (by simp) (by simp))
  have hF0' := Lib.hid hF0
  have H := Lib.hid (⟨q2, q3, q4, q5, q6⟩ : _ ∧ _ ∧ _ ∧ _ ∧ _)
  have qz' := Lib.hid qz
  have qs' := Lib.hid qs
  have hbd' := Lib.hid hbd
  clear hW q2 q3 q4 q5 q6 qz qs hbd b1 b2 hM1 hF0 hm
  go_region
  · have hX : ((W0.setCell ⟨bd, 0, none⟩ (.slice (some ⟨W0.heap.size, 0, none⟩) s s)).setCell ⟨bd, 1, none⟩ (.slice (some ⟨W0.heap.size + 1, 0, none⟩) f f)).heap.size = W0.heap.size := by simp [World.setCell]
    have hFX : Fr [bd] W0 ((W0.setCell ⟨bd, 0, none⟩ (.slice (some ⟨W0.heap.size, 0, none⟩) s s)).setCell ⟨bd, 1, none⟩ (.slice (some ⟨W0.heap.size + 1, 0, none⟩) f f)) := ((Fr.refl _ _).setCell (by simp) _).setCell (by simp) _
    have e0 : ((W0.setCell ⟨bd, 0, none⟩ (.slice (some ⟨W0.heap.size, 0, none⟩) s s)).setCell ⟨bd, 1, none⟩ (.slice (some ⟨W0.heap.size + 1, 0, none⟩) f f)).cell? ⟨bd, 0, none⟩ = some (.slice (some ⟨W0.heap.size, 0, none⟩) s s) := by simp [cell_set, q0]
    have e1 : ((W0.setCell ⟨bd, 0, none⟩ (.slice (some ⟨W0.heap.size, 0, none⟩) s s)).setCell ⟨bd, 1, none⟩ (.slice (some ⟨W0.heap.size + 1, 0, none⟩) f f)).cell? ⟨bd, 1, none⟩ = some (.slice (some ⟨W0.heap.size + 1, 0, none⟩) f f) := by simp [cell_set, q1]
    have e2 : ∀ o, 2 ≤ o → ((W0.setCell ⟨bd, 0, none⟩ (.slice (some ⟨W0.heap.size, 0, none⟩) s s)).setCell ⟨bd, 1, none⟩ (.slice (some ⟨W0.heap.size + 1, 0, none⟩) f f)).cell? ⟨bd, o, none⟩ = W0.cell? ⟨bd, o, none⟩ := fun o ho => by rw [cell_set, if_neg (by omega), cell_set, if_neg (by omega)]
    have ez : ∀ o, ((W0.setCell ⟨bd, 0, none⟩ (.slice (some ⟨W0.heap.size, 0, none⟩) s s)).setCell ⟨bd, 1, none⟩ (.slice (some ⟨W0.heap.size + 1, 0, none⟩) f f)).frozen? ⟨bd, o, none⟩ = false := fun o => by simpa using qz'.out o
    have hR := devEnd (rawD_ok n s f (by omega) n1 (by omega) s1 (by omega) f1) hM0.out H.out hFX hX (rowS s) (rowF f) 9 4 e0 e1 e2 ez (by omega) (.inl ⟨rfl, rfl, rfl, rfl⟩)
    have hR' := Lib.hid hR
    clear hX hFX e0 e1 e2 ez q0 q1 qz0 qz1 hmkS hmkF hR
    generalize ((((W0.setCell ⟨bd, 0, none⟩ (.slice (some ⟨W0.heap.size, 0, none⟩) s s)).setCell ⟨bd, 1, none⟩ (.slice (some ⟨W0.heap.size + 1, 0, none⟩) f f)).alloc (.cells (rowS s) 9)).alloc (.cells (rowF f) 4)).drew = W5 at *
    go_wp2_with fail
    refine (dBattery _ _ _ hR'.out.1).mono ?_
    rintro e w' ⟨rfl, hD, hF⟩
    rw [rawD_ba] at hD
    have hF2 := hR'.out.2.weaken (T := [bd]) (by simp)
    have hfin : Below w.heap.size w w' := by
      have e1 : Below w.heap.size w W0 := hB1.trans (hF0'.out.below (by have := hbd'.out; omega) (by simp))
      have e2 : Below w.heap.size w W5 := e1.trans (hF2.below e1.size (by simp; omega))
      exact e2.trans (hF.below e2.size (by have := qs'.out; simp [DB.l]; omega))
    clear hF hF2 hR' H
    go_wp2
    go_ret2
    exact ⟨_, rfl, hD, by have := qs'.out; simp [DB.all]; omega, hfin⟩
  · have hX : ((W0.setCell ⟨bd, 0, none⟩ (.slice (some ⟨W0.heap.size + 1, 0, none⟩) s s)).setCell ⟨bd, 1, none⟩ (.slice (some ⟨W0.heap.size, 0, none⟩) f f)).heap.size = W0.heap.size := by simp [World.setCell]
    have hFX : Fr [bd] W0 ((W0.setCell ⟨bd, 0, none⟩ (.slice (some ⟨W0.heap.size + 1, 0, none⟩) s s)).setCell ⟨bd, 1, none⟩ (.slice (some ⟨W0.heap.size, 0, none⟩) f f)) := ((Fr.refl _ _).setCell (by simp) _).setCell (by simp) _
    have e0 : ((W0.setCell ⟨bd, 0, none⟩ (.slice (some ⟨W0.heap.size + 1, 0, none⟩) s s)).setCell ⟨bd, 1, none⟩ (.slice (some ⟨W0.heap.size, 0, none⟩) f f)).cell? ⟨bd, 0, none⟩ = some (.slice (some ⟨W0.heap.size + 1, 0, none⟩) s s) := by simp [cell_set, q0]
    have e1 : ((W0.setCell ⟨bd, 0, none⟩ (.slice (some ⟨W0.heap.size + 1, 0, none⟩) s s)).setCell ⟨bd, 1, none⟩ (.slice (some ⟨W0.heap.size, 0, none⟩) f f)).cell? ⟨bd, 1, none⟩ = some (.slice (some ⟨W0.heap.size, 0, none⟩) f f) := by simp [cell_set, q1]
    have e2 : ∀ o, 2 ≤ o → ((W0.setCell ⟨bd, 0, none⟩ (.slice (some ⟨W0.heap.size + 1, 0, none⟩) s s)).setCell ⟨bd, 1, none⟩ (.slice (some ⟨W0.heap.size, 0, none⟩) f f)).cell? ⟨bd, o, none⟩ = W0.cell? ⟨bd, o, none⟩ := fun o ho => by rw [cell_set, if_neg (by omega), cell_set, if_neg (by omega)]
    have ez : ∀ o, ((W0.setCell ⟨bd, 0, none⟩ (.slice (some ⟨W0.heap.size + 1, 0, none⟩) s s)).setCell ⟨bd, 1, none⟩ (.slice (some ⟨W0.heap.size, 0, none⟩) f f)).frozen? ⟨bd, o, none⟩ = false := fun o => by simpa using qz'.out o
    have hR := devEnd (rawD_ok n s f (by omega) n1 (by omega) s1 (by omega) f1) hM0.out H.out hFX hX (rowF f) (rowS s) 4 9 e0 e1 e2 ez (by omega) (.inr ⟨rfl, rfl, rfl, rfl⟩)
    have hR' := Lib.hid hR
    clear hX hFX e0 e1 e2 ez q0 q1 qz0 qz1 hmkS hmkF hR
    generalize ((((W0.setCell ⟨bd, 0, none⟩ (.slice (some ⟨W0.heap.size + 1, 0, none⟩) s s)).setCell ⟨bd, 1, none⟩ (.slice (some ⟨W0.heap.size, 0, none⟩) f f)).alloc (.cells (rowF f) 4)).alloc (.cells (rowS s) 9)).drew = W5 at *
    go_wp2_with fail
    refine (dBattery _ _ _ hR'.out.1).mono ?_
    rintro e w' ⟨rfl, hD, hF⟩
    rw [rawD_ba] at hD
    have hF2 := hR'.out.2.weaken (T := [bd]) (by simp)
    have hfin : Below w.heap.size w w' := by
      have e1 : Below w.heap.size w W0 := hB1.trans (hF0'.out.below (by have := hbd'.out; omega) (by simp))
      have e2 : Below w.heap.size w W5 := e1.trans (hF2.below e1.size (by simp; omega))
      exact e2.trans (hF.below e2.size (by have := qs'.out; simp [DB.l]; omega))
    clear hF hF2 hR' H
    go_wp2
    go_ret2
    exact ⟨_, rfl, hD, by have := qs'.out; simp [DB.all]; omega, hfin⟩

end Go.Proofs.YtogljlloobjeoaaGreat
