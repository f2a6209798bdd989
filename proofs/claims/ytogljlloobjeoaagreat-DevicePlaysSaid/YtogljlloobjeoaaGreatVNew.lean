/- New of the specification's device. -/
import Derived.Test.YtogljlloobjeoaaGreatVDev
import Derived.Test.YtogljlloobjeoaaGreatDevN
import Derived.Test.YtogljlloobjeoaaGreatApp
import Derived.Test.YtogljlloobjeoaaGreatNewR
namespace Go.Proofs.YtogljlloobjeoaaGreat
open Go.RowKit
set_option linter.unusedSimpArgs false
set_option linter.unusedVariables false

set_option maxRecDepth 100000 in
set_option maxHeartbeats 4000000 in
theorem qNew_bad (w : World) (n s f : Int) (h : n < 1 ∨ 4096 < n ∨ s < 1 ∨ 16 < s ∨ f < 1 ∨ 16 < f) :
    Calls Tryz.prog 7 #[.int .i64 n, .int .i64 s, .int .i64 f] w fun e w' => e = .returned (.tuple #[.pointer none, .int .i64 1]) ∧ w = w' := by
  by_cases h1 : n < 1
  · clear h
    go_enter Tryz.func7, Tryz.ntmps7
    go_wp2_with fail
    go_ret2
    exact ⟨rfl, rfl⟩
  have h1i : 1 ≤ n := by omega
  by_cases h2 : 4096 < n
  · clear h h1
    go_enter Tryz.func7, Tryz.ntmps7
    go_wp2_with fail
    go_ret2
    exact ⟨rfl, rfl⟩
  have h2i : n ≤ 4096 := by omega
  by_cases h3 : s < 1
  · clear h h1 h2
    go_enter Tryz.func7, Tryz.ntmps7
    go_wp2_with fail
    go_ret2
    exact ⟨rfl, rfl⟩
  have h3i : 1 ≤ s := by omega
  by_cases h4 : 16 < s
  · clear h h1 h2 h3
    go_enter Tryz.func7, Tryz.ntmps7
    go_wp2_with fail
    go_ret2
    exact ⟨rfl, rfl⟩
  have h4i : s ≤ 16 := by omega
  by_cases h5 : f < 1
  · clear h h1 h2 h3 h4
    go_enter Tryz.func7, Tryz.ntmps7
    go_wp2_with fail
    go_ret2
    exact ⟨rfl, rfl⟩
  have h5i : 1 ≤ f := by omega
  have h6 : 16 < f := by omega
  clear h h1 h2 h3 h4 h5
  go_enter Tryz.func7, Tryz.ntmps7
  go_wp2_with fail
  go_ret2
  exact ⟨rfl, rfl⟩

/-- What stands while the slots are made. -/
structure QL (W5 : World) (bd pm pf f j : Nat) (v : Value) (wr : World) : Prop where
  c1 : wr.cell? ⟨bd, 1, none⟩ = some v
  row : wr.ownsRow W5.heap.size 9 1 v j (List.replicate j (.string zero32))
  fr : Fr [bd] W5 wr
  c0 : wr.cell? ⟨bd, 0, none⟩ = some (.pointer (some ⟨pm, 0, none⟩))
  c2 : wr.cell? ⟨bd, 2, none⟩ = some (.slice (some ⟨pf, 0, none⟩) f f)
  c3 : wr.cell? ⟨bd, 3, none⟩ = some (.int .i64 0)
  c4 : wr.cell? ⟨bd, 4, none⟩ = some (.int .i64 0)
  c5 : wr.cell? ⟨bd, 5, none⟩ = some (.bool true)
  c6 : wr.cell? ⟨bd, 6, none⟩ = some (.bool false)
  c7 : wr.cell? ⟨bd, 7, none⟩ = some (.int .i64 0)
  fz : ∀ o, wr.frozen? ⟨bd, o, none⟩ = false
  lt : bd < W5.heap.size
/-- One slot more. -/
theorem QL.next {W5 wr W4 w4 : World} {bd pm pf f j g cap : Nat} {v : Value} (h : QL W5 bd pm pf f j v wr) (hfra : Fr [] wr W4) (hgrow : W4.grownBy w4 v.ownBlock) (hown : w4.ownsRow W5.heap.size 9 1 (.slice (some ⟨g, 0, none⟩) (j + 1) cap) (j + 1) (List.replicate j (.string zero32) ++ [.string zero32])) :
    QL W5 bd pm pf f (j + 1) (.slice (some ⟨g, 0, none⟩) (j + 1) cap) (w4.setCell ⟨bd, 1, none⟩ (.slice (some ⟨g, 0, none⟩) (j + 1) cap)) := by
  have hbl : bd < wr.heap.size := Nat.lt_of_lt_of_le h.lt h.fr.size
  have hvb : ∀ k, v.ownBlock = some k → W5.heap.size ≤ k := fun k hk => (h.row.lt k hk).1
  have hblk := hgrow.block bd (by have := hfra.size; omega) (fun e => by have := hvb bd e.symm; have := h.lt; omega)
  have hb4 : ∀ o, w4.cell? ⟨bd, o, none⟩ = wr.cell? ⟨bd, o, none⟩ := fun o => (World.cell?_of_block (a := ⟨bd, o, none⟩) hblk).trans (hfra.cell (p := ⟨bd, o, none⟩) hbl (by simp))
  have hz4 : ∀ o, w4.frozen? ⟨bd, o, none⟩ = wr.frozen? ⟨bd, o, none⟩ := fun o => (World.frozen?_of_block (a := ⟨bd, o, none⟩) hblk).trans (hfra.frozen (p := ⟨bd, o, none⟩) hbl (by simp))
  have hF4 : Fr [bd] W5 w4 := (h.fr.trans (hfra.weaken (by simp))).grown hgrow (fun k hk => .inr (hvb k hk))
  have hF5 : Fr [bd] w4 (w4.setCell ⟨bd, 1, none⟩ (.slice (some ⟨g, 0, none⟩) (j + 1) cap)) := (Fr.refl _ _).setCell (by simp) _
  have hg : W5.heap.size ≤ g := (hown.lt g rfl).1
  refine ⟨World.cell?_setCell_same _ _ _ ((hb4 1).trans h.c1), ?_, hF4.trans hF5, (oc (by decide)).trans ((hb4 _).trans h.c0), (oc (by decide)).trans ((hb4 _).trans h.c2), (oc (by decide)).trans ((hb4 _).trans h.c3), (oc (by decide)).trans ((hb4 _).trans h.c4), (oc (by decide)).trans ((hb4 _).trans h.c5), (oc (by decide)).trans ((hb4 _).trans h.c6), (oc (by decide)).trans ((hb4 _).trans h.c7), fun o => (World.frozen?_setCell _ _ _ _).trans ((hz4 o).trans (h.fz o)), h.lt⟩
  rw [List.replicate_succ']
  exact ownsRow_fr hown hF5 (fun k hk => by
    have e : g = k := by simpa [Value.ownBlock] using hk
    have := h.lt
    simp; omega)
/-- All slots are made. -/
theorem QL.done {w1 W5 wr : World} {bd pm pb pf n s f : Nat} {v : Value} (h : QL W5 bd pm pf f s v wr) (n0 : 1 ≤ n) (n1 : n ≤ 4096) (s0 : 1 ≤ s) (s1 : s ≤ 16) (f0 : 1 ≤ f) (f1 : f ≤ 16) (hM : MemAt W5 pm pb (newM n)) (hpf : ∀ j, j < f → W5.cell? ⟨pf, j, none⟩ = some (.bool false)) (hpz : ∀ o, W5.frozen? ⟨pf, o, none⟩ = false) (hpl : pf < W5.heap.size)
    (hne : bd ≠ pm ∧ bd ≠ pb ∧ bd ≠ pf ∧ pm ≠ pf ∧ pb ≠ pf) : ∃ g, W5.heap.size ≤ g ∧ RevAt wr ⟨bd, pm, pb, g, pf⟩ (newD n s f) := by
  obtain ⟨g, cp, rfl, hcp, hgb, hgl, hgc, hgz⟩ := row_of_own h.row (by omega)
  have l1 := hM.lt
  have l2 := hM.arr.lt
  have l3 := h.lt
  obtain ⟨n1', n2', n3', n4', n5'⟩ := hne
  refine ⟨g, hgb, ⟨hM.fr h.fr (by simp; exact fun e => n1' e.symm) (by simp; exact fun e => n2' e.symm), h.c0, ⟨cp, by simpa [newD] using hcp, by simpa [newD] using h.c1⟩, ⟨f, by simp [newD], by simpa [newD] using h.c2⟩, h.c3, h.c4, h.c5, ⟨false, 0, h.c6, h.c7, .inl ⟨rfl, rfl⟩⟩,
    fun j x hj => ?_, fun j x hj => ?_, hgl, Nat.lt_of_lt_of_le hpl h.fr.size, h.fz, hgz, fun o => (h.fr.frozen (p := ⟨pf, o, none⟩) hpl (by simp; exact fun e => n3' e.symm)).trans (hpz o), ?_, newD_ok n s f (by omega) n1 (by omega) s1 (by omega) f1⟩⟩
  · have hj' : j < s := by have := (List.getElem?_eq_some_iff.1 hj).1; simpa [newD] using this
    have hx : x = zero32 := by simp [newD, List.getElem?_replicate, hj'] at hj; exact hj.symm
    subst hx
    exact hgc j _ (by rw [List.getElem?_replicate, if_pos hj'])
  · have hj' : j < f := by have := (List.getElem?_eq_some_iff.1 hj).1; simpa [newD] using this
    have hx : x = false := by simp [newD, List.getElem?_replicate, hj'] at hj; exact hj
    subst hx
    exact (h.fr.cell (p := ⟨pf, j, none⟩) hpl (by simp; exact fun e => n3' e.symm)).trans (hpf j hj')
  · simp only; omega

set_option maxRecDepth 100000 in
set_option maxHeartbeats 8000000 in
theorem qNew_ok (w : World) (n s f : Nat) (n0 : 1 ≤ n) (n1 : n ≤ 4096) (s0 : 1 ≤ s) (s1 : s ≤ 16) (f0 : 1 ≤ f) (f1 : f ≤ 16) :
    Calls Tryz.prog 7 #[.int .i64 n, .int .i64 s, .int .i64 f] w fun e w' => ∃ B : DB, e = .returned (.tuple #[.pointer (some ⟨B.d, 0, none⟩), .int .i64 0]) ∧ RevAt w' B (newD n s f) ∧ (∀ k ∈ B.all, w.heap.size ≤ k) ∧ Below w.heap.size w w' := by
  obtain ⟨i0, hi, hz0, hz1, hz2⟩ := info_parts infoStrD
  obtain ⟨i1, hi', hz0', hz1', hz2'⟩ := info_parts infoBool
  have hmkF : ∀ W : World, (Instr.makeSlice 60 (.int .i64 (f : Int)) (.int .i64 (f : Int))).run Tryz.prog W = .ok (.slice (some ⟨W.heap.size, 0, none⟩) f f) (W.alloc (.cells (rowF f) 4)) := fun W => by
    have := run_make_rowN (P := Tryz.prog) 60 4 i1 _ Tryz.underlying60 hi' hz0' .i64 .i64 f f (Nat.le_refl _) (by rw [hz2']; omega) (by omega) W
    rw [this, hz1']; rfl
  clear hi' hz0' hz1' hz2'
  have a0 : (1 : Int) ≤ (n : Int) := by omega
  have a9 : (n : Int) ≤ 4096 := by omega
  have a1 : (1 : Int) ≤ (s : Int) := by omega
  have a2 : (s : Int) ≤ 16 := by omega
  have a3 : (1 : Int) ≤ (f : Int) := by omega
  have a4 : (f : Int) ≤ 16 := by omega
  have hnew := Lib.hid (rNew_ok w n n0 n1)
  go_enter Tryz.func7, Tryz.ntmps7
  go_wp2_with fail
  refine hnew.out.mono ?_
  rintro e w1 ⟨pm, pb, rfl, hM1, hpm, hpb, hB1⟩
  have hz1' := Lib.hid hB1.size
  have hM1' := Lib.hid hM1
  clear hnew hM1
  go_wp2_with fail
  generalize hW5 : (w1.alloc (.cells (rowF f) 4)).alloc (.cells #[.pointer (some ⟨pm, 0, none⟩), .slice none 0 0, .slice (some ⟨w1.heap.size, 0, none⟩) f f, .int .i64 0, .int .i64 0, .bool true, .bool false, .int .i64 0] 69) = W5
  have hF5 : Fr [] w1 W5 := by rw [← hW5]; exact ((Fr.refl _ _).alloc _).alloc _
  have hz5 : W5.heap.size = w1.heap.size + 2 := by rw [← hW5]; simp
  have hpfb : W5.heap[w1.heap.size]? = some (.cells (rowF f) 4 (0, 0)) := by rw [← hW5]; exact (Below.heap_alloc _ _ _ (by simp)).trans (World.alloc_heap_new w1 _)
  have hc : ∀ (o : Nat) x, (#[.pointer (some ⟨pm, 0, none⟩), .slice none 0 0, .slice (some ⟨w1.heap.size, 0, none⟩) f f, .int .i64 0, .int .i64 0, .bool true, .bool false, .int .i64 0] : Array Value)[o]? = some x → W5.cell? ⟨w1.heap.size + 1, o, none⟩ = some x := fun o x hx => by
    rw [← hW5, World.cell?_alloc_at]
    · exact hx
    · simp
  have hQ : Hid (QL W5 (w1.heap.size + 1) pm w1.heap.size f 0 (.slice none 0 0) W5) :=
    ⟨hc 1 _ rfl, World.ownsRow_nil _ _ _ _, Fr.refl _ _, hc 0 _ rfl, hc 2 _ rfl, hc 3 _ rfl, hc 4 _ rfl, hc 5 _ rfl, hc 6 _ rfl, hc 7 _ rfl, fun o => by rw [← hW5]; exact World.frozen?_alloc_at _ _ _ _ (by simp), by omega⟩
  have hpf : Hid ((∀ j, j < f → W5.cell? ⟨w1.heap.size, j, none⟩ = some (.bool false)) ∧ (∀ o, W5.frozen? ⟨w1.heap.size, o, none⟩ = false)) :=
    ⟨fun j hj => by simp only [World.cell?, hpfb]; exact made_get _ _ _ rfl hj, fun o => by simp [World.frozen?, hpfb]⟩
  have hM5 := Lib.hid (hM1'.out.fr hF5 (by simp) (by simp))
  have hB5 := Lib.hid (hB1.trans (hF5.below hB1.size (by simp)))
  have hlt1 := Lib.hid (⟨hM1'.out.lt, hM1'.out.arr.lt⟩ : pm < w1.heap.size ∧ pb < w1.heap.size)
  have hz5' := Lib.hid hz5
  clear hW5 hpfb hc hM1' hF5 hB1 hmkF hz5
  generalize w1.heap.size = pf at *
  go_loopw [11] (fun t wr => ∃ (j : Nat) (v : Value), j ≤ s ∧ t = .int .i64 (j : Int) ∧ Hid (QL W5 (pf + 1) pm pf f j v wr)) (fun t _ => s - (intOf t).toNat)
  case atStart => exact ⟨0, _, Nat.zero_le _, rfl, hQ⟩
  case round =>
    obtain ⟨j, v, hj, rfl, hQj⟩ := hrel
    clear hQ
    by_cases hlt : j < s
    · have hlti : (j : Int) < (s : Int) := by omega
      have c1 := hQj.out.c1
      have hbl : pf + 1 < wr.heap.size := Nat.lt_of_lt_of_le hQj.out.lt hQj.out.fr.size
      have fz1 := hQj.out.fz 1
      have hown := Lib.hid hQj.out.row
      have hsz := Lib.hid hQj.out.fr.size
      have hvb : Hid (∀ k, v.ownBlock = some k → k ≠ pf + 1) := fun k hk e => by have := (hQj.out.row.lt k hk).1; have := hQj.out.lt; omega
      go_wp2_with fail
      go_region_law (first
        | (refine step_call _ (by rfl) 30 _ _ (by rfl) [] (by rfl) (enters_of Tryz.func30 (by kernel_rfl) rfl) ?_
           refine (qZero _).mono ?_
           rintro e w2 ⟨rfl, hB2⟩
           refine ⟨.string zero32, rfl, ?_⟩
           have hfr2 : Fr [] wr w2 := (Fr.refl _ _).drew.trans (Fr.of_below hB2)
           have c12 := (hfr2.cell (p := ⟨pf + 1, 1, none⟩) hbl (by simp)).trans c1
           have hbl2 : pf + 1 < w2.heap.size := Nat.lt_of_lt_of_le hbl hfr2.size
           have hown2 := Lib.hid ((ownsRow_fr hown.out hfr2 (by simp)).alloc (.cells #[.string zero32] 9)))
        | (refine step_append_keep _ (by rfl) _ _ _ (by rfl) W5.heap.size 9 i0 (.string ByteArray.empty) 1 16 Tryz.underlying36 hi hz0 hz1 hz2 rfl (by decide) v j (List.replicate j (.string zero32)) (by rfl) hown2.out ⟨w2.heap.size, 0, none⟩ 1 1 [.string zero32] (by rfl) rfl (cell_one w2 (.string zero32) 9) (oneC_str _) (by omega) (by unfold maxLen; omega) (by omega) (by have := hfr2.size; have := hsz.out; show W5.heap.size ≤ (w2.heap.push _).size; simp; omega) ?_
           intro g cap w4 hown4 hgrow hor hgl
           have hfra : Fr [] wr (w2.alloc (.cells #[.string zero32] 9)) := hfr2.alloc _
           have hblk := hgrow.block (pf + 1) (by have := hfra.size; omega) (fun e => hvb.out _ e.symm rfl)
           have hc41 : w4.cell? ⟨pf + 1, 1, none⟩ = some v := (World.cell?_of_block (a := ⟨pf + 1, 1, none⟩) hblk).trans ((hfra.cell (p := ⟨pf + 1, 1, none⟩) hbl (by simp)).trans c1)
           have hf41 : w4.frozen? ⟨pf + 1, 1, none⟩ = false := (World.frozen?_of_block (a := ⟨pf + 1, 1, none⟩) hblk).trans ((hfra.frozen (p := ⟨pf + 1, 1, none⟩) hbl (by simp)).trans fz1)
           have hown4' := Lib.hid hown4
           have hgrow' := Lib.hid hgrow
           have hfra' := Lib.hid hfra
           clear hown4 hgrow hor hfra hblk))
      all_goals
        have hQ2 := Lib.hid (hQj.out.next hfra'.out hgrow'.out hown4'.out)
        clear hown4' hgrow' hfra' hc41 hf41 hown2 c12 hfr2 hB2 hQj c1 fz1 hown
        go_wp2_with fail
        go_roundw
        case rel => exact ⟨j + 1, _, by omega, by go_num, hQ2⟩
        case measure => simp [intOf]; omega
    · obtain rfl : j = s := by omega
      obtain ⟨g, hg, hR⟩ := hQj.out.done (w1 := W5) n0 n1 s0 s1 f0 f1 hM5.out hpf.out.1 hpf.out.2 (by have := hz5'.out; omega) (by have := hlt1.out; omega)
      have hR' := Lib.hid hR
      have hfin := hB5.out.trans (hQj.out.fr.below hB5.out.size (by have := hz1'.out; simp; omega))
      have hall : Hid (∀ k ∈ (DB.mk (pf + 1) pm pb g pf).all, w.heap.size ≤ k) := by
        have := hz1'.out
        have := hz5'.out
        intro k hk
        simp only [DB.all, List.mem_cons, List.not_mem_nil, or_false] at hk
        rcases hk with rfl | rfl | rfl | rfl | rfl <;> omega
      clear hR hQj
      go_wp2_with fail
      go_ret2
      exact ⟨⟨pf + 1, pm, pb, g, pf⟩, rfl, hR'.out, hall.out, hfin⟩

end Go.Proofs.YtogljlloobjeoaaGreat
