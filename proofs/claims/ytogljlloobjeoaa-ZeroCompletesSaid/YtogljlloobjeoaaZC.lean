/- Package zero: Steps. -/
import Derived.Test.YtogljlloobjeoaaZB
namespace Go.Proofs.Ytogljlloobjeoaa
open Go.RowKit Go.Shelf

attribute [local go_sem] Oper.semAt_some

/-! ### The list of the steps -/
theorem zList_st {n m i : Nat} (h : i < n) : (zList n m).drop i = .st i :: (zList n m).drop (i + 1) := by
  rw [List.drop_eq_getElem_cons (by rw [zList_length]; omega)]
  congr 1
  unfold zList
  rw [List.getElem_append_left (by simpa using h)]
  simp
theorem zList_wr {n m i : Nat} (h : i < m) : (zList n m).drop (n + i) = .wr i :: (zList n m).drop (n + (i + 1)) := by
  rw [List.drop_eq_getElem_cons (by rw [zList_length]; omega)]
  congr 1
  unfold zList
  rw [List.getElem_append_right (by simp), List.getElem_append_left (by simp; omega)]
  simp
theorem zList_fl (n m : Nat) : (zList n m).drop (n + m) = [.fl, .bu] := by
  unfold zList
  rw [List.drop_append, List.drop_append, List.drop_eq_nil_of_le (by simp), List.drop_eq_nil_of_le (by simp)]
  simp
theorem zList_bu (n m : Nat) : (zList n m).drop (n + m + 1) = [.bu] := by
  have := congrArg (List.drop 1) (zList_fl n m)
  rw [List.drop_drop] at this
  exact this
theorem zList_end (n m : Nat) : (zList n m).drop (n + m + 2) = [] := List.drop_of_length_le (by rw [zList_length]; omega)

/-! ### What stays between the rounds -/
structure ZI (B : DB) (w0 : World) (l D t b1 : Nat) (o : Obj) (x : Int) (W : World) : Prop where
  loop : W.heap[l]? = some o
  dfr : W.heap[D]? = some (.deferred (some []))
  fr : Fr B.l w0 W
  c1 : W.cell? ⟨b1, 0, none⟩ = some (.pointer (some ⟨B.d, 0, none⟩))
  c2 : W.cell? ⟨t, 0, none⟩ = some (.int .i64 x)
  fz : W.frozen? ⟨t, 0, none⟩ = false
/-- The blocks are new ones. -/
structure ZN (B : DB) (w0 : World) (l D t b1 : Nat) : Prop where
  old : ∀ k ∈ B.all, k < w0.heap.size
  l0 : w0.heap.size ≤ l
  d0 : w0.heap.size ≤ D
  t0 : w0.heap.size ≤ t
  b0 : w0.heap.size ≤ b1
  ne : l ≠ D ∧ l ≠ t ∧ l ≠ b1 ∧ D ≠ t ∧ D ≠ b1 ∧ t ≠ b1
section
variable {B : DB} {w0 W W' : World} {l D t b1 : Nat} {o o' : Obj} {x : Int}
theorem ZN.notin (h : ZN B w0 l D t b1) {k : Nat} (hk : w0.heap.size ≤ k) : k ∉ B.l := fun hm => by have := h.old k (B.l_all k hm); omega
theorem ZI.frs (h : ZI B w0 l D t b1 o x W) {S : List Nat} (hf : Fr S W W') (h1 : l ∉ S) (h2 : D ∉ S) (h3 : b1 ∉ S) (h4 : t ∉ S) (h5 : Fr B.l w0 W') : ZI B w0 l D t b1 o x W' :=
  ⟨(hf.block l (Array.getElem?_eq_some_iff.1 h.loop).1 h1).trans h.loop, (hf.block D (Array.getElem?_eq_some_iff.1 h.dfr).1 h2).trans h.dfr, h5,
    (hf.cell (World.block_lt_of_cell? _ _ h.c1) h3).trans h.c1, (hf.cell (World.block_lt_of_cell? _ _ h.c2) h4).trans h.c2, (hf.frozen (World.block_lt_of_cell? _ _ h.c2) h4).trans h.fz⟩
theorem ZI.op (h : ZI B w0 l D t b1 o x W) (n : ZN B w0 l D t b1) (hf : Fr B.l W W') : ZI B w0 l D t b1 o x W' :=
  h.frs hf (n.notin n.l0) (n.notin n.d0) (n.notin n.b0) (n.notin n.t0) (h.fr.trans hf)
theorem ZI.below (h : ZI B w0 l D t b1 o x W) (hf : Below W.heap.size W W') : ZI B w0 l D t b1 o x W' :=
  h.frs (S := []) (Fr.of_below hf) (by simp) (by simp) (by simp) (by simp) (h.fr.trans (Fr.of_below hf))
theorem ZI.put (h : ZI B w0 l D t b1 o x W) (n : ZN B w0 l D t b1) (o' : Obj) : ZI B w0 l D t b1 o' x (W.putObj l o') := by
  have hl := (Array.getElem?_eq_some_iff.1 h.loop).1
  have hp := Fr.putOne W l o'
  have ne := n.ne
  exact ⟨World.putObj_heap_same hl, (World.putObj_heap_other (by first | exact ne.1 | exact fun e => ne.1 e.symm)).trans h.dfr, h.fr.putObj (.inr n.l0) _,
    (hp.cell (World.block_lt_of_cell? _ _ h.c1) (by simp; exact fun e => ne.2.2.1 e.symm)).trans h.c1, (hp.cell (World.block_lt_of_cell? _ _ h.c2) (by simp; exact fun e => ne.2.1 e.symm)).trans h.c2, (hp.frozen (World.block_lt_of_cell? _ _ h.c2) (by simp; exact fun e => ne.2.1 e.symm)).trans h.fz⟩
theorem ZI.store (h : ZI B w0 l D t b1 o x W) (n : ZN B w0 l D t b1) (y : Int) : ZI B w0 l D t b1 o y (W.setCell ⟨t, 0, none⟩ (.int .i64 y)) := by
  have hp : Fr [t] W (W.setCell ⟨t, 0, none⟩ (.int .i64 y)) := (Fr.refl _ _).setCell (by simp) _
  have ne := n.ne
  exact ⟨(hp.block l (Array.getElem?_eq_some_iff.1 h.loop).1 (by simp; exact ne.2.1)).trans h.loop, (hp.block D (Array.getElem?_eq_some_iff.1 h.dfr).1 (by simp; exact ne.2.2.2.1)).trans h.dfr, h.fr.setCell (.inr n.t0) _,
    (hp.cell (World.block_lt_of_cell? _ _ h.c1) (by simp; exact fun e => ne.2.2.2.2.2 e.symm)).trans h.c1, World.cell?_setCell_same _ _ _ h.c2, (World.frozen?_setCell _ _ _ _).trans h.fz⟩
/-- A device is not touched by a turn in the new blocks. -/
theorem ZN.dev (n : ZN B w0 l D t b1) {d : Dv} (h : DevAt W B d) {k : Nat} (hf : Fr [k] W W') (hk : w0.heap.size ≤ k) : DevAt W' B d :=
  h.fr hf (fun j hj hm => by have := n.old j hm; simp at hj; omega)
end

set_option maxRecDepth 100000 in
set_option maxHeartbeats 2000000 in
theorem zStepsN (w : World) (B : DB) (d : Dv) (h : DevAt w B d) : Calls Try.prog 44 #[.pointer (some ⟨B.d, 0, none⟩)] w fun e w' => e = .returned (.int .i64 (zSteps d : Nat)) ∧ DevAt w' B d ∧ Fr B.l w w' := by
  refine (callsIn_wide (n := 5)).1 ?_
  have hwd : Fence.wide.depth.isSome = false := rfl
  have hwfn : ∀ f, Fence.wide.fn f := fun _ => trivial
  refine callsIn_of_wp_marks Try.func44 rfl trivial ?_ rfl
  simp only [Try.ntmps44, List.size_toArray, List.length_cons, List.length_nil, Nat.reduceAdd, Nat.reduceSub, Array.replicate_succ, Array.replicate_zero, List.push_toArray, List.append_toArray, List.nil_append, List.cons_append]
  have hfa : Fr [] w (w.alloc (.cells #[.int .i64 0] 3)) := (Fr.refl _ _).alloc _
  have ha := h.fr hfa (by simp)
  have ks := zState_c _ B d ha
  unfold zSteps
  by_cases hz : zState d = 1
  · rw [if_pos hz]
    rw [hz] at ks
    gi_wp2_with (first
      | (gi_at_call 43; refine (callsIn_wide.2 ks).mono ?_; rintro e w' ⟨rfl, rfl⟩)
      | (gi_at_call 100; refine (callsIn_wide.2 (zSteps_make _ _)).mono ?_; rintro e w' ⟨rfl, rfl⟩))
    obtain ⟨w1, hw1⟩ : ∃ w1, (w.alloc (.cells #[.int .i64 0] 3)).alloc (.cells #[.pointer (some ⟨B.d, 0, none⟩)] 63) = w1 := ⟨_, rfl⟩
    have hz1 : w1.heap.size = w.heap.size + 2 := by rw [← hw1]; simp
    have hf1 : Fr [] w w1 := by rw [← hw1]; exact ((Fr.refl _ _).alloc _).alloc _
    have hb1 : w1.cell? ⟨w.heap.size + 1, 0, none⟩ = some (.pointer (some ⟨B.d, 0, none⟩)) := by
      rw [← hw1]; have := cell_newB (w.alloc (.cells #[.int .i64 0] 3)) (.pointer (some ⟨B.d, 0, none⟩)) 63
      rwa [World.size_alloc] at this
    have hb2 : w1.cell? ⟨w.heap.size, 0, none⟩ = some (.int .i64 0) := by
      rw [← hw1, World.cell?_alloc_lt _ _ _ (by simp), cell_newB]
    have hb3 : w1.frozen? ⟨w.heap.size, 0, none⟩ = false := by
      rw [← hw1, World.frozen?_alloc_old _ _ _ (by simp)]; simp
    have hD1 := h.fr hf1 (by simp)
    rw [hw1]
    clear hw1 ha hfa ks hz
    refine wpIn_rf (gf := 124) (lb := #[.pointer (some ⟨w.heap.size + 1, 0, none⟩)]) rfl (enters_of Try.func124 (by kernel_rfl) rfl) ?_
    intro rec hround
    obtain ⟨l, hl⟩ : ∃ l, w1.heap.size + 1 = l := ⟨_, rfl⟩
    rw [hl] at hround ⊢
    have hfr2 : Fr [] w1 ((w1.alloc (.deferred (some []))).alloc (.loop (rec .ready none))) := ((Fr.refl _ _).alloc _).alloc _
    have hD2 := hD1.fr hfr2 (by simp)
    have hN : ZN B w l w1.heap.size w.heap.size (w.heap.size + 1) := ⟨h.all_lt, by omega, by omega, by omega, by omega, by omega⟩
    have hz1' := Lib.hid hz1
    clear hz1
    have hI0 : ZI B w l w1.heap.size w.heap.size (w.heap.size + 1) (.loop (rec .ready none)) 0 ((w1.alloc (.deferred (some []))).alloc (.loop (rec .ready none))) := by
      refine ⟨?_, ?_, (hf1.trans hfr2).weaken (by simp), ?_, ?_, ?_⟩
      · have := World.alloc_heap_new (w1.alloc (.deferred (some []))) (.loop (rec .ready none)); rw [World.size_alloc, hl] at this; exact this
      · exact (Below.heap_alloc _ _ _ (by simp)).trans (World.alloc_heap_new w1 _)
      · exact (hfr2.cell (World.block_lt_of_cell? _ _ hb1) (by simp)).trans hb1
      · exact (hfr2.cell (World.block_lt_of_cell? _ _ hb2) (by simp)).trans hb2
      · exact (hfr2.frozen (World.block_lt_of_cell? _ _ hb2) (by simp)).trans hb3
    have hround' : ∀ i W x, ZI B w l w1.heap.size w.heap.size (w.heap.size + 1) (.loop (rec .ready none)) (i : Nat) W → DevAt W B d → i < 5000 → x.size = 1 →
        YieldAt Fence.wide 3 Try.prog l x W fun e W' => (e = .returned (.bool true) ∧ (ZI B w l w1.heap.size w.heap.size (w.heap.size + 1) (.loop (rec .ready none)) ((i + 1 : Nat) : Int) W' ∧ DevAt W' B d)) ∨ (e = .returned (.bool false) ∧ False) := by
      intro i W x hI hD hi hx
      refine hround W _ _ hI.loop hx ?_
      obtain ⟨x0, rfl⟩ : ∃ x0, x = #[x0] := by
        cases x with | mk xs => match xs, hx with | [y], _ => exact ⟨y, rfl⟩
      have hI5 := hI.put hN (.loop (rec .busy none))
      have hD5 := hN.dev hD (Fr.putOne W l (.loop (rec .busy none))) hN.l0
      have hlo := hI.loop
      gi_wp2
      clear hlo
      generalize W.putObj l (.loop (rec .busy none)) = W5 at *
      unfold AtBody
      have c2 := hI5.c2
      have fz := hI5.fz
      gi_wp2
      exact ⟨(hI5.store hN _).loop, rfl, (hI5.store hN _).put hN _, hN.dev (hN.dev hD5 ((Fr.refl _ _).setCell (by simp) _) hN.t0) (Fr.putOne _ _ _) hN.l0⟩
    have hms := h.ok.m1
    have hss : zSlots d ≤ 16 := by have := h.ok.s1; unfold zSlots; split <;> omega
    refine ((zSteps1_c 4 l 3 (fun i W => ZI B w l w1.heap.size w.heap.size (w.heap.size + 1) (.loop (rec .ready none)) (i : Nat) W ∧ DevAt W B d) (fun _ => False) (w.heap.size + 1) B (zSlots d) d.M.length ?_ h.ok.m1 rfl ?_ ?_ ?_ ?_ ?_ ?_ ?_ ?_ _ ⟨hI0, hD2⟩)).mono ?_
    · exact hss
    · exact fun i W h => h.1.c1
    · exact fun i W W' h hb => ⟨h.1.below hb, h.2.below hb⟩
    · exact fun W h => ⟨d, h.2, rfl⟩
    · exact fun W h => ⟨d, h.2, rfl⟩
    · exact fun i W b3 h hi _ _ => hround' i W _ h.1 h.2 (by omega) rfl
    · exact fun i W b3 h hi _ _ => hround' (zSlots d + i) W _ h.1 h.2 (by omega) rfl
    · exact fun W h => hround' _ W _ h.1 h.2 (by omega) rfl
    · exact fun W h => hround' _ W _ h.1 h.2 (by omega) rfl
    · rintro e W' ⟨⟨v, rfl⟩, (⟨g1, g2⟩ | h)⟩
      · refine ⟨⟨_, rfl⟩, .inl ⟨g1.loop, ?_⟩⟩
        have hI5 := g1.put hN (.loop (rec .exhausted none))
        have hD5 := hN.dev g2 (Fr.putOne W' l (.loop (rec .exhausted none))) hN.l0
        generalize W'.putObj l (.loop (rec .exhausted none)) = W5 at *
        have c2 := hI5.c2
        have fz := hI5.fz
        clear g1 g2
        gi_wp2
        have hI6 := hI5.store hN (zSlots d + d.M.length + 2)
        have hD6 := hN.dev hD5 (W' := W5.setCell ⟨w.heap.size, 0, none⟩ (.int .i64 (zSlots d + d.M.length + 2))) ((Fr.refl _ _).setCell (by simp) _) hN.t0
        refine ⟨by simp, .inl ⟨_, _, rfl, run_takeDeferred hI6.dfr, ?_⟩⟩
        have hdl : w.heap.size ≠ w1.heap.size := by have := hz1'.out; omega
        have hI7c : ((W5.setCell ⟨w.heap.size, 0, none⟩ (.int .i64 (zSlots d + d.M.length + 2))).putObj w1.heap.size (.deferred none)).cell? ⟨w.heap.size, 0, none⟩ = some (.int .i64 (zSlots d + d.M.length + 2)) := ((Fr.putOne _ _ _).cell (World.block_lt_of_cell? _ _ hI6.c2) (by simpa using hdl)).trans hI6.c2
        refine ⟨.int .i64 (zSlots d + d.M.length + 2), ?_, rfl, hN.dev hD6 (Fr.putOne _ _ _) hN.d0, hI6.fr.putObj (.inr hN.d0) _⟩
        simp [results, Try.results44, go_sem, hI7c]
      · exact h.elim
  · rw [if_neg hz]
    have hz' : (zState d == 1) = false := by simpa using hz
    gi_wp2_with (gi_at_call 43; refine (callsIn_wide.2 ks).mono ?_; rintro e w' ⟨rfl, rfl⟩)
    refine ⟨.int .i64 0, by simp [results, Try.results44, go_sem], rfl, ?_, ?_⟩
    · exact h.fr (hfa.trans ((Fr.refl _ _))) (by simp)
    · exact hfa.weaken (by simp)

end Go.Proofs.Ytogljlloobjeoaa
