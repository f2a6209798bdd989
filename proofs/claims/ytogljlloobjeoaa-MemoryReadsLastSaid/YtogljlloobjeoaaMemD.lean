/- The lists of sectors' numbers of package memory. -/
import Derived.Test.YtogljlloobjeoaaMemC
import Derived.Test.YtogljlloobjeoaaRefA
import Derived.RangeFuncBox
import Derived.Maps.AppendAt
namespace Go.Proofs.Ytogljlloobjeoaa
open Go.RowKit Go.Shelf

attribute [local go_sem] Oper.semAt_some

set_option maxRecDepth 100000 in
set_option maxHeartbeats 4000000 in
theorem mIndices_dirty (w0 : World) (pm pb : Nat) (M : List Sec) (hM0 : MemAt w0 pm pb M) (hn : M.length ≤ 4096) :
    Calls Try.prog 94 #[.pointer (some ⟨pm, 0, none⟩), .func (.func 92) #[] #[]] w0 fun e w' => ∃ v, e = .returned v ∧ SlAt w' (fun b => w0.heap.size ≤ b) v (nats (idxs Sec.dirty M)) ∧ Below w0.heap.size w0 w' := by
  obtain ⟨i0, hi, hz0, hzA, hzB⟩ := info_parts infoInt
  refine (callsIn_wide (n := 5)).1 ?_
  have hwd : Fence.wide.depth.isSome = false := rfl
  have hwfn : ∀ f, Fence.wide.fn f := fun _ => trivial
  refine callsIn_of_wp_marks Try.func94 rfl trivial ?_ rfl
  simp only [Try.ntmps94, List.size_toArray, List.length_cons, List.length_nil, Nat.reduceAdd, Nat.reduceSub, Array.replicate_succ, Array.replicate_zero, List.push_toArray, List.append_toArray, List.nil_append, List.cons_append]
  gi_wp2_with (gi_at_call 91; refine (callsIn_wide.2 (mSuch_c _ pm _)).mono ?_; rintro e w' ⟨rfl, rfl⟩)
  obtain ⟨w1, hw1⟩ : ∃ w1, ((w0.alloc (.cells #[.slice none 0 0] 35)).alloc (.cells #[.pointer (some ⟨pm, 0, none⟩)] 23)).alloc (.cells #[.func (.func 92) #[] #[]] 131) = w1 := ⟨_, rfl⟩
  have hz1 : w0.heap.size + 3 ≤ w1.heap.size := by rw [← hw1]; simp
  have hfr0 : Fr [] w0 w1 := by rw [← hw1]; exact (((Fr.refl _ _).alloc _).alloc _).alloc _
  have hb0 : w1.cell? ⟨w0.heap.size, 0, none⟩ = some (.slice none 0 0) := by
    rw [← hw1, World.cell?_alloc_lt _ _ _ (by simp; omega), World.cell?_alloc_lt _ _ _ (by simp), cell_newB]
  have hq0 : w1.frozen? ⟨w0.heap.size, 0, none⟩ = false := by
    rw [← hw1, World.frozen?_alloc_old _ _ _ (by simp; omega), World.frozen?_alloc_old _ _ _ (by simp)]; simp
  have hb1 : w1.cell? ⟨w0.heap.size + 1, 0, none⟩ = some (.pointer (some ⟨pm, 0, none⟩)) := by
    rw [← hw1, World.cell?_alloc_lt _ _ _ (by simp)]
    have := cell_newB (w0.alloc (.cells #[.slice none 0 0] 35)) (.pointer (some ⟨pm, 0, none⟩)) 23
    rwa [World.size_alloc] at this
  have hb2 : w1.cell? ⟨w0.heap.size + 1 + 1, 0, none⟩ = some (.func (.func 92) #[] #[]) := by
    rw [← hw1]; have := cell_newB ((w0.alloc (.cells #[.slice none 0 0] 35)).alloc (.cells #[.pointer (some ⟨pm, 0, none⟩)] 23)) (.func (.func 92) #[] #[]) 131
    rwa [World.size_alloc, World.size_alloc] at this
  rw [hw1]
  clear hw1
  have hltm := hM0.lt
  have hltb := hM0.arr.lt
  obtain ⟨cap, hcap, _⟩ := hM0.ptr
  refine wpIn_rf (gf := 122) (lb := #[.pointer (some ⟨w0.heap.size + 1, 0, none⟩), .pointer (some ⟨w0.heap.size + 1 + 1, 0, none⟩)]) rfl (enters_of Try.func122 (by kernel_rfl) rfl) ?_
  intro rec hround
  obtain ⟨l, hl⟩ : ∃ l, w1.heap.size + 1 = l := ⟨_, rfl⟩
  rw [hl] at hround ⊢
  have hfr2 : Fr [] w1 ((w1.alloc (.deferred (some []))).alloc (.loop (rec .ready none))) := ((Fr.refl _ _).alloc _).alloc _
  refine ((mSuch_dirty 4 l 3 (fun i W => W.heap[l]? = some (.loop (rec .ready none)) ∧ W.heap[w1.heap.size]? = some (.deferred (some [])) ∧ Below w0.heap.size w0 W ∧
      W.cell? ⟨w0.heap.size + 1, 0, none⟩ = some (.pointer (some ⟨pm, 0, none⟩)) ∧ W.cell? ⟨w0.heap.size + 1 + 1, 0, none⟩ = some (.func (.func 92) #[] #[]) ∧
      (∃ v, W.cell? ⟨w0.heap.size, 0, none⟩ = some v ∧ W.ownsRow (l + 1) 3 1 v (nats (idxs Sec.dirty (M.take i))).length (nats (idxs Sec.dirty (M.take i)))) ∧ W.frozen? ⟨w0.heap.size, 0, none⟩ = false) (fun _ => False) (w0.heap.size + 1) (w0.heap.size + 1 + 1) pm pb M.length cap (fun i => (M[i]?.map Sec.dirty).getD false) hn rfl ?_ ?_ ?_ ?_
      ((w1.alloc (.deferred (some []))).alloc (.loop (rec .ready none))) ?_)).mono ?_
  · rintro i W ⟨g1, g2, g3, g5, g6, g7, g8⟩
    exact ⟨g5, g6, (g3.cell (by exact hltm)).trans hcap⟩
  · rintro i W ⟨g1, g2, g3, g5, g6, g7, g8⟩ hi
    have := hM0.arr.sec i M[i] (List.getElem?_eq_getElem hi)
    rw [(g3.cell (by exact hltb)), this.2.2.2.1, List.getElem?_eq_getElem hi]; rfl
  · rintro i W ⟨g1, g2, g3, g5, g6, g7, g8⟩ hi hy
    have hs : M[i]? = some M[i] := List.getElem?_eq_getElem hi
    have hd : (M[i]).dirty = false := by rw [hs] at hy; exact hy
    have he := idxs_take_succ Sec.dirty M i _ hs
    rw [hd] at he
    have he' : idxs Sec.dirty (M.take (i + 1)) = idxs Sec.dirty (M.take i) := by simpa using he
    exact ⟨g1, g2, g3, g5, g6, by rw [he']; exact g7, g8⟩
  · rintro i W ⟨g1, g2, g3, g5, g6, ⟨v, g7, g7'⟩, g8⟩ hi2 hy
    refine hround W _ _ g1 rfl ?_
    have hs : M[i]? = some M[i] := List.getElem?_eq_getElem hi2
    have hd : (M[i]).dirty = true := by rw [hs] at hy; exact hy
    have he := idxs_take_succ Sec.dirty M i _ hs
    rw [hd] at he
    have he' := Lib.hid he
    clear he
    have hle : (nats (idxs Sec.dirty (M.take i))).length ≤ 4096 := by
      have := idxs_length_le Sec.dirty (M.take i); simp [nats] at this ⊢; omega
    gi_wp2
    have hlW : l < W.heap.size := (Array.getElem?_eq_some_iff.1 g1).1
    have hfp := Fr.putOne W l (.loop (rec .busy none))
    have hb5 : (W.putObj l (.loop (rec .busy none))).heap[l]? = some (.loop (rec .busy none)) := World.putObj_heap_same hlW
    have hd5 : (W.putObj l (.loop (rec .busy none))).heap[w1.heap.size]? = some (.deferred (some [])) := (World.putObj_heap_other (by omega)).trans g2
    have hf5 : Below w0.heap.size w0 (W.putObj l (.loop (rec .busy none))) := g3.trans (hfp.below (by omega) (by simp; omega))
    have h51 := (hfp.cell (p := ⟨w0.heap.size + 1, 0, none⟩) (by have := World.block_lt_of_cell? _ _ g5; exact this) (by simp; omega)).trans g5
    have h52 := (hfp.cell (p := ⟨w0.heap.size + 1 + 1, 0, none⟩) (by have := World.block_lt_of_cell? _ _ g6; exact this) (by simp; omega)).trans g6
    have h53 := (hfp.cell (p := ⟨w0.heap.size, 0, none⟩) (by have := World.block_lt_of_cell? _ _ g7; exact this) (by simp; omega)).trans g7
    have h54 := (hfp.frozen (p := ⟨w0.heap.size, 0, none⟩) (by have := World.block_lt_of_cell? _ _ g7; exact this) (by simp; omega)).trans g8
    have h55 := g7'.kept (grownBy_putObj' W l (.loop (rec .busy none))) (by
      cases hv : v.ownBlock with
      | none => exact .inl rfl
      | some k => right; have := (g7'.lt k hv).1; intro e; injection e; omega)
    generalize W.putObj l (.loop (rec .busy none)) = W5 at *
    unfold AtBody
    have hl5 : l < W5.heap.size := (Array.getElem?_eq_some_iff.1 hb5).1
    clear g1 g2 g3 g5 g6 g7 g7' g8 hfp hlW hs hy
    have HB := Lib.hid (⟨hb5, hd5, h51, h52⟩ : _ ∧ _ ∧ _ ∧ _)
    clear hb5 hd5 h51 h52
    gi_wp2_with (gi_at_builtin; refine wpListIn_append_own _ rfl _ _ 35 rfl (l + 1) 3 i0 (.int .i64 0) 1 8 Try.underlying35 hi hz0 hzA hzB rfl (by decide) _ _ _ rfl (h55.alloc _) ⟨W5.heap.size, 0, none⟩ 1 1 [.int .i64 (i : Int)] rfl rfl (cell_one _ _ _) (oneC_int _) ?c3 ?c4 ?c5 ?_)
    case c3 => unfold maxLen; omega
    case c4 => omega
    case c5 => simp; omega
    intro v' w2 hown' hgrow _
    have hown2 : w2.ownsRow (l + 1) 3 1 v' (nats (idxs Sec.dirty (M.take (i + 1)))).length (nats (idxs Sec.dirty (M.take (i + 1)))) := by
      rw [he'.out]; simpa [nats] using hown'
    obtain ⟨g', cap', hv'⟩ := ownsRow_succ hown'
    subst hv'
    have hg2 : Fr [] W5 (W5.alloc (.cells #[.int .i64 (i : Int)] 3)) := (Fr.refl _ _).alloc _
    have hne : ∀ k, k < l + 1 → some k ≠ v.ownBlock := fun k hk e => by have := (h55.lt k e.symm).1; omega
    have hk2 : ∀ k o, k < l + 1 → W5.heap[k]? = some o → w2.heap[k]? = some o := fun k o hk ho => by
      have hkl := (Array.getElem?_eq_some_iff.1 ho).1
      exact (hgrow.block k (by simp; omega) (hne k hk)).trans ((hg2.block k hkl (by simp)).trans ho)
    have hc2 : ∀ k, k < l + 1 → k < W5.heap.size → w2.heap[k]? = W5.heap[k]? := fun k hk hkl => (hgrow.block k (by simp; omega) (hne k hk)).trans (hg2.block k hkl (by simp))
    have hcb : w2.cell? ⟨w0.heap.size, 0, none⟩ = some v := (World.cell?_of_block (hc2 _ (by show w0.heap.size < _; omega) (by show w0.heap.size < _; omega))).trans h53
    have hfb : w2.frozen? ⟨w0.heap.size, 0, none⟩ = false := (World.frozen?_of_block (hc2 _ (by show w0.heap.size < _; omega) (by show w0.heap.size < _; omega))).trans h54
    have hB2 : Below w0.heap.size w0 w2 := (hf5.alloc (by omega) _).grown hgrow (by simp; omega) (fun k hk => by have := (h55.lt k hk).1; omega)
    have hz2 : W5.heap.size ≤ w2.heap.size := by have := hgrow.size; simp at this; omega
    clear h53 h54 hown' hgrow hg2 h55
    have hc2' := Lib.hid hc2
    have hk2' := Lib.hid hk2
    clear hc2 hk2 hne
    gi_wp2
    obtain ⟨hb5, hd5, h51, h52⟩ := HB.out
    have hS : Fr [w0.heap.size] w2 (w2.setCell ⟨w0.heap.size, 0, none⟩ (.slice (some ⟨g', 0, none⟩) ((nats (idxs Sec.dirty (M.take i))).length + 1) cap')) := (Fr.refl _ _).setCell (by simp) _
    have hP : Fr [l] (w2.setCell ⟨w0.heap.size, 0, none⟩ (.slice (some ⟨g', 0, none⟩) ((nats (idxs Sec.dirty (M.take i))).length + 1) cap')) _ := Fr.putOne _ l (.loop (rec .ready none))
    have hSP := (hS.weaken (T := [w0.heap.size, l]) (by simp)).trans (hP.weaken (by simp))
    refine ⟨(hS.block l (by omega) (by simp; omega)).trans (hk2'.out _ _ (by omega) hb5), rfl, World.putObj_heap_same (by simp; omega), ?_, ?_, ?_, ?_, ⟨.slice (some ⟨g', 0, none⟩) ((nats (idxs Sec.dirty (M.take i))).length + 1) cap', ?_, ?_⟩, ?_⟩
    · exact (hSP.block _ (by omega) (by simp; omega)).trans (hk2'.out _ _ (by omega) hd5)
    · exact hB2.trans (hSP.below (by omega) (by simp; omega))
    · exact (hSP.cell (by show w0.heap.size + 1 < _; omega) (by simp; omega)).trans ((World.cell?_of_block (hc2'.out _ (by show w0.heap.size + 1 < _; omega) (by show w0.heap.size + 1 < _; omega))).trans h51)
    · exact (hSP.cell (by show w0.heap.size + 1 + 1 < _; omega) (by simp; omega)).trans ((World.cell?_of_block (hc2'.out _ (by show w0.heap.size + 1 + 1 < _; omega) (by show w0.heap.size + 1 + 1 < _; omega))).trans h52)
    · exact (hP.cell (by show w0.heap.size < _; simp; omega) (by simp; omega)).trans (World.cell?_setCell_same _ _ _ hcb)
    · have h9 := (ownsRow_setCell_below hown2 (a := ⟨w0.heap.size, 0, none⟩) (by show w0.heap.size < _; omega) (.slice (some ⟨g', 0, none⟩) ((nats (idxs Sec.dirty (M.take i))).length + 1) cap')).kept (grownBy_putObj' _ l (.loop (rec .ready none))) (by
        right; intro e; simp [Value.ownBlock] at e
        have := (hown2.lt g' (by simp [Value.ownBlock])).1; omega)
      exact h9
    · exact (hP.frozen (by show w0.heap.size < _; simp; omega) (by simp; omega)).trans ((World.frozen?_setCell _ _ _ _).trans hfb)
  · refine ⟨?_, ?_, (hfr0.below (Nat.le_refl _) (by simp)).trans (hfr2.below (by omega) (by simp)), ?_, ?_, ⟨.slice none 0 0, ?_, ?_⟩, ?_⟩
    · have := World.alloc_heap_new (w1.alloc (.deferred (some []))) (.loop (rec .ready none)); rw [World.size_alloc, hl] at this; exact this
    · exact (Below.heap_alloc _ _ _ (by simp)).trans (World.alloc_heap_new w1 _)
    · exact (hfr2.cell (World.block_lt_of_cell? _ _ hb1) (by simp)).trans hb1
    · exact (hfr2.cell (World.block_lt_of_cell? _ _ hb2) (by simp)).trans hb2
    · exact (hfr2.cell (World.block_lt_of_cell? _ _ hb0) (by simp)).trans hb0
    · exact World.ownsRow_nil _ _ _ _
    · exact (hfr2.frozen (World.block_lt_of_cell? _ _ hb0) (by simp)).trans hq0
  · rintro e W' ⟨⟨v, rfl⟩, (⟨g1, g2, g3, g5, g6, ⟨v, g7, g7'⟩, g8⟩ | h)⟩
    · refine ⟨⟨_, rfl⟩, .inl ⟨g1, ?_⟩⟩
      rw [List.take_length] at g7'
      have hlW : l < W'.heap.size := (Array.getElem?_eq_some_iff.1 g1).1
      have hlW5 : l < (W'.putObj l (.loop (rec .exhausted none))).heap.size := by simpa using hlW
      have hP := Fr.putOne W' l (.loop (rec .exhausted none))
      have hd5 : (W'.putObj l (.loop (rec .exhausted none))).heap[w1.heap.size]? = some (.deferred (some [])) := (World.putObj_heap_other (by omega)).trans g2
      have hB5 : Below w0.heap.size w0 (W'.putObj l (.loop (rec .exhausted none))) := g3.trans (hP.below (by omega) (by simp; omega))
      have h53 := (hP.cell (p := ⟨w0.heap.size, 0, none⟩) (World.block_lt_of_cell? _ _ g7) (by simp; omega)).trans g7
      have h55 := g7'.kept (grownBy_putObj' W' l (.loop (rec .exhausted none))) (by
        cases hv : v.ownBlock with
        | none => exact .inl rfl
        | some k => right; have := (g7'.lt k hv).1; intro e; injection e; omega)
      generalize W'.putObj l (.loop (rec .exhausted none)) = W5 at *
      clear g1 g2 g3 g5 g6 g7 g7' g8
      gi_wp2
      refine ⟨by simp, .inl ⟨_, _, rfl, run_takeDeferred hd5, ?_⟩⟩
      have hP2 := Fr.putOne W5 w1.heap.size (.deferred none)
      refine ⟨_, results_tmp rfl _ _ _, v, rfl, (SlAt.of_own (h55.kept (grownBy_putObj' W5 w1.heap.size (.deferred none)) (by
        cases hv : v.ownBlock with
        | none => exact .inl rfl
        | some k => right; have := (h55.lt k hv).1; intro e; injection e; omega))).imp (fun b hb => Nat.le_trans (m := l + 1) (by omega) hb), hB5.trans (hP2.below (by omega) (by simp; omega))⟩
    · exact h.elim

set_option maxRecDepth 100000 in
set_option maxHeartbeats 4000000 in
theorem mIndices_worn (w0 : World) (pm pb : Nat) (M : List Sec) (hM0 : MemAt w0 pm pb M) (hn : M.length ≤ 4096) :
    Calls Try.prog 94 #[.pointer (some ⟨pm, 0, none⟩), .func (.func 103) #[] #[]] w0 fun e w' => ∃ v, e = .returned v ∧ SlAt w' (fun b => w0.heap.size ≤ b) v (nats (idxs Sec.worn M)) ∧ Below w0.heap.size w0 w' := by
  obtain ⟨i0, hi, hz0, hzA, hzB⟩ := info_parts infoInt
  refine (callsIn_wide (n := 5)).1 ?_
  have hwd : Fence.wide.depth.isSome = false := rfl
  have hwfn : ∀ f, Fence.wide.fn f := fun _ => trivial
  refine callsIn_of_wp_marks Try.func94 rfl trivial ?_ rfl
  simp only [Try.ntmps94, List.size_toArray, List.length_cons, List.length_nil, Nat.reduceAdd, Nat.reduceSub, Array.replicate_succ, Array.replicate_zero, List.push_toArray, List.append_toArray, List.nil_append, List.cons_append]
  gi_wp2_with (gi_at_call 91; refine (callsIn_wide.2 (mSuch_c _ pm _)).mono ?_; rintro e w' ⟨rfl, rfl⟩)
  obtain ⟨w1, hw1⟩ : ∃ w1, ((w0.alloc (.cells #[.slice none 0 0] 35)).alloc (.cells #[.pointer (some ⟨pm, 0, none⟩)] 23)).alloc (.cells #[.func (.func 103) #[] #[]] 131) = w1 := ⟨_, rfl⟩
  have hz1 : w0.heap.size + 3 ≤ w1.heap.size := by rw [← hw1]; simp
  have hfr0 : Fr [] w0 w1 := by rw [← hw1]; exact (((Fr.refl _ _).alloc _).alloc _).alloc _
  have hb0 : w1.cell? ⟨w0.heap.size, 0, none⟩ = some (.slice none 0 0) := by
    rw [← hw1, World.cell?_alloc_lt _ _ _ (by simp; omega), World.cell?_alloc_lt _ _ _ (by simp), cell_newB]
  have hq0 : w1.frozen? ⟨w0.heap.size, 0, none⟩ = false := by
    rw [← hw1, World.frozen?_alloc_old _ _ _ (by simp; omega), World.frozen?_alloc_old _ _ _ (by simp)]; simp
  have hb1 : w1.cell? ⟨w0.heap.size + 1, 0, none⟩ = some (.pointer (some ⟨pm, 0, none⟩)) := by
    rw [← hw1, World.cell?_alloc_lt _ _ _ (by simp)]
    have := cell_newB (w0.alloc (.cells #[.slice none 0 0] 35)) (.pointer (some ⟨pm, 0, none⟩)) 23
    rwa [World.size_alloc] at this
  have hb2 : w1.cell? ⟨w0.heap.size + 1 + 1, 0, none⟩ = some (.func (.func 103) #[] #[]) := by
    rw [← hw1]; have := cell_newB ((w0.alloc (.cells #[.slice none 0 0] 35)).alloc (.cells #[.pointer (some ⟨pm, 0, none⟩)] 23)) (.func (.func 103) #[] #[]) 131
    rwa [World.size_alloc, World.size_alloc] at this
  rw [hw1]
  clear hw1
  have hltm := hM0.lt
  have hltb := hM0.arr.lt
  obtain ⟨cap, hcap, _⟩ := hM0.ptr
  refine wpIn_rf (gf := 122) (lb := #[.pointer (some ⟨w0.heap.size + 1, 0, none⟩), .pointer (some ⟨w0.heap.size + 1 + 1, 0, none⟩)]) rfl (enters_of Try.func122 (by kernel_rfl) rfl) ?_
  intro rec hround
  obtain ⟨l, hl⟩ : ∃ l, w1.heap.size + 1 = l := ⟨_, rfl⟩
  rw [hl] at hround ⊢
  have hfr2 : Fr [] w1 ((w1.alloc (.deferred (some []))).alloc (.loop (rec .ready none))) := ((Fr.refl _ _).alloc _).alloc _
  refine ((mSuch_worn 4 l 3 (fun i W => W.heap[l]? = some (.loop (rec .ready none)) ∧ W.heap[w1.heap.size]? = some (.deferred (some [])) ∧ Below w0.heap.size w0 W ∧
      W.cell? ⟨w0.heap.size + 1, 0, none⟩ = some (.pointer (some ⟨pm, 0, none⟩)) ∧ W.cell? ⟨w0.heap.size + 1 + 1, 0, none⟩ = some (.func (.func 103) #[] #[]) ∧
      (∃ v, W.cell? ⟨w0.heap.size, 0, none⟩ = some v ∧ W.ownsRow (l + 1) 3 1 v (nats (idxs Sec.worn (M.take i))).length (nats (idxs Sec.worn (M.take i)))) ∧ W.frozen? ⟨w0.heap.size, 0, none⟩ = false) (fun _ => False) (w0.heap.size + 1) (w0.heap.size + 1 + 1) pm pb M.length cap (fun i => (M[i]?.map Sec.worn).getD false) hn rfl ?_ ?_ ?_ ?_
      ((w1.alloc (.deferred (some []))).alloc (.loop (rec .ready none))) ?_)).mono ?_
  · rintro i W ⟨g1, g2, g3, g5, g6, g7, g8⟩
    exact ⟨g5, g6, (g3.cell (by exact hltm)).trans hcap⟩
  · rintro i W ⟨g1, g2, g3, g5, g6, g7, g8⟩ hi
    have := hM0.arr.sec i M[i] (List.getElem?_eq_getElem hi)
    rw [(g3.cell (by exact hltb)), this.2.2.2.2, List.getElem?_eq_getElem hi]; rfl
  · rintro i W ⟨g1, g2, g3, g5, g6, g7, g8⟩ hi hy
    have hs : M[i]? = some M[i] := List.getElem?_eq_getElem hi
    have hd : (M[i]).worn = false := by rw [hs] at hy; exact hy
    have he := idxs_take_succ Sec.worn M i _ hs
    rw [hd] at he
    have he' : idxs Sec.worn (M.take (i + 1)) = idxs Sec.worn (M.take i) := by simpa using he
    exact ⟨g1, g2, g3, g5, g6, by rw [he']; exact g7, g8⟩
  · rintro i W ⟨g1, g2, g3, g5, g6, ⟨v, g7, g7'⟩, g8⟩ hi2 hy
    refine hround W _ _ g1 rfl ?_
    have hs : M[i]? = some M[i] := List.getElem?_eq_getElem hi2
    have hd : (M[i]).worn = true := by rw [hs] at hy; exact hy
    have he := idxs_take_succ Sec.worn M i _ hs
    rw [hd] at he
    have he' := Lib.hid he
    clear he
    have hle : (nats (idxs Sec.worn (M.take i))).length ≤ 4096 := by
      have := idxs_length_le Sec.worn (M.take i); simp [nats] at this ⊢; omega
    gi_wp2
    have hlW : l < W.heap.size := (Array.getElem?_eq_some_iff.1 g1).1
    have hfp := Fr.putOne W l (.loop (rec .busy none))
    have hb5 : (W.putObj l (.loop (rec .busy none))).heap[l]? = some (.loop (rec .busy none)) := World.putObj_heap_same hlW
    have hd5 : (W.putObj l (.loop (rec .busy none))).heap[w1.heap.size]? = some (.deferred (some [])) := (World.putObj_heap_other (by omega)).trans g2
    have hf5 : Below w0.heap.size w0 (W.putObj l (.loop (rec .busy none))) := g3.trans (hfp.below (by omega) (by simp; omega))
    have h51 := (hfp.cell (p := ⟨w0.heap.size + 1, 0, none⟩) (by have := World.block_lt_of_cell? _ _ g5; exact this) (by simp; omega)).trans g5
    have h52 := (hfp.cell (p := ⟨w0.heap.size + 1 + 1, 0, none⟩) (by have := World.block_lt_of_cell? _ _ g6; exact this) (by simp; omega)).trans g6
    have h53 := (hfp.cell (p := ⟨w0.heap.size, 0, none⟩) (by have := World.block_lt_of_cell? _ _ g7; exact this) (by simp; omega)).trans g7
    have h54 := (hfp.frozen (p := ⟨w0.heap.size, 0, none⟩) (by have := World.block_lt_of_cell? _ _ g7; exact this) (by simp; omega)).trans g8
    have h55 := g7'.kept (grownBy_putObj' W l (.loop (rec .busy none))) (by
      cases hv : v.ownBlock with
      | none => exact .inl rfl
      | some k => right; have := (g7'.lt k hv).1; intro e; injection e; omega)
    generalize W.putObj l (.loop (rec .busy none)) = W5 at *
    unfold AtBody
    have hl5 : l < W5.heap.size := (Array.getElem?_eq_some_iff.1 hb5).1
    clear g1 g2 g3 g5 g6 g7 g7' g8 hfp hlW hs hy
    have HB := Lib.hid (⟨hb5, hd5, h51, h52⟩ : _ ∧ _ ∧ _ ∧ _)
    clear hb5 hd5 h51 h52
    gi_wp2_with (gi_at_builtin; refine wpListIn_append_own _ rfl _ _ 35 rfl (l + 1) 3 i0 (.int .i64 0) 1 8 Try.underlying35 hi hz0 hzA hzB rfl (by decide) _ _ _ rfl (h55.alloc _) ⟨W5.heap.size, 0, none⟩ 1 1 [.int .i64 (i : Int)] rfl rfl (cell_one _ _ _) (oneC_int _) ?c3 ?c4 ?c5 ?_)
    case c3 => unfold maxLen; omega
    case c4 => omega
    case c5 => simp; omega
    intro v' w2 hown' hgrow _
    have hown2 : w2.ownsRow (l + 1) 3 1 v' (nats (idxs Sec.worn (M.take (i + 1)))).length (nats (idxs Sec.worn (M.take (i + 1)))) := by
      rw [he'.out]; simpa [nats] using hown'
    obtain ⟨g', cap', hv'⟩ := ownsRow_succ hown'
    subst hv'
    have hg2 : Fr [] W5 (W5.alloc (.cells #[.int .i64 (i : Int)] 3)) := (Fr.refl _ _).alloc _
    have hne : ∀ k, k < l + 1 → some k ≠ v.ownBlock := fun k hk e => by have := (h55.lt k e.symm).1; omega
    have hk2 : ∀ k o, k < l + 1 → W5.heap[k]? = some o → w2.heap[k]? = some o := fun k o hk ho => by
      have hkl := (Array.getElem?_eq_some_iff.1 ho).1
      exact (hgrow.block k (by simp; omega) (hne k hk)).trans ((hg2.block k hkl (by simp)).trans ho)
    have hc2 : ∀ k, k < l + 1 → k < W5.heap.size → w2.heap[k]? = W5.heap[k]? := fun k hk hkl => (hgrow.block k (by simp; omega) (hne k hk)).trans (hg2.block k hkl (by simp))
    have hcb : w2.cell? ⟨w0.heap.size, 0, none⟩ = some v := (World.cell?_of_block (hc2 _ (by show w0.heap.size < _; omega) (by show w0.heap.size < _; omega))).trans h53
    have hfb : w2.frozen? ⟨w0.heap.size, 0, none⟩ = false := (World.frozen?_of_block (hc2 _ (by show w0.heap.size < _; omega) (by show w0.heap.size < _; omega))).trans h54
    have hB2 : Below w0.heap.size w0 w2 := (hf5.alloc (by omega) _).grown hgrow (by simp; omega) (fun k hk => by have := (h55.lt k hk).1; omega)
    have hz2 : W5.heap.size ≤ w2.heap.size := by have := hgrow.size; simp at this; omega
    clear h53 h54 hown' hgrow hg2 h55
    have hc2' := Lib.hid hc2
    have hk2' := Lib.hid hk2
    clear hc2 hk2 hne
    gi_wp2
    obtain ⟨hb5, hd5, h51, h52⟩ := HB.out
    have hS : Fr [w0.heap.size] w2 (w2.setCell ⟨w0.heap.size, 0, none⟩ (.slice (some ⟨g', 0, none⟩) ((nats (idxs Sec.worn (M.take i))).length + 1) cap')) := (Fr.refl _ _).setCell (by simp) _
    have hP : Fr [l] (w2.setCell ⟨w0.heap.size, 0, none⟩ (.slice (some ⟨g', 0, none⟩) ((nats (idxs Sec.worn (M.take i))).length + 1) cap')) _ := Fr.putOne _ l (.loop (rec .ready none))
    have hSP := (hS.weaken (T := [w0.heap.size, l]) (by simp)).trans (hP.weaken (by simp))
    refine ⟨(hS.block l (by omega) (by simp; omega)).trans (hk2'.out _ _ (by omega) hb5), rfl, World.putObj_heap_same (by simp; omega), ?_, ?_, ?_, ?_, ⟨.slice (some ⟨g', 0, none⟩) ((nats (idxs Sec.worn (M.take i))).length + 1) cap', ?_, ?_⟩, ?_⟩
    · exact (hSP.block _ (by omega) (by simp; omega)).trans (hk2'.out _ _ (by omega) hd5)
    · exact hB2.trans (hSP.below (by omega) (by simp; omega))
    · exact (hSP.cell (by show w0.heap.size + 1 < _; omega) (by simp; omega)).trans ((World.cell?_of_block (hc2'.out _ (by show w0.heap.size + 1 < _; omega) (by show w0.heap.size + 1 < _; omega))).trans h51)
    · exact (hSP.cell (by show w0.heap.size + 1 + 1 < _; omega) (by simp; omega)).trans ((World.cell?_of_block (hc2'.out _ (by show w0.heap.size + 1 + 1 < _; omega) (by show w0.heap.size + 1 + 1 < _; omega))).trans h52)
    · exact (hP.cell (by show w0.heap.size < _; simp; omega) (by simp; omega)).trans (World.cell?_setCell_same _ _ _ hcb)
    · have h9 := (ownsRow_setCell_below hown2 (a := ⟨w0.heap.size, 0, none⟩) (by show w0.heap.size < _; omega) (.slice (some ⟨g', 0, none⟩) ((nats (idxs Sec.worn (M.take i))).length + 1) cap')).kept (grownBy_putObj' _ l (.loop (rec .ready none))) (by
        right; intro e; simp [Value.ownBlock] at e
        have := (hown2.lt g' (by simp [Value.ownBlock])).1; omega)
      exact h9
    · exact (hP.frozen (by show w0.heap.size < _; simp; omega) (by simp; omega)).trans ((World.frozen?_setCell _ _ _ _).trans hfb)
  · refine ⟨?_, ?_, (hfr0.below (Nat.le_refl _) (by simp)).trans (hfr2.below (by omega) (by simp)), ?_, ?_, ⟨.slice none 0 0, ?_, ?_⟩, ?_⟩
    · have := World.alloc_heap_new (w1.alloc (.deferred (some []))) (.loop (rec .ready none)); rw [World.size_alloc, hl] at this; exact this
    · exact (Below.heap_alloc _ _ _ (by simp)).trans (World.alloc_heap_new w1 _)
    · exact (hfr2.cell (World.block_lt_of_cell? _ _ hb1) (by simp)).trans hb1
    · exact (hfr2.cell (World.block_lt_of_cell? _ _ hb2) (by simp)).trans hb2
    · exact (hfr2.cell (World.block_lt_of_cell? _ _ hb0) (by simp)).trans hb0
    · exact World.ownsRow_nil _ _ _ _
    · exact (hfr2.frozen (World.block_lt_of_cell? _ _ hb0) (by simp)).trans hq0
  · rintro e W' ⟨⟨v, rfl⟩, (⟨g1, g2, g3, g5, g6, ⟨v, g7, g7'⟩, g8⟩ | h)⟩
    · refine ⟨⟨_, rfl⟩, .inl ⟨g1, ?_⟩⟩
      rw [List.take_length] at g7'
      have hlW : l < W'.heap.size := (Array.getElem?_eq_some_iff.1 g1).1
      have hlW5 : l < (W'.putObj l (.loop (rec .exhausted none))).heap.size := by simpa using hlW
      have hP := Fr.putOne W' l (.loop (rec .exhausted none))
      have hd5 : (W'.putObj l (.loop (rec .exhausted none))).heap[w1.heap.size]? = some (.deferred (some [])) := (World.putObj_heap_other (by omega)).trans g2
      have hB5 : Below w0.heap.size w0 (W'.putObj l (.loop (rec .exhausted none))) := g3.trans (hP.below (by omega) (by simp; omega))
      have h53 := (hP.cell (p := ⟨w0.heap.size, 0, none⟩) (World.block_lt_of_cell? _ _ g7) (by simp; omega)).trans g7
      have h55 := g7'.kept (grownBy_putObj' W' l (.loop (rec .exhausted none))) (by
        cases hv : v.ownBlock with
        | none => exact .inl rfl
        | some k => right; have := (g7'.lt k hv).1; intro e; injection e; omega)
      generalize W'.putObj l (.loop (rec .exhausted none)) = W5 at *
      clear g1 g2 g3 g5 g6 g7 g7' g8
      gi_wp2
      refine ⟨by simp, .inl ⟨_, _, rfl, run_takeDeferred hd5, ?_⟩⟩
      have hP2 := Fr.putOne W5 w1.heap.size (.deferred none)
      refine ⟨_, results_tmp rfl _ _ _, v, rfl, (SlAt.of_own (h55.kept (grownBy_putObj' W5 w1.heap.size (.deferred none)) (by
        cases hv : v.ownBlock with
        | none => exact .inl rfl
        | some k => right; have := (h55.lt k hv).1; intro e; injection e; omega))).imp (fun b hb => Nat.le_trans (m := l + 1) (by omega) hb), hB5.trans (hP2.below (by omega) (by simp; omega))⟩
    · exact h.elim

set_option maxHeartbeats 400000 in
theorem mDirty (w : World) (pm pb : Nat) (M : List Sec) (hM : MemAt w pm pb M) (hn : M.length ≤ 4096) :
    Calls Try.prog 32 #[.pointer (some ⟨pm, 0, none⟩)] w fun e w' => ∃ v, e = .returned v ∧ SlAt w' (fun b => w.heap.size ≤ b) v (nats (idxs Sec.dirty M)) ∧ Below w.heap.size w w' := by
  go_enter Try.func32, Try.ntmps32
  go_wp2_with (go_at_call 94; refine (mIndices_dirty w pm pb M hM hn).mono ?_; rintro e w' ⟨v, rfl, h1, h2⟩)
  go_ret
  exact ⟨_, rfl, h1, h2⟩

set_option maxHeartbeats 400000 in
theorem mWorn (w : World) (pm pb : Nat) (M : List Sec) (hM : MemAt w pm pb M) (hn : M.length ≤ 4096) :
    Calls Try.prog 51 #[.pointer (some ⟨pm, 0, none⟩)] w fun e w' => ∃ v, e = .returned v ∧ SlAt w' (fun b => w.heap.size ≤ b) v (nats (idxs Sec.worn M)) ∧ Below w.heap.size w w' := by
  go_enter Try.func51, Try.ntmps51
  go_wp2_with (go_at_call 94; refine (mIndices_worn w pm pb M hM hn).mono ?_; rintro e w' ⟨v, rfl, h1, h2⟩)
  go_ret
  exact ⟨_, rfl, h1, h2⟩

end Go.Proofs.Ytogljlloobjeoaa
