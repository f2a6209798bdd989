/- Flush: the loop over the dirty sectors. -/
import Derived.Test.YtogljlloobjeoaaGreatMemB
namespace Go.Proofs.YtogljlloobjeoaaGreat
open Go.RowKit Go.Shelf

attribute [local go_sem] Oper.semAt_some

set_option maxHeartbeats 400000 in
theorem mSuch_c (w : World) (pm : Nat) (isf : FuncId) :
    Calls Tryz.prog 90 #[.pointer (some ⟨pm, 0, none⟩), .func (.func isf) #[] #[]] w fun e w' => e = .returned (.func (.func 104) #[] #[.pointer (some ⟨w.heap.size, 0, none⟩), .pointer (some ⟨w.heap.size + 1, 0, none⟩)]) ∧
      (w.alloc (.cells #[.pointer (some ⟨pm, 0, none⟩)] 57)).alloc (.cells #[.func (.func isf) #[] #[]] 97) = w' := by
  go_enter Tryz.func90, Tryz.ntmps90
  go_wp2
  go_ret
  exact ⟨rfl, rfl⟩

theorem cell_newB (w : World) (v : Value) (T : TypeId) : (w.alloc (.cells #[v] T)).cell? ⟨w.heap.size, 0, none⟩ = some v := by simp

set_option maxRecDepth 100000 in
set_option maxHeartbeats 2000000 in
theorem mFlush (w : World) (pm pb : Nat) (M : List Sec) (hM : MemAt w pm pb M) (hn : M.length ≤ 4096) (hwf : WFM M) :
    Calls Tryz.prog 77 #[.pointer (some ⟨pm, 0, none⟩)] w fun e w' => e = .returned (.tuple #[]) ∧ MemAt w' pm pb (flM M) ∧ Fr [pb] w w' := by
  refine (callsIn_wide (n := 5)).1 ?_
  have hwd : Fence.wide.depth.isSome = false := rfl
  have hwfn : ∀ f, Fence.wide.fn f := fun _ => trivial
  refine callsIn_of_wp_marks Tryz.func77 rfl trivial ?_ rfl
  simp only [Tryz.ntmps77, List.size_toArray, List.length_cons, List.length_nil, Nat.reduceAdd, Nat.reduceSub, Array.replicate_succ, Array.replicate_zero, List.push_toArray, List.append_toArray, List.nil_append, List.cons_append]
  gi_wp2_with (gi_at_call 90; refine (callsIn_wide.2 (mSuch_c _ pm _)).mono ?_; rintro e w' ⟨rfl, rfl⟩)
  obtain ⟨w1, hw1⟩ : ∃ w1, (w.alloc (.cells #[.pointer (some ⟨pm, 0, none⟩)] 57)).alloc (.cells #[.func (.func 91) #[] #[]] 97) = w1 := ⟨_, rfl⟩
  have hz1 : w.heap.size + 2 ≤ w1.heap.size := by rw [← hw1]; simp
  have hfr0' : Fr [] w w1 := by rw [← hw1]; exact ((Fr.refl _ _).alloc _).alloc _
  have hfr1 : Fr [pb] w w1 := hfr0'.weaken (by simp)
  have hb1 : w1.cell? ⟨w.heap.size, 0, none⟩ = some (.pointer (some ⟨pm, 0, none⟩)) := by
    rw [← hw1, World.cell?_alloc_lt _ _ _ (by simp), cell_newB]
  have hb2 : w1.cell? ⟨w.heap.size + 1, 0, none⟩ = some (.func (.func 91) #[] #[]) := by
    rw [← hw1]; have := cell_newB (w.alloc (.cells #[.pointer (some ⟨pm, 0, none⟩)] 57)) (.func (.func 91) #[] #[]) 97
    rwa [World.size_alloc] at this
  rw [hw1]
  clear hw1
  have hltm := hM.lt
  have hltb := hM.arr.lt
  have hM1 : MemAt w1 pm pb M := by
    have hfr0 : Fr [] w w1 := hfr0'
    exact hM.fr hfr0 (by simp) (by simp)
  refine wpIn_rf (gf := 104) (lb := #[.pointer (some ⟨w.heap.size, 0, none⟩), .pointer (some ⟨w.heap.size + 1, 0, none⟩)]) rfl (enters_of Tryz.func104 (by kernel_rfl) rfl) ?_
  intro rec hround
  obtain ⟨l, hl⟩ : ∃ l, w1.heap.size + 1 = l := ⟨_, rfl⟩
  rw [hl] at hround ⊢
  have hM2 : MemAt ((w1.alloc (.deferred (some []))).alloc (.loop (rec .ready none))) pm pb M := hM1.fr (S := []) (((Fr.refl _ _).alloc _).alloc _) (by simp) (by simp)
  obtain ⟨cap, hcap, _⟩ := hM.ptr
  refine ((mSuch_dirty 4 l 3 (fun i W => W.heap[l]? = some (.loop (rec .ready none)) ∧ W.heap[w1.heap.size]? = some (.deferred (some [])) ∧ Fr [pb] w W ∧ MemAt W pm pb (part (fun _ => 64) M i) ∧
      W.cell? ⟨w.heap.size, 0, none⟩ = some (.pointer (some ⟨pm, 0, none⟩)) ∧ W.cell? ⟨w.heap.size + 1, 0, none⟩ = some (.func (.func 91) #[] #[])) (fun _ => False) w.heap.size (w.heap.size + 1) pm pb M.length cap (fun i => (M[i]?.map Sec.dirty).getD false) hn rfl ?_ ?_ ?_ ?_
      ((w1.alloc (.deferred (some []))).alloc (.loop (rec .ready none))) ?_)).mono ?_
  · rintro i W ⟨g1, g2, g3, g4, g5, g6⟩
    exact ⟨g5, g6, (g3.cell hltm (by simpa using hM.ne)).trans hcap⟩
  · rintro i W ⟨g1, g2, g3, g4, g5, g6⟩ hi
    have := g4.arr.sec i M[i] (by rw [part_here]; exact List.getElem?_eq_getElem hi)
    rw [this.2.2.2.1, List.getElem?_eq_getElem hi]; rfl
  · rintro i W ⟨g1, g2, g3, g4, g5, g6⟩ hi hy
    exact ⟨g1, g2, g3, by rw [part_no _ _ _ hy]; exact g4, g5, g6⟩
  · rintro i W ⟨g1, g2, g3, g4, g5, g6⟩ hi hy
    refine hround W _ _ g1 rfl ?_
    have hs : M[i]? = some M[i] := List.getElem?_eq_getElem hi
    have hd : (M[i]).dirty = true := by rw [hs] at hy; exact hy
    gi_wp2
    have hlW : l < W.heap.size := (Array.getElem?_eq_some_iff.1 g1).1
    have hfp := Fr.putOne W l (.loop (rec .busy none))
    have hm5 : MemAt (W.putObj l (.loop (rec .busy none))) pm pb (part (fun _ => 64) M i) := g4.fr hfp (by simp; omega) (by simp; omega)
    have hb5 : (W.putObj l (.loop (rec .busy none))).heap[l]? = some (.loop (rec .busy none)) := World.putObj_heap_same hlW
    have hd5 : (W.putObj l (.loop (rec .busy none))).heap[w1.heap.size]? = some (.deferred (some [])) := (World.putObj_heap_other (by omega)).trans g2
    have hf5 : Fr [pb] w (W.putObj l (.loop (rec .busy none))) := g3.putObj (by right; omega) _
    have h51 := (hfp.cell (p := ⟨w.heap.size, 0, none⟩) (by have := World.block_lt_of_cell? _ _ g5; exact this) (by simp; omega)).trans g5
    have h52 := (hfp.cell (p := ⟨w.heap.size + 1, 0, none⟩) (by have := World.block_lt_of_cell? _ _ g6; exact this) (by simp; omega)).trans g6
    generalize W.putObj l (.loop (rec .busy none)) = W5 at *
    unfold AtBody
    gi_wp2_with (gi_at_call 92; refine (CallsIn.inRound l (callsIn_wide.2 (mSettle W5 pm pb _ hm5 i _ (by rw [part_here]; exact hs) (hwf _ (List.getElem_mem hi)) hd 64 (by omega) (by omega)))).mono ?_; rintro e w' ⟨rfl, hm6, hg6, hz6⟩)
    have hne : pm ≠ pb := hM.ne
    have e6 : part (fun _ => 64) M (i + 1) = (part (fun _ => 64) M i).set i (Sec.settle 64 M[i]) := part_yes _ _ _ _ hs hd
    have hk : ∀ k o, W5.heap[k]? = some o → k ≠ pb → w'.heap[k]? = some o := fun k o hk hn => (hg6.block k (Array.getElem?_eq_some_iff.1 hk).1 (fun e => hn (by injection e))).trans hk
    have hfq : Fr [pb] W5 w' := (Fr.refl _ _).grown hg6 (by simp)
    refine ⟨hk _ _ hb5 (by omega), rfl, World.putObj_heap_same (by rw [hz6]; exact (Array.getElem?_eq_some_iff.1 hb5).1), (World.putObj_heap_other (by omega)).trans (hk _ _ hd5 (by omega)), (hf5.trans hfq).putObj (by right; omega) _, ?_, ?_, ?_⟩
    · rw [e6]; exact hm6.fr (Fr.putOne _ _ _) (by simp; omega) (by simp; omega)
    · refine ((Fr.putOne w' l _).cell (p := ⟨w.heap.size, 0, none⟩) (by rw [hz6]; exact World.block_lt_of_cell? _ _ h51) (by simp; omega)).trans ((hfq.cell (World.block_lt_of_cell? _ _ h51) (by simp; omega)).trans h51)
    · refine ((Fr.putOne w' l _).cell (p := ⟨w.heap.size + 1, 0, none⟩) (by rw [hz6]; exact World.block_lt_of_cell? _ _ h52) (by simp; omega)).trans ((hfq.cell (World.block_lt_of_cell? _ _ h52) (by simp; omega)).trans h52)
  · refine ⟨?_, ?_, ((hfr1.alloc _).alloc _), by rw [part_zero]; exact hM2, ?_, ?_⟩
    · have := World.alloc_heap_new (w1.alloc (.deferred (some []))) (.loop (rec .ready none)); rw [World.size_alloc, hl] at this; exact this
    · exact (Below.heap_alloc _ _ _ (by simp)).trans (World.alloc_heap_new w1 _)
    · rw [World.cell?_alloc_lt _ _ _ (by simp; omega), World.cell?_alloc_lt _ _ _ (by show w.heap.size < _; omega)]; exact hb1
    · rw [World.cell?_alloc_lt _ _ _ (by simp; omega), World.cell?_alloc_lt _ _ _ (by show w.heap.size + 1 < _; omega)]; exact hb2
  · rintro e W' ⟨⟨v, rfl⟩, (⟨g1, g2, g3, g4, g5, g6⟩ | h)⟩
    · refine ⟨⟨_, rfl⟩, .inl ⟨g1, ?_⟩⟩
      have hd5 : (W'.putObj l (.loop (rec .exhausted none))).heap[w1.heap.size]? = some (.deferred (some [])) := (World.putObj_heap_other (by omega)).trans g2
      rw [part_flM] at g4
      have hm5 : MemAt (W'.putObj l (.loop (rec .exhausted none))) pm pb (flM M) := g4.fr (Fr.putOne _ _ _) (by simp; omega) (by simp; omega)
      have hf5 : Fr [pb] w (W'.putObj l (.loop (rec .exhausted none))) := g3.putObj (by right; omega) _
      generalize W'.putObj l (.loop (rec .exhausted none)) = W5 at *
      gi_wp2
      refine ⟨by simp, .inl ⟨_, _, rfl, run_takeDeferred hd5, ?_⟩⟩
      exact ⟨_, results_none rfl _ _ _, rfl, hm5.fr (Fr.putOne _ _ _) (by simp; omega) (by simp; omega), hf5.putObj (by right; omega) _⟩
    · exact h.elim

/-- The end of a round of Cut: what holds behind the sector's settling, and behind the loop's own book-keeping. -/
theorem cut_next {w0 W6 w' : World} {pm pb l D i : Nat} {M : List Sec} {ps : List Int} {ok : Nat → Prop} {rec : LoopState → Option Code → Loop} {v fv : Value}
    (hltm : pm < w0.heap.size) (hltb : pb < w0.heap.size) (hD : w0.heap.size + 3 ≤ D) (hl : D + 1 = l) (hok : ∀ b, ok b → b ≠ pb ∧ b < w0.heap.size)
    (hb : W6.heap[l]? = some (.loop (rec .busy none))) (hd : W6.heap[D]? = some (.deferred (some []))) (hf : Fr [pb] w0 W6)
    (c1 : W6.cell? ⟨w0.heap.size + 1, 0, none⟩ = some (.pointer (some ⟨pm, 0, none⟩))) (c2 : W6.cell? ⟨w0.heap.size + 1 + 1, 0, none⟩ = some fv)
    (c0 : W6.cell? ⟨w0.heap.size, 0, none⟩ = some v) (hS : SlAt W6 ok v (ints (ps.drop (before M (i + 1))))) (hz : W6.frozen? ⟨w0.heap.size, 0, none⟩ = false)
    (hm : MemAt w' pm pb (part (pickAt M ps) M (i + 1))) (hg : W6.grownBy w' (some pb)) (hsz : w'.heap.size = W6.heap.size) :
    w'.heap[l]? = some (.loop (rec .busy none)) ∧ (w'.putObj l (.loop (rec .ready none))).heap[l]? = some (.loop (rec .ready none)) ∧ (w'.putObj l (.loop (rec .ready none))).heap[D]? = some (.deferred (some [])) ∧
      Fr [pb] w0 (w'.putObj l (.loop (rec .ready none))) ∧ MemAt (w'.putObj l (.loop (rec .ready none))) pm pb (part (pickAt M ps) M (i + 1)) ∧
      (w'.putObj l (.loop (rec .ready none))).cell? ⟨w0.heap.size + 1, 0, none⟩ = some (.pointer (some ⟨pm, 0, none⟩)) ∧ (w'.putObj l (.loop (rec .ready none))).cell? ⟨w0.heap.size + 1 + 1, 0, none⟩ = some fv ∧
      (∃ v, (w'.putObj l (.loop (rec .ready none))).cell? ⟨w0.heap.size, 0, none⟩ = some v ∧ SlAt (w'.putObj l (.loop (rec .ready none))) ok v (ints (ps.drop (before M (i + 1))))) ∧ (w'.putObj l (.loop (rec .ready none))).frozen? ⟨w0.heap.size, 0, none⟩ = false := by
  have hk : ∀ k o, W6.heap[k]? = some o → k ≠ pb → w'.heap[k]? = some o := fun k o hk hn => (hg.block k (Array.getElem?_eq_some_iff.1 hk).1 (fun e => hn (by injection e))).trans hk
  have hfq : Fr [pb] W6 w' := (Fr.refl _ _).grown hg (by simp)
  have hlW : l < W6.heap.size := (Array.getElem?_eq_some_iff.1 hb).1
  have hfp : Fr [l] w' (w'.putObj l (.loop (rec .ready none))) := Fr.putOne _ _ _
  have hfa : Fr [pb, l] W6 (w'.putObj l (.loop (rec .ready none))) := (hfq.weaken (T := [pb, l]) (by simp)).trans (hfp.weaken (by simp))
  refine ⟨hk _ _ hb (by omega), World.putObj_heap_same (by omega), (World.putObj_heap_other (by omega)).trans (hk _ _ hd (by omega)), (hf.trans hfq).putObj (by right; omega) _, hm.fr hfp (by simp; omega) (by simp; omega), ?_, ?_, ⟨v, ?_, ?_⟩, ?_⟩
  · exact (hfa.cell (by show w0.heap.size + 1 < _; omega) (by simp; omega)).trans c1
  · exact (hfa.cell (by show w0.heap.size + 1 + 1 < _; omega) (by simp; omega)).trans c2
  · exact (hfa.cell (by show w0.heap.size < _; omega) (by simp; omega)).trans c0
  · exact hS.fr hfa (fun b hb => by have := hok b hb; simp; omega)
  · exact (hfa.frozen (by show w0.heap.size < _; omega) (by simp; omega)).trans hz

theorem pickAt_nil {M : List Sec} {ps : List Int} {i : Nat} (h : ps.drop (before M i) = []) : pickAt M ps i = 0 := by
  have h1 : ps.length ≤ before M i := by have := congrArg List.length h; simp at this; omega
  have : ps[before M i]? = none := List.getElem?_eq_none h1
  unfold pickAt
  rw [List.getD_eq_getElem?_getD, this]; rfl
theorem pickAt_cons {M : List Sec} {ps : List Int} {i : Nat} {x : Int} {rest : List Int} (h : ps.drop (before M i) = x :: rest) : pickAt M ps i = clampP x := by
  have : ps[before M i]? = some x := by
    have h2 : (ps.drop (before M i))[0]? = ps[before M i]? := by rw [List.getElem?_drop]; rfl
    rw [← h2, h]; rfl
  unfold pickAt
  rw [List.getD_eq_getElem?_getD, this]; rfl
theorem drop_succ_of {ps : List Int} {k : Nat} {x : Int} {rest : List Int} (h : ps.drop k = x :: rest) : ps.drop (k + 1) = rest := by
  have : ps.drop (k + 1) = (ps.drop k).drop 1 := by rw [List.drop_drop]
  rw [this, h]; rfl

set_option maxRecDepth 100000 in
set_option maxHeartbeats 2000000 in
theorem mCut (w0 : World) (pm pb : Nat) (M : List Sec) (hM0 : MemAt w0 pm pb M) (hn : M.length ≤ 4096) (hwf : WFM M) (v : Value) (ps : List Int) (ok : Nat → Prop) (hps : SlAt w0 ok v (ints ps)) (hlen : ps.length ≤ maxLen) (hok : ∀ b, ok b → b ≠ pb ∧ b < w0.heap.size) :
    Calls Tryz.prog 66 #[.pointer (some ⟨pm, 0, none⟩), v] w0 fun e w' => e = .returned (.tuple #[]) ∧ MemAt w' pm pb (cutM M ps) ∧ Fr [pb] w0 w' := by
  obtain ⟨av, cv, rfl, hcv, hxv⟩ := hps
  refine (callsIn_wide (n := 5)).1 ?_
  have hwd : Fence.wide.depth.isSome = false := rfl
  have hwfn : ∀ f, Fence.wide.fn f := fun _ => trivial
  refine callsIn_of_wp_marks Tryz.func66 rfl trivial ?_ rfl
  simp only [Tryz.ntmps66, List.size_toArray, List.length_cons, List.length_nil, Nat.reduceAdd, Nat.reduceSub, Array.replicate_succ, Array.replicate_zero, List.push_toArray, List.append_toArray, List.nil_append, List.cons_append]
  gi_wp2_with (gi_at_call 90; refine (callsIn_wide.2 (mSuch_c _ pm _)).mono ?_; rintro e w' ⟨rfl, rfl⟩)
  obtain ⟨w1, hw1⟩ : ∃ w1, ((w0.alloc (.cells #[.slice av (ints ps).length cv] 41)).alloc (.cells #[.pointer (some ⟨pm, 0, none⟩)] 57)).alloc (.cells #[.func (.func 91) #[] #[]] 97) = w1 := ⟨_, rfl⟩
  have hz1 : w0.heap.size + 3 ≤ w1.heap.size := by rw [← hw1]; simp
  have hfr0' : Fr [] w0 w1 := by rw [← hw1]; exact (((Fr.refl _ _).alloc _).alloc _).alloc _
  have hfr1 : Fr [pb] w0 w1 := hfr0'.weaken (by simp)
  have hb0 : w1.cell? ⟨w0.heap.size, 0, none⟩ = some (.slice av (ints ps).length cv) := by
    rw [← hw1, World.cell?_alloc_lt _ _ _ (by simp; omega), World.cell?_alloc_lt _ _ _ (by simp), cell_newB]
  have hz0 : w1.frozen? ⟨w0.heap.size, 0, none⟩ = false := by
    rw [← hw1, World.frozen?_alloc_old _ _ _ (by simp; omega), World.frozen?_alloc_old _ _ _ (by simp)]; simp
  have hb1 : w1.cell? ⟨w0.heap.size + 1, 0, none⟩ = some (.pointer (some ⟨pm, 0, none⟩)) := by
    rw [← hw1, World.cell?_alloc_lt _ _ _ (by simp)]
    have := cell_newB (w0.alloc (.cells #[.slice av (ints ps).length cv] 41)) (.pointer (some ⟨pm, 0, none⟩)) 57
    rwa [World.size_alloc] at this
  have hb2 : w1.cell? ⟨w0.heap.size + 1 + 1, 0, none⟩ = some (.func (.func 91) #[] #[]) := by
    rw [← hw1]; have := cell_newB ((w0.alloc (.cells #[.slice av (ints ps).length cv] 41)).alloc (.cells #[.pointer (some ⟨pm, 0, none⟩)] 57)) (.func (.func 91) #[] #[]) 97
    rwa [World.size_alloc, World.size_alloc] at this
  rw [hw1]
  clear hw1
  have hltm := hM0.lt
  have hltb := hM0.arr.lt
  have hne : pm ≠ pb := hM0.ne
  have hM1 : MemAt w1 pm pb M := hM0.fr hfr0' (by simp) (by simp)
  have hS1 : SlAt w1 ok (.slice av (ints ps).length cv) (ints ps) := SlAt.fr ⟨av, cv, rfl, hcv, hxv⟩ hfr0' (by simp)
  obtain ⟨cap, hcap, _⟩ := hM0.ptr
  clear hxv
  refine wpIn_rf (gf := 104) (lb := #[.pointer (some ⟨w0.heap.size + 1, 0, none⟩), .pointer (some ⟨w0.heap.size + 1 + 1, 0, none⟩)]) rfl (enters_of Tryz.func104 (by kernel_rfl) rfl) ?_
  intro rec hround
  obtain ⟨l, hl⟩ : ∃ l, w1.heap.size + 1 = l := ⟨_, rfl⟩
  rw [hl] at hround ⊢
  have hfr2 : Fr [] w1 ((w1.alloc (.deferred (some []))).alloc (.loop (rec .ready none))) := ((Fr.refl _ _).alloc _).alloc _
  have hM2 : MemAt ((w1.alloc (.deferred (some []))).alloc (.loop (rec .ready none))) pm pb M := hM1.fr hfr2 (by simp) (by simp)
  refine ((mSuch_dirty 4 l 3 (fun i W => W.heap[l]? = some (.loop (rec .ready none)) ∧ W.heap[w1.heap.size]? = some (.deferred (some [])) ∧ Fr [pb] w0 W ∧ MemAt W pm pb (part (pickAt M ps) M i) ∧
      W.cell? ⟨w0.heap.size + 1, 0, none⟩ = some (.pointer (some ⟨pm, 0, none⟩)) ∧ W.cell? ⟨w0.heap.size + 1 + 1, 0, none⟩ = some (.func (.func 91) #[] #[]) ∧
      (∃ v, W.cell? ⟨w0.heap.size, 0, none⟩ = some v ∧ SlAt W ok v (ints (ps.drop (before M i)))) ∧ W.frozen? ⟨w0.heap.size, 0, none⟩ = false) (fun _ => False) (w0.heap.size + 1) (w0.heap.size + 1 + 1) pm pb M.length cap (fun i => (M[i]?.map Sec.dirty).getD false) hn rfl ?_ ?_ ?_ ?_
      ((w1.alloc (.deferred (some []))).alloc (.loop (rec .ready none))) ?_)).mono ?_
  · rintro i W ⟨g1, g2, g3, g4, g5, g6, g7, g8⟩
    exact ⟨g5, g6, (g3.cell hltm (by simpa using hne)).trans hcap⟩
  · rintro i W ⟨g1, g2, g3, g4, g5, g6, g7, g8⟩ hi
    have := g4.arr.sec i M[i] (by rw [part_here]; exact List.getElem?_eq_getElem hi)
    rw [this.2.2.2.1, List.getElem?_eq_getElem hi]; rfl
  · rintro i W ⟨g1, g2, g3, g4, g5, g6, g7, g8⟩ hi hy
    have hs : M[i]? = some M[i] := List.getElem?_eq_getElem hi
    have hd : (M[i]).dirty = false := by rw [hs] at hy; exact hy
    exact ⟨g1, g2, g3, by rw [part_no _ _ _ hy]; exact g4, g5, g6, by rw [before_succ _ _ _ hs, hd]; exact g7, g8⟩
  · rintro i W ⟨g1, g2, g3, g4, g5, g6, ⟨v, g7, g7'⟩, g8⟩ hi hy
    refine hround W _ _ g1 rfl ?_
    have hs : M[i]? = some M[i] := List.getElem?_eq_getElem hi
    have hd : (M[i]).dirty = true := by rw [hs] at hy; exact hy
    gi_wp2
    have hlW : l < W.heap.size := (Array.getElem?_eq_some_iff.1 g1).1
    have hfp := Fr.putOne W l (.loop (rec .busy none))
    have hokl : ∀ b, ok b → b ∉ [l] := fun b hb => by have := hok b hb; simp; omega
    have hm5 : MemAt (W.putObj l (.loop (rec .busy none))) pm pb (part (pickAt M ps) M i) := g4.fr hfp (by simp; omega) (by simp; omega)
    have hb5 : (W.putObj l (.loop (rec .busy none))).heap[l]? = some (.loop (rec .busy none)) := World.putObj_heap_same hlW
    have hd5 : (W.putObj l (.loop (rec .busy none))).heap[w1.heap.size]? = some (.deferred (some [])) := (World.putObj_heap_other (by omega)).trans g2
    have hf5 : Fr [pb] w0 (W.putObj l (.loop (rec .busy none))) := g3.putObj (by right; omega) _
    have h51 := (hfp.cell (p := ⟨w0.heap.size + 1, 0, none⟩) (by have := World.block_lt_of_cell? _ _ g5; exact this) (by simp; omega)).trans g5
    have h52 := (hfp.cell (p := ⟨w0.heap.size + 1 + 1, 0, none⟩) (by have := World.block_lt_of_cell? _ _ g6; exact this) (by simp; omega)).trans g6
    have h53 := (hfp.cell (p := ⟨w0.heap.size, 0, none⟩) (by have := World.block_lt_of_cell? _ _ g7; exact this) (by simp; omega)).trans g7
    have h54 := (hfp.frozen (p := ⟨w0.heap.size, 0, none⟩) (by have := World.block_lt_of_cell? _ _ g7; exact this) (by simp; omega)).trans g8
    have h55 := g7'.fr hfp hokl
    generalize W.putObj l (.loop (rec .busy none)) = W5 at *
    unfold AtBody
    clear g1 g2 g3 g4 g5 g6 g7 g7' g8 hfp hlW
    obtain ⟨a5, c5, rfl, hc5, hx5⟩ := h55
    have HB := (⟨hb5, hd5, h51, h52⟩ : _ ∧ _ ∧ _ ∧ _)
    clear hb5 hd5 h51 h52
    cases hp : ps.drop (before M i) with
    | nil =>
      rw [hp] at hx5 h53 hc5
      clear hx5
      have hl0 : (ints []).length = 0 := rfl
      rw [hl0] at h53 hc5
      have hp' := Lib.hid hp
      clear hp hl0
      have hS5 : SlAt W5 ok (.slice a5 0 c5) (ints []) := ⟨a5, c5, rfl, Nat.zero_le _, fun h => by simp [ints] at h⟩
      have hbs := Lib.hid (before_succ M i _ hs)
      have e6 := Lib.hid (part_yes (pickAt M ps) M i _ hs hd)
      gi_wp2_with (gi_at_call 92; refine (CallsIn.inRound l (callsIn_wide.2 (mSettle W5 pm pb _ hm5 i _ (by rw [part_here]; exact hs) (hwf _ (List.getElem_mem hi)) hd 0 (by omega) (by omega)))).mono ?_; rintro e w' ⟨rfl, hm6, hg6, hz6⟩)
      obtain ⟨hb5, hd5, h51, h52⟩ := HB
      have he := e6.out
      rw [pickAt_nil hp'.out] at he
      rw [← he] at hm6
      have hdn : ps.drop (before M (i + 1)) = [] := by
        rw [hbs.out]
        have : ps.drop (before M i + (if M[i].dirty = true then 1 else 0)) = (ps.drop (before M i)).drop (if M[i].dirty = true then 1 else 0) := by rw [List.drop_drop]
        rw [this, hp'.out]; simp
      obtain ⟨q1, q2, q3⟩ := cut_next (i := i) (M := M) (ps := ps) (v := .slice a5 0 c5) hltm hltb hz1 hl hok hb5 hd5 hf5 h51 h52 h53 (by rw [hdn]; exact hS5) h54 hm6 hg6 hz6
      exact ⟨q1, rfl, q2, q3⟩
    | cons x rest =>
      rw [hp] at hx5 h53 hc5
      obtain ⟨bx, ox, rfl, hobx, hltx, hcx⟩ := hx5 (by simp [ints])
      have hc0 := hcx 0 (.int .i64 x) (by simp [ints])
      rw [Nat.add_zero] at hc0
      have hlx : (ints (x :: rest)).length = rest.length + 1 := by simp [ints]
      have hlm : rest.length + 1 ≤ maxLen := by
        have := congrArg List.length hp
        simp at this
        omega
      rw [hlx] at h53 hc5
      clear hlx hx5
      unfold maxLen at hlm
      have hp' := Lib.hid hp
      clear hp
      have hmix : Tryz.prog.follows .mixedOrders = true := by kernel_rfl
      have hone : (1 : Int) ≤ (rest.length : Int) + 1 := by omega
      have hone' : (1 : Int) ≤ ((rest.length + 1 : Nat) : Int) := by omega
      gi_wp2
      have hS6 : ∀ W6, Fr [w0.heap.size] W5 W6 → SlAt W6 ok (.slice (if c5 = 1 then some ⟨bx, ox, none⟩ else some ⟨bx, ox + 1, none⟩) rest.length (c5 - 1)) (ints rest) := by
        intro W6 h6
        refine ⟨_, _, by rw [show (ints rest).length = rest.length by simp [ints]], by simp [ints]; omega, fun h0 => ?_⟩
        have h0' : 0 < rest.length := by simpa [ints] using h0
        rw [if_neg (by omega)]
        refine ⟨bx, ox + 1, rfl, hobx, Nat.lt_of_lt_of_le hltx h6.size, fun j y hj => ?_⟩
        have := hcx (j + 1) y (by simpa [ints] using hj)
        rw [show ox + 1 + j = ox + (j + 1) by omega]
        exact (h6.cell hltx (by have := hok bx hobx; simp; omega)).trans this
      have hS6' := Lib.hid hS6
      clear hS6
      have hcl : clampP x = if 0 < (if 64 < x then (64 : Int) else x) then (if 64 < x then (64 : Int) else x) else 0 := by
        unfold clampP; split <;> split <;> omega
      have hcl' := Lib.hid hcl
      clear hcl
      have hbs := Lib.hid (before_succ M i _ hs)
      have e6 := Lib.hid (part_yes (pickAt M ps) M i _ hs hd)
      refine wpIn_mono (Q := fun e a w => e = .normal ∧ (∃ u1 u2 u3 u4 u5 u6 u7 u8 u9 u10 u11 u12 u13 u14 u15 u16 u17 u18 u19, a = { tmps := #[u1, u2, u3, u4, u5, .pointer (some ⟨pb, i * 5, none⟩), .int .i64 (if 0 < (if 64 < x then (64 : Int) else x) then (if 64 < x then (64 : Int) else x) else 0), u6, u7, u8, u9, u10, u11, u12, u13, u14, u15, u16, u17, u18, u19, undef, undef, undef], defers := [] }) ∧
        w = (W5.setCell ⟨w0.heap.size, 0, none⟩ (.slice (if c5 = 1 then some ⟨bx, ox, none⟩ else some ⟨bx, ox + 1, none⟩) rest.length (c5 - 1))).drew) ?r ?k
      case r =>
        gi_region_with_o (fail)
        all_goals exact ⟨rfl, ⟨_, _, _, _, _, _, _, _, _, _, _, _, _, _, _, _, _, _, _, rfl⟩, rfl⟩
      case k =>
        rintro e a W6 ⟨rfl, ⟨u1, u2, u3, u4, u5, u6, u7, u8, u9, u10, u11, u12, u13, u14, u15, u16, u17, u18, u19, rfl⟩, hW6⟩
        rw [← hcl'.out]
        have hfb : Fr [w0.heap.size] W5 W6 := by rw [hW6]; exact ((Fr.refl _ _).setCell (by simp) _).drew
        have hf6 : Fr [pb] w0 W6 := hf5.then hfb (by simp)
        have hb6 : W6.heap[l]? = some (.loop (rec .busy none)) := (hfb.block l (Array.getElem?_eq_some_iff.1 HB.1).1 (by simp; omega)).trans HB.1
        have hd6 : W6.heap[w1.heap.size]? = some (.deferred (some [])) := (hfb.block _ (Array.getElem?_eq_some_iff.1 HB.2.1).1 (by simp; omega)).trans HB.2.1
        have h61 := (hfb.cell (World.block_lt_of_cell? _ _ HB.2.2.1) (by simp)).trans HB.2.2.1
        have h62 := (hfb.cell (World.block_lt_of_cell? _ _ HB.2.2.2) (by simp; omega)).trans HB.2.2.2
        have h63 : W6.cell? ⟨w0.heap.size, 0, none⟩ = some (.slice (if c5 = 1 then some ⟨bx, ox, none⟩ else some ⟨bx, ox + 1, none⟩) rest.length (c5 - 1)) := by
          rw [hW6]; exact World.cell?_setCell_same _ _ _ h53
        have h64 : W6.frozen? ⟨w0.heap.size, 0, none⟩ = false := by
          rw [hW6]; exact (World.frozen?_setCell _ _ _ _).trans h54
        have hS7 := hS6'.out W6 hfb
        have hm7 : MemAt W6 pm pb (part (pickAt M ps) M i) := hm5.fr hfb (by simp; omega) (by simp; omega)
        clear hW6 h53 h54 hc0
        have HH := (⟨hb6, hd6, h61, h62, h63, h64⟩ : _ ∧ _ ∧ _ ∧ _ ∧ _ ∧ _)
        clear hb6 hd6 h61 h62 h63 h64 HB
        gi_wp2_with (gi_at_call 92; refine (CallsIn.inRound l (callsIn_wide.2 (mSettle W6 pm pb _ hm7 i _ (by rw [part_here]; exact hs) (hwf _ (List.getElem_mem hi)) hd (clampP x) (clampP_nonneg x) (clampP_le x)))).mono ?_; rintro e w' ⟨rfl, hm8, hg8, hz8⟩)
        obtain ⟨hb6, hd6, h61, h62, h63, h64⟩ := HH
        have he := e6.out
        rw [pickAt_cons hp'.out] at he
        rw [← he] at hm8
        have hdn : ps.drop (before M (i + 1)) = rest := by
          rw [hbs.out, if_pos hd]
          exact drop_succ_of hp'.out
        obtain ⟨q1, q2, q3⟩ := cut_next (i := i) (M := M) (ps := ps) hltm hltb hz1 hl hok hb6 hd6 hf6 h61 h62 h63 (by rw [hdn]; exact hS7) h64 hm8 hg8 hz8
        exact ⟨q1, rfl, q2, q3⟩
  · refine ⟨?_, ?_, (hfr1.alloc _).alloc _, by rw [part_zero]; exact hM2, ?_, ?_, ⟨.slice av (ints ps).length cv, ?_, ?_⟩, ?_⟩
    · have := World.alloc_heap_new (w1.alloc (.deferred (some []))) (.loop (rec .ready none)); rw [World.size_alloc, hl] at this; exact this
    · exact (Below.heap_alloc _ _ _ (by simp)).trans (World.alloc_heap_new w1 _)
    · exact (hfr2.cell (World.block_lt_of_cell? _ _ hb1) (by simp)).trans hb1
    · exact (hfr2.cell (World.block_lt_of_cell? _ _ hb2) (by simp)).trans hb2
    · exact (hfr2.cell (World.block_lt_of_cell? _ _ hb0) (by simp)).trans hb0
    · have : before M 0 = 0 := rfl
      rw [this, List.drop_zero]; exact hS1.fr hfr2 (by simp)
    · exact (hfr2.frozen (World.block_lt_of_cell? _ _ hb0) (by simp)).trans hz0
  · rintro e W' ⟨⟨v, rfl⟩, (⟨g1, g2, g3, g4, _⟩ | h)⟩
    · refine ⟨⟨_, rfl⟩, .inl ⟨g1, ?_⟩⟩
      have hd5 : (W'.putObj l (.loop (rec .exhausted none))).heap[w1.heap.size]? = some (.deferred (some [])) := (World.putObj_heap_other (by omega)).trans g2
      rw [part_cutM] at g4
      have hm5 : MemAt (W'.putObj l (.loop (rec .exhausted none))) pm pb (cutM M ps) := g4.fr (Fr.putOne _ _ _) (by simp; omega) (by simp; omega)
      have hf5 : Fr [pb] w0 (W'.putObj l (.loop (rec .exhausted none))) := g3.putObj (by right; omega) _
      generalize W'.putObj l (.loop (rec .exhausted none)) = W5 at *
      gi_wp2
      refine ⟨by simp, .inl ⟨_, _, rfl, run_takeDeferred hd5, ?_⟩⟩
      exact ⟨_, results_none rfl _ _ _, rfl, hm5.fr (Fr.putOne _ _ _) (by simp; omega) (by simp; omega), hf5.putObj (by right; omega) _⟩
    · exact h.elim

end Go.Proofs.YtogljlloobjeoaaGreat
