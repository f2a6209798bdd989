/- Package zero: Resume, Begin. -/
import Derived.Test.YtogljlloobjeoaaZC
import Derived.Test.YtogljlloobjeoaaDevD
namespace Go.Proofs.Ytogljlloobjeoaa
open Go.RowKit Go.Shelf

attribute [local go_sem] Oper.semAt_some

/-- What is left to do. -/
structure ZR (B : DB) (d : Dv) (n m i : Nat) (W : World) (di : Dv) : Prop where
  dev : DevAt W B di
  run : runZ (zList n m) d = runZ ((zList n m).drop i) di
  keep : Keeps d di
  zero : i = 0 → di = d
theorem ZR.next {B : DB} {d : Dv} {n m i : Nat} {W W' : World} {di : Dv} (h : ZR B d n m i W di) {o : ZOp} (ho : (zList n m).drop i = o :: (zList n m).drop (i + 1)) (hz : zE di o = 0) (hD : DevAt W' B (zD di o)) : ZR B d n m (i + 1) W' (zD di o) :=
  ⟨hD, by rw [h.run, ho, runZ, if_pos hz], h.keep.trans (Keeps.z _ _), fun e => by omega⟩
theorem ZR.stop {B : DB} {d : Dv} {n m i : Nat} {W : World} {di : Dv} (h : ZR B d n m i W di) {o : ZOp} (ho : (zList n m).drop i = o :: (zList n m).drop (i + 1)) (hz : zE di o ≠ 0) : runZ (zList n m) d = (zE di o, zD di o) := by
  rw [h.run, ho, runZ, if_neg hz]
theorem ZR.move {B : DB} {d : Dv} {n m i : Nat} {W W' : World} {di : Dv} (h : ZR B d n m i W di) (hD : DevAt W' B di) : ZR B d n m i W' di := ⟨hD, h.run, h.keep, h.zero⟩

theorem zFl_c (w : World) (B : DB) (d : Dv) (h : DevAt w B d) : Calls Try.prog 96 #[.pointer (some ⟨B.d, 0, none⟩)] w fun e w' => e = .returned (.int .i64 (zE d .fl)) ∧ DevAt w' B (zD d .fl) ∧ Fr B.l w w' := dFlush w B d h
theorem zList_fl' (n m : Nat) : (zList n m).drop (n + m) = .fl :: (zList n m).drop (n + m + 1) := by rw [zList_fl, zList_bu]
theorem zList_bu' (n m : Nat) : (zList n m).drop (n + m + 1) = .bu :: (zList n m).drop (n + m + 1 + 1) := by rw [zList_bu, zList_end]

set_option maxRecDepth 100000 in
set_option maxHeartbeats 4000000 in
theorem zResume (w : World) (B : DB) (d : Dv) (h : DevAt w B d) : Calls Try.prog 41 #[.pointer (some ⟨B.d, 0, none⟩)] w fun e w' => e = .returned (.int .i64 (resume d).1) ∧ DevAt w' B (resume d).2 ∧ Fr B.l w w' := by
  refine (callsIn_wide (n := 5)).1 ?_
  have hwd : Fence.wide.depth.isSome = false := rfl
  have hwfn : ∀ f, Fence.wide.fn f := fun _ => trivial
  refine callsIn_of_wp_marks Try.func41 rfl trivial ?_ rfl
  simp only [Try.ntmps41, List.size_toArray, List.length_cons, List.length_nil, Nat.reduceAdd, Nat.reduceSub, Array.replicate_succ, Array.replicate_zero, List.push_toArray, List.append_toArray, List.nil_append, List.cons_append]
  have hfa : Fr [] w (w.alloc (.cells #[.int .i64 0] 24)) := (Fr.refl _ _).alloc _
  have ha := h.fr hfa (by simp)
  have ks := zState_c _ B d ha
  have ku := dUp _ B d ha
  by_cases hz : zState d = 1
  · by_cases hdn : d.dn = true
    · have hr : resume d = (14, d) := by unfold resume; rw [if_neg (by simp [hz]), if_pos hdn]
      rw [hr]
      rw [hz] at ks
      rw [hdn] at ku
      clear hr hz hdn
      gi_wp2_with (first
        | (gi_at_call 43; refine (callsIn_wide.2 ks).mono ?_; rintro e w' ⟨rfl, rfl⟩)
        | (gi_at_call 55; refine (callsIn_wide.2 ku).mono ?_; rintro e w' ⟨rfl, rfl⟩))
      refine ⟨.int .i64 14, by simp [results, Try.results41, go_sem], rfl, ?_, ?_⟩
      · exact h.fr (S := []) ((Fr.refl _ _).alloc _) (by simp)
      · exact (Fr.refl _ _).alloc _
    · have hr : resume d = runZ (zList d.S.length d.M.length) d := by unfold resume; rw [if_neg (by simp [hz]), if_neg hdn]
      rw [hr]
      have hdn : d.dn = false := by simpa using hdn
      have hsl : zSlots d = d.S.length := by unfold zSlots; rw [if_neg (by simp [hdn])]
      rw [hz] at ks
      rw [hdn] at ku
      clear hr hz hdn
      have hms := h.ok.m1
      have hss := h.ok.s1
      obtain ⟨n, hn⟩ : ∃ n, d.S.length = n := ⟨_, rfl⟩
      obtain ⟨m, hm⟩ : ∃ m, d.M.length = m := ⟨_, rfl⟩
      rw [hn, hm]
      rw [hn] at hsl hss
      rw [hm] at hms
      have hn' := Lib.hid hn
      have hm' := Lib.hid hm
      have hsl' := Lib.hid hsl
      clear hn hm hsl
      gi_wp2_with (first
        | (gi_at_call 43; refine (callsIn_wide.2 ks).mono ?_; rintro e w' ⟨rfl, rfl⟩)
        | (gi_at_call 55; refine (callsIn_wide.2 ku).mono ?_; rintro e w' ⟨rfl, rfl⟩)
        | (gi_at_call 100; refine (callsIn_wide.2 (zSteps_make _ _)).mono ?_; rintro e w' ⟨rfl, rfl⟩))
      obtain ⟨w1, hw1⟩ : ∃ w1, (w.alloc (.cells #[.int .i64 0] 24)).alloc (.cells #[.pointer (some ⟨B.d, 0, none⟩)] 63) = w1 := ⟨_, rfl⟩
      have hz1 : w1.heap.size = w.heap.size + 2 := by rw [← hw1]; simp
      have hf1 : Fr [] w w1 := by rw [← hw1]; exact ((Fr.refl _ _).alloc _).alloc _
      have hb1 : w1.cell? ⟨w.heap.size + 1, 0, none⟩ = some (.pointer (some ⟨B.d, 0, none⟩)) := by
        rw [← hw1]; have := cell_newB (w.alloc (.cells #[.int .i64 0] 24)) (.pointer (some ⟨B.d, 0, none⟩)) 63
        rwa [World.size_alloc] at this
      have hb2 : w1.cell? ⟨w.heap.size, 0, none⟩ = some (.int .i64 0) := by
        rw [← hw1, World.cell?_alloc_lt _ _ _ (by simp), cell_newB]
      have hb3 : w1.frozen? ⟨w.heap.size, 0, none⟩ = false := by
        rw [← hw1, World.frozen?_alloc_old _ _ _ (by simp)]; simp
      have hD1 := h.fr hf1 (by simp)
      rw [hw1]
      clear hw1 ha hfa ks ku
      refine wpIn_rf (gf := 124) (lb := #[.pointer (some ⟨w.heap.size + 1, 0, none⟩)]) rfl (enters_of Try.func124 (by kernel_rfl) rfl) ?_
      intro rec hround
      obtain ⟨l, hl⟩ : ∃ l, w1.heap.size + 1 = l := ⟨_, rfl⟩
      rw [hl] at hround ⊢
      have hfr2 : Fr [] w1 ((w1.alloc (.deferred (some []))).alloc (.loop (rec .ready none))) := ((Fr.refl _ _).alloc _).alloc _
      have hD2 := hD1.fr hfr2 (by simp)
      have hN : ZN B w l w1.heap.size w.heap.size (w.heap.size + 1) := ⟨h.all_lt, by omega, by omega, by omega, by omega, by omega⟩
      have hz1' := Lib.hid hz1
      clear hz1
      have hI0 : ZI B w l w1.heap.size w.heap.size (w.heap.size + 1) (.loop (rec .ready none)) 0 ((w1.alloc (.deferred (some []))).alloc (.loop (rec .ready none))) := by
        refine ⟨?_, ?_, (hf1.trans hfr2).weaken (by simp), ?_, ?_, ?_⟩
        · have := World.alloc_heap_new (w1.alloc (.deferred (some []))) (.loop (rec .ready none)); rw [World.size_alloc, hl] at this; exact this
        · exact (Below.heap_alloc _ _ _ (by simp)).trans (World.alloc_heap_new w1 _)
        · exact (hfr2.cell (World.block_lt_of_cell? _ _ hb1) (by simp)).trans hb1
        · exact (hfr2.cell (World.block_lt_of_cell? _ _ hb2) (by simp)).trans hb2
        · exact (hfr2.frozen (World.block_lt_of_cell? _ _ hb2) (by simp)).trans hb3
      have h' := Lib.hid h
      clear h
      have hr1 : ∀ (i : Nat) (W : World) (b3 : Nat), i < n → W.cell? ⟨b3, 0, none⟩ = some (.int .i64 (i : Int)) → b3 ∉ B.l → ZI B w l w1.heap.size w.heap.size (w.heap.size + 1) (.loop (rec .ready none)) 0 W → (∃ di, ZR B d n m (i) W di) → YieldAt Fence.wide 3 Try.prog l #[.func (.func 126) #[] #[.pointer (some ⟨w.heap.size + 1, 0, none⟩), .pointer (some ⟨b3, 0, none⟩)]] W fun e W' => (e = .returned (.bool true) ∧ (ZI B w l w1.heap.size w.heap.size (w.heap.size + 1) (.loop (rec .ready none)) 0 W' ∧ ∃ di, ZR B d n m (i + 1) W' di)) ∨ (e = .returned (.bool false) ∧
          (ZI B w l w1.heap.size w.heap.size (w.heap.size + 1) (.loop (rec .done (some .ret))) (runZ (zList n m) d).1 W' ∧ DevAt W' B (runZ (zList n m) d).2)) := by
        rintro i W b3 hi hb3 hbn hI ⟨di, hR⟩
        refine hround W _ _ hI.loop rfl ?_
        have hI5 := hI.put hN (.loop (rec .busy none))
        have hR5 := hR.move (hN.dev hR.dev (Fr.putOne W l (.loop (rec .busy none))) hN.l0)
        have hb3' := World.block_lt_of_cell? _ _ hb3
        have hb3l : b3 ≠ l := fun e => by
          have := World.cell?_of_block (w := W) (a := ⟨b3, 0, none⟩) rfl
          have h2 := hI.loop
          rw [← e] at h2
          have h3 := hb3
          unfold World.cell? at h3
          simp [h2] at h3
        have hb35 := ((Fr.putOne W l (.loop (rec .busy none))).cell (p := ⟨b3, 0, none⟩) hb3' (by simpa using hb3l)).trans hb3
        clear hb3
        have hlo := hI.loop
        have hdrop := Lib.hid (zList_st (m := m) hi)
        gi_wp2
        clear hlo hI hR
        generalize W.putObj l (.loop (rec .busy none)) = W5 at *
        unfold AtBody
        have c1 := hI5.c1
        have c2 := hI5.c2
        have fz := hI5.fz
        have kc := zSt_c W5 B di hR5.dev _ b3 i c1 hb35 (hN.notin hN.b0) hbn
        obtain ⟨o, ho⟩ : ∃ o : ZOp, o = .st i := ⟨_, rfl⟩
        rw [← ho] at kc hdrop
        clear ho
        obtain ⟨c, hc⟩ : ∃ c, zE di o = c := ⟨_, rfl⟩
        rw [hc] at kc
        have hc' := Lib.hid hc
        clear hc
        by_cases h0 : c = 0
        · subst h0
          gi_wp2_with (gi_at_call 126; refine (CallsIn.inRound l (callsIn_wide.2 kc)).mono ?_; rintro e w' ⟨rfl, hD6, hF6⟩)
          have hI6 := hI5.op hN hF6
          have hR6 := hR5.next hdrop.out hc'.out hD6
          exact ⟨hI6.loop, .inl ⟨rfl, hI6.put hN _, _, hR6.move (hN.dev hR6.dev (Fr.putOne _ _ _) hN.l0)⟩⟩
        · have h0' : (c == 0) = false := by simpa using h0
          have hI6' : ∀ w', Fr B.l W5 w' → w'.cell? ⟨w.heap.size, 0, none⟩ = some (.int .i64 0) ∧ w'.frozen? ⟨w.heap.size, 0, none⟩ = false := fun w' hF => ⟨(hI5.op hN hF).c2, (hI5.op hN hF).fz⟩
          have hI6h := Lib.hid hI6'
          clear hI6'
          have h0h := Lib.hid h0
          clear h0
          gi_wp2_with (gi_at_call 126; refine (CallsIn.inRound l (callsIn_wide.2 kc)).mono ?_; rintro e w' ⟨rfl, hD6, hF6⟩; obtain ⟨c26, fz6⟩ := hI6h.out _ hF6)
          have hI6 := (hI5.op hN hF6).store hN c
          have hs := hR5.stop hdrop.out (by rw [hc'.out]; exact h0h.out)
          rw [hc'.out] at hs
          rw [hs]
          exact ⟨hI6.loop, .inr ⟨rfl, hI6.put hN _, hN.dev (hN.dev hD6 (W' := w'.setCell ⟨w.heap.size, 0, none⟩ (.int .i64 c)) ((Fr.refl _ _).setCell (by simp) _) hN.t0) (Fr.putOne _ _ _) hN.l0⟩⟩
      have hr2 : ∀ (i : Nat) (W : World) (b3 : Nat), i < m → W.cell? ⟨b3, 0, none⟩ = some (.int .i64 (i : Int)) → b3 ∉ B.l → ZI B w l w1.heap.size w.heap.size (w.heap.size + 1) (.loop (rec .ready none)) 0 W → (∃ di, ZR B d n m (n + i) W di) → YieldAt Fence.wide 3 Try.prog l #[.func (.func 128) #[] #[.pointer (some ⟨w.heap.size + 1, 0, none⟩), .pointer (some ⟨b3, 0, none⟩)]] W fun e W' => (e = .returned (.bool true) ∧ (ZI B w l w1.heap.size w.heap.size (w.heap.size + 1) (.loop (rec .ready none)) 0 W' ∧ ∃ di, ZR B d n m (n + i + 1) W' di)) ∨ (e = .returned (.bool false) ∧
          (ZI B w l w1.heap.size w.heap.size (w.heap.size + 1) (.loop (rec .done (some .ret))) (runZ (zList n m) d).1 W' ∧ DevAt W' B (runZ (zList n m) d).2)) := by
        rintro i W b3 hi hb3 hbn hI ⟨di, hR⟩
        refine hround W _ _ hI.loop rfl ?_
        have hI5 := hI.put hN (.loop (rec .busy none))
        have hR5 := hR.move (hN.dev hR.dev (Fr.putOne W l (.loop (rec .busy none))) hN.l0)
        have hb3' := World.block_lt_of_cell? _ _ hb3
        have hb3l : b3 ≠ l := fun e => by
          have := World.cell?_of_block (w := W) (a := ⟨b3, 0, none⟩) rfl
          have h2 := hI.loop
          rw [← e] at h2
          have h3 := hb3
          unfold World.cell? at h3
          simp [h2] at h3
        have hb35 := ((Fr.putOne W l (.loop (rec .busy none))).cell (p := ⟨b3, 0, none⟩) hb3' (by simpa using hb3l)).trans hb3
        clear hb3
        have hlo := hI.loop
        have hdrop := Lib.hid (zList_wr (n := n) hi)
        gi_wp2
        clear hlo hI hR
        generalize W.putObj l (.loop (rec .busy none)) = W5 at *
        unfold AtBody
        have c1 := hI5.c1
        have c2 := hI5.c2
        have fz := hI5.fz
        have kc := zWr_c W5 B di hR5.dev _ b3 i c1 hb35 (hN.notin hN.b0) hbn
        obtain ⟨o, ho⟩ : ∃ o : ZOp, o = .wr i := ⟨_, rfl⟩
        rw [← ho] at kc hdrop
        clear ho
        obtain ⟨c, hc⟩ : ∃ c, zE di o = c := ⟨_, rfl⟩
        rw [hc] at kc
        have hc' := Lib.hid hc
        clear hc
        by_cases h0 : c = 0
        · subst h0
          gi_wp2_with (gi_at_call 128; refine (CallsIn.inRound l (callsIn_wide.2 kc)).mono ?_; rintro e w' ⟨rfl, hD6, hF6⟩)
          have hI6 := hI5.op hN hF6
          have hR6 := hR5.next hdrop.out hc'.out hD6
          exact ⟨hI6.loop, .inl ⟨rfl, hI6.put hN _, _, hR6.move (hN.dev hR6.dev (Fr.putOne _ _ _) hN.l0)⟩⟩
        · have h0' : (c == 0) = false := by simpa using h0
          have hI6' : ∀ w', Fr B.l W5 w' → w'.cell? ⟨w.heap.size, 0, none⟩ = some (.int .i64 0) ∧ w'.frozen? ⟨w.heap.size, 0, none⟩ = false := fun w' hF => ⟨(hI5.op hN hF).c2, (hI5.op hN hF).fz⟩
          have hI6h := Lib.hid hI6'
          clear hI6'
          have h0h := Lib.hid h0
          clear h0
          gi_wp2_with (gi_at_call 128; refine (CallsIn.inRound l (callsIn_wide.2 kc)).mono ?_; rintro e w' ⟨rfl, hD6, hF6⟩; obtain ⟨c26, fz6⟩ := hI6h.out _ hF6)
          have hI6 := (hI5.op hN hF6).store hN c
          have hs := hR5.stop hdrop.out (by rw [hc'.out]; exact h0h.out)
          rw [hc'.out] at hs
          rw [hs]
          exact ⟨hI6.loop, .inr ⟨rfl, hI6.put hN _, hN.dev (hN.dev hD6 (W' := w'.setCell ⟨w.heap.size, 0, none⟩ (.int .i64 c)) ((Fr.refl _ _).setCell (by simp) _) hN.t0) (Fr.putOne _ _ _) hN.l0⟩⟩
      have hr3 : ∀ (W : World), ZI B w l w1.heap.size w.heap.size (w.heap.size + 1) (.loop (rec .ready none)) 0 W → (∃ di, ZR B d n m (n + m) W di) → YieldAt Fence.wide 3 Try.prog l #[.func (.func 96) #[.pointer (some ⟨B.d, 0, none⟩)] #[]] W fun e W' => (e = .returned (.bool true) ∧ (ZI B w l w1.heap.size w.heap.size (w.heap.size + 1) (.loop (rec .ready none)) 0 W' ∧ ∃ di, ZR B d n m (n + m + 1) W' di)) ∨ (e = .returned (.bool false) ∧
          (ZI B w l w1.heap.size w.heap.size (w.heap.size + 1) (.loop (rec .done (some .ret))) (runZ (zList n m) d).1 W' ∧ DevAt W' B (runZ (zList n m) d).2)) := by
        rintro W hI ⟨di, hR⟩
        refine hround W _ _ hI.loop rfl ?_
        have hI5 := hI.put hN (.loop (rec .busy none))
        have hR5 := hR.move (hN.dev hR.dev (Fr.putOne W l (.loop (rec .busy none))) hN.l0)
        have hlo := hI.loop
        have hdrop := Lib.hid (zList_fl' n m)
        gi_wp2
        clear hlo hI hR
        generalize W.putObj l (.loop (rec .busy none)) = W5 at *
        unfold AtBody
        have c1 := hI5.c1
        have c2 := hI5.c2
        have fz := hI5.fz
        have kc := zFl_c W5 B di hR5.dev
        obtain ⟨o, ho⟩ : ∃ o : ZOp, o = .fl := ⟨_, rfl⟩
        rw [← ho] at kc hdrop
        clear ho
        obtain ⟨c, hc⟩ : ∃ c, zE di o = c := ⟨_, rfl⟩
        rw [hc] at kc
        have hc' := Lib.hid hc
        clear hc
        by_cases h0 : c = 0
        · subst h0
          gi_wp2_with (gi_at_call 96; refine (CallsIn.inRound l (callsIn_wide.2 kc)).mono ?_; rintro e w' ⟨rfl, hD6, hF6⟩)
          have hI6 := hI5.op hN hF6
          have hR6 := hR5.next hdrop.out hc'.out hD6
          exact ⟨hI6.loop, .inl ⟨rfl, hI6.put hN _, _, hR6.move (hN.dev hR6.dev (Fr.putOne _ _ _) hN.l0)⟩⟩
        · have h0' : (c == 0) = false := by simpa using h0
          have hI6' : ∀ w', Fr B.l W5 w' → w'.cell? ⟨w.heap.size, 0, none⟩ = some (.int .i64 0) ∧ w'.frozen? ⟨w.heap.size, 0, none⟩ = false := fun w' hF => ⟨(hI5.op hN hF).c2, (hI5.op hN hF).fz⟩
          have hI6h := Lib.hid hI6'
          clear hI6'
          have h0h := Lib.hid h0
          clear h0
          gi_wp2_with (gi_at_call 96; refine (CallsIn.inRound l (callsIn_wide.2 kc)).mono ?_; rintro e w' ⟨rfl, hD6, hF6⟩; obtain ⟨c26, fz6⟩ := hI6h.out _ hF6)
          have hI6 := (hI5.op hN hF6).store hN c
          have hs := hR5.stop hdrop.out (by rw [hc'.out]; exact h0h.out)
          rw [hc'.out] at hs
          rw [hs]
          exact ⟨hI6.loop, .inr ⟨rfl, hI6.put hN _, hN.dev (hN.dev hD6 (W' := w'.setCell ⟨w.heap.size, 0, none⟩ (.int .i64 c)) ((Fr.refl _ _).setCell (by simp) _) hN.t0) (Fr.putOne _ _ _) hN.l0⟩⟩
      have hr4 : ∀ (W : World), ZI B w l w1.heap.size w.heap.size (w.heap.size + 1) (.loop (rec .ready none)) 0 W → (∃ di, ZR B d n m (n + m + 1) W di) → YieldAt Fence.wide 3 Try.prog l #[.func (.func 129) #[] #[.pointer (some ⟨w.heap.size + 1, 0, none⟩)]] W fun e W' => (e = .returned (.bool true) ∧ (ZI B w l w1.heap.size w.heap.size (w.heap.size + 1) (.loop (rec .ready none)) 0 W' ∧ ∃ di, ZR B d n m (n + m + 1 + 1) W' di)) ∨ (e = .returned (.bool false) ∧
          (ZI B w l w1.heap.size w.heap.size (w.heap.size + 1) (.loop (rec .done (some .ret))) (runZ (zList n m) d).1 W' ∧ DevAt W' B (runZ (zList n m) d).2)) := by
        rintro W hI ⟨di, hR⟩
        refine hround W _ _ hI.loop rfl ?_
        have hI5 := hI.put hN (.loop (rec .busy none))
        have hR5 := hR.move (hN.dev hR.dev (Fr.putOne W l (.loop (rec .busy none))) hN.l0)
        have hlo := hI.loop
        have hdrop := Lib.hid (zList_bu' n m)
        gi_wp2
        clear hlo hI hR
        generalize W.putObj l (.loop (rec .busy none)) = W5 at *
        unfold AtBody
        have c1 := hI5.c1
        have c2 := hI5.c2
        have fz := hI5.fz
        have kc := zBu_c W5 B di hR5.dev _ c1
        obtain ⟨o, ho⟩ : ∃ o : ZOp, o = .bu := ⟨_, rfl⟩
        rw [← ho] at kc hdrop
        clear ho
        obtain ⟨c, hc⟩ : ∃ c, zE di o = c := ⟨_, rfl⟩
        rw [hc] at kc
        have hc' := Lib.hid hc
        clear hc
        by_cases h0 : c = 0
        · subst h0
          gi_wp2_with (gi_at_call 129; refine (CallsIn.inRound l (callsIn_wide.2 kc)).mono ?_; rintro e w' ⟨rfl, hD6, hF6⟩)
          have hI6 := hI5.op hN hF6
          have hR6 := hR5.next hdrop.out hc'.out hD6
          exact ⟨hI6.loop, .inl ⟨rfl, hI6.put hN _, _, hR6.move (hN.dev hR6.dev (Fr.putOne _ _ _) hN.l0)⟩⟩
        · have h0' : (c == 0) = false := by simpa using h0
          have hI6' : ∀ w', Fr B.l W5 w' → w'.cell? ⟨w.heap.size, 0, none⟩ = some (.int .i64 0) ∧ w'.frozen? ⟨w.heap.size, 0, none⟩ = false := fun w' hF => ⟨(hI5.op hN hF).c2, (hI5.op hN hF).fz⟩
          have hI6h := Lib.hid hI6'
          clear hI6'
          have h0h := Lib.hid h0
          clear h0
          gi_wp2_with (gi_at_call 129; refine (CallsIn.inRound l (callsIn_wide.2 kc)).mono ?_; rintro e w' ⟨rfl, hD6, hF6⟩; obtain ⟨c26, fz6⟩ := hI6h.out _ hF6)
          have hI6 := (hI5.op hN hF6).store hN c
          have hs := hR5.stop hdrop.out (by rw [hc'.out]; exact h0h.out)
          rw [hc'.out] at hs
          rw [hs]
          exact ⟨hI6.loop, .inr ⟨rfl, hI6.put hN _, hN.dev (hN.dev hD6 (W' := w'.setCell ⟨w.heap.size, 0, none⟩ (.int .i64 c)) ((Fr.refl _ _).setCell (by simp) _) hN.t0) (Fr.putOne _ _ _) hN.l0⟩⟩
      refine ((zSteps1_c 4 l 3 (fun i W => ZI B w l w1.heap.size w.heap.size (w.heap.size + 1) (.loop (rec .ready none)) 0 W ∧ ∃ di, ZR B d n m i W di) (fun W => ZI B w l w1.heap.size w.heap.size (w.heap.size + 1) (.loop (rec .done (some .ret))) (runZ (zList n m) d).1 W ∧ DevAt W B (runZ (zList n m) d).2) (w.heap.size + 1) B n m hss hms rfl ?_ ?_ ?_ ?_ ?_ ?_ ?_ ?_ _ ⟨hI0, d, hD2, rfl, Keeps.refl d, fun _ => rfl⟩)).mono ?_
      · exact fun i W h => h.1.c1
      · exact fun i W W' ⟨h1, di, h2⟩ hb => ⟨h1.below hb, di, h2.move (h2.dev.below hb)⟩
      · exact fun W ⟨h1, di, h2⟩ => ⟨di, h2.dev, by rw [h2.zero rfl]; exact hsl'.out⟩
      · exact fun W ⟨h1, di, h2⟩ => ⟨di, h2.dev, h2.keep.m.trans hm'.out⟩
      · exact fun i W b3 ⟨h1, h2⟩ hi hb ⟨_, W0, h3, e⟩ => hr1 i W b3 hi hb (hN.notin (by rw [e]; exact h3.1.fr.size)) h1 h2
      · exact fun i W b3 ⟨h1, h2⟩ hi hb ⟨_, W0, h3, e⟩ => hr2 i W b3 hi hb (hN.notin (by rw [e]; exact h3.1.fr.size)) h1 h2
      · exact fun W ⟨h1, h2⟩ => hr3 W h1 h2
      · exact fun W ⟨h1, h2⟩ => hr4 W h1 h2
      · rintro e W' ⟨⟨v, rfl⟩, (⟨g1, di, g2⟩ | ⟨g1, g2⟩)⟩
        · have hrun : runZ (zList n m) d = (0, di) := by rw [g2.run, zList_end]; rfl
          have hrun' := Lib.hid hrun
          clear hrun
          refine ⟨⟨_, rfl⟩, .inl ⟨g1.loop, ?_⟩⟩
          have hI5 := g1.put hN (.loop (rec .exhausted none))
          have hD5 := hN.dev g2.dev (Fr.putOne W' l (.loop (rec .exhausted none))) hN.l0
          generalize W'.putObj l (.loop (rec .exhausted none)) = W5 at *
          have c2 := hI5.c2
          have fz := hI5.fz
          clear g1 g2
          gi_wp2
          rw [hrun'.out]
          have hI6 := hI5.store hN 0
          have hD6 := hN.dev hD5 (W' := W5.setCell ⟨w.heap.size, 0, none⟩ (.int .i64 0)) ((Fr.refl _ _).setCell (by simp) _) hN.t0
          refine ⟨by simp, .inl ⟨_, _, rfl, run_takeDeferred hI6.dfr, ?_⟩⟩
          have hdl : w.heap.size ≠ w1.heap.size := by have := hz1'.out; omega
          have hI7c : ((W5.setCell ⟨w.heap.size, 0, none⟩ (.int .i64 0)).putObj w1.heap.size (.deferred none)).cell? ⟨w.heap.size, 0, none⟩ = some (.int .i64 0) := ((Fr.putOne _ _ _).cell (World.block_lt_of_cell? _ _ hI6.c2) (by simpa using hdl)).trans hI6.c2
          refine ⟨.int .i64 0, ?_, rfl, hN.dev hD6 (Fr.putOne _ _ _) hN.d0, hI6.fr.putObj (.inr hN.d0) _⟩
          simp [results, Try.results41, go_sem, hI7c]
        · refine ⟨⟨_, rfl⟩, .inr ⟨g1.loop, ?_⟩⟩
          have hI5 := g1.put hN (.loop (rec .exhausted (some .ret)))
          have hD5 := hN.dev g2 (Fr.putOne W' l (.loop (rec .exhausted (some .ret)))) hN.l0
          generalize W'.putObj l (.loop (rec .exhausted (some .ret))) = W5 at *
          refine ⟨by simp, .inl ⟨_, _, rfl, run_takeDeferred hI5.dfr, ?_⟩⟩
          have hdl : w.heap.size ≠ w1.heap.size := by have := hz1'.out; omega
          have hI7c : (W5.putObj w1.heap.size (.deferred none)).cell? ⟨w.heap.size, 0, none⟩ = some (.int .i64 (runZ (zList n m) d).1) := ((Fr.putOne _ _ _).cell (World.block_lt_of_cell? _ _ hI5.c2) (by simpa using hdl)).trans hI5.c2
          refine ⟨.int .i64 (runZ (zList n m) d).1, ?_, rfl, hN.dev hD5 (Fr.putOne _ _ _) hN.d0, hI5.fr.putObj (.inr hN.d0) _⟩
          simp [results, Try.results41, go_sem, hI7c]
  · have hr : resume d = (0, d) := by unfold resume; rw [if_pos hz]
    rw [hr]
    have hz' : (zState d == 1) = false := by simpa using hz
    clear ku
    gi_wp2_with (gi_at_call 43; refine (callsIn_wide.2 ks).mono ?_; rintro e w' ⟨rfl, rfl⟩)
    refine ⟨.int .i64 0, by simp [results, Try.results41, go_sem], rfl, ?_, ?_⟩
    · exact h.fr (S := []) ((Fr.refl _ _).alloc _) (by simp)
    · exact (Fr.refl _ _).alloc _

end Go.Proofs.Ytogljlloobjeoaa
