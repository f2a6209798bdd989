/- A device is copied. -/
import Derived.Test.YtogljlloobjeoaaGreatDevN
namespace Go.Proofs.YtogljlloobjeoaaGreat
open Go.RowKit

theorem strs_one (xs : List ByteArray) : ∀ u ∈ strs xs, u.oneCell' = true := by
  intro u hu
  obtain ⟨x, _, rfl⟩ := List.mem_map.1 hu
  rfl
theorem bools_one (xs : List Bool) : ∀ u ∈ bools xs, u.oneCell' = true := by
  intro u hu
  obtain ⟨x, _, rfl⟩ := List.mem_map.1 hu
  rfl
theorem DevAt.slots {w : World} {B : DB} {d : Dv} (h : DevAt w B d) : ∀ (j : Nat) u, (strs d.S)[j]? = some u → w.cell? ⟨B.s, 0 + j, none⟩ = some u := by
  intro j u hj
  unfold strs at hj
  rw [List.getElem?_map] at hj
  cases hS : d.S[j]? with
  | none => rw [hS] at hj; cases hj
  | some y => rw [hS] at hj; cases hj; rw [Nat.zero_add]; exact h.slot j y hS
theorem DevAt.fuses {w : World} {B : DB} {d : Dv} (h : DevAt w B d) : ∀ (j : Nat) u, (bools d.F)[j]? = some u → w.cell? ⟨B.f, 0 + j, none⟩ = some u := by
  intro j u hj
  unfold bools at hj
  rw [List.getElem?_map] at hj
  cases hS : d.F[j]? with
  | none => rw [hS] at hj; cases hj
  | some y => rw [hS] at hj; cases hj; rw [Nat.zero_add]; exact h.fuse j y hS

theorem Fr.cells {w w' : World} (h : Fr [] w w') {g : Nat} {xs : List Value} (hl : g < w.heap.size) (hc : ∀ (j : Nat) x, xs[j]? = some x → w.cell? ⟨g, j, none⟩ = some x) : ∀ (j : Nat) x, xs[j]? = some x → w'.cell? ⟨g, j, none⟩ = some x :=
  fun j x hj => (h.cell (p := ⟨g, j, none⟩) hl (by simp)).trans (hc j x hj)
theorem cloneEnd {W2 w4 : World} {bd pm pb gs gf ks kf cs cf : Nat} {d : Dv} {B : DB} (hok : d.Ok) (hM : MemAt W2 pm pb d.M) (hF : Fr [] W2 w4) (hbl : bd < W2.heap.size)
    (q : ∀ (o : Nat) v, o ≠ 4 → (#[.slice (some ⟨B.s, 0, none⟩) d.S.length cs, .slice (some ⟨B.f, 0, none⟩) d.F.length cf, .int .i64 d.cnt, .int .i64 d.clk, .pointer (some ⟨B.m, 0, none⟩), .bool d.dn, .int .i64 d.lf] : Array Value)[o]? = some v → W2.cell? ⟨bd, o, none⟩ = some v)
    (t4 : W2.cell? ⟨bd, 4, none⟩ = some (.pointer (some ⟨pm, 0, none⟩))) (tz : ∀ o, W2.frozen? ⟨bd, o, none⟩ = false)
    (sc : ∀ (j : Nat) x, (strs d.S)[j]? = some x → w4.cell? ⟨gs, j, none⟩ = some x) (sz : ∀ o, w4.frozen? ⟨gs, o, none⟩ = false) (fc : ∀ (j : Nat) x, (bools d.F)[j]? = some x → w4.cell? ⟨gf, j, none⟩ = some x) (fz : ∀ o, w4.frozen? ⟨gf, o, none⟩ = false)
    (hks : d.S.length ≤ ks) (hkf : d.F.length ≤ kf) (hsl : gs < w4.heap.size) (hfl : gf < w4.heap.size) (n1 : bd ≠ pm ∧ bd ≠ pb ∧ bd < gs ∧ bd < gf) (n2 : pm < gs ∧ pm < gf) (n3 : pb < gs ∧ pb < gf) (n4 : gs < gf) :
    DevAt ((w4.setCell ⟨bd, 0, none⟩ (.slice (some ⟨gs, 0, none⟩) d.S.length ks)).setCell ⟨bd, 1, none⟩ (.slice (some ⟨gf, 0, none⟩) d.F.length kf)) ⟨bd, pm, pb, gs, gf⟩ d := by
  have hW : ∀ W5, (w4.setCell ⟨bd, 0, none⟩ (.slice (some ⟨gs, 0, none⟩) d.S.length ks)).setCell ⟨bd, 1, none⟩ (.slice (some ⟨gf, 0, none⟩) d.F.length kf) = W5 → Fr [bd] w4 W5 ∧ W5.cell? ⟨bd, 0, none⟩ = some (.slice (some ⟨gs, 0, none⟩) d.S.length ks) ∧ W5.cell? ⟨bd, 1, none⟩ = some (.slice (some ⟨gf, 0, none⟩) d.F.length kf) ∧
      (∀ o, 2 ≤ o → W5.cell? ⟨bd, o, none⟩ = W2.cell? ⟨bd, o, none⟩) ∧ (∀ o, W5.frozen? ⟨bd, o, none⟩ = false) := by
    rintro W5 rfl
    have u0 := (hF.cell (p := ⟨bd, 0, none⟩) hbl (by simp)).trans (q 0 _ (by decide) rfl)
    have u1 := (hF.cell (p := ⟨bd, 1, none⟩) hbl (by simp)).trans (q 1 _ (by decide) rfl)
    refine ⟨((Fr.refl _ _).setCell (by simp) _).setCell (by simp) _, by simp [cell_set, u0], by simp [cell_set, u1], fun o ho => ?_, fun o => ?_⟩
    · rw [cell_set, if_neg (by omega), cell_set, if_neg (by omega)]; exact hF.cell (p := ⟨bd, o, none⟩) hbl (by simp)
    · rw [World.frozen?_setCell, World.frozen?_setCell]; exact (hF.frozen (p := ⟨bd, o, none⟩) hbl (by simp)).trans (tz o)
  obtain ⟨f5, k0, k1, k2, kz⟩ := hW _ rfl
  generalize (w4.setCell ⟨bd, 0, none⟩ (.slice (some ⟨gs, 0, none⟩) d.S.length ks)).setCell ⟨bd, 1, none⟩ (.slice (some ⟨gf, 0, none⟩) d.F.length kf) = W5 at *
  have l1 := hM.lt
  have l2 := hM.arr.lt
  have hs := hF.size
  have hs5 := f5.size
  refine ⟨(hM.fr hF (by simp) (by simp)).fr f5 (by simp; omega) (by simp; omega), ⟨ks, hks, k0⟩, ⟨kf, hkf, k1⟩, (k2 2 (by omega)).trans (q 2 _ (by decide) rfl), (k2 3 (by omega)).trans (q 3 _ (by decide) rfl), (k2 4 (by omega)).trans t4, (k2 5 (by omega)).trans (q 5 _ (by decide) rfl), (k2 6 (by omega)).trans (q 6 _ (by decide) rfl),
    fun j x hj => (f5.cell (p := ⟨gs, j, none⟩) hsl (by simp; omega)).trans (sc j _ (by simp [strs, hj])), fun j x hj => (f5.cell (p := ⟨gf, j, none⟩) hfl (by simp; omega)).trans (fc j _ (by simp [bools, hj])), by show gs < _; omega, by show gf < _; omega, kz, fun o => (f5.frozen (p := ⟨gs, o, none⟩) hsl (by simp; omega)).trans (sz o), fun o => (f5.frozen (p := ⟨gf, o, none⟩) hfl (by simp; omega)).trans (fz o), ?_, hok⟩
  simp only; omega

set_option maxRecDepth 100000 in
set_option maxHeartbeats 3200000 in
theorem dClone (w : World) (B : DB) (d : Dv) (h : DevAt w B d) :
    Calls Tryz.prog 8 #[.pointer (some ⟨B.d, 0, none⟩)] w fun e w' => ∃ C : DB, e = .returned (.pointer (some ⟨C.d, 0, none⟩)) ∧ DevAt w' C d ∧ (∀ k ∈ C.all, w.heap.size ≤ k) ∧ Below w.heap.size w w' := by
  obtain ⟨cs, hcs, c0⟩ := h.c0
  obtain ⟨cf, hcf, c1⟩ := h.c1
  have c2 := h.c2
  have c3 := h.c3
  have c4 := h.c4
  have c5 := h.c5
  have c6 := h.c6
  have hl := h.lt
  have hok := h.ok
  have h' := Lib.hid h
  clear h
  go_enter Tryz.func8, Tryz.ntmps8
  go_wp2_with fail
  generalize hbd : w.heap.size = bd at *
  generalize hW : w.alloc (.cells #[.slice (some ⟨B.s, 0, none⟩) d.S.length cs, .slice (some ⟨B.f, 0, none⟩) d.F.length cf, .int .i64 d.cnt, .int .i64 d.clk, .pointer (some ⟨B.m, 0, none⟩), .bool d.dn, .int .i64 d.lf] 64) = W0
  have hF0 : Fr [] w W0 := by rw [← hW]; exact (Fr.refl _ _).alloc _
  have hz0 : W0.heap.size = bd + 1 := by rw [← hW, ← hbd]; simp
  have q : ∀ (o : Nat) v, (#[.slice (some ⟨B.s, 0, none⟩) d.S.length cs, .slice (some ⟨B.f, 0, none⟩) d.F.length cf, .int .i64 d.cnt, .int .i64 d.clk, .pointer (some ⟨B.m, 0, none⟩), .bool d.dn, .int .i64 d.lf] : Array Value)[o]? = some v → W0.cell? ⟨bd, o, none⟩ = some v := fun o v hv => by
    rw [← hW, ← hbd, World.cell?_alloc_new]; exact hv
  have qz : ∀ o, W0.frozen? ⟨bd, o, none⟩ = false := fun o => by rw [← hW, ← hbd]; simp
  have h0 := h'.out.fr hF0 (by simp)
  have q' := Lib.hid q
  have qz' := Lib.hid qz
  have hF0' := Lib.hid hF0
  have h0' := Lib.hid h0
  have hz0' := Lib.hid hz0
  have hbd' := Lib.hid hbd
  clear hW q qz hF0 hbd
  refine (mClone W0 _ _ _ h0.mem hok.m1 hok.m0).mono ?_
  rintro e w1 ⟨pm, pb, rfl, hM1, hpm, hpb, hB1⟩
  have hs1 := hB1.size
  have r4 := (hB1.cell (p := ⟨bd, 4, none⟩) (by show bd < _; omega)).trans (q'.out 4 _ rfl)
  have rz4 := (hB1.frozen (p := ⟨bd, 4, none⟩) (by show bd < _; omega)).trans (qz'.out 4)
  clear h0 c0 c1 c2 c3 c4 c5 c6 hz0
  go_wp2_with fail
  generalize hW2 : w1.setCell ⟨bd, 4, none⟩ (.pointer (some ⟨pm, 0, none⟩)) = W2
  have hF2 : Fr [bd] W0 W2 := by rw [← hW2]; exact ((Fr.of_below hB1).setCell (by simp) _)
  have hF12 : Fr [bd] w1 W2 := by rw [← hW2]; exact (Fr.refl _ _).setCell (by simp) _
  have t4 : W2.cell? ⟨bd, 4, none⟩ = some (.pointer (some ⟨pm, 0, none⟩)) := by rw [← hW2]; exact World.cell?_setCell_same _ _ _ r4
  have tt : ∀ o, o ≠ 4 → W2.cell? ⟨bd, o, none⟩ = W0.cell? ⟨bd, o, none⟩ := fun o ho => by rw [← hW2, World.cell?_setCell_other _ _ _ _ (addr_ne (Ne.symm ho))]; exact hB1.cell (p := ⟨bd, o, none⟩) (by show bd < _; have := hz0'.out; omega)
  have tz : ∀ o, W2.frozen? ⟨bd, o, none⟩ = false := fun o => by rw [← hW2, World.frozen?_setCell]; exact (hB1.frozen (p := ⟨bd, o, none⟩) (by show bd < _; have := hz0'.out; omega)).trans (qz'.out o)
  have hM2 := Lib.hid (hM1.fr hF12 (by simp; have := hz0'.out; omega) (by simp; have := hz0'.out; omega))
  have h2 := h0'.out.fr hF2 (by have := hbd'.out; simp [DB.all]; omega)
  have hsz2 : w1.heap.size ≤ W2.heap.size := hF12.size
  have hl2 := h2.lt
  obtain ⟨cs2, hcs2, e0⟩ := h2.c0
  obtain ⟨cf2, hcf2, e1⟩ := h2.c1
  have h2' := Lib.hid h2
  have t4' := Lib.hid t4
  have tt' := Lib.hid tt
  have tz' := Lib.hid tz
  have hF2' := Lib.hid hF2
  have hbl : bd < W2.heap.size := by have := hz0'.out; omega
  clear hW2 r4 rz4 hB1 hM1 hF12 h2 t4 tt tz hF2 hcs hcf
  go_region_law (first
    | (refine step_call _ (by rfl) 32 _ _ (by rfl) [.slice (some ⟨B.s, 0, none⟩) d.S.length cs2] (by rfl) (enters_of Tryz.func32 (by kernel_rfl) rfl) ?_
       refine (lCloneStr _ B.s 0 d.S.length cs2 (strs d.S) (by simp [strs]) (h2'.out.fr (S := []) (Fr.refl _ _).drew (by simp)).slots (strs_one _) (by have := hok.s1; omega)).mono ?_
       rintro e w3 ⟨v3, rfl, hown3, hB3⟩
       obtain ⟨gs, ks, hv3, hks, hgs, hgsl, hgsc, hgsz⟩ := row_of_own hown3 hok.s0
       subst hv3
       refine ⟨.slice (some ⟨gs, 0, none⟩) d.S.length ks, rfl, ?_⟩
       have hF3 : Fr [] W2 w3 := (Fr.refl _ _).drew.trans (Fr.of_below hB3)
       have e03 := (hF3.cell (p := ⟨B.d, 0, none⟩) (by exact hl2.1) (by simp)).trans e0
       have e13 := (hF3.cell (p := ⟨B.d, 1, none⟩) (by exact hl2.1) (by simp)).trans e1
       have h3' := Lib.hid (h2'.out.fr hF3 (by simp))
       have hgsc' := Lib.hid hgsc
       have hgsz' := Lib.hid hgsz
       have hF3' := Lib.hid hF3
       have hs3 : W2.heap.size ≤ w3.heap.size := hF3.size
       have hgs2 : W2.heap.size ≤ gs := hgs
       clear hown3 hB3 hgsc hgsz hF3 hgs)
    | (refine step_call _ (by rfl) 33 _ _ (by rfl) [.slice (some ⟨B.f, 0, none⟩) d.F.length cf2] (by rfl) (enters_of Tryz.func33 (by kernel_rfl) rfl) ?_
       refine (lCloneBool _ B.f 0 d.F.length cf2 (bools d.F) (by simp [bools]) h3'.out.fuses (bools_one _) (by have := hok.f1; omega)).mono ?_
       rintro e w4 ⟨v4, rfl, hown4, hB4⟩
       obtain ⟨gf, kf, hv4, hkf, hgf, hgfl, hgfc, hgfz⟩ := row_of_own hown4 hok.f0
       subst hv4
       refine ⟨.slice (some ⟨gf, 0, none⟩) d.F.length kf, rfl, ?_⟩
       have hF4 : Fr [] w3 w4 := Fr.of_below hB4
       have hF24 : Fr [] W2 w4 := hF3'.out.trans hF4
       have e04 := (hF24.cell (p := ⟨B.d, 0, none⟩) (by exact hl2.1) (by simp)).trans e0
       have e14 := (hF24.cell (p := ⟨B.d, 1, none⟩) (by exact hl2.1) (by simp)).trans e1
       have u0 := (hF24.cell (p := ⟨bd, 0, none⟩) (by exact hbl) (by simp)).trans ((tt'.out 0 (by decide)).trans (q'.out 0 _ rfl))
       have u1 := (hF24.cell (p := ⟨bd, 1, none⟩) (by exact hbl) (by simp)).trans ((tt'.out 1 (by decide)).trans (q'.out 1 _ rfl))
       have uz0 := (hF24.frozen (p := ⟨bd, 0, none⟩) (by exact hbl) (by simp)).trans (tz'.out 0)
       have uz1 := (hF24.frozen (p := ⟨bd, 1, none⟩) (by exact hbl) (by simp)).trans (tz'.out 1)
       have hgfc' := Lib.hid hgfc
       have hgfz' := Lib.hid hgfz
       have hF4' := Lib.hid hF4
       have hF24' := Lib.hid hF24
       have hs4 : w3.heap.size ≤ w4.heap.size := hF4.size
       clear hown4 hB4 hgfc hgfz hF4 hF24))
  all_goals
    have hend := cloneEnd hok hM2.out hF24'.out hbl (fun o v ho hv => (tt'.out o ho).trans (q'.out o v hv)) t4'.out tz'.out (hF4'.out.cells hgsl hgsc'.out) (fun o => (hF4'.out.frozen (p := ⟨gs, o, none⟩) hgsl (by simp)).trans (hgsz'.out o)) hgfc'.out hgfz'.out hks hkf (by omega) hgfl (by have := hz0'.out; omega) (by have := hM2.out.lt; omega) (by have := hM2.out.arr.lt; omega) (by omega)
    have hFin : Below w.heap.size w ((w4.setCell ⟨bd, 0, none⟩ (.slice (some ⟨gs, 0, none⟩) d.S.length ks)).setCell ⟨bd, 1, none⟩ (.slice (some ⟨gf, 0, none⟩) d.F.length kf)) := by
      have hb := hbd'.out
      have e1 : Below w.heap.size w W0 := hF0'.out.below (Nat.le_refl _) (by simp)
      have e2 : Below w.heap.size w W2 := e1.trans (hF2'.out.below e1.size (by simp; omega))
      exact ((e2.trans (hF24'.out.below e2.size (by simp))).setCell (by show w.heap.size ≤ bd; omega) _).setCell (by show w.heap.size ≤ bd; omega) _
    have hend' := Lib.hid hend
    have hFin' := Lib.hid hFin
    generalize (w4.setCell ⟨bd, 0, none⟩ (.slice (some ⟨gs, 0, none⟩) d.S.length ks)).setCell ⟨bd, 1, none⟩ (.slice (some ⟨gf, 0, none⟩) d.F.length kf) = W5 at *
    clear hend hFin u0 u1 uz0 uz1 e0 e1 e03 e13 e04 e14
    go_wp2
    go_ret
    refine ⟨⟨bd, pm, pb, gs, gf⟩, rfl, hend'.out, ?_, hFin'.out⟩
    have := hbd'.out
    have := hz0'.out
    simp [DB.all]
    omega

end Go.Proofs.YtogljlloobjeoaaGreat
