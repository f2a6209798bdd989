/- Clone of the specification's device. -/
import Derived.Test.YtogljlloobjeoaaGreatVDev
import Derived.Test.YtogljlloobjeoaaGreatDevK
import Derived.Test.YtogljlloobjeoaaGreatApp
import Derived.Test.YtogljlloobjeoaaGreatNewR
import Derived.Deep.RegionHeld3
namespace Go.Proofs.YtogljlloobjeoaaGreat
open Go.RowKit
set_option linter.unusedSimpArgs false
set_option linter.unusedVariables false

theorem add_plainV (b o k : Nat) : (⟨b, o, none⟩ : Addr).add k = ⟨b, o + k, none⟩ := by unfold Addr.add; split <;> simp_all
theorem RevAt.slots {w : World} {B : DB} {d : Dv} (h : RevAt w B d) : ∀ (j : Nat) u, (strs d.S)[j]? = some u → w.cell? ((⟨B.s, 0, none⟩ : Addr).add j) = some u := by
  intro j u hj
  unfold strs at hj
  rw [List.getElem?_map] at hj
  cases hS : d.S[j]? with
  | none => rw [hS] at hj; cases hj
  | some y =>
    rw [hS] at hj
    cases hj
    have := h.slot j y hS
    rw [add_plainV, Nat.zero_add]
    exact this
theorem RevAt.fuses {w : World} {B : DB} {d : Dv} (h : RevAt w B d) : ∀ (j : Nat) u, (bools d.F)[j]? = some u → w.cell? ((⟨B.f, 0, none⟩ : Addr).add j) = some u := by
  intro j u hj
  unfold bools at hj
  rw [List.getElem?_map] at hj
  cases hS : d.F[j]? with
  | none => rw [hS] at hj; cases hj
  | some y =>
    rw [hS] at hj
    cases hj
    have := h.fuse j y hS
    rw [add_plainV, Nat.zero_add]
    exact this
/-- What the copied rows make of the new device. -/
theorem cloneV {W3 w4 w6 : World} {bd pm pb g g2 ks kf : Nat} {cap cap2 : Nat} {d : Dv} {ar : Bool} {l : Int} (hok : d.Ok) (hM : MemAt W3 pm pb d.M) (hbl : bd < W3.heap.size) (hlt : pm < bd ∧ pb < bd)
    (q0 : W3.cell? ⟨bd, 0, none⟩ = some (.pointer (some ⟨pm, 0, none⟩))) (q1 : W3.cell? ⟨bd, 1, none⟩ = some (.slice none 0 0)) (q2 : W3.cell? ⟨bd, 2, none⟩ = some (.slice none 0 0)) (q3 : W3.cell? ⟨bd, 3, none⟩ = some (.int .i64 d.cnt)) (q4 : W3.cell? ⟨bd, 4, none⟩ = some (.int .i64 d.clk)) (q5 : W3.cell? ⟨bd, 5, none⟩ = some (.bool (!d.dn))) (q6 : W3.cell? ⟨bd, 6, none⟩ = some (.bool ar)) (q7 : W3.cell? ⟨bd, 7, none⟩ = some (.int .i64 l)) (ha : ArmRel ar l d.lf)
    (qz : ∀ o, W3.frozen? ⟨bd, o, none⟩ = false) (hr4 : w4.ownsRow W3.heap.size 9 1 (.slice (some ⟨g, 0, none⟩) d.S.length cap) d.S.length (strs d.S)) (hg4 : W3.grownBy w4 none) {w5 : World} (hw5 : w5 = w4.setCell ⟨bd, 1, none⟩ (.slice (some ⟨g, 0, none⟩) d.S.length cap))
    (hr6 : w6.ownsRow w5.heap.size 4 1 (.slice (some ⟨g2, 0, none⟩) d.F.length cap2) d.F.length (bools d.F)) (hg6 : w5.grownBy w6 none) :
    RevAt (w6.setCell ⟨bd, 2, none⟩ (.slice (some ⟨g2, 0, none⟩) d.F.length cap2)) ⟨bd, pm, pb, g, g2⟩ d ∧ Fr [bd] W3 (w6.setCell ⟨bd, 2, none⟩ (.slice (some ⟨g2, 0, none⟩) d.F.length cap2)) ∧ W3.heap.size ≤ g ∧ W3.heap.size ≤ g2 := by
  have hF4 : Fr [] W3 w4 := (Fr.refl _ _).grown hg4 (fun k hk => by cases hk)
  have hF5 : Fr [bd] w4 w5 := by rw [hw5]; exact (Fr.refl _ _).setCell (by simp) _
  have hF6 : Fr [] w5 w6 := (Fr.refl _ _).grown hg6 (fun k hk => by cases hk)
  have hF7 : Fr [bd] w6 (w6.setCell ⟨bd, 2, none⟩ (.slice (some ⟨g2, 0, none⟩) d.F.length cap2)) := (Fr.refl _ _).setCell (by simp) _
  have hl4 : bd < w4.heap.size := Nat.lt_of_lt_of_le hbl hF4.size
  have hl5 : bd < w5.heap.size := Nat.lt_of_lt_of_le hl4 hF5.size
  have hl6 : bd < w6.heap.size := Nat.lt_of_lt_of_le hl5 hF6.size
  have e4 : ∀ o, w4.cell? ⟨bd, o, none⟩ = W3.cell? ⟨bd, o, none⟩ := fun o => hF4.cell (p := ⟨bd, o, none⟩) hbl (by simp)
  have e5 : ∀ o, o ≠ 1 → w5.cell? ⟨bd, o, none⟩ = W3.cell? ⟨bd, o, none⟩ := fun o ho => by rw [hw5, oc ho, e4]
  have e6 : ∀ o, w6.cell? ⟨bd, o, none⟩ = w5.cell? ⟨bd, o, none⟩ := fun o => hF6.cell (p := ⟨bd, o, none⟩) hl5 (by simp)
  have e51 : w5.cell? ⟨bd, 1, none⟩ = some (.slice (some ⟨g, 0, none⟩) d.S.length cap) := by rw [hw5]; exact World.cell?_setCell_same _ _ _ ((e4 1).trans q1)
  have hF35 : Fr [bd] W3 w5 := (hF4.weaken (by simp)).trans hF5
  have hFF : Fr [bd] W3 (w6.setCell ⟨bd, 2, none⟩ (.slice (some ⟨g2, 0, none⟩) d.F.length cap2)) := (hF35.trans (hF6.weaken (by simp))).trans hF7
  have hgz := (hr4.lt g rfl)
  have hg2z := (hr6.lt g2 rfl)
  have s5 : W3.heap.size ≤ w5.heap.size := hF35.size
  have s45 : w4.heap.size = w5.heap.size := by rw [hw5]; simp [World.setCell]
  obtain ⟨ga, cpa, hva, hcpa, _, hgl, hgc, hgf⟩ := row_of_own hr4 hok.s0
  injection hva with a1 _ a3
  injection a1 with a1
  injection a1 with a1
  subst a1; subst a3
  obtain ⟨gb, cpb, hvb, hcpb, _, hgl2, hgc2, hgf2⟩ := row_of_own hr6 hok.f0
  injection hvb with b1 _ b3
  injection b1 with b1
  injection b1 with b1
  subst b1; subst b3
  have hFg : Fr [bd] w4 (w6.setCell ⟨bd, 2, none⟩ (.slice (some ⟨g2, 0, none⟩) d.F.length cap2)) := (hF5.trans (hF6.weaken (by simp))).trans hF7
  refine ⟨⟨hM.fr hFF (by simp; omega) (by simp; omega), (oc (by decide)).trans ((e6 _).trans ((e5 _ (by decide)).trans q0)), ⟨cap, hcpa, (oc (by decide)).trans ((e6 _).trans e51)⟩, ⟨cap2, hcpb, World.cell?_setCell_same _ _ _ ((e6 _).trans ((e5 _ (by decide)).trans q2))⟩,
    (oc (by decide)).trans ((e6 _).trans ((e5 _ (by decide)).trans q3)), (oc (by decide)).trans ((e6 _).trans ((e5 _ (by decide)).trans q4)), (oc (by decide)).trans ((e6 _).trans ((e5 _ (by decide)).trans q5)), ⟨ar, l, (oc (by decide)).trans ((e6 _).trans ((e5 _ (by decide)).trans q6)), (oc (by decide)).trans ((e6 _).trans ((e5 _ (by decide)).trans q7)), ha⟩,
    fun j x hj => (hFg.cell (p := ⟨g, j, none⟩) hgl (by simp; omega)).trans (hgc j _ (by simp [strs, hj])), fun j x hj => (hF7.cell (p := ⟨g2, j, none⟩) hgl2 (by simp; omega)).trans (hgc2 j _ (by simp [bools, hj])), Nat.lt_of_lt_of_le hgl hFg.size, Nat.lt_of_lt_of_le hgl2 hF7.size,
    fun o => (World.frozen?_setCell _ _ _ _).trans ((hF6.frozen (p := ⟨bd, o, none⟩) hl5 (by simp)).trans (by rw [hw5, World.frozen?_setCell]; exact (hF4.frozen (p := ⟨bd, o, none⟩) hbl (by simp)).trans (qz o))),
    fun o => (hFg.frozen (p := ⟨g, o, none⟩) hgl (by simp; omega)).trans (hgf o), fun o => (hF7.frozen (p := ⟨g2, o, none⟩) hgl2 (by simp; omega)).trans (hgf2 o), by simp only; omega, hok⟩, hFF, hgz.1, by omega⟩

set_option maxRecDepth 100000 in
set_option maxHeartbeats 8000000 in
theorem qClone (w : World) (B : DB) (d : Dv) (h : RevAt w B d) :
    Calls Tryz.prog 9 #[.pointer (some ⟨B.d, 0, none⟩)] w fun e w' => ∃ C : DB, e = .returned (.pointer (some ⟨C.d, 0, none⟩)) ∧ RevAt w' C d ∧ (∀ k ∈ C.all, w.heap.size ≤ k) ∧ Below w.heap.size w w' := by
  obtain ⟨i0, hi1, hz01, hz11, hz21⟩ := info_parts infoStrD
  obtain ⟨i1, hi2, hz02, hz12, hz22⟩ := info_parts infoBool
  have h' := Lib.hid h
  obtain ⟨ar, l, a1, a2, a3⟩ := h.arm
  have a3' := Lib.hid a3
  have hok := Lib.hid h.ok
  have hS' := Lib.hid (fun (W : World) (hW : Fr [] w W) => (⟨(hW.cell (p := ⟨B.d, 0, none⟩) h.ltd (by simp)).trans h.k0, (hW.cell (p := ⟨B.d, 3, none⟩) h.ltd (by simp)).trans h.c2, (hW.cell (p := ⟨B.d, 4, none⟩) h.ltd (by simp)).trans h.c3, (hW.cell (p := ⟨B.d, 5, none⟩) h.ltd (by simp)).trans h.c5, (hW.cell (p := ⟨B.d, 6, none⟩) h.ltd (by simp)).trans a1, (hW.cell (p := ⟨B.d, 7, none⟩) h.ltd (by simp)).trans a2⟩ :
    W.cell? ⟨B.d, 0, none⟩ = some (.pointer (some ⟨B.m, 0, none⟩)) ∧ W.cell? ⟨B.d, 3, none⟩ = some (.int .i64 d.cnt) ∧ W.cell? ⟨B.d, 4, none⟩ = some (.int .i64 d.clk) ∧ W.cell? ⟨B.d, 5, none⟩ = some (.bool (!d.dn)) ∧ W.cell? ⟨B.d, 6, none⟩ = some (.bool ar) ∧ W.cell? ⟨B.d, 7, none⟩ = some (.int .i64 l)))
  have hcl := Lib.hid (rClone w.drew B.m B.b d.M (h.mem.fr (S := []) (Fr.refl _ _).drew (by simp) (by simp)) h.ok.m1 h.ok.m0)
  clear h a1 a2 a3
  go_enter Tryz.func9, Tryz.ntmps9
  go_wp2_with fail
  go_region_held3 (fun W => W.cell? ⟨B.d, 0, none⟩ = some (.pointer (some ⟨B.m, 0, none⟩)) ∧ W.cell? ⟨B.d, 3, none⟩ = some (.int .i64 d.cnt) ∧ W.cell? ⟨B.d, 4, none⟩ = some (.int .i64 d.clk) ∧ W.cell? ⟨B.d, 5, none⟩ = some (.bool (!d.dn)) ∧ W.cell? ⟨B.d, 6, none⟩ = some (.bool ar) ∧ W.cell? ⟨B.d, 7, none⟩ = some (.int .i64 l)) (exact hS'.out _ (by first | assumption | exact (Fr.refl _ _).drew | exact hfr2.alloc _))
    (first | (go_at_call 34; refine hcl.out.mono ?_; rintro e w2 ⟨pm, pb, rfl, hM2, hpm, hpb, hB2⟩; have hfr2 : Fr [] w w2 := (Fr.refl _ _).drew.trans (Fr.of_below hB2)))
  all_goals
    generalize hW3 : w2.alloc (.cells #[.pointer (some ⟨pm, 0, none⟩), .slice none 0 0, .slice none 0 0, .int .i64 d.cnt, .int .i64 d.clk, .bool (!d.dn), .bool ar, .int .i64 l] 69) = W3
    obtain ⟨bd, hbd⟩ : ∃ bd, w2.heap.size = bd := ⟨_, rfl⟩
    have hF3 : Fr [] w W3 := by rw [← hW3]; exact hfr2.alloc _
    have q : ∀ (o : Nat) x, (#[.pointer (some ⟨pm, 0, none⟩), .slice none 0 0, .slice none 0 0, .int .i64 d.cnt, .int .i64 d.clk, .bool (!d.dn), .bool ar, .int .i64 l] : Array Value)[o]? = some x → W3.cell? ⟨bd, o, none⟩ = some x := fun o x hx => by
      rw [← hW3, World.cell?_alloc_at]
      · exact hx
      · exact hbd.symm
    have qz : Hid (∀ o, W3.frozen? ⟨bd, o, none⟩ = false) := fun o => by rw [← hW3]; exact World.frozen?_alloc_at _ _ _ _ hbd.symm
    have hM3 := Lib.hid (hM2.fr (S := []) (show Fr [] w2 W3 by rw [← hW3]; exact (Fr.refl _ _).alloc _) (by simp) (by simp))
    have hbl1 : bd < W3.heap.size := by rw [← hW3, ← hbd]; simp
    have hlt : Hid (pm < bd ∧ pb < bd) := by have h1 := hM2.lt; have h2 := hM2.arr.lt; rw [hbd] at h1 h2; exact ⟨h1, h2⟩
    have hge : Hid (w.heap.size ≤ pm ∧ w.heap.size ≤ pb ∧ w.heap.size ≤ bd) := by have h1 := hfr2.size; rw [hbd] at h1; exact ⟨hpm, hpb, h1⟩
    rw [hbd]
    have h3 := h'.out.fr hF3 (by simp)
    have h3' := Lib.hid h3
    obtain ⟨cs, hcs, c0⟩ := h3.c0
    have hnews1 := Lib.hid h3.slots
    have k1 := q 1 _ rfl
    have kz1 := qz
    have q' := Lib.hid q
    have hF3' := Lib.hid hF3
    have hs0 := h3.ok.s0
    have hs1 := h3.ok.s1
    have hbB : Hid (∀ k ∈ B.all, k < bd) := by
      have h1 := h'.out.all_lt
      have h2 := hge.out.2.2
      exact fun k hk => Nat.lt_of_lt_of_le (h1 k hk) h2
    clear hW3 hbd hF3 q hM2 hfr2 hB2 hpm hpb h3 hcs hcl hS'
    go_wp2_with fail
    go_region_law ((refine step_append_keep _ (by rfl) _ _ _ (by rfl) W3.heap.size 9 i0 (.string ByteArray.empty) 1 16 Tryz.underlying36 hi1 hz01 hz11 hz21 rfl (by decide) (.slice none 0 0) 0 [] (by rfl) (World.ownsRow_nil _ _ _ _) ⟨B.s, 0, none⟩ d.S.length cs (strs d.S) (by rfl) (by simp [strs, bools]) hnews1.out (strs_one _) (by have := hs0; omega) (by have := hs1; unfold maxLen; omega) (by have := hs1; omega) (Nat.le_refl _) ?_
                    intro g cap w4 hown1 hgrow1 hor1 hgl1
                    have hblk1 := hgrow1.block bd (by have := hbl1; exact this) (fun e => by simp [Value.ownBlock] at e)
                    have hc1 : w4.cell? ⟨bd, 1, none⟩ = some (.slice none 0 0) := (World.cell?_of_block (a := ⟨bd, 1, none⟩) hblk1).trans k1
                    have hf1 : w4.frozen? ⟨bd, 1, none⟩ = false := (World.frozen?_of_block (a := ⟨bd, 1, none⟩) hblk1).trans (kz1.out 1)
                    have hown1' := Lib.hid hown1
                    have hgrow1' := Lib.hid hgrow1
                    have hblk1' := Lib.hid hblk1
                    clear hown1 hgrow1 hor1 hblk1))
    all_goals
      have hr4 : w4.ownsRow W3.heap.size 9 1 (.slice (some ⟨g, 0, none⟩) d.S.length cap) d.S.length (strs d.S) := by simpa using hown1'.out
      have hg4 : W3.grownBy w4 none := ⟨hgrow1'.out.os, hgrow1'.out.tape, hgrow1'.out.output, hgrow1'.out.size, hgrow1'.out.block⟩
      generalize hW5 : w4.setCell ⟨bd, 1, none⟩ (.slice (some ⟨g, 0, none⟩) d.S.length cap) = W5
      have hF34 : Fr [] W3 w4 := (Fr.refl _ _).grown hg4 (fun k hk => by cases hk)
      have hF45 : Fr [bd] w4 W5 := by rw [← hW5]; exact (Fr.refl _ _).setCell (by simp) _
      have hF35 : Fr [bd] W3 W5 := (hF34.weaken (by simp)).trans hF45
      have hbl2 : bd < W5.heap.size := Nat.lt_of_lt_of_le hbl1 hF35.size
      have k2 : W5.cell? ⟨bd, 2, none⟩ = some (.slice none 0 0) := by rw [← hW5, oc (by decide)]; exact (hF34.cell (p := ⟨bd, 2, none⟩) hbl1 (by simp)).trans (q'.out 2 _ rfl)
      have kz2 : Hid (∀ o, W5.frozen? ⟨bd, o, none⟩ = false) := fun o => by rw [← hW5, World.frozen?_setCell]; exact (hF34.frozen (p := ⟨bd, o, none⟩) hbl1 (by simp)).trans (qz.out o)
      have h5 := h3'.out.fr hF35 (by intro k hk hm; have := hbB.out k hm; simp at hk; omega)
      obtain ⟨cf, hcf, c1⟩ := h5.c1
      have hnews2 := Lib.hid h5.fuses
      have hf0 := h5.ok.f0
      have hf1' := h5.ok.f1
      have hr4' := Lib.hid hr4
      have hg4' := Lib.hid hg4
      have hW5' := Lib.hid hW5
      have hF35' := Lib.hid hF35
      clear hr4 hg4 hW5 hF34 hF45 hF35 hown1' hgrow1' hblk1' hc1 hf1 k1 kz1 hnews1 h5 hcf c0 hs0 hs1
      go_wp2_with fail
      go_region_law ((refine step_append_keep _ (by rfl) _ _ _ (by rfl) W5.heap.size 4 i1 (.bool false) 1 1 Tryz.underlying60 hi2 hz02 hz12 hz22 rfl (by decide) (.slice none 0 0) 0 [] (by rfl) (World.ownsRow_nil _ _ _ _) ⟨B.f, 0, none⟩ d.F.length cf (bools d.F) (by rfl) (by simp [strs, bools]) hnews2.out (bools_one _) (by have := hf0; omega) (by have := hf1'; unfold maxLen; omega) (by have := hf1'; omega) (Nat.le_refl _) ?_
                      intro g2 cap2 w6 hown2 hgrow2 hor2 hgl2
                      have hblk2 := hgrow2.block bd (by have := hbl2; exact this) (fun e => by simp [Value.ownBlock] at e)
                      have hc2 : w6.cell? ⟨bd, 2, none⟩ = some (.slice none 0 0) := (World.cell?_of_block (a := ⟨bd, 2, none⟩) hblk2).trans k2
                      have hf2 : w6.frozen? ⟨bd, 2, none⟩ = false := (World.frozen?_of_block (a := ⟨bd, 2, none⟩) hblk2).trans (kz2.out 2)
                      have hown2' := Lib.hid hown2
                      have hgrow2' := Lib.hid hgrow2
                      have hblk2' := Lib.hid hblk2
                      clear hown2 hgrow2 hor2 hblk2))
      all_goals
        have hr6 : w6.ownsRow W5.heap.size 4 1 (.slice (some ⟨g2, 0, none⟩) d.F.length cap2) d.F.length (bools d.F) := by simpa using hown2'.out
        have hg6 : W5.grownBy w6 none := ⟨hgrow2'.out.os, hgrow2'.out.tape, hgrow2'.out.output, hgrow2'.out.size, hgrow2'.out.block⟩
        obtain ⟨hR, hF7, hgl, hgl2⟩ := cloneV (ks := 0) (kf := 0) hok.out hM3.out hbl1 hlt.out (q'.out 0 _ rfl) (q'.out 1 _ rfl) (q'.out 2 _ rfl) (q'.out 3 _ rfl) (q'.out 4 _ rfl) (q'.out 5 _ rfl) (q'.out 6 _ rfl) (q'.out 7 _ rfl) a3'.out qz.out hr4'.out hg4'.out hW5'.out.symm hr6 hg6
        have hR' := Lib.hid hR
        have hB7 : Below w.heap.size w (w6.setCell ⟨bd, 2, none⟩ (.slice (some ⟨g2, 0, none⟩) d.F.length cap2)) := by
          have e1 := hF3'.out.below (B := w.heap.size) (Nat.le_refl _) (by simp)
          exact e1.trans (hF7.below e1.size (by have := hge.out; simp; omega))
        have hall : Hid (∀ k ∈ (DB.mk bd pm pb g g2).all, w.heap.size ≤ k) := by
          have h1 := hge.out
          have h2 := hF3'.out.size
          intro k hk
          simp only [DB.all, List.mem_cons, List.not_mem_nil, or_false] at hk
          rcases hk with rfl | rfl | rfl | rfl | rfl <;> omega
        clear hR hF7 hr6 hg6 hown2' hgrow2' hblk2' hc2 hf2 k2 kz2 hnews2 c1
        generalize w6.setCell ⟨bd, 2, none⟩ (.slice (some ⟨g2, 0, none⟩) d.F.length cap2) = W7 at *
        go_wp2_with fail
        go_ret
        exact ⟨⟨bd, pm, pb, g, g2⟩, rfl, hR'.out, hall.out, hB7⟩

end Go.Proofs.YtogljlloobjeoaaGreat
