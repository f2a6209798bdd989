/- MemoryClones, walked. -/
import Derived.Test.YtogljlloobjeoaaPair
import Derived.StillTailTactics
import Derived.BigQuiet
import Derived.Deep.RegionHeld3
namespace Go.Proofs.Ytogljlloobjeoaa
open Go.RowKit
set_option linter.unusedSimpArgs false

theorem runS_ilen (ops : List OpT) (s : St) (hm : s.M.length ≤ 64) (hi : ∀ l ∈ s.I, l.length ≤ 4096) : ∀ l ∈ (runS ops s).I, l.length ≤ 4096 := by
  unfold runS
  induction ops generalizing s with
  | nil => exact hi
  | cons o ops ih =>
    simp only [List.foldl_cons]
    refine ih _ (by rw [playS_M]; exact hm) ?_
    unfold playS
    (repeat' split) <;> first
      | exact hi
      | (intro l hl
         simp only [List.mem_append, List.mem_singleton] at hl
         rcases hl with hl | rfl
         · exact hi l hl
         · simp [imgM]; omega)

/-- Two cells, just made. -/
theorem twoCells {w : World} {a b : Value} {T : TypeId} : ∀ W, w.alloc (.cells #[a, b] T) = W → W.cell? ⟨w.heap.size, 0, none⟩ = some a ∧ W.cell? ⟨w.heap.size, 1, none⟩ = some b ∧ (∀ o, W.frozen? ⟨w.heap.size, o, none⟩ = false) ∧ Fr [] w W ∧ W.heap.size = w.heap.size + 1 := by
  rintro W rfl
  exact ⟨by simp, by simp, fun o => by simp, (Fr.refl _ _).alloc _, by simp⟩
/-- One operation of a script, in a later world. -/
theorem ScrAt.get {w wr : World} {P : Nat} {a : Option Addr} {n cap : Nat} {ops : List OpT} (h : ScrAt w P (.slice a n cap) ops) (hP : P ≤ w.heap.size) (hB : Below P w wr) {j : Nat} {o : OpT} (ho : ops[j]? = some o) :
    ∃ b off pv, a = some ⟨b, off, none⟩ ∧ b < P ∧ wr.cell? ⟨b, off + j * 5, none⟩ = some (.int .i64 o.kd) ∧ wr.cell? ⟨b, off + j * 5 + 1, none⟩ = some (.int .i64 o.i) ∧ wr.cell? ⟨b, off + j * 5 + 2, none⟩ = some (.int .u8 o.f.toNat) ∧
      wr.cell? ⟨b, off + j * 5 + 3, none⟩ = some (.int .i64 o.sz) ∧ wr.cell? ⟨b, off + j * 5 + 4, none⟩ = some pv ∧ SlAt wr (fun b => b < P) pv (ints o.pk) ∧ o.pk.length ≤ maxLen := by
  obtain ⟨a', cap', e, hc, hm, hx⟩ := h.below hP hB
  injection e with e1 e2 e3
  subst e1; subst e2; subst e3
  obtain ⟨b, off, rfl, hb, hop⟩ := hx (by have := (List.getElem?_eq_some_iff.1 ho).1; omega)
  obtain ⟨pv, h⟩ := hop j o ho
  exact ⟨b, off, pv, rfl, hb, h⟩

set_option maxRecDepth 100000 in
set_option maxHeartbeats 1600000 in
theorem clones_bad (w : World) (n : Int) (v1 v2 v3 : Value) (ops one two : List OpT) (hs : ScrAt w w.heap.size v1 ops) (hm : ScrAt w w.heap.size v2 one) (hm3 : ScrAt w w.heap.size v3 two) (h : n < 1 ∨ 64 < n) :
    Calls Try.prog 10 #[.int .i64 n, v1, v2, v3] w fun e w' => e = .returned (.bool true) ∧ Below w.heap.size w w' := by
  obtain ⟨a, cap, rfl, hcap, hmx, hx⟩ := hs
  obtain ⟨a2, cap2, rfl, hcap2, hmx2, hx2⟩ := hm
  obtain ⟨a3, cap3, rfl, hcap3, hmx3, hx3⟩ := hm3
  clear hx hx2 hx3
  have hb := lPlayers_bad w n h
  clear h
  go_enter Try.func10, Try.ntmps10
  go_wp2_with fail
  refine hb.mono ?_
  rintro e w1 ⟨rfl, hB1⟩
  go_wp2_with fail
  refine (lSanity _).mono ?_
  rintro e w2 ⟨rfl, hB2⟩
  go_wp2
  go_ret
  exact ⟨rfl, hB1.trans (hB2.mono hB1.size)⟩

set_option maxRecDepth 100000 in
set_option maxHeartbeats 1600000 in
theorem clones_long (w : World) (n : Nat) (v1 v2 v3 : Value) (ops one two : List OpT) (hs : ScrAt w w.heap.size v1 ops) (hm : ScrAt w w.heap.size v2 one) (hm3 : ScrAt w w.heap.size v3 two) (h1 : 1 ≤ n) (h2 : n ≤ 64)
    (h : 60 < ops.length ∨ (ops.length ≤ 60 ∧ 60 < one.length) ∨ (ops.length ≤ 60 ∧ one.length ≤ 60 ∧ 60 < two.length)) :
    Calls Try.prog 10 #[.int .i64 n, v1, v2, v3] w fun e w' => e = .returned (.bool true) ∧ Below w.heap.size w w' := by
  obtain ⟨a, cap, rfl, hcap, hmx, hx⟩ := hs
  obtain ⟨a2, cap2, rfl, hcap2, hmx2, hx2⟩ := hm
  obtain ⟨a3, cap3, rfl, hcap3, hmx3, hx3⟩ := hm3
  clear hx hx2 hx3
  have hm1 : (ops.length : Int) ≤ 9223372036854775807 := by unfold maxLen at hmx; omega
  have hm2 : (one.length : Int) ≤ 9223372036854775807 := by unfold maxLen at hmx2; omega
  have hm3 : (two.length : Int) ≤ 9223372036854775807 := by unfold maxLen at hmx3; omega
  have hb := lPlayers_ok w n h1 h2
  have hi : (60 : Int) < ops.length ∨ ((ops.length : Int) ≤ 60 ∧ (60 : Int) < one.length) ∨ ((ops.length : Int) ≤ 60 ∧ (one.length : Int) ≤ 60 ∧ (60 : Int) < two.length) := by omega
  clear h
  rcases hi with hi | ⟨hj, hi⟩ | ⟨hj, hk, hi⟩
  all_goals
    go_enter Try.func10, Try.ntmps10
    go_wp2_with fail
    refine hb.mono ?_
    rintro e w1 ⟨p, pm, pb, q, qm, qb, rfl, hP, hQ, hdis, hB1⟩
    clear hP hQ hdis
    go_wp2_with fail
    refine (lSanity _).mono ?_
    rintro e w2 ⟨rfl, hB2⟩
    go_wp2
    go_ret
    exact ⟨rfl, hB1.trans (hB2.mono hB1.size)⟩

theorem clonesStart {wo w5 : World} {X Z Y V : Nat → Prop} {B p pm pb r rm rb : Nat} {v u : Value} {vs us : List Value} {s : St}
    (H : PlAt wo X Z B p pm pb (.slice none 0 0) 0 [] s ∧ PlAt wo Y V B r rm rb (.slice none 0 0) 0 [] s ∧ PlAt wo X Z B p pm pb v s.I.length vs s ∧ PlAt wo Y V B r rm rb u s.I.length us s ∧ (∀ b, X b → ¬ Y b ∧ ¬ V b) ∧ (∀ b, Y b → ¬ X b ∧ ¬ Z b) ∧
      (∀ g, v.ownBlock = some g → X g) ∧ (∀ g, u.ownBlock = some g → Y g) ∧ (∀ (j : Nat) l, s.I[j]? = some l → ∃ u, vs[j]? = some u ∧ SlAt wo Z u (strs l)) ∧ (∀ (j : Nat) l, s.I[j]? = some l → ∃ x, us[j]? = some x ∧ SlAt wo V x (strs l)))
    (hf : Fr [] wo w5) : Inv2 (fun _ => False) w5 w5 X Y B p pm pb v s.I.length vs r rm rb u s.I.length us s s := by
  obtain ⟨_, _, hP, hR, d1, d2, hv, hu, _, _⟩ := H
  have hf' : FrP (fun _ => False) wo w5 := FrP.of_fr hf (by simp)
  exact Inv2.start (hP.frP hf' (fun _ h => h.elim) (fun _ _ h => h)) (hR.frP hf' (fun _ h => h.elim) (fun _ _ h => h)) d1 d2 (fun g hg hy => (d2 g hy).1 (hv g hg)) (fun g hg hx => (d1 g hx).1 (hu g hg))

/-- Behind the second loop: the copies, with the old images, apart from the players. -/
theorem clonesTwo {w wo w5 w6 : World} {X Z Y V : Nat → Prop} {p pm pb r rm rb q qm qb sp sm sb : Nat} {v u : Value} {vs us : List Value} {s s1 : St}
    (H : PlAt wo X Z w.heap.size p pm pb (.slice none 0 0) 0 [] s ∧ PlAt wo Y V w.heap.size r rm rb (.slice none 0 0) 0 [] s ∧ PlAt wo X Z w.heap.size p pm pb v s.I.length vs s ∧ PlAt wo Y V w.heap.size r rm rb u s.I.length us s ∧ (∀ b, X b → ¬ Y b ∧ ¬ V b) ∧ (∀ b, Y b → ¬ X b ∧ ¬ Z b) ∧
      (∀ g, v.ownBlock = some g → X g) ∧ (∀ g, u.ownBlock = some g → Y g) ∧ (∀ (j : Nat) l, s.I[j]? = some l → ∃ u, vs[j]? = some u ∧ SlAt wo Z u (strs l)) ∧ (∀ (j : Nat) l, s.I[j]? = some l → ∃ x, us[j]? = some x ∧ SlAt wo V x (strs l)))
    (hf : Fr [] wo w5) (hI : Inv2 (fun _ => False) w5 w6 X Y w.heap.size p pm pb v s.I.length vs r rm rb u s.I.length us s1 s1) (_hX : ∀ b, X b ∨ Y b → w.heap.size ≤ b ∧ b < w5.heap.size)
    (hqm : MemAt w5 qm qb s.M) (hsm : MemAt w5 sm sb s.M) (q0 : w5.cell? ⟨q, 0, none⟩ = some (.pointer (some ⟨qm, 0, none⟩))) (s0 : w5.cell? ⟨sp, 0, none⟩ = some (.pointer (some ⟨sm, 0, none⟩))) (q1 : w5.cell? ⟨q, 1, none⟩ = some v) (s1c : w5.cell? ⟨sp, 1, none⟩ = some u)
    (qz : ∀ o, w5.frozen? ⟨q, o, none⟩ = false) (sz : ∀ o, w5.frozen? ⟨sp, o, none⟩ = false)
    (hn : (wo.heap.size ≤ q ∧ wo.heap.size ≤ qm ∧ wo.heap.size ≤ qb ∧ q ≠ qm ∧ q ≠ qb) ∧ (wo.heap.size ≤ sp ∧ wo.heap.size ≤ sm ∧ wo.heap.size ≤ sb ∧ sp ≠ sm ∧ sp ≠ sb) ∧ (q ≠ sp ∧ q ≠ sm ∧ q ≠ sb ∧ qm ≠ sp ∧ qm ≠ sm ∧ qm ≠ sb ∧ qb ≠ sp ∧ qb ≠ sm ∧ qb ≠ sb))
    (hil : ∀ l ∈ s.I, l.length ≤ 4096) (hml : s.M.length ≤ 4096) :
    (Inv2 (fun _ => False) w6 w6 (fun b => b = q ∨ b = qm ∨ b = qb ∨ v.ownBlock = some b) (fun b => b = sp ∨ b = sm ∨ b = sb ∨ u.ownBlock = some b) w.heap.size q qm qb (.slice none 0 0) 0 [] sp sm sb (.slice none 0 0) 0 [] s s ∧
      (MemAt w6 pm pb s1.M ∧ MemAt w6 rm rb s1.M ∧ w6.cell? ⟨p, 0, none⟩ = some (.pointer (some ⟨pm, 0, none⟩)) ∧ w6.cell? ⟨r, 0, none⟩ = some (.pointer (some ⟨rm, 0, none⟩)) ∧ s1.M.length ≤ 4096 ∧
        (∀ b, (b = p ∨ b = pm ∨ b = pb ∨ b = r ∨ b = rm ∨ b = rb) → ¬ (b = q ∨ b = qm ∨ b = qb ∨ v.ownBlock = some b) ∧ ¬ (b = sp ∨ b = sm ∨ b = sb ∨ u.ownBlock = some b) ∧ b < w6.heap.size))) ∧
    (∀ b, ((b = q ∨ b = qm ∨ b = qb ∨ v.ownBlock = some b) ∨ (b = sp ∨ b = sm ∨ b = sb ∨ u.ownBlock = some b)) → w.heap.size ≤ b ∧ b < w6.heap.size) := by
  obtain ⟨hP0, hR0, hPg, hRg, d1, d2, hv, hu, hvI, huI⟩ := H
  obtain ⟨⟨na, nb, nc, nd, ne⟩, ⟨ma, mb, mc, md, me⟩, nn⟩ := hn
  have hPl : ∀ b, X b ∨ Z b → w.heap.size ≤ b ∧ b < wo.heap.size := hP0.lt
  have hRl : ∀ b, Y b ∨ V b → w.heap.size ≤ b ∧ b < wo.heap.size := hR0.lt
  have hbase := hP0.base_le
  have hf' : FrP (fun _ => False) wo w5 := FrP.of_fr hf (by simp)
  have hF := hI.fr
  obtain ⟨X', Z', Y', V', hP6, hR6, -, -, -, -, -⟩ := hI.ex
  have hfo : FrP (fun b => X b ∨ Y b) wo w6 := (FrP.of_fr (X := fun b => X b ∨ Y b) hf (by simp)).then hF (fun b hb => .inl hb)
  have old : ∀ b, wo.heap.size ≤ b → ¬ (X b ∨ Y b) := fun b hb h => by
    rcases h with h | h
    · have := hPl b (.inl h); omega
    · have := hRl b (.inl h); omega
  have l5 : q < w5.heap.size ∧ sp < w5.heap.size := ⟨World.block_lt_of_cell? _ _ q0, World.block_lt_of_cell? _ _ s0⟩
  have l5m := hqm.lt
  have l5b := hqm.arr.lt
  have l5n := hsm.lt
  have l5c := hsm.arr.lt
  have hs6 := hF.size
  have hs5 := hf.size
  have vI : ∀ (j : Nat) l, s.I[j]? = some l → ∃ u, vs[j]? = some u ∧ SlAt w6 Z u (strs l) := fun j l hj => by
    obtain ⟨x, hx, hs⟩ := hvI j l hj
    exact ⟨x, hx, hs.frP hfo (fun b hb h => h.elim (fun h => hP0.dis b h hb) (fun h => (d2 b h).2 hb))⟩
  have uI : ∀ (j : Nat) l, s.I[j]? = some l → ∃ u, us[j]? = some u ∧ SlAt w6 V u (strs l) := fun j l hj => by
    obtain ⟨x, hx, hs⟩ := huI j l hj
    exact ⟨x, hx, hs.frP hfo (fun b hb h => h.elim (fun h => (d1 b h).2 hb) (fun h => hR0.dis b h hb))⟩
  have vg : ∀ g, v.ownBlock = some g → g < wo.heap.size ∧ w.heap.size ≤ g := fun g hg => by have := hPl g (.inl (hv g hg)); omega
  have ug : ∀ g, u.ownBlock = some g → g < wo.heap.size ∧ w.heap.size ≤ g := fun g hg => by have := hRl g (.inl (hu g hg)); omega
  have hZ : ∀ b, Z b → b < wo.heap.size := fun b hb => (hPl b (.inr hb)).2
  have hV : ∀ b, V b → b < wo.heap.size := fun b hb => (hRl b (.inr hb)).2
  have hQ := PlAt.copy (w := w6) (Z := Z) (B := w.heap.size) (q := q) (v := v) (vs := vs) (s := s) (hqm.frP hF (old _ nb) (old _ nc)) ((hF.cell l5.1 (old _ na)).trans q0) ((hF.cell (p := ⟨q, 1, none⟩) l5.1 (old _ na)).trans q1) (fun o => (hF.frozen (p := ⟨q, o, none⟩) l5.1 (old _ na)).trans (qz o)) rfl hP6.old
    (fun g hg => by have := vg g hg; exact ⟨by omega, by omega, by omega, hP0.dis g (hv g hg)⟩) (by omega) ⟨fun h => by have := hZ _ h; omega, fun h => by have := hZ _ h; omega, fun h => by have := hZ _ h; omega⟩ vI (fun b hb => by have := hPl b (.inr hb); omega) hP0.wf hml hil
  have hS := PlAt.copy (w := w6) (Z := V) (B := w.heap.size) (q := sp) (v := u) (vs := us) (s := s) (hsm.frP hF (old _ mb) (old _ mc)) ((hF.cell l5.2 (old _ ma)).trans s0) ((hF.cell (p := ⟨sp, 1, none⟩) l5.2 (old _ ma)).trans s1c) (fun o => (hF.frozen (p := ⟨sp, o, none⟩) l5.2 (old _ ma)).trans (sz o)) rfl hR6.old
    (fun g hg => by have := ug g hg; exact ⟨by omega, by omega, by omega, hR0.dis g (hu g hg)⟩) (by omega) ⟨fun h => by have := hV _ h; omega, fun h => by have := hV _ h; omega, fun h => by have := hV _ h; omega⟩ uI (fun b hb => by have := hRl b (.inr hb); omega) hP0.wf hml hil
  have vu : ∀ g, v.ownBlock = some g → ¬ u.ownBlock = some g ∧ ¬ V g := fun g hg => ⟨fun hu' => (d1 g (hv g hg)).1 (hu g hu'), (d1 g (hv g hg)).2⟩
  have uz : ∀ g, u.ownBlock = some g → ¬ Z g := fun g hg => (d2 g (hu g hg)).2
  refine ⟨⟨Inv2.start hQ hS (fun b hb => ?_) (fun b hb => ?_) none_own none_own, hP6.mem, hR6.mem, hP6.c0, hR6.c0, hP6.mlen, fun b hb => ?_⟩, fun b hb => ?_⟩
  · rcases hb with rfl | rfl | rfl | hb
    · exact ⟨fun h => by rcases h with h | h | h | h <;> first | omega | (have := ug _ h; omega), fun h => by have := hV _ h; omega⟩
    · exact ⟨fun h => by rcases h with h | h | h | h <;> first | omega | (have := ug _ h; omega), fun h => by have := hV _ h; omega⟩
    · exact ⟨fun h => by rcases h with h | h | h | h <;> first | omega | (have := ug _ h; omega), fun h => by have := hV _ h; omega⟩
    · have := vg _ hb
      exact ⟨fun h => by rcases h with h | h | h | h <;> first | omega | exact (vu _ hb).1 h, (vu _ hb).2⟩
  · rcases hb with rfl | rfl | rfl | hb
    · exact ⟨fun h => by rcases h with h | h | h | h <;> first | omega | (have := vg _ h; omega), fun h => by have := hZ _ h; omega⟩
    · exact ⟨fun h => by rcases h with h | h | h | h <;> first | omega | (have := vg _ h; omega), fun h => by have := hZ _ h; omega⟩
    · exact ⟨fun h => by rcases h with h | h | h | h <;> first | omega | (have := vg _ h; omega), fun h => by have := hZ _ h; omega⟩
    · have := ug _ hb
      exact ⟨fun h => by rcases h with h | h | h | h <;> first | omega | exact (vu _ h).1 hb, uz _ hb⟩
  · have e1 : b < wo.heap.size := by
      rcases hb with rfl | rfl | rfl | rfl | rfl | rfl
      · exact (hPl _ (.inl hP0.xs.1)).2
      · exact (hPl _ (.inl hP0.xs.2.1)).2
      · exact (hPl _ (.inl hP0.xs.2.2)).2
      · exact (hRl _ (.inl hR0.xs.1)).2
      · exact (hRl _ (.inl hR0.xs.2.1)).2
      · exact (hRl _ (.inl hR0.xs.2.2)).2
    have e2 : ¬ v.ownBlock = some b := fun hg => by
      have o := hPg.oldx b hg
      have x := d1 b (hv b hg)
      rcases hb with h | h | h | h | h | h
      · exact o.1 h
      · exact o.2.1 h
      · exact o.2.2 h
      · exact x.1 (h ▸ hR0.xs.1)
      · exact x.1 (h ▸ hR0.xs.2.1)
      · exact x.1 (h ▸ hR0.xs.2.2)
    have e3 : ¬ u.ownBlock = some b := fun hg => by
      have o := hRg.oldx b hg
      have x := d2 b (hu b hg)
      rcases hb with h | h | h | h | h | h
      · exact x.1 (h ▸ hP0.xs.1)
      · exact x.1 (h ▸ hP0.xs.2.1)
      · exact x.1 (h ▸ hP0.xs.2.2)
      · exact o.1 h
      · exact o.2.1 h
      · exact o.2.2 h
    exact ⟨fun h => by rcases h with h | h | h | h <;> first | omega | exact e2 h, fun h => by rcases h with h | h | h | h <;> first | omega | exact e3 h, by omega⟩
  · rcases hb with (rfl | rfl | rfl | hb) | (rfl | rfl | rfl | hb)
    · omega
    · omega
    · omega
    · have := vg _ hb; omega
    · omega
    · omega
    · omega
    · have := ug _ hb; omega
/-- Behind the third loop. -/
theorem clonesEnd {w6 w7 : World} {X1 Y1 : Nat → Prop} {B p pm pb r rm rb q qm qb sp sm sb : Nat} {s1 s2 : St}
    (h : MemAt w6 pm pb s1.M ∧ MemAt w6 rm rb s1.M ∧ w6.cell? ⟨p, 0, none⟩ = some (.pointer (some ⟨pm, 0, none⟩)) ∧ w6.cell? ⟨r, 0, none⟩ = some (.pointer (some ⟨rm, 0, none⟩)) ∧ s1.M.length ≤ 4096 ∧ (∀ b, (b = p ∨ b = pm ∨ b = pb ∨ b = r ∨ b = rm ∨ b = rb) → ¬ X1 b ∧ ¬ Y1 b ∧ b < w6.heap.size))
    (hI : Inv2 (fun _ => False) w6 w7 X1 Y1 B q qm qb (.slice none 0 0) 0 [] sp sm sb (.slice none 0 0) 0 [] s2 s2) :
    MemAt w7 pm pb s1.M ∧ MemAt w7 rm rb s1.M ∧ MemAt w7 qm qb s2.M ∧ MemAt w7 sm sb s2.M ∧ s1.M.length ≤ 4096 ∧ s2.M.length ≤ 4096 ∧ w7.cell? ⟨p, 0, none⟩ = some (.pointer (some ⟨pm, 0, none⟩)) ∧ w7.cell? ⟨r, 0, none⟩ = some (.pointer (some ⟨rm, 0, none⟩)) ∧
      w7.cell? ⟨q, 0, none⟩ = some (.pointer (some ⟨qm, 0, none⟩)) ∧ w7.cell? ⟨sp, 0, none⟩ = some (.pointer (some ⟨sm, 0, none⟩)) := by
  obtain ⟨hm, hr, p0, r0, hl, hn⟩ := h
  obtain ⟨X', Z', Y', V', hQ, hS, -, -, -, -, -⟩ := hI.ex
  have nn : ∀ b, (b = p ∨ b = pm ∨ b = pb ∨ b = r ∨ b = rm ∨ b = rb) → ¬ (X1 b ∨ Y1 b) := fun b hb h => h.elim (hn b hb).1 (hn b hb).2.1
  exact ⟨hm.frP hI.fr (nn _ (by simp)) (nn _ (by simp)), hr.frP hI.fr (nn _ (by simp)) (nn _ (by simp)), hQ.mem, hS.mem, hl, hQ.mlen, (hI.fr.cell (hn p (by simp)).2.2 (nn _ (by simp))).trans p0, (hI.fr.cell (hn r (by simp)).2.2 (nn _ (by simp))).trans r0, hQ.c0, hS.c0⟩

set_option maxRecDepth 100000 in
set_option maxHeartbeats 8000000 in
theorem clones_ok (w : World) (n : Nat) (v1 v2 v3 : Value) (ops one two : List OpT) (hs : ScrAt w w.heap.size v1 ops) (hm : ScrAt w w.heap.size v2 one) (hm3 : ScrAt w w.heap.size v3 two) (h1 : 1 ≤ n) (h2 : n ≤ 64) (hl : ops.length ≤ 60) (hl2 : one.length ≤ 60) (hl3 : two.length ≤ 60) :
    Calls Try.prog 10 #[.int .i64 n, v1, v2, v3] w fun e w' => e = .returned (.bool true) ∧ Below w.heap.size w w' := by
  have hs' := Lib.hid hs
  have ho' := Lib.hid hm
  have ht' := Lib.hid hm3
  obtain ⟨a, cap, rfl, hcap, hmx, hx⟩ := hs
  obtain ⟨a2, cap2, rfl, hcap2, hmx2, hx2⟩ := hm
  obtain ⟨a3, cap3, rfl, hcap3, hmx3, hx3⟩ := hm3
  clear hx hx2 hx3
  have hli : (ops.length : Int) ≤ 60 := by omega
  have hli2 : (one.length : Int) ≤ 60 := by omega
  have hli3 : (two.length : Int) ≤ 60 := by omega
  go_enter Try.func10, Try.ntmps10
  go_wp2_with fail
  refine (lPlayers_ok w n h1 h2).mono ?_
  rintro e w1 ⟨p, pm, pb, r, rm, rb, rfl, hP, hR, hdis, hB1⟩
  have hI0 := Inv2.start hP hR (fun b hb => ⟨hdis b hb, fun h => h⟩) (fun b hb => ⟨fun h => hdis b h hb, fun h => h⟩) none_own none_own
  have hI0' := Lib.hid hI0
  have hdis' := Lib.hid hdis
  have hpl := hP.lp
  have hX1 : Hid (∀ b, ((b = p ∨ b = pm ∨ b = pb) ∨ (b = r ∨ b = rm ∨ b = rb)) → w.heap.size ≤ b ∧ b < w1.heap.size) := fun b hb => by
    rcases hb with hb | hb
    · exact hP.lt b (.inl hb)
    · exact hR.lt b (.inl hb)
  clear hP hR hdis hI0
  go_wp2_with fail
  go_loopw [13, 46] (fun bx t wr => ∃ j : Nat, j ≤ ops.length ∧ t = .int .i64 (j : Int) ∧ Inv2 (fun _ => False) w1 wr (fun b => b = p ∨ b = pm ∨ b = pb) (fun b => b = r ∨ b = rm ∨ b = rb) w.heap.size p pm pb (.slice none 0 0) 0 [] r rm rb (.slice none 0 0) 0 [] (runS (ops.take j) ⟨newM n, []⟩) (runS (ops.take j) ⟨newM n, []⟩)) (fun _ t _ => ops.length - (intOf t).toNat)
  case atStart => exact ⟨0, Nat.zero_le _, rfl, hI0'.out⟩
  case round =>
    obtain ⟨j, hj, rfl, hI⟩ := hrel
    have hB : Below w.heap.size w wr := hB1.trans (hI.fr.below hB1.size (fun k hk => (hX1.out k hk).1))
    by_cases hlt : j < ops.length
    · have hlti : (j : Int) < (ops.length : Int) := by omega
      obtain ⟨o, ho⟩ : ∃ o, ops[j]? = some o := ⟨ops[j], List.getElem?_eq_getElem hlt⟩
      have hsI : (runS (ops.take j) ⟨newM n, []⟩).I.length ≤ 4096 := by have := runS_I (ops.take j) ⟨newM n, []⟩; simp at this; omega
      have hT1 := Lib.hid (runS_take_succ ops ⟨newM n, []⟩ j o ho)
      generalize runS (ops.take j) ⟨newM n, []⟩ = s at *
      obtain ⟨b, off, pv, rfl, hbP, d0, d1, d2, d3, d4, hpv, hpl⟩ := hs'.out.get (Nat.le_refl _) hB ho
      have hbl : b < wr.heap.size := by have := hB.size; omega
      obtain ⟨pa, pn, pc, rfl⟩ : ∃ a n c, pv = .slice a n c := by obtain ⟨a, c, h, _⟩ := hpv; exact ⟨_, _, _, h⟩
      have hzB := hB.size
      clear ho
      go_wp2_with fail
      generalize hW : wr.alloc (.cells #[.int .i64 o.kd, .int .i64 o.i, .int .u8 o.f.toNat, .int .i64 o.sz, .slice pa pn pc] 37) = W0
      have hf0 : Fr [] wr W0 := by rw [← hW]; exact (Fr.refl _ _).alloc _
      have hbx : BoxAt W0 wr.heap.size o (.slice pa pn pc) := by rw [← hW]; exact ⟨by simp, by simp, by simp, by simp, by simp⟩
      have hI1 := hI.box hf0 (by rw [← hW]; simp)
      have hpv0 := hpv.fr (S := []) hf0 (fun _ _ => List.not_mem_nil)
      have hB0w := hB.trans (hf0.below hB.size (by simp))
      clear hW hI d0 d1 d2 d3 d4 hbl
      refine (hI1.playP hsI o _ hpv0 hpl).mono ?_
      rintro e w2 ⟨rfl, hI2, hE⟩
      have hbx2 : BoxAt w2 wr.heap.size o (.slice pa pn pc) := by
        have hc : ∀ k, w2.cell? ⟨wr.heap.size, k, none⟩ = W0.cell? ⟨wr.heap.size, k, none⟩ := fun k => World.cell?_of_block (a := ⟨wr.heap.size, k, none⟩) (hE _ rfl)
        exact ⟨(hc _).trans hbx.1, (hc _).trans hbx.2.1, (hc _).trans hbx.2.2.1, (hc _).trans hbx.2.2.2.1, (hc _).trans hbx.2.2.2.2⟩
      have hB2 : Below w.heap.size w w2 := hB1.trans (hI2.fr.below hB1.size (fun k hk => (hX1.out k hk).1))
      have hpv2 : SlAt w2 (fun b => b < w.heap.size) (.slice pa pn pc) (ints o.pk) := by
        obtain ⟨a', c', e, h1, h2⟩ := hpv
        refine ⟨a', c', e, h1, fun h0 => ?_⟩
        obtain ⟨b', o', ha, hb', hl', hc'⟩ := h2 h0
        have hbW : b' < w.heap.size := hb'
        exact ⟨b', o', ha, hb', by have := hB2.size; omega, fun k x hk => (World.cell?_of_block (a := ⟨b', o' + k, none⟩) (hB2.block b' hbW)).trans ((World.cell?_of_block (a := ⟨b', o' + k, none⟩) (hB.block b' hbW)).symm.trans (hc' k x hk))⟩
      obtain ⟨e0, e1, e2, e3, e4⟩ := hbx2
      clear hI1 hbx hpv0 hE hpv hB0w hf0
      go_wp2_with fail
      refine (hI2.playQ hsI o _ hpv2 hpl).mono ?_
      rintro e w3 ⟨rfl, hI3, hE3⟩
      have hI4 := Lib.hid hI3.drop
      clear hI2 hI3 hE3 hpv2 e0 e1 e2 e3 e4 hB2 hB
      go_wp2_with fail
      go_roundw
      case rel => exact ⟨j + 1, by omega, by go_num, by rw [hT1.out]; exact hI4.out⟩
      case measure => simp [intOf]; omega
    · obtain rfl : j = ops.length := by omega
      obtain ⟨wo, rfl⟩ : ∃ wo : World, wo = wr := ⟨_, rfl⟩
      rw [List.take_length] at hI
      have hsI : (runS ops ⟨newM n, []⟩).I.length ≤ 60 := by have := runS_I ops ⟨newM n, []⟩; simp at this; omega
      have hsM : (runS ops ⟨newM n, []⟩).M.length = n := by rw [runS_M]; simp [newM]
      have hil := Lib.hid (runS_ilen ops ⟨newM n, []⟩ (by simp [newM]; omega) (by simp))
      generalize runS ops ⟨newM n, []⟩ = s0 at *
      obtain ⟨X, Z, Y, V, hP, hR, d1, d2, -, -, -⟩ := hI.ex
      obtain ⟨v, vs, pv1, hPg, hvX, hvI⟩ := hP.ghost
      obtain ⟨u, us, ru1, hRg, huY, huI⟩ := hR.ghost
      have hI0 := Lib.hid (Inv2.start hPg hRg d1 d2 (fun g hg hy => (d2 g hy).1 (hvX g hg)) (fun g hg hx => (d1 g hx).1 (huY g hg)))
      have hpc0 := hP.c0
      have hrc0 := hR.c0
      have hpl := hP.lp
      have hrl := hR.lp
      obtain ⟨va, vn, vc, rfl⟩ : ∃ a n c, v = .slice a n c := by
        rcases hPg.old.2 with ⟨rfl, _⟩ | ⟨g, cap, cur, rfl, _⟩
        · exact ⟨_, _, _, rfl⟩
        · exact ⟨_, _, _, rfl⟩
      obtain ⟨ua, un, uc, rfl⟩ : ∃ a n c, u = .slice a n c := by
        rcases hRg.old.2 with ⟨rfl, _⟩ | ⟨g, cap, cur, rfl, _⟩
        · exact ⟨_, _, _, rfl⟩
        · exact ⟨_, _, _, rfl⟩
      have hPm := Lib.hid hP.mem
      have hRm := Lib.hid hR.mem
      have hml : s0.M.length ≤ 4096 := by omega
      have H := Lib.hid (⟨hP, hR, hPg, hRg, d1, d2, hvX, huY, hvI, huI⟩ : _ ∧ _ ∧ _ ∧ _ ∧ _ ∧ _ ∧ _ ∧ _ ∧ _ ∧ _)
      have hB' := Lib.hid hB
      clear hI hP hR hPg hRg d1 d2 hvX huY hvI huI hB hI0'
      go_wp2_with fail
      have pc0 := hpc0
      have rc0 := hrc0
      have p1 := pv1
      clear hpc0 hrc0 pv1
      have cqm := Lib.hid (mClone wo.drew pm pb s0.M (hPm.out.fr (S := []) (Fr.refl _ _).drew List.not_mem_nil List.not_mem_nil) hml (by omega))
      have hS0wa : wo.drew.cell? ⟨p, 0, none⟩ = some (.pointer (some ⟨pm, 0, none⟩)) ∧ wo.drew.cell? ⟨p, 1, none⟩ = some (.slice va vn vc) := ⟨pc0, p1⟩
      go_region_held3 (fun w' => w'.cell? ⟨p, 0, none⟩ = some (.pointer (some ⟨pm, 0, none⟩)) ∧ w'.cell? ⟨p, 1, none⟩ = some (.slice va vn vc)) (first | exact hS3wa.out | exact hS2wa.out | exact hS0wa)
        ((go_at_call 56
          refine cqm.out.mono ?_
          rintro e wa ⟨qm, qb, rfl, hqm, hqm1, hqm2, hBwa⟩
          have hFwa : Fr [] wo wa := (Fr.refl _ _).drew.trans (Fr.of_below hBwa)
          have hS2wa := Lib.hid (show wa.cell? ⟨p, 0, none⟩ = some (.pointer (some ⟨pm, 0, none⟩)) ∧ wa.cell? ⟨p, 1, none⟩ = some (.slice va vn vc) from ⟨(hFwa.cell (p := ⟨p, 0, none⟩) (World.block_lt_of_cell? _ _ pc0) List.not_mem_nil).trans pc0, (hFwa.cell (p := ⟨p, 1, none⟩) (World.block_lt_of_cell? _ _ p1) List.not_mem_nil).trans p1⟩)
          have hS3wa := Lib.hid (show (wa.alloc (.cells #[.pointer (some ⟨qm, 0, none⟩), .slice va vn vc] 42)).cell? ⟨p, 0, none⟩ = some (.pointer (some ⟨pm, 0, none⟩)) ∧ (wa.alloc (.cells #[.pointer (some ⟨qm, 0, none⟩), .slice va vn vc] 42)).cell? ⟨p, 1, none⟩ = some (.slice va vn vc) from ⟨((hFwa.alloc _).cell (p := ⟨p, 0, none⟩) (World.block_lt_of_cell? _ _ pc0) List.not_mem_nil).trans pc0, ((hFwa.alloc _).cell (p := ⟨p, 1, none⟩) (World.block_lt_of_cell? _ _ p1) List.not_mem_nil).trans p1⟩)
          have hqms := Lib.hid hqm
          have hqm3 : wo.heap.size ≤ qm ∧ wo.heap.size ≤ qb := ⟨hqm1, hqm2⟩
          clear hqm hBwa hqm1 hqm2))
      generalize hWq : wa.alloc (.cells #[.pointer (some ⟨qm, 0, none⟩), .slice va vn vc] 42) = wq
      obtain ⟨xq0, xq1, xqz, hFq, hzq⟩ := twoCells _ hWq
      have hFwq : Fr [] wo wq := hFwa.trans hFq
      have pc0q := (hFwq.cell (p := ⟨p, 0, none⟩) (World.block_lt_of_cell? _ _ pc0) List.not_mem_nil).trans pc0
      have rc0q := (hFwq.cell (p := ⟨r, 0, none⟩) (World.block_lt_of_cell? _ _ rc0) List.not_mem_nil).trans rc0
      have r1q := (hFwq.cell (p := ⟨r, 1, none⟩) (World.block_lt_of_cell? _ _ ru1) List.not_mem_nil).trans ru1
      have hqm4 := Lib.hid (hqms.out.fr hFq List.not_mem_nil List.not_mem_nil)
      have hRmq := Lib.hid (hRm.out.fr hFwq List.not_mem_nil List.not_mem_nil)
      have hql : wo.heap.size ≤ wa.heap.size := hFwa.size
      have hqn := hqms.out.ne
      have hqlt : qm < wa.heap.size ∧ qb < wa.heap.size := ⟨hqms.out.lt, hqms.out.arr.lt⟩
      have xq0' := Lib.hid xq0
      have xq1' := Lib.hid xq1
      have xqz' := Lib.hid xqz
      have hFwq' := Lib.hid hFwq
      have hzq' := Lib.hid hzq
      clear hWq pc0 rc0 ru1 p1 hFwa hS0wa hS2wa hS3wa hqms hFq xq0 xq1 xqz hFwq cqm hzq
      have rc0 := rc0q
      have r1 := r1q
      clear rc0q r1q
      generalize hqk : wa.heap.size = q at *
      go_wp2_with fail
      have csm := Lib.hid (rClone wq.drew rm rb s0.M (hRmq.out.fr (S := []) (Fr.refl _ _).drew List.not_mem_nil List.not_mem_nil) hml (by omega))
      have hS0wb : wq.drew.cell? ⟨r, 0, none⟩ = some (.pointer (some ⟨rm, 0, none⟩)) ∧ wq.drew.cell? ⟨r, 1, none⟩ = some (.slice ua un uc) := ⟨rc0, r1⟩
      go_region_held3 (fun w' => w'.cell? ⟨r, 0, none⟩ = some (.pointer (some ⟨rm, 0, none⟩)) ∧ w'.cell? ⟨r, 1, none⟩ = some (.slice ua un uc)) (first | exact hS3wb.out | exact hS2wb.out | exact hS0wb)
        ((go_at_call 57
          refine csm.out.mono ?_
          rintro e wb ⟨sm, sb, rfl, hsm, hsm1, hsm2, hBwb⟩
          have hFwb : Fr [] wq wb := (Fr.refl _ _).drew.trans (Fr.of_below hBwb)
          have hS2wb := Lib.hid (show wb.cell? ⟨r, 0, none⟩ = some (.pointer (some ⟨rm, 0, none⟩)) ∧ wb.cell? ⟨r, 1, none⟩ = some (.slice ua un uc) from ⟨(hFwb.cell (p := ⟨r, 0, none⟩) (World.block_lt_of_cell? _ _ rc0) List.not_mem_nil).trans rc0, (hFwb.cell (p := ⟨r, 1, none⟩) (World.block_lt_of_cell? _ _ r1) List.not_mem_nil).trans r1⟩)
          have hS3wb := Lib.hid (show (wb.alloc (.cells #[.pointer (some ⟨sm, 0, none⟩), .slice ua un uc] 44)).cell? ⟨r, 0, none⟩ = some (.pointer (some ⟨rm, 0, none⟩)) ∧ (wb.alloc (.cells #[.pointer (some ⟨sm, 0, none⟩), .slice ua un uc] 44)).cell? ⟨r, 1, none⟩ = some (.slice ua un uc) from ⟨((hFwb.alloc _).cell (p := ⟨r, 0, none⟩) (World.block_lt_of_cell? _ _ rc0) List.not_mem_nil).trans rc0, ((hFwb.alloc _).cell (p := ⟨r, 1, none⟩) (World.block_lt_of_cell? _ _ r1) List.not_mem_nil).trans r1⟩)
          have hsms := Lib.hid hsm
          have hsm3 : wq.heap.size ≤ sm ∧ wq.heap.size ≤ sb := ⟨hsm1, hsm2⟩
          clear hsm hBwb hsm1 hsm2))
      generalize hWz : wb.alloc (.cells #[.pointer (some ⟨sm, 0, none⟩), .slice ua un uc] 44) = wz
      obtain ⟨xs0, xs1, xsz, hFs, hzs⟩ := twoCells _ hWz
      have hFwz : Fr [] wq wz := hFwb.trans hFs
      have hFoz : Fr [] wo wz := hFwq'.out.trans hFwz
      have hzqo := hzq'.out
      have hql2 : q < wq.heap.size := by omega
      have y0 := (hFwz.cell (p := ⟨q, 0, none⟩) hql2 List.not_mem_nil).trans xq0'.out
      have y1 := (hFwz.cell (p := ⟨q, 1, none⟩) hql2 List.not_mem_nil).trans xq1'.out
      have yz : Hid (∀ o, wz.frozen? ⟨q, o, none⟩ = false) := fun o => (hFwz.frozen (p := ⟨q, o, none⟩) hql2 List.not_mem_nil).trans (xqz'.out o)
      have hqm5 := Lib.hid (hqm4.out.fr hFwz List.not_mem_nil List.not_mem_nil)
      have hsm5 := Lib.hid (hsms.out.fr hFs List.not_mem_nil List.not_mem_nil)
      have hsl : wq.heap.size ≤ wb.heap.size := hFwb.size
      have hsn := hsms.out.ne
      have hslt : sm < wb.heap.size ∧ sb < wb.heap.size := ⟨hsms.out.lt, hsms.out.arr.lt⟩
      have y1' := Lib.hid y1
      have xs1' := Lib.hid xs1
      have xsz' := Lib.hid xsz
      have hFoz' := Lib.hid hFoz
      have hzs' := Lib.hid hzs
      clear hWz hFwb hS0wb hS2wb hS3wb hsms hFs xs1 xsz hFwz csm hzs rc0 r1 y1 xq0' xq1' xqz' hqm4 hFoz hRmq hzqo
      generalize hsk : wb.heap.size = sp at *
      go_wp2_with fail
      go_still_tail 8, (by kernel_rfl)
      change wpList _ _ _ _ _ wz.drew
      go_wp2_with fail
      refine (lSame _ qm qb sm sb s0.M (hqm5.out.fr (S := []) (Fr.refl _ _).drew List.not_mem_nil List.not_mem_nil) (hsm5.out.fr (S := []) (Fr.refl _ _).drew List.not_mem_nil List.not_mem_nil) hml).mono ?_
      rintro e w5 ⟨rfl, hF5⟩
      have hFz5 : Fr [] wz w5 := (Fr.refl _ _).drew.trans hF5
      have hFo5 : Fr [] wo w5 := hFoz'.out.trans hFz5
      have hlz5 : wz.heap.size ≤ w5.heap.size := hFz5.size
      have hzso := hzs'.out
      have hqs : q < wz.heap.size ∧ sp < wz.heap.size := by omega
      have hst := Lib.hid (clonesStart H.out hFo5)
      have q0c := (hFz5.cell (p := ⟨q, 0, none⟩) hqs.1 List.not_mem_nil).trans y0
      have s0c := (hFz5.cell (p := ⟨sp, 0, none⟩) hqs.2 List.not_mem_nil).trans xs0
      have q1c := Lib.hid ((hFz5.cell (p := ⟨q, 1, none⟩) hqs.1 List.not_mem_nil).trans y1'.out)
      have s1c := Lib.hid ((hFz5.cell (p := ⟨sp, 1, none⟩) hqs.2 List.not_mem_nil).trans xs1'.out)
      have qzc : Hid (∀ o, w5.frozen? ⟨q, o, none⟩ = false) := fun o => (hFz5.frozen (p := ⟨q, o, none⟩) hqs.1 List.not_mem_nil).trans (yz.out o)
      have szc : Hid (∀ o, w5.frozen? ⟨sp, o, none⟩ = false) := fun o => (hFz5.frozen (p := ⟨sp, o, none⟩) hqs.2 List.not_mem_nil).trans (xsz'.out o)
      have hqm6 := Lib.hid (hqm5.out.fr hFz5 List.not_mem_nil List.not_mem_nil)
      have hsm6 := Lib.hid (hsm5.out.fr hFz5 List.not_mem_nil List.not_mem_nil)
      have hB5 := Lib.hid (hB'.out.trans (hFo5.below hB'.out.size (by simp)))
      have hX5 : Hid (∀ b, (X b ∨ Y b) → w.heap.size ≤ b ∧ b < w5.heap.size) := fun b hb => by
        have := hFo5.size
        rcases hb with hb | hb
        · have h := H.out.1.lt b (.inl hb); omega
        · have h := H.out.2.1.lt b (.inl hb); omega
      have hFo5' := Lib.hid hFo5
      have q0c' := Lib.hid q0c
      have s0c' := Lib.hid s0c
      clear hF5 hFz5 hFo5 y0 y1' xs0 xs1' xsz' yz hqm5 hsm5 hB' q0c s0c
      go_wp2_with fail
      go_loopw [17, 91] (fun bx t wr => ∃ j : Nat, j ≤ one.length ∧ t = .int .i64 (j : Int) ∧ Inv2 (fun _ => False) w5 wr X Y w.heap.size p pm pb (.slice va vn vc) s0.I.length vs r rm rb (.slice ua un uc) s0.I.length us (runS (one.take j) s0) (runS (one.take j) s0)) (fun _ t _ => one.length - (intOf t).toNat)
      case atStart => exact ⟨0, Nat.zero_le _, rfl, hst.out⟩
      case round =>
          obtain ⟨j, hj, rfl, hI⟩ := hrel
          have hB : Below w.heap.size w wr := hB5.out.trans (hI.fr.below hB5.out.size (fun k hk => (hX5.out k hk).1))
          by_cases hlt : j < one.length
          · have hlti : (j : Int) < (one.length : Int) := by omega
            obtain ⟨o, ho⟩ : ∃ o, one[j]? = some o := ⟨one[j], List.getElem?_eq_getElem hlt⟩
            have hsI : (runS (one.take j) s0).I.length ≤ 4096 := by have := runS_I (one.take j) s0; simp at this; omega
            have hT1 := Lib.hid (runS_take_succ one s0 j o ho)
            generalize runS (one.take j) s0 = s at *
            obtain ⟨b, off, pv, rfl, hbP, d0, d1, d2, d3, d4, hpv, hpl⟩ := ho'.out.get (Nat.le_refl _) hB ho
            have hbl : b < wr.heap.size := by have := hB.size; omega
            obtain ⟨pa, pn, pc, rfl⟩ : ∃ a n c, pv = .slice a n c := by obtain ⟨a, c, h, _⟩ := hpv; exact ⟨_, _, _, h⟩
            have hzB := hB.size
            clear ho
            go_wp2_with fail
            generalize hW : wr.alloc (.cells #[.int .i64 o.kd, .int .i64 o.i, .int .u8 o.f.toNat, .int .i64 o.sz, .slice pa pn pc] 37) = W0
            have hf0 : Fr [] wr W0 := by rw [← hW]; exact (Fr.refl _ _).alloc _
            have hbx : BoxAt W0 wr.heap.size o (.slice pa pn pc) := by rw [← hW]; exact ⟨by simp, by simp, by simp, by simp, by simp⟩
            have hI1 := hI.box hf0 (by rw [← hW]; simp)
            have hpv0 := hpv.fr (S := []) hf0 (fun _ _ => List.not_mem_nil)
            have hB0w := hB.trans (hf0.below hB.size (by simp))
            clear hW hI d0 d1 d2 d3 d4 hbl
            refine (hI1.playP hsI o _ hpv0 hpl).mono ?_
            rintro e w2 ⟨rfl, hI2, hE⟩
            have hbx2 : BoxAt w2 wr.heap.size o (.slice pa pn pc) := by
              have hc : ∀ k, w2.cell? ⟨wr.heap.size, k, none⟩ = W0.cell? ⟨wr.heap.size, k, none⟩ := fun k => World.cell?_of_block (a := ⟨wr.heap.size, k, none⟩) (hE _ rfl)
              exact ⟨(hc _).trans hbx.1, (hc _).trans hbx.2.1, (hc _).trans hbx.2.2.1, (hc _).trans hbx.2.2.2.1, (hc _).trans hbx.2.2.2.2⟩
            have hB2 : Below w.heap.size w w2 := hB5.out.trans (hI2.fr.below hB5.out.size (fun k hk => (hX5.out k hk).1))
            have hpv2 : SlAt w2 (fun b => b < w.heap.size) (.slice pa pn pc) (ints o.pk) := by
              obtain ⟨a', c', e, h1, h2⟩ := hpv
              refine ⟨a', c', e, h1, fun h0 => ?_⟩
              obtain ⟨b', o', ha, hb', hl', hc'⟩ := h2 h0
              have hbW : b' < w.heap.size := hb'
              exact ⟨b', o', ha, hb', by have := hB2.size; omega, fun k x hk => (World.cell?_of_block (a := ⟨b', o' + k, none⟩) (hB2.block b' hbW)).trans ((World.cell?_of_block (a := ⟨b', o' + k, none⟩) (hB.block b' hbW)).symm.trans (hc' k x hk))⟩
            obtain ⟨e0, e1, e2, e3, e4⟩ := hbx2
            clear hI1 hbx hpv0 hE hpv hB0w hf0
            go_wp2_with fail
            refine (hI2.playQ hsI o _ hpv2 hpl).mono ?_
            rintro e w3 ⟨rfl, hI3, hE3⟩
            have hI4 := Lib.hid hI3.drop
            clear hI2 hI3 hE3 hpv2 e0 e1 e2 e3 e4 hB2 hB
            go_wp2_with fail
            go_roundw
            case rel => exact ⟨j + 1, by omega, by go_num, by rw [hT1.out]; exact hI4.out⟩
            case measure => simp [intOf]; omega

          · obtain rfl : j = one.length := by omega
            obtain ⟨w6, rfl⟩ : ∃ w6 : World, w6 = wr := ⟨_, rfl⟩
            rw [List.take_length] at hI
            generalize hs1 : runS one s0 = s1 at *
            clear hs1
            have h26 := Lib.hid (clonesTwo H.out hFo5'.out hI hX5.out hqm6.out hsm6.out q0c'.out s0c'.out q1c.out s1c.out qzc.out szc.out (by have := hzq'.out; have := hzs'.out; omega) hil.out hml)
            have hB6 := Lib.hid hB
            clear hI hB
            go_wp2_with fail
            go_loopw [19, 104] (fun bx t wr => ∃ j : Nat, j ≤ two.length ∧ t = .int .i64 (j : Int) ∧ Inv2 (fun _ => False) w6 wr (fun b => b = q ∨ b = qm ∨ b = qb ∨ (Value.slice va vn vc).ownBlock = some b) (fun b => b = sp ∨ b = sm ∨ b = sb ∨ (Value.slice ua un uc).ownBlock = some b) w.heap.size q qm qb (.slice none 0 0) 0 [] sp sm sb (.slice none 0 0) 0 [] (runS (two.take j) s0) (runS (two.take j) s0)) (fun _ t _ => two.length - (intOf t).toNat)
            case atStart => exact ⟨0, Nat.zero_le _, rfl, h26.out.1.1⟩
            case round =>
                obtain ⟨j, hj, rfl, hI⟩ := hrel
                have hB : Below w.heap.size w wr := hB6.out.trans (hI.fr.below hB6.out.size (fun k hk => ((Lib.hid h26.out.2).out k hk).1))
                by_cases hlt : j < two.length
                · have hlti : (j : Int) < (two.length : Int) := by omega
                  obtain ⟨o, ho⟩ : ∃ o, two[j]? = some o := ⟨two[j], List.getElem?_eq_getElem hlt⟩
                  have hsI : (runS (two.take j) s0).I.length ≤ 4096 := by have := runS_I (two.take j) s0; simp at this; omega
                  have hT1 := Lib.hid (runS_take_succ two s0 j o ho)
                  generalize runS (two.take j) s0 = s at *
                  obtain ⟨b, off, pv, rfl, hbP, d0, d1, d2, d3, d4, hpv, hpl⟩ := ht'.out.get (Nat.le_refl _) hB ho
                  have hbl : b < wr.heap.size := by have := hB.size; omega
                  obtain ⟨pa, pn, pc, rfl⟩ : ∃ a n c, pv = .slice a n c := by obtain ⟨a, c, h, _⟩ := hpv; exact ⟨_, _, _, h⟩
                  have hzB := hB.size
                  clear ho
                  go_wp2_with fail
                  generalize hW : wr.alloc (.cells #[.int .i64 o.kd, .int .i64 o.i, .int .u8 o.f.toNat, .int .i64 o.sz, .slice pa pn pc] 37) = W0
                  have hf0 : Fr [] wr W0 := by rw [← hW]; exact (Fr.refl _ _).alloc _
                  have hbx : BoxAt W0 wr.heap.size o (.slice pa pn pc) := by rw [← hW]; exact ⟨by simp, by simp, by simp, by simp, by simp⟩
                  have hI1 := hI.box hf0 (by rw [← hW]; simp)
                  have hpv0 := hpv.fr (S := []) hf0 (fun _ _ => List.not_mem_nil)
                  have hB0w := hB.trans (hf0.below hB.size (by simp))
                  clear hW hI d0 d1 d2 d3 d4 hbl
                  refine (hI1.playP hsI o _ hpv0 hpl).mono ?_
                  rintro e w2 ⟨rfl, hI2, hE⟩
                  have hbx2 : BoxAt w2 wr.heap.size o (.slice pa pn pc) := by
                    have hc : ∀ k, w2.cell? ⟨wr.heap.size, k, none⟩ = W0.cell? ⟨wr.heap.size, k, none⟩ := fun k => World.cell?_of_block (a := ⟨wr.heap.size, k, none⟩) (hE _ rfl)
                    exact ⟨(hc _).trans hbx.1, (hc _).trans hbx.2.1, (hc _).trans hbx.2.2.1, (hc _).trans hbx.2.2.2.1, (hc _).trans hbx.2.2.2.2⟩
                  have hB2 : Below w.heap.size w w2 := hB6.out.trans (hI2.fr.below hB6.out.size (fun k hk => ((Lib.hid h26.out.2).out k hk).1))
                  have hpv2 : SlAt w2 (fun b => b < w.heap.size) (.slice pa pn pc) (ints o.pk) := by
                    obtain ⟨a', c', e, h1, h2⟩ := hpv
                    refine ⟨a', c', e, h1, fun h0 => ?_⟩
                    obtain ⟨b', o', ha, hb', hl', hc'⟩ := h2 h0
                    have hbW : b' < w.heap.size := hb'
                    exact ⟨b', o', ha, hb', by have := hB2.size; omega, fun k x hk => (World.cell?_of_block (a := ⟨b', o' + k, none⟩) (hB2.block b' hbW)).trans ((World.cell?_of_block (a := ⟨b', o' + k, none⟩) (hB.block b' hbW)).symm.trans (hc' k x hk))⟩
                  obtain ⟨e0, e1, e2, e3, e4⟩ := hbx2
                  clear hI1 hbx hpv0 hE hpv hB0w hf0
                  go_wp2_with fail
                  refine (hI2.playQ hsI o _ hpv2 hpl).mono ?_
                  rintro e w3 ⟨rfl, hI3, hE3⟩
                  have hI4 := Lib.hid hI3.drop
                  clear hI2 hI3 hE3 hpv2 e0 e1 e2 e3 e4 hB2 hB
                  go_wp2_with fail
                  go_roundw
                  case rel => exact ⟨j + 1, by omega, by go_num, by rw [hT1.out]; exact hI4.out⟩
                  case measure => simp [intOf]; omega

                · obtain rfl : j = two.length := by omega
                  rw [List.take_length] at hI
                  have hBe := Lib.hid hB
                  have h7 := Lib.hid (clonesEnd h26.out.1.2 hI)
                  clear hI hB
                  obtain ⟨w7, rfl⟩ : ∃ w7 : World, w7 = wr := ⟨_, rfl⟩
                  obtain ⟨hm7, hr7, hq7, hs7, hl7, hl7', p07, r07, q07, s07⟩ := h7.out
                  have hM := Lib.hid (⟨hm7, hr7, hq7, hs7⟩ : _ ∧ _ ∧ _ ∧ _)
                  have hS0 : w7.drew.cell? ⟨p, 0, none⟩ = some (.pointer (some ⟨pm, 0, none⟩)) ∧ w7.drew.cell? ⟨r, 0, none⟩ = some (.pointer (some ⟨rm, 0, none⟩)) ∧ w7.drew.cell? ⟨q, 0, none⟩ = some (.pointer (some ⟨qm, 0, none⟩)) ∧ w7.drew.cell? ⟨sp, 0, none⟩ = some (.pointer (some ⟨sm, 0, none⟩)) := ⟨p07, r07, q07, s07⟩
                  have hk : ∀ W, Fr [] w7 W → W.cell? ⟨p, 0, none⟩ = some (.pointer (some ⟨pm, 0, none⟩)) ∧ W.cell? ⟨r, 0, none⟩ = some (.pointer (some ⟨rm, 0, none⟩)) ∧ W.cell? ⟨q, 0, none⟩ = some (.pointer (some ⟨qm, 0, none⟩)) ∧ W.cell? ⟨sp, 0, none⟩ = some (.pointer (some ⟨sm, 0, none⟩)) := fun W hW => ⟨(hW.cell (World.block_lt_of_cell? _ _ p07) List.not_mem_nil).trans p07, (hW.cell (World.block_lt_of_cell? _ _ r07) List.not_mem_nil).trans r07, (hW.cell (World.block_lt_of_cell? _ _ q07) List.not_mem_nil).trans q07, (hW.cell (World.block_lt_of_cell? _ _ s07) List.not_mem_nil).trans s07⟩
                  have hk' := Lib.hid hk
                  clear hm7 hr7 hq7 hs7 p07 r07 q07 s07 hk h7
                  go_wp2_with fail
                  go_region_held3 (fun w' => w'.cell? ⟨p, 0, none⟩ = some (.pointer (some ⟨pm, 0, none⟩)) ∧ w'.cell? ⟨r, 0, none⟩ = some (.pointer (some ⟨rm, 0, none⟩)) ∧ w'.cell? ⟨q, 0, none⟩ = some (.pointer (some ⟨qm, 0, none⟩)) ∧ w'.cell? ⟨sp, 0, none⟩ = some (.pointer (some ⟨sm, 0, none⟩))) (first | exact hS3.out | exact hS2.out | exact hS1.out | exact hS0)
                    (first
                      | (go_at_call 24
                         refine (lSame _ qm qb sm sb _ (hM.out.2.2.1.fr hF2.out List.not_mem_nil List.not_mem_nil) (hM.out.2.2.2.fr hF2.out List.not_mem_nil List.not_mem_nil) hl7').mono ?_
                         rintro e wc ⟨rfl, hFc⟩
                         have hF3 := Lib.hid (hF2.out.trans hFc)
                         have hS3 := Lib.hid (hk'.out _ hF3.out)
                         clear hFc)
                      | (go_at_call 24
                         refine (lSame _ pm pb rm rb _ (hM.out.1.fr hF1.out List.not_mem_nil List.not_mem_nil) (hM.out.2.1.fr hF1.out List.not_mem_nil List.not_mem_nil) hl7).mono ?_
                         rintro e wb ⟨rfl, hFb⟩
                         have hF2 := Lib.hid (hF1.out.trans hFb)
                         have hS2 := Lib.hid (hk'.out _ hF2.out)
                         clear hFb)
                      | (go_at_call 19
                         refine (lSanity _).mono ?_
                         rintro e wa ⟨rfl, hBa⟩
                         have hF1 : Hid (Fr [] w7 wa) := (Fr.refl _ _).drew.trans (Fr.of_below hBa)
                         have hS1 := Lib.hid (hk'.out _ hF1.out)
                         clear hBa))
                  all_goals
                    have hfin := hBe.out.trans (hF3.out.below hBe.out.size (by simp))
                    clear hS0 hS1 hS2 hS3 hF1 hF2 hF3
                    go_wp2
                    go_ret
                    exact ⟨rfl, hfin⟩

theorem lClones (w : World) (n : Int) (v1 : Value) (ops : List OpT) (hs : ScrAt w w.heap.size v1 ops) (v2 : Value) (one : List OpT) (hm : ScrAt w w.heap.size v2 one) (v3 : Value) (two : List OpT) (hm3 : ScrAt w w.heap.size v3 two) :
    Calls Try.prog 10 #[.int .i64 n, v1, v2, v3] w fun e w' => e = .returned (.bool true) ∧ Below w.heap.size w w' := by
  by_cases hbad : n < 1 ∨ 64 < n
  · exact clones_bad w n v1 v2 v3 ops one two hs hm hm3 hbad
  · obtain ⟨k, rfl⟩ : ∃ k : Nat, n = (k : Int) := ⟨n.toNat, by omega⟩
    by_cases hlong : ops.length ≤ 60 ∧ one.length ≤ 60 ∧ two.length ≤ 60
    · exact clones_ok w k v1 v2 v3 ops one two hs hm hm3 (by omega) (by omega) hlong.1 hlong.2.1 hlong.2.2
    · exact clones_long w k v1 v2 v3 ops one two hs hm hm3 (by omega) (by omega) (by omega)

end Go.Proofs.Ytogljlloobjeoaa
