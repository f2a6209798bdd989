/- Two players of chapter 22 that are played side by side, apart from what else lies in memory. -/
import Derived.Test.YtogljlloobjeoaaSanity
import Derived.Test.YtogljlloobjeoaaScr
namespace Go.Proofs.Ytogljlloobjeoaa
open Go.RowKit

/-- p holds sp, q holds sq; since the world w1 only the blocks of X1 and Y1, and new ones, have turned. -/
structure Inv2 (E : Nat → Prop) (w1 wr : World) (X1 Y1 : Nat → Prop) (B p pm pb : Nat) (v0 : Value) (n0 : Nat) (vs0 : List Value) (q qm qb : Nat) (u0 : Value) (m0 : Nat) (us0 : List Value) (sp sq : St) : Prop where
  ex : ∃ X Z Y V, PlAt wr X Z B p pm pb v0 n0 vs0 sp ∧ PlAt wr Y V B q qm qb u0 m0 us0 sq ∧ (∀ b, X b → ¬ Y b ∧ ¬ V b) ∧ (∀ b, Y b → ¬ X b ∧ ¬ Z b) ∧ (∀ b, X b → X1 b ∨ w1.heap.size ≤ b) ∧ (∀ b, Y b → Y1 b ∨ w1.heap.size ≤ b) ∧ (∀ b, E b → ¬ X b ∧ ¬ Y b ∧ b < wr.heap.size)
  fr : FrP (fun b => X1 b ∨ Y1 b) w1 wr
  hv : ∀ g, v0.ownBlock = some g → g < w1.heap.size ∧ ¬ Y1 g
  hu : ∀ g, u0.ownBlock = some g → g < w1.heap.size ∧ ¬ X1 g
section
variable {E : Nat → Prop} {w1 wr w' : World} {X1 Y1 : Nat → Prop} {B p pm pb n0 q qm qb m0 : Nat} {v0 u0 : Value} {vs0 us0 : List Value} {sp sq : St}
theorem Inv2.fr0 (h : Inv2 E w1 wr X1 Y1 B p pm pb v0 n0 vs0 q qm qb u0 m0 us0 sp sq) (hf : Fr [] wr w') : Inv2 E w1 w' X1 Y1 B p pm pb v0 n0 vs0 q qm qb u0 m0 us0 sp sq := by
  obtain ⟨X, Z, Y, V, hP, hQ, d1, d2, d3, d4, d5⟩ := h.ex
  have hf' : FrP (fun _ => False) wr w' := FrP.of_fr hf (by simp)
  exact ⟨⟨X, Z, Y, V, hP.frP hf' (fun _ h => h.elim) (fun _ _ h => h), hQ.frP hf' (fun _ h => h.elim) (fun _ _ h => h), d1, d2, d3, d4, fun b hb => ⟨(d5 b hb).1, (d5 b hb).2.1, Nat.lt_of_lt_of_le (d5 b hb).2.2 hf.size⟩⟩, h.fr.then hf' (fun _ h => h.elim), h.hv, h.hu⟩
theorem Inv2.playP (h : Inv2 E w1 wr X1 Y1 B p pm pb v0 n0 vs0 q qm qb u0 m0 us0 sp sq) (hI : sp.I.length ≤ 4096) (o : OpT) (pv : Value) (hpv : SlAt wr (fun b => b < B) pv (ints o.pk)) (hlen : o.pk.length ≤ maxLen) :
    Calls Try.prog 22 #[.pointer (some ⟨p, 0, none⟩), .agg #[.int .i64 o.kd, .int .i64 o.i, .int .u8 o.f.toNat, .int .i64 o.sz, pv]] wr fun e w' => e = .returned (.int .i64 (playE o sp)) ∧
      Inv2 E w1 w' X1 Y1 B p pm pb v0 n0 vs0 q qm qb u0 m0 us0 (playS o sp) sq ∧ (∀ b, E b → w'.heap[b]? = wr.heap[b]?) := by
  obtain ⟨X, Z, Y, V, hP, hQ, d1, d2, sx, sy, se⟩ := h.ex
  refine (mPlay wr X Z B p pm pb v0 n0 vs0 sp hP hI o pv hpv hlen).mono ?_
  rintro e w' ⟨rfl, X', Z', hP', hX', hZ', hF⟩
  have hs := h.fr.size
  have hql : ∀ b, Y b ∨ V b → b < wr.heap.size := fun b hb => (hQ.lt b hb).2
  refine ⟨rfl, ⟨⟨X', Z', Y, V, hP', hQ.frP hF d1 (fun g hg hx => ?_), fun b hb => ?_, fun b hb => ⟨fun hx => ?_, fun hz => ?_⟩, fun b hb => ?_, sy, fun b hb => ⟨fun hx => ?_, (se b hb).2.1, Nat.lt_of_lt_of_le (se b hb).2.2 hF.size⟩⟩, h.fr.then hF (fun b hb => ?_), h.hv, h.hu⟩, fun b hb => hF.block b (se b hb).2.2 (se b hb).1⟩
  · have h1 := h.hu g hg
    rcases sx g hx with h2 | h2
    · exact h1.2 h2
    · omega
  · rcases hX' b hb with h1 | h1
    · exact d1 b h1
    · exact ⟨fun hy => by have := hql b (.inl hy); omega, fun hy => by have := hql b (.inr hy); omega⟩
  · rcases hX' b hx with h1 | h1
    · exact (d2 b hb).1 h1
    · have := hql b (.inl hb); omega
  · rcases hZ' b hz with h1 | h1
    · exact (d2 b hb).2 h1
    · have := hql b (.inl hb); omega
  · rcases hX' b hb with h1 | h1
    · exact sx b h1
    · exact .inr (by omega)
  · rcases hX' b hx with h1 | h1
    · exact (se b hb).1 h1
    · have := (se b hb).2.2; omega
  · rcases sx b hb with h1 | h1
    · exact .inl (.inl h1)
    · exact .inr h1
theorem Inv2.playQ (h : Inv2 E w1 wr X1 Y1 B p pm pb v0 n0 vs0 q qm qb u0 m0 us0 sp sq) (hI : sq.I.length ≤ 4096) (o : OpT) (pv : Value) (hpv : SlAt wr (fun b => b < B) pv (ints o.pk)) (hlen : o.pk.length ≤ maxLen) :
    Calls Try.prog 23 #[.pointer (some ⟨q, 0, none⟩), .agg #[.int .i64 o.kd, .int .i64 o.i, .int .u8 o.f.toNat, .int .i64 o.sz, pv]] wr fun e w' => e = .returned (.int .i64 (playE o sq)) ∧
      Inv2 E w1 w' X1 Y1 B p pm pb v0 n0 vs0 q qm qb u0 m0 us0 sp (playS o sq) ∧ (∀ b, E b → w'.heap[b]? = wr.heap[b]?) := by
  obtain ⟨X, Z, Y, V, hP, hQ, d1, d2, sx, sy, se⟩ := h.ex
  refine (rPlay wr Y V B q qm qb u0 m0 us0 sq hQ hI o pv hpv hlen).mono ?_
  rintro e w' ⟨rfl, Y', V', hQ', hY', hV', hF⟩
  have hs := h.fr.size
  have hpl : ∀ b, X b ∨ Z b → b < wr.heap.size := fun b hb => (hP.lt b hb).2
  refine ⟨rfl, ⟨⟨X, Z, Y', V', hP.frP hF d2 (fun g hg hy => ?_), hQ', fun b hb => ⟨fun hy => ?_, fun hy => ?_⟩, fun b hb => ?_, sx, fun b hb => ?_, fun b hb => ⟨(se b hb).1, fun hy => ?_, Nat.lt_of_lt_of_le (se b hb).2.2 hF.size⟩⟩, h.fr.then hF (fun b hb => ?_), h.hv, h.hu⟩, fun b hb => hF.block b (se b hb).2.2 (se b hb).2.1⟩
  · have h1 := h.hv g hg
    rcases sy g hy with h2 | h2
    · exact h1.2 h2
    · omega
  · rcases hY' b hy with h1 | h1
    · exact (d1 b hb).1 h1
    · have := hpl b (.inl hb); omega
  · rcases hV' b hy with h1 | h1
    · exact (d1 b hb).2 h1
    · have := hpl b (.inl hb); omega
  · rcases hY' b hb with h1 | h1
    · exact d2 b h1
    · exact ⟨fun hx => by have := hpl b (.inl hx); omega, fun hx => by have := hpl b (.inr hx); omega⟩
  · rcases hY' b hb with h1 | h1
    · exact sy b h1
    · exact .inr (by omega)
  · rcases hY' b hy with h1 | h1
    · exact (se b hb).2.1 h1
    · have := (se b hb).2.2; omega
  · rcases sy b hb with h1 | h1
    · exact .inl (.inr h1)
    · exact .inr h1
theorem Inv2.drop (h : Inv2 E w1 wr X1 Y1 B p pm pb v0 n0 vs0 q qm qb u0 m0 us0 sp sq) : Inv2 (fun _ => False) w1 wr X1 Y1 B p pm pb v0 n0 vs0 q qm qb u0 m0 us0 sp sq := by
  obtain ⟨X, Z, Y, V, hP, hQ, d1, d2, d3, d4, d5⟩ := h.ex
  exact ⟨⟨X, Z, Y, V, hP, hQ, d1, d2, d3, d4, fun _ h => h.elim⟩, h.fr, h.hv, h.hu⟩
/-- A new block lies apart from both. -/
theorem Inv2.box (h : Inv2 (fun _ => False) w1 wr X1 Y1 B p pm pb v0 n0 vs0 q qm qb u0 m0 us0 sp sq) (hf : Fr [] wr w') (hz : wr.heap.size < w'.heap.size) : Inv2 (fun b => b = wr.heap.size) w1 w' X1 Y1 B p pm pb v0 n0 vs0 q qm qb u0 m0 us0 sp sq := by
  obtain ⟨X, Z, Y, V, hP, hQ, d1, d2, d3, d4, d5⟩ := h.ex
  have hf' : FrP (fun _ => False) wr w' := FrP.of_fr hf (by simp)
  refine ⟨⟨X, Z, Y, V, hP.frP hf' (fun _ h => h.elim) (fun _ _ h => h), hQ.frP hf' (fun _ h => h.elim) (fun _ _ h => h), d1, d2, d3, d4, fun b hb => ?_⟩, h.fr.then hf' (fun _ h => h.elim), h.hv, h.hu⟩
  subst hb
  exact ⟨fun hx => by have := (hP.lt _ (.inl hx)).2; omega, fun hy => by have := (hQ.lt _ (.inl hy)).2; omega, hz⟩
theorem Inv2.size (h : Inv2 E w1 wr X1 Y1 B p pm pb v0 n0 vs0 q qm qb u0 m0 us0 sp sq) : B ≤ wr.heap.size := by
  obtain ⟨X, Z, Y, V, hP, _⟩ := h.ex
  exact hP.base_le
theorem Inv2.start {X Z Y V : Nat → Prop} (hP : PlAt w1 X Z B p pm pb v0 n0 vs0 sp) (hQ : PlAt w1 Y V B q qm qb u0 m0 us0 sq) (d1 : ∀ b, X b → ¬ Y b ∧ ¬ V b) (d2 : ∀ b, Y b → ¬ X b ∧ ¬ Z b)
    (hv : ∀ g, v0.ownBlock = some g → ¬ Y g) (hu : ∀ g, u0.ownBlock = some g → ¬ X g) : Inv2 (fun _ => False) w1 w1 X Y B p pm pb v0 n0 vs0 q qm qb u0 m0 us0 sp sq :=
  ⟨⟨X, Z, Y, V, hP, hQ, d1, d2, fun _ h => .inl h, fun _ h => .inl h, fun _ h => h.elim⟩, FrP.refl _ _, fun g hg => ⟨(hP.old.lt g hg).2, hv g hg⟩, fun g hg => ⟨(hQ.old.lt g hg).2, hu g hg⟩⟩
end

/-- The images' row, kept as a ghost. -/
theorem PlAt.ghost {w : World} {X Z : Nat → Prop} {B p pm pb : Nat} {s : St} (h : PlAt w X Z B p pm pb (.slice none 0 0) 0 [] s) :
    ∃ v vs, w.cell? ⟨p, 1, none⟩ = some v ∧ PlAt w X Z B p pm pb v s.I.length vs s ∧ (∀ g, v.ownBlock = some g → X g) ∧ (∀ (j : Nat) l, s.I[j]? = some l → ∃ u, vs[j]? = some u ∧ SlAt w Z u (strs l)) := by
  obtain ⟨v, vs, r1, r2, r3, r4, r5⟩ := h.row
  refine ⟨v, vs, r1, ⟨h.mem, h.c0, ⟨v, vs, r1, r2, r3, r4, ?_⟩, r2, fun g hg => (r3 g hg).2, h.frz, h.xs, h.ne, h.lt, h.dis, h.wf, h.mlen, h.ilen⟩, fun g hg => (r3 g hg).1, r4⟩
  intro g n1 cap1 e hg
  have hvl : vs.length = s.I.length := by have := r2.1; omega
  refine ⟨?_, Nat.le_refl _, by rw [List.take_of_length_le (by omega)]⟩
  rcases r2.2 with ⟨e2, _⟩ | ⟨g', cap', cur, e2, _⟩
  · rw [e2] at e; cases e
  · rw [e2] at e ⊢
    injection e with e1 e2 e3
    injection e1 with e1
    injection e1 with e1
    subst e1; subst e3; rfl

/-- A player over a copy of the memory, with the old images' row. -/
theorem PlAt.copy {w : World} {Z : Nat → Prop} {B q qm qb n : Nat} {v : Value} {vs : List Value} {s : St} (hm : MemAt w qm qb s.M) (c0 : w.cell? ⟨q, 0, none⟩ = some (.pointer (some ⟨qm, 0, none⟩))) (c1 : w.cell? ⟨q, 1, none⟩ = some v)
    (hfz : ∀ o, w.frozen? ⟨q, o, none⟩ = false) (hn : n = s.I.length) (hown : w.ownsRow B 54 1 v n vs) (hg : ∀ g, v.ownBlock = some g → g ≠ q ∧ g ≠ qm ∧ g ≠ qb ∧ ¬ Z g) (hq : B ≤ q ∧ B ≤ qm ∧ B ≤ qb ∧ q ≠ qm ∧ q ≠ qb) (hzq : ¬ Z q ∧ ¬ Z qm ∧ ¬ Z qb)
    (r4 : ∀ (j : Nat) l, s.I[j]? = some l → ∃ u, vs[j]? = some u ∧ SlAt w Z u (strs l)) (hZ : ∀ b, Z b → B ≤ b ∧ b < w.heap.size) (hwf : WFM s.M) (hl : s.M.length ≤ 4096) (hil : ∀ l ∈ s.I, l.length ≤ 4096) :
    PlAt w (fun b => b = q ∨ b = qm ∨ b = qb ∨ v.ownBlock = some b) Z B q qm qb (.slice none 0 0) 0 [] s := by
  subst hn
  refine ⟨hm, c0, ⟨v, vs, c1, hown, fun g h => ⟨.inr (.inr (.inr h)), (hg g h).1, (hg g h).2.1, (hg g h).2.2.1⟩, r4, Old.none _ _ _⟩, World.ownsRow_nil _ _ _ _, (fun g h => by cases h), hfz, ⟨.inl rfl, .inr (.inl rfl), .inr (.inr (.inl rfl))⟩, ⟨hq.2.2.2.1, hq.2.2.2.2⟩, fun b hb => ?_, fun b hb hz => ?_, hwf, hl, hil⟩
  · have e0 : q < w.heap.size := World.block_lt_of_cell? _ _ c0
    have e1 := hm.lt
    have e2 := hm.arr.lt
    rcases hb with (rfl | rfl | rfl | h) | h
    · omega
    · omega
    · omega
    · exact hown.lt b h
    · exact hZ b h
  · rcases hb with rfl | rfl | rfl | h
    · exact hzq.1 hz
    · exact hzq.2.1 hz
    · exact hzq.2.2 hz
    · exact (hg b h).2.2.2 hz

end Go.Proofs.Ytogljlloobjeoaa
