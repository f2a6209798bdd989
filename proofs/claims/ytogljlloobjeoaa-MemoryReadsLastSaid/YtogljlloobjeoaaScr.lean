/- A script of chapter 22, in memory. Nothing of the program stands here. -/
import Derived.Test.YtogljlloobjeoaaPlS
namespace Go.Proofs.Ytogljlloobjeoaa
open Go.RowKit

/-- An operation lies at this place; its picks lie below B. -/
def OpAt (w : World) (B b o : Nat) (op : OpT) : Prop :=
  ∃ pv, w.cell? ⟨b, o, none⟩ = some (.int .i64 op.kd) ∧ w.cell? ⟨b, o + 1, none⟩ = some (.int .i64 op.i) ∧ w.cell? ⟨b, o + 2, none⟩ = some (.int .u8 op.f.toNat) ∧ w.cell? ⟨b, o + 3, none⟩ = some (.int .i64 op.sz) ∧ w.cell? ⟨b, o + 4, none⟩ = some pv ∧
    SlAt w (fun b => b < B) pv (ints op.pk) ∧ op.pk.length ≤ maxLen
/-- A slice of operations. -/
def ScrAt (w : World) (B : Nat) (v : Value) (ops : List OpT) : Prop :=
  ∃ a cap, v = .slice a ops.length cap ∧ ops.length ≤ cap ∧ cap ≤ maxLen ∧ (0 < ops.length → ∃ b o, a = some ⟨b, o, none⟩ ∧ b < B ∧ ∀ j op, ops[j]? = some op → OpAt w B b (o + j * 5) op)
theorem OpAt.below {w w' : World} {B b o : Nat} {op : OpT} (h : OpAt w B b o op) (hb : b < B) (_hB : B ≤ w.heap.size) (hf : Below B w w') : OpAt w' B b o op := by
  obtain ⟨pv, h0, h1, h2, h3, h4, h5, h6⟩ := h
  have hc : ∀ o, w'.cell? ⟨b, o, none⟩ = w.cell? ⟨b, o, none⟩ := fun o => World.cell?_of_block (w := w) (hf.block b hb)
  refine ⟨pv, (hc _).trans h0, (hc _).trans h1, (hc _).trans h2, (hc _).trans h3, (hc _).trans h4, ?_, h6⟩
  obtain ⟨a, cap, hv, hcap, hx⟩ := h5
  refine ⟨a, cap, hv, hcap, fun h0 => ?_⟩
  obtain ⟨b', o', ha, hb', hlt, hcell⟩ := hx h0
  exact ⟨b', o', ha, hb', Nat.lt_of_lt_of_le hlt hf.size, fun j x hj => (World.cell?_of_block (w := w) (hf.block b' hb')).trans (hcell j x hj)⟩
theorem ScrAt.below {w w' : World} {B : Nat} {v : Value} {ops : List OpT} (h : ScrAt w B v ops) (hB : B ≤ w.heap.size) (hf : Below B w w') : ScrAt w' B v ops := by
  obtain ⟨a, cap, hv, hc, hm, hx⟩ := h
  refine ⟨a, cap, hv, hc, hm, fun h0 => ?_⟩
  obtain ⟨b, o, ha, hb, ho⟩ := hx h0
  exact ⟨b, o, ha, hb, fun j op hj => (ho j op hj).below hb hB hf⟩
/-- What the players hold behind a script. -/
def runS (ops : List OpT) (s : St) : St := ops.foldl (fun s o => playS o s) s
theorem runS_take_succ (ops : List OpT) (s : St) (j : Nat) (o : OpT) (h : ops[j]? = some o) : runS (ops.take (j + 1)) s = playS o (runS (ops.take j) s) := by
  unfold runS
  rw [List.take_add_one, h]
  simp
theorem playS_I (o : OpT) (s : St) : (playS o s).I.length ≤ s.I.length + 1 := by
  unfold playS
  (repeat' split) <;> simp
theorem playS_M (o : OpT) (s : St) : (playS o s).M.length = s.M.length := by
  unfold playS
  (repeat' split) <;> simp [wrM_length, flM_length, cutM_length, stM_length, weM_length, ldM_length]
theorem runS_I (ops : List OpT) (s : St) : (runS ops s).I.length ≤ s.I.length + ops.length := by
  unfold runS
  induction ops generalizing s with
  | nil => simp
  | cons o ops ih => have := ih (playS o s); have := playS_I o s; simp only [List.foldl_cons, List.length_cons]; omega
theorem runS_M (ops : List OpT) (s : St) : (runS ops s).M.length = s.M.length := by
  unfold runS
  induction ops generalizing s with
  | nil => simp
  | cons o ops ih => simp only [List.foldl_cons]; rw [ih, playS_M]

/-- Two players that hold the same, apart from each other. -/
def Two (w : World) (B p pm pb q qm qb : Nat) (s : St) : Prop :=
  ∃ X Z Y V, PlAt w X Z B p pm pb (.slice none 0 0) 0 [] s ∧ PlAt w Y V B q qm qb (.slice none 0 0) 0 [] s ∧ (∀ b, X b → ¬ Y b ∧ ¬ V b) ∧ (∀ b, Y b → ¬ X b ∧ ¬ Z b)
theorem none_own {Y : Nat → Prop} : ∀ g, (Value.slice none 0 0).ownBlock = some g → ¬ Y g := fun g h => by cases h

theorem PlAt.fr0 {w w' : World} {X Z : Nat → Prop} {base p pm pb : Nat} {s : St} (h : PlAt w X Z base p pm pb (.slice none 0 0) 0 [] s) (hf : Fr [] w w') : PlAt w' X Z base p pm pb (.slice none 0 0) 0 [] s :=
  h.frP (Y := fun _ => False) (FrP.of_fr hf (by simp)) (fun _ h => h.elim) none_own
/-- The box of an operation keeps its cells. -/
def BoxAt (w : World) (b : Nat) (o : OpT) (pv : Value) : Prop :=
  w.cell? ⟨b, 0, none⟩ = some (.int .i64 o.kd) ∧ w.cell? ⟨b, 1, none⟩ = some (.int .i64 o.i) ∧ w.cell? ⟨b, 2, none⟩ = some (.int .u8 o.f.toNat) ∧ w.cell? ⟨b, 3, none⟩ = some (.int .i64 o.sz) ∧ w.cell? ⟨b, 4, none⟩ = some pv
theorem BoxAt.frP {w w' : World} {X : Nat → Prop} {b : Nat} {o : OpT} {pv : Value} (h : BoxAt w b o pv) (hf : FrP X w w') (hn : ¬ X b) : BoxAt w' b o pv := by
  have hl : b < w.heap.size := World.block_lt_of_cell? _ _ h.1
  have hc : ∀ k, w'.cell? ⟨b, k, none⟩ = w.cell? ⟨b, k, none⟩ := fun k => hf.cell (p := ⟨b, k, none⟩) hl hn
  exact ⟨(hc _).trans h.1, (hc _).trans h.2.1, (hc _).trans h.2.2.1, (hc _).trans h.2.2.2.1, (hc _).trans h.2.2.2.2⟩
theorem SlAt.below {w w' : World} {B : Nat} {v : Value} {xs : List Value} (h : SlAt w (fun b => b < B) v xs) (hf : Below B w w') : SlAt w' (fun b => b < B) v xs := by
  obtain ⟨a, cap, hv, hc, hx⟩ := h
  refine ⟨a, cap, hv, hc, fun h0 => ?_⟩
  obtain ⟨b, o, ha, hb, hlt, hcell⟩ := hx h0
  exact ⟨b, o, ha, hb, Nat.lt_of_lt_of_le hlt hf.size, fun j x hj => (World.cell?_of_block (w := w) (hf.block b hb)).trans (hcell j x hj)⟩

theorem Two.fr {w w' : World} {B p pm pb q qm qb : Nat} {s : St} (h : Two w B p pm pb q qm qb s) (hf : Fr [] w w') : Two w' B p pm pb q qm qb s := by
  obtain ⟨X, Z, Y, V, h1, h2, h3, h4⟩ := h
  have hf' : FrP (fun _ => False) w w' := FrP.of_fr hf (by simp)
  exact ⟨X, Z, Y, V, h1.frP hf' (fun _ h => h.elim) none_own, h2.frP hf' (fun _ h => h.elim) none_own, h3, h4⟩

end Go.Proofs.Ytogljlloobjeoaa
