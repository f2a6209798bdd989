/- A script of chapter 23, in memory. Nothing of the program stands here. -/
import Derived.Test.YtogljlloobjeoaaGreatDBase
namespace Go.Proofs.YtogljlloobjeoaaGreat
open Go.RowKit

/-- An operation lies at this place; its picks lie below B. -/
def DOpAt (w : World) (B b o : Nat) (op : DOp) : Prop :=
  ∃ pv, w.cell? ⟨b, o, none⟩ = some (.int .i64 op.kd) ∧ w.cell? ⟨b, o + 1, none⟩ = some (.int .i64 op.a) ∧ w.cell? ⟨b, o + 2, none⟩ = some (.int .i64 op.b) ∧ w.cell? ⟨b, o + 3, none⟩ = some (.int .u8 op.fill.toNat) ∧ w.cell? ⟨b, o + 4, none⟩ = some (.bool op.short) ∧ w.cell? ⟨b, o + 5, none⟩ = some pv ∧
    SlAt w (fun b => b < B) pv (ints op.pk) ∧ op.pk.length ≤ maxLen ∧ op.a ≤ 9223372036854775807
/-- A slice of operations. -/
def DScrAt (w : World) (B : Nat) (v : Value) (ops : List DOp) : Prop :=
  ∃ a cap, v = .slice a ops.length cap ∧ ops.length ≤ cap ∧ cap ≤ maxLen ∧ (0 < ops.length → ∃ b o, a = some ⟨b, o, none⟩ ∧ b < B ∧ ∀ j op, ops[j]? = some op → DOpAt w B b (o + j * 6) op)
theorem DOpAt.below {w w' : World} {B b o : Nat} {op : DOp} (h : DOpAt w B b o op) (hb : b < B) (hf : Below B w w') : DOpAt w' B b o op := by
  obtain ⟨pv, h0, h1, h2, h3, h4, h5, h6, h7⟩ := h
  have hc : ∀ o, w'.cell? ⟨b, o, none⟩ = w.cell? ⟨b, o, none⟩ := fun o => World.cell?_of_block (w := w) (hf.block b hb)
  refine ⟨pv, (hc _).trans h0, (hc _).trans h1, (hc _).trans h2, (hc _).trans h3, (hc _).trans h4, (hc _).trans h5, ?_, h7⟩
  obtain ⟨a, cap, hv, hcap, hx⟩ := h6
  refine ⟨a, cap, hv, hcap, fun h0 => ?_⟩
  obtain ⟨b', o', ha, hb', hlt, hcell⟩ := hx h0
  exact ⟨b', o', ha, hb', Nat.lt_of_lt_of_le hlt hf.size, fun j x hj => (World.cell?_of_block (w := w) (hf.block b' hb')).trans (hcell j x hj)⟩
theorem DScrAt.below {w w' : World} {B : Nat} {v : Value} {ops : List DOp} (h : DScrAt w B v ops) (hf : Below B w w') : DScrAt w' B v ops := by
  obtain ⟨a, cap, hv, hc, hm, hx⟩ := h
  refine ⟨a, cap, hv, hc, hm, fun h0 => ?_⟩
  obtain ⟨b, o, ha, hb, ho⟩ := hx h0
  exact ⟨b, o, ha, hb, fun j op hj => (ho j op hj).below hb hf⟩
theorem DScrAt.a_le {w : World} {B : Nat} {v : Value} {ops : List DOp} (h : DScrAt w B v ops) : ∀ o ∈ ops, o.a ≤ 9223372036854775807 := by
  intro o ho
  obtain ⟨j, hj⟩ := List.getElem?_of_mem ho
  obtain ⟨a, cap, hv, hc, hm, hx⟩ := h
  obtain ⟨b, off, ha, hb, hop⟩ := hx (by have := (List.getElem?_eq_some_iff.1 hj).1; omega)
  obtain ⟨pv, _, _, _, _, _, _, _, _, h7⟩ := hop j o hj
  exact h7

theorem Keeps.run (ops : List DOp) (ha : ∀ o ∈ ops, o.a ≤ 9223372036854775807) : ∀ x : Dv × List ByteArray, Keeps x.1 (runD ops x).1 := by
  induction ops with
  | nil => exact fun x => Keeps.refl _
  | cons o ops ih => intro x; exact (Keeps.do o x.2 x.1 (ha o (by simp))).trans (ih (fun o ho => ha o (by simp [ho])) (doD o x.2 x.1, doI o x.2 x.1))
theorem runD_img (ops : List DOp) (ha : ∀ o ∈ ops, o.a ≤ 9223372036854775807) : ∀ x : Dv × List ByteArray, x.1.Ok → x.2.length ≤ 4096 → (runD ops x).2.length ≤ 4096 := by
  induction ops with
  | nil => exact fun x _ h => h
  | cons o ops ih => intro x hx h; exact ih (fun o ho => ha o (by simp [ho])) (doD o x.2 x.1, doI o x.2 x.1) ((Keeps.do o x.2 x.1 (ha o (by simp))).ok hx) (doI_length _ _ _ h hx.m1)

end Go.Proofs.YtogljlloobjeoaaGreat
