/- The arguments of chapter 22's laws, opened. -/
import Derived.Test.YtogljlloobjeoaaScr
import Derived.Test.YtogljlloobjeoaaRowK
namespace Go.Proofs.Ytogljlloobjeoaa
open Go.ChangeShapes Go.WideShapes Go.ChangeAt Go.RowKit Go.Deep

section
variable {H : Type} {enc : TypeId × Value → H} {w : World} {base : Nat} {held : Bool}
/-- One operation's fields. -/
theorem open_opFields {spare : Nat → Bool} {n b o : Nat} (fs : Array Field) (hu : Try.prog.underlying 37 = some (.struct fs))
    (hf : ∀ (j : Nat) (f : Field), fs[j]? = some f → ∃ (v : Value) (y : DataW H × List MemPlace), w.cell? ⟨b, o + j, none⟩ = some v ∧ DataW.trod enc Try.prog w base spare held n f.type [v] = some y) : ∃ op, OpAt w w.heap.size b o op := by
  rw [Try.underlying37] at hu
  injection hu with hu
  injection hu with hu
  subst hu
  obtain ⟨v0, y0, c0, t0⟩ := hf 0 _ rfl
  obtain ⟨v1, y1, c1, t1⟩ := hf 1 _ rfl
  obtain ⟨v2, y2, c2, t2⟩ := hf 2 _ rfl
  obtain ⟨v3, y3, c3, t3⟩ := hf 3 _ rfl
  obtain ⟨v4, y4, c4, t4⟩ := hf 4 _ rfl
  obtain ⟨n0, e0, _, _⟩ := DataW.trod_int Try.underlying3 t0
  obtain ⟨n1, e1, _, _⟩ := DataW.trod_int Try.underlying3 t1
  obtain ⟨n2, e2, _, w2⟩ := DataW.trod_int Try.underlying5 t2
  obtain ⟨n3, e3, _, _⟩ := DataW.trod_int Try.underlying3 t3
  obtain ⟨zs, hz, hs⟩ := open_picks t4
  injection e0 with e0 _
  injection e1 with e1 _
  injection e2 with e2 _
  injection e3 with e3 _
  subst e0; subst e1; subst e2; subst e3
  have hn2 : 0 ≤ n2 ∧ n2 < 256 := by
    have w3 : (decide (IntKind.min .u8 ≤ n2) && decide (n2 ≤ IntKind.max .u8)) = true := w2
    rw [Bool.and_eq_true, decide_eq_true_iff, decide_eq_true_iff] at w3
    have e1 : IntKind.min .u8 = 0 := by decide
    have e2 : IntKind.max .u8 = 255 := by decide
    rw [e1, e2] at w3
    omega
  have hb : ((UInt8.ofNat n2.toNat).toNat : Int) = n2 := by
    rw [UInt8.toNat_ofNat']
    omega
  exact ⟨⟨n0, n1, UInt8.ofNat n2.toNat, n3, zs⟩, v4, c0, c1, by rw [hb]; exact c2, c3, c4, hs, hz⟩

/-- A slice of operations. -/
theorem open_script {v : Value} {d : DataW H} {p : List MemPlace} (hv : ∃ a n c, v = .slice a n c) (h : DataW.Trod enc Try.prog w 0 (fun _ => true) held 22 v d p) : ∃ ops : List OpT, ScrAt w w.heap.size v ops := by
  obtain ⟨a, n, c, rfl⟩ := hv
  obtain ⟨fuel, hf⟩ := h
  have hf' : DataW.trod enc Try.prog w 0 (fun _ => true) held fuel 22 [.slice a n c] = some (d, p) := hf
  rcases open_slice_fields Try.underlying22 Try.underlying37 (by kernel_rfl) (by kernel_rfl) hf' with ⟨hcs, hx⟩ | ⟨a', len, cap, m, D, Pl, hcs, _, hl, hm, hmm, _, hi⟩
  · injection hcs with hcs _
    injection hcs with e1 e2 e3
    subst e1; subst e2; subst e3
    exact ⟨[], none, 0, rfl, Nat.le_refl _, Nat.zero_le _, fun h => by simp at h⟩
  · injection hcs with hcs _
    injection hcs with e1 e2 e3
    subst e1; subst e2; subst e3
    have hlm : n ≤ m := by rw [hmm]; split <;> omega
    have hex : ∀ i, i < n → ∃ op, OpAt w w.heap.size a'.block (a'.off + i * 5) op := by
      intro i hin
      obtain ⟨ys, k, _, _, _, hfi⟩ := hi i (by omega)
      refine open_opFields (enc := enc) (base := 0) (held := held) (spare := fun _ => true) (n := k) _ Try.underlying37 (fun j f hj => ?_)
      obtain ⟨v, y, hc, _, ht⟩ := hfi j f hj
      refine ⟨v, y, ?_, ht⟩
      obtain ⟨_, _, _, _, _, hf0⟩ := hi 0 (by omega)
      obtain ⟨_, _, hc0, _⟩ := hf0 0 _ rfl
      have e := cell_plain (a := a') hc0
      rw [e, add_plain] at hc
      rw [Nat.add_assoc]
      exact hc
    have hops : ∀ k, k ≤ n → ∃ ops : List OpT, ops.length = k ∧ ∀ j op, ops[j]? = some op → OpAt w w.heap.size a'.block (a'.off + j * 5) op := by
      intro k
      induction k with
      | zero => exact fun _ => ⟨[], rfl, fun j op h => by simp at h⟩
      | succ k ih =>
        intro hk
        obtain ⟨ops, hlen, hops⟩ := ih (by omega)
        obtain ⟨op, hop⟩ := hex k (by omega)
        refine ⟨ops ++ [op], by simp [hlen], fun j o hj => ?_⟩
        rcases Nat.lt_or_ge j ops.length with hlt | hge
        · rw [List.getElem?_append_left hlt] at hj
          exact hops j o hj
        · rw [List.getElem?_append_right hge] at hj
          have : j - ops.length = 0 := by
            have := (List.getElem?_eq_some_iff.1 hj).1
            simp at this; omega
          rw [this] at hj
          simp at hj
          subst hj
          have : j = k := by omega
          rw [this]; exact hop
    obtain ⟨ops, hlen, hops⟩ := hops n (Nat.le_refl _)
    refine ⟨ops, some a', c, by rw [hlen], by omega, hm, fun h0 => ?_⟩
    obtain ⟨op, pv, hc, _⟩ := hex 0 (by omega)
    obtain ⟨_, _, _, _, _, hf0⟩ := hi 0 (by omega)
    obtain ⟨_, _, hc0, _⟩ := hf0 0 _ rfl
    have e := cell_plain (a := a') hc0
    exact ⟨a'.block, a'.off, by rw [← e], World.block_lt_of_cell? (a := ⟨a'.block, a'.off + 0 * 5, none⟩) _ hc, hops⟩
end

end Go.Proofs.Ytogljlloobjeoaa
