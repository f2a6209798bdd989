/- The arguments of the laws of chapters 23 and 33, opened. -/
import Derived.Test.YtogljlloobjeoaaGreatDScr
import Derived.Test.YtogljlloobjeoaaGreatRowK
import Derived.Lib.SmallJoins
import Derived.SliceStrings
namespace Go.Proofs.YtogljlloobjeoaaGreat
open Go.ChangeShapes Go.WideShapes Go.ChangeAt Go.RowKit Go.Deep

theorem wf_i64_le {n : Int} (h : (Lit.int .i64 n).wf = true) : n ≤ 9223372036854775807 := by
  have w3 : (decide (IntKind.min .i64 ≤ n) && decide (n ≤ IntKind.max .i64)) = true := h
  rw [Bool.and_eq_true, decide_eq_true_iff, decide_eq_true_iff] at w3
  have e2 : IntKind.max .i64 = 9223372036854775807 := by decide
  rw [e2] at w3
  exact w3.2
theorem wf_i64_ge {n : Int} (h : (Lit.int .i64 n).wf = true) : -9223372036854775808 ≤ n := by
  have w3 : (decide (IntKind.min .i64 ≤ n) && decide (n ≤ IntKind.max .i64)) = true := h
  rw [Bool.and_eq_true, decide_eq_true_iff, decide_eq_true_iff] at w3
  have e2 : IntKind.min .i64 = -9223372036854775808 := by decide
  rw [e2] at w3
  exact w3.1
theorem wf_u8 {n : Int} (h : (Lit.int .u8 n).wf = true) : 0 ≤ n ∧ n < 256 := by
  have w3 : (decide (IntKind.min .u8 ≤ n) && decide (n ≤ IntKind.max .u8)) = true := h
  rw [Bool.and_eq_true, decide_eq_true_iff, decide_eq_true_iff] at w3
  have e1 : IntKind.min .u8 = 0 := by decide
  have e2 : IntKind.max .u8 = 255 := by decide
  rw [e1, e2] at w3
  omega

section
variable {H : Type} {enc : TypeId × Value → H} {w : World} {base : Nat} {held : Bool}

set_option maxRecDepth 100000 in
theorem open_size23 {r : Reach} {b0 : Nat} {spare : Nat → Bool} {v : Value} {d : DataW H} {p : List MemPlace} (hv : Value.okWide Tryz.prog w r b0 23 v) (h : DataW.Trod enc Tryz.prog w base spare held 23 v d p) :
    ∃ n s f : Int, v = .agg #[.int .i64 n, .int .i64 s, .int .i64 f] ∧ n ≤ 9223372036854775807 ∧ s ≤ 9223372036854775807 ∧ f ≤ 9223372036854775807 := by
  obtain ⟨v0, v1, v2, y0, y1, y2, m, rfl, _, _, t0, t1, t2⟩ := Joins.open_agg3 Tryz.underlying23 (by kernel_rfl) (by kernel_rfl) hv h
  obtain ⟨n0, e0, _, w0⟩ := DataW.trod_int Tryz.underlying3 t0
  obtain ⟨n1, e1, _, w1⟩ := DataW.trod_int Tryz.underlying3 t1
  obtain ⟨n2, e2, _, w2⟩ := DataW.trod_int Tryz.underlying3 t2
  injection e0 with e0 _
  injection e1 with e1 _
  injection e2 with e2 _
  subst e0; subst e1; subst e2
  exact ⟨n0, n1, n2, rfl, wf_i64_le w0, wf_i64_le w1, wf_i64_le w2⟩

/-- One operation's fields. -/
theorem open_dopFields {spare : Nat → Bool} {n b o : Nat} (fs : Array Field) (hu : Tryz.prog.underlying 43 = some (.struct fs))
    (hf : ∀ (j : Nat) (f : Field), fs[j]? = some f → ∃ (v : Value) (y : DataW H × List MemPlace), w.cell? ⟨b, o + j, none⟩ = some v ∧ DataW.trod enc Tryz.prog w base spare held n f.type [v] = some y) : ∃ op, DOpAt w w.heap.size b o op := by
  rw [Tryz.underlying43] at hu
  injection hu with hu
  injection hu with hu
  subst hu
  obtain ⟨v0, y0, c0, t0⟩ := hf 0 _ rfl
  obtain ⟨v1, y1, c1, t1⟩ := hf 1 _ rfl
  obtain ⟨v2, y2, c2, t2⟩ := hf 2 _ rfl
  obtain ⟨v3, y3, c3, t3⟩ := hf 3 _ rfl
  obtain ⟨v4, y4, c4, t4⟩ := hf 4 _ rfl
  obtain ⟨v5, y5, c5, t5⟩ := hf 5 _ rfl
  obtain ⟨n0, e0, _, _⟩ := DataW.trod_int Tryz.underlying3 t0
  obtain ⟨n1, e1, _, w1⟩ := DataW.trod_int Tryz.underlying3 t1
  obtain ⟨n2, e2, _, _⟩ := DataW.trod_int Tryz.underlying3 t2
  obtain ⟨n3, e3, _, w3⟩ := DataW.trod_int Tryz.underlying5 t3
  obtain ⟨n4, e4, _⟩ := DataW.trod_bool Tryz.underlying4 t4
  obtain ⟨zs, hz, hs⟩ := open_picks t5
  injection e0 with e0 _
  injection e1 with e1 _
  injection e2 with e2 _
  injection e3 with e3 _
  injection e4 with e4 _
  subst e0; subst e1; subst e2; subst e3; subst e4
  have hn2 := wf_u8 w3
  have hb : ((UInt8.ofNat n3.toNat).toNat : Int) = n3 := by
    rw [UInt8.toNat_ofNat']
    omega
  exact ⟨⟨n0, n1, n2, UInt8.ofNat n3.toNat, n4, zs⟩, v5, c0, c1, c2, by rw [hb]; exact c3, c4, c5, hs, hz, wf_i64_le w1⟩

/-- A slice of operations. -/
theorem open_dscript {v : Value} {d : DataW H} {p : List MemPlace} (hv : ∃ a n c, v = .slice a n c) (h : DataW.Trod enc Tryz.prog w 0 (fun _ => true) held 24 v d p) : ∃ ops : List DOp, DScrAt w w.heap.size v ops := by
  obtain ⟨a, n, c, rfl⟩ := hv
  obtain ⟨fuel, hf⟩ := h
  have hf' : DataW.trod enc Tryz.prog w 0 (fun _ => true) held fuel 24 [.slice a n c] = some (d, p) := hf
  rcases open_slice_fields Tryz.underlying24 Tryz.underlying43 (by kernel_rfl) (by kernel_rfl) hf' with ⟨hcs, hx⟩ | ⟨a', len, cap, m, D, Pl, hcs, _, hl, hm, hmm, _, hi⟩
  · injection hcs with hcs _
    injection hcs with e1 e2 e3
    subst e1; subst e2; subst e3
    exact ⟨[], none, 0, rfl, Nat.le_refl _, Nat.zero_le _, fun h => by simp at h⟩
  · injection hcs with hcs _
    injection hcs with e1 e2 e3
    subst e1; subst e2; subst e3
    have hlm : n ≤ m := by rw [hmm]; split <;> omega
    have hex : ∀ i, i < n → ∃ op, DOpAt w w.heap.size a'.block (a'.off + i * 6) op := by
      intro i hin
      obtain ⟨ys, k, _, _, _, hfi⟩ := hi i (by omega)
      refine open_dopFields (enc := enc) (base := 0) (held := held) (spare := fun _ => true) (n := k) _ Tryz.underlying43 (fun j f hj => ?_)
      obtain ⟨v, y, hc, _, ht⟩ := hfi j f hj
      refine ⟨v, y, ?_, ht⟩
      obtain ⟨_, _, _, _, _, hf0⟩ := hi 0 (by omega)
      obtain ⟨_, _, hc0, _⟩ := hf0 0 _ rfl
      have e := cell_plain (a := a') hc0
      rw [e, add_plain] at hc
      rw [Nat.add_assoc]
      exact hc
    have hops : ∀ k, k ≤ n → ∃ ops : List DOp, ops.length = k ∧ ∀ j op, ops[j]? = some op → DOpAt w w.heap.size a'.block (a'.off + j * 6) op := by
      intro k
      induction k with
      | zero => exact fun _ => ⟨[], rfl, fun j op h => by simp at h⟩
      | succ k ih =>
        intro hk
        obtain ⟨ops, hlen, hops⟩ := ih (by omega)
        obtain ⟨op, hop⟩ := hex k (by omega)
        refine ⟨ops ++ [op], by simp [hlen], fun j o hj => ?_⟩
        rcases Nat.lt_or_ge j ops.length with hlt | hge
        · rw [List.getElem?_append_left hlt] at hj
          exact hops j o hj
        · rw [List.getElem?_append_right hge] at hj
          have : j - ops.length = 0 := by
            have := (List.getElem?_eq_some_iff.1 hj).1
            simp at this; omega
          rw [this] at hj
          simp at hj
          subst hj
          have : j = k := by omega
          rw [this]; exact hop
    obtain ⟨ops, hlen, hops⟩ := hops n (Nat.le_refl _)
    refine ⟨ops, some a', c, by rw [hlen], by omega, hm, fun h0 => ?_⟩
    obtain ⟨op, pv, hc, _⟩ := hex 0 (by omega)
    obtain ⟨_, _, _, _, _, hf0⟩ := hi 0 (by omega)
    obtain ⟨_, _, hc0, _⟩ := hf0 0 _ rfl
    have e := cell_plain (a := a') hc0
    exact ⟨a'.block, a'.off, by rw [← e], World.block_lt_of_cell? (a := ⟨a'.block, a'.off + 0 * 6, none⟩) _ hc, hops⟩
/-- A slice of texts. -/
theorem open_texts {fuel : Nat} {spare : Nat → Bool} {v : Value} {x : DataW H × List MemPlace} (h : DataW.trod enc Tryz.prog w base spare held fuel 36 [v] = some x) :
    ∃ ss : List ByteArray, ss.length ≤ maxLen ∧ (∀ s ∈ ss, s.size ≤ maxLen) ∧ SlAt w (fun b => b < w.heap.size) v (strs ss) := by
  rcases open_strings Tryz.underlying36 Tryz.underlying9 (by kernel_rfl) h with ⟨hcs, hx⟩ | ⟨a, len, cap, zs, hcs, _, hl, hm, hz, hx, hcell, hwz⟩
  · injection hcs with hcs _
    subst hcs
    exact ⟨[], Nat.zero_le _, (fun s hs => absurd hs (by simp)), SlAt.nil _ _⟩
  · injection hcs with hcs _
    subst hcs
    have hlz : len ≤ zs.length := by rw [hz]; split <;> omega
    have hlt : (zs.take len).length = len := by simp; omega
    have hli : (strs (zs.take len)).length = len := by unfold strs; rw [List.length_map]; exact hlt
    refine ⟨zs.take len, by rw [hlt]; omega, fun s hs => hwz s (List.mem_of_mem_take hs), some a, cap, by rw [hli], by rw [hli]; exact hl, fun h0 => ?_⟩
    have h0' : 0 < len := by rwa [hli] at h0
    have hc0 := hcell 0 (by omega)
    have ha : a.add 0 = a := rfl
    rw [ha] at hc0
    refine ⟨a.block, a.off, by rw [← cell_plain hc0], World.block_lt_of_cell? _ _ hc0, World.block_lt_of_cell? _ _ hc0, fun j x hj => ?_⟩
    have hjl : j < len := by
      have := (List.getElem?_eq_some_iff.1 hj).1
      rwa [hli] at this
    have hcj := hcell j (by omega)
    have e := cell_plain hc0
    rw [e, add_plain] at hcj
    rw [hcj]
    have hjl2 : j < zs.length := by omega
    simp [strs, List.getElem?_take_of_lt hjl, List.getElem?_eq_getElem hjl2] at hj
    rw [← hj, List.getD_eq_getElem?_getD, List.getElem?_eq_getElem hjl2]
    rfl
theorem open_textsArg {v : Value} {d : DataW H} {p : List MemPlace} (h : DataW.Trod enc Tryz.prog w 0 (fun _ => true) held 36 v d p) (hv : ∃ a n c, v = .slice a n c) : ∃ ss : List ByteArray, ss.length ≤ maxLen ∧ (∀ s ∈ ss, s.size ≤ maxLen) ∧ SlAt w (fun b => b < w.heap.size) v (strs ss) := by
  obtain ⟨a, n, c, rfl⟩ := hv
  obtain ⟨fuel, hf⟩ := h
  exact open_texts hf
theorem open_picksArg2 {v : Value} {d : DataW H} {p : List MemPlace} (h : DataW.Trod enc Tryz.prog w 0 (fun _ => true) held 41 v d p) (hv : ∃ a n c, v = .slice a n c) : ∃ zs : List Int, zs.length ≤ maxLen ∧ SlAt w (fun b => b < w.heap.size) v (ints zs) := by
  obtain ⟨a, n, c, rfl⟩ := hv
  obtain ⟨fuel, hf⟩ := h
  exact open_picks hf
end

end Go.Proofs.YtogljlloobjeoaaGreat
