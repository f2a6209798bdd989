/- The state of a player of chapter 22, and where it lies. Nothing of the program stands here, but two numbers of types. -/
import Derived.Test.YtogljlloobjeoaaPlayR
namespace Go.Proofs.Ytogljlloobjeoaa
open Go.RowKit

structure FrP (X : Nat → Prop) (w w' : World) : Prop where
  os : w'.os = w.os
  tape : w'.tape = w.tape
  output : w'.output = w.output
  size : w.heap.size ≤ w'.heap.size
  block : ∀ k, k < w.heap.size → ¬ X k → w'.heap[k]? = w.heap[k]?
section
variable {X Y : Nat → Prop} {w w' w2 : World}
theorem FrP.refl (X : Nat → Prop) (w : World) : FrP X w w := ⟨rfl, rfl, rfl, Nat.le_refl _, fun _ _ _ => rfl⟩
theorem FrP.of_fr {S : List Nat} (h : Fr S w w') (hs : ∀ k ∈ S, X k ∨ w.heap.size ≤ k) : FrP X w w' :=
  ⟨h.os, h.tape, h.output, h.size, fun k hk hn => h.block k hk (fun hm => by
    rcases hs k hm with h1 | h1
    · exact hn h1
    · omega)⟩
theorem FrP.then (h : FrP X w w') (k : FrP Y w' w2) (hs : ∀ b, Y b → X b ∨ w.heap.size ≤ b) : FrP X w w2 :=
  ⟨k.os.trans h.os, k.tape.trans h.tape, k.output.trans h.output, Nat.le_trans h.size k.size,
    fun i hi hn => (k.block i (Nat.lt_of_lt_of_le hi h.size) (fun hm => by
      rcases hs i hm with h1 | h1
      · exact hn h1
      · omega)).trans (h.block i hi hn)⟩
theorem FrP.below {B : Nat} (h : FrP X w w') (hB : B ≤ w.heap.size) (hs : ∀ k, X k → B ≤ k) : Below B w w' :=
  ⟨h.os, h.tape, h.output, h.size, fun k hk => h.block k (by omega) (fun hm => by have := hs k hm; omega)⟩
theorem FrP.cell (h : FrP X w w') {p : Addr} (hl : p.block < w.heap.size) (hn : ¬ X p.block) : w'.cell? p = w.cell? p := World.cell?_of_block (w := w) (h.block _ hl hn)
theorem FrP.frozen (h : FrP X w w') {p : Addr} (hl : p.block < w.heap.size) (hn : ¬ X p.block) : w'.frozen? p = w.frozen? p := World.frozen?_of_block (w := w) (h.block _ hl hn)
theorem SlAt.frP {ok : Nat → Prop} {v : Value} {xs : List Value} (h : SlAt w ok v xs) (hf : FrP X w w') (hok : ∀ b, ok b → ¬ X b) : SlAt w' ok v xs := by
  obtain ⟨a, cap, hv, hc, hx⟩ := h
  refine ⟨a, cap, hv, hc, fun h0 => ?_⟩
  obtain ⟨b, o, ha, hb, hlt, hcell⟩ := hx h0
  exact ⟨b, o, ha, hb, Nat.lt_of_lt_of_le hlt hf.size, fun j x hj => (hf.cell hlt (hok b hb)).trans (hcell j x hj)⟩
theorem ArrAt.frP {pb : Nat} {M : List Sec} (h : ArrAt w pb M) (hf : FrP X w w') (hn : ¬ X pb) : ArrAt w' pb M :=
  ⟨Nat.lt_of_lt_of_le h.lt hf.size, fun i s hi => by
    have := h.sec i s hi
    exact ⟨(hf.cell h.lt hn).trans this.1, (hf.cell h.lt hn).trans this.2.1, (hf.cell h.lt hn).trans this.2.2.1, (hf.cell h.lt hn).trans this.2.2.2.1, (hf.cell h.lt hn).trans this.2.2.2.2⟩, fun o => (hf.frozen h.lt hn).trans (h.frz o)⟩
theorem MemAt.frP {pm pb : Nat} {M : List Sec} (h : MemAt w pm pb M) (hf : FrP X w w') (hm : ¬ X pm) (hn : ¬ X pb) : MemAt w' pm pb M :=
  ⟨h.ptr.imp fun _ hc => ⟨(hf.cell h.lt hm).trans hc.1, hc.2⟩, Nat.lt_of_lt_of_le h.lt hf.size, fun o => (hf.frozen h.lt hm).trans (h.frz o), h.arr.frP hf hn, h.ne⟩
theorem ownsRow_frP {base : Nat} {e : TypeId} {size : Nat} {v : Value} {n : Nat} {xs : List Value} (h : w.ownsRow base e size v n xs) (hf : FrP X w w') (hn : ∀ g, v.ownBlock = some g → ¬ X g) : w'.ownsRow base e size v n xs := by
  obtain ⟨hl, h2⟩ := h
  refine ⟨hl, ?_⟩
  rcases h2 with h2 | ⟨g, cap, cur, rfl, hb, hg, h3⟩
  · exact .inl h2
  · exact .inr ⟨g, cap, cur, rfl, hb, (hf.block g (Array.getElem?_eq_some_iff.1 hg).1 (hn g rfl)).trans hg, h3⟩
end

/-- What a player holds: the sectors, and the saved images. -/
structure St where
  M : List Sec
  I : List (List ByteArray)

def imgAt (I : List (List ByteArray)) (i : Int) : List ByteArray := if 0 ≤ i then (I[i.toNat]?).getD [] else []
def playS (o : OpT) (s : St) : St :=
  if o.kd = 1 then { s with M := wrM s.M o.i (text22 o.f o.sz) }
  else if o.kd = 2 then { s with M := flM s.M }
  else if o.kd = 3 then { s with M := cutM s.M o.pk }
  else if o.kd = 4 then { s with M := stM s.M o.i }
  else if o.kd = 5 then { s with M := weM s.M o.i }
  else if o.kd = 6 then { s with M := ldM s.M (imgAt s.I o.i) }
  else if o.kd = 7 then { s with I := s.I ++ [imgM s.M] }
  else s
def playE (o : OpT) (s : St) : Int :=
  if o.kd = 1 then wrE s.M o.i (text22 o.f o.sz)
  else if o.kd = 4 then rdE s.M o.i
  else if o.kd = 5 then rdE s.M o.i
  else if o.kd = 6 then ldE s.M (imgAt s.I o.i)
  else 0

/-- The old row (v0, n0, vs0) lies in the row (v, n, vs), or apart from it. -/
def Old (v0 : Value) (n0 : Nat) (vs0 : List Value) (v : Value) (n : Nat) (vs : List Value) : Prop :=
  ∀ g n1 cap1, v = .slice (some ⟨g, 0, none⟩) n1 cap1 → v0.ownBlock = some g → v0 = .slice (some ⟨g, 0, none⟩) n0 cap1 ∧ n0 ≤ n ∧ vs0 = vs.take n0

/-- A player at the block p; X: the blocks that it may turn; Z: those of the saved images. -/
structure PlAt (w : World) (X Z : Nat → Prop) (base p pm pb : Nat) (v0 : Value) (n0 : Nat) (vs0 : List Value) (s : St) : Prop where
  mem : MemAt w pm pb s.M
  c0 : w.cell? ⟨p, 0, none⟩ = some (.pointer (some ⟨pm, 0, none⟩))
  row : ∃ v vs, w.cell? ⟨p, 1, none⟩ = some v ∧ w.ownsRow base 54 1 v s.I.length vs ∧ (∀ g, v.ownBlock = some g → X g ∧ g ≠ p ∧ g ≠ pm ∧ g ≠ pb) ∧
    (∀ (j : Nat) l, s.I[j]? = some l → ∃ u, vs[j]? = some u ∧ SlAt w Z u (strs l)) ∧ Old v0 n0 vs0 v s.I.length vs
  old : w.ownsRow base 54 1 v0 n0 vs0
  oldx : ∀ g, v0.ownBlock = some g → g ≠ p ∧ g ≠ pm ∧ g ≠ pb
  frz : ∀ o, w.frozen? ⟨p, o, none⟩ = false
  xs : X p ∧ X pm ∧ X pb
  ne : p ≠ pm ∧ p ≠ pb
  lt : ∀ b, X b ∨ Z b → base ≤ b ∧ b < w.heap.size
  dis : ∀ b, X b → ¬ Z b
  wf : WFM s.M
  mlen : s.M.length ≤ 4096
  ilen : ∀ l ∈ s.I, l.length ≤ 4096

section
variable {X Z Y : Nat → Prop} {w w' : World} {base p pm pb n0 : Nat} {v0 : Value} {vs0 : List Value} {s : St}
theorem PlAt.lp (h : PlAt w X Z base p pm pb v0 n0 vs0 s) : p < w.heap.size := World.block_lt_of_cell? _ _ h.c0
theorem PlAt.base_le (h : PlAt w X Z base p pm pb v0 n0 vs0 s) : base ≤ w.heap.size := by have := h.lt p (.inl h.xs.1); omega
/-- Its sectors have turned. -/
theorem PlAt.step (h : PlAt w X Z base p pm pb v0 n0 vs0 s) {M' : List Sec} (hM : MemAt w' pm pb M') (hf : Fr [pb] w w') (hwf : WFM M') (hl : M'.length ≤ 4096) : PlAt w' X Z base p pm pb v0 n0 vs0 { s with M := M' } := by
  have hp : p ∉ [pb] := by simpa using h.ne.2
  obtain ⟨v, vs, r1, r2, r3, r4, r5⟩ := h.row
  refine ⟨hM, (hf.cell h.lp hp).trans h.c0, ⟨v, vs, (hf.cell (p := ⟨p, 1, none⟩) h.lp hp).trans r1, ownsRow_fr r2 hf (fun g hg => by simpa using (r3 g hg).2.2.2), r3, fun j l hj => ?_, r5⟩, ownsRow_fr h.old hf (fun g hg => by simpa using (h.oldx g hg).2.2), h.oldx,
    fun o => (hf.frozen (p := ⟨p, o, none⟩) h.lp hp).trans (h.frz o), h.xs, h.ne, fun b hb => by have := h.lt b hb; have := hf.size; omega, h.dis, hwf, hl, h.ilen⟩
  obtain ⟨u, hu, hs⟩ := r4 j l hj
  exact ⟨u, hu, hs.fr hf (fun b hb => by simp; rintro rfl; exact h.dis _ h.xs.2.2 hb)⟩
/-- Something else has turned. -/
theorem PlAt.frP (h : PlAt w X Z base p pm pb v0 n0 vs0 s) (hf : FrP Y w w') (hY : ∀ b, Y b → ¬ X b ∧ ¬ Z b) (ho : ∀ g, v0.ownBlock = some g → ¬ Y g) : PlAt w' X Z base p pm pb v0 n0 vs0 s := by
  have hX : ∀ b, X b → ¬ Y b := fun b hb hy => (hY b hy).1 hb
  have hp := hX p h.xs.1
  obtain ⟨v, vs, r1, r2, r3, r4, r5⟩ := h.row
  refine ⟨h.mem.frP hf (hX _ h.xs.2.1) (hX _ h.xs.2.2), (hf.cell h.lp hp).trans h.c0, ⟨v, vs, (hf.cell (p := ⟨p, 1, none⟩) h.lp hp).trans r1, ownsRow_frP r2 hf (fun g hg => hX g (r3 g hg).1), r3, fun j l hj => ?_, r5⟩, ownsRow_frP h.old hf ho, h.oldx,
    fun o => (hf.frozen (p := ⟨p, o, none⟩) h.lp hp).trans (h.frz o), h.xs, h.ne, fun b hb => by have := h.lt b hb; have := hf.size; omega, h.dis, h.wf, h.mlen, h.ilen⟩
  obtain ⟨u, hu, hs⟩ := r4 j l hj
  exact ⟨u, hu, hs.frP hf (fun b hb hy => (hY b hy).2 hb)⟩
end

theorem Old.none (v : Value) (n : Nat) (vs : List Value) : Old (.slice none 0 0) 0 [] v n vs := fun g n1 cap1 _ h => by cases h

/-- The row has grown. -/
theorem PlAt.grow {X Z : Nat → Prop} {w w' : World} {base p pm pb n0 g cap : Nat} {v0 v u : Value} {vs0 vs : List Value} {s : St} (h : PlAt w X Z base p pm pb v0 n0 vs0 s)
    (r1 : w.cell? ⟨p, 1, none⟩ = some v) (r2 : w.ownsRow base 54 1 v s.I.length vs) (r3 : ∀ g, v.ownBlock = some g → X g ∧ g ≠ p ∧ g ≠ pm ∧ g ≠ pb) (r4 : ∀ (j : Nat) l, s.I[j]? = some l → ∃ u, vs[j]? = some u ∧ SlAt w Z u (strs l)) (r5 : Old v0 n0 vs0 v s.I.length vs)
    (hc0 : w'.cell? ⟨p, 0, none⟩ = some (.pointer (some ⟨pm, 0, none⟩))) (hc1 : w'.cell? ⟨p, 1, none⟩ = some (.slice (some ⟨g, 0, none⟩) (s.I.length + 1) cap)) (hfz : ∀ o, w'.frozen? ⟨p, o, none⟩ = false)
    (hown : w'.ownsRow base 54 1 (.slice (some ⟨g, 0, none⟩) (s.I.length + 1) cap) (s.I.length + 1) (vs ++ [u])) (hsl : SlAt w' (fun b => w.heap.size ≤ b ∧ b ≠ g) u (strs (imgM s.M))) (hf : Fr (p :: v.ownBlock.toList) w w')
    (hor : v = .slice (some ⟨g, 0, none⟩) s.I.length cap ∨ (w.heap.size ≤ g ∧ Fr [p] w w')) :
    ∃ X' Z', PlAt w' X' Z' base p pm pb v0 n0 vs0 { s with I := s.I ++ [imgM s.M] } ∧ (∀ b, X' b → X b ∨ w.heap.size ≤ b) ∧ (∀ b, Z' b → Z b ∨ w.heap.size ≤ b) ∧ FrP X w w' := by
  have hgl := (hown.lt g rfl)
  have hfs := hf.size
  have hXp : ∀ k ∈ p :: v.ownBlock.toList, X k := by
    intro k hk
    rcases List.mem_cons.1 hk with rfl | hk
    · exact h.xs.1
    · cases hv : v.ownBlock with
      | none => rw [hv] at hk; cases hk
      | some q => rw [hv] at hk; simp at hk; subst hk; exact (r3 _ hv).1
  have hgc : X g ∨ w.heap.size ≤ g := by
    rcases hor with rfl | ⟨h1, _⟩
    · exact .inl (r3 g rfl).1
    · exact .inr h1
  have hgn : g ≠ p ∧ g ≠ pm ∧ g ≠ pb := by
    rcases hor with rfl | ⟨h1, _⟩
    · exact (r3 g rfl).2
    · have := h.lt p (.inl h.xs.1); have := h.lt pm (.inl h.xs.2.1); have := h.lt pb (.inl h.xs.2.2); omega
  have hpm : pm ∉ p :: v.ownBlock.toList := by
    intro hm
    rcases List.mem_cons.1 hm with e | hm
    · exact h.ne.1 e.symm
    · cases hv : v.ownBlock with
      | none => rw [hv] at hm; cases hm
      | some q => rw [hv] at hm; simp at hm; subst hm; exact (r3 _ hv).2.2.1 rfl
  have hpb : pb ∉ p :: v.ownBlock.toList := by
    intro hm
    rcases List.mem_cons.1 hm with e | hm
    · exact h.ne.2 e.symm
    · cases hv : v.ownBlock with
      | none => rw [hv] at hm; cases hm
      | some q => rw [hv] at hm; simp at hm; subst hm; exact (r3 _ hv).2.2.2 rfl
  refine ⟨fun b => X b ∨ b = g, fun b => Z b ∨ (w.heap.size ≤ b ∧ b < w'.heap.size ∧ b ≠ g), ⟨h.mem.fr hf hpm hpb, hc0, ⟨_, _, hc1, by simpa using hown, ?_, ?_, ?_⟩, ?_, h.oldx, hfz, ⟨.inl h.xs.1, .inl h.xs.2.1, .inl h.xs.2.2⟩, h.ne, ?_, ?_, h.wf, h.mlen, ?_⟩, ?_, ?_, FrP.of_fr hf (fun k hk => .inl (hXp k hk))⟩
  · intro g' hg'
    have : g = g' := by simpa [Value.ownBlock] using hg'
    subst this
    exact ⟨.inr rfl, hgn⟩
  · intro j l hj
    have hvl : vs.length = s.I.length := by have := r2.1; omega
    rcases Nat.lt_or_ge j s.I.length with hlt | hge
    · simp only [List.getElem?_append_left hlt] at hj
      obtain ⟨u', hu', hs'⟩ := r4 j l hj
      refine ⟨u', by rw [List.getElem?_append_left (by omega)]; exact hu', ?_⟩
      refine (hs'.fr hf (fun b hb hm => ?_)).imp (fun b hb => .inl hb)
      exact h.dis b (hXp b hm) hb
    · simp only [List.getElem?_append_right hge] at hj
      have hj0 : j - s.I.length = 0 := by
        have := (List.getElem?_eq_some_iff.1 hj).1
        simp at this; omega
      rw [hj0] at hj
      simp at hj
      subst hj
      refine ⟨u, by rw [List.getElem?_append_right (by omega), hvl, hj0]; rfl, ?_⟩
      obtain ⟨a, c, rfl, hc, hx⟩ := hsl
      refine ⟨a, c, rfl, hc, fun h0 => ?_⟩
      obtain ⟨b, o, ha, hb, hlt, hcell⟩ := hx h0
      exact ⟨b, o, ha, .inr ⟨hb.1, hlt, hb.2⟩, hlt, hcell⟩
  · intro g1 n1 cap1 e hv0
    injection e with e1 e2 e3
    injection e1 with e1
    injection e1 with e1
    subst e1; subst e3
    rcases hor with rfl | ⟨h1, _⟩
    · obtain ⟨q1, q2, q3⟩ := r5 g _ _ rfl hv0
      refine ⟨q1, by simp; omega, ?_⟩
      have hvl : vs.length = s.I.length := by have := r2.1; omega
      rw [q3, List.take_append_of_le_length (by rw [hvl]; exact q2)]
    · have := (h.old.lt g hv0).2; omega
  · rcases hor with rfl | ⟨h1, h2⟩
    · by_cases hv0 : v0.ownBlock = some g
      · obtain ⟨q1, q2, q3⟩ := r5 g _ _ rfl hv0
        obtain ⟨hl0, h02⟩ := h.old
        obtain ⟨hl1, hown2⟩ := hown
        refine ⟨hl0, .inr ?_⟩
        rcases hown2 with ⟨e, _⟩ | ⟨g', cap', cur', e, hb', hg', hn', hm', hs', ht'⟩
        · cases e
        · injection e with e1 _ e3
          injection e1 with e1
          injection e1 with e1
          subst e1; subst e3
          refine ⟨g, cap, cur', q1, hb', hg', by omega, hm', hs', ?_⟩
          have hvl : vs.length = s.I.length := by have := r2.1; omega
          have e5 : cur'.toList.take (n0 * 1) = (cur'.toList.take ((s.I.length + 1) * 1)).take n0 := by rw [List.take_take]; congr 1; omega
          rw [e5, ht', q3, List.take_append_of_le_length (by omega)]
      · refine ownsRow_fr h.old hf (fun g1 hg1 hm => ?_)
        rcases List.mem_cons.1 hm with e | hm
        · exact (h.oldx g1 hg1).1 e
        · simp [Value.ownBlock] at hm; subst hm; exact hv0 hg1
    · exact ownsRow_fr h.old h2 (fun g1 hg1 => by simpa using (h.oldx g1 hg1).1)
  · intro b hb
    have hb0 := h.base_le
    rcases hb with (hb | rfl) | hb | hb
    · have := h.lt b (.inl hb); omega
    · exact hgl
    · have := h.lt b (.inr hb); omega
    · omega
  · intro b hb hz
    rcases hb with hb | rfl
    · rcases hz with hz | hz
      · exact h.dis b hb hz
      · have := h.lt b (.inl hb); omega
    · rcases hz with hz | hz
      · rcases hgc with hg | hg
        · exact h.dis _ hg hz
        · have := h.lt _ (.inr hz); omega
      · exact hz.2.2 rfl
  · intro l hl
    rcases List.mem_append.1 hl with hl | hl
    · exact h.ilen l hl
    · simp at hl; subst hl; simpa [imgM] using h.mlen
  · rintro b (hb | rfl)
    · exact .inl hb
    · exact hgc
  · rintro b (hb | hb)
    · exact .inl hb
    · exact .inr hb.1

end Go.Proofs.Ytogljlloobjeoaa
