/- The contracts of 'play', for both players. -/
import Derived.Test.YtogljlloobjeoaaPlS
namespace Go.Proofs.Ytogljlloobjeoaa
open Go.RowKit

set_option maxRecDepth 100000 in
theorem mPlay (w : World) (X Z : Nat → Prop) (base p pm pb : Nat) (v0 : Value) (n0 : Nat) (vs0 : List Value) (s : St) (h : PlAt w X Z base p pm pb v0 n0 vs0 s) (hI : s.I.length ≤ 4096) (o : OpT) (pv : Value) (hpv : SlAt w (fun b => b < base) pv (ints o.pk)) (hlen : o.pk.length ≤ maxLen) :
    Calls Try.prog 22 #[.pointer (some ⟨p, 0, none⟩), .agg #[.int .i64 o.kd, .int .i64 o.i, .int .u8 o.f.toNat, .int .i64 o.sz, pv]] w fun e w' => e = .returned (.int .i64 (playE o s)) ∧
      ∃ X' Z', PlAt w' X' Z' base p pm pb v0 n0 vs0 (playS o s) ∧ (∀ b, X' b → X b ∨ w.heap.size ≤ b) ∧ (∀ b, Z' b → Z b ∨ w.heap.size ≤ b) ∧ FrP X w w' := by
  obtain ⟨kd, i, f, sz, pk⟩ := o
  simp only at hpv hlen ⊢
  have hbs := h.base_le
  have hxb : ∀ k ∈ [pb], X k ∨ w.heap.size ≤ k := by intro k hk; simp at hk; subst hk; exact .inl h.xs.2.2
  have fin : ∀ (E : Int) (M' : List Sec), WFM M' → M'.length ≤ 4096 → playE ⟨kd, i, f, sz, pk⟩ s = E → playS ⟨kd, i, f, sz, pk⟩ s = { s with M := M' } →
      ∀ e w', (e = Ending.returned (.int .i64 E) ∧ MemAt w' pm pb M' ∧ Fr [pb] w w') → e = Ending.returned (.int .i64 (playE ⟨kd, i, f, sz, pk⟩ s)) ∧
      ∃ X' Z', PlAt w' X' Z' base p pm pb v0 n0 vs0 (playS ⟨kd, i, f, sz, pk⟩ s) ∧ (∀ b, X' b → X b ∨ w.heap.size ≤ b) ∧ (∀ b, Z' b → Z b ∨ w.heap.size ≤ b) ∧ FrP X w w' := by
    rintro E M' hwf hl hE hS e w' ⟨rfl, hM', hfr⟩
    rw [hE, hS]
    exact ⟨rfl, X, Z, h.step hM' hfr hwf hl, fun b hb => .inl hb, fun b hb => .inl hb, FrP.of_fr hfr hxb⟩
  by_cases h1 : kd = 1
  · subst h1
    exact (mPlay1 w p pm pb s.M h.mem h.mlen h.c0 h.ne.2 i f sz pv).mono (fin _ _ (wrM_WF h.wf _ _) (by rw [wrM_length]; exact h.mlen) rfl rfl)
  by_cases h2 : kd = 2
  · subst h2
    exact (mPlay2 w p pm pb s.M h.mem h.mlen h.c0 h.ne.2 i f sz pv h.wf).mono (fin _ _ (flM_WF h.wf) (by rw [flM_length]; exact h.mlen) rfl rfl)
  by_cases h3 : kd = 3
  · subst h3
    exact (mPlay3 w p pm pb s.M h.mem h.mlen h.c0 h.ne.2 i f sz pv h.wf pk _ hpv hlen (fun b hb => by have hb' : b < base := hb; have := h.lt pb (.inl h.xs.2.2); omega)).mono (fin _ _ (cutM_WF h.wf _) (by rw [cutM_length]; exact h.mlen) rfl rfl)
  by_cases h4 : kd = 4
  · subst h4
    exact (mPlay4 w p pm pb s.M h.mem h.mlen h.c0 h.ne.2 i f sz pv).mono (fin _ _ (stM_WF h.wf _) (by rw [stM_length]; exact h.mlen) rfl rfl)
  by_cases h5 : kd = 5
  · subst h5
    exact (mPlay5 w p pm pb s.M h.mem h.mlen h.c0 h.ne.2 i f sz pv).mono (fin _ _ (weM_WF h.wf _) (by rw [weM_length]; exact h.mlen) rfl rfl)
  by_cases h6 : kd = 6
  · subst h6
    obtain ⟨v, vs, r1, r2, r3, r4, r5⟩ := h.row
    by_cases hin : 0 ≤ i ∧ i < (s.I.length : Int)
    · obtain ⟨k, rfl⟩ : ∃ k : Nat, i = (k : Int) := ⟨i.toNat, by omega⟩
      have hk : k < s.I.length := by omega
      obtain ⟨g, cap, rfl, hbg, hgl⟩ := r2.form (by omega)
      obtain ⟨hl0, hr2⟩ := r2
      rcases hr2 with ⟨e, _⟩ | ⟨g', cap', cur, e, _, hg', hn', hm', hs', ht'⟩
      · cases e
      injection e with e1 _ e3
      injection e1 with e1
      injection e1 with e1
      subst e1; subst e3
      obtain ⟨u, hu, hsu⟩ := r4 k _ (List.getElem?_eq_getElem hk)
      have hcu : w.cell? ⟨g, k, none⟩ = some u := by
        rw [← ht', List.getElem?_take_of_lt (by omega), Array.getElem?_toList] at hu
        simp only [World.cell?, hg']
        exact hu
      have him : imgAt s.I (k : Int) = s.I[k] := by unfold imgAt; simp [hk]
      exact (mPlay6_in w p pm pb s.M h.mem h.mlen h.c0 h.ne.2 k f sz pv g s.I.length cap r1 hn' hk hI u hcu (r3 g rfl).2.2.2 s.I[k] Z hsu (fun b hb e => h.dis pb h.xs.2.2 (e ▸ hb)) (by have := h.ilen _ (List.getElem_mem hk); omega)).mono
        (fin _ _ (ldM_WF h.wf _) (by rw [ldM_length]; exact h.mlen) (by simp only [playE, him]; rfl) (by simp only [playS, him]; rfl))
    · obtain ⟨a, cap, hv⟩ : ∃ a cap, v = .slice a s.I.length cap := by
        rcases r2.2 with ⟨rfl, h0⟩ | ⟨g, cap, cur, rfl, _⟩
        · exact ⟨none, 0, by rw [h0]⟩
        · exact ⟨_, _, rfl⟩
      subst hv
      have him : imgAt s.I i = [] := by
        unfold imgAt
        split
        · rw [List.getElem?_eq_none (by omega)]; rfl
        · rfl
      exact (mPlay6_out w p pm pb s.M h.mem h.mlen h.c0 h.ne.2 i f sz pv a s.I.length cap r1 hI (by omega)).mono
        (fin _ _ (ldM_WF h.wf _) (by rw [ldM_length]; exact h.mlen) (by simp only [playE, him]; rfl) (by simp only [playS, him]; rfl))
  by_cases h7 : kd = 7
  · subst h7
    obtain ⟨v, vs, r1, r2, r3, r4, r5⟩ := h.row
    refine (mPlay7 w p pm pb s.M h.mem h.mlen h.c0 h.ne.2 i f sz pv base v s.I.length vs r1 r2 hbs (fun g hg => (r3 g hg).2.1) hI h.frz).mono ?_
    rintro e w' ⟨rfl, g, cap, u, q1, q2, q3, q4, q5, q6, q7⟩
    exact ⟨rfl, h.grow r1 r2 r3 r4 r5 q1 q2 q3 q4 q5 q6 q7⟩
  · refine (mPlay0 w p pm pb s.M h.mem h.mlen h.c0 h.ne.2 i f sz pv kd (by omega)).mono (fin _ _ h.wf h.mlen ?_ ?_)
    · simp only [playE, h1, h4, h5, h6, if_false]
    · simp only [playS, h1, h2, h3, h4, h5, h6, h7, if_false]

set_option maxRecDepth 100000 in
theorem rPlay (w : World) (X Z : Nat → Prop) (base p pm pb : Nat) (v0 : Value) (n0 : Nat) (vs0 : List Value) (s : St) (h : PlAt w X Z base p pm pb v0 n0 vs0 s) (hI : s.I.length ≤ 4096) (o : OpT) (pv : Value) (hpv : SlAt w (fun b => b < base) pv (ints o.pk)) (hlen : o.pk.length ≤ maxLen) :
    Calls Try.prog 23 #[.pointer (some ⟨p, 0, none⟩), .agg #[.int .i64 o.kd, .int .i64 o.i, .int .u8 o.f.toNat, .int .i64 o.sz, pv]] w fun e w' => e = .returned (.int .i64 (playE o s)) ∧
      ∃ X' Z', PlAt w' X' Z' base p pm pb v0 n0 vs0 (playS o s) ∧ (∀ b, X' b → X b ∨ w.heap.size ≤ b) ∧ (∀ b, Z' b → Z b ∨ w.heap.size ≤ b) ∧ FrP X w w' := by
  obtain ⟨kd, i, f, sz, pk⟩ := o
  simp only at hpv hlen ⊢
  have hbs := h.base_le
  have hxb : ∀ k ∈ [pb], X k ∨ w.heap.size ≤ k := by intro k hk; simp at hk; subst hk; exact .inl h.xs.2.2
  have fin : ∀ (E : Int) (M' : List Sec), WFM M' → M'.length ≤ 4096 → playE ⟨kd, i, f, sz, pk⟩ s = E → playS ⟨kd, i, f, sz, pk⟩ s = { s with M := M' } →
      ∀ e w', (e = Ending.returned (.int .i64 E) ∧ MemAt w' pm pb M' ∧ Fr [pb] w w') → e = Ending.returned (.int .i64 (playE ⟨kd, i, f, sz, pk⟩ s)) ∧
      ∃ X' Z', PlAt w' X' Z' base p pm pb v0 n0 vs0 (playS ⟨kd, i, f, sz, pk⟩ s) ∧ (∀ b, X' b → X b ∨ w.heap.size ≤ b) ∧ (∀ b, Z' b → Z b ∨ w.heap.size ≤ b) ∧ FrP X w w' := by
    rintro E M' hwf hl hE hS e w' ⟨rfl, hM', hfr⟩
    rw [hE, hS]
    exact ⟨rfl, X, Z, h.step hM' hfr hwf hl, fun b hb => .inl hb, fun b hb => .inl hb, FrP.of_fr hfr hxb⟩
  by_cases h1 : kd = 1
  · subst h1
    exact (rPlay1 w p pm pb s.M h.mem h.mlen h.c0 h.ne.2 i f sz pv).mono (fin _ _ (wrM_WF h.wf _ _) (by rw [wrM_length]; exact h.mlen) rfl rfl)
  by_cases h2 : kd = 2
  · subst h2
    exact (rPlay2 w p pm pb s.M h.mem h.mlen h.c0 h.ne.2 i f sz pv h.wf).mono (fin _ _ (flM_WF h.wf) (by rw [flM_length]; exact h.mlen) rfl rfl)
  by_cases h3 : kd = 3
  · subst h3
    exact (rPlay3 w p pm pb s.M h.mem h.mlen h.c0 h.ne.2 i f sz pv h.wf pk _ hpv hlen (fun b hb => by have hb' : b < base := hb; have := h.lt pb (.inl h.xs.2.2); omega)).mono (fin _ _ (cutM_WF h.wf _) (by rw [cutM_length]; exact h.mlen) rfl rfl)
  by_cases h4 : kd = 4
  · subst h4
    exact (rPlay4 w p pm pb s.M h.mem h.mlen h.c0 h.ne.2 i f sz pv).mono (fin _ _ (stM_WF h.wf _) (by rw [stM_length]; exact h.mlen) rfl rfl)
  by_cases h5 : kd = 5
  · subst h5
    exact (rPlay5 w p pm pb s.M h.mem h.mlen h.c0 h.ne.2 i f sz pv).mono (fin _ _ (weM_WF h.wf _) (by rw [weM_length]; exact h.mlen) rfl rfl)
  by_cases h6 : kd = 6
  · subst h6
    obtain ⟨v, vs, r1, r2, r3, r4, r5⟩ := h.row
    by_cases hin : 0 ≤ i ∧ i < (s.I.length : Int)
    · obtain ⟨k, rfl⟩ : ∃ k : Nat, i = (k : Int) := ⟨i.toNat, by omega⟩
      have hk : k < s.I.length := by omega
      obtain ⟨g, cap, rfl, hbg, hgl⟩ := r2.form (by omega)
      obtain ⟨hl0, hr2⟩ := r2
      rcases hr2 with ⟨e, _⟩ | ⟨g', cap', cur, e, _, hg', hn', hm', hs', ht'⟩
      · cases e
      injection e with e1 _ e3
      injection e1 with e1
      injection e1 with e1
      subst e1; subst e3
      obtain ⟨u, hu, hsu⟩ := r4 k _ (List.getElem?_eq_getElem hk)
      have hcu : w.cell? ⟨g, k, none⟩ = some u := by
        rw [← ht', List.getElem?_take_of_lt (by omega), Array.getElem?_toList] at hu
        simp only [World.cell?, hg']
        exact hu
      have him : imgAt s.I (k : Int) = s.I[k] := by unfold imgAt; simp [hk]
      exact (rPlay6_in w p pm pb s.M h.mem h.mlen h.c0 h.ne.2 k f sz pv g s.I.length cap r1 hn' hk hI u hcu (r3 g rfl).2.2.2 s.I[k] Z hsu (fun b hb e => h.dis pb h.xs.2.2 (e ▸ hb)) (by have := h.ilen _ (List.getElem_mem hk); omega)).mono
        (fin _ _ (ldM_WF h.wf _) (by rw [ldM_length]; exact h.mlen) (by simp only [playE, him]; rfl) (by simp only [playS, him]; rfl))
    · obtain ⟨a, cap, hv⟩ : ∃ a cap, v = .slice a s.I.length cap := by
        rcases r2.2 with ⟨rfl, h0⟩ | ⟨g, cap, cur, rfl, _⟩
        · exact ⟨none, 0, by rw [h0]⟩
        · exact ⟨_, _, rfl⟩
      subst hv
      have him : imgAt s.I i = [] := by
        unfold imgAt
        split
        · rw [List.getElem?_eq_none (by omega)]; rfl
        · rfl
      exact (rPlay6_out w p pm pb s.M h.mem h.mlen h.c0 h.ne.2 i f sz pv a s.I.length cap r1 hI (by omega)).mono
        (fin _ _ (ldM_WF h.wf _) (by rw [ldM_length]; exact h.mlen) (by simp only [playE, him]; rfl) (by simp only [playS, him]; rfl))
  by_cases h7 : kd = 7
  · subst h7
    obtain ⟨v, vs, r1, r2, r3, r4, r5⟩ := h.row
    refine (rPlay7 w p pm pb s.M h.mem h.mlen h.c0 h.ne.2 i f sz pv base v s.I.length vs r1 r2 hbs (fun g hg => (r3 g hg).2.1) hI h.frz).mono ?_
    rintro e w' ⟨rfl, g, cap, u, q1, q2, q3, q4, q5, q6, q7⟩
    exact ⟨rfl, h.grow r1 r2 r3 r4 r5 q1 q2 q3 q4 q5 q6 q7⟩
  · refine (rPlay0 w p pm pb s.M h.mem h.mlen h.c0 h.ne.2 i f sz pv kd (by omega)).mono (fin _ _ h.wf h.mlen ?_ ?_)
    · simp only [playE, h1, h4, h5, h6, if_false]
    · simp only [playS, h1, h2, h3, h4, h5, h6, h7, if_false]

end Go.Proofs.Ytogljlloobjeoaa
