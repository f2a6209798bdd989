/- One player of chapter 22, played along a script. -/
import Derived.Test.YtogljlloobjeoaaSanity
import Derived.Test.YtogljlloobjeoaaScr
namespace Go.Proofs.Ytogljlloobjeoaa
open Go.RowKit

/-- A player that lies above B. -/
def One (w : World) (B p pm pb : Nat) (s : St) : Prop := ∃ X Z, PlAt w X Z B p pm pb (.slice none 0 0) 0 [] s
section
variable {w w' : World} {B p pm pb : Nat} {s : St}
theorem One.fr (h : One w B p pm pb s) (hf : Fr [] w w') : One w' B p pm pb s := by
  obtain ⟨X, Z, h⟩ := h
  exact ⟨X, Z, h.fr0 hf⟩
theorem One.c0 (h : One w B p pm pb s) : w.cell? ⟨p, 0, none⟩ = some (.pointer (some ⟨pm, 0, none⟩)) := by obtain ⟨_, _, h⟩ := h; exact h.c0
theorem One.mem (h : One w B p pm pb s) : MemAt w pm pb s.M := by obtain ⟨_, _, h⟩ := h; exact h.mem
theorem One.mlen (h : One w B p pm pb s) : s.M.length ≤ 4096 := by obtain ⟨_, _, h⟩ := h; exact h.mlen
theorem One.wf (h : One w B p pm pb s) : WFM s.M := by obtain ⟨_, _, h⟩ := h; exact h.wf
theorem One.lp (h : One w B p pm pb s) : B ≤ p ∧ B ≤ pm ∧ B ≤ pb ∧ p < w.heap.size ∧ pm < w.heap.size ∧ pb < w.heap.size ∧ p ≠ pm ∧ p ≠ pb := by
  obtain ⟨_, _, h⟩ := h
  have h1 := h.lt p (.inl h.xs.1)
  have h2 := h.lt pm (.inl h.xs.2.1)
  have h3 := h.lt pb (.inl h.xs.2.2)
  exact ⟨h1.1, h2.1, h3.1, h1.2, h2.2, h3.2, h.ne.1, h.ne.2⟩
/-- Its sectors have turned. -/
theorem One.step (h : One w B p pm pb s) {M' : List Sec} (hM : MemAt w' pm pb M') (hf : Fr [pb] w w') (hwf : WFM M') (hl : M'.length ≤ 4096) : One w' B p pm pb { s with M := M' } := by
  obtain ⟨X, Z, h⟩ := h
  exact ⟨X, Z, h.step hM hf hwf hl⟩
/-- Something else has turned, below B or anew. -/
theorem One.apart {S : List Nat} (h : One w B p pm pb s) (hf : Fr S w w') (hs : ∀ k ∈ S, k < B ∨ w.heap.size ≤ k) : One w' B p pm pb s := by
  obtain ⟨X, Z, h⟩ := h
  refine ⟨X, Z, h.frP (Y := fun b => b < B) (FrP.of_fr hf hs) (fun b hb => ⟨fun hx => ?_, fun hz => ?_⟩) none_own⟩
  · have := (h.lt b (.inl hx)).1; omega
  · have := (h.lt b (.inr hz)).1; omega
end

theorem onePlay (w : World) (B p pm pb : Nat) (s : St) (h : One w B p pm pb s) (hI : s.I.length ≤ 4096) (o : OpT) (pv : Value) (hpv : SlAt w (fun b => b < B) pv (ints o.pk)) (hlen : o.pk.length ≤ maxLen) (hB : B ≤ w.heap.size) :
    Calls Try.prog 22 #[.pointer (some ⟨p, 0, none⟩), .agg #[.int .i64 o.kd, .int .i64 o.i, .int .u8 o.f.toNat, .int .i64 o.sz, pv]] w fun e w' => e = .returned (.int .i64 (playE o s)) ∧ One w' B p pm pb (playS o s) ∧ Below B w w' := by
  obtain ⟨X, Z, h⟩ := h
  refine (mPlay w X Z B p pm pb _ _ _ s h hI o pv hpv hlen).mono ?_
  rintro e w' ⟨rfl, X', Z', hP, _, _, hF⟩
  exact ⟨rfl, ⟨X', Z', hP⟩, hF.below hB (fun k hk => (h.lt k (.inl hk)).1)⟩

theorem onePlayers (w : World) (n : Nat) (h1 : 1 ≤ n) (h2 : n ≤ 64) :
    Calls Try.prog 20 #[.int .i64 n] w fun e w' => ∃ p pm pb q, e = .returned (.tuple #[.pointer (some ⟨p, 0, none⟩), .pointer (some ⟨q, 0, none⟩), .bool true]) ∧ One w' w.heap.size p pm pb ⟨newM n, []⟩ ∧ Below w.heap.size w w' := by
  refine (lPlayers_ok w n h1 h2).mono ?_
  rintro e w' ⟨p, pm, pb, q, qm, qb, rfl, hP, _, _, hB⟩
  exact ⟨p, pm, pb, q, rfl, ⟨_, _, hP⟩, hB⟩

/-- What the sectors are behind a script. -/
theorem runS_WF (ops : List OpT) (s : St) (h : WFM s.M) : WFM (runS ops s).M := by
  unfold runS
  induction ops generalizing s with
  | nil => exact h
  | cons o ops ih =>
    simp only [List.foldl_cons]
    refine ih _ ?_
    unfold playS
    (repeat' split) <;> first | exact h | exact wrM_WF h _ _ | exact flM_WF h | exact cutM_WF h _ | exact stM_WF h _ | exact weM_WF h _ | exact ldM_WF h _

end Go.Proofs.Ytogljlloobjeoaa
