/- A range over a function, at the wide fence: the law of the library, with the loop's record shown to the caller; the iterator's contract is asked as a premise. Nothing of the program stands here. -/
import Derived.Test.YtogljlloobjeoaaGreatBase
import Derived.RangeFuncNested
import Derived.RangeFuncBound
import Derived.RangeFuncCalls
import Derived.RangeFuncLeaves
import Derived.Shelf.Abstract
import Derived.Shelf.RegionOpen
import Derived.OwnWalkIn
import Derived.TacticsInMore
import Derived.LoopNIn
import Derived.LoopIn
namespace Go.Proofs.YtogljlloobjeoaaGreat
open Go.RowKit Go.Shelf

theorem Fr.putObj {S : List Nat} {w w' : World} (h : Fr S w w') {l : Nat} (hl : l ∈ S ∨ w.heap.size ≤ l) (o : Obj) : Fr S w (w'.putObj l o) :=
  ⟨h.os, h.tape, h.output, by simpa using h.size, fun k hk hn => (World.putObj_heap_other (by rintro rfl; rcases hl with hl | hl; exact hn hl; omega)).trans (h.block k hk hn)⟩
theorem Fr.putOne (w : World) (l : Nat) (o : Obj) : Fr [l] w (w.putObj l o) := (Fr.refl _ _).putObj (by simp) o

/-- How a round may be left: off its end, or by a return. -/
def rfPost (l : Nat) (rec : LoopState → Option Code → Loop) (R : Ending → World → Prop) : Exit → Act → World → Prop
  | .normal, _, W => W.heap[l]? = some (.loop (rec .busy none)) ∧ R (.returned (.bool true)) (W.putObj l (.loop (rec .ready none)))
  | .ret, _, W => W.heap[l]? = some (.loop (rec .busy none)) ∧ R (.returned (.bool false)) (W.putObj l (.loop (rec .done (some .ret))))
  | _, _, _ => False

/-- The body of a round is about to be walked. -/
def AtBody (F : Fence) (n : Nat) (P : Program) (body : Code) (Q : Exit → Act → World → Prop) (a : Act) (w : World) : Prop := body.wpIn F n P Q a w

theorem wpIn_rf {n : Nat} {P : Program} {g : Operand} {ps : Array Tmp} {assign body : Code} {Q : Exit → Act → World → Prop} {a : Act} {w : World}
    {gf : Nat} {lb : Array Value} (hg : a.eval g = .func (.func gf) #[] lb) (eg : ∀ args w, (callFunc gf args).run P w = .ok (.enter gf args) w)
    (hcall : ∀ (rec : LoopState → Option Code → Loop),
      (∀ (W : World) (x : Array Value) (R : Ending → World → Prop), W.heap[w.heap.size + 1]? = some (.loop (rec .ready none)) → x.size = ps.size →
        assign.wpIn (Fence.wide.inRound (w.heap.size + 1)) (n - 1 - 1) P (Exit.then (fun a₁ w₁ => w₁.heap[w.heap.size + 1]? = some (.loop (rec .ready none)) ∧
            AtBody (Fence.wide.inRound (w.heap.size + 1)) (n - 1 - 1) P body (rfPost (w.heap.size + 1) rec R) a₁ (w₁.putObj (w.heap.size + 1) (.loop (rec .busy none)))) (fun _ _ _ => False))
          { tmps := (ps.zip x).foldl (fun t (p, v) => t.setIfInBounds p v) a.tmps, defers := [] } W →
        YieldAt Fence.wide (n - 1 - 1) P (w.heap.size + 1) x W R) →
      CallsIn Fence.wide (n - 1) P gf (#[.func (.yield (w.heap.size + 1)) #[] #[]] ++ lb) ((w.alloc (.deferred (some []))).alloc (.loop (rec .ready none))) fun e W' => (∃ v, e = .returned v) ∧
        ((W'.heap[w.heap.size + 1]? = some (.loop (rec .ready none)) ∧ Q .normal { a with defers := { target := .collected w.heap.size, args := #[] } :: a.defers } (W'.putObj (w.heap.size + 1) (.loop (rec .exhausted none)))) ∨
         (W'.heap[w.heap.size + 1]? = some (.loop (rec .done (some .ret))) ∧ Q .ret { a with defers := { target := .collected w.heap.size, args := #[] } :: a.defers } (W'.putObj (w.heap.size + 1) (.loop (rec .exhausted (some .ret))))))) :
    (Code.rangeFunc g ps assign body).wpIn Fence.wide n P Q a w := by
  refine wpIn_rangeFunc ?_
  intro fn hfn
  obtain ⟨rec, hrec⟩ : ∃ rec : LoopState → Option Code → Loop, rec = fun st pe => { state := st, pending := pe, fn, tmps := a.tmps, params := ps, assign, body, defers := w.heap.size } := ⟨_, rfl⟩
  refine ⟨w.heap.size + 1, [{ target := .collected w.heap.size, args := #[] }], (w.alloc (.deferred (some []))).alloc (.loop (rec .ready none)), { target := .fn (.func gf) lb, args := #[.func (.yield (w.heap.size + 1)) #[] #[]] },
    (w.alloc (.deferred (some []))).alloc (.loop (rec .ready none)), gf, #[.func (.yield (w.heap.size + 1)) #[] #[]] ++ lb, (w.alloc (.deferred (some []))).alloc (.loop (rec .ready none)), ?_, ?_, ?_, ?_, (fun h => by cases h), ?_⟩
  · rw [hrec]; exact run_enterLoop_outer _ _ _ _ _
  · simp only [resolve, hg]
    simp [go_sem]
  · intro f' _; trivial
  · simp [invoke, go_sem, eg]
  · refine (hcall rec ?_).mono ?_
    · intro W x R hl hx h
      have hy := run_yield (P := P) (args := x) hl (by rw [hrec]; exact hx)
      rw [hrec] at hy
      refine ⟨fn, _, assign, body, hy, roundIn_of_wpIn hfn (wpIn_mono h ?_)⟩
      rintro e a1 W1 hq
      cases e with
      | normal =>
        obtain ⟨hl1, hb⟩ := hq
        refine ⟨_, run_beginRound hl1 (by rw [hrec]), ?_⟩
        rw [hrec] at hb
        rw [hrec]
        refine wpIn_mono hb ?_
        rintro e2 a2 W2 hq2
        cases e2 with
        | normal =>
          have := run_endRound (P := P) none hq2.1
          exact ⟨_, _, this, hq2.2⟩
        | ret =>
          have := run_endRound (P := P) (some .ret) hq2.1
          exact ⟨_, _, this, hq2.2⟩
        | exit id => exact hq2.elim
        | goto t => exact hq2.elim
        | panic c => exact hq2.elim
        | outgrown => exact hq2.elim
      | exit id => exact hq.elim
      | goto t => exact hq.elim
      | ret => exact hq.elim
      | panic c => exact hq.elim
      | outgrown => exact hq.elim
    · rintro e W' ⟨⟨v, rfl⟩, (⟨hl, hq⟩ | ⟨hl, hq⟩)⟩
      · have := run_endLoop (P := P) hl (by rw [hrec]; simp)
        rw [hrec] at this hq
        exact ⟨none, _, this, hq⟩
      · have := run_endLoop (P := P) hl (by rw [hrec]; simp)
        rw [hrec] at this hq
        exact ⟨some .ret, _, this, wpIn_ret hq⟩

end Go.Proofs.YtogljlloobjeoaaGreat
