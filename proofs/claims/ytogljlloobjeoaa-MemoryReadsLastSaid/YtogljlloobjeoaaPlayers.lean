/- The players of chapter 22 are made; a memory is as specified. -/
import Derived.Test.YtogljlloobjeoaaPlay
import Derived.Test.YtogljlloobjeoaaSame
import Derived.Test.YtogljlloobjeoaaNewR
namespace Go.Proofs.Ytogljlloobjeoaa
open Go.RowKit

theorem frozen_new2 (w : World) (a b : Value) (T : TypeId) : ∀ o, (w.alloc (.cells #[a, b] T)).frozen? ⟨w.heap.size, o, none⟩ = false := fun o => by simp

/-- A player that has just been made. -/
theorem PlAt.new {w : World} {p pm pb base : Nat} {M : List Sec} (hM : MemAt w pm pb M) (h0 : w.cell? ⟨p, 0, none⟩ = some (.pointer (some ⟨pm, 0, none⟩))) (h1 : w.cell? ⟨p, 1, none⟩ = some (.slice none 0 0)) (hf : ∀ o, w.frozen? ⟨p, o, none⟩ = false)
    (hne : p ≠ pm ∧ p ≠ pb) (hb : base ≤ p ∧ base ≤ pm ∧ base ≤ pb) (hwf : WFM M) (hl : M.length ≤ 4096) : PlAt w (fun b => b = p ∨ b = pm ∨ b = pb) (fun _ => False) base p pm pb (.slice none 0 0) 0 [] ⟨M, []⟩ :=
  ⟨hM, h0, ⟨_, [], h1, World.ownsRow_nil _ _ _ _, fun g hg => by simp [Value.ownBlock] at hg, fun j l hj => by simp at hj, Old.none _ _ _⟩, World.ownsRow_nil _ _ _ _, fun g hg => by simp [Value.ownBlock] at hg, hf, ⟨.inl rfl, .inr (.inl rfl), .inr (.inr rfl)⟩, hne,
    fun b hb' => by
      have e0 : p < w.heap.size := World.block_lt_of_cell? _ _ h0
      have e1 : pm < w.heap.size := hM.lt
      have e2 : pb < w.heap.size := hM.arr.lt
      rcases hb' with (rfl | rfl | rfl) | h
      · omega
      · omega
      · omega
      · exact h.elim,
    fun _ _ h => h, hwf, hl, fun l hl => by simp at hl⟩

set_option maxRecDepth 100000 in
set_option maxHeartbeats 1600000 in
theorem lPlayers_bad (w : World) (n : Int) (h : n < 1 ∨ 64 < n) :
    Calls Try.prog 20 #[.int .i64 n] w fun e w' => e = .returned (.tuple #[.pointer none, .pointer none, .bool false]) ∧ Below w.heap.size w w' := by
  by_cases hbad : n < 1 ∨ 4096 < n
  · have hm := mNew_bad w n hbad
    have hr := rNew_bad w n hbad
    have hd : (decide (64 < n) || true) = true := by simp
    clear hbad
    go_enter Try.func20, Try.ntmps20
    go_wp2_with (first | (go_at_call 18; refine hm.mono ?_; rintro e w' ⟨rfl, rfl⟩) | (go_at_call 21; refine hr.mono ?_; rintro e w' ⟨rfl, rfl⟩))
    all_goals
      go_ret3
      exact ⟨rfl, Below.refl _ _⟩
  · obtain ⟨k, rfl⟩ : ∃ k : Nat, n = (k : Int) := ⟨n.toNat, by omega⟩
    have hk : (64 : Int) < (k : Int) := by omega
    have hm := mNew_ok w k (by omega) (by omega)
    have hr := fun w => rNew_ok w k (by omega) (by omega)
    clear hbad h
    go_enter Try.func20, Try.ntmps20
    go_wp2_with (first | (go_at_call 18; refine hm.mono ?_; rintro e w1 ⟨pm, pb, rfl, hM1, hpm, hpb, hB1⟩) | (go_at_call 21; refine (hr _).mono ?_; rintro e w2 ⟨qm, qb, rfl, hM2, hqm, hqb, hB2⟩))
    all_goals
      go_ret3
      exact ⟨rfl, hB1.trans (hB2.mono hB1.size)⟩

set_option maxRecDepth 100000 in
set_option maxHeartbeats 1600000 in
theorem lPlayers_ok (w : World) (n : Nat) (h1 : 1 ≤ n) (h2 : n ≤ 64) :
    Calls Try.prog 20 #[.int .i64 n] w fun e w' => ∃ p pm pb q qm qb, e = .returned (.tuple #[.pointer (some ⟨p, 0, none⟩), .pointer (some ⟨q, 0, none⟩), .bool true]) ∧
      PlAt w' (fun b => b = p ∨ b = pm ∨ b = pb) (fun _ => False) w.heap.size p pm pb (.slice none 0 0) 0 [] ⟨newM n, []⟩ ∧ PlAt w' (fun b => b = q ∨ b = qm ∨ b = qb) (fun _ => False) w.heap.size q qm qb (.slice none 0 0) 0 [] ⟨newM n, []⟩ ∧
      (∀ b, (b = p ∨ b = pm ∨ b = pb) → ¬ (b = q ∨ b = qm ∨ b = qb)) ∧ Below w.heap.size w w' := by
  have hk : (n : Int) ≤ 64 := by omega
  have hm := mNew_ok w n (by omega) (by omega)
  have hr := fun w => rNew_ok w n (by omega) (by omega)
  go_enter Try.func20, Try.ntmps20
  go_wp2_with (first | (go_at_call 18; refine hm.mono ?_; rintro e w1 ⟨pm, pb, rfl, hM1, hpm, hpb, hB1⟩) | (go_at_call 21; refine (hr _).mono ?_; rintro e w2 ⟨qm, qb, rfl, hM2, hqm, hqb, hB2⟩))
  have hs1 := hB1.size
  have hs2 := hB2.size
  have l1 := hM1.lt
  have l2 := hM1.arr.lt
  have l3 := hM2.lt
  have l4 := hM2.arr.lt
  have hf2 : Fr [] w2 ((w2.alloc (.cells #[.pointer (some ⟨pm, 0, none⟩), .slice none 0 0] 42)).alloc (.cells #[.pointer (some ⟨qm, 0, none⟩), .slice none 0 0] 44)) := ((Fr.refl _ _).alloc _).alloc _
  have hM1' := (hM1.fr (S := []) (Fr.of_below hB2) (by simp) (by simp)).fr hf2 (by simp) (by simp)
  have hM2' := hM2.fr hf2 (by simp) (by simp)
  have hwf := newM_WF n
  have hnl : (newM n).length ≤ 4096 := by simp [newM]; omega
  have hB3 : Below w.heap.size w ((w2.alloc (.cells #[.pointer (some ⟨pm, 0, none⟩), .slice none 0 0] 42)).alloc (.cells #[.pointer (some ⟨qm, 0, none⟩), .slice none 0 0] 44)) := ((hB1.trans (hB2.mono hs1)).alloc (by omega) _).alloc (by simp; omega) _
  go_ret3
  refine ⟨w2.heap.size, pm, pb, w2.heap.size + 1, qm, qb, rfl, PlAt.new hM1' (by simp [World.cell?_alloc_lt]) (by simp [World.cell?_alloc_lt]) (fun o => by simp) (by omega) (by omega) hwf hnl, PlAt.new hM2' ?_ ?_ ?_ (by omega) (by omega) hwf hnl, ?_, hB3⟩
  · exact World.cell?_alloc_at _ _ _ _ (by simp)
  · exact World.cell?_alloc_at _ _ _ _ (by simp)
  · exact fun o => World.frozen?_alloc_at _ _ _ _ (by simp)
  · omega

end Go.Proofs.Ytogljlloobjeoaa
