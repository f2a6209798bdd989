/- Image of both memories. -/
import Derived.Test.YtogljlloobjeoaaGreatRefB
namespace Go.Proofs.YtogljlloobjeoaaGreat
open Go.RowKit

theorem cell_one' (W : World) (n : Nat) (hn : n = W.heap.size) (x : Value) (T : TypeId) : ∀ (j : Nat) (u : Value), [x][j]? = some u → (W.alloc (.cells #[x] T)).cell? ((⟨n, 0, none⟩ : Addr).add j) = some u := by
  subst hn; exact cell_one W x T
theorem imgM_take_succ (M : List Sec) (i : Nat) (s : Sec) (h : M[i]? = some s) : imgM (M.take (i + 1)) = imgM (M.take i) ++ [s.now] := by
  have he : M.take (i + 1) = M.take i ++ [s] := by rw [List.take_add_one, h]; rfl
  unfold imgM; rw [he, List.map_append]; rfl

set_option maxRecDepth 100000 in
set_option maxHeartbeats 1600000 in
theorem rImage (w : World) (pm pb : Nat) (M : List Sec) (hM : MemAt w pm pb M) (hn : M.length ≤ 4096) :
    Calls Tryz.prog 88 #[.pointer (some ⟨pm, 0, none⟩)] w fun e w' => ∃ v, e = .returned v ∧ SlAt w' (fun b => w.heap.size ≤ b) v (strs (imgM M)) ∧ Below w.heap.size w w' := by
  obtain ⟨i0, hi, hz0, hz1, hz2⟩ := info_parts infoStr
  obtain ⟨cap, hc, _⟩ := hM.ptr
  have hlt := hM.lt
  have hltb := hM.arr.lt
  go_enter Tryz.func88, Tryz.ntmps88
  go_wp2
  go_loopw [3, 4] (fun v k wr => ∃ i : Nat, i ≤ M.length ∧ k = .int .i64 (i : Int) ∧ wr.ownsRow w.heap.size 9 1 v i (strs (imgM (M.take i))) ∧ Below w.heap.size w wr)
    (fun _ k _ => M.length - (intOf k).toNat)
  case atStart => exact ⟨0, Nat.zero_le _, rfl, World.ownsRow_nil _ _ _ _, Below.refl _ _⟩
  case round =>
    obtain ⟨i, hi1, rfl, hown, hB⟩ := hrel
    have hcr : wr.cell? ⟨pm, 0, none⟩ = some (.slice (some ⟨pb, 0, none⟩) M.length cap) := (hB.cell (by exact hlt)).trans hc
    by_cases hlt2 : i < M.length
    · have hs : M[i]? = some M[i] := List.getElem?_eq_getElem hlt2
      have hsec := hM.arr.sec i _ hs
      have hd : wr.cell? ⟨pb, i * 5, none⟩ = some (.string (M[i]).now) := (hB.cell (by exact hltb)).trans hsec.1
      have hsu' := Lib.hid (imgM_take_succ M i _ hs)
      clear hs
      go_wp2_with (at_builtin; refine wpList_append_own _ rfl _ _ 36 rfl w.heap.size 9 i0 (.string ByteArray.empty) 1 16 Tryz.underlying36 hi hz0 hz1 hz2 rfl (by decide) _ _ _ rfl (hown.alloc _) ⟨wr.heap.size, 0, none⟩ 1 1 [.string (M[i]).now] rfl rfl (cell_one _ _ _) (oneC_str _) ?c3 ?c4 ?c5 ?_)
      case c3 => unfold maxLen; omega
      case c4 => omega
      case c5 => have := hB.size; simp; omega
      intro v' w1 hown' hgrow _
      have hB' : Below w.heap.size w w1 := (hB.alloc hB.size _).grown hgrow (by have := hB.size; simp; omega) (fun k hk => (hown.lt k hk).1)
      have hown2 : w1.ownsRow w.heap.size 9 1 v' (i + 1) (strs (imgM (M.take (i + 1)))) := by
        rw [hsu'.out]; simpa [strs] using hown'
      clear hown' hgrow hown hd hcr hB
      go_wp2
      go_roundw
      case rel => exact ⟨i + 1, by omega, by go_num, hown2, hB'⟩
      case measure => simp [intOf]; omega
    · obtain rfl : i = M.length := by omega
      rw [List.take_length] at hown
      go_wp2
      go_ret
      exact ⟨_, rfl, SlAt.of_own hown, hB⟩

set_option maxRecDepth 100000 in
set_option maxHeartbeats 1600000 in
theorem mImage (w : World) (pm pb : Nat) (M : List Sec) (hM : MemAt w pm pb M) (hn : M.length ≤ 4096) :
    Calls Tryz.prog 68 #[.pointer (some ⟨pm, 0, none⟩)] w fun e w' => ∃ v, e = .returned v ∧ SlAt w' (fun b => w.heap.size ≤ b) v (strs (imgM M)) ∧ Below w.heap.size w w' := by
  obtain ⟨i0, hi, hz0, hz1, hz2⟩ := info_parts infoStr
  obtain ⟨cap, hc, _⟩ := hM.ptr
  have hlt := hM.lt
  have hltb := hM.arr.lt
  go_enter Tryz.func68, Tryz.ntmps68
  go_wp2
  go_loopw [3, 11] (fun v k wr => ∃ i : Nat, i ≤ M.length ∧ k = .int .i64 (i : Int) ∧ wr.ownsRow w.heap.size 9 1 v i (strs (imgM (M.take i))) ∧ Below w.heap.size w wr)
    (fun _ k _ => M.length - (intOf k).toNat)
  case atStart => exact ⟨0, Nat.zero_le _, rfl, World.ownsRow_nil _ _ _ _, Below.refl _ _⟩
  case round =>
    obtain ⟨i, hi1, rfl, hown, hB⟩ := hrel
    by_cases hlt2 : i < M.length
    · have hs : M[i]? = some M[i] := List.getElem?_eq_getElem hlt2
      obtain ⟨c0, c1, c2, c3, c4⟩ := hM.arr.sec i _ hs
      have d0 := (hB.cell (p := ⟨pb, i * 5, none⟩) hltb).trans c0
      have d1 := (hB.cell (p := ⟨pb, i * 5 + 1, none⟩) hltb).trans c1
      have d2 := (hB.cell (p := ⟨pb, i * 5 + 2, none⟩) hltb).trans c2
      have d3 := (hB.cell (p := ⟨pb, i * 5 + 3, none⟩) hltb).trans c3
      have d4 := (hB.cell (p := ⟨pb, i * 5 + 4, none⟩) hltb).trans c4
      clear c0 c1 c2 c3 c4
      have hsu' := Lib.hid (imgM_take_succ M i _ hs)
      clear hs
      go_wp2_with (at_builtin; refine wpList_append_own _ rfl _ _ 36 rfl w.heap.size 9 i0 (.string ByteArray.empty) 1 16 Tryz.underlying36 hi hz0 hz1 hz2 rfl (by decide) _ _ _ rfl ((hown.alloc _).alloc _) ⟨wr.heap.size + 1, 0, none⟩ 1 1 [.string (M[i]).now] rfl rfl (cell_one' _ _ (by simp) _ _) (oneC_str _) ?c3 ?c4 ?c5 ?_)
      case c3 => unfold maxLen; omega
      case c4 => omega
      case c5 => have := hB.size; simp; omega
      intro v' w1 hown' hgrow _
      have hB' : Below w.heap.size w w1 := ((hB.alloc hB.size _).alloc (by have := hB.size; simp; omega) _).grown hgrow (by have := hB.size; simp; omega) (fun k hk => (hown.lt k hk).1)
      have hown2 : w1.ownsRow w.heap.size 9 1 v' (i + 1) (strs (imgM (M.take (i + 1)))) := by
        rw [hsu'.out]; simpa [strs] using hown'
      clear hown' hgrow hown hB d0 d1 d2 d3 d4
      go_wp2
      go_roundw
      case rel => exact ⟨i + 1, by omega, by go_num, hown2, hB'⟩
      case measure => simp [intOf]; omega
    · obtain rfl : i = M.length := by omega
      rw [List.take_length] at hown
      go_wp2
      go_ret
      exact ⟨_, rfl, SlAt.of_own hown, hB⟩

end Go.Proofs.YtogljlloobjeoaaGreat
