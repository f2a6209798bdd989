/- Contracts of the reference of chapter 22: its lists of sectors' numbers. -/
import Derived.Test.YtogljlloobjeoaaGreatMemA
namespace Go.Proofs.YtogljlloobjeoaaGreat
open Go.RowKit

theorem infoInt : (Tryz.prog.info? 3).map (fun i => (i.zero, i.size, i.bytes)) = some (some (.int .i64 0), 1, 8) := by kernel_rfl
theorem infoStr : (Tryz.prog.info? 9).map (fun i => (i.zero, i.size, i.bytes)) = some (some (.string ByteArray.empty), 1, 16) := by kernel_rfl

set_option maxRecDepth 100000 in
set_option maxHeartbeats 1600000 in
theorem rDirty (w : World) (pm pb : Nat) (M : List Sec) (hM : MemAt w pm pb M) (hn : M.length ≤ 4096) :
    Calls Tryz.prog 111 #[.pointer (some ⟨pm, 0, none⟩)] w fun e w' => ∃ v, e = .returned v ∧ SlAt w' (fun b => w.heap.size ≤ b) v (nats (idxs Sec.dirty M)) ∧ Below w.heap.size w w' := by
  obtain ⟨i0, hi, hz0, hz1, hz2⟩ := info_parts infoInt
  obtain ⟨cap, hc, _⟩ := hM.ptr
  have hlt := hM.lt
  have hltb := hM.arr.lt
  go_enter Tryz.func111, Tryz.ntmps111
  go_wp2
  go_loopw [3, 4] (fun v k wr => ∃ i : Nat, i ≤ M.length ∧ k = .int .i64 (i : Int) ∧ wr.ownsRow w.heap.size 3 1 v (nats (idxs Sec.dirty (M.take i))).length (nats (idxs Sec.dirty (M.take i))) ∧ Below w.heap.size w wr)
    (fun _ k _ => M.length - (intOf k).toNat)
  case atStart => exact ⟨0, Nat.zero_le _, rfl, World.ownsRow_nil _ _ _ _, Below.refl _ _⟩
  case round =>
    obtain ⟨i, hi1, rfl, hown, hB⟩ := hrel
    have hcr : wr.cell? ⟨pm, 0, none⟩ = some (.slice (some ⟨pb, 0, none⟩) M.length cap) := (hB.cell (by exact hlt)).trans hc
    by_cases hlt2 : i < M.length
    · have hs : M[i]? = some M[i] := List.getElem?_eq_getElem hlt2
      have hsec := hM.arr.sec i _ hs
      have hd : wr.cell? ⟨pb, i * 5 + 3, none⟩ = some (.bool (M[i]).dirty) := (hB.cell (by exact hltb)).trans hsec.2.2.2.1
      have hsu := idxs_take_succ Sec.dirty M i _ hs
      have hle : (nats (idxs Sec.dirty (M.take i))).length ≤ 4096 := by
        have := idxs_length_le Sec.dirty (M.take i); simp [nats] at this ⊢; omega
      cases hdd : (M[i]).dirty
      · rw [hdd] at hd hsu
        have hsu' := Lib.hid hsu
        clear hsu hdd hs
        go_wp2
        go_roundw
        case rel => exact ⟨i + 1, by omega, by go_num, by rw [hsu'.out]; simpa using hown, hB⟩
        case measure => simp [intOf]; omega
      · rw [hdd] at hd hsu
        have hsu' := Lib.hid hsu
        clear hsu hdd hs
        go_wp2_with (at_builtin; refine wpList_append_own _ rfl _ _ 41 rfl w.heap.size 3 i0 (.int .i64 0) 1 8 Tryz.underlying41 hi hz0 hz1 hz2 rfl (by decide) _ _ _ rfl (hown.alloc _) ⟨wr.heap.size, 0, none⟩ 1 1 [.int .i64 (i : Int)] rfl rfl (cell_one _ _ _) (oneC_int _) ?c3 ?c4 ?c5 ?_)
        case c3 => unfold maxLen; omega
        case c4 => omega
        case c5 => have := hB.size; simp; omega
        intro v' w1 hown' hgrow _
        have hB' : Below w.heap.size w w1 := (hB.alloc hB.size _).grown hgrow (by have := hB.size; simp; omega) (fun k hk => (hown.lt k hk).1)
        have hown2 : w1.ownsRow w.heap.size 3 1 v' (nats (idxs Sec.dirty (M.take (i + 1)))).length (nats (idxs Sec.dirty (M.take (i + 1)))) := by
          rw [hsu'.out]; simpa [nats] using hown'
        clear hown' hgrow hown hd hcr hB
        go_wp2
        go_roundw
        case rel => exact ⟨i + 1, by omega, by go_num, hown2, hB'⟩
        case measure => simp [intOf]; omega
    · obtain rfl : i = M.length := by omega
      rw [List.take_length] at hown
      go_wp2
      go_ret
      exact ⟨_, rfl, SlAt.of_own hown, hB⟩

end Go.Proofs.YtogljlloobjeoaaGreat
