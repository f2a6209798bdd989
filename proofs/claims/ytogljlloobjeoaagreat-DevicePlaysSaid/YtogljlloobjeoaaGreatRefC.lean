/- Load of the reference of chapter 22. -/
import Derived.Test.YtogljlloobjeoaaGreatLoad
namespace Go.Proofs.YtogljlloobjeoaaGreat
open Go.RowKit

set_option maxRecDepth 100000 in
set_option maxHeartbeats 2000000 in
theorem rLoad_w (w : World) (pm pb : Nat) (ok : Nat → Prop) (M : List Sec) (hM : MemAt w pm pb M) (hnM : M.length ≤ 4096) (v : Value) (l : List ByteArray) (hl : SlAt w ok v (strs l)) (hok : ∀ b, ok b → b ≠ pb) (ho : Hid (okImg M l)) :
    Calls Tryz.prog 89 #[.pointer (some ⟨pm, 0, none⟩), v] w fun e w' => e = .returned (.int .i64 0) ∧ MemAt w' pm pb (ldM M l) ∧ Fr [pb] w w' := by
  obtain ⟨a1, cap1, rfl, hc1, hx1⟩ := hl
  have e1 : (strs l).length = M.length := by simp [strs]; exact ho.out.1
  rw [e1] at hc1 hx1 ⊢
  clear e1
  obtain ⟨cap, hc, hcap⟩ := hM.ptr
  have hne : ((M.length : Int) != (M.length : Int)) = false := by simp
  go_enter Tryz.func89, Tryz.ntmps89
  go_wp2
  go_loop [5] (fun k => ∃ i : Nat, i ≤ M.length ∧ k = .int .i64 (i : Int)) (fun k => M.length - (intOf k).toNat)
  case atStart => exact ⟨0, Nat.zero_le _, rfl⟩
  case round =>
    obtain ⟨i, hi, rfl⟩ := hrel
    by_cases hlt : i < M.length
    · obtain ⟨b1, o1, rfl, _, hb1, hcell1⟩ := hx1 (by omega)
      have hlt2 : i < l.length := by have := ho.out.1; omega
      have d1 := hcell1 i (.string l[i]) (by simp [strs, hlt2])
      have hsz : ((l[i].size : Int) != 64) = false := by
        have := ho.out.2 l[i] (List.getElem_mem hlt2); simp [this]
      clear hx1 hcell1
      go_wp2
      go_round
      case rel => exact ⟨i + 1, by omega, by go_num⟩
      case measure => simp [intOf]; omega
    · obtain rfl : i = M.length := by omega
      clear hi hlt
      go_wp2
      go_loopw [6] (fun k wr => ∃ i : Nat, i ≤ M.length ∧ k = .int .i64 (i : Int) ∧ MemAt wr pm pb (ldPart l M i) ∧ Fr [pb] w wr) (fun k _ => M.length - (intOf k).toNat)
      case atStart => exact ⟨0, Nat.zero_le _, rfl, by rw [ldPart_zero]; exact hM, Fr.refl _ _⟩
      case round =>
        obtain ⟨i, hi, rfl, hMi, hfr⟩ := hrel
        by_cases hlt : i < M.length
        · obtain ⟨b1, o1, rfl, hob, hb1, hcell1⟩ := hx1 (by omega)
          have hlt2 : i < l.length := by have := ho.out.1; omega
          have d1 := (hfr.cell (p := ⟨b1, o1 + i, none⟩) hb1 (by have := hok b1 hob; simpa using this)).trans (hcell1 i (.string l[i]) (by simp [strs, hlt2]))
          have hs : M[i]? = some M[i] := List.getElem?_eq_getElem hlt
          obtain ⟨capi, hci, _⟩ := hMi.ptr
          rw [ldPart_length] at hci
          obtain ⟨c0, c1, c2, c3, c4⟩ := hMi.arr.sec i M[i] (by rw [ldPart_here]; exact hs)
          have f0 := hMi.arr.frz (i * 5)
          have f1 := hMi.arr.frz (i * 5 + 1)
          have f2 := hMi.arr.frz (i * 5 + 2)
          have f3 := hMi.arr.frz (i * 5 + 3)
          have f4 := hMi.arr.frz (i * 5 + 4)
          have hlti : (i : Int) < (M.length : Int) := by omega
          clear hx1 hcell1
          have hs' := Lib.hid hs
          clear hs
          go_wp2_with fail
          go_region
          have hM2 := hMi.laid (by rw [ldPart_here]; exact hs'.out) l[i]
          rw [← ldPart_succ l M i _ hs'.out _ (List.getElem?_eq_getElem hlt2)] at hM2
          have hfr2 : Fr [pb] w ((((((wr.setCell ⟨pb, i * 5, none⟩ (.string l[i])).setCell ⟨pb, i * 5 + 1, none⟩ (.string l[i])).setCell ⟨pb, i * 5 + 2, none⟩ (.string ⟨#[]⟩)).setCell ⟨pb, i * 5 + 3, none⟩ (.bool false)).setCell ⟨pb, i * 5 + 4, none⟩ (.bool M[i].worn)).drew) :=
            (((((hfr.setCell (by simp) _).setCell (by simp) _).setCell (by simp) _).setCell (by simp) _).setCell (by simp) _).drew
          clear c0 c1 c2 c3 c4 f0 f1 f2 f3 f4 hci d1
          go_wp2
          go_roundw
          case rel => exact ⟨i + 1, by omega, by go_num, hM2, hfr2⟩
          case measure => simp [intOf]; omega
        · obtain rfl : i = M.length := by omega
          rw [ldPart_all l M ho.out] at hMi
          go_wp2
          go_ret
          exact ⟨rfl, hMi, hfr⟩

set_option maxRecDepth 100000 in
set_option maxHeartbeats 2000000 in
theorem rLoad_no (w : World) (pm pb : Nat) (ok : Nat → Prop) (M : List Sec) (hM : MemAt w pm pb M) (hnM : M.length ≤ 4096) (v : Value) (l : List ByteArray) (hl : SlAt w ok v (strs l)) (_hn : l.length ≤ 4611686018427387904) (ho : Hid (¬ okImg M l)) :
    Calls Tryz.prog 89 #[.pointer (some ⟨pm, 0, none⟩), v] w fun e w' => e = .returned (.int .i64 1) ∧ w = w' := by
  obtain ⟨cap, hc, hcap⟩ := hM.ptr
  obtain ⟨a1, cap1, rfl, hc1, hx1⟩ := hl
  have e1 : (strs l).length = l.length := by simp [strs]
  by_cases he : l.length = M.length
  · rw [e1.trans he] at hc1 hx1 ⊢
    have hne : ((M.length : Int) != (M.length : Int)) = false := by simp
    have he' := Lib.hid he
    clear he e1
    go_enter Tryz.func89, Tryz.ntmps89
    go_wp2
    go_loop [5] (fun k => ∃ i : Nat, i ≤ M.length ∧ k = .int .i64 (i : Int) ∧ Hid (∀ j x, j < i → l[j]? = some x → x.size = 64)) (fun k => M.length - (intOf k).toNat)
    case atStart => exact ⟨0, Nat.zero_le _, rfl, fun j x hj => absurd hj (Nat.not_lt_zero _)⟩
    case round =>
      obtain ⟨i, hi, rfl, hpre⟩ := hrel
      by_cases hlt : i < M.length
      · obtain ⟨b1, o1, rfl, _, hb1, hcell1⟩ := hx1 (by omega)
        have hlt2 : i < l.length := by have := he'.out; omega
        have d1 := hcell1 i (.string l[i]) (by simp [strs, hlt2])
        clear hx1 hcell1
        by_cases hq : l[i].size = 64
        · have hsz : ((l[i].size : Int) != 64) = false := by simp [hq]
          have hp2 : Hid (∀ j x, j < i + 1 → l[j]? = some x → x.size = 64) := fun j x hj hx => by
            rcases Nat.lt_or_ge j i with h | h
            · exact hpre.out j x h hx
            · obtain rfl : j = i := by omega
              rw [List.getElem?_eq_getElem hlt2] at hx
              cases hx; exact hq
          clear hq
          go_wp2
          go_round
          case rel => exact ⟨i + 1, by omega, by go_num, hp2⟩
          case measure => simp [intOf]; omega
        · have hsz : ((l[i].size : Int) != 64) = true := by simp; omega
          clear hq
          go_wp2
          go_ret
          exact ⟨rfl, rfl⟩
      · exfalso
        refine ho.out ⟨he'.out, fun x hx => ?_⟩
        obtain ⟨j, hj⟩ := List.getElem?_of_mem hx
        exact hpre.out j x (by have := (List.getElem?_eq_some_iff.1 hj).1; have := he'.out; omega) hj
  · rw [e1]
    have hne : ((l.length : Int) != (M.length : Int)) = true := by simp; omega
    clear hx1 e1 he
    go_enter Tryz.func89, Tryz.ntmps89
    go_wp2
    go_ret
    exact ⟨rfl, rfl⟩

/-- Load. -/
theorem rLoad (w : World) (pm pb : Nat) (ok : Nat → Prop) (M : List Sec) (hM : MemAt w pm pb M) (hnM : M.length ≤ 4096) (v : Value) (l : List ByteArray) (hl : SlAt w ok v (strs l)) (hn : l.length ≤ 4611686018427387904) (hok : ∀ b, ok b → b ≠ pb) :
    Calls Tryz.prog 89 #[.pointer (some ⟨pm, 0, none⟩), v] w fun e w' => e = .returned (.int .i64 (ldE M l)) ∧ MemAt w' pm pb (ldM M l) ∧ Fr [pb] w w' := by
  by_cases ho : okImg M l
  · have : ldE M l = 0 := if_pos ho
    rw [this]
    exact rLoad_w w pm pb ok M hM hnM v l hl hok ho
  · have h1 : ldE M l = 1 := if_neg ho
    have h2 : ldM M l = M := if_neg ho
    rw [h1, h2]
    refine (rLoad_no w pm pb ok M hM hnM v l hl hn ho).mono ?_
    rintro e w' ⟨rfl, rfl⟩
    exact ⟨rfl, hM, Fr.refl _ _⟩

end Go.Proofs.YtogljlloobjeoaaGreat
