/- The comparisons of two lists. -/
import Derived.Test.YtogljlloobjeoaaGreatImg
namespace Go.Proofs.YtogljlloobjeoaaGreat
open Go.RowKit

theorem toList_inj' {a b : ByteArray} (h : a.toList = b.toList) : a = b := Go.WideShapes.bytes_inj (by rw [← ByteArray.toList_eq, ← ByteArray.toList_eq]; exact h)
theorem beqT {a b : ByteArray} (h : a = b) : (a.toList == b.toList) = true := by rw [h]; exact beq_self_eq_true _
theorem beqF {a b : ByteArray} (h : ¬ a = b) : (a.toList == b.toList) = false := by
  rw [beq_eq_false_iff_ne]; exact fun e => h (toList_inj' e)

set_option maxRecDepth 100000 in
set_option maxHeartbeats 1600000 in
theorem wSameTexts (w : World) (ok1 ok2 : Nat → Prop) (v1 v2 : Value) (xs ys : List ByteArray) (h1 : SlAt w ok1 v1 (strs xs)) (h2 : SlAt w ok2 v2 (strs ys)) (hn : xs.length ≤ 4611686018427387904) :
    Calls Tryz.prog 61 #[v1, v2] w fun e w' => e = .returned (.bool (decide (xs = ys))) ∧ Fr [] w w' := by
  obtain ⟨a1, cap1, rfl, hc1, hx1⟩ := h1
  obtain ⟨a2, cap2, rfl, hc2, hx2⟩ := h2
  have e1 : (strs xs).length = xs.length := by simp [strs]
  have e2 : (strs ys).length = ys.length := by simp [strs]
  rw [e1] at hc1 hx1 ⊢
  rw [e2] at hc2 hx2 ⊢
  clear e1 e2
  by_cases hl : xs.length = ys.length
  · rw [← hl] at hc2 hx2 ⊢
    have hl' := Lib.hid hl
    have hne : ((xs.length : Int) != (xs.length : Int)) = false := by simp
    clear hl
    go_enter Tryz.func61, Tryz.ntmps61
    go_wp2
    go_loopw [5] (fun k wr => ∃ i : Nat, i ≤ xs.length ∧ k = .int .i64 (i : Int) ∧ Hid (∀ j, j < i → xs[j]? = ys[j]?) ∧ Fr [] w wr) (fun k _ => xs.length - (intOf k).toNat)
    case atStart => exact ⟨0, Nat.zero_le _, rfl, fun j hj => absurd hj (Nat.not_lt_zero _), Fr.refl _ _⟩
    case round =>
      obtain ⟨i, hi, rfl, hsame, hfr⟩ := hrel
      by_cases hlt : i < xs.length
      · have hlt2 : i < ys.length := by have := hl'.out; omega
        obtain ⟨b1, o1, rfl, _, hb1, hcell1⟩ := hx1 (by omega)
        obtain ⟨b2, o2, rfl, _, hb2, hcell2⟩ := hx2 (by omega)
        have d1 := (hfr.cell (p := ⟨b1, o1 + i, none⟩) hb1 (by simp)).trans (hcell1 i (.string xs[i]) (by simp [strs, hlt]))
        have d2 := (hfr.cell (p := ⟨b2, o2 + i, none⟩) hb2 (by simp)).trans (hcell2 i (.string ys[i]) (by simp [strs, hlt2]))
        clear hx1 hx2 hcell1 hcell2
        have hlti : (i : Int) < (xs.length : Int) := by omega
        by_cases hxy : xs[i] = ys[i]
        · have hq : (xs[i].toList == ys[i].toList) = true := beqT hxy
          have hs2 : Hid (∀ j, j < i + 1 → xs[j]? = ys[j]?) := fun j hj => by
            rcases Nat.lt_or_ge j i with h | h
            · exact hsame.out j h
            · obtain rfl : j = i := by omega
              rw [List.getElem?_eq_getElem hlt, List.getElem?_eq_getElem hlt2, hxy]
          clear hxy
          go_wp2_with fail
          go_quiet (fail)
          go_wp2
          go_roundw
          case rel => exact ⟨i + 1, by omega, by go_num, hs2, hfr.drewN _⟩
          case measure => simp [intOf]; omega
        · have hq : (xs[i].toList == ys[i].toList) = false := beqF hxy
          have hd : decide (xs = ys) = false := decide_eq_false (fun h => hxy (by simp [h]))
          clear hxy
          have hd' := Lib.hid hd
          clear hd
          go_wp2_with fail
          go_quiet (fail)
          go_wp2
          go_ret
          exact ⟨by rw [hd'.out]; rfl, hfr.drewN _⟩
      · obtain rfl : i = xs.length := by omega
        have hd : decide (xs = ys) = true := decide_eq_true (by
          apply List.ext_getElem?
          intro j
          rcases Nat.lt_or_ge j xs.length with h | h
          · exact hsame.out j h
          · rw [List.getElem?_eq_none h, List.getElem?_eq_none (by have := hl'.out; omega)])
        have hd' := Lib.hid hd
        clear hd
        go_wp2
        go_ret
        exact ⟨by rw [hd'.out]; rfl, hfr⟩
  · have hne : ((xs.length : Int) != (ys.length : Int)) = true := by simp; omega
    have hd : decide (xs = ys) = false := decide_eq_false (fun h => hl (by rw [h]))
    have hd' := Lib.hid hd
    clear hd hl
    go_enter Tryz.func61, Tryz.ntmps61
    go_wp2
    go_ret
    exact ⟨by rw [hd'.out]; rfl, Fr.refl _ _⟩

end Go.Proofs.YtogljlloobjeoaaGreat
