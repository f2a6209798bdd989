/- empty of the laws of chapter 33. -/
import Derived.Test.YtogljlloobjeoaaZSan
namespace Go.Proofs.Ytogljlloobjeoaa
open Go.RowKit
set_option linter.unusedSimpArgs false

/-- Whether a slot shows something else than zero bytes. -/
def emptyB (d : Dv) : Bool := decide (d.dn = true ∨ ∀ x ∈ d.S, x = zero32)

theorem dLd_in {d : Dv} {j : Nat} (h : d.dn = false) (hj : j < d.S.length) : dLdT d j = d.S[j] ∧ dLdE d j = 0 := by
  refine ⟨?_, dLdE_in d j h hj⟩
  unfold dLdT
  rw [if_neg (by simp [h]), if_pos (by omega), Int.toNat_natCast, List.getElem?_eq_getElem hj]; rfl

set_option maxRecDepth 100000 in
set_option maxHeartbeats 4000000 in
theorem zEmpty (w : World) (B : DB) (d : Dv) (h : DevAt w B d) : Calls Try.prog 45 #[.pointer (some ⟨B.d, 0, none⟩)] w fun e w' => e = .returned (.bool (emptyB d)) ∧ Below w.heap.size w w' := by
  have hmk := mk32
  have hcv := cv32
  have h' := Lib.hid h
  have hs1 := h.ok.s1
  clear h
  go_enter Try.func45, Try.ntmps45
  go_wp2_with fail
  go_loopw [3] (fun q wr => ∃ j : Nat, j ≤ 16 ∧ q = .int .i64 (j : Int) ∧ Hid (d.dn = true ∨ ∀ (i : Nat) x, i < j → d.S[i]? = some x → x = zero32) ∧ Below w.heap.size w wr) (fun q _ => 16 - (intOf q).toNat)
  case atStart => exact ⟨0, Nat.zero_le _, rfl, .inr (fun i x hi => by omega), Below.refl _ _⟩
  case round =>
    obtain ⟨j, hj, rfl, hz, hB⟩ := hrel
    by_cases hlt : j < 16
    · have hlti : (j : Int) < 16 := by omega
      have c := dLoad wr B d (h'.out.below hB) j
      by_cases hin : d.dn = false ∧ j < d.S.length
      · obtain ⟨e1, e2⟩ := dLd_in hin.1 hin.2
        rw [e1, e2] at c
        have hget := Lib.hid (List.getElem?_eq_getElem hin.2)
        have hdn := Lib.hid hin.1
        have hinl := Lib.hid hin.2
        generalize hx : d.S[j] = x at *
        have hx' := Lib.hid hx
        clear e1 e2 hin hx
        by_cases hxz : x = zero32
        · have hcmp := beqT hxz
          have hz2 : Hid (d.dn = true ∨ ∀ (i : Nat) x, i < j + 1 → d.S[i]? = some x → x = zero32) := by
            rcases hz.out with h | h
            · exact .inl h
            · refine .inr (fun i y hi hy => ?_)
              by_cases hij : i = j
              · subst hij
                rw [hget.out] at hy
                injection hy with hy
                rw [← hy]; exact hxz
              · exact h i y (by omega) hy
          clear hxz hz hget
          go_wp2_with fail
          refine c.mono ?_
          clear c
          rintro e w' ⟨rfl, rfl⟩
          go_wp2_with fail
          go_roundw
          case rel => exact ⟨j + 1, by omega, by go_num, hz2, hB.alloc hB.size _⟩
          case measure => simp [intOf]; omega
        · have hcmp := beqF hxz
          have hres : emptyB d = false := by
            unfold emptyB
            refine decide_eq_false (fun h => ?_)
            rcases h with h | h
            · rw [hdn.out] at h; cases h
            · exact hxz (h x (by rw [← hx'.out]; exact List.getElem_mem hinl.out))
          have hres' := Lib.hid hres
          clear hxz hz hget hres
          go_wp2_with fail
          refine c.mono ?_
          clear c
          rintro e w' ⟨rfl, rfl⟩
          go_wp2_with fail
          go_ret
          exact ⟨by rw [hres'.out]; rfl, hB.alloc hB.size _⟩
      · have hor : d.dn = true ∨ d.S.length ≤ j := by
          by_cases h : d.dn = true
          · exact .inl h
          · refine .inr (Nat.le_of_not_lt fun k => hin ⟨by simpa using h, k⟩)
        have hne := dLdE_out d j hor
        have hne' : (dLdE d j == 0) = false := by simpa using hne
        have hz2 : Hid (d.dn = true ∨ ∀ (i : Nat) x, i < j + 1 → d.S[i]? = some x → x = zero32) := by
          rcases hz.out with h | h
          · exact .inl h
          · by_cases hdn : d.dn = true
            · exact .inl hdn
            · refine .inr (fun i y hi hy => ?_)
              by_cases hij : i = j
              · subst hij
                exact absurd ⟨by simpa using hdn, (List.getElem?_eq_some_iff.1 hy).1⟩ hin
              · exact h i y (by omega) hy
        clear hne hin hz hor
        go_wp2_with fail
        refine c.mono ?_
        clear c
        rintro e w' ⟨rfl, rfl⟩
        go_wp2_with fail
        go_roundw
        case rel => exact ⟨j + 1, by omega, by go_num, hz2, hB⟩
        case measure => simp [intOf]; omega
    · obtain rfl : j = 16 := by omega
      have hres : emptyB d = true := by
        unfold emptyB
        refine decide_eq_true ?_
        rcases hz.out with h | h
        · exact .inl h
        · refine .inr (fun x hx => ?_)
          obtain ⟨i, hi⟩ := List.getElem?_of_mem hx
          exact h i x (by have := (List.getElem?_eq_some_iff.1 hi).1; omega) hi
      have hres' := Lib.hid hres
      clear hres hz
      go_wp2_with fail
      go_ret
      exact ⟨by rw [hres'.out]; rfl, hB⟩

end Go.Proofs.Ytogljlloobjeoaa
