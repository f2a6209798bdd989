/- Package zero: Begin, Left. -/
import Derived.Test.YtogljlloobjeoaaZD
import Derived.Test.YtogljlloobjeoaaSame
namespace Go.Proofs.Ytogljlloobjeoaa
open Go.RowKit

attribute [local go_sem] Oper.semAt_some

set_option maxHeartbeats 800000 in
theorem zBegin (w : World) (B : DB) (d : Dv) (h : DevAt w B d) : Calls Try.prog 40 #[.pointer (some ⟨B.d, 0, none⟩)] w fun e w' => e = .returned (.int .i64 (beginZ d).1) ∧ DevAt w' B (beginZ d).2 ∧ Fr B.l w w' := by
  have kb := dBurn w B d h 0
  by_cases h0 : stpE d (buC d 0) = 0
  · have e0 : beginZ d = resume (dBu d 0) := if_pos h0
    rw [e0]
    rw [h0] at kb
    clear h0 e0
    go_enter Try.func40, Try.ntmps40
    go_wp2_with fail
    refine kb.mono ?_
    rintro e w1 ⟨rfl, hD1, hF1⟩
    go_wp2_with fail
    refine (zResume w1 B _ hD1).mono ?_
    rintro e w2 ⟨rfl, hD2, hF2⟩
    go_wp2_with fail
    go_ret
    exact ⟨rfl, hD2, hF1.trans hF2⟩
  · have e0 : beginZ d = (stpE d (buC d 0), dBu d 0) := if_neg h0
    rw [e0]
    have h0' : (stpE d (buC d 0) == 0) = false := by simpa using h0
    clear h0 e0
    go_enter Try.func40, Try.ntmps40
    go_wp2_with fail
    refine kb.mono ?_
    rintro e w1 ⟨rfl, hD1, hF1⟩
    go_wp2_with fail
    go_ret
    exact ⟨rfl, hD1, hF1⟩

/-! ### Left -/
theorem leftFrom_snoc (x : ByteArray) : ∀ (l : List ByteArray) (k : Nat), leftFrom k (l ++ [x]) = leftFrom k l ++ (if x = zero64 then [] else [k + l.length]) := by
  intro l
  induction l with
  | nil => intro k; by_cases h : x = zero64 <;> simp [leftFrom, h]
  | cons y l ih =>
    intro k
    simp only [List.cons_append, leftFrom]
    rw [ih (k + 1)]
    have e : k + 1 + l.length = k + (y :: l).length := by simp; omega
    rw [e]
    split <;> simp
theorem leftFrom_take (l : List ByteArray) (j : Nat) (h : j < l.length) : leftFrom 0 (l.take (j + 1)) = leftFrom 0 (l.take j) ++ (if l[j] = zero64 then [] else [j]) := by
  rw [List.take_succ_eq_append_getElem h, leftFrom_snoc, List.length_take_of_le (by omega), Nat.zero_add]
theorem leftFrom_len : ∀ (l : List ByteArray) (k : Nat), (leftFrom k l).length ≤ l.length := by
  intro l
  induction l with
  | nil => intro k; simp [leftFrom]
  | cons y l ih =>
    intro k
    simp only [leftFrom]
    have := ih (k + 1)
    split <;> simp <;> omega
theorem zEmptySector_x (w : World) : Calls Try.prog 101 #[] w fun e w' => e = .returned (.string zero64) ∧ w.alloc (.cells (tArr 0 64 0) 5) = w' := by
  have hmk := mk64
  have hcv := cv64
  go_enter Try.func101, Try.ntmps101
  go_wp2
  go_ret
  exact ⟨rfl, rfl⟩
theorem SlAt.ok {w : World} {ok ok' : Nat → Prop} {v : Value} {xs : List Value} (h : SlAt w ok v xs) (hk : ∀ b, ok b → ok' b) : SlAt w ok' v xs := by
  obtain ⟨a, c, e1, e2, e3⟩ := h
  exact ⟨a, c, e1, e2, fun h0 => by obtain ⟨b, o, f1, f2, f3⟩ := e3 h0; exact ⟨b, o, f1, hk b f2, f3⟩⟩
def natInts (l : List Nat) : List Value := l.map (fun (i : Nat) => .int .i64 (i : Int))

set_option maxRecDepth 100000 in
set_option maxHeartbeats 1600000 in
theorem zLeft_c (w : World) (B : DB) (d : Dv) (h : DevAt w B d) : Calls Try.prog 46 #[.pointer (some ⟨B.d, 0, none⟩)] w fun e w' => ∃ v, e = .returned v ∧ SlAt w' (fun b => w.heap.size ≤ b) v (natInts (zLeft d)) ∧ Below w.heap.size w w' := by
  obtain ⟨i0, hi, hz0, hz1, hz2⟩ := info_parts infoInt
  have hm1 := h.ok.m1
  have hm0 := h.ok.m0
  have ki := dImage w B d h
  have hli : (imgM d.M).length = d.M.length := by simp [imgM]
  unfold zLeft
  obtain ⟨img, himg⟩ : ∃ img, imgM d.M = img := ⟨_, rfl⟩
  rw [himg] at ki hli ⊢
  obtain ⟨n, hn⟩ : ∃ n, d.M.length = n := ⟨_, rfl⟩
  rw [hn] at hm1 hm0 hli
  clear himg hn h
  go_enter Try.func46, Try.ntmps46
  go_wp2_with fail
  refine ki.mono ?_
  rintro e w1 ⟨v1, rfl, ⟨a1, c1, rfl, hc1, hx1⟩, hB1⟩
  have hlen : (strs img).length = n := by simp [strs, hli]
  rw [hlen] at hx1 hc1 ⊢
  obtain ⟨b1, o1, rfl, hb1, hbl, hx1⟩ := hx1 hm0
  clear hlen ki
  go_wp2_with fail
  go_loopw [2, 8] (fun v k wr => ∃ i : Nat, i ≤ n ∧ k = .int .i64 (i : Int) ∧ wr.ownsRow w1.heap.size 3 1 v (leftFrom 0 (img.take i)).length (natInts (leftFrom 0 (img.take i))) ∧ Below w1.heap.size w1 wr)
    (fun _ k _ => n - (intOf k).toNat)
  case atStart => exact ⟨0, Nat.zero_le _, rfl, World.ownsRow_nil _ _ _ _, Below.refl _ _⟩
  case round =>
    obtain ⟨i, hi1, rfl, hown, hB⟩ := hrel
    by_cases hlt2 : i < n
    · have hli2 : (i : Int) < (n : Int) := by omega
      have hig : i < img.length := by omega
      have hc := (hB.cell (p := ⟨b1, o1 + i, none⟩) hbl).trans (hx1 i (.string img[i]) (by simp [strs, List.getElem?_eq_getElem hig]))
      have htk := leftFrom_take img i hig
      have hll : (leftFrom 0 (img.take i)).length ≤ 4096 := Nat.le_trans (leftFrom_len _ _) (by simp; omega)
      generalize img[i] = x at *
      generalize leftFrom 0 (img.take i) = L at *
      by_cases hx : x = zero64
      · rw [if_pos hx, List.append_nil] at htk
        have htk' := Lib.hid htk
        clear htk
        subst hx
        go_wp2_with (go_at_call 101; refine (zEmptySector_x _).mono ?_; rintro e w' ⟨rfl, rfl⟩)
        go_roundw
        case rel => exact ⟨i + 1, by omega, by go_num, by rw [htk'.out]; exact hown.alloc _, hB.alloc hB.size _⟩
        case measure => simp [intOf]; omega
      · rw [if_neg hx] at htk
        have htk' := Lib.hid htk
        clear htk
        have hx' := beqF hx
        clear hx
        go_wp2_with (first
          | (go_at_call 101; refine (zEmptySector_x _).mono ?_; rintro e w' ⟨rfl, rfl⟩)
          | (at_builtin; refine wpList_append_own _ rfl _ _ 35 rfl w1.heap.size 3 i0 (.int .i64 0) 1 8 Try.underlying35 hi hz0 hz1 hz2 rfl (by decide) _ _ _ rfl ((hown.alloc _).alloc _) ⟨wr.heap.size + 1, 0, none⟩ 1 1 [.int .i64 (i : Int)] rfl rfl (cell_one' _ _ (by simp) _ _) (oneC_int _) ?c3 ?c4 ?c5 ?_))
        case c3 => unfold maxLen; omega
        case c4 => omega
        case c5 => have := hB.size; simp; omega
        intro v' w2 hown' hgrow _
        have hB' : Below w1.heap.size w1 w2 := ((hB.alloc hB.size _).alloc (by have := hB.size; simp; omega) _).grown hgrow (by have := hB.size; simp; omega) (fun k hk => (hown.lt k hk).1)
        have hown2 : w2.ownsRow w1.heap.size 3 1 v' (leftFrom 0 (img.take (i + 1))).length (natInts (leftFrom 0 (img.take (i + 1)))) := by
          rw [htk'.out]; simpa [natInts] using hown'
        clear hown' hgrow hown hB hc hx'
        go_wp2
        go_roundw
        case rel => exact ⟨i + 1, by omega, by go_num, hown2, hB'⟩
        case measure => simp [intOf]; omega
    · obtain rfl : i = n := by omega
      rw [← hli, List.take_length] at hown
      go_wp2
      go_ret
      exact ⟨_, rfl, (SlAt.of_own hown).ok (fun b hb => Nat.le_trans hB1.size hb), hB1.trans (hB.mono hB1.size)⟩

end Go.Proofs.Ytogljlloobjeoaa
