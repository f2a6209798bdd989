/- What the laws of chapter 33 share: the device that a script leaves. -/
import Derived.Test.YtogljlloobjeoaaZSan
import Derived.Test.YtogljlloobjeoaaZDo
import Derived.Test.YtogljlloobjeoaaDPre
namespace Go.Proofs.Ytogljlloobjeoaa
open Go.RowKit
set_option linter.unusedSimpArgs false

/-- The size's bounds that build asks. -/
def fits (n s f : Int) (k : Nat) : Prop := (1 ≤ n ∧ n ≤ 12 ∧ k ≤ 40) ∧ 1 ≤ s ∧ s ≤ 16 ∧ 1 ≤ f ∧ f ≤ 16

set_option maxRecDepth 100000 in
set_option maxHeartbeats 1600000 in
theorem build_few (w : World) (n s f : Int) (v : Value) (k : Nat) (hv : ∃ a c, v = .slice a k c) (h : 12 < n ∨ n < 1 ∨ (1 ≤ n ∧ n ≤ 12 ∧ (40 : Int) < k)) :
    Calls Try.prog 34 #[.agg #[.int .i64 n, .int .i64 s, .int .i64 f], v] w fun e w' => e = .returned (.pointer none) ∧ Below w.heap.size w w' := by
  obtain ⟨a, c, rfl⟩ := hv
  rcases h with h | h | ⟨h1, h2, h3⟩
  all_goals
    go_enter Try.func34, Try.ntmps34
    go_wp2
    go_ret
    exact ⟨rfl, (Below.refl _ _).alloc (Nat.le_refl _) _⟩

set_option maxRecDepth 100000 in
set_option maxHeartbeats 1600000 in
theorem build_bad (w : World) (n s f : Int) (v : Value) (k : Nat) (hv : ∃ a c, v = .slice a k c) (h1 : 1 ≤ n) (h2 : n ≤ 12) (h3 : (k : Int) ≤ 40) (hsz : s ≤ 9223372036854775807) (hfz : f ≤ 9223372036854775807) (hbad : n < 1 ∨ 4096 < n ∨ s < 1 ∨ 16 < s ∨ f < 1 ∨ 16 < f) :
    Calls Try.prog 34 #[.agg #[.int .i64 n, .int .i64 s, .int .i64 f], v] w fun e w' => e = .returned (.pointer none) ∧ Below w.heap.size w w' := by
  obtain ⟨a, c, rfl⟩ := hv
  have hnew := Lib.hid (fun W => dNew_bad W n s f hsz hfz hbad)
  clear hbad
  go_enter Try.func34, Try.ntmps34
  go_wp2_with fail
  refine (hnew.out _).mono ?_
  rintro e w3 ⟨rfl, hB5⟩
  have hB6 := ((Below.refl w.heap.size w).alloc (Nat.le_refl _) (.cells #[.int .i64 n, .int .i64 s, .int .i64 f] 61)).trans (hB5.mono (by simp))
  clear hB5 hnew
  go_wp2_with fail
  go_ret
  exact ⟨rfl, hB6⟩

theorem build_no (w : World) (n s f : Int) (v : Value) (k : Nat) (hv : ∃ a c, v = .slice a k c) (hsz : s ≤ 9223372036854775807) (hfz : f ≤ 9223372036854775807) (h : ¬ fits n s f k) :
    Calls Try.prog 34 #[.agg #[.int .i64 n, .int .i64 s, .int .i64 f], v] w fun e w' => e = .returned (.pointer none) ∧ Below w.heap.size w w' := by
  by_cases h1 : 12 < n
  · exact build_few w n s f v k hv (.inl h1)
  by_cases h2 : n < 1
  · exact build_few w n s f v k hv (.inr (.inl h2))
  by_cases h3 : (40 : Int) < k
  · exact build_few w n s f v k hv (.inr (.inr ⟨by omega, by omega, h3⟩))
  · refine build_bad w n s f v k hv (by omega) (by omega) (by omega) hsz hfz ?_
    unfold fits at h
    omega
theorem fits_nat {n s f : Int} {k : Nat} (h : fits n s f k) : ∃ n' s' f' : Nat, n = n' ∧ s = s' ∧ f = f' ∧ 1 ≤ n' ∧ n' ≤ 12 ∧ k ≤ 40 ∧ 1 ≤ s' ∧ s' ≤ 16 ∧ 1 ≤ f' ∧ f' ≤ 16 := by
  unfold fits at h
  exact ⟨n.toNat, s.toNat, f.toNat, by omega, by omega, by omega, by omega, by omega, by omega, by omega, by omega, by omega, by omega⟩
theorem DScrAt.len {w : World} {P : Nat} {v : Value} {ops : List DOp} (h : DScrAt w P v ops) : ∃ a c, v = .slice a ops.length c := by
  obtain ⟨a, c, e, _⟩ := h; exact ⟨a, c, e⟩

/-- A device and the last image, in a world. -/
structure DI (wr : World) (B : DB) (x : Dv × List ByteArray) (iv : Value) : Prop where
  dev : DevAt wr B x.1
  img : SlAt wr (fun b => b ∉ B.all) iv (strs x.2)
  il : x.2.length ≤ 4096
theorem DI.start {wr : World} {B : DB} {d : Dv} (h : DevAt wr B d) : DI wr B (d, []) (.slice none 0 0) := ⟨h, SlAt.nil _ _, Nat.zero_le _⟩
theorem DI.slice {wr : World} {B : DB} {x : Dv × List ByteArray} {iv : Value} (h : DI wr B x iv) : ∃ a n c, iv = .slice a n c := by obtain ⟨a, c, h, _⟩ := h.img; exact ⟨_, _, _, h⟩
theorem DI.op {wr w' : World} {B : DB} {x : Dv × List ByteArray} {iv : Value} (h : DI wr B x iv) {e : Dv} (hD : DevAt w' B e) (hF : Fr B.l wr w') : DI w' B (e, x.2) iv :=
  ⟨hD, h.img.fr hF (fun b hb hm => hb (B.l_all b hm)), h.il⟩
/-- An operation of the script is played. -/
theorem DI.do {wr : World} {B : DB} {x : Dv × List ByteArray} {iv : Value} (h : DI wr B x iv) {P : Nat} (hP : ∀ k ∈ B.all, P ≤ k) (o : DOp) (pv : Value) (hpv : SlAt wr (fun b => b < P) pv (ints o.pk)) (hn : o.pk.length ≤ maxLen) (ha : o.a ≤ 9223372036854775807) :
    Calls Try.prog 67 #[.pointer (some ⟨B.d, 0, none⟩), .agg #[.int .i64 o.kd, .int .i64 o.a, .int .i64 o.b, .int .u8 o.fill.toNat, .bool o.short, pv], iv] wr fun e w' => ∃ iv', e = .returned iv' ∧ DI w' B (doD o x.2 x.1, doI o x.2 x.1) iv' ∧ Fr B.l wr w' :=
  (ldo33 wr B x.1 h.dev o pv iv x.2 _ hpv hn (picks_ok h.dev hP) h.img h.il ha).mono fun _e _w' ⟨iv', he, hD, hF, hI⟩ => ⟨iv', he, ⟨hD, hI, doI_length o x.2 x.1 h.il h.dev.ok.m1⟩, hF⟩

set_option maxRecDepth 100000 in
set_option maxHeartbeats 4000000 in
theorem build_ok (w : World) (n s f : Nat) (v : Value) (ops : List DOp) (P : Nat) (hs : DScrAt w P v ops) (hP : P ≤ w.heap.size) (n0 : 1 ≤ n) (n1 : n ≤ 12) (hk : ops.length ≤ 40) (s0 : 1 ≤ s) (s1 : s ≤ 16) (f0 : 1 ≤ f) (f1 : f ≤ 16) :
    Calls Try.prog 34 #[.agg #[.int .i64 n, .int .i64 s, .int .i64 f], v] w fun e w' => ∃ B : DB, e = .returned (.pointer (some ⟨B.d, 0, none⟩)) ∧ DevAt w' B (runD ops (newD n s f, [])).1 ∧ (∀ k ∈ B.all, w.heap.size ≤ k) ∧ Below w.heap.size w w' := by
  have hs' := Lib.hid hs
  obtain ⟨a, cap, rfl, hcap, hmx, hx⟩ := hs
  clear hx
  have hnew := Lib.hid (fun W => dNew_ok W n s f n0 (by omega) s0 s1 f0 f1)
  have hlen : (ops.length : Int) ≤ 40 := by omega
  have ni0 : (1 : Int) ≤ n := by omega
  have ni1 : (n : Int) ≤ 12 := by omega
  go_enter Try.func34, Try.ntmps34
  go_wp2_with fail
  refine (hnew.out _).mono ?_
  rintro e w3 ⟨B, rfl, hD3, hBa, hB5⟩
  have hB6 := ((Below.refl w.heap.size w).alloc (Nat.le_refl _) (.cells #[.int .i64 n, .int .i64 s, .int .i64 f] 61)).trans (hB5.mono (by simp))
  have hA : Hid (∀ k ∈ B.all, w.heap.size ≤ k) := fun k hk => by have := hBa k hk; simp at this; omega
  have hst := Lib.hid (DI.start hD3)
  clear hB5 hnew hBa hD3
  go_wp2_with fail
  go_loopw [7, 8] (fun iv q wr => ∃ j : Nat, j ≤ ops.length ∧ q = .int .i64 (j : Int) ∧ DI wr B (runD (ops.take j) (newD n s f, [])) iv ∧ Below w.heap.size w wr) (fun _ q _ => ops.length - (intOf q).toNat)
  case atStart => exact ⟨0, Nat.zero_le _, rfl, hst.out, hB6⟩
  case round =>
    obtain ⟨j, hj, rfl, hT, hB⟩ := hrel
    clear hst hB6
    by_cases hlt : j < ops.length
    · have hlti : (j : Int) < (ops.length : Int) := by omega
      obtain ⟨o, ho⟩ : ∃ o, ops[j]? = some o := ⟨ops[j], List.getElem?_eq_getElem hlt⟩
      have hT1 := Lib.hid (runD_take_succ ops (newD n s f, []) j o ho)
      obtain ⟨b, off, pv, rfl, hbP, g0, g1, g2, g3, g4, g5, hpv, hpl, hoa⟩ := hs'.out.get (hB.mono hP) ho
      obtain ⟨pa, pn, pc, rfl⟩ : ∃ a n c, pv = .slice a n c := by obtain ⟨a, c, h, _⟩ := hpv; exact ⟨_, _, _, h⟩
      obtain ⟨ia, ik, ic, rfl⟩ := hT.slice
      have hc := Lib.hid (hT.do (P := P) (fun k hk => by have := hA.out k hk; omega) o _ hpv hpl hoa)
      clear hT hpv hpl hoa ho
      go_wp2_with fail
      refine hc.out.mono ?_
      rintro e w5 ⟨iv', rfl, hT5, hF5⟩
      have hB5 := hB.trans (hF5.below hB.size (all_l hA.out))
      obtain ⟨ja, jk, jc, rfl⟩ := hT5.slice
      rw [← hT1.out] at hT5
      have hT5' := Lib.hid hT5
      clear hT5 hc hB g0 g1 g2 g3 g4 g5 hF5
      go_wp2_with fail
      go_roundw
      case rel => exact ⟨j + 1, by omega, by go_num, hT5'.out, hB5⟩
      case measure => simp [intOf]; omega
    · obtain rfl : j = ops.length := by omega
      rw [List.take_length] at hT
      have hD' := Lib.hid hT.dev
      clear hT
      go_wp2_with fail
      go_ret
      exact ⟨_, rfl, hD'.out, hA.out, hB⟩

end Go.Proofs.Ytogljlloobjeoaa
