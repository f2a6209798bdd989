/- DeviceTripCounts, walked. -/
import Derived.Test.YtogljlloobjeoaaCmn
namespace Go.Proofs.Ytogljlloobjeoaa
open Go.RowKit
set_option linter.unusedSimpArgs false
set_option linter.unusedVariables false

/-- The power lasts for as many steps; minus one: it is off. -/
def Armed (d : Dv) (l : Int) : Prop := (d.dn = false ∧ 0 ≤ l ∧ d.lf = l) ∨ (d.dn = true ∧ l = -1)
theorem stp_shape (o : DOp) (d : Dv) (h : o.kd = 2 ∨ o.kd = 3 ∨ o.kd = 5 ∨ o.kd = 6 ∨ o.kd = 7) :
    ∃ (c : Int) (g : Dv → Dv), doE o [] d = stpE d c ∧ doD o [] d = stpD d c g ∧ c ≠ 14 ∧ ∀ e, (g e).dn = e.dn ∧ (g e).lf = e.lf := by
  rcases h with h | h | h | h | h
  · refine ⟨wrC d o.a (dtext o.fill o.short 64), fun e => { e with M := wrM e.M o.a (dtext o.fill o.short 64) }, by simp [doE, h], by simp [doD, h, dWr], ?_, fun _ => ⟨rfl, rfl⟩⟩
    unfold wrC; split <;> decide
  · exact ⟨0, fun e => { e with M := flM e.M }, by simp [doE, h], by simp [doD, h, dFl], by decide, fun _ => ⟨rfl, rfl⟩⟩
  · refine ⟨slC d o.a (dtext o.fill o.short 32), fun e => { e with S := e.S.set o.a.toNat (dtext o.fill o.short 32) }, by simp [doE, h], by simp [doD, h, dSt], ?_, fun _ => ⟨rfl, rfl⟩⟩
    unfold slC; split <;> decide
  · refine ⟨buC d o.a, fun e => { e with F := e.F.set o.a.toNat true }, by simp [doE, h], by simp [doD, h, dBu], ?_, fun _ => ⟨rfl, rfl⟩⟩
    unfold buC; split <;> decide
  · refine ⟨raC d o.a, fun e => { e with cnt := o.a }, by simp [doE, h], by simp [doD, h, dRa], ?_, fun _ => ⟨rfl, rfl⟩⟩
    unfold raC; split
    · split <;> decide
    · decide
theorem cvt61 (t : Nat) (W : World) : (convert 5 3 (.int .u8 ((t : Int) % 61))).run Try.prog W = .ok (.int .i64 ((t : Int) % 61)) W := by
  have e : Try.prog.intKind 3 = .i64 := by kernel_rfl
  have h := run_convert_int (P := Try.prog) W 5 3 .u8 ((t : Int) % 61) (by kernel_rfl) (by kernel_rfl)
  rw [h, e, IntWalk.i64_in _ (by omega)]
theorem trip_step (o : DOp) (d : Dv) (l : Int) (hk : o.kd = 2 ∨ o.kd = 3 ∨ o.kd = 5 ∨ o.kd = 6 ∨ o.kd = 7) (hA : Armed d l) :
    (d.dn = false ∧ doE o [] d = 0 ∧ 1 ≤ l ∧ Armed (doD o [] d) (l - 1) ∧ (doD o [] d).dn = false) ∨
    (d.dn = false ∧ doE o [] d = 14 ∧ l = 0 ∧ (doD o [] d).dn = true ∧ (doD o [] d).M = d.M ∧ (doD o [] d).cnt = d.cnt) ∨
    (d.dn = false ∧ doE o [] d ≠ 0 ∧ doE o [] d ≠ 14 ∧ doD o [] d = d ∧ 0 ≤ l) ∨
    (d.dn = true ∧ doE o [] d = 14 ∧ doD o [] d = d ∧ l = -1) := by
  obtain ⟨c, g, e1, e2, hc, hg⟩ := stp_shape o d hk
  rw [e1, e2]
  rcases hA with ⟨hdn, h0, hlf⟩ | ⟨hdn, h0⟩
  · have n1 : ¬ d.dn = true := by simp [hdn]
    unfold stpE stpD
    simp only [if_neg n1]
    by_cases hc0 : c ≠ 0
    · simp only [if_pos hc0]
      exact .inr (.inr (.inl ⟨hdn, hc0, hc, trivial, h0⟩))
    · simp only [if_neg hc0]
      by_cases hl : d.lf = 0
      · simp only [if_pos hl]
        exact .inr (.inl ⟨hdn, trivial, by omega, trivial, trivial, trivial⟩)
      · simp only [if_neg hl]
        have k1 := (hg d.less).1
        have k2 := (hg d.less).2
        refine .inl ⟨hdn, trivial, by omega, .inl ⟨k1.trans hdn, by omega, k2.trans ?_⟩, k1.trans hdn⟩
        show max (d.lf - 1) (-1) = l - 1
        omega
  · unfold stpE stpD
    simp only [if_pos hdn]
    exact .inr (.inr (.inr ⟨hdn, trivial, trivial, h0⟩))

set_option maxRecDepth 100000 in
set_option maxHeartbeats 40000000 in
theorem tri_few (w : World) (n s f : Int) (v : Value) (ops : List DOp) (hs : DScrAt w w.heap.size v ops) (t : Nat) (h : ¬ (n ≤ 12 ∧ ops.length ≤ 60)) :
    Calls Try.prog 14 #[.agg #[.int .i64 n, .int .i64 s, .int .i64 f], v, .int .u8 (t : Int)] w fun e w' => e = .returned (.bool true) ∧ Below w.heap.size w w' := by
  have hs' := Lib.hid hs
  have hale := Lib.hid hs.a_le
  obtain ⟨a, cap, rfl, hcap, hmx, hx⟩ := hs
  clear hx
  have hfew0 := fun W => dFew W n s f (.slice a ops.length cap) ops.length ⟨_, _, rfl⟩
  rw [decide_eq_false h] at hfew0
  have hfew := Lib.hid hfew0
  clear hfew0
  go_enter Try.func14, Try.ntmps14
  go_wp2_with fail
  have hB0 := (Below.refl w.heap.size w).alloc (Nat.le_refl _) (.cells #[.int .i64 n, .int .i64 s, .int .i64 f] 84)
  have hz0 := SizAt.new w n s f 84
  generalize hW : w.alloc (.cells #[.int .i64 n, .int .i64 s, .int .i64 f] 84) = W0 at *
  have hsz0 : W0.heap.size = w.heap.size + 1 := by rw [← hW]; simp
  clear hW
  refine (dSanity _).mono ?_
  rintro e w1 ⟨rfl, hB1⟩
  have hB2 := hB0.trans (hB1.mono hB0.size)
  have hz1 := hz0.below hB1
  have hl1 : w.heap.size + 1 ≤ w1.heap.size := by have := hB1.size; omega
  obtain ⟨c0, c1, c2⟩ := id hz1
  clear hB0 hB1 hz0 hsz0
  go_wp2_with fail
  refine (hfew.out _).mono ?_
  rintro e w2 ⟨rfl, hB3⟩
  have hB4 := hB2.trans (hB3.mono hB2.size)
  have hz2 := hz1.below hB3
  have hl2 : w.heap.size + 1 ≤ w2.heap.size := by have := hB3.size; omega
  obtain ⟨c0', c1', c2'⟩ := id hz2
  have hz2' := Lib.hid hz2
  clear hB2 hB3 hfew hz1 hl1 c0 c1 c2 hz2
  clear hz2' c0' c1' c2' h
  go_wp2
  go_ret
  exact ⟨rfl, hB4⟩

set_option maxRecDepth 100000 in
set_option maxHeartbeats 40000000 in
theorem tri_bad (w : World) (n s f : Int) (v : Value) (ops : List DOp) (hs : DScrAt w w.heap.size v ops) (t : Nat) (h : n ≤ 12 ∧ ops.length ≤ 60) (hsz : s ≤ 9223372036854775807) (hfz : f ≤ 9223372036854775807) (hbad : n < 1 ∨ 4096 < n ∨ s < 1 ∨ 16 < s ∨ f < 1 ∨ 16 < f) :
    Calls Try.prog 14 #[.agg #[.int .i64 n, .int .i64 s, .int .i64 f], v, .int .u8 (t : Int)] w fun e w' => e = .returned (.bool true) ∧ Below w.heap.size w w' := by
  have hs' := Lib.hid hs
  have hale := Lib.hid hs.a_le
  obtain ⟨a, cap, rfl, hcap, hmx, hx⟩ := hs
  clear hx
  have hfew0 := fun W => dFew W n s f (.slice a ops.length cap) ops.length ⟨_, _, rfl⟩
  rw [decide_eq_true h] at hfew0
  have hfew := Lib.hid hfew0
  clear hfew0
  have hnew := Lib.hid (fun W => dNew_bad W n s f hsz hfz hbad)
  clear h hbad
  go_enter Try.func14, Try.ntmps14
  go_wp2_with fail
  have hB0 := (Below.refl w.heap.size w).alloc (Nat.le_refl _) (.cells #[.int .i64 n, .int .i64 s, .int .i64 f] 84)
  have hz0 := SizAt.new w n s f 84
  generalize hW : w.alloc (.cells #[.int .i64 n, .int .i64 s, .int .i64 f] 84) = W0 at *
  have hsz0 : W0.heap.size = w.heap.size + 1 := by rw [← hW]; simp
  clear hW
  refine (dSanity _).mono ?_
  rintro e w1 ⟨rfl, hB1⟩
  have hB2 := hB0.trans (hB1.mono hB0.size)
  have hz1 := hz0.below hB1
  have hl1 : w.heap.size + 1 ≤ w1.heap.size := by have := hB1.size; omega
  obtain ⟨c0, c1, c2⟩ := id hz1
  clear hB0 hB1 hz0 hsz0
  go_wp2_with fail
  refine (hfew.out _).mono ?_
  rintro e w2 ⟨rfl, hB3⟩
  have hB4 := hB2.trans (hB3.mono hB2.size)
  have hz2 := hz1.below hB3
  have hl2 : w.heap.size + 1 ≤ w2.heap.size := by have := hB3.size; omega
  obtain ⟨c0', c1', c2'⟩ := id hz2
  have hz2' := Lib.hid hz2
  clear hB2 hB3 hfew hz1 hl1 c0 c1 c2 hz2
  go_wp2_with fail
  refine (hnew.out _).mono ?_
  rintro e w3 ⟨rfl, hB5⟩
  have hB6 := hB4.trans (hB5.mono hB4.size)
  clear hB4 hB5
  go_wp2
  go_ret
  exact ⟨rfl, hB6⟩

set_option maxRecDepth 100000 in
set_option maxHeartbeats 40000000 in
theorem tri_ok (w : World) (n s f : Nat) (v : Value) (ops : List DOp) (hs : DScrAt w w.heap.size v ops) (t : Nat) (ht : t < 256) (h : n ≤ 12 ∧ ops.length ≤ 60) (n0 : 1 ≤ n) (s0 : 1 ≤ s) (s1 : s ≤ 16) (f0 : 1 ≤ f) (f1 : f ≤ 16) :
    Calls Try.prog 14 #[.agg #[.int .i64 n, .int .i64 s, .int .i64 f], v, .int .u8 (t : Int)] w fun e w' => e = .returned (.bool true) ∧ Below w.heap.size w w' := by
  have hs' := Lib.hid hs
  have hale := Lib.hid hs.a_le
  obtain ⟨a, cap, rfl, hcap, hmx, hx⟩ := hs
  clear hx
  have hfew0 := fun W => dFew W n s f (.slice a ops.length cap) ops.length ⟨_, _, rfl⟩
  rw [decide_eq_true (show (n : Int) ≤ 12 ∧ ops.length ≤ 60 by omega)] at hfew0
  have hfew := Lib.hid hfew0
  clear hfew0
  have hcvt := cvt61 t
  have hnew := Lib.hid (fun W => dNew_ok W n s f n0 (by omega) s0 s1 f0 f1)
  have hlen : (ops.length : Int) ≤ 60 := by omega
  have fi0 : (1 : Int) ≤ f := by omega
  have fi1 : (f : Int) ≤ 16 := by omega
  have si0 : (1 : Int) ≤ s := by omega
  have si1 : (s : Int) ≤ 16 := by omega
  have ni0 : (1 : Int) ≤ n := by omega
  have ni1 : (n : Int) ≤ 12 := by omega
  clear h
  go_enter Try.func14, Try.ntmps14
  go_wp2_with fail
  have hB0 := (Below.refl w.heap.size w).alloc (Nat.le_refl _) (.cells #[.int .i64 n, .int .i64 s, .int .i64 f] 84)
  have hz0 := SizAt.new w n s f 84
  generalize hW : w.alloc (.cells #[.int .i64 n, .int .i64 s, .int .i64 f] 84) = W0 at *
  have hsz0 : W0.heap.size = w.heap.size + 1 := by rw [← hW]; simp
  clear hW
  refine (dSanity _).mono ?_
  rintro e w1 ⟨rfl, hB1⟩
  have hB2 := hB0.trans (hB1.mono hB0.size)
  have hz1 := hz0.below hB1
  have hl1 : w.heap.size + 1 ≤ w1.heap.size := by have := hB1.size; omega
  obtain ⟨c0, c1, c2⟩ := id hz1
  clear hB0 hB1 hz0 hsz0
  go_wp2_with fail
  refine (hfew.out _).mono ?_
  rintro e w2 ⟨rfl, hB3⟩
  have hB4 := hB2.trans (hB3.mono hB2.size)
  have hz2 := hz1.below hB3
  have hl2 : w.heap.size + 1 ≤ w2.heap.size := by have := hB3.size; omega
  obtain ⟨c0', c1', c2'⟩ := id hz2
  have hz2' := Lib.hid hz2
  clear hB2 hB3 hfew hz1 hl1 c0 c1 c2 hz2
  go_wp2_with fail
  refine (hnew.out _).mono ?_
  rintro e w3 ⟨B, rfl, hD3, hBa, hB5⟩
  have hI3 := Lib.hid (ComI.mk hD3 (hB4.trans (hB5.mono hB4.size)) (hz2'.out.below hB5) (fun k hk => by have := hBa k hk; omega))
  have hst := Lib.hid (At23.start (ops := ops) hD3)
  clear hB4 hB5 hnew hBa hl2 hD3 hz2'
  go_wp2_with fail
  refine (dTrip _ B _ hI3.out.dev ((t : Int) % 61) (by omega)).mono ?_
  rintro e w4 ⟨rfl, h, hF⟩
  have hI4 := Lib.hid (hI3.out.op h hF)
  have hA0 : Hid (Armed (dTr (newD n s f) ((t : Int) % 61)) ((t : Int) % 61)) := .inl ⟨rfl, by omega, by show max ((t : Int) % 61) (-1) = _; omega⟩
  generalize dTr (newD n s f) ((t : Int) % 61) = d0 at *
  have hl1 : -1 ≤ ((t : Int) % 61) := by omega
  have hl2 : ((t : Int) % 61) ≤ 60 := by omega
  generalize (t : Int) % 61 = l0 at *
  clear h hF hI3 hst
  go_wp2_with fail
  go_loopw [10, 11] (fun lv q wr => ∃ (i : Nat) (l : Int) (dv : Dv), i ≤ ops.length ∧ q = .int .i64 (i : Int) ∧ lv = .int .i64 l ∧ -1 ≤ l ∧ l ≤ 60 ∧ Hid (Armed dv l) ∧ Hid (ComI w B n s f dv wr)) (fun _ q _ => ops.length - (intOf q).toNat)
  case atStart => exact ⟨0, l0, d0, Nat.zero_le _, rfl, rfl, hl1, hl2, hA0, hI4⟩
  case round =>
    obtain ⟨i, l, dv, hi, rfl, rfl, hl1, hl2, hArm, hI⟩ := hrel
    clear hA0 hI4
    by_cases hlt : i < ops.length
    · have hlti : (i : Int) < (ops.length : Int) := by omega
      obtain ⟨o, ho⟩ : ∃ o, ops[i]? = some o := ⟨ops[i], List.getElem?_eq_getElem hlt⟩
      obtain ⟨b, off, pv, rfl, hbP, g0, g1, g2, g3, g4, g5, hpv, hpl, hoa⟩ := hs'.out.get hI.out.below ho
      clear hpv hpl g1 g2 g3 g4 g5
      by_cases h9 : o.kd = 9 ∨ o.kd = 10
      · rcases hArm.out with ⟨hdn, hl0, hlf⟩ | ⟨hdn, hl0⟩
        · have cU := dUp _ B _ hI.out.dev
          rw [hdn] at cU
          have hl0i : (0 : Int) ≤ l := hl0
          rcases h9 with h9 | h9
          all_goals
            rw [h9] at g0
            clear h9 hlf hdn
            go_wp2_with fail
            refine cU.mono ?_
            rintro e w' ⟨rfl, rfl⟩
            go_wp2_with fail
            go_ret
            exact ⟨rfl, hI.out.below⟩
        · have cU := dUp _ B _ hI.out.dev
          rw [hdn] at cU
          subst hl0
          rcases h9 with h9 | h9
          all_goals
            rw [h9] at g0
            clear h9 hdn
            go_wp2_with fail
            refine cU.mono ?_
            rintro e w' ⟨rfl, rfl⟩
            go_wp2_with fail
            go_ret
            exact ⟨rfl, hI.out.below⟩
      have n9 : (o.kd == 9) = false := by simp; omega
      have n10 : (o.kd == 10) = false := by simp; omega
      by_cases h2 : o.kd < 2
      · clear h9
        go_wp2_with fail
        go_roundw
        case rel => exact ⟨i + 1, l, dv, by omega, by go_num, rfl, hl1, hl2, hArm, hI⟩
        case measure => simp [intOf]; omega
      by_cases h7 : 7 < o.kd
      · have h2i : 2 ≤ o.kd := by omega
        clear h9 h2
        go_wp2_with fail
        go_roundw
        case rel => exact ⟨i + 1, l, dv, by omega, by go_num, rfl, hl1, hl2, hArm, hI⟩
        case measure => simp [intOf]; omega
      by_cases h4 : o.kd = 4
      · rw [h4] at g0
        clear h9 h2 h7 h4 n9 n10
        go_wp2_with fail
        go_roundw
        case rel => exact ⟨i + 1, l, dv, by omega, by go_num, rfl, hl1, hl2, hArm, hI⟩
        case measure => simp [intOf]; omega
      have h2i : 2 ≤ o.kd := by omega
      have h7i : o.kd ≤ 7 := by omega
      have n4 : (o.kd == 4) = false := by simp; omega
      have hst := Lib.hid (trip_step o dv l (by omega) hArm.out)
      clear h9 h2 h7 h4
      go_wp2_with fail
      refine (dUp _ B _ hI.out.dev).mono ?_
      rintro e w' ⟨rfl, rfl⟩
      go_wp2_with fail
      refine (dClone _ B _ hI.out.dev).mono ?_
      rintro e w4 ⟨C, rfl, hC, hCa, hB⟩
      have hI4 := Lib.hid (hI.out.bel hB)
      have hCB : Hid (∀ q ∈ B.l, q ∉ C.all) := fun q hq hm => by have h1 := hCa q hm; have h2 := hI.out.dev.all_lt q (B.l_all q hq); omega
      have hC4 := Lib.hid hC
      clear hC hCa hB hI g0 hbP
      obtain ⟨b2, off2, pv2, hae, hbP, g0, g1, g2, g3, g4, g5, hpv, hpl, hoa2⟩ := hs'.out.get hI4.out.below ho
      cases hae
      obtain ⟨pa, pn, pc, rfl⟩ := hpv.shape
      clear ho hoa2
      go_wp2_with fail
      refine (ldo23 _ B dv hI4.out.dev o _ _ [] (fun b => b < w.heap.size) hpv hpl hI4.out.ok (SlAt.nil _ _) (Nat.zero_le _) hoa).mono ?_
      rintro e w8 ⟨iv', rfl, hD8, hF8, him8⟩
      have hI8 := Lib.hid (hI4.out.op hD8 hF8)
      have hC8 := Lib.hid (hC4.out.fr hF8 hCB.out)
      obtain ⟨ja, jk, jc, rfl⟩ := him8.shape
      clear hpv g0 g1 g2 g3 g4 g5 hD8 hF8 him8 hI4 hC4 hpl
      generalize doE o [] dv = E at *
      generalize doD o [] dv = d' at *
      generalize doT o dv = T at *
      have hP9 : ∃ P w9, w8.heap.size = P ∧ w8.alloc (.cells #[.string T, .int .i64 E] 91) = w9 := ⟨_, _, rfl, rfl⟩
      rcases hst.out with ⟨hdn, hE, hl, hA', hdn'⟩ | ⟨hdn, hE, hl, hdn', hM, hcnt⟩ | ⟨hdn, hE0, hE14, hd, hl⟩ | ⟨hdn, hE, hd, hl⟩
      · have hup0 := Lib.hid hdn
        subst hE
        have hA2 := Lib.hid hA'
        have hup : Hid (d'.dn = false) := hdn'
        have hl1' : (1 : Int) ≤ l := hl
        clear hA' hdn' hArm
        clear hst
        rw [hdn]
        go_wp2_with fail
        obtain ⟨P, w9, hP, hW9⟩ := hP9
        rw [hW9, hP]
        have hF9 : Fr [] w8 w9 := by rw [← hW9]; exact (Fr.refl _ _).alloc _
        have r9 : w9.cell? ⟨P, 1, none⟩ = some (.int .i64 0) := by rw [← hW9, ← hP]; simp
        have hI9 := Lib.hid (hI8.out.fr0 hF9)
        have hC9 := Lib.hid (hC8.out.fr hF9 (by simp))
        clear hW9 hF9 hI8 hC8 hP
        go_wp2_with fail
        refine (show Calls Try.prog 55 #[.pointer (some ⟨B.d, 0, none⟩)] w9 fun e w' => e = .returned (.bool true) ∧ w9 = w' from by have c := dUp _ B _ hI9.out.dev; rw [hup.out] at c; exact c).mono ?_
        rintro e w' ⟨rfl, rfl⟩
        go_wp2_with fail
        refine (dImage _ C _ hC9.out).mono ?_
        rintro e w10 ⟨v1, rfl, hv1, hB⟩
        have hI10 := Lib.hid (hI9.out.bel hB)
        have hC10 := Lib.hid (hC9.out.below hB)
        have r10 := (hB.cell (p := ⟨P, 1, none⟩) (World.block_lt_of_cell? _ _ r9)).trans r9
        have hv1' := Lib.hid hv1
        obtain ⟨a1, m1, k1, rfl⟩ := hv1.shape
        clear hv1 hB hI9 hC9 r9
        go_wp2_with fail
        refine (dImage _ B _ hI10.out.dev).mono ?_
        rintro e w11 ⟨v2, rfl, hv2, hB⟩
        have hI11 := Lib.hid (hI10.out.bel hB)
        have hC11 := Lib.hid (hC10.out.below hB)
        have r11 := (hB.cell (p := ⟨P, 1, none⟩) (World.block_lt_of_cell? _ _ r10)).trans r10
        have cS := wSameTexts w11 _ _ _ _ _ _ (hv1'.out.fr (S := []) (Fr.of_below hB) (by simp)) hv2 (by have := hC10.out.ok.m1; unfold imgM; rw [List.length_map]; omega)
        generalize decide (imgM dv.M = imgM d'.M) = sb at *
        obtain ⟨a2, m2, k2, rfl⟩ := hv2.shape
        clear hv2 hB hI10 hC10 r10 hv1'
        go_wp2_with fail
        refine cS.mono ?_
        clear cS
        rintro e w12 ⟨rfl, hF⟩
        have hI12 := Lib.hid (hI11.out.fr0 hF)
        have hC12 := Lib.hid (hC11.out.fr hF (by simp))
        have r12 := (hF.cell (p := ⟨P, 1, none⟩) (World.block_lt_of_cell? _ _ r11) (by simp)).trans r11
        clear hF hI11 hC11 r11
        go_wp2_with fail
        go_roundw
        case rel => exact ⟨i + 1, l - 1, d', by omega, by go_num, by go_num, by omega, by omega, hA2, hI12⟩
        case measure => simp [intOf]; omega
      · have hup0 := Lib.hid hdn
        subst hE
        subst hl
        have hA2 : Hid (Armed d' (-1)) := .inr ⟨hdn', rfl⟩
        have hup : Hid (d'.dn = true) := hdn'
        have hM' := Lib.hid hM
        have hcnt' := Lib.hid hcnt
        clear hdn' hArm hM hcnt
        clear hst
        rw [hdn]
        go_wp2_with fail
        obtain ⟨P, w9, hP, hW9⟩ := hP9
        rw [hW9, hP]
        have hF9 : Fr [] w8 w9 := by rw [← hW9]; exact (Fr.refl _ _).alloc _
        have r9 : w9.cell? ⟨P, 1, none⟩ = some (.int .i64 14) := by rw [← hW9, ← hP]; simp
        have hI9 := Lib.hid (hI8.out.fr0 hF9)
        have hC9 := Lib.hid (hC8.out.fr hF9 (by simp))
        clear hW9 hF9 hI8 hC8 hP
        go_wp2_with fail
        refine (show Calls Try.prog 55 #[.pointer (some ⟨B.d, 0, none⟩)] w9 fun e w' => e = .returned (.bool false) ∧ w9 = w' from by have c := dUp _ B _ hI9.out.dev; rw [hup.out] at c; exact c).mono ?_
        rintro e w' ⟨rfl, rfl⟩
        go_wp2_with fail
        refine (show Calls Try.prog 55 #[.pointer (some ⟨B.d, 0, none⟩)] w9 fun e w' => e = .returned (.bool false) ∧ w9 = w' from by have c := dUp _ B _ hI9.out.dev; rw [hup.out] at c; exact c).mono ?_
        rintro e w' ⟨rfl, rfl⟩
        go_wp2_with fail
        refine (dImage _ C _ hC9.out).mono ?_
        rintro e w10 ⟨v1, rfl, hv1, hB⟩
        have hI10 := Lib.hid (hI9.out.bel hB)
        have hC10 := Lib.hid (hC9.out.below hB)
        have r10 := (hB.cell (p := ⟨P, 1, none⟩) (World.block_lt_of_cell? _ _ r9)).trans r9
        have hv1' := Lib.hid hv1
        obtain ⟨a1, m1, k1, rfl⟩ := hv1.shape
        clear hv1 hB hI9 hC9 r9
        go_wp2_with fail
        refine (dImage _ B _ hI10.out.dev).mono ?_
        rintro e w11 ⟨v2, rfl, hv2, hB⟩
        have hI11 := Lib.hid (hI10.out.bel hB)
        have hC11 := Lib.hid (hC10.out.below hB)
        have r11 := (hB.cell (p := ⟨P, 1, none⟩) (World.block_lt_of_cell? _ _ r10)).trans r10
        have cS := wSameTexts w11 _ _ _ _ _ _ (hv1'.out.fr (S := []) (Fr.of_below hB) (by simp)) hv2 (by have := hC10.out.ok.m1; unfold imgM; rw [List.length_map]; omega)
        rw [decide_eq_true (show imgM dv.M = imgM d'.M by rw [hM'.out])] at cS
        obtain ⟨a2, m2, k2, rfl⟩ := hv2.shape
        clear hv2 hB hI10 hC10 r10 hv1'
        go_wp2_with fail
        refine cS.mono ?_
        clear cS
        rintro e w12 ⟨rfl, hF⟩
        have hI12 := Lib.hid (hI11.out.fr0 hF)
        have hC12 := Lib.hid (hC11.out.fr hF (by simp))
        have r12 := (hF.cell (p := ⟨P, 1, none⟩) (World.block_lt_of_cell? _ _ r11) (by simp)).trans r11
        clear hF hI11 hC11 r11
        go_wp2_with fail
        refine (dCounter _ C _ hC12.out).mono ?_
        rintro e w' ⟨rfl, rfl⟩
        have cc := dCounter _ B _ hI12.out.dev
        rw [hcnt'.out] at cc
        go_wp2_with fail
        refine cc.mono ?_
        clear cc
        rintro e w' ⟨rfl, rfl⟩
        go_wp2_with fail
        go_roundw
        case rel => exact ⟨i + 1, -1, d', by omega, by go_num, by go_num, by omega, by omega, hA2, hI12⟩
        case measure => simp [intOf]; omega
      · have hup0 := Lib.hid hdn
        have hd2 := hd.symm
        subst hd2
        clear hd
        have hA2 := hArm
        have hup : Hid (dv.dn = false) := hdn
        have nE0 : (E == 0) = false := by simpa using hE0
        have nE0b : (E != 0) = true := by simpa using hE0
        have nE14 : (E == 14) = false := by simpa using hE14
        have hli : (0 : Int) ≤ l := hl
        clear hArm hE0 hE14
        clear hst
        rw [hdn]
        go_wp2_with fail
        obtain ⟨P, w9, hP, hW9⟩ := hP9
        rw [hW9, hP]
        have hF9 : Fr [] w8 w9 := by rw [← hW9]; exact (Fr.refl _ _).alloc _
        have r9 : w9.cell? ⟨P, 1, none⟩ = some (.int .i64 E) := by rw [← hW9, ← hP]; simp
        have hI9 := Lib.hid (hI8.out.fr0 hF9)
        have hC9 := Lib.hid (hC8.out.fr hF9 (by simp))
        clear hW9 hF9 hI8 hC8 hP
        go_wp2_with fail
        refine (show Calls Try.prog 55 #[.pointer (some ⟨B.d, 0, none⟩)] w9 fun e w' => e = .returned (.bool true) ∧ w9 = w' from by have c := dUp _ B _ hI9.out.dev; rw [hup.out] at c; exact c).mono ?_
        rintro e w' ⟨rfl, rfl⟩
        go_wp2_with fail
        refine (dImage _ C _ hC9.out).mono ?_
        rintro e w10 ⟨v1, rfl, hv1, hB⟩
        have hI10 := Lib.hid (hI9.out.bel hB)
        have hC10 := Lib.hid (hC9.out.below hB)
        have r10 := (hB.cell (p := ⟨P, 1, none⟩) (World.block_lt_of_cell? _ _ r9)).trans r9
        have hv1' := Lib.hid hv1
        obtain ⟨a1, m1, k1, rfl⟩ := hv1.shape
        clear hv1 hB hI9 hC9 r9
        go_wp2_with fail
        refine (dImage _ B _ hI10.out.dev).mono ?_
        rintro e w11 ⟨v2, rfl, hv2, hB⟩
        have hI11 := Lib.hid (hI10.out.bel hB)
        have hC11 := Lib.hid (hC10.out.below hB)
        have r11 := (hB.cell (p := ⟨P, 1, none⟩) (World.block_lt_of_cell? _ _ r10)).trans r10
        have cS := wSameTexts w11 _ _ _ _ _ _ (hv1'.out.fr (S := []) (Fr.of_below hB) (by simp)) hv2 (by have := hC10.out.ok.m1; unfold imgM; rw [List.length_map]; omega)
        rw [decide_eq_true rfl] at cS
        obtain ⟨a2, m2, k2, rfl⟩ := hv2.shape
        clear hv2 hB hI10 hC10 r10 hv1'
        go_wp2_with fail
        refine cS.mono ?_
        clear cS
        rintro e w12 ⟨rfl, hF⟩
        have hI12 := Lib.hid (hI11.out.fr0 hF)
        have hC12 := Lib.hid (hC11.out.fr hF (by simp))
        have r12 := (hF.cell (p := ⟨P, 1, none⟩) (World.block_lt_of_cell? _ _ r11) (by simp)).trans r11
        clear hF hI11 hC11 r11
        go_wp2_with fail
        refine (dCounter _ C _ hC12.out).mono ?_
        rintro e w' ⟨rfl, rfl⟩
        have cc := dCounter _ B _ hI12.out.dev
        go_wp2_with fail
        refine cc.mono ?_
        clear cc
        rintro e w' ⟨rfl, rfl⟩
        go_wp2_with fail
        go_roundw
        case rel => exact ⟨i + 1, l, dv, by omega, by go_num, by go_num, by omega, by omega, hA2, hI12⟩
        case measure => simp [intOf]; omega
      · have hup0 := Lib.hid hdn
        subst hE
        have hd2 := hd.symm
        subst hd2
        clear hd
        subst hl
        have hA2 := hArm
        have hup : Hid (dv.dn = true) := hdn
        clear hArm
        clear hst
        rw [hdn]
        go_wp2_with fail
        obtain ⟨P, w9, hP, hW9⟩ := hP9
        rw [hW9, hP]
        have hF9 : Fr [] w8 w9 := by rw [← hW9]; exact (Fr.refl _ _).alloc _
        have r9 : w9.cell? ⟨P, 1, none⟩ = some (.int .i64 14) := by rw [← hW9, ← hP]; simp
        have hI9 := Lib.hid (hI8.out.fr0 hF9)
        have hC9 := Lib.hid (hC8.out.fr hF9 (by simp))
        clear hW9 hF9 hI8 hC8 hP
        go_wp2_with fail
        refine (show Calls Try.prog 55 #[.pointer (some ⟨B.d, 0, none⟩)] w9 fun e w' => e = .returned (.bool false) ∧ w9 = w' from by have c := dUp _ B _ hI9.out.dev; rw [hup.out] at c; exact c).mono ?_
        rintro e w' ⟨rfl, rfl⟩
        go_wp2_with fail
        refine (show Calls Try.prog 55 #[.pointer (some ⟨B.d, 0, none⟩)] w9 fun e w' => e = .returned (.bool false) ∧ w9 = w' from by have c := dUp _ B _ hI9.out.dev; rw [hup.out] at c; exact c).mono ?_
        rintro e w' ⟨rfl, rfl⟩
        go_wp2_with fail
        refine (dImage _ C _ hC9.out).mono ?_
        rintro e w10 ⟨v1, rfl, hv1, hB⟩
        have hI10 := Lib.hid (hI9.out.bel hB)
        have hC10 := Lib.hid (hC9.out.below hB)
        have r10 := (hB.cell (p := ⟨P, 1, none⟩) (World.block_lt_of_cell? _ _ r9)).trans r9
        have hv1' := Lib.hid hv1
        obtain ⟨a1, m1, k1, rfl⟩ := hv1.shape
        clear hv1 hB hI9 hC9 r9
        go_wp2_with fail
        refine (dImage _ B _ hI10.out.dev).mono ?_
        rintro e w11 ⟨v2, rfl, hv2, hB⟩
        have hI11 := Lib.hid (hI10.out.bel hB)
        have hC11 := Lib.hid (hC10.out.below hB)
        have r11 := (hB.cell (p := ⟨P, 1, none⟩) (World.block_lt_of_cell? _ _ r10)).trans r10
        have cS := wSameTexts w11 _ _ _ _ _ _ (hv1'.out.fr (S := []) (Fr.of_below hB) (by simp)) hv2 (by have := hC10.out.ok.m1; unfold imgM; rw [List.length_map]; omega)
        rw [decide_eq_true rfl] at cS
        obtain ⟨a2, m2, k2, rfl⟩ := hv2.shape
        clear hv2 hB hI10 hC10 r10 hv1'
        go_wp2_with fail
        refine cS.mono ?_
        clear cS
        rintro e w12 ⟨rfl, hF⟩
        have hI12 := Lib.hid (hI11.out.fr0 hF)
        have hC12 := Lib.hid (hC11.out.fr hF (by simp))
        have r12 := (hF.cell (p := ⟨P, 1, none⟩) (World.block_lt_of_cell? _ _ r11) (by simp)).trans r11
        clear hF hI11 hC11 r11
        go_wp2_with fail
        refine (dCounter _ C _ hC12.out).mono ?_
        rintro e w' ⟨rfl, rfl⟩
        have cc := dCounter _ B _ hI12.out.dev
        go_wp2_with fail
        refine cc.mono ?_
        clear cc
        rintro e w' ⟨rfl, rfl⟩
        go_wp2_with fail
        go_roundw
        case rel => exact ⟨i + 1, -1, dv, by omega, by go_num, by go_num, by omega, by omega, hA2, hI12⟩
        case measure => simp [intOf]; omega
    · obtain rfl : i = ops.length := by omega
      rcases hArm.out with ⟨hdn, hl0, hlf⟩ | ⟨hdn, hl0⟩
      · have cU := dUp _ B _ hI.out.dev
        rw [hdn] at cU
        have hl0i : (0 : Int) ≤ l := hl0
        clear hlf hdn
        go_wp2_with fail
        refine cU.mono ?_
        rintro e w' ⟨rfl, rfl⟩
        go_wp2_with fail
        go_ret
        exact ⟨rfl, hI.out.below⟩
      · have cU := dUp _ B _ hI.out.dev
        rw [hdn] at cU
        subst hl0
        clear hdn
        go_wp2_with fail
        refine cU.mono ?_
        rintro e w' ⟨rfl, rfl⟩
        go_wp2_with fail
        go_ret
        exact ⟨rfl, hI.out.below⟩


theorem lTrip (w : World) (n s f : Int) (_hn : n ≤ 9223372036854775807) (hsz : s ≤ 9223372036854775807) (hfz : f ≤ 9223372036854775807) (v : Value) (ops : List DOp) (hs : DScrAt w w.heap.size v ops) (t : Int) (ht : 0 ≤ t ∧ t < 256) :
    Calls Try.prog 14 #[.agg #[.int .i64 n, .int .i64 s, .int .i64 f], v, .int .u8 t] w fun e w' => e = .returned (.bool true) ∧ Below w.heap.size w w' := by
  obtain ⟨t, rfl⟩ : ∃ k : Nat, t = (k : Int) := ⟨t.toNat, by omega⟩
  by_cases h : n ≤ 12 ∧ ops.length ≤ 60
  · by_cases hbad : n < 1 ∨ 4096 < n ∨ s < 1 ∨ 16 < s ∨ f < 1 ∨ 16 < f
    · exact tri_bad w n s f v ops hs t h hsz hfz hbad
    · obtain ⟨n', rfl⟩ : ∃ k : Nat, n = (k : Int) := ⟨n.toNat, by omega⟩
      obtain ⟨s', rfl⟩ : ∃ k : Nat, s = (k : Int) := ⟨s.toNat, by omega⟩
      obtain ⟨f', rfl⟩ : ∃ k : Nat, f = (k : Int) := ⟨f.toNat, by omega⟩
      exact tri_ok w n' s' f' v ops hs t (by omega) (by omega) (by omega) (by omega) (by omega) (by omega) (by omega)
  · exact tri_few w n s f v ops hs t h

end Go.Proofs.Ytogljlloobjeoaa
