/- DeviceRestoreIsLocal, walked. -/
import Derived.Test.YtogljlloobjeoaaCmn
namespace Go.Proofs.Ytogljlloobjeoaa
open Go.RowKit
set_option linter.unusedSimpArgs false
set_option linter.unusedVariables false

theorem imgM_ldM {M : List Sec} {l : List ByteArray} (h : okImg M l) : imgM (ldM M l) = l := by
  unfold ldM imgM
  rw [if_pos h]
  apply List.ext_getElem?
  intro i
  rw [List.getElem?_map, List.getElem?_zipWith]
  cases hl : l[i]? with
  | none => rfl
  | some x =>
    cases hM : M[i]? with
    | none =>
      have h1 := (List.getElem?_eq_some_iff.1 hl).1
      have h2 := List.getElem?_eq_none_iff.1 hM
      have := h.1
      omega
    | some s => rfl

set_option maxRecDepth 100000 in
set_option maxHeartbeats 1600000 in
theorem dRight (w : World) (ok : Nat → Prop) (v : Value) (ss : List ByteArray) (h : SlAt w ok v (strs ss)) (hl : ss.length ≤ 4611686018427387904) (n : Int) (r : Bool) (hr : Hid (decide ((∀ x ∈ ss, x.size = 64) ∧ (ss.length : Int) = n) = r)) :
    Calls Try.prog 66 #[v, .int .i64 n] w fun e w' => e = .returned (.bool r) ∧ w = w' := by
  have hli : (ss.length : Int) ≤ 4611686018427387904 := by omega
  have h' := Lib.hid h
  obtain ⟨oa, oc, rfl⟩ := h.len
  rw [strs_length] at h' ⊢
  clear h
  go_enter Try.func66, Try.ntmps66
  go_wp2_with fail
  go_loop [5] (fun q => ∃ i : Nat, i ≤ ss.length ∧ q = .int .i64 (i : Int) ∧ Hid (∀ (j : Nat) x, j < i → ss[j]? = some x → x.size = 64)) (fun q => ss.length - (intOf q).toNat)
  case atStart => exact ⟨0, Nat.zero_le _, rfl, fun j x hj => by omega⟩
  case round =>
    obtain ⟨i, hi, rfl, hall⟩ := hrel
    by_cases hlt : i < ss.length
    · have hlti : (i : Int) < (ss.length : Int) := by omega
      have hgi := List.getElem?_eq_getElem hlt
      obtain ⟨ob, oo, rfl, hob, hobl, hog⟩ := h'.out.get (strs_get hgi)
      have hgi' := Lib.hid hgi
      generalize ss[i] = x at *
      clear hgi
      by_cases hx : x.size = 64
      · have hxi : (x.size : Int) = 64 := by omega
        have hall2 : Hid (∀ (j : Nat) y, j < i + 1 → ss[j]? = some y → y.size = 64) := fun j y hj hy => by
          by_cases e : j = i
          · subst e
            have := hgi'.out
            rw [hy] at this
            injection this with this
            rw [this]; exact hx
          · exact hall.out j y (by omega) hy
        clear hx hall
        go_wp2_with fail
        go_round
        case rel => exact ⟨i + 1, by omega, by go_num, hall2⟩
        case measure => simp [intOf]; omega
      · have hxi : ((x.size : Int) == 64) = false := by simp; omega
        obtain rfl : r = false := by rw [← hr.out]; exact decide_eq_false (fun h => hx (h.1 x (List.mem_of_getElem? hgi'.out)))
        clear hx hall
        go_wp2_with fail
        go_ret
        exact ⟨rfl, rfl⟩
    · obtain rfl : i = ss.length := by omega
      have hall2 : Hid (∀ x ∈ ss, x.size = 64) := fun x hx => by
        obtain ⟨j, hj⟩ := List.getElem?_of_mem hx
        exact hall.out j x (List.getElem?_eq_some_iff.1 hj).1 hj
      clear hall
      by_cases hn : (ss.length : Int) = n
      · obtain rfl : r = true := by rw [← hr.out]; exact decide_eq_true ⟨hall2.out, hn⟩
        subst hn
        clear hr
        go_wp2_with fail
        go_ret
        exact ⟨rfl, rfl⟩
      · have hnn : ((ss.length : Int) == n) = false := by simpa using hn
        obtain rfl : r = false := by rw [← hr.out]; exact decide_eq_false (fun h => hn h.2)
        clear hr hn
        go_wp2_with fail
        go_ret
        exact ⟨rfl, rfl⟩

set_option maxRecDepth 100000 in
set_option maxHeartbeats 40000000 in
theorem res_few (w : World) (n s f : Int) (v : Value) (ops : List DOp) (hs : DScrAt w w.heap.size v ops) (ov : Value) (ss : List ByteArray) (hss : SlAt w (fun b => b < w.heap.size) ov (strs ss)) (h : ¬ (n ≤ 12 ∧ ops.length ≤ 60)) :
    Calls Try.prog 15 #[.agg #[.int .i64 n, .int .i64 s, .int .i64 f], v, ov] w fun e w' => e = .returned (.bool true) ∧ Below w.heap.size w w' := by
  have hs' := Lib.hid hs
  have hale := Lib.hid hs.a_le
  obtain ⟨a, cap, rfl, hcap, hmx, hx⟩ := hs
  clear hx
  have hfew0 := fun W => dFew W n s f (.slice a ops.length cap) ops.length ⟨_, _, rfl⟩
  rw [decide_eq_false h] at hfew0
  have hfew := Lib.hid hfew0
  clear hfew0
  obtain ⟨oa, oc, rfl⟩ := hss.len
  rw [strs_length] at hss ⊢
  have hss' := Lib.hid hss
  clear hss
  go_enter Try.func15, Try.ntmps15
  go_wp2_with fail
  have hB0 := (Below.refl w.heap.size w).alloc (Nat.le_refl _) (.cells #[.int .i64 n, .int .i64 s, .int .i64 f] 84)
  have hz0 := SizAt.new w n s f 84
  generalize hW : w.alloc (.cells #[.int .i64 n, .int .i64 s, .int .i64 f] 84) = W0 at *
  have hsz0 : W0.heap.size = w.heap.size + 1 := by rw [← hW]; simp
  clear hW
  refine (dSanity _).mono ?_
  rintro e w1 ⟨rfl, hB1⟩
  have hB2 := hB0.trans (hB1.mono hB0.size)
  have hz1 := hz0.below hB1
  have hl1 : w.heap.size + 1 ≤ w1.heap.size := by have := hB1.size; omega
  obtain ⟨c0, c1, c2⟩ := id hz1
  clear hB0 hB1 hz0 hsz0
  go_wp2_with fail
  refine (hfew.out _).mono ?_
  rintro e w2 ⟨rfl, hB3⟩
  have hB4 := hB2.trans (hB3.mono hB2.size)
  have hz2 := hz1.below hB3
  have hl2 : w.heap.size + 1 ≤ w2.heap.size := by have := hB3.size; omega
  obtain ⟨c0', c1', c2'⟩ := id hz2
  have hz2' := Lib.hid hz2
  clear hB2 hB3 hfew hz1 hl1 c0 c1 c2 hz2
  clear hz2' c0' c1' c2' h
  go_wp2
  go_ret
  exact ⟨rfl, hB4⟩

set_option maxRecDepth 100000 in
set_option maxHeartbeats 40000000 in
theorem res_long (w : World) (n s f : Int) (v : Value) (ops : List DOp) (hs : DScrAt w w.heap.size v ops) (ov : Value) (ss : List ByteArray) (hss : SlAt w (fun b => b < w.heap.size) ov (strs ss)) (h : n ≤ 12 ∧ ops.length ≤ 60) (h20 : 20 < ss.length) :
    Calls Try.prog 15 #[.agg #[.int .i64 n, .int .i64 s, .int .i64 f], v, ov] w fun e w' => e = .returned (.bool true) ∧ Below w.heap.size w w' := by
  have hs' := Lib.hid hs
  have hale := Lib.hid hs.a_le
  obtain ⟨a, cap, rfl, hcap, hmx, hx⟩ := hs
  clear hx
  have hfew0 := fun W => dFew W n s f (.slice a ops.length cap) ops.length ⟨_, _, rfl⟩
  rw [decide_eq_true h] at hfew0
  have hfew := Lib.hid hfew0
  clear hfew0
  obtain ⟨oa, oc, rfl⟩ := hss.len
  rw [strs_length] at hss ⊢
  have hss' := Lib.hid hss
  clear hss
  have h20i : (20 : Int) < (ss.length : Int) := by omega
  clear h20
  go_enter Try.func15, Try.ntmps15
  go_wp2_with fail
  have hB0 := (Below.refl w.heap.size w).alloc (Nat.le_refl _) (.cells #[.int .i64 n, .int .i64 s, .int .i64 f] 84)
  have hz0 := SizAt.new w n s f 84
  generalize hW : w.alloc (.cells #[.int .i64 n, .int .i64 s, .int .i64 f] 84) = W0 at *
  have hsz0 : W0.heap.size = w.heap.size + 1 := by rw [← hW]; simp
  clear hW
  refine (dSanity _).mono ?_
  rintro e w1 ⟨rfl, hB1⟩
  have hB2 := hB0.trans (hB1.mono hB0.size)
  have hz1 := hz0.below hB1
  have hl1 : w.heap.size + 1 ≤ w1.heap.size := by have := hB1.size; omega
  obtain ⟨c0, c1, c2⟩ := id hz1
  clear hB0 hB1 hz0 hsz0
  go_wp2_with fail
  refine (hfew.out _).mono ?_
  rintro e w2 ⟨rfl, hB3⟩
  have hB4 := hB2.trans (hB3.mono hB2.size)
  have hz2 := hz1.below hB3
  have hl2 : w.heap.size + 1 ≤ w2.heap.size := by have := hB3.size; omega
  obtain ⟨c0', c1', c2'⟩ := id hz2
  have hz2' := Lib.hid hz2
  clear hB2 hB3 hfew hz1 hl1 c0 c1 c2 hz2
  clear hz2' c0' c1' c2' h
  go_wp2
  go_ret
  exact ⟨rfl, hB4⟩

set_option maxRecDepth 100000 in
set_option maxHeartbeats 40000000 in
theorem res_bad (w : World) (n s f : Int) (v : Value) (ops : List DOp) (hs : DScrAt w w.heap.size v ops) (ov : Value) (ss : List ByteArray) (hss : SlAt w (fun b => b < w.heap.size) ov (strs ss)) (h20 : ss.length ≤ 20) (h : n ≤ 12 ∧ ops.length ≤ 60) (hsz : s ≤ 9223372036854775807) (hfz : f ≤ 9223372036854775807) (hbad : n < 1 ∨ 4096 < n ∨ s < 1 ∨ 16 < s ∨ f < 1 ∨ 16 < f) :
    Calls Try.prog 15 #[.agg #[.int .i64 n, .int .i64 s, .int .i64 f], v, ov] w fun e w' => e = .returned (.bool true) ∧ Below w.heap.size w w' := by
  have hs' := Lib.hid hs
  have hale := Lib.hid hs.a_le
  obtain ⟨a, cap, rfl, hcap, hmx, hx⟩ := hs
  clear hx
  have hfew0 := fun W => dFew W n s f (.slice a ops.length cap) ops.length ⟨_, _, rfl⟩
  rw [decide_eq_true h] at hfew0
  have hfew := Lib.hid hfew0
  clear hfew0
  obtain ⟨oa, oc, rfl⟩ := hss.len
  rw [strs_length] at hss ⊢
  have hss' := Lib.hid hss
  clear hss
  have h20i : (ss.length : Int) ≤ 20 := by omega
  clear h20
  have hnew := Lib.hid (fun W => dNew_bad W n s f hsz hfz hbad)
  clear h hbad
  go_enter Try.func15, Try.ntmps15
  go_wp2_with fail
  have hB0 := (Below.refl w.heap.size w).alloc (Nat.le_refl _) (.cells #[.int .i64 n, .int .i64 s, .int .i64 f] 84)
  have hz0 := SizAt.new w n s f 84
  generalize hW : w.alloc (.cells #[.int .i64 n, .int .i64 s, .int .i64 f] 84) = W0 at *
  have hsz0 : W0.heap.size = w.heap.size + 1 := by rw [← hW]; simp
  clear hW
  refine (dSanity _).mono ?_
  rintro e w1 ⟨rfl, hB1⟩
  have hB2 := hB0.trans (hB1.mono hB0.size)
  have hz1 := hz0.below hB1
  have hl1 : w.heap.size + 1 ≤ w1.heap.size := by have := hB1.size; omega
  obtain ⟨c0, c1, c2⟩ := id hz1
  clear hB0 hB1 hz0 hsz0
  go_wp2_with fail
  refine (hfew.out _).mono ?_
  rintro e w2 ⟨rfl, hB3⟩
  have hB4 := hB2.trans (hB3.mono hB2.size)
  have hz2 := hz1.below hB3
  have hl2 : w.heap.size + 1 ≤ w2.heap.size := by have := hB3.size; omega
  obtain ⟨c0', c1', c2'⟩ := id hz2
  have hz2' := Lib.hid hz2
  clear hB2 hB3 hfew hz1 hl1 c0 c1 c2 hz2
  go_wp2_with fail
  go_loop [8] (fun q => ∃ i : Nat, i ≤ ss.length ∧ q = .int .i64 (i : Int)) (fun q => ss.length - (intOf q).toNat)
  case atStart => exact ⟨0, Nat.zero_le _, rfl⟩
  case round =>
    obtain ⟨i, hi, rfl⟩ := hrel
    by_cases hlt : i < ss.length
    · have hlti : (i : Int) < (ss.length : Int) := by omega
      obtain ⟨ob, oo, rfl, hob, hobl, hog⟩ := (hss'.out.old hB4).get (strs_get (List.getElem?_eq_getElem hlt))
      generalize ss[i] = x at *
      by_cases hx : 70 < x.size
      · have hxi : (70 : Int) < (x.size : Int) := by omega
        go_wp2_with fail
        go_ret
        exact ⟨rfl, hB4⟩
      · have hxi : (x.size : Int) ≤ 70 := by omega
        go_wp2_with fail
        go_round
        case rel => exact ⟨i + 1, by omega, by go_num⟩
        case measure => simp [intOf]; omega
    · obtain rfl : i = ss.length := by omega
      clear hi hlt
      go_wp2_with fail
      refine (hnew.out _).mono ?_
      rintro e w3 ⟨rfl, hB5⟩
      have hB6 := hB4.trans (hB5.mono hB4.size)
      clear hB4 hB5
      go_wp2
      go_ret
      exact ⟨rfl, hB6⟩

set_option maxRecDepth 100000 in
set_option maxHeartbeats 40000000 in
theorem res_ok (w : World) (n s f : Nat) (v : Value) (ops : List DOp) (hs : DScrAt w w.heap.size v ops) (ov : Value) (ss : List ByteArray) (hss : SlAt w (fun b => b < w.heap.size) ov (strs ss)) (h20 : ss.length ≤ 20) (h : n ≤ 12 ∧ ops.length ≤ 60) (n0 : 1 ≤ n) (s0 : 1 ≤ s) (s1 : s ≤ 16) (f0 : 1 ≤ f) (f1 : f ≤ 16) :
    Calls Try.prog 15 #[.agg #[.int .i64 n, .int .i64 s, .int .i64 f], v, ov] w fun e w' => e = .returned (.bool true) ∧ Below w.heap.size w w' := by
  have hs' := Lib.hid hs
  have hale := Lib.hid hs.a_le
  obtain ⟨a, cap, rfl, hcap, hmx, hx⟩ := hs
  clear hx
  have hfew0 := fun W => dFew W n s f (.slice a ops.length cap) ops.length ⟨_, _, rfl⟩
  rw [decide_eq_true (show (n : Int) ≤ 12 ∧ ops.length ≤ 60 by omega)] at hfew0
  have hfew := Lib.hid hfew0
  clear hfew0
  obtain ⟨oa, oc, rfl⟩ := hss.len
  rw [strs_length] at hss ⊢
  have hss' := Lib.hid hss
  clear hss
  have h20i : (ss.length : Int) ≤ 20 := by omega
  clear h20
  have hnew := Lib.hid (fun W => dNew_ok W n s f n0 (by omega) s0 s1 f0 f1)
  have hlen : (ops.length : Int) ≤ 60 := by omega
  have fi0 : (1 : Int) ≤ f := by omega
  have fi1 : (f : Int) ≤ 16 := by omega
  have si0 : (1 : Int) ≤ s := by omega
  have si1 : (s : Int) ≤ 16 := by omega
  have ni0 : (1 : Int) ≤ n := by omega
  have ni1 : (n : Int) ≤ 12 := by omega
  clear h
  go_enter Try.func15, Try.ntmps15
  go_wp2_with fail
  have hB0 := (Below.refl w.heap.size w).alloc (Nat.le_refl _) (.cells #[.int .i64 n, .int .i64 s, .int .i64 f] 84)
  have hz0 := SizAt.new w n s f 84
  generalize hW : w.alloc (.cells #[.int .i64 n, .int .i64 s, .int .i64 f] 84) = W0 at *
  have hsz0 : W0.heap.size = w.heap.size + 1 := by rw [← hW]; simp
  clear hW
  refine (dSanity _).mono ?_
  rintro e w1 ⟨rfl, hB1⟩
  have hB2 := hB0.trans (hB1.mono hB0.size)
  have hz1 := hz0.below hB1
  have hl1 : w.heap.size + 1 ≤ w1.heap.size := by have := hB1.size; omega
  obtain ⟨c0, c1, c2⟩ := id hz1
  clear hB0 hB1 hz0 hsz0
  go_wp2_with fail
  refine (hfew.out _).mono ?_
  rintro e w2 ⟨rfl, hB3⟩
  have hB4 := hB2.trans (hB3.mono hB2.size)
  have hz2 := hz1.below hB3
  have hl2 : w.heap.size + 1 ≤ w2.heap.size := by have := hB3.size; omega
  obtain ⟨c0', c1', c2'⟩ := id hz2
  have hz2' := Lib.hid hz2
  clear hB2 hB3 hfew hz1 hl1 c0 c1 c2 hz2
  go_wp2_with fail
  go_loop [8] (fun q => ∃ i : Nat, i ≤ ss.length ∧ q = .int .i64 (i : Int)) (fun q => ss.length - (intOf q).toNat)
  case atStart => exact ⟨0, Nat.zero_le _, rfl⟩
  case round =>
    obtain ⟨i, hi, rfl⟩ := hrel
    by_cases hlt : i < ss.length
    · have hlti : (i : Int) < (ss.length : Int) := by omega
      obtain ⟨ob, oo, rfl, hob, hobl, hog⟩ := (hss'.out.old hB4).get (strs_get (List.getElem?_eq_getElem hlt))
      generalize ss[i] = x at *
      by_cases hx : 70 < x.size
      · have hxi : (70 : Int) < (x.size : Int) := by omega
        go_wp2_with fail
        go_ret
        exact ⟨rfl, hB4⟩
      · have hxi : (x.size : Int) ≤ 70 := by omega
        go_wp2_with fail
        go_round
        case rel => exact ⟨i + 1, by omega, by go_num⟩
        case measure => simp [intOf]; omega
    · obtain rfl : i = ss.length := by omega
      clear hi hlt
      go_wp2_with fail
      refine (hnew.out _).mono ?_
      rintro e w3 ⟨B, rfl, hD3, hBa, hB5⟩
      have hI3 := Lib.hid (ComI.mk hD3 (hB4.trans (hB5.mono hB4.size)) (hz2'.out.below hB5) (fun k hk => by have := hBa k hk; omega))
      have hst := Lib.hid (At23.start (ops := ops) hD3)
      clear hB4 hB5 hnew hBa hl2 hD3 hz2'
      go_wp2_with fail
      go_loopw [11, 12] (fun iv q wr => ∃ k : Nat, k ≤ ops.length ∧ q = .int .i64 (k : Int) ∧ Hid (At23 wr B ops (newD n s f, []) k iv) ∧ Hid (ComI w B n s f (runD (ops.take k) (newD n s f, [])).1 wr)) (fun _ q _ => ops.length - (intOf q).toNat)
      case atStart => exact ⟨0, Nat.zero_le _, rfl, hst, hI3⟩
      case round =>
        obtain ⟨k, hk, rfl, hT, hI⟩ := hrel
        clear hst hI3
        by_cases hkl : k < ops.length
        · have hkli : (k : Int) < (ops.length : Int) := by omega
          obtain ⟨o, ho⟩ : ∃ o, ops[k]? = some o := ⟨ops[k], List.getElem?_eq_getElem hkl⟩
          have hT1 := Lib.hid (runD_take_succ ops (newD n s f, []) k o ho)
          obtain ⟨hD, him, hil⟩ := hT.out
          clear hT
          generalize runD (ops.take k) (newD n s f, []) = x at *
          obtain ⟨d, img⟩ := x
          obtain ⟨b, off, pv, rfl, hbP, g0, g1, g2, g3, g4, g5, hpv, hpl, hoa⟩ := hs'.out.get hI.out.below ho
          obtain ⟨pa, pn, pc, rfl⟩ := hpv.shape
          obtain ⟨ia, ik, ic, rfl⟩ := him.shape
          clear ho
          go_wp2_with fail
          refine (ldo23 _ B d hD o _ _ img (fun b => b < w.heap.size) hpv hpl hI.out.ok him hil hoa).mono ?_
          rintro e w8 ⟨iv', rfl, hD8, hF8, him8⟩
          have hI8 := Lib.hid (hI.out.op hD8 hF8)
          have hil8 := doI_length o img d hil hD.ok.m1
          have him8' := Lib.hid him8
          obtain ⟨ja, jk, jc, rfl⟩ := him8.shape
          clear hpv him hD g0 g1 g2 g3 g4 g5 hD8 hF8 him8 hI
          go_wp2_with fail
          generalize hW9 : w8.alloc (.cells #[.string (doT o d), .int .i64 (doE o img d)] 91) = w9
          have hF9 : Fr [] w8 w9 := by rw [← hW9]; exact (Fr.refl _ _).alloc _
          have hI9 := Lib.hid (hI8.out.fr0 hF9)
          have hT2 : Hid (At23 w9 B ops (newD n s f, []) (k + 1) (.slice ja jk jc)) := by
            have e := hT1.out
            exact ⟨by rw [e]; exact hI9.out.dev, by rw [e]; exact him8'.out.fr hF9 (by simp), by rw [e]; exact hil8⟩
          have hI10 : Hid (ComI w B n s f (runD (ops.take (k + 1)) (newD n s f, [])).1 w9) := by
            have e := hT1.out
            exact by rw [e]; exact hI9.out
          clear hW9 hF9 hI9 hI8 him8'
          go_roundw
          case rel => exact ⟨k + 1, by omega, by go_num, hT2, hI10⟩
          case measure => simp [intOf]; omega
        · obtain rfl : k = ops.length := by omega
          rw [List.take_length] at hI
          have hkp := Keeps.run ops hale.out (newD n s f, [])
          clear hT
          have hlens : Hid ((runD ops (newD n s f, [])).1.S.length = s ∧ (runD ops (newD n s f, [])).1.M.length = n ∧ (runD ops (newD n s f, [])).1.F.length = f) :=
            ⟨hkp.s.trans (by simp [newD]), hkp.m.trans (by simp [newD, newM]), hkp.f.trans (by simp [newD])⟩
          generalize (runD ops (newD n s f, [])).1 = d at *
          clear hkp hkl
          obtain ⟨wo, rfl⟩ : ∃ wo : World, wo = wr := ⟨_, rfl⟩
          go_wp2_with fail
          refine (dClone _ B _ hI.out.dev).mono ?_
          rintro e w4 ⟨C, rfl, hC, hCa, hB⟩
          have hI4 := Lib.hid (hI.out.bel hB)
          have hCB : Hid (∀ q ∈ B.l, q ∉ C.all) := fun q hq hm => by have h1 := hCa q hm; have h2 := hI.out.dev.all_lt q (B.l_all q hq); omega
          have hC4 := Lib.hid hC
          clear hC hCa hB hI
          go_wp2_with fail
          refine (dRestoreL _ B _ hI4.out.dev (fun b => b < w.heap.size) _ ss (hss'.out.old hI4.out.below) (fun b hb => (hI4.out.ok b hb).1)).mono ?_
          rintro e w5 ⟨rfl, h, hF⟩
          have hI5 := Lib.hid (hI4.out.op h hF)
          have hC5 := Lib.hid (hC4.out.fr hF hCB.out)
          clear h hF hI4 hC4
          go_wp2_with fail
          refine (dImage _ C _ hC5.out).mono ?_
          rintro e w6 ⟨v1, rfl, hv1, hB⟩
          have hI6 := Lib.hid (hI5.out.bel hB)
          have hC6 := Lib.hid (hC5.out.below hB)
          have hv1' := Lib.hid hv1
          obtain ⟨a1, m1, k1, rfl⟩ := hv1.shape
          clear hv1 hB hI5 hC5
          by_cases ho : okImg d.M ss
          case' pos =>
            have hE : ldE d.M ss = 0 := if_pos ho
            rw [hE]
            have hys : Hid (imgM ({ d with M := ldM d.M ss } : Dv).M = ss) := imgM_ldM ho
            have hW := Lib.hid (hss'.out.old hI6.out.below)
            have hr : Hid (decide ((∀ x ∈ ss, x.size = 64) ∧ (ss.length : Int) = n) = true) := decide_eq_true ⟨ho.2, by have := ho.1; have := hlens.out; omega⟩
            clear ho hE hv1'
            go_wp2_with fail
          case' neg =>
            have hE : ldE d.M ss = 1 := if_neg ho
            rw [hE]
            have hys : Hid (imgM ({ d with M := ldM d.M ss } : Dv).M = imgM d.M) := by show imgM (ldM d.M ss) = imgM d.M; unfold ldM; rw [if_neg ho]
            have hW := hv1'
            have hr : Hid (decide ((∀ x ∈ ss, x.size = 64) ∧ (ss.length : Int) = n) = false) := decide_eq_false (fun h => ho ⟨by have := h.2; have := hlens.out; omega, h.1⟩)
            clear ho hE hv1'
            go_wp2_with fail
          all_goals
            refine (dImage _ B _ hI6.out.dev).mono ?_
            rintro e w7 ⟨v2, rfl, hv2, hB⟩
            have hI7 := Lib.hid (hI6.out.bel hB)
            have hC7 := Lib.hid (hC6.out.below hB)
            have cS := wSameTexts w7 _ _ _ _ _ _ hv2 (hW.out.fr (S := []) (Fr.of_below hB) (by simp)) (by have := hI6.out.dev.ok.m1; unfold imgM; rw [List.length_map]; omega)
            rw [decide_eq_true hys.out] at cS
            obtain ⟨a2, m2, k2, rfl⟩ := hv2.shape
            clear hv2 hB hI6 hC6 hW hys
            go_wp2_with fail
            refine cS.mono ?_
            clear cS
            rintro e w8 ⟨rfl, hF⟩
            have hI8 := Lib.hid (hI7.out.fr0 hF)
            have hC8 := Lib.hid (hC7.out.fr hF (by simp))
            clear hF hI7 hC7
            go_wp2_with fail
            have c1 := dCounter _ B _ hI8.out.dev
            refine (show Calls Try.prog 61 #[.pointer (some ⟨B.d, 0, none⟩)] w8 fun e w' => e = .returned (.int .i64 d.cnt) ∧ w8 = w' from c1).mono ?_
            clear c1
            rintro e w' ⟨rfl, rfl⟩
            go_wp2_with fail
            refine (dCounter _ C _ hC8.out).mono ?_
            rintro e w' ⟨rfl, rfl⟩
            go_wp2_with fail
            have c1 := dNow _ B _ hI8.out.dev
            refine (show Calls Try.prog 62 #[.pointer (some ⟨B.d, 0, none⟩)] w8 fun e w' => e = .returned (.int .i64 d.clk) ∧ w8 = w' from c1).mono ?_
            clear c1
            rintro e w' ⟨rfl, rfl⟩
            go_wp2_with fail
            refine (dNow _ C _ hC8.out).mono ?_
            rintro e w' ⟨rfl, rfl⟩
            go_wp2_with fail
            have c1 := dUp _ B _ hI8.out.dev
            refine (show Calls Try.prog 55 #[.pointer (some ⟨B.d, 0, none⟩)] w8 fun e w' => e = .returned (.bool (!d.dn)) ∧ w8 = w' from c1).mono ?_
            clear c1
            rintro e w' ⟨rfl, rfl⟩
            go_wp2_with fail
            refine (dUp _ C _ hC8.out).mono ?_
            rintro e w' ⟨rfl, rfl⟩
            obtain ⟨z0, z1, z2⟩ := id hI8.out.z
            go_wp2_with fail
            go_loop [19] (fun q => ∃ m : Nat, m ≤ f ∧ q = .int .i64 (m : Int)) (fun q => f - (intOf q).toNat)
            case atStart => exact ⟨0, Nat.zero_le _, rfl⟩
            case round =>
              obtain ⟨m, hm, rfl⟩ := hrel
              by_cases hml : m < f
              · have hmli : (m : Int) < (f : Int) := by omega
                have cB0 := dBurned _ B _ hI8.out.dev m
                have cB := show Calls Try.prog 37 #[.pointer (some ⟨B.d, 0, none⟩), .int .i64 m] w8 fun e w' => e = .returned (.bool (dBd d m)) ∧ w8 = w' from cB0
                clear cB0
                have cC := dBurned _ C _ hC8.out m
                generalize dBd d m = bb at *
                go_wp2_with fail
                refine cB.mono ?_
                clear cB
                rintro e w' ⟨rfl, rfl⟩
                go_wp2_with fail
                refine cC.mono ?_
                clear cC
                rintro e w' ⟨rfl, rfl⟩
                go_wp2_with fail
                go_round
                case rel => exact ⟨m + 1, by omega, by go_num⟩
                case measure => simp [intOf]; omega
              · obtain rfl : m = f := by omega
                go_wp2_with fail
                go_loop [20] (fun q => ∃ j : Nat, j ≤ s ∧ q = .int .i64 (j : Int)) (fun q => s - (intOf q).toNat)
                case atStart => exact ⟨0, Nat.zero_le _, rfl⟩
                case round =>
                  obtain ⟨j, hj, rfl⟩ := hrel
                  by_cases hjl : j < s
                  · have hjli : (j : Int) < (s : Int) := by omega
                    have cB0 := dLoad _ B _ hI8.out.dev j
                    have cB := show Calls Try.prog 64 #[.pointer (some ⟨B.d, 0, none⟩), .int .i64 j] w8 fun e w' => e = .returned (.tuple #[.string (dLdT d j), .int .i64 (dLdE d j)]) ∧ w8 = w' from cB0
                    clear cB0
                    have cC := dLoad _ C _ hC8.out j
                    have hcmp := beqT (rfl : dLdT d j = dLdT d j)
                    generalize dLdT d j = x at *
                    generalize dLdE d j = E at *
                    go_wp2_with fail
                    refine cB.mono ?_
                    clear cB
                    rintro e w' ⟨rfl, rfl⟩
                    go_wp2_with fail
                    refine cC.mono ?_
                    clear cC
                    rintro e w' ⟨rfl, rfl⟩
                    go_wp2_with fail
                    go_round
                    case rel => exact ⟨j + 1, by omega, by go_num⟩
                    case measure => simp [intOf]; omega
                  · obtain rfl : j = s := by omega
                    have cR := dRight w8 _ _ ss (hss'.out.old hI8.out.below) (by omega) n _ hr
                    go_wp2_with fail
                    refine cR.mono ?_
                    clear cR
                    rintro e w' ⟨rfl, rfl⟩
                    go_wp2_with fail
                    go_ret
                    exact ⟨rfl, hI8.out.below⟩


theorem lRestore (w : World) (n s f : Int) (_hn : n ≤ 9223372036854775807) (hsz : s ≤ 9223372036854775807) (hfz : f ≤ 9223372036854775807) (v : Value) (ops : List DOp) (hs : DScrAt w w.heap.size v ops) (ov : Value) (ss : List ByteArray) (_hl : ss.length ≤ maxLen) (_hy : ∀ x ∈ ss, x.size ≤ maxLen) (hss : SlAt w (fun b => b < w.heap.size) ov (strs ss)) :
    Calls Try.prog 15 #[.agg #[.int .i64 n, .int .i64 s, .int .i64 f], v, ov] w fun e w' => e = .returned (.bool true) ∧ Below w.heap.size w w' := by
  by_cases h : n ≤ 12 ∧ ops.length ≤ 60
  · by_cases h20 : 20 < ss.length
    · exact res_long w n s f v ops hs ov ss hss h h20
    · by_cases hbad : n < 1 ∨ 4096 < n ∨ s < 1 ∨ 16 < s ∨ f < 1 ∨ 16 < f
      · exact res_bad w n s f v ops hs ov ss hss (by omega) h hsz hfz hbad
      · obtain ⟨n', rfl⟩ : ∃ k : Nat, n = (k : Int) := ⟨n.toNat, by omega⟩
        obtain ⟨s', rfl⟩ : ∃ k : Nat, s = (k : Int) := ⟨s.toNat, by omega⟩
        obtain ⟨f', rfl⟩ : ∃ k : Nat, f = (k : Int) := ⟨f.toNat, by omega⟩
        exact res_ok w n' s' f' v ops hs ov ss hss (by omega) (by omega) (by omega) (by omega) (by omega) (by omega) (by omega)
  · exact res_few w n s f v ops hs ov ss hss h

end Go.Proofs.Ytogljlloobjeoaa
