/- ZeroOrder, walked. -/
import Derived.Test.YtogljlloobjeoaaZSte
import Derived.Test.YtogljlloobjeoaaZOrl
import Derived.Test.YtogljlloobjeoaaZEm
namespace Go.Proofs.Ytogljlloobjeoaa
open Go.RowKit
set_option linter.unusedSimpArgs false

set_option maxRecDepth 100000 in
set_option maxHeartbeats 1600000 in
theorem zOrd_nil (w : World) (n s f t : Int) (v1 pv : Value)
    (hb : ∀ W : World, Below w.heap.size w W → Calls Try.prog 34 #[.agg #[.int .i64 n, .int .i64 s, .int .i64 f], v1] W fun e w' => e = .returned (.pointer none) ∧ Below W.heap.size W w') :
    Calls Try.prog 16 #[.agg #[.int .i64 n, .int .i64 s, .int .i64 f], v1, .int .i64 t, pv] w fun e w' => e = .returned (.bool true) ∧ Below w.heap.size w w' := by
  have hb' := Lib.hid hb
  clear hb
  go_enter Try.func16, Try.ntmps16
  go_wp2_with fail
  have hB0 := (Below.refl w.heap.size w).alloc (Nat.le_refl _) (.cells #[.int .i64 n, .int .i64 s, .int .i64 f] 61)
  refine (hb'.out _ hB0).mono ?_
  rintro e w1 ⟨rfl, hB1⟩
  have hB2 := hB0.trans (hB1.mono hB0.size)
  clear hB0 hB1 hb'
  go_wp2_with fail
  refine (zSanity _).mono ?_
  rintro e w2 ⟨rfl, hB3⟩
  have hB4 := hB2.trans (hB3.mono hB2.size)
  clear hB2 hB3
  go_wp2_with fail
  go_ret
  exact ⟨rfl, hB4⟩

/-- A row of values that stays. -/
structure RowAt (W : World) (b o : Nat) (xs : List Value) : Prop where
  lt : b < W.heap.size
  get : ∀ (j : Nat) x, xs[j]? = some x → W.cell? ⟨b, o + j, none⟩ = some x
theorem RowAt.fr {W W' : World} {b o : Nat} {xs : List Value} (h : RowAt W b o xs) {S : List Nat} (hf : Fr S W W') (hb : b ∉ S) : RowAt W' b o xs :=
  ⟨Nat.lt_of_lt_of_le h.lt hf.size, fun j x hx => (hf.cell (p := ⟨b, o + j, none⟩) h.lt hb).trans (h.get j x hx)⟩
structure OrdI (w : World) (B : DB) (n s f : Int) (g b0 o0 : Nat) (S I0 : List ByteArray) (W : World) : Prop where
  below : Below w.heap.size w W
  z : SzAt W w.heap.size n s f
  rg : RowAt W g 0 (strs S)
  r0 : RowAt W b0 o0 (strs I0)
  old : ∀ k ∈ B.l, w.heap.size ≤ k
  nz : w.heap.size ∉ B.l
  ng : g ∉ B.l
  n0 : b0 ∉ B.l
theorem OrdI.op {w : World} {B : DB} {n s f : Int} {g b0 o0 : Nat} {S I0 : List ByteArray} {W W' : World} (h : OrdI w B n s f g b0 o0 S I0 W) (hf : Fr B.l W W') : OrdI w B n s f g b0 o0 S I0 W' :=
  ⟨h.below.trans (hf.below h.below.size h.old), h.z.fr hf h.nz, h.rg.fr hf h.ng, h.r0.fr hf h.n0, h.old, h.nz, h.ng, h.n0⟩
theorem OrdI.bel {w : World} {B : DB} {n s f : Int} {g b0 o0 : Nat} {S I0 : List ByteArray} {W W' : World} (h : OrdI w B n s f g b0 o0 S I0 W) (hf : Below W.heap.size W W') : OrdI w B n s f g b0 o0 S I0 W' := h.op (Fr.of_below hf)

set_option maxRecDepth 100000 in
set_option maxHeartbeats 40000000 in
theorem zOrd_some (w : World) (n s f : Nat) (t : Int) (ht0 : -9223372036854775808 ≤ t) (ht : t ≤ 9223372036854775807) (v1 pv : Value) (ops : List DOp) (hs : DScrAt w w.heap.size v1 ops) (zs : List Int) (hzl : zs.length ≤ maxLen) (hps : SlAt w (fun b => b < w.heap.size) pv (ints zs)) (n0 : 1 ≤ n) (n1 : n ≤ 12) (hk : ops.length ≤ 40) (s0 : 1 ≤ s) (s1 : s ≤ 16) (f0 : 1 ≤ f) (f1 : f ≤ 16) :
    Calls Try.prog 16 #[.agg #[.int .i64 n, .int .i64 s, .int .i64 f], v1, .int .i64 t, pv] w fun e w' => e = .returned (.bool true) ∧ Below w.heap.size w w' := by
  obtain ⟨i0, hi, hz0', hz1', hz2'⟩ := info_parts infoStr
  have hb' := Lib.hid (fun (W : World) (hW : Below w.heap.size w W) => build_ok W n s f v1 ops _ (hs.below hW) hW.size n0 n1 hk s0 s1 f0 f1)
  have hkp := Lib.hid (Keeps.run ops hs.a_le (newD n s f, []))
  have hps' := Lib.hid hps
  have hmk := mk64
  have hcv : ∀ W : World, (convert 94 9 (.slice (some ⟨W.heap.size, 0, none⟩) 64 64)).run Try.prog (W.alloc (.cells (tArr 0 64 0) 5)).drew = .ok (.string zero64) (W.alloc (.cells (tArr 0 64 0) 5)).drew := fun W => cv64 W.drew
  clear hs hps
  go_enter Try.func16, Try.ntmps16
  go_wp2_with fail
  have hB0 := (Below.refl w.heap.size w).alloc (Nat.le_refl _) (.cells #[.int .i64 n, .int .i64 s, .int .i64 f] 61)
  have hz0 := SzAt.new w n s f 61
  generalize hW : w.alloc (.cells #[.int .i64 n, .int .i64 s, .int .i64 f] 61) = W0 at *
  have hsz0 : W0.heap.size = w.heap.size + 1 := by rw [← hW]; simp
  clear hW
  refine (hb'.out _ hB0).mono ?_
  rintro e w1 ⟨B, rfl, hD, hBa, hB1⟩
  have hB2 := hB0.trans (hB1.mono hB0.size)
  have hA : Hid (∀ k ∈ B.all, w.heap.size + 1 ≤ k) := fun k hk => by have := hBa k hk; omega
  have hA1 : Hid (∀ k ∈ B.l, w.heap.size ≤ k) := fun k hk => by have := hA.out k (B.l_all k hk); omega
  have hA2 : Hid (w.heap.size ∉ B.l) := fun hm => by have := hA.out _ (B.l_all _ hm); omega
  have hz1 := Lib.hid (hz0.fr (S := []) (Fr.of_below hB1) (by simp))
  have hlen : (runD ops (newD n s f, [])).1.S.length = s ∧ (runD ops (newD n s f, [])).1.M.length = n ∧ (runD ops (newD n s f, [])).1.F.length = f := by
    have := hkp.out
    exact ⟨this.s.trans (by simp [newD]), this.m.trans (by simp [newD, newM]), this.f.trans (by simp [newD])⟩
  generalize (runD ops (newD n s f, [])).1 = d at *
  have hlen' := Lib.hid hlen
  have hD1 := Lib.hid hD
  clear hB0 hB1 hb' hBa hD hkp hlen hz0 hsz0
  by_cases ht2 : t < 0
  · go_wp2_with fail
    refine (zSanity _).mono ?_
    rintro e w2 ⟨rfl, hB3⟩
    have hB4 := hB2.trans (hB3.mono hB2.size)
    clear hB2 hB3
    go_wp2_with fail
    go_ret
    exact ⟨rfl, hB4⟩
  have ht2i : 0 ≤ t := by omega
  clear ht2
  go_wp2_with fail
  refine (dMount _ B _ hD1.out (fun _ => False) _ [] (SlAt.nil _ _) (by simp) (fun _ h => h.elim)).mono ?_
  rintro e w2 ⟨rfl, h, hF⟩
  have hB3 := hB2.trans (hF.below hB2.size hA1.out)
  have hz2 := Lib.hid (hz1.out.fr hF hA2.out)
  have hlen2 : Hid ((dMo d []).S.length = s ∧ (dMo d []).M.length = n ∧ (dMo d []).F.length = f) := ⟨hlen'.out.1, (cutM_length _ _).trans hlen'.out.2.1, hlen'.out.2.2⟩
  have hcalm := Lib.hid (Calm.mo d [])
  generalize dMo d [] = d2 at *
  have hD2 := Lib.hid h
  clear h hF hD1 hB2 hz1 hlen'
  have c := dBurned _ B _ hD2.out 0
  have c' := dBurned _ B _ hD2.out 1
  cases hb0 : dBd d2 0
  case true =>
    rw [hb0] at c
    clear hb0 c'
    go_wp2_with fail
    refine c.mono ?_
    clear c
    rintro e w' ⟨rfl, rfl⟩
    go_wp2_with fail
    refine (zSanity _).mono ?_
    rintro e w3 ⟨rfl, hB⟩
    have hB4 := hB3.trans (hB.mono hB3.size)
    clear hB3 hB
    go_wp2_with fail
    go_ret
    exact ⟨rfl, hB4⟩
  rw [hb0] at c
  go_wp2_with fail
  refine c.mono ?_
  clear c
  rintro e w' ⟨rfl, rfl⟩
  cases hb1 : dBd d2 1
  case true =>
    rw [hb1] at c'
    clear hb1 hb0
    go_wp2_with fail
    refine c'.mono ?_
    clear c'
    rintro e w' ⟨rfl, rfl⟩
    go_wp2_with fail
    refine (zSanity _).mono ?_
    rintro e w3 ⟨rfl, hB⟩
    have hB4 := hB3.trans (hB.mono hB3.size)
    clear hB3 hB
    go_wp2_with fail
    go_ret
    exact ⟨rfl, hB4⟩
  rw [hb1] at c'
  go_wp2_with fail
  refine c'.mono ?_
  clear c'
  rintro e w' ⟨rfl, rfl⟩
  have hord := Lib.hid (order_plain d2 hcalm.out hD2.out.ok hb1 t ht2i ht zs)
  have hdn := Lib.hid hcalm.out.dn
  have hlS := Lib.hid hlen2.out.1
  have hlM := Lib.hid hlen2.out.2.1
  clear hb0 hb1 hcalm hlen2
  go_wp2_with fail
  go_loopw [10, 11] (fun v q wr => ∃ j : Nat, j ≤ s ∧ q = .int .i64 (j : Int) ∧ wr.ownsRow w2.heap.size 9 1 v (strs (d2.S.take j)).length (strs (d2.S.take j)) ∧ Below w2.heap.size w2 wr) (fun _ q _ => s - (intOf q).toNat)
  case atStart => exact ⟨0, Nat.zero_le _, rfl, World.ownsRow_nil _ _ _ _, Below.refl _ _⟩
  case round =>
    obtain ⟨j, hj, rfl, hown, hB⟩ := hrel
    have hBs := hB.size
    obtain ⟨c0, c1, c2⟩ := hz2.out.fr (S := []) (Fr.of_below hB) (by simp)
    by_cases hlt : j < s
    · have hlti : (j : Int) < (s : Int) := by omega
      have hjl : j < d2.S.length := by have := hlS.out; omega
      have hsu := Lib.hid (strs_succ d2.S j hjl)
      have hle : (strs (d2.S.take j)).length ≤ 16 := by simp [strs]; omega
      have c := dLoad wr B d2 (hD2.out.below hB) j
      rw [(dLd_in hdn.out hjl).1, (dLd_in hdn.out hjl).2] at c
      go_wp2_with fail
      refine c.mono ?_
      clear c
      rintro e w' ⟨rfl, rfl⟩
      go_wp2_with (at_builtin; refine wpList_append_own _ rfl _ _ 54 rfl w2.heap.size 9 i0 (.string ByteArray.empty) 1 16 Try.underlying54 hi hz0' hz1' hz2' rfl (by decide) _ _ _ rfl (hown.alloc _) ⟨wr.heap.size, 0, none⟩ 1 1 [.string d2.S[j]] rfl rfl (cell_one _ _ _) (oneC_str _) ?c3 ?c4 ?c5 ?_)
      case c3 => unfold maxLen; omega
      case c4 => omega
      case c5 => simp; omega
      intro v' w5 hown' hgrow _
      have hB' : Below w2.heap.size w2 w5 := (hB.alloc hBs _).grown hgrow (by simp; omega) (fun k hk => (hown.lt k hk).1)
      have hown2 : w5.ownsRow w2.heap.size 9 1 v' (strs (d2.S.take (j + 1))).length (strs (d2.S.take (j + 1))) := by rw [hsu.out]; simpa using hown'
      clear hown' hgrow hown hB c0 c1 c2
      go_wp2
      go_roundw
      case rel => exact ⟨j + 1, by omega, by go_num, hown2, hB'⟩
      case measure => simp [intOf]; omega
    · obtain rfl : j = s := by omega
      rw [show d2.S.take j = d2.S from List.take_of_length_le (by have := hlS.out; omega)] at hown
      have hlb : (strs d2.S).length = j := by have := hlS.out; simpa [strs] using this
      rw [hlb] at hown
      clear hlb
      obtain ⟨g, cp, rfl, hcp, hgb, hgl, hgc, hgz⟩ := row_of_own hown (by omega)
      have hgc' := Lib.hid hgc
      have hB4 := hB3.trans (hB.mono hB3.size)
      have hD3 := Lib.hid (hD2.out.below hB)
      have hz3 := Lib.hid (hz2.out.fr (S := []) (Fr.of_below hB) (by simp))
      have hgB : Hid (g ∉ B.all) := fun hm => by have := hD2.out.all_lt g hm; omega
      obtain ⟨wo, rfl⟩ : ∃ wo : World, wo = wr := ⟨_, rfl⟩
      clear hown hgc hgz hB hB3 hD2 hz2
      go_wp2_with fail
      refine (dImage _ B _ hD3.out).mono ?_
      rintro e w3 ⟨v0, rfl, ⟨a0, cp0, rfl, hcp0, hx0⟩, hB⟩
      have hl0 : (strs (imgM d2.M)).length = n := by simp [strs, imgM, hlM.out]
      have hl0i : (imgM d2.M).length = n := by simp [imgM, hlM.out]
      rw [hl0] at hcp0 hx0 ⊢
      obtain ⟨b0, o0, rfl, hb0, hbl0, hx0⟩ := hx0 (by omega)
      have hI3 : OrdI w B n j f g b0 o0 d2.S (imgM d2.M) w3 :=
        ⟨hB4.trans (hB.mono hB4.size), hz3.out.fr (S := []) (Fr.of_below hB) (by simp), ⟨by have := hB.size; omega, fun m x hm => by rw [Nat.zero_add]; exact (hB.cell (p := ⟨g, m, none⟩) hgl).trans (hgc'.out m x hm)⟩, ⟨hbl0, hx0⟩, hA1.out, hA2.out,
          fun hm => hgB.out (B.l_all g hm), fun hm => by have := hD3.out.all_lt b0 (B.l_all b0 hm); omega⟩
      have hI := Lib.hid hI3
      have hD4 := Lib.hid (hD3.out.below hB)
      have hl0' := Lib.hid hl0i
      clear hI3 hB4 hz3 hgc' hgB hD3 hB hx0 hb0 hbl0 hl0 hl0i hgl hgb hcp0 hcp
      go_wp2_with fail
      refine (dTrip _ B _ hD4.out t ht).mono ?_
      rintro e w4 ⟨rfl, h, hF⟩
      have hI2 := Lib.hid (hI.out.op hF)
      have hD5 := Lib.hid h
      clear h hF hI hD4
      go_wp2_with fail
      refine (zBegin _ B _ hD5.out).mono ?_
      rintro e w5 ⟨rfl, h, hF⟩
      have hI := Lib.hid (hI2.out.op hF)
      have hD4 := Lib.hid h
      clear h hF hI2 hD5
      go_wp2_with fail
      have hps5 := hps'.out.fr (S := []) (Fr.of_below hI.out.below) (by simp)
      refine (dMount _ B _ hD4.out (fun b => b < w.heap.size) _ zs hps5 hzl (fun b hb => ⟨fun hm => by have := hA1.out b hm; omega, by have := hI.out.below.size; omega⟩)).mono ?_
      rintro e w6 ⟨rfl, h, hF⟩
      have hI2 := Lib.hid (hI.out.op hF)
      have hlM4 : Hid ((dMo (beginZ (dTr d2 t)).2 zs).M.length = n) := hord.out.keep.m.trans hlM.out
      have hlS4 : Hid ((dMo (beginZ (dTr d2 t)).2 zs).S.length = j) := hord.out.keep.s.trans hlS.out
      have hord' : Hid ((dMo (beginZ (dTr d2 t)).2 zs).dn = false) := hord.out.up
      generalize dMo (beginZ (dTr d2 t)).2 zs = d4 at *
      have hD5 := Lib.hid h
      clear h hF hI hD4 hps5 hps'
      go_wp2_with fail
      refine (dImage _ B _ hD5.out).mono ?_
      rintro e w7 ⟨v0, rfl, ⟨a0, cp1, rfl, hcp1, hx1⟩, hB⟩
      have hl1 : (strs (imgM d4.M)).length = n := by simp [strs, imgM, hlM4.out]
      have hl1i : (imgM d4.M).length = n := by simp [imgM, hlM4.out]
      rw [hl1] at hcp1 hx1 ⊢
      obtain ⟨b1, o1, rfl, hb1, hbl1, hx1⟩ := hx1 (by omega)
      have hI := Lib.hid (hI2.out.bel hB)
      have hr1 : Hid (RowAt w7 b1 o1 (strs (imgM d4.M))) := ⟨hbl1, hx1⟩
      have hl1' := Lib.hid hl1i
      have hD6 := Lib.hid (hD5.out.below hB)
      obtain ⟨c0, c1, c2⟩ := hI.out.z
      clear hD5 hI2 hB hx1 hbl1 hb1 hl1 hl1i
      go_wp2_with fail
      go_loopw [16, 17] (fun cv q wr => ∃ (i : Nat) (c : Bool), i ≤ n ∧ q = .int .i64 (i : Int) ∧ cv = .bool c ∧ Hid (c = true → imgM d4.M ≠ imgM d2.M) ∧ Below w7.heap.size w7 wr) (fun _ q _ => n - (intOf q).toNat)
      case atStart => exact ⟨0, false, Nat.zero_le _, rfl, rfl, (fun h => by cases h), Below.refl _ _⟩
      case round =>
        obtain ⟨i, c, hin, rfl, rfl, hch, hB⟩ := hrel
        clear c0 c1 c2
        by_cases hlt2 : i < n
        · have hlti : (i : Int) < (n : Int) := by omega
          have hg0 : i < (imgM d2.M).length := by have := hl0'.out; omega
          have hg1 : i < (imgM d4.M).length := by have := hl1'.out; omega
          have e0 := List.getElem?_eq_getElem hg0
          have e1 := List.getElem?_eq_getElem hg1
          have k0 := ((hI.out.bel hB).r0).get i (.string (imgM d2.M)[i]) (by simp [strs, e0])
          have k1 := (hr1.out.fr (S := []) (Fr.of_below hB) (by simp)).get i (.string (imgM d4.M)[i]) (by simp [strs, e1])
          generalize (imgM d2.M)[i] = x at *
          generalize (imgM d4.M)[i] = y at *
          -- CASES
          have hwh := Lib.hid hord.out.whole'
          have hL1 := World.block_lt_of_cell? _ _ k0
          have hL2 := World.block_lt_of_cell? _ _ k1
          simp only at hL1 hL2
          by_cases hxy : x = y
          · have hcmp := beqT hxy
            clear hxy e0 e1
            cases hbb : dBd d4 1
            · have hbb' := Lib.hid hbb
              clear hbb
              cases c
              · go_wp2_with fail
                go_quiet (fail)
                go_wp2_with fail
                generalize hWd : wr.drewN nq = wd
                have hFd : Fr [] wr wd := by rw [← hWd]; exact (Fr.refl _ _).drewN _
                have hBd := hB.trans (hFd.below hB.size (by simp))
                clear hWd
                have k0d := (hFd.cell hL1 (by simp)).trans k0
                have k1d := (hFd.cell hL2 (by simp)).trans k1
                have cB : ∀ m, Calls Try.prog 37 #[.pointer (some ⟨B.d, 0, none⟩), .int .i64 1] (wd.drewN m) fun e w' => e = .returned (.bool false) ∧ w' = wd.drewN m := fun m => by
                  have := dBurned (wd.drewN m) B d4 (((hD6.out.below hB).fr hFd (by simp)).fr (S := []) ((Fr.refl _ _).drewN _) (by simp)) 1
                  rw [hbb'.out] at this
                  exact this.mono fun _ _ ⟨he, hw⟩ => ⟨he, hw.symm⟩
                have cB' := Lib.hid cB
                clear k0 k1 hL1 hL2 cB hFd hB
                go_wp2_with fail
                go_quiet ((go_at_call 37; exact Calls.quiet_of_same (cB'.out _)))
                go_wp2_with fail
                generalize hWe : wd.drewN nq = we
                have hFe : Fr [] wd we := by rw [← hWe]; exact (Fr.refl _ _).drewN _
                have hBe := hBd.trans (hFe.below hBd.size (by simp))
                clear hWe
                go_roundw
                case rel => exact ⟨i + 1, false, by omega, by go_num, rfl, hch, hBe⟩
                case measure => simp [intOf]; omega
              · go_wp2_with fail
                go_quiet (fail)
                go_wp2_with fail
                generalize hWd : wr.drewN nq = wd
                have hFd : Fr [] wr wd := by rw [← hWd]; exact (Fr.refl _ _).drewN _
                have hBd := hB.trans (hFd.below hB.size (by simp))
                clear hWd
                have k0d := (hFd.cell hL1 (by simp)).trans k0
                have k1d := (hFd.cell hL2 (by simp)).trans k1
                have cB : ∀ m, Calls Try.prog 37 #[.pointer (some ⟨B.d, 0, none⟩), .int .i64 1] (wd.drewN m) fun e w' => e = .returned (.bool false) ∧ w' = wd.drewN m := fun m => by
                  have := dBurned (wd.drewN m) B d4 (((hD6.out.below hB).fr hFd (by simp)).fr (S := []) ((Fr.refl _ _).drewN _) (by simp)) 1
                  rw [hbb'.out] at this
                  exact this.mono fun _ _ ⟨he, hw⟩ => ⟨he, hw.symm⟩
                have cB' := Lib.hid cB
                clear k0 k1 hL1 hL2 cB hFd hB
                go_wp2_with fail
                go_quiet ((go_at_call 37; exact Calls.quiet_of_same (cB'.out _)))
                go_wp2_with fail
                generalize hWe : wd.drewN nq = we
                have hFe : Fr [] wd we := by rw [← hWe]; exact (Fr.refl _ _).drewN _
                have hBe := hBd.trans (hFe.below hBd.size (by simp))
                clear hWe
                go_roundw
                case rel => exact ⟨i + 1, true, by omega, by go_num, rfl, (fun _ => hch.out trivial), hBe⟩
                case measure => simp [intOf]; omega
            · have hbb' := Lib.hid hbb
              clear hbb
              cases c
              · go_wp2_with fail
                go_quiet (fail)
                go_wp2_with fail
                generalize hWd : wr.drewN nq = wd
                have hFd : Fr [] wr wd := by rw [← hWd]; exact (Fr.refl _ _).drewN _
                have hBd := hB.trans (hFd.below hB.size (by simp))
                clear hWd
                have k0d := (hFd.cell hL1 (by simp)).trans k0
                have k1d := (hFd.cell hL2 (by simp)).trans k1
                have cB : ∀ m, Calls Try.prog 37 #[.pointer (some ⟨B.d, 0, none⟩), .int .i64 1] (wd.drewN m) fun e w' => e = .returned (.bool true) ∧ w' = wd.drewN m := fun m => by
                  have := dBurned (wd.drewN m) B d4 (((hD6.out.below hB).fr hFd (by simp)).fr (S := []) ((Fr.refl _ _).drewN _) (by simp)) 1
                  rw [hbb'.out] at this
                  exact this.mono fun _ _ ⟨he, hw⟩ => ⟨he, hw.symm⟩
                have cB' := Lib.hid cB
                clear k0 k1 hL1 hL2 cB hFd hB
                go_wp2_with fail
                go_quiet ((go_at_call 37; exact Calls.quiet_of_same (cB'.out _)))
                go_wp2_with fail
                generalize hWe : wd.drewN nq = we
                have hFe : Fr [] wd we := by rw [← hWe]; exact (Fr.refl _ _).drewN _
                have hBe := hBd.trans (hFe.below hBd.size (by simp))
                clear hWe
                go_roundw
                case rel => exact ⟨i + 1, false, by omega, by go_num, rfl, hch, hBe⟩
                case measure => simp [intOf]; omega
              · go_wp2_with fail
                go_quiet (fail)
                go_wp2_with fail
                generalize hWd : wr.drewN nq = wd
                have hFd : Fr [] wr wd := by rw [← hWd]; exact (Fr.refl _ _).drewN _
                have hBd := hB.trans (hFd.below hB.size (by simp))
                clear hWd
                have k0d := (hFd.cell hL1 (by simp)).trans k0
                have k1d := (hFd.cell hL2 (by simp)).trans k1
                have cB : ∀ m, Calls Try.prog 37 #[.pointer (some ⟨B.d, 0, none⟩), .int .i64 1] (wd.drewN m) fun e w' => e = .returned (.bool true) ∧ w' = wd.drewN m := fun m => by
                  have := dBurned (wd.drewN m) B d4 (((hD6.out.below hB).fr hFd (by simp)).fr (S := []) ((Fr.refl _ _).drewN _) (by simp)) 1
                  rw [hbb'.out] at this
                  exact this.mono fun _ _ ⟨he, hw⟩ => ⟨he, hw.symm⟩
                have cB' := Lib.hid cB
                clear k0 k1 hL1 hL2 cB hFd hB
                go_wp2_with fail
                go_quiet ((go_at_call 37; exact Calls.quiet_of_same (cB'.out _)))
                go_wp2_with fail
                generalize hWe : wd.drewN nq = we
                have hFe : Fr [] wd we := by rw [← hWe]; exact (Fr.refl _ _).drewN _
                have hBe := hBd.trans (hFe.below hBd.size (by simp))
                clear hWe
                go_roundw
                case rel => exact ⟨i + 1, true, by omega, by go_num, rfl, (fun _ => hch.out trivial), hBe⟩
                case measure => simp [intOf]; omega
          · have hcmp := beqF hxy
            have hne : Hid (imgM d4.M ≠ imgM d2.M) := fun e => by rw [e, e0] at e1; injection e1 with e1; exact hxy e1
            have hyz : Hid (dBd d4 1 = true → y = zero64) := fun hb => (hwh.out hb).2 i x y e0 e1 hxy
            clear hxy e0 e1
            cases hbb : dBd d4 1
            · have hbb' := Lib.hid hbb
              clear hbb
              cases c
              · go_wp2_with fail
                go_quiet (fail)
                go_wp2_with fail
                generalize hWd : wr.drewN nq = wd
                have hFd : Fr [] wr wd := by rw [← hWd]; exact (Fr.refl _ _).drewN _
                have hBd := hB.trans (hFd.below hB.size (by simp))
                clear hWd
                have k0d := (hFd.cell hL1 (by simp)).trans k0
                have k1d := (hFd.cell hL2 (by simp)).trans k1
                have cB : ∀ m, Calls Try.prog 37 #[.pointer (some ⟨B.d, 0, none⟩), .int .i64 1] (wd.drewN m) fun e w' => e = .returned (.bool false) ∧ w' = wd.drewN m := fun m => by
                  have := dBurned (wd.drewN m) B d4 (((hD6.out.below hB).fr hFd (by simp)).fr (S := []) ((Fr.refl _ _).drewN _) (by simp)) 1
                  rw [hbb'.out] at this
                  exact this.mono fun _ _ ⟨he, hw⟩ => ⟨he, hw.symm⟩
                have cB' := Lib.hid cB
                clear k0 k1 hL1 hL2 cB hFd hB
                go_wp2_with fail
                go_quiet ((go_at_call 37; exact Calls.quiet_of_same (cB'.out _)))
                go_wp2_with fail
                generalize hWe : wd.drewN nq = we
                have hFe : Fr [] wd we := by rw [← hWe]; exact (Fr.refl _ _).drewN _
                have hBe := hBd.trans (hFe.below hBd.size (by simp))
                clear hWe
                go_roundw
                case rel => exact ⟨i + 1, true, by omega, by go_num, rfl, (fun _ => hne.out), hBe⟩
                case measure => simp [intOf]; omega
              · go_wp2_with fail
                go_quiet (fail)
                go_wp2_with fail
                generalize hWd : wr.drewN nq = wd
                have hFd : Fr [] wr wd := by rw [← hWd]; exact (Fr.refl _ _).drewN _
                have hBd := hB.trans (hFd.below hB.size (by simp))
                clear hWd
                have k0d := (hFd.cell hL1 (by simp)).trans k0
                have k1d := (hFd.cell hL2 (by simp)).trans k1
                have cB : ∀ m, Calls Try.prog 37 #[.pointer (some ⟨B.d, 0, none⟩), .int .i64 1] (wd.drewN m) fun e w' => e = .returned (.bool false) ∧ w' = wd.drewN m := fun m => by
                  have := dBurned (wd.drewN m) B d4 (((hD6.out.below hB).fr hFd (by simp)).fr (S := []) ((Fr.refl _ _).drewN _) (by simp)) 1
                  rw [hbb'.out] at this
                  exact this.mono fun _ _ ⟨he, hw⟩ => ⟨he, hw.symm⟩
                have cB' := Lib.hid cB
                clear k0 k1 hL1 hL2 cB hFd hB
                go_wp2_with fail
                go_quiet ((go_at_call 37; exact Calls.quiet_of_same (cB'.out _)))
                go_wp2_with fail
                generalize hWe : wd.drewN nq = we
                have hFe : Fr [] wd we := by rw [← hWe]; exact (Fr.refl _ _).drewN _
                have hBe := hBd.trans (hFe.below hBd.size (by simp))
                clear hWe
                go_roundw
                case rel => exact ⟨i + 1, true, by omega, by go_num, rfl, (fun _ => hch.out trivial), hBe⟩
                case measure => simp [intOf]; omega
            · have hbb' := Lib.hid hbb
              have hcz := beqT (hyz.out hbb)
              clear hbb hyz
              cases c
              · go_wp2_with fail
                go_quiet (fail)
                go_wp2_with fail
                generalize hWd : wr.drewN nq = wd
                have hFd : Fr [] wr wd := by rw [← hWd]; exact (Fr.refl _ _).drewN _
                have hBd := hB.trans (hFd.below hB.size (by simp))
                clear hWd
                have k0d := (hFd.cell hL1 (by simp)).trans k0
                have k1d := (hFd.cell hL2 (by simp)).trans k1
                have hM1 : b0 < wd.heap.size := Nat.lt_of_lt_of_le hL1 hFd.size
                have hM2 : b1 < wd.heap.size := Nat.lt_of_lt_of_le hL2 hFd.size
                have hDh := Lib.hid (show Calls Try.prog 37 #[.pointer (some ⟨B.d, 0, none⟩), .int .i64 1] wd.drew fun e w' => e = .returned (.bool true) ∧ wd.drew = w' from by
                  have := dBurned wd.drew B d4 (((hD6.out.below hB).fr hFd (by simp)).fr (S := []) (Fr.refl _ _).drew (by simp)) 1
                  rw [hbb'.out] at this
                  exact this)
                have hBd' := Lib.hid hBd
                clear k0 k1 hL1 hL2 hFd hB hBd
                go_wp2_with fail
                go_region_with (go_at_call 37; refine hDh.out.mono ?_; rintro e w9 ⟨rfl, rfl⟩)
                all_goals
                  go_wp2_with fail
                  go_roundw
                  case rel => exact ⟨i + 1, true, by omega, by go_num, rfl, (fun _ => hne.out), by first | exact hBd'.out | exact hBd'.out.trans ((((Fr.refl [] _).drew).alloc _).below hBd'.out.size (by simp))⟩
                  case measure => simp [intOf]; omega
              · go_wp2_with fail
                go_quiet (fail)
                go_wp2_with fail
                generalize hWd : wr.drewN nq = wd
                have hFd : Fr [] wr wd := by rw [← hWd]; exact (Fr.refl _ _).drewN _
                have hBd := hB.trans (hFd.below hB.size (by simp))
                clear hWd
                have k0d := (hFd.cell hL1 (by simp)).trans k0
                have k1d := (hFd.cell hL2 (by simp)).trans k1
                have hM1 : b0 < wd.heap.size := Nat.lt_of_lt_of_le hL1 hFd.size
                have hM2 : b1 < wd.heap.size := Nat.lt_of_lt_of_le hL2 hFd.size
                have hDh := Lib.hid (show Calls Try.prog 37 #[.pointer (some ⟨B.d, 0, none⟩), .int .i64 1] wd.drew fun e w' => e = .returned (.bool true) ∧ wd.drew = w' from by
                  have := dBurned wd.drew B d4 (((hD6.out.below hB).fr hFd (by simp)).fr (S := []) (Fr.refl _ _).drew (by simp)) 1
                  rw [hbb'.out] at this
                  exact this)
                have hBd' := Lib.hid hBd
                clear k0 k1 hL1 hL2 hFd hB hBd
                go_wp2_with fail
                go_region_with (go_at_call 37; refine hDh.out.mono ?_; rintro e w9 ⟨rfl, rfl⟩)
                all_goals
                  go_wp2_with fail
                  go_roundw
                  case rel => exact ⟨i + 1, true, by omega, by go_num, rfl, (fun _ => hch.out trivial), by first | exact hBd'.out | exact hBd'.out.trans ((((Fr.refl [] _).drew).alloc _).below hBd'.out.size (by simp))⟩
                  case measure => simp [intOf]; omega
        · obtain rfl : i = n := by omega
          clear hlt2
          have hI3 := Lib.hid (hI.out.bel hB)
          have hD7 := Lib.hid (hD6.out.below hB)
          obtain ⟨wl, rfl⟩ : ∃ wl : World, wl = wr := ⟨_, rfl⟩
          clear hI hD6 hr1 hB
          have c0 := dBurned wl B d4 hD7.out 0
          cases hb0 : dBd d4 0
          · rw [hb0] at c0
            have hno := Lib.hid (hord.out.none' hb0)
            have hcf : Hid (c = false) := by
              cases c
              · rfl
              · exact absurd hno.out.1 (hch.out rfl)
            clear hb0 hch hord
            obtain ⟨z0, z1, z2⟩ := hI3.out.z
            go_wp2_with fail
            refine c0.mono ?_
            clear c0
            rintro e w' ⟨rfl, rfl⟩
            go_wp2_with fail
            clear z0 z1 z2
            go_loop [18] (fun q => ∃ k : Nat, k ≤ j ∧ q = .int .i64 (k : Int)) (fun q => j - (intOf q).toNat)
            case atStart => exact ⟨0, Nat.zero_le _, rfl⟩
            case round =>
              obtain ⟨k, hkj, rfl⟩ := hrel
              obtain ⟨z0, z1, z2⟩ := hI3.out.z
              by_cases hkl : k < j
              · have hkli : (k : Int) < (j : Int) := by omega
                have hkS : k < d4.S.length := by have := hlS4.out; omega
                have cL := dLoad wl B d4 hD7.out k
                rw [(dLd_in hord'.out hkS).1, (dLd_in hord'.out hkS).2] at cL
                have hS2 : d2.S[k]? = some d4.S[k] := by rw [← hno.out.2]; exact List.getElem?_eq_getElem hkS
                have hg := hI3.out.rg.get k (.string d4.S[k]) (by simp [strs, hS2])
                rw [Nat.zero_add] at hg
                have hcmp := beqT (rfl : d4.S[k] = d4.S[k])
                generalize d4.S[k] = x at *
                go_wp2_with fail
                refine cL.mono ?_
                clear cL
                rintro e w' ⟨rfl, rfl⟩
                go_wp2_with fail
                go_round
                case rel => exact ⟨k + 1, by omega, by go_num⟩
                case measure => simp [intOf]; omega
              · obtain rfl : k = j := by omega
                have hcf' := hcf.out
                subst hcf'
                go_wp2_with fail
                refine (zSanity _).mono ?_
                rintro e w9 ⟨rfl, hB9⟩
                have hBf := hI3.out.below.trans (hB9.mono hI3.out.below.size)
                go_wp2_with fail
                go_ret
                exact ⟨rfl, hBf⟩
          · rw [hb0] at c0
            clear hb0
            go_wp2_with fail
            refine c0.mono ?_
            clear c0
            rintro e w' ⟨rfl, rfl⟩
            go_wp2_with fail
            refine (zSanity _).mono ?_
            rintro e w9 ⟨rfl, hB9⟩
            have hBf := hI3.out.below.trans (hB9.mono hI3.out.below.size)
            have cE := zEmpty w9 B d4 (hD7.out.below hB9)
            have hD9 := Lib.hid (hD7.out.below hB9)
            clear hB9 hI3 hD7
            cases hem : emptyB d4
            · have hns : ¬ ∀ x ∈ d4.S, x = zero32 := fun h => by
                have := of_decide_eq_false (show decide (d4.dn = true ∨ ∀ x ∈ d4.S, x = zero32) = false from hem)
                exact this (.inr h)
              have hcf : c = false := by
                cases c
                · rfl
                · exact absurd (hord.out.part' (hch.out rfl)) hns
              subst hcf
              have hb1 : dBd d4 1 = false := by
                cases hb : dBd d4 1
                · rfl
                · exact absurd (hord.out.whole' hb).1 hns
              rw [hem] at cE
              clear hem hns hch hord
              have hb1' := Lib.hid hb1
              clear hb1
              go_wp2_with fail
              refine cE.mono ?_
              clear cE
              rintro e wa ⟨rfl, hBa⟩
              have hBg := hBf.trans (hBa.mono hBf.size)
              have c1 := dBurned wa B d4 (hD9.out.below hBa) 1
              rw [hb1'.out] at c1
              clear hBa hBf hD9
              go_wp2_with fail
              refine c1.mono ?_
              clear c1
              rintro e w' ⟨rfl, rfl⟩
              go_wp2_with fail
              go_ret
              exact ⟨rfl, hBg⟩
            · rw [hem] at cE
              clear hem hch hord
              go_wp2_with fail
              refine cE.mono ?_
              clear cE
              rintro e wa ⟨rfl, hBa⟩
              have hBg := hBf.trans (hBa.mono hBf.size)
              clear hBa hBf hD9
              go_wp2_with fail
              go_ret
              exact ⟨rfl, hBg⟩

theorem lZOrder (w : World) (n s f : Int) (_hn : n ≤ 9223372036854775807) (hsz : s ≤ 9223372036854775807) (hfz : f ≤ 9223372036854775807) (v1 : Value) (ops1 : List DOp) (hs1 : DScrAt w w.heap.size v1 ops1) (t : Int) (h0 : -9223372036854775808 ≤ t) (ht : t ≤ 9223372036854775807) (pv : Value) (zs : List Int) (hz : zs.length ≤ maxLen) (hps : SlAt w (fun b => b < w.heap.size) pv (ints zs)) :
    Calls Try.prog 16 #[.agg #[.int .i64 n, .int .i64 s, .int .i64 f], v1, .int .i64 t, pv] w fun e w' => e = .returned (.bool true) ∧ Below w.heap.size w w' := by
  by_cases h : fits n s f ops1.length
  · obtain ⟨n, s, f, rfl, rfl, rfl, k1, k2, k3, k4, k5, k6, k7⟩ := fits_nat h
    exact zOrd_some w n s f t h0 ht v1 pv ops1 hs1 zs hz hps k1 k2 k3 k4 k5 k6 k7
  · exact zOrd_nil w n s f t v1 pv (fun W hW => build_no W n s f v1 ops1.length hs1.len hsz hfz h)

end Go.Proofs.Ytogljlloobjeoaa
