/- DeviceTornSectors, walked. -/
import Derived.Test.YtogljlloobjeoaaCmn
import Derived.Test.YtogljlloobjeoaaTear
import Derived.BigQuiet
namespace Go.Proofs.Ytogljlloobjeoaa
open Go.RowKit
set_option linter.unusedSimpArgs false
set_option linter.unusedVariables false

theorem cutM_none : ∀ (M : List Sec) (ps : List Int), (∀ s ∈ M, s.dirty = false) → cutM M ps = M
  | [], _, _ => rfl
  | s :: M, ps, h => by
    unfold cutM
    rw [if_neg (by rw [h s (by simp)]; decide), cutM_none M ps (fun s hs => h s (by simp [hs]))]
theorem settle_dirty (s : Sec) (p : Int) : (s.settle p).dirty = false := by unfold Sec.settle; split <;> rfl
theorem cutM_clean : ∀ (M : List Sec) (ps : List Int), ∀ s ∈ cutM M ps, s.dirty = false
  | [], _ => by intro s hs; cases hs
  | t :: M, ps => by
    unfold cutM
    split
    · intro s hs
      rcases List.mem_cons.1 hs with rfl | hs
      · exact settle_dirty _ _
      · exact cutM_clean M _ s hs
    · rename_i hd
      intro s hs
      rcases List.mem_cons.1 hs with rfl | hs
      · simpa using hd
      · exact cutM_clean M _ s hs
theorem torn_again (d : Dv) (zs : List Int) : imgM (dMo d zs).M = imgM (dMo (dMo d zs) []).M := by
  show imgM (cutM d.M zs) = imgM (cutM (cutM d.M zs) [])
  rw [cutM_none _ _ (cutM_clean d.M zs)]
theorem cut_torn (M : List Sec) (zs : List Int) (i : Nat) (h : i < M.length) : ∃ s p, M[i]? = some s ∧ (cutM M zs)[i]? = some (s.torn p) ∧ 0 ≤ p ∧ p ≤ 64 :=
  ⟨M[i], pickAt M zs i, List.getElem?_eq_getElem h, by rw [cutM_get, List.getElem?_eq_getElem h]; rfl, clampP_nonneg _, clampP_le _⟩
theorem torn_size {s : Sec} (hw : s.WF) (p : Int) (_h0 : 0 ≤ p) (h1 : p ≤ 64) : (s.torn p).now.size = 64 := by
  unfold Sec.torn
  split
  · rename_i hd; exact (settle_WF hw hd p h1).1
  · exact hw.1
theorem read_size {s : Sec} (hw : s.WF) : s.read.size = 64 := by
  unfold Sec.read
  split
  · rename_i hd; exact hw.2.2 hd
  · exact hw.1
def seenL (d : Dv) (n : Nat) : List ByteArray := (List.range n).map fun (i : Nat) => dRdT d (i : Int)
theorem seenL_succ (d : Dv) (n j : Nat) (h : j < n) : strs ((seenL d n).take (j + 1)) = strs ((seenL d n).take j) ++ [.string (dRdT d j)] := by
  rw [strs_succ (seenL d n) j (by simp [seenL]; exact h)]
  simp [seenL]
theorem seenL_get {d : Dv} {n i : Nat} {s : Sec} (hd : d.dn = false) (h : i < n) (hM : d.M[i]? = some s) : (seenL d n)[i]? = some s.read := by
  have hl := (List.getElem?_eq_some_iff.1 hM).1
  have e : dRdT d (i : Int) = s.read := by
    unfold dRdT rdT
    rw [if_neg (by simp [hd]), if_pos (by constructor <;> omega), Int.toNat_natCast, hM]; rfl
  unfold seenL
  rw [List.getElem?_map, List.getElem?_range h]
  show some (dRdT d i) = _
  rw [e]
theorem seen_E {d : Dv} {j : Nat} (hd : d.dn = false) (h : j < d.M.length) : dRdE d j = 0 := by
  unfold dRdE rdE
  rw [if_neg (by simp [hd]), if_pos (by constructor <;> omega)]
theorem seen_no {d : Dv} (hd : d.dn = true) (j : Nat) : dRdT d j = ByteArray.empty ∧ dRdE d j = 14 := by
  unfold dRdT dRdE
  rw [if_pos hd, if_pos hd]
  exact ⟨rfl, rfl⟩

set_option maxRecDepth 100000 in
set_option maxHeartbeats 40000000 in
theorem tor_few (w : World) (n s f : Int) (v : Value) (ops : List DOp) (hs : DScrAt w w.heap.size v ops) (pv : Value) (zs : List Int) (hps : SlAt w (fun b => b < w.heap.size) pv (ints zs)) (h : ¬ (n ≤ 12 ∧ ops.length ≤ 60)) :
    Calls Try.prog 13 #[.agg #[.int .i64 n, .int .i64 s, .int .i64 f], v, pv] w fun e w' => e = .returned (.bool true) ∧ Below w.heap.size w w' := by
  have hs' := Lib.hid hs
  have hale := Lib.hid hs.a_le
  obtain ⟨a, cap, rfl, hcap, hmx, hx⟩ := hs
  clear hx
  have hfew0 := fun W => dFew W n s f (.slice a ops.length cap) ops.length ⟨_, _, rfl⟩
  rw [decide_eq_false h] at hfew0
  have hfew := Lib.hid hfew0
  clear hfew0
  obtain ⟨oa, oc, rfl⟩ := hps.len
  rw [ints_length] at hps ⊢
  have hps' := Lib.hid hps
  clear hps
  go_enter Try.func13, Try.ntmps13
  go_wp2_with fail
  have hB0 := (Below.refl w.heap.size w).alloc (Nat.le_refl _) (.cells #[.int .i64 n, .int .i64 s, .int .i64 f] 84)
  have hz0 := SizAt.new w n s f 84
  generalize hW : w.alloc (.cells #[.int .i64 n, .int .i64 s, .int .i64 f] 84) = W0 at *
  have hsz0 : W0.heap.size = w.heap.size + 1 := by rw [← hW]; simp
  clear hW
  refine (dSanity _).mono ?_
  rintro e w1 ⟨rfl, hB1⟩
  have hB2 := hB0.trans (hB1.mono hB0.size)
  have hz1 := hz0.below hB1
  have hl1 : w.heap.size + 1 ≤ w1.heap.size := by have := hB1.size; omega
  obtain ⟨c0, c1, c2⟩ := id hz1
  clear hB0 hB1 hz0 hsz0
  go_wp2_with fail
  refine (hfew.out _).mono ?_
  rintro e w2 ⟨rfl, hB3⟩
  have hB4 := hB2.trans (hB3.mono hB2.size)
  have hz2 := hz1.below hB3
  have hl2 : w.heap.size + 1 ≤ w2.heap.size := by have := hB3.size; omega
  obtain ⟨c0', c1', c2'⟩ := id hz2
  have hz2' := Lib.hid hz2
  clear hB2 hB3 hfew hz1 hl1 c0 c1 c2 hz2
  clear hz2' c0' c1' c2' h
  go_wp2
  go_ret
  exact ⟨rfl, hB4⟩

set_option maxRecDepth 100000 in
set_option maxHeartbeats 40000000 in
theorem tor_long (w : World) (n s f : Int) (v : Value) (ops : List DOp) (hs : DScrAt w w.heap.size v ops) (pv : Value) (zs : List Int) (hps : SlAt w (fun b => b < w.heap.size) pv (ints zs)) (h : n ≤ 12 ∧ ops.length ≤ 60) (h40 : 40 < zs.length) :
    Calls Try.prog 13 #[.agg #[.int .i64 n, .int .i64 s, .int .i64 f], v, pv] w fun e w' => e = .returned (.bool true) ∧ Below w.heap.size w w' := by
  have hs' := Lib.hid hs
  have hale := Lib.hid hs.a_le
  obtain ⟨a, cap, rfl, hcap, hmx, hx⟩ := hs
  clear hx
  have hfew0 := fun W => dFew W n s f (.slice a ops.length cap) ops.length ⟨_, _, rfl⟩
  rw [decide_eq_true h] at hfew0
  have hfew := Lib.hid hfew0
  clear hfew0
  obtain ⟨oa, oc, rfl⟩ := hps.len
  rw [ints_length] at hps ⊢
  have hps' := Lib.hid hps
  clear hps
  have h40i : (40 : Int) < (zs.length : Int) := by omega
  clear h40
  go_enter Try.func13, Try.ntmps13
  go_wp2_with fail
  have hB0 := (Below.refl w.heap.size w).alloc (Nat.le_refl _) (.cells #[.int .i64 n, .int .i64 s, .int .i64 f] 84)
  have hz0 := SizAt.new w n s f 84
  generalize hW : w.alloc (.cells #[.int .i64 n, .int .i64 s, .int .i64 f] 84) = W0 at *
  have hsz0 : W0.heap.size = w.heap.size + 1 := by rw [← hW]; simp
  clear hW
  refine (dSanity _).mono ?_
  rintro e w1 ⟨rfl, hB1⟩
  have hB2 := hB0.trans (hB1.mono hB0.size)
  have hz1 := hz0.below hB1
  have hl1 : w.heap.size + 1 ≤ w1.heap.size := by have := hB1.size; omega
  obtain ⟨c0, c1, c2⟩ := id hz1
  clear hB0 hB1 hz0 hsz0
  go_wp2_with fail
  refine (hfew.out _).mono ?_
  rintro e w2 ⟨rfl, hB3⟩
  have hB4 := hB2.trans (hB3.mono hB2.size)
  have hz2 := hz1.below hB3
  have hl2 : w.heap.size + 1 ≤ w2.heap.size := by have := hB3.size; omega
  obtain ⟨c0', c1', c2'⟩ := id hz2
  have hz2' := Lib.hid hz2
  clear hB2 hB3 hfew hz1 hl1 c0 c1 c2 hz2
  clear hz2' c0' c1' c2' h
  go_wp2
  go_ret
  exact ⟨rfl, hB4⟩

set_option maxRecDepth 100000 in
set_option maxHeartbeats 40000000 in
theorem tor_bad (w : World) (n s f : Int) (v : Value) (ops : List DOp) (hs : DScrAt w w.heap.size v ops) (pv : Value) (zs : List Int) (hps : SlAt w (fun b => b < w.heap.size) pv (ints zs)) (h40 : zs.length ≤ 40) (h : n ≤ 12 ∧ ops.length ≤ 60) (hsz : s ≤ 9223372036854775807) (hfz : f ≤ 9223372036854775807) (hbad : n < 1 ∨ 4096 < n ∨ s < 1 ∨ 16 < s ∨ f < 1 ∨ 16 < f) :
    Calls Try.prog 13 #[.agg #[.int .i64 n, .int .i64 s, .int .i64 f], v, pv] w fun e w' => e = .returned (.bool true) ∧ Below w.heap.size w w' := by
  have hs' := Lib.hid hs
  have hale := Lib.hid hs.a_le
  obtain ⟨a, cap, rfl, hcap, hmx, hx⟩ := hs
  clear hx
  have hfew0 := fun W => dFew W n s f (.slice a ops.length cap) ops.length ⟨_, _, rfl⟩
  rw [decide_eq_true h] at hfew0
  have hfew := Lib.hid hfew0
  clear hfew0
  obtain ⟨oa, oc, rfl⟩ := hps.len
  rw [ints_length] at hps ⊢
  have hps' := Lib.hid hps
  clear hps
  have h40i : (zs.length : Int) ≤ 40 := by omega
  have hnew := Lib.hid (fun W => dNew_bad W n s f hsz hfz hbad)
  clear h hbad
  go_enter Try.func13, Try.ntmps13
  go_wp2_with fail
  have hB0 := (Below.refl w.heap.size w).alloc (Nat.le_refl _) (.cells #[.int .i64 n, .int .i64 s, .int .i64 f] 84)
  have hz0 := SizAt.new w n s f 84
  generalize hW : w.alloc (.cells #[.int .i64 n, .int .i64 s, .int .i64 f] 84) = W0 at *
  have hsz0 : W0.heap.size = w.heap.size + 1 := by rw [← hW]; simp
  clear hW
  refine (dSanity _).mono ?_
  rintro e w1 ⟨rfl, hB1⟩
  have hB2 := hB0.trans (hB1.mono hB0.size)
  have hz1 := hz0.below hB1
  have hl1 : w.heap.size + 1 ≤ w1.heap.size := by have := hB1.size; omega
  obtain ⟨c0, c1, c2⟩ := id hz1
  clear hB0 hB1 hz0 hsz0
  go_wp2_with fail
  refine (hfew.out _).mono ?_
  rintro e w2 ⟨rfl, hB3⟩
  have hB4 := hB2.trans (hB3.mono hB2.size)
  have hz2 := hz1.below hB3
  have hl2 : w.heap.size + 1 ≤ w2.heap.size := by have := hB3.size; omega
  obtain ⟨c0', c1', c2'⟩ := id hz2
  have hz2' := Lib.hid hz2
  clear hB2 hB3 hfew hz1 hl1 c0 c1 c2 hz2
  go_wp2_with fail
  refine (hnew.out _).mono ?_
  rintro e w3 ⟨rfl, hB5⟩
  have hB6 := hB4.trans (hB5.mono hB4.size)
  clear hB4 hB5
  go_wp2
  go_ret
  exact ⟨rfl, hB6⟩

set_option maxRecDepth 100000 in
set_option maxHeartbeats 40000000 in
theorem tor_ok (w : World) (n s f : Nat) (v : Value) (ops : List DOp) (hs : DScrAt w w.heap.size v ops) (pv : Value) (zs : List Int) (hps : SlAt w (fun b => b < w.heap.size) pv (ints zs)) (h40 : zs.length ≤ 40) (h : n ≤ 12 ∧ ops.length ≤ 60) (n0 : 1 ≤ n) (s0 : 1 ≤ s) (s1 : s ≤ 16) (f0 : 1 ≤ f) (f1 : f ≤ 16) :
    Calls Try.prog 13 #[.agg #[.int .i64 n, .int .i64 s, .int .i64 f], v, pv] w fun e w' => e = .returned (.bool true) ∧ Below w.heap.size w w' := by
  have hs' := Lib.hid hs
  have hale := Lib.hid hs.a_le
  obtain ⟨a, cap, rfl, hcap, hmx, hx⟩ := hs
  clear hx
  have hfew0 := fun W => dFew W n s f (.slice a ops.length cap) ops.length ⟨_, _, rfl⟩
  rw [decide_eq_true (show (n : Int) ≤ 12 ∧ ops.length ≤ 60 by omega)] at hfew0
  have hfew := Lib.hid hfew0
  clear hfew0
  obtain ⟨oa, oc, rfl⟩ := hps.len
  rw [ints_length] at hps ⊢
  have hps' := Lib.hid hps
  clear hps
  have h40i : (zs.length : Int) ≤ 40 := by omega
  obtain ⟨i0, hi0, hz0', hz1', hz2'⟩ := info_parts infoStrD
  have hnew := Lib.hid (fun W => dNew_ok W n s f n0 (by omega) s0 s1 f0 f1)
  have hlen : (ops.length : Int) ≤ 60 := by omega
  have fi0 : (1 : Int) ≤ f := by omega
  have fi1 : (f : Int) ≤ 16 := by omega
  have si0 : (1 : Int) ≤ s := by omega
  have si1 : (s : Int) ≤ 16 := by omega
  have ni0 : (1 : Int) ≤ n := by omega
  have ni1 : (n : Int) ≤ 12 := by omega
  clear h
  go_enter Try.func13, Try.ntmps13
  go_wp2_with fail
  have hB0 := (Below.refl w.heap.size w).alloc (Nat.le_refl _) (.cells #[.int .i64 n, .int .i64 s, .int .i64 f] 84)
  have hz0 := SizAt.new w n s f 84
  generalize hW : w.alloc (.cells #[.int .i64 n, .int .i64 s, .int .i64 f] 84) = W0 at *
  have hsz0 : W0.heap.size = w.heap.size + 1 := by rw [← hW]; simp
  clear hW
  refine (dSanity _).mono ?_
  rintro e w1 ⟨rfl, hB1⟩
  have hB2 := hB0.trans (hB1.mono hB0.size)
  have hz1 := hz0.below hB1
  have hl1 : w.heap.size + 1 ≤ w1.heap.size := by have := hB1.size; omega
  obtain ⟨c0, c1, c2⟩ := id hz1
  clear hB0 hB1 hz0 hsz0
  go_wp2_with fail
  refine (hfew.out _).mono ?_
  rintro e w2 ⟨rfl, hB3⟩
  have hB4 := hB2.trans (hB3.mono hB2.size)
  have hz2 := hz1.below hB3
  have hl2 : w.heap.size + 1 ≤ w2.heap.size := by have := hB3.size; omega
  obtain ⟨c0', c1', c2'⟩ := id hz2
  have hz9 := Lib.hid hz2
  clear hB2 hB3 hfew hz1 hl1 c0 c1 c2 hz2
  go_wp2_with fail
  refine (hnew.out _).mono ?_
  rintro e w3 ⟨B, rfl, hD3, hBa, hB5⟩
  have hI3 := Lib.hid (ComI.mk hD3 (hB4.trans (hB5.mono hB4.size)) (hz9.out.below hB5) (fun k hk => by have := hBa k hk; omega))
  have hst := Lib.hid (At23.start (ops := ops) hD3)
  clear hB4 hB5 hnew hBa hl2 hD3 hz9
  go_wp2_with fail
  go_loopw [10, 11] (fun iv q wr => ∃ k : Nat, k ≤ ops.length ∧ q = .int .i64 (k : Int) ∧ Hid (At23 wr B ops (newD n s f, []) k iv) ∧ Hid (ComI w B n s f (runD (ops.take k) (newD n s f, [])).1 wr)) (fun _ q _ => ops.length - (intOf q).toNat)
  case atStart => exact ⟨0, Nat.zero_le _, rfl, hst, hI3⟩
  case round =>
    obtain ⟨k, hk, rfl, hT, hI⟩ := hrel
    clear hst hI3
    by_cases hkl : k < ops.length
    · have hkli : (k : Int) < (ops.length : Int) := by omega
      obtain ⟨o, ho⟩ : ∃ o, ops[k]? = some o := ⟨ops[k], List.getElem?_eq_getElem hkl⟩
      have hT1 := Lib.hid (runD_take_succ ops (newD n s f, []) k o ho)
      obtain ⟨hD, him, hil⟩ := hT.out
      clear hT
      generalize runD (ops.take k) (newD n s f, []) = x at *
      obtain ⟨d, img⟩ := x
      obtain ⟨b, off, pv, rfl, hbP, g0, g1, g2, g3, g4, g5, hpv, hpl, hoa⟩ := hs'.out.get hI.out.below ho
      obtain ⟨pa, pn, pc, rfl⟩ := hpv.shape
      obtain ⟨ia, ik, ic, rfl⟩ := him.shape
      clear ho
      go_wp2_with fail
      refine (ldo23 _ B d hD o _ _ img (fun b => b < w.heap.size) hpv hpl hI.out.ok him hil hoa).mono ?_
      rintro e w8 ⟨iv', rfl, hD8, hF8, him8⟩
      have hI8 := Lib.hid (hI.out.op hD8 hF8)
      have hil8 := doI_length o img d hil hD.ok.m1
      have him8' := Lib.hid him8
      obtain ⟨ja, jk, jc, rfl⟩ := him8.shape
      clear hpv him hD g0 g1 g2 g3 g4 g5 hD8 hF8 him8 hI
      go_wp2_with fail
      generalize hW9 : w8.alloc (.cells #[.string (doT o d), .int .i64 (doE o img d)] 91) = w9
      have hF9 : Fr [] w8 w9 := by rw [← hW9]; exact (Fr.refl _ _).alloc _
      have hI9 := Lib.hid (hI8.out.fr0 hF9)
      have hT2 : Hid (At23 w9 B ops (newD n s f, []) (k + 1) (.slice ja jk jc)) := by
        have e := hT1.out
        exact ⟨by rw [e]; exact hI9.out.dev, by rw [e]; exact him8'.out.fr hF9 (by simp), by rw [e]; exact hil8⟩
      have hI10 : Hid (ComI w B n s f (runD (ops.take (k + 1)) (newD n s f, [])).1 w9) := by
        have e := hT1.out
        exact by rw [e]; exact hI9.out
      clear hW9 hF9 hI9 hI8 him8'
      go_roundw
      case rel => exact ⟨k + 1, by omega, by go_num, hT2, hI10⟩
      case measure => simp [intOf]; omega
    · obtain rfl : k = ops.length := by omega
      rw [List.take_length] at hI
      have hkp := Keeps.run ops hale.out (newD n s f, [])
      clear hT
      have hlens : Hid ((runD ops (newD n s f, [])).1.S.length = s ∧ (runD ops (newD n s f, [])).1.M.length = n ∧ (runD ops (newD n s f, [])).1.F.length = f) :=
        ⟨hkp.s.trans (by simp [newD]), hkp.m.trans (by simp [newD, newM]), hkp.f.trans (by simp [newD])⟩
      generalize (runD ops (newD n s f, [])).1 = d at *
      clear hkp hkl
      obtain ⟨wo, rfl⟩ : ∃ wo : World, wo = wr := ⟨_, rfl⟩
      have hok0 := Lib.hid hI.out.dev.ok
      go_wp2_with fail
      refine (dImage _ B _ hI.out.dev).mono ?_
      rintro e w4 ⟨v0, rfl, hv0, hB⟩
      have hI4 := Lib.hid (hI.out.bel hB)
      have hln0 : (strs (imgM d.M)).length = n := by have := hlens.out; simp [strs, imgM, this]
      have hv0i := Lib.hid (hv0.imp (ok' := fun b => b ∉ B.l) (fun b hb hm => by have := hI.out.dev.all_lt b (B.l_all b hm); omega))
      obtain ⟨a0, k0, rfl⟩ := hv0.len
      rw [hln0] at hv0i ⊢
      clear hv0 hB hI hln0
      go_wp2_with fail
      go_loopw [15, 16] (fun v q wr => ∃ j : Nat, j ≤ n ∧ q = .int .i64 (j : Int) ∧ wr.ownsRow w4.heap.size 9 1 v (strs ((seenL d n).take j)).length (strs ((seenL d n).take j)) ∧ Below w4.heap.size w4 wr) (fun _ q _ => n - (intOf q).toNat)
      case atStart => exact ⟨0, Nat.zero_le _, rfl, World.ownsRow_nil _ _ _ _, Below.refl _ _⟩
      case round =>
        obtain ⟨j, hj, rfl, hown, hB⟩ := hrel
        have hBs := hB.size
        by_cases hlt : j < n
        · have hlti : (j : Int) < (n : Int) := by omega
          have hsu := Lib.hid (seenL_succ d n j hlt)
          have hle : (strs ((seenL d n).take j)).length ≤ 16 := by simp [strs, seenL]; omega
          have c := dRead wr B d (hI4.out.dev.below hB) j
          cases hdn : d.dn
          · rw [seen_E hdn (by have := hlens.out; omega)] at c
            generalize dRdT d j = x at *
            clear hdn
            go_wp2_with fail
            refine c.mono ?_
            clear c
            rintro e w' ⟨rfl, rfl⟩
            go_wp2_with (at_builtin; refine wpList_append_own _ rfl _ _ 54 rfl w4.heap.size 9 i0 (.string ByteArray.empty) 1 16 Try.underlying54 hi0 hz0' hz1' hz2' rfl (by decide) _ _ _ rfl (hown.alloc _) ⟨wr.heap.size, 0, none⟩ 1 1 [.string x] rfl rfl (cell_one _ _ _) (oneC_str _) ?c3 ?c4 ?c5 ?_)
            case c3 => unfold maxLen; omega
            case c4 => omega
            case c5 => simp; omega
            intro v' w5 hown' hgrow _
            have hB' : Below w4.heap.size w4 w5 := (hB.alloc hBs _).grown hgrow (by simp; omega) (fun k hk => (hown.lt k hk).1)
            have hown2 : w5.ownsRow w4.heap.size 9 1 v' (strs ((seenL d n).take (j + 1))).length (strs ((seenL d n).take (j + 1))) := by rw [hsu.out]; simpa using hown'
            clear hown' hgrow hown hB
            go_wp2
            go_roundw
            case rel => exact ⟨j + 1, by omega, by go_num, hown2, hB'⟩
            case measure => simp [intOf]; omega

          · rw [(seen_no hdn j).1, (seen_no hdn j).2] at c
            rw [(seen_no hdn j).1] at hsu
            clear hdn
            go_wp2_with fail
            refine c.mono ?_
            clear c
            rintro e w' ⟨rfl, rfl⟩
            go_wp2_with (at_builtin; refine wpList_append_own _ rfl _ _ 54 rfl w4.heap.size 9 i0 (.string ByteArray.empty) 1 16 Try.underlying54 hi0 hz0' hz1' hz2' rfl (by decide) _ _ _ rfl (hown.alloc _) ⟨wr.heap.size, 0, none⟩ 1 1 [.string ByteArray.empty] rfl rfl (cell_one _ _ _) (oneC_str _) ?c3 ?c4 ?c5 ?_)
            case c3 => unfold maxLen; omega
            case c4 => omega
            case c5 => simp; omega
            intro v' w5 hown' hgrow _
            have hB' : Below w4.heap.size w4 w5 := (hB.alloc hBs _).grown hgrow (by simp; omega) (fun k hk => (hown.lt k hk).1)
            have hown2 : w5.ownsRow w4.heap.size 9 1 v' (strs ((seenL d n).take (j + 1))).length (strs ((seenL d n).take (j + 1))) := by rw [hsu.out]; simpa using hown'
            clear hown' hgrow hown hB
            go_wp2
            go_roundw
            case rel => exact ⟨j + 1, by omega, by go_num, hown2, hB'⟩
            case measure => simp [intOf]; omega

        · obtain rfl : j = n := by omega
          obtain ⟨w5, rfl⟩ : ∃ w5 : World, w5 = wr := ⟨_, rfl⟩
          rw [show (seenL d j).take j = seenL d j from List.take_of_length_le (by simp [seenL])] at hown
          have hlb : (strs (seenL d j)).length = j := by simp [strs, seenL]
          have hvs := (SlAt.of_own hown).imp (ok' := fun b => b ∉ B.l) (fun b hb hm => by have := hI4.out.dev.all_lt b (B.l_all b hm); omega)
          have hI5 := Lib.hid (hI4.out.bel hB)
          have hv05 := Lib.hid (hv0i.out.fr (S := []) (Fr.of_below hB) (by simp))
          obtain ⟨asl, ks, rfl⟩ := hvs.len
          rw [hlb] at hvs ⊢
          have hvs5 := Lib.hid hvs
          clear hown hlb hvs hI4 hv0i hB hlt
          go_wp2_with fail
          refine (dUp _ B _ hI5.out.dev).mono ?_
          rintro e w' ⟨rfl, rfl⟩
          go_wp2_with fail
          refine (dMount _ B _ hI5.out.dev (fun b => b < w.heap.size) _ zs (hps'.out.old hI5.out.below) (by unfold maxLen; omega) hI5.out.ok).mono ?_
          rintro e w6 ⟨rfl, h, hF⟩
          have hI6 := Lib.hid (hI5.out.op h hF)
          have hv06 := Lib.hid (hv05.out.fr hF (fun b hb => hb))
          have hvs6 := Lib.hid (hvs5.out.fr hF (fun b hb => hb))
          clear h hF hI5 hv05 hvs5
          go_wp2_with fail
          refine (dImage _ B _ hI6.out.dev).mono ?_
          rintro e w7 ⟨v1, rfl, hv1, hB⟩
          have hI7 := Lib.hid (hI6.out.bel hB)
          have hln1 : (strs (imgM (dMo d zs).M)).length = j := by have := hlens.out.2.1; have e := cutM_length d.M zs; simp [strs, imgM, dMo]; omega
          have hv1i := hv1.imp (ok' := fun b => b ∉ B.l) (fun b hb hm => by have := hI6.out.dev.all_lt b (B.l_all b hm); omega)
          have hv07 := Lib.hid (hv06.out.fr (S := []) (Fr.of_below hB) (by simp))
          have hvs7 := Lib.hid (hvs6.out.fr (S := []) (Fr.of_below hB) (by simp))
          obtain ⟨a1, k1, rfl⟩ := hv1.len
          rw [hln1] at hv1i ⊢
          have hv17 := Lib.hid hv1i
          obtain ⟨z0, z1, z2⟩ := id hI7.out.z
          clear hv1 hv1i hB hI6 hv06 hvs6 hln1
          cases hdn : d.dn
          · have hdn' := Lib.hid hdn
            clear hdn
            go_wp2_with fail
            clear z0 z1 z2
            go_loopw [21] (fun q wr => ∃ i : Nat, i ≤ j ∧ q = .int .i64 (i : Int) ∧ Fr [] w7 wr) (fun q _ => j - (intOf q).toNat)
            case atStart => exact ⟨0, Nat.zero_le _, rfl, Fr.refl _ _⟩
            case round =>
              obtain ⟨i, hi, rfl, hFi⟩ := hrel
              by_cases hlt : i < j
              · have hlti : (i : Int) < (j : Int) := by omega
                obtain ⟨s1, p, hM0, hM1, hp0, hp1⟩ := cut_torn d.M zs i (by have := hlens.out.2.1; omega)
                have hwf := hok0.out.wf s1 (List.mem_of_getElem? hM0)
                have hsuf := Lib.hid (fun k hk hx => torn_suffix hwf p hp0 hp1 k hk hx)
                obtain ⟨b1, o1, rfl, _, hl1, g1⟩ := (hv17.out.fr hFi (by simp)).get (strs_get (show (imgM (dMo d zs).M)[i]? = some (s1.torn p).now by show ((cutM d.M zs).map Sec.now)[i]? = _; rw [List.getElem?_map, hM1]; rfl))
                obtain ⟨b2, o2, rfl, _, hl2, g2⟩ := (hvs7.out.fr hFi (by simp)).get (strs_get (seenL_get hdn'.out hlt hM0))
                obtain ⟨b0, o0, rfl, _, hl0, g0⟩ := (hv07.out.fr hFi (by simp)).get (strs_get (show (imgM d.M)[i]? = some s1.now by unfold imgM; rw [List.getElem?_map, hM0]; rfl))
                have hxs := torn_size hwf p hp0 hp1
                have hys := read_size hwf
                have hzs := hwf.1
                generalize (s1.torn p).now = x at *
                generalize s1.read = y at *
                generalize s1.now = z at *
                clear hM0 hM1 hwf
                obtain ⟨wi, rfl⟩ : ∃ wi : World, wi = wr := ⟨_, rfl⟩
                go_wp2_with fail
                have g1h := Lib.hid g1
                have g0h := Lib.hid g0
                go_loopw [22] (fun q wr => ∃ k : Nat, k ≤ 64 ∧ q = .int .i64 (k : Int) ∧ Fr [] wi wr) (fun q _ => 64 - (intOf q).toNat)
                case atStart => exact ⟨0, Nat.zero_le _, rfl, Fr.refl _ _⟩
                case round =>
                  obtain ⟨k, hk, rfl, hFk⟩ := hrel
                  have g1k := (hFk.cell hl1 (by simp)).trans g1
                  have g2k := (hFk.cell hl2 (by simp)).trans g2
                  have g0k := (hFk.cell hl0 (by simp)).trans g0
                  clear g1 g2 g0
                  by_cases hk64 : k < 64
                  · have hk64i : (k : Int) < 64 := by omega
                    have ix := idxRun Try.underlying9 x k (by omega)
                    have iy := idxRun Try.underlying9 y k (by omega)
                    by_cases hb : bN x k = bN y k
                    · rw [hb] at ix
                      clear hb
                      go_wp2_with fail
                      go_quiet (fail)
                      go_wp2_with fail
                      generalize hWd : wr.drewN nq = wd
                      have hFd : Fr [] wi wd := by rw [← hWd]; exact hFk.drewN _
                      clear hWd
                      go_roundw
                      case rel => exact ⟨k + 1, by omega, by go_num, hFd⟩
                      case measure => simp [intOf]; omega
                    · have hbi : (((bN x k : Nat) : Int) == ((bN y k : Nat) : Int)) = false := by simp; omega
                      have hsu := beqT (hsuf.out k hk (by exact .inr hb))
                      have ex := endRun Try.underlying9 x k (by omega)
                      have ez := endRun Try.underlying9 z k (by omega)
                      generalize x.extract k x.size = xe at *
                      generalize z.extract k z.size = ze at *
                      go_wp2_with fail
                      go_quiet (fail)
                      go_wp2_with fail
                      generalize hWd : wr.drewN nq = wd
                      have hFd : Fr [] wi wd := by rw [← hWd]; exact hFk.drewN _
                      have g1d := (hFd.cell hl1 (by simp)).trans g1h.out
                      have g0d := (hFd.cell hl0 (by simp)).trans g0h.out
                      clear hWd g1k g2k g0k
                      go_quiet (fail)
                      go_wp2_with fail
                      generalize hWe : wd.drewN nq = we
                      have hFe : Fr [] w7 we := by rw [← hWe]; exact (hFi.trans hFd).drewN _
                      clear hWe
                      go_roundw
                      case rel => exact ⟨i + 1, by omega, by go_num, hFe⟩
                      case measure => simp [intOf]; omega

                  · have hk64i : decide ((k : Int) < 64) = false := decide_eq_false (by omega)
                    have hsu := beqT (hsuf.out k hk (by left; omega))
                    have ex := endRun Try.underlying9 x k (by omega)
                    have ez := endRun Try.underlying9 z k (by omega)
                    generalize x.extract k x.size = xe at *
                    generalize z.extract k z.size = ze at *
                    go_wp2_with fail
                    go_quiet (fail)
                    go_wp2_with fail
                    generalize hWd : wr.drewN nq = wd
                    have hFd : Fr [] wi wd := by rw [← hWd]; exact hFk.drewN _
                    have g1d := (hFd.cell hl1 (by simp)).trans g1h.out
                    have g0d := (hFd.cell hl0 (by simp)).trans g0h.out
                    clear hWd g1k g2k g0k
                    go_quiet (fail)
                    go_wp2_with fail
                    generalize hWe : wd.drewN nq = we
                    have hFe : Fr [] w7 we := by rw [← hWe]; exact (hFi.trans hFd).drewN _
                    clear hWe
                    go_roundw
                    case rel => exact ⟨i + 1, by omega, by go_num, hFe⟩
                    case measure => simp [intOf]; omega

              · obtain rfl : i = j := by omega
                have hI8 := Lib.hid (hI7.out.fr0 hFi)
                have hv1k := Lib.hid (hv17.out.fr hFi (by simp))
                go_wp2_with fail
                refine (dMount _ B _ hI8.out.dev (fun _ => False) _ [] (SlAt.nil _ _) (by simp) (fun _ h => h.elim)).mono ?_
                rintro e w8 ⟨rfl, h, hF⟩
                have hI8x := Lib.hid (hI8.out.op h hF)
                have hv8 := Lib.hid (hv1k.out.fr hF (fun b hb => hb))
                clear h hF
                go_wp2_with fail
                refine (dImage _ B _ hI8x.out.dev).mono ?_
                rintro e w9 ⟨v2, rfl, hv2, hB⟩
                have hI9 := Lib.hid (hI8x.out.bel hB)
                have cS := wSameTexts w9 _ _ _ _ _ _ (hv8.out.fr (S := []) (Fr.of_below hB) (by simp)) hv2 (by have := hok0.out.m1; unfold imgM; rw [List.length_map]; show (cutM d.M zs).length ≤ _; rw [cutM_length]; omega)
                rw [decide_eq_true (torn_again d zs)] at cS
                obtain ⟨a2, m2, k2, rfl⟩ := hv2.shape
                clear hv2 hB hI8x hv8
                go_wp2_with fail
                refine cS.mono ?_
                clear cS
                rintro e w10 ⟨rfl, hF⟩
                have hI10 := Lib.hid (hI9.out.fr0 hF)
                clear hF
                go_wp2_with fail
                go_ret
                exact ⟨rfl, hI10.out.below⟩

          · clear hdn
            go_wp2_with fail
            clear z0 z1 z2
            go_loop [21] (fun q => q = .int .i64 0) (fun _ => 0)
            case atStart => exact rfl
            case round =>
              obtain rfl := hrel
              have hv1k := hv17
              go_wp2_with fail
              refine (dMount _ B _ hI7.out.dev (fun _ => False) _ [] (SlAt.nil _ _) (by simp) (fun _ h => h.elim)).mono ?_
              rintro e w8 ⟨rfl, h, hF⟩
              have hI8 := Lib.hid (hI7.out.op h hF)
              have hv8 := Lib.hid (hv1k.out.fr hF (fun b hb => hb))
              clear h hF
              go_wp2_with fail
              refine (dImage _ B _ hI8.out.dev).mono ?_
              rintro e w9 ⟨v2, rfl, hv2, hB⟩
              have hI9 := Lib.hid (hI8.out.bel hB)
              have cS := wSameTexts w9 _ _ _ _ _ _ (hv8.out.fr (S := []) (Fr.of_below hB) (by simp)) hv2 (by have := hok0.out.m1; unfold imgM; rw [List.length_map]; show (cutM d.M zs).length ≤ _; rw [cutM_length]; omega)
              rw [decide_eq_true (torn_again d zs)] at cS
              obtain ⟨a2, m2, k2, rfl⟩ := hv2.shape
              clear hv2 hB hI8 hv8
              go_wp2_with fail
              refine cS.mono ?_
              clear cS
              rintro e w10 ⟨rfl, hF⟩
              have hI10 := Lib.hid (hI9.out.fr0 hF)
              clear hF
              go_wp2_with fail
              go_ret
              exact ⟨rfl, hI10.out.below⟩



theorem lTorn (w : World) (n s f : Int) (_hn : n ≤ 9223372036854775807) (hsz : s ≤ 9223372036854775807) (hfz : f ≤ 9223372036854775807) (v : Value) (ops : List DOp) (hs : DScrAt w w.heap.size v ops) (pv : Value) (zs : List Int) (_hz : zs.length ≤ maxLen) (hps : SlAt w (fun b => b < w.heap.size) pv (ints zs)) :
    Calls Try.prog 13 #[.agg #[.int .i64 n, .int .i64 s, .int .i64 f], v, pv] w fun e w' => e = .returned (.bool true) ∧ Below w.heap.size w w' := by
  by_cases h : n ≤ 12 ∧ ops.length ≤ 60
  · by_cases h40 : 40 < zs.length
    · exact tor_long w n s f v ops hs pv zs hps h h40
    · by_cases hbad : n < 1 ∨ 4096 < n ∨ s < 1 ∨ 16 < s ∨ f < 1 ∨ 16 < f
      · exact tor_bad w n s f v ops hs pv zs hps (by omega) h hsz hfz hbad
      · obtain ⟨n', rfl⟩ : ∃ k : Nat, n = (k : Int) := ⟨n.toNat, by omega⟩
        obtain ⟨s', rfl⟩ : ∃ k : Nat, s = (k : Int) := ⟨s.toNat, by omega⟩
        obtain ⟨f', rfl⟩ : ∃ k : Nat, f = (k : Int) := ⟨f.toNat, by omega⟩
        exact tor_ok w n' s' f' v ops hs pv zs hps (by omega) (by omega) (by omega) (by omega) (by omega) (by omega) (by omega)
  · exact tor_few w n s f v ops hs pv zs hps h

end Go.Proofs.Ytogljlloobjeoaa
