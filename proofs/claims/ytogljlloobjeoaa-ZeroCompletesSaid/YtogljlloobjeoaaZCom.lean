/- ZeroCompletes, walked. -/
import Derived.Test.YtogljlloobjeoaaZBui
import Derived.Test.YtogljlloobjeoaaCmn
import Derived.Test.YtogljlloobjeoaaZOrl
import Derived.Test.YtogljlloobjeoaaZEm
namespace Go.Proofs.Ytogljlloobjeoaa
open Go.RowKit
set_option linter.unusedSimpArgs false
set_option linter.unusedVariables false

/-- Once it is done, all slots are zero. -/
def ZDone (d : Dv) : Prop := dBd d 1 = true → ∀ x ∈ d.S, x = zero32
theorem ZDone.same {d e : Dv} (h : ZDone d) (hS : e.S = d.S) (hF : e.F = d.F) : ZDone e := by
  intro hb
  rw [hS]
  exact h (by rw [← dBd_F hF]; exact hb)
theorem ZDone.runZ {d : Dv} (h1 : dBd d 1 = false) : ZDone (runZ (zList d.S.length d.M.length) d).2 := by
  obtain ⟨k, hk, hM, hS, hF⟩ := runZ_prefix (zList d.S.length d.M.length) d
  rw [zList_length] at hk
  intro hb x hx
  have hkk : k = d.S.length + d.M.length + 2 := by
    apply Classical.byContradiction
    intro hne
    have := gzs_F ((zList d.S.length d.M.length).take k) (zList_take (by omega)) d
    rw [← hF] at this
    rw [dBd_F this 1, h1] at hb
    cases hb
  rw [hS, gzs_zero d d.M.length k (by omega)] at hx
  exact (List.mem_replicate.1 hx).2
theorem ZDone.resume {d : Dv} (h : ZDone d) : ZDone (resume d).2 := by
  unfold Go.Proofs.Ytogljlloobjeoaa.resume
  split
  · exact h
  · rename_i hz
    split
    · exact h
    · refine ZDone.runZ ?_
      cases hb : dBd d 1
      · rfl
      · exact absurd (zState_two hb) (by simpa using fun e => by simp [e] at hz)
theorem dBu_zero (d : Dv) : (dBu d 0).S = d.S ∧ dBd (dBu d 0) 1 = dBd d 1 := by
  unfold dBu stpD
  split
  · exact ⟨rfl, rfl⟩
  · split
    · exact ⟨rfl, rfl⟩
    · split
      · exact ⟨rfl, rfl⟩
      · exact ⟨rfl, dBd_set_other d.less 0 1 (by decide)⟩
theorem ZDone.beginZ {d : Dv} (h : ZDone d) : ZDone (beginZ d).2 := by
  have hb : ZDone (dBu d 0) := fun hb => by
    rw [(dBu_zero d).1]
    exact h (by rw [← (dBu_zero d).2]; exact hb)
  unfold Go.Proofs.Ytogljlloobjeoaa.beginZ
  split
  · exact hb.resume
  · exact hb

theorem ldM_noDirty {M : List Sec} (h : noDirty M) (l : List ByteArray) : noDirty (ldM M l) := by
  unfold ldM
  split
  · intro s hs
    obtain ⟨i, hi⟩ := List.getElem?_of_mem hs
    rw [List.getElem?_zipWith] at hi
    split at hi
    · injection hi with hi; rw [← hi]; rfl
    · cases hi
  · exact h

/-- What holds between the failures of the power. -/
structure ZInv (d : Dv) : Prop where
  calm : Calm d
  begun : 1 ≤ zState d
  done : ZDone d
theorem ZInv.state {d : Dv} (h : ZInv d) : zState d = 1 ∨ zState d = 2 := by
  have := h.begun
  unfold zState at this ⊢
  split
  · exact .inr rfl
  · split
    · exact .inl rfl
    · rename_i h1 h0; rw [if_neg h1, if_neg h0] at this; omega
/-- A round: the power is cut during Begin or Resume, comes back, old contents are written. -/
theorem ZInv.round {d : Dv} (h : ZInv d) (c : Int) (b : Bool) (ps : List Int) (l : List ByteArray) :
    ZInv { dMo (if b = true then (beginZ (dTr d c)).2 else (resume (dTr d c)).2) ps with M := ldM (dMo (if b = true then (beginZ (dTr d c)).2 else (resume (dTr d c)).2) ps).M l } := by
  have h0 : ZDone (dTr d c) := h.done.same rfl rfl
  have hz : zState (dTr d c) = zState d := zState_F rfl
  cases b
  · refine ⟨⟨rfl, rfl, ldM_noDirty (cutM_noDirty _ _) l⟩, ?_, ZDone.same (d := (resume (dTr d c)).2) h0.resume rfl rfl⟩
    have := (Up2.resume (dTr d c)).state
    have e : zState ({ dMo (resume (dTr d c)).2 ps with M := ldM (dMo (resume (dTr d c)).2 ps).M l }) = zState (resume (dTr d c)).2 := zState_F rfl
    have hb := h.begun
    show 1 ≤ zState { dMo (resume (dTr d c)).2 ps with M := ldM (dMo (resume (dTr d c)).2 ps).M l }
    rw [e]; omega
  · refine ⟨⟨rfl, rfl, ldM_noDirty (cutM_noDirty _ _) l⟩, ?_, ZDone.same (d := (beginZ (dTr d c)).2) h0.beginZ rfl rfl⟩
    have := (Up2.beginZ (dTr d c)).state
    have e : zState ({ dMo (beginZ (dTr d c)).2 ps with M := ldM (dMo (beginZ (dTr d c)).2 ps).M l }) = zState (beginZ (dTr d c)).2 := zState_F rfl
    have hb := h.begun
    show 1 ≤ zState { dMo (beginZ (dTr d c)).2 ps with M := ldM (dMo (beginZ (dTr d c)).2 ps).M l }
    rw [e]; omega

/-! ### The sectors that are left -/
theorem leftFrom_mem : ∀ (l : List ByteArray) (k j : Nat), j ∈ leftFrom k l → ∃ i x, j = k + i ∧ l[i]? = some x ∧ x ≠ zero64 := by
  intro l
  induction l with
  | nil => intro k j h; cases h
  | cons y l ih =>
    intro k j h
    unfold leftFrom at h
    split at h
    · obtain ⟨i, x, e, h1, h2⟩ := ih _ _ h
      exact ⟨i + 1, x, by omega, by simpa using h1, h2⟩
    · rename_i hy
      rcases List.mem_cons.1 h with rfl | h
      · exact ⟨0, y, rfl, rfl, hy⟩
      · obtain ⟨i, x, e, h1, h2⟩ := ih _ _ h
        exact ⟨i + 1, x, by omega, by simpa using h1, h2⟩
/-- A sector that is left is worn and not dirty. -/
theorem left_worn {M : List Sec} (hw : WFM M) (hn : noDirty M) {j : Nat} (h : j ∈ leftFrom 0 (imgM (wiped M))) : ∃ s, (wiped M)[j]? = some s ∧ s.worn = true ∧ s.dirty = false := by
  obtain ⟨i, x, e, hi, hx⟩ := leftFrom_mem _ _ _ h
  rw [Nat.zero_add] at e
  subst e
  unfold imgM at hi
  rw [List.getElem?_map, wiped_get] at hi
  cases hs : M[j]? with
  | none => rw [hs] at hi; cases hi
  | some s =>
    rw [hs] at hi
    injection hi with hi
    rcases wiped_now (hw s (List.mem_of_getElem? hs)) with h | ⟨h1, h2⟩
    · exact absurd (hi.symm.trans h) hx
    · have e := h2 (hn s (List.mem_of_getElem? hs))
      refine ⟨s, ?_, h1, hn s (List.mem_of_getElem? hs)⟩
      rw [wiped_get, hs]
      exact congrArg some e
/-- A write to a worn sector does nothing. -/
theorem wrM_worn {M : List Sec} {j : Nat} {s : Sec} (hs : M[j]? = some s) (hw : s.worn = true) (x : ByteArray) : wrM M (j : Int) x = M := by
  unfold wrM
  split
  · rw [Int.toNat_natCast, updS_some _ hs]
    have e : s.put x = s := by unfold Sec.put; rw [if_pos hw]
    rw [e]
    obtain ⟨hl, rfl⟩ := List.getElem?_eq_some_iff.1 hs
    exact List.set_getElem_self hl
  · rfl

theorem natInts_length (xs : List Nat) : (natInts xs).length = xs.length := by simp [natInts]

/-! ### Writes to the sectors that are left -/
theorem dWr_up {d : Dv} (h : d.dn = false) (hl : d.lf = -1) (i : Int) (x : ByteArray) : dWr d i x = { d with M := wrM d.M i x } := by
  have hless : d.less = d := by unfold Dv.less; rw [hl]; cases d; cases hl; rfl
  unfold dWr stpD
  rw [if_neg (by simp [h])]
  by_cases hc : wrC d i x = 0
  · rw [if_neg (by simp [hc]), if_neg (by omega), hless]
  · rw [if_pos hc]
    have e : wrM d.M i x = d.M := by
      unfold wrC at hc
      unfold wrM
      split at hc
      · exact absurd rfl hc
      · rename_i h; rw [if_neg h]
    rw [e]
theorem wrM_get_worn {M : List Sec} {j : Nat} {s : Sec} (hs : M[j]? = some s) (hw : s.worn = true) (i : Int) (x : ByteArray) : (wrM M i x)[j]? = some s := by
  unfold wrM
  split
  · rw [updS_get]
    split
    · rename_i e; rw [hs]; show some (s.put x) = _; unfold Sec.put; rw [if_pos hw]
    · exact hs
  · exact hs
/-- The device behind the first write. -/
structure LeftD (d : Dv) (L : List Nat) : Prop where
  dn : d.dn = false
  lf : d.lf = -1
  at' : ∀ (k : Nat) (j : Nat), L[k]? = some j → ∃ s, d.M[j]? = some s ∧ s.worn = true ∧ s.dirty = false
theorem LeftD.mk' {d : Dv} {M : List Sec} (hM : d.M = wiped M) (hw : WFM M) (hn : noDirty M) (h : d.dn = false) (hl : d.lf = -1) (i : Int) (x : ByteArray) : LeftD (dWr d i x) (zLeft d) := by
  rw [dWr_up h hl]
  refine ⟨h, hl, fun k j hj => ?_⟩
  have hm : j ∈ leftFrom 0 (imgM (wiped M)) := by rw [← hM]; exact List.mem_of_getElem? hj
  obtain ⟨s, h1, h2, h3⟩ := left_worn hw hn hm
  exact ⟨s, wrM_get_worn (by rw [hM]; exact h1) h2 i x, h2, h3⟩
theorem LeftD.write {d : Dv} {L : List Nat} (h : LeftD d L) {k j : Nat} (hj : L[k]? = some j) (x : ByteArray) : dWr d j x = d := by
  obtain ⟨s, h1, h2, h3⟩ := h.at' k j hj
  rw [dWr_up h.dn h.lf, wrM_worn h1 h2]
theorem LeftD.read {d : Dv} {L : List Nat} (h : LeftD d L) {k j : Nat} (hj : L[k]? = some j) : j < d.M.length ∧ (imgM d.M)[j]? = some (dRdT d j) := by
  obtain ⟨s, h1, h2, h3⟩ := h.at' k j hj
  have hl := (List.getElem?_eq_some_iff.1 h1).1
  refine ⟨hl, ?_⟩
  unfold dRdT rdT imgM
  rw [if_neg (by simp [h.dn]), if_pos (by constructor <;> omega), Int.toNat_natCast, List.getElem?_map, h1]
  show some s.now = some (s.read)
  unfold Sec.read
  rw [if_neg (by simp [h3])]
def t70 : ByteArray := dtext 70 false 64
def t75 : ByteArray := dtext 75 false 64
theorem t70_ne : t70 ≠ t75 := by
  intro h
  have := congrArg (fun b : ByteArray => b.data[0]?) h
  simp [t70, t75, dtext] at this

theorem dText70 (w : World) : Calls Try.prog 48 #[.agg #[.int .i64 0, .int .i64 0, .int .i64 0, .int .u8 70, .bool false, .slice none 0 0], .int .i64 64] w fun e w' => e = .returned (.string t70) ∧ Below w.heap.size w w' :=
  dText w 0 0 0 70 false _ 64 (by omega) (by omega)
theorem dText75 (w : World) : Calls Try.prog 48 #[.agg #[.int .i64 0, .int .i64 0, .int .i64 0, .int .u8 75, .bool false, .slice none 0 0], .int .i64 64] w fun e w' => e = .returned (.string t75) ∧ Below w.heap.size w w' :=
  dText w 0 0 0 75 false _ 64 (by omega) (by omega)
/-- The device behind a whole Resume. -/
def doneD (d : Dv) (x : Int) : Dv := { d with S := List.replicate d.S.length zero32, M := wiped d.M, F := d.F.set 1 true, lf := x }
theorem doneD_state (d : Dv) (x : Int) (h : 2 ≤ d.F.length) : zState (dTr (doneD d x) (-1)) = 2 := zState_two ((dBd_F (d := { d with F := d.F.set 1 true }) rfl 1).trans (dBd_set_same d 1 (by omega)))
theorem doneD_empty (d : Dv) (x : Int) : emptyB (dTr (doneD d x) (-1)) = true := decide_eq_true (.inr (fun y hy => (List.mem_replicate.1 hy).2))
theorem doneD_left {d : Dv} (hc : Calm d) (hw : WFM d.M) (x : Int) (t : ByteArray) : LeftD (dWr (dTr (doneD d x) (-1)) 0 t) (zLeft (dTr (doneD d x) (-1))) :=
  LeftD.mk' (d := dTr (doneD d x) (-1)) (M := d.M) rfl hw hc.nd hc.dn rfl 0 t
theorem doneD_len (d : Dv) (x : Int) : (dTr (doneD d x) (-1)).M.length = d.M.length := by simp [dTr, doneD, wiped, flM_length]
theorem dBd_of_two {d : Dv} (h : zState d = 2) : dBd d 1 = true := by
  cases hb : dBd d 1
  · unfold zState at h
    rw [if_neg (by simp [hb])] at h
    split at h <;> cases h
  · rfl

set_option maxRecDepth 100000 in
set_option maxHeartbeats 1600000 in
theorem zCom_nil (w : World) (n s f : Int) (v1 tv pv ov : Value)
    (hb : ∀ W : World, Below w.heap.size w W → Calls Try.prog 34 #[.agg #[.int .i64 n, .int .i64 s, .int .i64 f], v1] W fun e w' => e = .returned (.pointer none) ∧ Below W.heap.size W w') :
    Calls Try.prog 7 #[.agg #[.int .i64 n, .int .i64 s, .int .i64 f], v1, tv, pv, ov] w fun e w' => e = .returned (.bool true) ∧ Below w.heap.size w w' := by
  have hb' := Lib.hid hb
  clear hb
  go_enter Try.func7, Try.ntmps7
  go_wp2_with fail
  have hB0 := (Below.refl w.heap.size w).alloc (Nat.le_refl _) (.cells #[.int .i64 n, .int .i64 s, .int .i64 f] 61)
  refine (hb'.out _ hB0).mono ?_
  rintro e w1 ⟨rfl, hB1⟩
  have hB2 := hB0.trans (hB1.mono hB0.size)
  clear hB0 hB1 hb'
  go_wp2_with fail
  refine (zSanity _).mono ?_
  rintro e w2 ⟨rfl, hB3⟩
  have hB4 := hB2.trans (hB3.mono hB2.size)
  clear hB2 hB3
  go_wp2_with fail
  go_ret
  exact ⟨rfl, hB4⟩

set_option maxRecDepth 100000 in
set_option maxHeartbeats 40000000 in
theorem zCom_some (w : World) (n s f : Nat) (v1 tv pv ov : Value) (ops : List DOp) (hs : DScrAt w w.heap.size v1 ops) (ts : List Int) (htl : ts.length ≤ maxLen) (htb : ∀ t ∈ ts, t ≤ 9223372036854775807) (hts : SlAt w (fun b => b < w.heap.size) tv (ints ts))
    (zs : List Int) (hzl : zs.length ≤ maxLen) (hps : SlAt w (fun b => b < w.heap.size) pv (ints zs)) (ss : List ByteArray) (hsl : ss.length ≤ maxLen) (hss : SlAt w (fun b => b < w.heap.size) ov (strs ss)) (n0 : 1 ≤ n) (n1 : n ≤ 12) (hk : ops.length ≤ 40) (s0 : 1 ≤ s) (s1 : s ≤ 16) (f0 : 1 ≤ f) (f1 : f ≤ 16) :
    Calls Try.prog 7 #[.agg #[.int .i64 n, .int .i64 s, .int .i64 f], v1, tv, pv, ov] w fun e w' => e = .returned (.bool true) ∧ Below w.heap.size w w' := by
  have hb' := Lib.hid (fun (W : World) (hW : Below w.heap.size w W) => build_ok W n s f v1 ops _ (hs.below hW) hW.size n0 n1 hk s0 s1 f0 f1)
  have hkp := Lib.hid (Keeps.run ops hs.a_le (newD n s f, []))
  have hps' := Lib.hid hps
  have hss' := Lib.hid hss
  have hts' := Lib.hid hts
  obtain ⟨ta, tc, rfl⟩ := hts.len
  rw [ints_length] at hts' ⊢
  clear hs hps hss hts
  have s1i : (s : Int) ≤ 16 := by omega
  have n1i : (n : Int) ≤ 12 := by omega
  have s0i : (1 : Int) ≤ s := by omega
  have n0i : (1 : Int) ≤ n := by omega
  have f1i : (f : Int) ≤ 16 := by omega
  have htb' := Lib.hid htb
  clear htb
  go_enter Try.func7, Try.ntmps7
  go_wp2_with fail
  have hB0 := (Below.refl w.heap.size w).alloc (Nat.le_refl _) (.cells #[.int .i64 n, .int .i64 s, .int .i64 f] 61)
  have hz0 := SizAt.new w n s f 61
  generalize hW : w.alloc (.cells #[.int .i64 n, .int .i64 s, .int .i64 f] 61) = W0 at *
  have hsz0 : W0.heap.size = w.heap.size + 1 := by rw [← hW]; simp
  clear hW
  refine (hb'.out _ hB0).mono ?_
  rintro e w1 ⟨B, rfl, hD, hBa, hB1⟩
  have hB2 := hB0.trans (hB1.mono hB0.size)
  have hA : ∀ k ∈ B.all, w.heap.size + 1 ≤ k := fun k hk => by have := hBa k hk; omega
  have hlen : (runD ops (newD n s f, [])).1.S.length = s ∧ (runD ops (newD n s f, [])).1.M.length = n ∧ (runD ops (newD n s f, [])).1.F.length = f := by
    have := hkp.out
    exact ⟨this.s.trans (by simp [newD]), this.m.trans (by simp [newD, newM]), this.f.trans (by simp [newD])⟩
  have hI := Lib.hid (ComI.mk (d := (runD ops (newD n s f, [])).1) hD hB2 (hz0.fr (S := []) (Fr.of_below hB1) (by simp)) hA)
  generalize (runD ops (newD n s f, [])).1 = d at *
  have hlen' := Lib.hid hlen
  clear hB0 hB1 hb' hBa hD hkp hlen hz0 hsz0 hB2 hA
  obtain ⟨c0, c1, c2⟩ := id hI.out.z
  by_cases hf2 : f < 2
  · have hf2i : (f : Int) < 2 := by omega
    go_wp2_with fail
    refine (zSanity _).mono ?_
    rintro e w2 ⟨rfl, hB3⟩
    have hB4 := hI.out.below.trans (hB3.mono hI.out.below.size)
    clear hB3
    go_wp2_with fail
    go_ret
    exact ⟨rfl, hB4⟩
  have hf2i : (2 : Int) ≤ f := by omega
  by_cases ht10 : 10 < ts.length
  · have ht10i : (10 : Int) < (ts.length : Int) := by omega
    go_wp2_with fail
    refine (zSanity _).mono ?_
    rintro e w2 ⟨rfl, hB3⟩
    have hB4 := hI.out.below.trans (hB3.mono hI.out.below.size)
    clear hB3
    go_wp2_with fail
    go_ret
    exact ⟨rfl, hB4⟩
  have ht10i : (ts.length : Int) ≤ 10 := by omega
  clear ht10
  go_wp2_with fail
  have hps1 := hps'.out.fr (S := []) (Fr.of_below hI.out.below) (by simp)
  refine (dMount _ B _ hI.out.dev (fun b => b < w.heap.size) _ zs hps1 hzl hI.out.ok).mono ?_
  rintro e w2 ⟨rfl, h, hF⟩
  have hI2 := Lib.hid (hI.out.op h hF)
  have hlen2 : Hid ((dMo d zs).S.length = s ∧ (dMo d zs).M.length = n ∧ (dMo d zs).F.length = f) := ⟨hlen'.out.1, (cutM_length _ _).trans hlen'.out.2.1, hlen'.out.2.2⟩
  have hcalm := Lib.hid (Calm.mo d zs)
  generalize dMo d zs = d2 at *
  clear h hF hI hlen' hps1 c0 c1 c2
  have c := dBurned _ B _ hI2.out.dev 1
  cases hb1 : dBd d2 1
  case true =>
    rw [hb1] at c
    clear hb1
    go_wp2_with fail
    refine c.mono ?_
    clear c
    rintro e w' ⟨rfl, rfl⟩
    go_wp2_with fail
    refine (zSanity _).mono ?_
    rintro e w3 ⟨rfl, hB⟩
    have hB4 := hI2.out.below.trans (hB.mono hI2.out.below.size)
    clear hB
    go_wp2_with fail
    go_ret
    exact ⟨rfl, hB4⟩
  rw [hb1] at c
  go_wp2_with fail
  refine c.mono ?_
  clear c
  rintro e w' ⟨rfl, rfl⟩
  have c := dBurn _ B _ hI2.out.dev ((0 : Nat) : Int)
  rw [(dBu_ok 0 hcalm.out.dn hcalm.out.lf (by have := hlen2.out; omega)).1, (dBu_ok 0 hcalm.out.dn hcalm.out.lf (by have := hlen2.out; omega)).2] at c
  have hs1 : zState { d2 with F := d2.F.set 0 true } = 1 := zState_one ((dBd_set_other d2 0 1 (by decide)).trans hb1) (dBd_set_same d2 0 (by have := hlen2.out; omega))
  have hZ : Hid (ZInv { d2 with F := d2.F.set 0 true }) := ⟨⟨hcalm.out.dn, hcalm.out.lf, hcalm.out.nd⟩, by rw [hs1]; decide, fun hb => by have e := dBd_set_other d2 0 1 (by decide); rw [show ((1 : Nat) : Int) = 1 from rfl] at e; rw [e, hb1] at hb; cases hb⟩
  have hlen3 : Hid (({ d2 with F := d2.F.set 0 true } : Dv).S.length = s ∧ ({ d2 with F := d2.F.set 0 true } : Dv).M.length = n ∧ ({ d2 with F := d2.F.set 0 true } : Dv).F.length = f) := ⟨hlen2.out.1, hlen2.out.2.1, by have := hlen2.out.2.2; simpa using this⟩
  generalize ({ d2 with F := d2.F.set 0 true } : Dv) = d3 at *
  clear hb1 hs1 hcalm hlen2
  go_wp2_with fail
  refine c.mono ?_
  clear c
  rintro e w3 ⟨rfl, h, hF⟩
  have hI3 := Lib.hid (hI2.out.op h hF)
  clear h hF hI2
  go_wp2_with fail
  go_loopw [13] (fun q wr => ∃ (i : Nat) (e : Dv), i ≤ ts.length ∧ q = .int .i64 (i : Int) ∧ Hid (ZInv e) ∧ Hid (e.S.length = s ∧ e.M.length = n ∧ e.F.length = f) ∧ Hid (ComI w B n s f e wr)) (fun q _ => ts.length - (intOf q).toNat)
  case atStart => exact ⟨0, d3, Nat.zero_le _, rfl, hZ, hlen3, hI3⟩
  case round =>
    obtain ⟨i, d4, hi, rfl, hZ4, hlen4, hI4⟩ := hrel
    clear hZ hlen3 hI3
    by_cases hlt : i < ts.length
    · have hlti : (i : Int) < (ts.length : Int) := by omega
      obtain ⟨tb, tof, rfl, htb1, htb2, htg⟩ := (hts'.out.fr (S := []) (Fr.of_below hI4.out.below) (by simp)).get (j := i) (x := .int .i64 ts[i]) (by simp [ints, List.getElem?_eq_getElem hlt])
      have htm := htb'.out ts[i] (List.getElem_mem hlt)
      generalize ts[i] = t at *
      go_wp2_with fail
      refine (dTrip _ B _ hI4.out.dev t htm).mono ?_
      rintro e w4 ⟨rfl, h, hF⟩
      have hI5 := Lib.hid (hI4.out.op h hF)
      clear h hF htg hI4
      by_cases hpar : i % 2 = 0
      case' pos =>
        have hpi : ((i : Int) % 2) = 0 := by omega
        go_wp2_with fail
        refine (zBegin _ B _ hI5.out.dev).mono ?_
        rintro e w5 ⟨rfl, h, hF⟩
        have hI6 := Lib.hid (hI5.out.op h hF)
        have hZ5 := Lib.hid (show ZInv { dMo (beginZ (dTr d4 t)).2 zs with M := ldM (dMo (beginZ (dTr d4 t)).2 zs).M ss } from hZ4.out.round t true zs ss)
        have hlen5 := Lib.hid (show (beginZ (dTr d4 t)).2.S.length = s ∧ (beginZ (dTr d4 t)).2.M.length = n ∧ (beginZ (dTr d4 t)).2.F.length = f from
          ⟨(Keeps.beginZ (dTr d4 t)).s.trans hlen4.out.1, (Keeps.beginZ (dTr d4 t)).m.trans hlen4.out.2.1, (Keeps.beginZ (dTr d4 t)).f.trans hlen4.out.2.2⟩)
        generalize (beginZ (dTr d4 t)).2 = d5 at *
        clear h hF hI5 hpi hpar
        go_wp2_with fail
      case' neg =>
        have hpi : ((i : Int) % 2 == 0) = false := by simp; omega
        go_wp2_with fail
        refine (zResume _ B _ hI5.out.dev).mono ?_
        rintro e w5 ⟨rfl, h, hF⟩
        have hI6 := Lib.hid (hI5.out.op h hF)
        have hZ5 := Lib.hid (show ZInv { dMo (resume (dTr d4 t)).2 zs with M := ldM (dMo (resume (dTr d4 t)).2 zs).M ss } from hZ4.out.round t false zs ss)
        have hlen5 := Lib.hid (show (resume (dTr d4 t)).2.S.length = s ∧ (resume (dTr d4 t)).2.M.length = n ∧ (resume (dTr d4 t)).2.F.length = f from
          ⟨(Keeps.resume (dTr d4 t)).s.trans hlen4.out.1, (Keeps.resume (dTr d4 t)).m.trans hlen4.out.2.1, (Keeps.resume (dTr d4 t)).f.trans hlen4.out.2.2⟩)
        generalize (resume (dTr d4 t)).2 = d5 at *
        clear h hF hI5 hpi hpar
        go_wp2_with fail
      all_goals
        have hps1 := hps'.out.fr (S := []) (Fr.of_below hI6.out.below) (by simp)
        refine (dMount _ B _ hI6.out.dev (fun b => b < w.heap.size) _ zs hps1 hzl hI6.out.ok).mono ?_
        rintro e w6 ⟨rfl, h, hF⟩
        have hI5 := Lib.hid (hI6.out.op h hF)
        clear h hF hI6 hps1
        go_wp2_with fail
        have hss1 := hss'.out.fr (S := []) (Fr.of_below hI5.out.below) (by simp)
        refine (dRestoreL _ B _ hI5.out.dev (fun b => b < w.heap.size) _ ss hss1 (fun b hb => (hI5.out.ok b hb).1)).mono ?_
        rintro e w7 ⟨rfl, h, hF⟩
        have hI6 : Hid (ComI w B n s f { dMo d5 zs with M := ldM (dMo d5 zs).M ss } w7) := Lib.hid (hI5.out.op h hF)
        have hlen6 := Lib.hid (show ({ dMo d5 zs with M := ldM (dMo d5 zs).M ss } : Dv).S.length = s ∧ ({ dMo d5 zs with M := ldM (dMo d5 zs).M ss } : Dv).M.length = n ∧ ({ dMo d5 zs with M := ldM (dMo d5 zs).M ss } : Dv).F.length = f from
          ⟨hlen5.out.1, (ldM_length _ _).trans ((cutM_length _ _).trans hlen5.out.2.1), hlen5.out.2.2⟩)
        generalize ({ dMo d5 zs with M := ldM (dMo d5 zs).M ss } : Dv) = d6 at *
        clear h hF hI5 hss1 hlen5
        have hne : (zState d6 == 0) = false := by have := hZ5.out.begun; simp; omega
        go_wp2_with fail
        refine (zState_c _ B _ hI6.out.dev).mono ?_
        rintro e w' ⟨rfl, rfl⟩
        go_wp2_with fail
        go_roundw
        case rel => exact ⟨i + 1, d6, by omega, by go_num, hZ5, hlen6, hI6⟩
        case measure => simp [intOf]; omega
    · obtain rfl : i = ts.length := by omega
      obtain ⟨wo, rfl⟩ : ∃ wo : World, wo = wr := ⟨_, rfl⟩
      have hwf4 := Lib.hid hI4.out.dev.ok.wf
      rcases hZ4.out.state with hst | hst
      · have c := zState_c _ B _ hI4.out.dev
        rw [hst] at c
        go_wp2_with fail
        refine c.mono ?_
        clear c
        rintro e w' ⟨rfl, rfl⟩
        have c := zStepsN _ B _ hI4.out.dev
        rw [zSteps_up hZ4.out.calm.dn hst, hlen4.out.1, hlen4.out.2.1, show ((s + n + 2 : Nat) : Int) = (s : Int) + n + 2 by omega] at c
        go_wp2_with fail
        refine c.mono ?_
        clear c
        rintro e w4 ⟨rfl, h, hF⟩
        have hI5 := Lib.hid (hI4.out.op h hF)
        obtain ⟨x, hres⟩ := resume_lasts hZ4.out.calm.dn hst (by have := hlen4.out; omega) (s + n + 2) (by have := hlen4.out; omega)
        rw [show ((s + n + 2 : Nat) : Int) = (s : Int) + n + 2 by omega] at hres
        have hr := Lib.hid hres
        clear h hF hI4 hres hst
        go_wp2_with fail
        refine (dTrip _ B _ hI5.out.dev ((s : Int) + n + 2) (by omega)).mono ?_
        rintro e w5 ⟨rfl, h, hF⟩
        have hI4 := Lib.hid (hI5.out.op h hF)
        have c := zResume _ B _ hI4.out.dev
        rw [hr.out] at c
        clear h hF hI5
        go_wp2_with fail
        refine c.mono ?_
        clear c
        rintro e w6 ⟨rfl, h, hF⟩
        have hI5 : Hid (ComI w B n s f (doneD d4 x) w6) := Lib.hid (hI4.out.op h hF)
        clear h hF hI4 hr
        go_wp2_with fail
        refine (dTrip _ B _ hI5.out.dev (-1) (by omega)).mono ?_
        rintro e w7 ⟨rfl, h, hF⟩
        have hI4 := Lib.hid (hI5.out.op h hF)
        have hst7 := Lib.hid (doneD_state d4 x (by have := hlen4.out; omega))
        have hem := Lib.hid (doneD_empty d4 x)
        have hL := Lib.hid (doneD_left hZ4.out.calm hwf4.out x (dtext 65 false 64))
        have hl7 : (dTr (doneD d4 x) (-1)).M.length = n := (doneD_len d4 x).trans hlen4.out.2.1
        have hll : Hid ((zLeft (dTr (doneD d4 x) (-1))).length ≤ n) := Nat.le_trans (leftFrom_len _ _) (by unfold imgM; rw [List.length_map, hl7]; exact Nat.le_refl _)
        have hlM : Hid ((dWr (dTr (doneD d4 x) (-1)) 0 (dtext 65 false 64)).M.length = n) := (Keeps.wr _ _ _).m.trans hl7
        clear hl7
        generalize dTr (doneD d4 x) (-1) = d7 at *
        clear h hF hI5 hZ4 hlen4
        have c1 := zState_c _ B _ hI4.out.dev
        rw [hst7.out] at c1
        have c2 := zEmpty _ B _ hI4.out.dev
        rw [hem.out] at c2
        go_wp2_with fail
        refine c1.mono ?_
        clear c1
        rintro e w' ⟨rfl, rfl⟩
        go_wp2_with fail
        refine c2.mono ?_
        clear c2
        rintro e w8 ⟨rfl, hB8⟩
        have hI5 := Lib.hid (hI4.out.bel hB8)
        obtain ⟨z0, z1, z2⟩ := id hI5.out.z
        clear hI4 hB8 hst7 hem
        go_wp2_with fail
        refine (zLeft_c _ B _ hI5.out.dev).mono ?_
        rintro e w9 ⟨v, rfl, hsl9, hB9⟩
        have hI4 := Lib.hid (hI5.out.bel hB9)
        have hLs := Lib.hid (hsl9.imp (ok' := fun b => b ∉ B.l) (fun b hb hm => by have := hI5.out.dev.all_lt b (B.l_all b hm); omega))
        obtain ⟨la, lc, rfl⟩ := hLs.out.len
        rw [natInts_length] at hLs ⊢
        generalize zLeft d7 = L at *
        clear hsl9 hB9 hI5 z0 z1 z2
        go_wp2_with fail
        refine (dText65y _ 64 (by omega) (by omega)).mono ?_
        rintro e w10 ⟨rfl, hB⟩
        have hI5 := Lib.hid (hI4.out.bel hB)
        have hLs2 := Lib.hid (hLs.out.fr (S := []) (Fr.of_below hB) (by simp))
        clear hI4 hLs hB
        go_wp2_with fail
        refine (dWrite _ B _ hI5.out.dev 0 (dtext 65 false 64)).mono ?_
        rintro e w11 ⟨rfl, h, hF⟩
        have hI4 := Lib.hid (hI5.out.op h hF)
        have hLs := Lib.hid (hLs2.out.fr hF (fun b hb => hb))
        generalize dWr d7 0 (dtext 65 false 64) = d8 at *
        clear h hF hI5 hLs2
        have hll' := hll.out
        go_wp2_with fail
        go_loopw [18] (fun q wr => ∃ k : Nat, k ≤ L.length ∧ q = .int .i64 (k : Int) ∧ Hid (ComI w B n s f d8 wr) ∧ Hid (SlAt wr (fun b => b ∉ B.l) (.slice la L.length lc) (natInts L))) (fun q _ => L.length - (intOf q).toNat)
        case atStart => exact ⟨0, Nat.zero_le _, rfl, hI4, hLs⟩
        case round =>
          obtain ⟨k, hkl, rfl, hI5, hLs2⟩ := hrel
          clear hI4 hLs
          by_cases hlt : k < L.length
          · have hlti : (k : Int) < (L.length : Int) := by omega
            have hLk := List.getElem?_eq_getElem hlt
            have hwr := Lib.hid (fun y => hL.out.write hLk y)
            obtain ⟨hjm, hji⟩ := hL.out.read hLk
            obtain ⟨lb, lo, rfl, hlb, hlbl, hlg⟩ := hLs2.out.get (j := k) (x := .int .i64 (L[k] : Int)) (by simp [natInts, hLk])
            generalize L[k] = j at *
            have hjn : (j : Int) < (n : Int) := by have := hlM.out; omega
            clear hLk hjm
            go_wp2_with fail
            refine (dImage _ B _ hI5.out.dev).mono ?_
            rintro e w12 ⟨v, rfl, hsi, hB⟩
            have hI4 := Lib.hid (hI5.out.bel hB)
            have hLs := Lib.hid (hLs2.out.fr (S := []) (Fr.of_below hB) (by simp))
            obtain ⟨ia, ic, rfl⟩ := hsi.len
            have hln : (strs (imgM d8.M)).length = n := by have := hlM.out; simp [strs, imgM, this]
            rw [hln] at hsi ⊢
            obtain ⟨ib, io, rfl, hib, hibl, hig⟩ := hsi.get (j := j) (x := .string (dRdT d8 j)) (by simp [strs, hji])
            have hlg2 := (hB.cell (p := ⟨lb, lo + k, none⟩) hlbl).trans hlg
            have hlbl2 := Nat.lt_of_lt_of_le hlbl hB.size
            have hib' := Lib.hid hib
            clear hI5 hLs2 hsi hln hB hlg hlbl hib hji
            go_wp2_with fail
            refine (dText70 _).mono ?_
            rintro e w13 ⟨rfl, hB⟩
            have hI5 := Lib.hid (hI4.out.bel hB)
            have hLs2 := Lib.hid (hLs.out.fr (S := []) (Fr.of_below hB) (by simp))
            have hlg := (hB.cell (p := ⟨lb, lo + k, none⟩) hlbl2).trans hlg2
            have hig2 := (hB.cell (p := ⟨ib, io + j, none⟩) hibl).trans hig
            have hlbl := Nat.lt_of_lt_of_le hlbl2 hB.size
            clear hI4 hLs hB hlg2 hlbl2 hig hibl
            have hlb' := Lib.hid hlb
            clear hlb
            by_cases hx : dRdT d8 j = t70
            case' pos =>
              have hcmp := beqT hx
              have hfin := Lib.hid (beqF (a := dRdT d8 j) (b := t75) (by rw [hx]; exact t70_ne))
              clear hx
              go_wp2_with fail
              refine (dText75 _).mono ?_
              rintro e w14 ⟨rfl, hB⟩
              have hI6 := Lib.hid (hI5.out.bel hB)
              have hLs6 := Lib.hid (hLs2.out.fr (S := []) (Fr.of_below hB) (by simp))
              have hlg6 := (hB.cell (p := ⟨lb, lo + k, none⟩) hlbl).trans hlg
              have hlbl6 := Nat.lt_of_lt_of_le hlbl hB.size
              clear hI5 hLs2 hB hlg hlbl hcmp hig2
            case' neg =>
              have hcmp := beqF hx
              have hfin := Lib.hid hcmp
              have hI6 := Lib.hid hI5.out
              have hLs6 := Lib.hid hLs2.out
              have hlg6 := hlg
              have hlbl6 := hlbl
              clear hI5 hLs2 hx hlg hlbl
            all_goals
              go_wp2_with fail
              refine (dWrite _ B _ hI6.out.dev j _).mono ?_
              rintro e w15 ⟨rfl, h, hF⟩
              rw [hwr.out] at h
              have hI7 := Lib.hid (hI6.out.op h hF)
              have hLs7 := Lib.hid (hLs6.out.fr hF (fun b hb => hb))
              have hlg7 := (hF.cell (p := ⟨lb, lo + k, none⟩) hlbl6 hlb'.out).trans hlg6
              clear h hF hI6 hLs6 hlg6 hlbl6
              go_wp2_with fail
              refine (dRead _ B _ hI7.out.dev j).mono ?_
              rintro e w' ⟨rfl, rfl⟩
              have hfin' := hfin.out
              go_wp2_with fail
              go_roundw
              case rel => exact ⟨k + 1, by omega, by go_num, hI7, hLs7⟩
              case measure => simp [intOf]; omega
          · obtain rfl : k = L.length := by omega
            go_wp2_with fail
            refine (zSanity _).mono ?_
            rintro e w2 ⟨rfl, hB3⟩
            have hB4 := hI5.out.below.trans (hB3.mono hI5.out.below.size)
            clear hB3
            go_wp2_with fail
            go_ret
            exact ⟨rfl, hB4⟩
      · have c := zState_c _ B _ hI4.out.dev
        rw [hst] at c
        go_wp2_with fail
        refine c.mono ?_
        clear c
        rintro e w' ⟨rfl, rfl⟩
        have c := zStepsN _ B _ hI4.out.dev
        rw [show ((zSteps d4 : Nat) : Int) = 0 from by unfold zSteps; rw [if_neg (by rw [hst]; decide)]; rfl] at c
        go_wp2_with fail
        refine c.mono ?_
        clear c
        rintro e w4 ⟨rfl, h, hF⟩
        have hI5 := Lib.hid (hI4.out.op h hF)
        have hr : Hid (resume (dTr d4 0) = (0, dTr d4 0)) := by unfold Hid resume; rw [if_pos (by rw [zState_F (d := d4) (e := dTr d4 0) rfl, hst]; decide)]
        clear h hF hI4
        go_wp2_with fail
        refine (dTrip _ B _ hI5.out.dev 0 (by omega)).mono ?_
        rintro e w5 ⟨rfl, h, hF⟩
        have hI4 := Lib.hid (hI5.out.op h hF)
        have c := zResume _ B _ hI4.out.dev
        rw [hr.out] at c
        clear h hF hI5
        go_wp2_with fail
        refine c.mono ?_
        clear c
        rintro e w6 ⟨rfl, h, hF⟩
        have hI5 : Hid (ComI w B n s f (dTr d4 0) w6) := Lib.hid (hI4.out.op h hF)
        clear h hF hI4 hr
        go_wp2_with fail
        refine (dTrip _ B _ hI5.out.dev (-1) (by omega)).mono ?_
        rintro e w7 ⟨rfl, h, hF⟩
        have hI4 := Lib.hid (hI5.out.op h hF)
        have hst7 : Hid (zState (dTr (dTr d4 0) (-1)) = 2) := (zState_F (d := d4) rfl).trans hst
        have hem : Hid (emptyB (dTr (dTr d4 0) (-1)) = true) := decide_eq_true (.inr (hZ4.out.done (dBd_of_two hst)))
        generalize dTr (dTr d4 0) (-1) = d7 at *
        clear h hF hI5 hZ4 hlen4 hwf4 hst
        have c1 := zState_c _ B _ hI4.out.dev
        rw [hst7.out] at c1
        have c2 := zEmpty _ B _ hI4.out.dev
        rw [hem.out] at c2
        go_wp2_with fail
        refine c1.mono ?_
        clear c1
        rintro e w' ⟨rfl, rfl⟩
        go_wp2_with fail
        refine c2.mono ?_
        clear c2
        rintro e w8 ⟨rfl, hB8⟩
        have hI5 := Lib.hid (hI4.out.bel hB8)
        clear hI4 hB8 hst7 hem
        go_wp2_with fail
        refine (zSanity _).mono ?_
        rintro e w2 ⟨rfl, hB3⟩
        have hB4 := hI5.out.below.trans (hB3.mono hI5.out.below.size)
        clear hB3
        go_wp2_with fail
        go_ret
        exact ⟨rfl, hB4⟩

theorem lZCompletes (w : World) (n s f : Int) (_hn : n ≤ 9223372036854775807) (hsz : s ≤ 9223372036854775807) (hfz : f ≤ 9223372036854775807) (v1 : Value) (ops1 : List DOp) (hs1 : DScrAt w w.heap.size v1 ops1)
    (tv : Value) (ts : List Int) (htl : ts.length ≤ maxLen) (htb : ∀ t ∈ ts, t ≤ 9223372036854775807) (hts : SlAt w (fun b => b < w.heap.size) tv (ints ts)) (pv : Value) (zs : List Int) (hz : zs.length ≤ maxLen) (hps : SlAt w (fun b => b < w.heap.size) pv (ints zs))
    (ov : Value) (ss : List ByteArray) (hsl : ss.length ≤ maxLen) (_hsy : ∀ x ∈ ss, x.size ≤ maxLen) (hss : SlAt w (fun b => b < w.heap.size) ov (strs ss)) :
    Calls Try.prog 7 #[.agg #[.int .i64 n, .int .i64 s, .int .i64 f], v1, tv, pv, ov] w fun e w' => e = .returned (.bool true) ∧ Below w.heap.size w w' := by
  by_cases h : fits n s f ops1.length
  · obtain ⟨n, s, f, rfl, rfl, rfl, k1, k2, k3, k4, k5, k6, k7⟩ := fits_nat h
    exact zCom_some w n s f v1 tv pv ov ops1 hs1 ts htl htb hts zs hz hps ss hsl hss k1 k2 k3 k4 k5 k6 k7
  · exact zCom_nil w n s f v1 tv pv ov (fun W hW => build_no W n s f v1 ops1.length hs1.len hsz hfz h)

end Go.Proofs.Ytogljlloobjeoaa
