/- The order of Begin: the plain law. Nothing of the program stands here. -/
import Derived.Test.YtogljlloobjeoaaZStl
import Derived.Test.YtogljlloobjeoaaZNev
namespace Go.Proofs.Ytogljlloobjeoaa

def noDirty (M : List Sec) : Prop := ∀ s ∈ M, s.dirty = false
theorem cutM_noDirty : ∀ (M : List Sec) (ps : List Int), noDirty (cutM M ps)
  | [], _ => by intro s hs; cases hs
  | s :: M, ps => by
    unfold cutM
    intro x hx
    split at hx
    · rcases List.mem_cons.1 hx with rfl | hx
      · unfold Sec.settle; split <;> rfl
      · exact cutM_noDirty M _ x hx
    · rename_i hd
      rcases List.mem_cons.1 hx with rfl | hx
      · simpa using hd
      · exact cutM_noDirty M _ x hx
theorem cutM_same : ∀ (M : List Sec) (ps : List Int), noDirty M → cutM M ps = M
  | [], _, _ => rfl
  | s :: M, ps, h => by
    unfold cutM
    rw [if_neg (by rw [h s (by simp)]; decide), cutM_same M ps (fun x hx => h x (by simp [hx]))]
theorem flM_noDirty (M : List Sec) : noDirty (flM M) := by
  intro s hs
  unfold flM at hs
  obtain ⟨x, _, rfl⟩ := List.mem_map.1 hs
  split
  · unfold Sec.settle; rw [if_pos (by decide)]
  · rename_i h; simpa using h
theorem wiped_noDirty (M : List Sec) : noDirty (wiped M) := flM_noDirty _
theorem wiped_get (M : List Sec) (i : Nat) : (wiped M)[i]? = M[i]?.map (fun s => if (s.put zero64).dirty = true then (s.put zero64).settle 64 else s.put zero64) := by
  unfold wiped flM
  rw [List.getElem?_map, List.getElem?_map]
  cases M[i]? <;> rfl
/-- What a sector holds behind a whole Resume. -/
theorem wiped_now {s : Sec} (hw : s.WF) : (if (s.put zero64).dirty = true then (s.put zero64).settle 64 else s.put zero64).now = zero64 ∨ (s.worn = true ∧ ∀ (_ : s.dirty = false), (if (s.put zero64).dirty = true then (s.put zero64).settle 64 else s.put zero64) = s) := by
  cases hwn : s.worn
  · left
    have e : s.put zero64 = { s with fresh := zero64, dirty := true } := by unfold Sec.put; rw [if_neg (by simp [hwn])]
    rw [e, if_pos rfl, settle64 { s with fresh := zero64, dirty := true } hw.1 zero64_size]
  · right
    refine ⟨rfl, fun hd => ?_⟩
    have e : s.put zero64 = s := by unfold Sec.put; rw [if_pos hwn]
    rw [e, if_neg (by simp [hd])]

/-! ### A prefix of the steps is made -/
theorem runZ_prefix (l : List ZOp) : ∀ d : Dv, ∃ k, k ≤ l.length ∧ (runZ l d).2.M = ((l.take k).foldl gz d).M ∧ (runZ l d).2.S = ((l.take k).foldl gz d).S ∧ (runZ l d).2.F = ((l.take k).foldl gz d).F := by
  induction l with
  | nil => exact fun d => ⟨0, Nat.le_refl _, rfl, rfl, rfl⟩
  | cons o l ih =>
    intro d
    by_cases h : zE d o = 0
    · obtain ⟨k, hk, h1, h2, h3⟩ := ih (zD d o)
      have hz : zD d o = gz d.less o := by
        rw [zE_eq] at h
        obtain ⟨_, hc, _, _⟩ := stp_go (g := fun d => gz d o) h
        rw [zD_eq]
        exact (stp_go (g := fun d => gz d o) h).2.2.2
      refine ⟨k + 1, by simpa using hk, ?_⟩
      rw [runZ, if_pos h, List.take_succ_cons, List.foldl_cons, h1, h2, h3, hz]
      have e : gz d.less o = { gz d o with lf := max (d.lf - 1) (-1) } := gz_lf d o _
      rw [e, gzs_lf]
      exact ⟨rfl, rfl, rfl⟩
    · refine ⟨0, Nat.zero_le _, ?_⟩
      rw [runZ, if_neg h]
      rw [zE_eq] at h
      obtain ⟨x, y, e⟩ := stp_no (g := fun d => gz d o) h
      rw [zD_eq, e]
      exact ⟨rfl, rfl, rfl⟩
theorem gzs_M (l : List ZOp) (h : ∀ o ∈ l, ∃ i, o = .st i) : ∀ d : Dv, (l.foldl gz d).M = d.M := by
  induction l with
  | nil => intro d; rfl
  | cons o l ih =>
    intro d
    rw [List.foldl_cons, ih (fun o' ho => h o' (by simp [ho]))]
    obtain ⟨i, rfl⟩ := h o (by simp)
    rfl
theorem gzs_S (l : List ZOp) (h : ∀ o ∈ l, ∀ i, o ≠ .st i) : ∀ d : Dv, (l.foldl gz d).S = d.S := by
  induction l with
  | nil => intro d; rfl
  | cons o l ih =>
    intro d
    rw [List.foldl_cons, ih (fun o' ho => h o' (by simp [ho]))]
    cases o with
    | st i => exact absurd rfl (h (.st i) (by simp) i)
    | wr i => rfl
    | bu => rfl
    | fl => rfl
theorem zList_few {n m k : Nat} (h : k ≤ n) : ∀ o ∈ (zList n m).take k, ∃ i, o = .st i := by
  intro o ho
  unfold zList at ho
  rw [List.take_append_of_le_length (by simpa using h)] at ho
  obtain ⟨i, _, rfl⟩ := List.mem_map.1 (List.mem_of_mem_take ho)
  exact ⟨i, rfl⟩
/-- Once all slots are written, they are zero. -/
theorem gzs_zero (d : Dv) (m k : Nat) (h : d.S.length ≤ k) : (((zList d.S.length m).take k).foldl gz d).S = List.replicate d.S.length zero32 := by
  have e : (zList d.S.length m).take k = (List.range d.S.length).map .st ++ ((List.range m).map ZOp.wr ++ [ZOp.fl, ZOp.bu]).take (k - d.S.length) := by
    unfold zList
    rw [List.take_append, List.take_of_length_le (by simpa using h)]
    simp
  rw [e, List.foldl_append, gzs_st _ _ (Nat.le_refl _), gzs_S]
  · simp
  · intro o ho i
    have ho := List.mem_of_mem_take ho
    simp only [List.mem_append, List.mem_map, List.mem_range, List.mem_cons, List.not_mem_nil, or_false] at ho
    rcases ho with ⟨j, _, rfl⟩ | rfl | rfl <;> exact fun e => by cases e

/-- A device that is up, without end of power, with nothing dirty. -/
structure Calm (d : Dv) : Prop where
  dn : d.dn = false
  lf : d.lf = -1
  nd : noDirty d.M
theorem Calm.mo (d : Dv) (ps : List Int) : Calm (dMo d ps) := ⟨rfl, rfl, cutM_noDirty _ _⟩

structure Order (d1 d4 : Dv) : Prop where
  up : d4.dn = false
  keep : Keeps d1 d4
  none' : dBd d4 0 = false → imgM d4.M = imgM d1.M ∧ d4.S = d1.S
  part' : imgM d4.M ≠ imgM d1.M → ∀ x ∈ d4.S, x = zero32
  whole' : dBd d4 1 = true → (∀ x ∈ d4.S, x = zero32) ∧ ∀ (i : Nat) x y, (imgM d1.M)[i]? = some x → (imgM d4.M)[i]? = some y → x ≠ y → y = zero64

theorem order_plain (d1 : Dv) (hc : Calm d1) (hok : d1.Ok) (h1 : dBd d1 1 = false) (t : Int) (ht : 0 ≤ t) (ht1 : t ≤ 9223372036854775807) (ps : List Int) :
    Order d1 (dMo (beginZ (dTr d1 t)).2 ps) := by
  have hkeep : Keeps d1 (dMo (beginZ (dTr d1 t)).2 ps) := ((Keeps.tr d1 t ht1).trans (Keeps.beginZ _)).trans (Keeps.mo _ _)
  have hb : buC (dTr d1 t) 0 = 0 := if_pos (by have := hok.f0; show (0 : Int) ≤ 0 ∧ (0 : Int) < (d1.F.length : Int); omega)
  by_cases h0 : t = 0
  · subst h0
    have e1 : stpE (dTr d1 0) (buC (dTr d1 0) 0) = 14 := by
      rw [hb]; unfold stpE
      rw [if_neg (by show ¬ d1.dn = true; simp [hc.dn]), if_neg (by simp), if_pos (by show max (0 : Int) (-1) = 0; omega)]
    have e2 : dBu (dTr d1 0) 0 = { d1 with dn := true, lf := -1 } := by
      unfold dBu stpD
      rw [hb, if_neg (by show ¬ d1.dn = true; simp [hc.dn]), if_neg (by simp), if_pos (by show max (0 : Int) (-1) = 0; omega)]
      rfl
    have e3 : beginZ (dTr d1 0) = (14, { d1 with dn := true, lf := -1 }) := by
      unfold beginZ
      rw [if_neg (by rw [e1]; decide), e1, e2]
    rw [e3]
    have eM : (dMo { d1 with dn := true, lf := -1 } ps).M = d1.M := cutM_same _ _ hc.nd
    refine ⟨rfl, by rw [e3] at hkeep; exact hkeep, fun _ => ⟨by rw [eM], rfl⟩, fun hne => absurd (by rw [eM]) hne, fun hb1 => ?_⟩
    have : dBd d1 1 = true := (dBd_F (d := d1) (e := dMo { d1 with dn := true, lf := -1 } ps) rfl 1).symm.trans hb1
    rw [h1] at this; cases this
  · have e1 : stpE (dTr d1 t) (buC (dTr d1 t) 0) = 0 := by
      rw [hb]; unfold stpE
      rw [if_neg (by show ¬ d1.dn = true; simp [hc.dn]), if_neg (by simp), if_neg (by show ¬ max t (-1) = 0; omega)]
    have e2 : ∃ x, dBu (dTr d1 t) 0 = { d1 with F := d1.F.set 0 true, lf := x } := by
      unfold dBu stpD
      rw [hb, if_neg (by show ¬ d1.dn = true; simp [hc.dn]), if_neg (by simp), if_neg (by show ¬ max t (-1) = 0; omega)]
      exact ⟨_, rfl⟩
    obtain ⟨x, e2⟩ := e2
    have hF0 : 0 < d1.F.length := hok.f0
    have d20 : dBd { d1 with F := d1.F.set 0 true, lf := x } 0 = true := (dBd_F (d := { d1 with F := d1.F.set 0 true }) rfl 0).trans (dBd_set_same d1 0 hF0)
    have d21 : dBd { d1 with F := d1.F.set 0 true, lf := x } 1 = false := (dBd_F (d := { d1 with F := d1.F.set 0 true }) rfl 1).trans ((dBd_set_other d1 0 1 (by decide)).trans h1)
    have e3 : beginZ (dTr d1 t) = runZ (zList d1.S.length d1.M.length) { d1 with F := d1.F.set 0 true, lf := x } := by
      unfold beginZ
      rw [if_pos e1, e2, resume_go (by exact hc.dn) (zState_one d21 d20)]
    rw [e3] at hkeep ⊢
    obtain ⟨k, hk, hM, hS, hF⟩ := runZ_prefix (zList d1.S.length d1.M.length) { d1 with F := d1.F.set 0 true, lf := x }
    have hup := Up2.runZ (zList d1.S.length d1.M.length) { d1 with F := d1.F.set 0 true, lf := x }
    generalize (runZ (zList d1.S.length d1.M.length) { d1 with F := d1.F.set 0 true, lf := x }).2 = d3 at *
    rw [zList_length] at hk
    have eb : ∀ i, dBd (dMo d3 ps) i = dBd d3 i := fun i => dBd_F rfl i
    have hz : d1.S.length ≤ k → ∀ y ∈ (dMo d3 ps).S, y = zero32 := by
      intro hle y hy
      have hy' : y ∈ d3.S := hy
      rw [hS, gzs_zero { d1 with F := d1.F.set 0 true, lf := x } d1.M.length k hle] at hy'
      exact (List.mem_replicate.1 hy').2
    have hdone : dBd d3 1 = true → k = d1.S.length + d1.M.length + 2 := by
      intro hb1
      apply Classical.byContradiction
      intro hne
      have := gzs_F ((zList d1.S.length d1.M.length).take k) (zList_take (by omega)) { d1 with F := d1.F.set 0 true, lf := x }
      rw [← hF] at this
      rw [dBd_F this 1, d21] at hb1
      cases hb1
    refine ⟨rfl, hkeep, fun hb0 => ?_, fun hne => ?_, fun hb1 => ?_⟩
    · rw [eb] at hb0
      have := (dBd_true d3 0).2 (hup.f 0 ((dBd_true _ 0).1 d20))
      have h' : dBd d3 0 = true := this
      rw [h'] at hb0; cases hb0
    · apply hz
      apply Classical.byContradiction
      intro hlt
      apply hne
      have e : d3.M = d1.M := by rw [hM, gzs_M _ (zList_few (by omega))]
      show imgM (cutM d3.M ps) = _
      rw [e, cutM_same _ _ hc.nd]
    · rw [eb] at hb1
      have hkk := hdone hb1
      refine ⟨hz (by omega), fun i y z hy hzz hyz => ?_⟩
      have e : d3.M = wiped d1.M := by
        rw [hM, hkk, List.take_of_length_le (Nat.le_of_eq (zList_length _ _))]
        rw [gzs_zList { d1 with F := d1.F.set 0 true, lf := x }]
      have e4 : (dMo d3 ps).M = wiped d1.M := by show cutM d3.M ps = _; rw [e, cutM_same _ _ (wiped_noDirty _)]
      rw [e4] at hzz
      unfold imgM at hy hzz
      rw [List.getElem?_map] at hy hzz
      rw [wiped_get] at hzz
      cases hs : d1.M[i]? with
      | none => rw [hs] at hy; cases hy
      | some s =>
        rw [hs] at hy hzz
        injection hy with hy
        injection hzz with hzz
        have hw : s.WF := hok.wf s (List.mem_of_getElem? hs)
        rcases wiped_now hw with h | ⟨_, h⟩
        · rw [← hzz]; exact h
        · have h' := h (hc.nd s (List.mem_of_getElem? hs))
          have e5 : s.now = z := (congrArg Sec.now h').symm.trans hzz
          exact absurd (hy.symm.trans e5) hyz

end Go.Proofs.Ytogljlloobjeoaa
