/- The examples of chapter 33 as plain data. Nothing of the program stands here. -/
import Derived.Test.YtogljlloobjeoaaZMod
namespace Go.Proofs.Ytogljlloobjeoaa

/-! ### The steps, and what they leave when the power lasts -/
def gz (d : Dv) : ZOp → Dv
  | .st i => { d with S := d.S.set i zero32 }
  | .wr i => { d with M := wrM d.M i zero64 }
  | .fl => { d with M := flM d.M }
  | .bu => { d with F := d.F.set 1 true }
def zC (d : Dv) : ZOp → Int
  | .st i => slC d i zero32
  | .wr i => wrC d i zero64
  | .fl => 0
  | .bu => buC d 1
theorem zE_eq (d : Dv) (o : ZOp) : zE d o = stpE d (zC d o) := by cases o <;> rfl
theorem zD_eq (d : Dv) (o : ZOp) : zD d o = stpD d (zC d o) (fun d => gz d o) := by cases o <;> rfl
theorem gz_lens (d : Dv) (o : ZOp) : (gz d o).M.length = d.M.length ∧ (gz d o).S.length = d.S.length ∧ (gz d o).F.length = d.F.length := by
  cases o <;> simp [gz, wrM_length, flM_length]
theorem zC_lens {d e : Dv} (h : e.M.length = d.M.length ∧ e.S.length = d.S.length ∧ e.F.length = d.F.length) (o : ZOp) : zC e o = zC d o := by
  cases o <;> simp [zC, slC, wrC, buC, isIn, h.1, h.2.1, h.2.2]
theorem gz_lf (d : Dv) (o : ZOp) (x : Int) : gz { d with lf := x } o = { gz d o with lf := x } := by cases o <;> rfl
theorem gz_keep (d : Dv) (o : ZOp) : (gz d o).dn = d.dn ∧ (gz d o).lf = d.lf := by cases o <;> exact ⟨rfl, rfl⟩
theorem gzs_lf (l : List ZOp) : ∀ (d : Dv) (x : Int), l.foldl gz { d with lf := x } = { l.foldl gz d with lf := x } := by
  induction l with
  | nil => intros; rfl
  | cons o l ih => intro d x; simp only [List.foldl_cons]; rw [gz_lf]; exact ih _ _
theorem gzs_keep (l : List ZOp) : ∀ d : Dv, (l.foldl gz d).dn = d.dn ∧ (l.foldl gz d).lf = d.lf ∧ (l.foldl gz d).M.length = d.M.length ∧ (l.foldl gz d).S.length = d.S.length ∧ (l.foldl gz d).F.length = d.F.length := by
  induction l with
  | nil => intro d; exact ⟨rfl, rfl, rfl, rfl, rfl⟩
  | cons o l ih =>
    intro d
    obtain ⟨h1, h2, h3, h4, h5⟩ := ih (gz d o)
    obtain ⟨k1, k2⟩ := gz_keep d o
    obtain ⟨m1, m2, m3⟩ := gz_lens d o
    exact ⟨h1.trans k1, h2.trans k2, h3.trans m1, h4.trans m2, h5.trans m3⟩
theorem less_lens (d : Dv) : d.less.M.length = d.M.length ∧ d.less.S.length = d.S.length ∧ d.less.F.length = d.F.length := ⟨rfl, rfl, rfl⟩
theorem zE_ok {d : Dv} {o : ZOp} (h : d.dn = false) (hc : zC d o = 0) (hl : d.lf ≠ 0) : zE d o = 0 := by
  rw [zE_eq, hc]; unfold stpE; rw [if_neg (by simp [h]), if_neg (by simp), if_neg hl]
theorem zD_ok {d : Dv} {o : ZOp} (h : d.dn = false) (hc : zC d o = 0) (hl : d.lf ≠ 0) : zD d o = gz d.less o := by
  rw [zD_eq, hc]; unfold stpD; rw [if_neg (by simp [h]), if_neg (by simp), if_neg hl]
theorem zE_no {d : Dv} {o : ZOp} (h : d.dn = false) (hc : zC d o = 0) (hl : d.lf = 0) : zE d o = 14 := by
  rw [zE_eq, hc]; unfold stpE; rw [if_neg (by simp [h]), if_neg (by simp), if_pos hl]
theorem zD_no {d : Dv} {o : ZOp} (h : d.dn = false) (hc : zC d o = 0) (hl : d.lf = 0) : zD d o = { d with dn := true, lf := -1 } := by
  rw [zD_eq, hc]; unfold stpD; rw [if_neg (by simp [h]), if_neg (by simp), if_pos hl]
/-- The power lasts. -/
theorem runZ_all (l : List ZOp) : ∀ d : Dv, d.dn = false → (∀ o ∈ l, zC d o = 0) → d.lf = -1 → runZ l d = (0, l.foldl gz d) := by
  induction l with
  | nil => intros; rfl
  | cons o l ih =>
    intro d h hc hl
    have h1 := hc o (by simp)
    have hless : d.less = d := by unfold Dv.less; rw [hl]; cases d; cases hl; rfl
    rw [runZ, if_pos (zE_ok h h1 (by omega)), zD_ok h h1 (by omega), hless]
    exact ih _ ((gz_keep d o).1.trans h) (fun o' ho => (zC_lens (gz_lens d o) o').trans (hc o' (by simp [ho]))) ((gz_keep d o).2.trans hl)
/-- It lasts for k steps. -/
theorem runZ_lasts (l : List ZOp) : ∀ (k : Nat) (d : Dv), d.dn = false → (∀ o ∈ l, zC d o = 0) → d.lf = (k : Int) → l.length ≤ k → runZ l d = (0, { l.foldl gz d with lf := ((k - l.length : Nat) : Int) }) := by
  induction l with
  | nil => intro k d h hc hl _; cases d; cases hl; rfl
  | cons o l ih =>
    intro k d h hc hl hk
    have h1 := hc o (by simp)
    cases k with
    | zero => cases hk
    | succ k =>
      have hless : d.less = { d with lf := (k : Int) } := by unfold Dv.less; rw [hl]; congr 1; omega
      rw [runZ, if_pos (zE_ok h h1 (by omega)), zD_ok h h1 (by omega), hless, gz_lf]
      rw [ih k { gz d o with lf := (k : Int) } ((gz_keep d o).1.trans h) (fun o' ho => (zC_lens (e := { gz d o with lf := (k : Int) }) (gz_lens d o) o').trans (hc o' (by simp [ho]))) rfl (by simpa using hk)]
      rw [List.length_cons, List.foldl_cons, gzs_lf, Nat.add_sub_add_right]
theorem runZ_fails (l : List ZOp) : ∀ (k : Nat) (d : Dv), d.dn = false → (∀ o ∈ l, zC d o = 0) → d.lf = (k : Int) → k < l.length → runZ l d = (14, { (l.take k).foldl gz d with dn := true, lf := -1 }) := by
  induction l with
  | nil => intro k d h hc hl hk; cases hk
  | cons o l ih =>
    intro k d h hc hl hk
    have h1 := hc o (by simp)
    cases k with
    | zero =>
      rw [runZ, if_neg (by rw [zE_no h h1 hl]; decide), zE_no h h1 hl, zD_no h h1 hl]
      rfl
    | succ k =>
      have hless : d.less = { d with lf := (k : Int) } := by unfold Dv.less; rw [hl]; congr 1; omega
      rw [runZ, if_pos (zE_ok h h1 (by omega)), zD_ok h h1 (by omega), hless, gz_lf]
      rw [ih k { gz d o with lf := (k : Int) } ((gz_keep d o).1.trans h) (fun o' ho => (zC_lens (e := { gz d o with lf := (k : Int) }) (gz_lens d o) o').trans (hc o' (by simp [ho]))) rfl (by simpa using hk)]
      rw [List.take_succ_cons, List.foldl_cons, gzs_lf]

theorem gzs_st (d : Dv) : ∀ k, k ≤ d.S.length → ((List.range k).map ZOp.st).foldl gz d = { d with S := List.replicate k zero32 ++ d.S.drop k } := by
  intro k
  induction k with
  | zero => intro _; rfl
  | succ k ih =>
    intro h
    rw [List.range_succ, List.map_append, List.foldl_append, ih (by omega)]
    show ({ d with S := (List.replicate k zero32 ++ d.S.drop k).set k zero32 } : Dv) = _
    congr 1
    rw [List.set_append_right _ _ (by simp), List.length_replicate, Nat.sub_self, List.drop_eq_getElem_cons (by omega : k < d.S.length), List.set_cons_zero, List.replicate_succ', List.append_assoc]
    rfl
theorem gzs_wr (d : Dv) : ∀ k, k ≤ d.M.length → ((List.range k).map ZOp.wr).foldl gz d = { d with M := (d.M.take k).map (Sec.put zero64) ++ d.M.drop k } := by
  intro k
  induction k with
  | zero => intro _; rfl
  | succ k ih =>
    intro h
    rw [List.range_succ, List.map_append, List.foldl_append, ih (by omega)]
    show ({ d with M := wrM ((d.M.take k).map (Sec.put zero64) ++ d.M.drop k) (k : Nat) zero64 } : Dv) = _
    congr 1
    unfold wrM
    rw [if_pos ⟨⟨by omega, by simp; omega⟩, zero64_size⟩, Int.toNat_natCast, List.drop_eq_getElem_cons (by omega : k < d.M.length)]
    rw [updS_some (s := d.M[k]) _ (by rw [List.getElem?_append_right (by simp; omega)]; simp [Nat.min_eq_left (by omega : k ≤ d.M.length)])]
    rw [List.set_append_right _ _ (by simp; omega)]
    simp only [List.length_map, List.length_take, Nat.min_eq_left (by omega : k ≤ d.M.length), Nat.sub_self, List.set_cons_zero]
    rw [List.take_succ_eq_append_getElem (by omega : k < d.M.length), List.map_append, List.append_assoc]
    rfl
def wiped (M : List Sec) : List Sec := flM (M.map (Sec.put zero64))
theorem gzs_zList (d : Dv) : (zList d.S.length d.M.length).foldl gz d = { d with S := List.replicate d.S.length zero32, M := wiped d.M, F := d.F.set 1 true } := by
  unfold zList
  rw [List.foldl_append, List.foldl_append, gzs_st _ _ (Nat.le_refl _)]
  rw [gzs_wr { d with S := List.replicate d.S.length zero32 ++ d.S.drop d.S.length } d.M.length (Nat.le_refl _)]
  simp only [List.drop_length, List.append_nil, List.take_length]
  rfl
theorem zC_zList (d : Dv) (hf : 2 ≤ d.F.length) : ∀ o ∈ zList d.S.length d.M.length, zC d o = 0 := by
  intro o ho
  unfold zList at ho
  simp only [List.mem_append, List.mem_map, List.mem_range, List.mem_cons, List.not_mem_nil, or_false] at ho
  rcases ho with ⟨i, hi, rfl⟩ | ⟨i, hi, rfl⟩ | rfl | rfl
  · exact if_pos ⟨by omega, zero32_size⟩
  · exact if_pos ⟨⟨by omega, by omega⟩, zero64_size⟩
  · rfl
  · exact if_pos (by omega)

/-! ### The example -/
def y32 : ByteArray := dtext 65 false 32
theorem y32_size : y32.size = 32 := by simp [y32, dtext_size]
def y64 : ByteArray := dtext 65 false 64
theorem y64_size : y64.size = 64 := by simp [y64, dtext_size]
theorem y64_ne : y64 ≠ zero64 := by
  intro h
  have := congrArg (fun b : ByteArray => b.data[0]?) h
  simp [y64, dtext, zero64] at this
def u0 : Dv := newD 2 1 2
def u1 : Dv := dSt u0 0 y32
def u2 : Dv := dWr u1 1 y64
def u3 : Dv := dFl u2
def u4 : Dv := dTr u3 2
def u5 : Dv := (beginZ u4).2
def u6 : Dv := dMo u5 []
def u7 : Dv := (resume u6).2
theorem u1_c : slC u0 0 y32 = 0 := if_pos ⟨by decide, y32_size⟩
theorem u1_E : stpE u0 (slC u0 0 y32) = 0 := by rw [u1_c]; rfl
def sZ : Sec := { now := zero64, before := zero64, fresh := ByteArray.empty, dirty := false, worn := false }
theorem u1_eq : u1 = { M := [sZ, sZ], S := [y32], F := [false, false], cnt := 0, clk := 0, dn := false, lf := -1 } := by
  unfold u1 dSt; rw [u1_c]; rfl
theorem u2_c : wrC u1 1 y64 = 0 := if_pos ⟨by rw [u1_eq]; decide, y64_size⟩
theorem u2_E : stpE u1 (wrC u1 1 y64) = 0 := by rw [u2_c, u1_eq]; rfl
theorem u2_eq : u2 = { M := [sZ, { sZ with fresh := y64, dirty := true }], S := [y32], F := [false, false], cnt := 0, clk := 0, dn := false, lf := -1 } := by
  unfold u2 dWr; rw [u2_c, u1_eq]
  have e : wrM [sZ, sZ] 1 y64 = [sZ, { sZ with fresh := y64, dirty := true }] := (if_pos ⟨by decide, y64_size⟩).trans rfl
  unfold stpD Dv.less
  rw [if_neg (by decide), if_neg (by decide), if_neg (by decide)]
  show ({ M := wrM [sZ, sZ] 1 y64, S := _, F := _, cnt := _, clk := _, dn := _, lf := _ } : Dv) = _
  rw [e]; rfl
theorem settle64 (s : Sec) (h : s.now.size = 64) (hf : s.fresh.size = 64) : s.settle 64 = { s with now := s.fresh, before := s.now, fresh := ByteArray.empty, dirty := false } := by
  unfold Sec.settle
  rw [if_pos (by decide)]
  congr 1
  have e1 : s.fresh.extract 0 (64 : Int).toNat = s.fresh := by
    have : (64 : Int).toNat = s.fresh.size := by rw [hf]; rfl
    rw [this]; simp
  have e2 : s.now.extract (64 : Int).toNat s.now.size = ByteArray.empty := by
    rw [h]; simp
  rw [e1, e2]; simp
def sY : Sec := { now := y64, before := zero64, fresh := ByteArray.empty, dirty := false, worn := false }
theorem u3_eq : u3 = { M := [sZ, sY], S := [y32], F := [false, false], cnt := 0, clk := 0, dn := false, lf := -1 } := by
  unfold u3; rw [u2_eq]
  have e : flM [sZ, { sZ with fresh := y64, dirty := true }] = [sZ, sY] := by
    have := settle64 { sZ with fresh := y64, dirty := true } zero64_size y64_size
    show [sZ, Sec.settle 64 { sZ with fresh := y64, dirty := true }] = _
    rw [this]; rfl
  unfold dFl stpD Dv.less
  rw [if_neg (by decide), if_neg (by decide), if_neg (by decide)]
  show ({ M := flM _, S := _, F := _, cnt := _, clk := _, dn := _, lf := _ } : Dv) = _
  rw [e]; rfl
theorem u3_E : stpE u2 0 = 0 := by rw [u2_eq]; rfl
theorem u3_left : zLeft u3 = [1] := by
  rw [u3_eq]
  show leftFrom 0 [zero64, y64] = [1]
  simp [leftFrom, y64_ne]
theorem u4_eq : u4 = { M := [sZ, sY], S := [y32], F := [false, false], cnt := 0, clk := 0, dn := false, lf := 2 } := by unfold u4; rw [u3_eq]; rfl
theorem u5_both : beginZ u4 = (14, { M := [sZ, sY], S := [zero32], F := [true, false], cnt := 0, clk := 0, dn := true, lf := -1 }) := by
  rw [u4_eq]
  have hs : slC { M := [sZ, sY], S := [y32], F := [true, false], cnt := 0, clk := 0, dn := false, lf := 1 } (0 : Nat) zero32 = 0 := if_pos ⟨by decide, zero32_size⟩
  have hw : wrC { M := [sZ, sY], S := [zero32], F := [true, false], cnt := 0, clk := 0, dn := false, lf := 0 } (0 : Nat) zero64 = 0 := if_pos ⟨by decide, zero64_size⟩
  show runZ (zList 1 2) { M := [sZ, sY], S := [y32], F := [true, false], cnt := 0, clk := 0, dn := false, lf := 1 } = _
  show runZ [.st 0, .wr 0, .wr 1, .fl, .bu] _ = _
  have e1 : zE { M := [sZ, sY], S := [y32], F := [true, false], cnt := 0, clk := 0, dn := false, lf := 1 } (.st 0) = 0 := by show stpE _ (slC _ _ _) = 0; rw [hs]; rfl
  have e2 : zD { M := [sZ, sY], S := [y32], F := [true, false], cnt := 0, clk := 0, dn := false, lf := 1 } (.st 0) = { M := [sZ, sY], S := [zero32], F := [true, false], cnt := 0, clk := 0, dn := false, lf := 0 } := by
    show dSt _ _ _ = _; unfold dSt; rw [hs]; rfl
  rw [runZ, if_pos e1, e2]
  have e3 : zE { M := [sZ, sY], S := [zero32], F := [true, false], cnt := 0, clk := 0, dn := false, lf := 0 } (.wr 0) = 14 := by show stpE _ (wrC _ _ _) = 14; rw [hw]; rfl
  have e4 : zD { M := [sZ, sY], S := [zero32], F := [true, false], cnt := 0, clk := 0, dn := false, lf := 0 } (.wr 0) = { M := [sZ, sY], S := [zero32], F := [true, false], cnt := 0, clk := 0, dn := true, lf := -1 } := by
    show dWr _ _ _ = _; unfold dWr; rw [hw]; rfl
  rw [runZ, if_neg (by rw [e3]; decide), e3, e4]
theorem u6_eq : u6 = { M := [sZ, sY], S := [zero32], F := [true, false], cnt := 0, clk := 0, dn := false, lf := -1 } := by unfold u6 u5; rw [u5_both]; rfl
theorem u6_state : zState u6 = 1 := by rw [u6_eq]; rfl
theorem u6_steps : zSteps u6 = 5 := by rw [u6_eq]; rfl
theorem u7_both : resume u6 = (0, { M := wiped [sZ, sY], S := [zero32], F := [true, true], cnt := 0, clk := 0, dn := false, lf := -1 }) := by
  have e : resume u6 = runZ (zList u6.S.length u6.M.length) u6 := by unfold resume; rw [if_neg (by rw [u6_state]; simp), if_neg (by rw [u6_eq]; simp)]
  rw [e, runZ_all _ _ (by rw [u6_eq]) (zC_zList u6 (by rw [u6_eq]; decide)) (by rw [u6_eq]), gzs_zList, u6_eq]
  rfl
theorem u7_M : imgM (wiped [sZ, sY]) = [zero64, zero64] := by
  have h1 := settle64 (sZ.put zero64) zero64_size zero64_size
  have h2 := settle64 (sY.put zero64) y64_size zero64_size
  show [(Sec.settle 64 (sZ.put zero64)).now, (Sec.settle 64 (sY.put zero64)).now] = _
  rw [h1, h2]; rfl
theorem u7_left : zLeft u7 = [] := by
  unfold u7 zLeft
  rw [u7_both, u7_M]
  simp [leftFrom]
theorem u7_state : zState u7 = 2 := by unfold u7; rw [u7_both]; rfl
theorem u7_T : dLdT u7 0 = zero32 := by unfold u7; rw [u7_both]; rfl
theorem u7_TE : dLdE u7 0 = 0 := by unfold u7; rw [u7_both]; rfl

end Go.Proofs.Ytogljlloobjeoaa
