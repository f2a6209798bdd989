/- What Resume does, step by step: the plain laws. Nothing of the program stands here. -/
import Derived.Test.YtogljlloobjeoaaZPl
import Derived.Test.YtogljlloobjeoaaDPre
namespace Go.Proofs.Ytogljlloobjeoaa

theorem dBd_F {d e : Dv} (h : e.F = d.F) (i : Int) : dBd e i = dBd d i := by unfold dBd; rw [h]
theorem zState_F {d e : Dv} (h : e.F = d.F) : zState e = zState d := by unfold zState; rw [dBd_F h, dBd_F h]
theorem zState_two {d : Dv} (h : dBd d 1 = true) : zState d = 2 := if_pos h
theorem zState_one {d : Dv} (h : dBd d 1 = false) (h0 : dBd d 0 = true) : zState d = 1 := by unfold zState; rw [if_neg (by simp [h]), if_pos h0]
theorem zState_zero {d : Dv} (h : dBd d 1 = false) (h0 : dBd d 0 = false) : zState d = 0 := by unfold zState; rw [if_neg (by simp [h]), if_neg (by simp [h0])]
theorem dBd_set_same (d : Dv) (i : Nat) (h : i < d.F.length) : dBd { d with F := d.F.set i true } (i : Nat) = true := by
  refine dBd_get _ i true ?_
  show (d.F.set i true)[i]? = some true
  rw [List.getElem?_set_self h]
theorem dBd_set_other (d : Dv) (i j : Nat) (h : i ≠ j) : dBd { d with F := d.F.set i true } (j : Nat) = dBd d (j : Nat) := by
  unfold dBd
  simp only [List.length_set]
  split
  · rw [Int.toNat_natCast, List.getElem?_set_ne h]
  · rfl
theorem dMo_facts (d : Dv) (ps : List Int) : (dMo d ps).dn = false ∧ (dMo d ps).lf = -1 ∧ (dMo d ps).F = d.F ∧ (dMo d ps).S = d.S := ⟨rfl, rfl, rfl, rfl⟩
theorem dBu_ok {d : Dv} (i : Nat) (h : d.dn = false) (hl : d.lf = -1) (hi : i < d.F.length) : stpE d (buC d (i : Nat)) = 0 ∧ dBu d (i : Nat) = { d with F := d.F.set i true } := by
  have hc : buC d (i : Nat) = 0 := if_pos (by omega)
  unfold dBu
  rw [hc]
  have hless : d.less = d := by unfold Dv.less; rw [hl]; cases d; cases hl; rfl
  unfold stpE stpD
  rw [if_neg (by simp [h]), if_neg (by simp), if_neg (by omega), if_neg (by simp [h]), if_neg (by simp), if_neg (by omega), hless]
  exact ⟨rfl, rfl⟩
theorem gzs_F (l : List ZOp) (h : ∀ o ∈ l, o ≠ .bu) : ∀ d : Dv, (l.foldl gz d).F = d.F := by
  induction l with
  | nil => intro d; rfl
  | cons o l ih =>
    intro d
    rw [List.foldl_cons, ih (fun o' ho => h o' (by simp [ho]))]
    cases o with
    | bu => exact absurd rfl (h .bu (by simp))
    | st i => rfl
    | wr i => rfl
    | fl => rfl
theorem zList_take {n m k : Nat} (h : k < n + m + 2) : ∀ o ∈ (zList n m).take k, o ≠ .bu := by
  intro o ho
  have e : zList n m = (List.range n).map .st ++ ((List.range m).map .wr ++ [.fl]) ++ [.bu] := by simp [zList]
  rw [e, List.take_append_of_le_length (by simp; omega)] at ho
  have ho := List.mem_of_mem_take ho
  simp only [List.mem_append, List.mem_map, List.mem_range, List.mem_cons, List.not_mem_nil, or_false] at ho
  rcases ho with ⟨i, hi, rfl⟩ | ⟨i, hi, rfl⟩ | rfl <;> exact fun e => by cases e
theorem zSteps_up {d : Dv} (h : d.dn = false) (h1 : zState d = 1) : zSteps d = d.S.length + d.M.length + 2 := by
  unfold zSteps zSlots
  rw [if_pos h1, if_neg (by simp [h])]
theorem resume_go {d : Dv} (h : d.dn = false) (h1 : zState d = 1) : resume d = runZ (zList d.S.length d.M.length) d := by
  unfold resume
  rw [if_neg (by simp [h1]), if_neg (by simp [h])]
/-- The power lasts for all steps. -/
theorem resume_lasts {d : Dv} (h : d.dn = false) (h1 : zState d = 1) (hf : 2 ≤ d.F.length) (k : Nat) (hk : d.S.length + d.M.length + 2 ≤ k) :
    ∃ x, resume (dTr d k) = (0, { d with S := List.replicate d.S.length zero32, M := wiped d.M, F := d.F.set 1 true, lf := x }) := by
  have hl : (dTr d k).lf = (k : Int) := by show max (k : Int) (-1) = k; omega
  rw [resume_go (d := dTr d k) h ((zState_F rfl).trans h1)]
  show ∃ x, runZ (zList d.S.length d.M.length) (dTr d k) = _
  rw [runZ_lasts (zList d.S.length d.M.length) k (dTr d k) h (zC_zList (dTr d k) hf) hl (by rw [zList_length]; exact hk)]
  have e := gzs_zList (dTr d k)
  have e' : (zList d.S.length d.M.length).foldl gz (dTr d k) = _ := e
  rw [e']
  exact ⟨_, rfl⟩
/-- It does not. -/
theorem resume_fails {d : Dv} (h : d.dn = false) (h1 : zState d = 1) (hf : 2 ≤ d.F.length) (k : Nat) (hk : k < d.S.length + d.M.length + 2) :
    ∃ e, resume (dTr d k) = (14, e) ∧ e.dn = true ∧ zState e = 1 := by
  have hl : (dTr d k).lf = (k : Int) := by show max (k : Int) (-1) = k; omega
  rw [resume_go (d := dTr d k) h ((zState_F rfl).trans h1)]
  show ∃ e, runZ (zList d.S.length d.M.length) (dTr d k) = _ ∧ _
  rw [runZ_fails (zList d.S.length d.M.length) k (dTr d k) h (zC_zList (dTr d k) hf) hl (by rw [zList_length]; exact hk)]
  refine ⟨_, rfl, rfl, ?_⟩
  have e := gzs_F ((zList d.S.length d.M.length).take k) (zList_take hk) (dTr d k)
  exact (zState_F (d := d) e).trans h1

end Go.Proofs.Ytogljlloobjeoaa
