/- Zeroization (chapter 33) as plain data. Nothing of the program stands here. -/
import Derived.Test.YtogljlloobjeoaaDMod
namespace Go.Proofs.Ytogljlloobjeoaa

def zState (d : Dv) : Int := if dBd d 1 = true then 2 else if dBd d 0 = true then 1 else 0
inductive ZOp where
  | st (i : Nat)
  | wr (i : Nat)
  | fl
  | bu
def zE (d : Dv) : ZOp → Int
  | .st i => stpE d (slC d i zero32)
  | .wr i => stpE d (wrC d i zero64)
  | .fl => stpE d 0
  | .bu => stpE d (buC d 1)
def zD (d : Dv) : ZOp → Dv
  | .st i => dSt d i zero32
  | .wr i => dWr d i zero64
  | .fl => dFl d
  | .bu => dBu d 1
def zSlots (d : Dv) : Nat := if d.dn = true then 0 else d.S.length
def zList (n m : Nat) : List ZOp := (List.range n).map .st ++ ((List.range m).map .wr ++ [.fl, .bu])
theorem zList_length (n m : Nat) : (zList n m).length = n + m + 2 := by simp [zList]; omega
/-- The operations one by one, till one fails. -/
def runZ : List ZOp → Dv → Int × Dv
  | [], d => (0, d)
  | o :: l, d => if zE d o = 0 then runZ l (zD d o) else (zE d o, zD d o)
def resume (d : Dv) : Int × Dv := if zState d ≠ 1 then (0, d) else if d.dn = true then (14, d) else runZ (zList d.S.length d.M.length) d
def beginZ (d : Dv) : Int × Dv := if stpE d (buC d 0) = 0 then resume (dBu d 0) else (stpE d (buC d 0), dBu d 0)
def zSteps (d : Dv) : Nat := if zState d = 1 then zSlots d + d.M.length + 2 else 0
def leftFrom : Nat → List ByteArray → List Nat
  | _, [] => []
  | k, x :: l => if x = zero64 then leftFrom (k + 1) l else k :: leftFrom (k + 1) l
def zLeft (d : Dv) : List Nat := leftFrom 0 (imgM d.M)

theorem Keeps.z (d : Dv) (o : ZOp) : Keeps d (zD d o) := by
  cases o with
  | st i => exact Keeps.st _ _ _
  | wr i => exact Keeps.wr _ _ _
  | fl => exact Keeps.fl _
  | bu => exact Keeps.bu _ _
theorem Keeps.runZ (l : List ZOp) : ∀ d, Keeps d (runZ l d).2 := by
  induction l with
  | nil => exact fun d => Keeps.refl d
  | cons o l ih =>
    intro d
    unfold Go.Proofs.Ytogljlloobjeoaa.runZ
    split
    · exact (Keeps.z d o).trans (ih _)
    · exact Keeps.z d o
theorem Keeps.resume (d : Dv) : Keeps d (resume d).2 := by
  unfold Go.Proofs.Ytogljlloobjeoaa.resume
  split
  · exact Keeps.refl d
  · split
    · exact Keeps.refl d
    · exact Keeps.runZ _ d
theorem Keeps.beginZ (d : Dv) : Keeps d (beginZ d).2 := by
  unfold Go.Proofs.Ytogljlloobjeoaa.beginZ
  split
  · exact (Keeps.bu d 0).trans (Keeps.resume _)
  · exact Keeps.bu d 0

/-! ### What a step leaves -/
theorem stp_go {d : Dv} {c : Int} {g : Dv → Dv} (h : stpE d c = 0) : d.dn = false ∧ c = 0 ∧ d.lf ≠ 0 ∧ stpD d c g = g d.less := by
  unfold stpE at h
  by_cases h1 : d.dn = true
  · rw [if_pos h1] at h; cases h
  · rw [if_neg h1] at h
    by_cases h2 : c ≠ 0
    · rw [if_pos h2] at h; exact absurd h h2
    · rw [if_neg h2] at h
      by_cases h3 : d.lf = 0
      · rw [if_pos h3] at h; cases h
      · unfold stpD
        rw [if_neg h1, if_neg h2, if_neg h3]
        exact ⟨by simpa using h1, by omega, h3, rfl⟩
/-- A step that fails turns nothing but the power. -/
theorem stp_no {d : Dv} {c : Int} {g : Dv → Dv} (h : stpE d c ≠ 0) : ∃ x y, stpD d c g = { d with dn := x, lf := y } := by
  unfold stpE at h
  unfold stpD
  by_cases h1 : d.dn = true
  · rw [if_pos h1]; exact ⟨d.dn, d.lf, rfl⟩
  · rw [if_neg h1] at h ⊢
    by_cases h2 : c ≠ 0
    · rw [if_pos h2]; exact ⟨d.dn, d.lf, rfl⟩
    · rw [if_neg h2] at h ⊢
      by_cases h3 : d.lf = 0
      · rw [if_pos h3]; exact ⟨_, _, rfl⟩
      · rw [if_neg h3] at h; exact absurd rfl h

end Go.Proofs.Ytogljlloobjeoaa
