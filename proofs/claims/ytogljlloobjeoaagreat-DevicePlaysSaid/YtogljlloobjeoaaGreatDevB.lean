/- The steps of a device: Write, Flush, Store, Burn, Raise. -/
import Derived.Test.YtogljlloobjeoaaGreatDevA
import Derived.StillTailTactics
namespace Go.Proofs.YtogljlloobjeoaaGreat
open Go.RowKit

/-- The reckoning of the steps that are left. -/
theorem DevAt.less' {w : World} {B : DB} {d : Dv} (h : DevAt w B d) (hlf : d.lf ≠ 0) : ∃ x : Int, (0 < d.lf ∧ x = d.lf - 1 ∨ d.lf = -1 ∧ x = -1) ∧ DevAt (w.setCell ⟨B.d, 6, none⟩ (.int .i64 x)) B d.less ∧ Fr B.l w (w.setCell ⟨B.d, 6, none⟩ (.int .i64 x)) := by
  have h0 := h.ok.lf0
  have h1 := h.ok.lf1
  refine ⟨max (d.lf - 1) (-1), by omega, h.lf' _ (by omega) (by omega), (Fr.refl _ _).setCell (by simp [DB.l]) _⟩

theorem boxFar {w : World} {b o : Nat} {p : Addr} {v u : Value} (h : w.cell? ⟨b, o, none⟩ = some v) (hn : b ≠ p.block) : (w.setCell p u).cell? ⟨b, o, none⟩ = some v :=
  (World.cell?_setCell_other _ _ _ _ (fun e => hn (by rw [e]))).trans h

/-! ### The closures -/
set_option maxHeartbeats 400000 in
theorem dBurn1 (w : World) (B : DB) (d : Dv) (h : DevAt w B d) (k : Nat) (hk : k < d.F.length) (b1 b2 : Nat) (c1 : w.cell? ⟨b1, 0, none⟩ = some (.pointer (some ⟨B.d, 0, none⟩))) (c2 : w.cell? ⟨b2, 0, none⟩ = some (.int .i64 (k : Int))) :
    Calls Tryz.prog 65 #[.pointer (some ⟨b1, 0, none⟩), .pointer (some ⟨b2, 0, none⟩)] w fun e w' => e = .returned (.tuple #[]) ∧ DevAt w' B { d with F := d.F.set k true } ∧ Fr B.l w w' := by
  obtain ⟨cap, hcap, h1⟩ := h.c1
  have hk1 : (k : Int) < (d.F.length : Int) := by omega
  have hf1 := h.ok.f1
  have hx := h.fuse k _ (List.getElem?_eq_getElem hk)
  have hz := h.frf k
  have hr : DevAt (w.drew.setCell ⟨B.f, k, none⟩ (.bool true)) B { d with F := d.F.set k true } ∧ Fr B.l w (w.drew.setCell ⟨B.f, k, none⟩ (.bool true)) :=
    ⟨(h.fr (S := []) (Fr.refl _ _).drew (by simp)).fuse' k true, (Fr.refl _ _).drew.setCell (by simp [DB.l]) _⟩
  clear h
  go_enter Tryz.func65, Tryz.ntmps65
  go_wp2_with fail
  go_region
  all_goals
    go_end0
    exact ⟨rfl, hr⟩

set_option maxHeartbeats 400000 in
theorem dStore1 (w : World) (B : DB) (d : Dv) (h : DevAt w B d) (k : Nat) (hk : k < d.S.length) (x : ByteArray) (b1 b2 b3 : Nat) (c3 : w.cell? ⟨b3, 0, none⟩ = some (.string x)) (c1 : w.cell? ⟨b1, 0, none⟩ = some (.pointer (some ⟨B.d, 0, none⟩))) (c2 : w.cell? ⟨b2, 0, none⟩ = some (.int .i64 (k : Int))) :
    Calls Tryz.prog 64 #[.pointer (some ⟨b3, 0, none⟩), .pointer (some ⟨b1, 0, none⟩), .pointer (some ⟨b2, 0, none⟩)] w fun e w' => e = .returned (.tuple #[]) ∧ DevAt w' B { d with S := d.S.set k x } ∧ Fr B.l w w' := by
  obtain ⟨cap, hcap, h1⟩ := h.c0
  have hk1 : (k : Int) < (d.S.length : Int) := by omega
  have hf1 := h.ok.s1
  have hx := h.slot k _ (List.getElem?_eq_getElem hk)
  have hz := h.frs k
  have hr : DevAt (w.drew.setCell ⟨B.s, k, none⟩ (.string x)) B { d with S := d.S.set k x } ∧ Fr B.l w (w.drew.setCell ⟨B.s, k, none⟩ (.string x)) :=
    ⟨(h.fr (S := []) (Fr.refl _ _).drew (by simp)).slot' k x, (Fr.refl _ _).drew.setCell (by simp [DB.l]) _⟩
  clear h
  go_enter Tryz.func64, Tryz.ntmps64
  go_wp2_with fail
  go_region
  all_goals
    go_end0
    exact ⟨rfl, hr⟩

set_option maxHeartbeats 400000 in
theorem dRaise1 (w : World) (B : DB) (d : Dv) (h : DevAt w B d) (n : Int) (hn : 0 ≤ n) (hn1 : n ≤ 4611686018427387904) (b1 b2 : Nat) (c2 : w.cell? ⟨b2, 0, none⟩ = some (.int .i64 n)) (c1 : w.cell? ⟨b1, 0, none⟩ = some (.pointer (some ⟨B.d, 0, none⟩))) :
    Calls Tryz.prog 67 #[.pointer (some ⟨b2, 0, none⟩), .pointer (some ⟨b1, 0, none⟩)] w fun e w' => e = .returned (.tuple #[]) ∧ DevAt w' B { d with cnt := n } ∧ Fr B.l w w' := by
  have hx := h.c2
  have hz := h.frd 2
  have hr : DevAt (w.setCell ⟨B.d, 2, none⟩ (.int .i64 n)) B { d with cnt := n } ∧ Fr B.l w (w.setCell ⟨B.d, 2, none⟩ (.int .i64 n)) :=
    ⟨h.cnt' n hn hn1, (Fr.refl _ _).setCell (by simp [DB.l]) _⟩
  clear h
  go_enter Tryz.func67, Tryz.ntmps67
  go_wp2
  go_end0
  exact ⟨rfl, hr⟩

set_option maxRecDepth 100000 in
set_option maxHeartbeats 400000 in
theorem dWrite1 (w : World) (B : DB) (d : Dv) (h : DevAt w B d) (i : Int) (x : ByteArray) (b1 b2 b3 : Nat) (c1 : w.cell? ⟨b1, 0, none⟩ = some (.pointer (some ⟨B.d, 0, none⟩))) (c2 : w.cell? ⟨b2, 0, none⟩ = some (.int .i64 i)) (c3 : w.cell? ⟨b3, 0, none⟩ = some (.string x)) :
    Calls Tryz.prog 75 #[.pointer (some ⟨b1, 0, none⟩), .pointer (some ⟨b2, 0, none⟩), .pointer (some ⟨b3, 0, none⟩)] w fun e w' => e = .returned (.tuple #[]) ∧ DevAt w' B { d with M := wrM d.M i x } ∧ Fr B.l w w' := by
  have c4 := h.c4
  have hl := h.ok.m1
  have hm : MemAt w.drew B.m B.b d.M := h.mem.fr (S := []) (Fr.refl _ _).drew (by simp) (by simp)
  have hd : DevAt w.drew B d := h.fr (S := []) (Fr.refl _ _).drew (by simp)
  clear h
  go_enter Tryz.func75, Tryz.ntmps75
  go_wp2_with fail
  go_still_tail 6, (by kernel_rfl)
  go_wp2_with fail
  refine (mWrite _ _ _ _ hm hl i x).mono ?_
  rintro e w' ⟨rfl, hM, hF⟩
  have hr := hd.frM hM hF (Keeps.mem _ _ (fun k => wrM_WF k _ _) (wrM_length _ _ _))
  have hr2 : DevAt w' B { d with M := wrM d.M i x } ∧ Fr B.l w w' := ⟨hr.1, (Fr.refl _ _).drew.trans hr.2⟩
  clear hM hF hr hd hm
  go_wp2
  go_end0
  exact ⟨rfl, hr2⟩

end Go.Proofs.YtogljlloobjeoaaGreat
