/- The examples of chapter 22, played. -/
import Derived.Test.YtogljlloobjeoaaSm
import Derived.Test.YtogljlloobjeoaaSanM
namespace Go.Proofs.Ytogljlloobjeoaa
open Go.RowKit

set_option maxRecDepth 100000 in
theorem lRepA (w : World) : Calls Try.prog 28 #[.string ⟨#[65]⟩, .int .i64 64] w fun e w' => e = .returned (.string aS) ∧ Below w.heap.size w w' := by
  have := Try.strings_Repeat ⟨#[65]⟩ 64 w (by omega) (by simp [ByteArray.size])
  exact this
set_option maxRecDepth 100000 in
theorem lRepB (w : World) : Calls Try.prog 28 #[.string ⟨#[66]⟩, .int .i64 64] w fun e w' => e = .returned (.string bS) ∧ Below w.heap.size w w' := by
  have := Try.strings_Repeat ⟨#[66]⟩ 64 w (by omega) (by simp [ByteArray.size])
  exact this
set_option maxRecDepth 100000 in
theorem lRepZ (w : World) : Calls Try.prog 28 #[.string ⟨#[0]⟩, .int .i64 64] w fun e w' => e = .returned (.string zero64) ∧ Below w.heap.size w w' := by
  have := Try.strings_Repeat ⟨#[0]⟩ 64 w (by omega) (by simp [ByteArray.size])
  exact this
/-- A list of one number, read. -/
theorem SlAt.one {w : World} {ok : Nat → Prop} {v x : Value} (h : SlAt w ok v [x]) : ∃ b o cap, v = .slice (some ⟨b, o, none⟩) 1 cap ∧ 1 ≤ cap ∧ ok b ∧ b < w.heap.size ∧ w.cell? ⟨b, o, none⟩ = some x := by
  obtain ⟨a, cap, rfl, hc, hx⟩ := h
  obtain ⟨b, o, rfl, hb, hl, hcell⟩ := hx (by simp)
  exact ⟨b, o, cap, rfl, hc, hb, hl, hcell 0 x rfl⟩
theorem SlAt.two {w : World} {ok : Nat → Prop} {v x y : Value} (h : SlAt w ok v [x, y]) : ∃ b o cap, v = .slice (some ⟨b, o, none⟩) 2 cap ∧ 2 ≤ cap ∧ ok b ∧ b < w.heap.size ∧ w.cell? ⟨b, o, none⟩ = some x := by
  obtain ⟨a, cap, rfl, hc, hx⟩ := h
  obtain ⟨b, o, rfl, hb, hl, hcell⟩ := hx (by simp)
  exact ⟨b, o, cap, rfl, hc, hb, hl, hcell 0 x rfl⟩

set_option maxRecDepth 100000 in
set_option maxHeartbeats 8000000 in
theorem lSanity (w : World) : Calls Try.prog 19 #[] w fun e w' => e = .returned (.bool true) ∧ Below w.heap.size w w' := by
  have hzz : zero64.size = 64 := zero64_size
  go_enter Try.func19, Try.ntmps19
  go_wp2_with fail
  refine (mNew_ok w 2 (by omega) (by omega)).mono ?_
  rintro e w1 ⟨pm, pb, rfl, hM1, hpm, hpb, hB1⟩
  go_wp2_with fail
  refine (lRepA _).mono ?_
  rintro e w2 ⟨rfl, hB2⟩
  go_wp2_with fail
  refine (lRepB _).mono ?_
  rintro e w3 ⟨rfl, hB3⟩
  go_wp2_with fail
  refine (lRepZ _).mono ?_
  rintro e w4 ⟨rfl, hB4⟩
  have b1 := hB1.size
  have b2 := hB2.size
  have b3 := hB3.size
  have k4 := Lib.hid (hB1.trans ((hB2.mono b1).trans ((hB3.mono (by omega)).trans (hB4.mono (by omega)))))
  have hM4 : MemAt w4 pm pb (newM 2) := hM1.fr (S := []) ((Fr.of_below hB2).trans ((Fr.of_below hB3).trans (Fr.of_below hB4))) (by simp) (by simp)
  have kb : Hid (∀ k ∈ [pb], w.heap.size ≤ k) := fun k hk => by simp at hk; omega
  clear hM1 hB1 hB2 hB3 hB4 b1 b2 b3
  have G4 : Fr [pb] w4 w4 := Fr.refl _ _
  have c := mWrite w4 pm pb _ hM4 (by decide) 0 aS
  rw [s1, s1e] at c
  go_wp2_with fail
  refine c.mono ?_
  clear c
  rintro e w5 ⟨rfl, hM5, F5⟩
  have G5 := G4.trans F5
  clear hM4 G4 F5
  have c := mRead w5 pm pb _ hM5 (by decide) 0
  rw [s1r, sE0 sM1 (by decide)] at c
  go_wp2_with fail
  refine c.mono ?_
  clear c
  rintro e w' ⟨rfl, rfl⟩
  have c := mDirty w5 pm pb _ hM5 (by decide)
  rw [s1d] at c
  go_wp2_with fail
  refine c.mono ?_
  clear c
  rintro e w6 ⟨vd, rfl, hd, hBd⟩
  obtain ⟨db, dof, dc, rfl, hdc, hdb, hdl, hdcell⟩ := SlAt.one hd
  have F6 : Fr [pb] w5 w6 := Fr.of_below hBd
  have hM6 := hM5.fr (S := []) (Fr.of_below hBd) (by simp) (by simp)
  have G6 := G5.trans F6
  have hdp : db ≠ pb := by have := hM5.arr.lt; have hdb' : w5.heap.size ≤ db := hdb; omega
  have D6 : Fr [pb] w6 w6 := Fr.refl _ _
  clear hd hBd F6 hM5 G5 hdb
  have hP : SlAt (w6.alloc (.cells #[.int .i64 3] 3)) (fun b => b = w6.heap.size) (.slice (some ⟨w6.heap.size, 0, none⟩) 1 1) (ints [3]) :=
    ⟨_, 1, rfl, Nat.le_refl _, fun _ => ⟨w6.heap.size, 0, rfl, rfl, by simp, fun j x hj => by rw [Nat.zero_add, World.cell?_alloc_new]; simpa [ints] using hj⟩⟩
  have hMa := hM6.fr (S := []) ((Fr.refl _ w6).alloc (.cells #[.int .i64 3] 3)) (by simp) (by simp)
  have c := mCut _ pm pb _ hMa (by decide) sWF1 _ _ _ hP (by decide) (fun b hb => by have hb' : b = w6.heap.size := hb; have := hM6.arr.lt; subst hb'; exact ⟨by omega, by simp⟩)
  rw [s2] at c
  clear hP hMa
  go_wp2_with fail
  refine c.mono ?_
  clear c
  rintro e w7 ⟨rfl, hM7, F7⟩
  have F7' : Fr [pb] w6 w7 := ((Fr.refl _ _).alloc _).trans F7
  have G7 := G6.trans F7'
  have D7 := D6.trans F7'
  clear hM6 G6 D6 F7 F7'
  have c := mRead w7 pm pb _ hM7 (by decide) 0
  rw [s2r, sE0 sM2 (by decide)] at c
  go_wp2_with fail
  refine c.mono ?_
  clear c
  rintro e w' ⟨rfl, rfl⟩
  have c := mWrite w7 pm pb _ hM7 (by decide) 0 bS
  rw [s3, s3e] at c
  go_wp2_with fail
  refine c.mono ?_
  clear c
  rintro e w8 ⟨rfl, hM8, F8⟩
  have G8 := G7.trans F8
  have D8 := D7.trans F8
  clear hM7 G7 D7 F8
  have c := mFlush w8 pm pb _ hM8 (by decide) sWF3
  rw [s4] at c
  go_wp2_with fail
  refine c.mono ?_
  clear c
  rintro e w9 ⟨rfl, hM9, F9⟩
  have G9 := G8.trans F9
  have D9 := D8.trans F9
  clear hM8 G8 D8 F9
  have c := mRead w9 pm pb _ hM9 (by decide) 0
  rw [s4r, sE0 sM4 (by decide)] at c
  go_wp2_with fail
  refine c.mono ?_
  clear c
  rintro e w' ⟨rfl, rfl⟩
  have c := mStale w9 pm pb _ hM9 (by decide) 0
  rw [s5, sE0 sM4 (by decide)] at c
  go_wp2_with fail
  refine c.mono ?_
  clear c
  rintro e w10 ⟨rfl, hM10, F10⟩
  have G10 := G9.trans F10
  have D10 := D9.trans F10
  clear hM9 G9 D9 F10
  have c := mRead w10 pm pb _ hM10 (by decide) 0
  rw [s5r, sE0 sM5 (by decide)] at c
  go_wp2_with fail
  refine c.mono ?_
  clear c
  rintro e w' ⟨rfl, rfl⟩
  have c := mWear w10 pm pb _ hM10 (by decide) 1
  rw [s6, show rdE sM5 1 = 0 from rfl] at c
  go_wp2_with fail
  refine c.mono ?_
  clear c
  rintro e w11 ⟨rfl, hM11, F11⟩
  have G11 := G10.trans F11
  have D11 := D10.trans F11
  clear hM10 G10 D10 F11
  have c := mWrite w11 pm pb _ hM11 (by decide) 1 aS
  rw [s7, s7e] at c
  go_wp2_with fail
  refine c.mono ?_
  clear c
  rintro e w12 ⟨rfl, hM12, F12⟩
  have G12 := G11.trans F12
  have D12 := D11.trans F12
  clear hM11 G11 D11 F12
  have c := mRead w12 pm pb _ hM12 (by decide) 1
  rw [s7r, show rdE sM6 1 = 0 from rfl] at c
  go_wp2_with fail
  refine c.mono ?_
  clear c
  rintro e w' ⟨rfl, rfl⟩
  have c := mRead w12 pm pb _ hM12 (by decide) 2
  rw [show rdE sM6 2 = 1 from rfl] at c
  go_wp2_with fail
  refine c.mono ?_
  clear c
  rintro e w' ⟨rfl, rfl⟩
  have c := mClone w12 pm pb _ hM12 (by decide) (by decide)
  go_wp2_with fail
  refine c.mono ?_
  clear c
  rintro e w13 ⟨cm, cb, rfl, hC13, hcm, hcb, hBc⟩
  have F13 : Fr [pb] w12 w13 := Fr.of_below hBc
  have hM13 := hM12.fr (S := []) (Fr.of_below hBc) (by simp) (by simp)
  have hcp : cb ≠ pb ∧ cb ≠ pm ∧ cm ≠ pb := by have := hM12.arr.lt; have := hM12.lt; omega
  have hcl : w4.heap.size ≤ cb := by have := G12.size; omega
  have hcd : w6.heap.size ≤ cb := by have := D12.size; omega
  have G13 := G12.trans F13
  have D13 := D12.trans F13
  clear hM12 G12 D12 F13 hBc
  have c := mWorn w13 pm pb _ hM13 (by decide)
  rw [s7w] at c
  go_wp2_with fail
  refine c.mono ?_
  clear c
  rintro e w14 ⟨vx, rfl, hx, hBx⟩
  obtain ⟨xb, xo, xc, rfl, hxc, -, hxl, hxcell⟩ := SlAt.one hx
  have F14 : Fr [pb] w13 w14 := Fr.of_below hBx
  have hM14 := hM13.fr (S := []) (Fr.of_below hBx) (by simp) (by simp)
  have hC14 := hC13.fr (S := []) (Fr.of_below hBx) (by simp) (by simp)
  have G14 := G13.trans F14
  have D14 := D13.trans F14
  clear hx hBx F14 hM13 hC13 G13 D13
  have c := mImage w14 pm pb _ hM14 (by decide)
  rw [s7i] at c
  go_wp2_with fail
  refine c.mono ?_
  clear c
  rintro e w15 ⟨vy, rfl, hy, hBy⟩
  obtain ⟨yb, yo, yc, rfl, hyc, -, hyl, hycell⟩ := SlAt.two hy
  have F15 : Fr [pb] w14 w15 := Fr.of_below hBy
  have hM15 := hM14.fr (S := []) (Fr.of_below hBy) (by simp) (by simp)
  have hC15 := hC14.fr (S := []) (Fr.of_below hBy) (by simp) (by simp)
  have G15 := G14.trans F15
  have D15 := D14.trans F15
  clear hy hBy F15 hM14 hC14 G14 D14
  clear hxcell hycell hxl hyl
  have hL : SlAt (w15.alloc (.cells #[.string bS, .string bS] 9)) (fun b => b = w15.heap.size) (.slice (some ⟨w15.heap.size, 0, none⟩) 2 2) (strs [bS, bS]) :=
    ⟨_, 2, rfl, Nat.le_refl _, fun _ => ⟨w15.heap.size, 0, rfl, rfl, by simp, fun j x hj => by rw [Nat.zero_add, World.cell?_alloc_new]; simpa [strs] using hj⟩⟩
  have hCa := hC15.fr (S := []) ((Fr.refl _ w15).alloc (.cells #[.string bS, .string bS] 9)) (by simp) (by simp)
  have c := mLoad _ cm cb _ _ hCa (by decide) _ _ hL (by decide) (fun b hb => by have hb' : b = w15.heap.size := hb; have := hC15.arr.lt; omega)
  rw [s8e] at c
  clear hL hCa
  go_wp2_with fail
  refine c.mono ?_
  clear c
  rintro e w16 ⟨rfl, hC16, F16⟩
  have F16' : Fr [cb] w15 w16 := ((Fr.refl _ _).alloc _).trans F16
  have hM16 := hM15.fr F16' (by simp; exact fun e => hcp.2.1 e.symm) (by simp; exact fun e => hcp.1 e.symm)
  have G16 := G15.then F16' (by simp; exact .inr hcl)
  have D16 := D15.then F16' (by simp; exact .inr hcd)
  clear hM15 hC15 G15 D15 F16 F16'
  have c := mRead w16 cm cb _ hC16 (by rw [ldM_length]; decide) 0
  rw [s8r, sE0 _ (by rw [ldM_length]; decide)] at c
  go_wp2_with fail
  refine c.mono ?_
  clear c hC16
  rintro e w' ⟨rfl, rfl⟩
  have c := mNew_bad w16 0 (by omega)
  go_wp2_with fail
  refine c.mono ?_
  clear c
  rintro e w' ⟨rfl, rfl⟩
  have hdcell16 := (D16.cell (p := ⟨db, dof, none⟩) hdl (by simpa using hdp)).trans hdcell
  have hadd : ∀ W : World, (Op.stringOp .add ⟨#[65, 65, 65]⟩ (zero64.extract 3 64)).run Try.prog W = .ok (.string wantS) W := fun W => run_string_add_sum W _ _ (by rw [ByteArray.size_extract]; decide)
  have c := mImage w16 pm pb _ hM16 (by decide)
  rw [s7i] at c
  go_wp2_with fail
  refine c.mono ?_
  clear c
  rintro e w17 ⟨vi, rfl, hi, hBi⟩
  obtain ⟨ib, io, ic, rfl, hic, -, hil, hicell⟩ := SlAt.two hi
  have F17 : Fr [pb] w16 w17 := Fr.of_below hBi
  have hM17 := hM16.fr (S := []) (Fr.of_below hBi) (by simp) (by simp)
  have G17 := G16.trans F17
  clear hi hBi F17 hM16 G16 D16 hdcell
  have c := mWorn w17 pm pb _ hM17 (by decide)
  rw [s7w] at c
  go_wp2_with fail
  refine c.mono ?_
  clear c
  rintro e w18 ⟨vj, rfl, hj, hBj⟩
  obtain ⟨jb, jo, jc, rfl, hjc, -, hjl, hjcell⟩ := SlAt.one hj
  have F18 : Fr [pb] w17 w18 := Fr.of_below hBj
  have hM18 := hM17.fr (S := []) (Fr.of_below hBj) (by simp) (by simp)
  have G18 := G17.trans F18
  clear hj hBj F18 hM17 G17
  obtain ⟨cap, hcl, hcap⟩ := hM18.ptr
  have c := mLen_c w18 pm pb _ _ hcl
  go_wp2_with fail
  refine c.mono ?_
  clear c
  rintro e w' ⟨rfl, rfl⟩
  have hlen : sM6.length = 2 := rfl
  go_wp2
  go_ret
  exact ⟨rfl, k4.out.trans ((G18.below (B := w.heap.size) k4.out.size kb.out))⟩

end Go.Proofs.Ytogljlloobjeoaa
