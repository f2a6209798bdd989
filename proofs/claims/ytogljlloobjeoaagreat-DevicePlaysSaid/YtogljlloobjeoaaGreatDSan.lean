/- The examples of chapter 23, played. -/
import Derived.Test.YtogljlloobjeoaaGreatDText
import Derived.Test.YtogljlloobjeoaaGreatDevK
namespace Go.Proofs.YtogljlloobjeoaaGreat
open Go.RowKit
set_option linter.unusedSimpArgs false

theorem SlAt.pair {w : World} {ok : Nat → Prop} {v x y : Value} (h : SlAt w ok v [x, y]) : ∃ b o cap, v = .slice (some ⟨b, o, none⟩) 2 cap ∧ 2 ≤ cap ∧ ok b ∧ b < w.heap.size ∧ w.cell? ⟨b, o, none⟩ = some x := by
  obtain ⟨a, cap, rfl, hc, hx⟩ := h
  obtain ⟨b, o, rfl, hb, hl, hcell⟩ := hx (by simp)
  exact ⟨b, o, cap, rfl, hc, hb, hl, hcell 0 x rfl⟩
def k32 : ByteArray := dtext 65 false 32
theorem k32_size : k32.size = 32 := by simp [k32, dtext_size]
theorem dText65 (w : World) : Calls Tryz.prog 13 #[.agg #[.int .i64 0, .int .i64 0, .int .i64 0, .int .u8 65, .bool false, .slice none 0 0], .int .i64 32] w fun e w' => e = .returned (.string k32) ∧ Below w.heap.size w w' :=
  dText w 0 0 0 65 false _ 32 (by omega) (by omega)

def e0 : Dv := newD 2 1 2
def e1 : Dv := dTr e0 1
def e2 : Dv := dSt e1 0 k32
def e3 : Dv := dBu e2 1
def e4 : Dv := dTi e3 5
def e5 : Dv := dMo e4 []
def e6 : Dv := dRa e5 7
def e7 : Dv := dRa e6 6
def e8 : Dv := dBu e7 0
theorem e1_slC : slC e1 0 k32 = 0 := if_pos ⟨by decide, k32_size⟩
theorem e2_eq : e2 = { e1.less with S := [k32] } := by
  unfold e2 dSt
  rw [e1_slC]
  rfl
theorem e2_E : stpE e1 (slC e1 0 k32) = 0 := by rw [e1_slC]; rfl
theorem e3_eq : e3 = { e2 with dn := true, lf := -1 } := by unfold e3; rw [e2_eq]; rfl
theorem e3_E : stpE e2 (buC e2 1) = 14 := by rw [e2_eq]; rfl
theorem e3_dn : e3.dn = true := by rw [e3_eq]
theorem e4_E : tiE e3 5 = 0 := by rw [e3_eq, e2_eq]; rfl
theorem e5_eq : e5 = { M := newM 2, S := [k32], F := [false, false], cnt := 0, clk := 5, dn := false, lf := -1 } := by unfold e5 e4; rw [e3_eq, e2_eq]; rfl
theorem e6_eq : e6 = { M := newM 2, S := [k32], F := [false, false], cnt := 7, clk := 5, dn := false, lf := -1 } := by unfold e6; rw [e5_eq]; rfl
theorem e7_eq : e7 = e6 := by unfold e7; rw [e6_eq]; rfl
theorem e8_eq : e8 = { M := newM 2, S := [k32], F := [true, false], cnt := 7, clk := 5, dn := false, lf := -1 } := by unfold e8; rw [e7_eq, e6_eq]; rfl
theorem e5_T : dLdT e5 0 = k32 := by rw [e5_eq]; rfl
theorem e5_TE : dLdE e5 0 = 0 := by rw [e5_eq]; rfl
theorem e6_E : stpE e5 (raC e5 7) = 0 := by rw [e5_eq]; rfl
theorem e7_E : stpE e6 (raC e6 6) = 20 := by rw [e6_eq]; rfl
theorem e8_E : stpE e7 (buC e7 0) = 0 := by rw [e7_eq, e6_eq]; rfl
theorem e8_img : strs (imgM e8.M) = [.string zero64, .string zero64] := by rw [e8_eq]; rfl

set_option maxRecDepth 100000 in
set_option maxHeartbeats 8000000 in
theorem dSanity (w : World) : Calls Tryz.prog 4 #[] w fun e w' => e = .returned (.bool true) ∧ Below w.heap.size w w' := by
  have hzz : zero64.size = 64 := zero64_size
  go_enter Tryz.func4, Tryz.ntmps4
  go_wp2_with fail
  refine (dNew_ok w 2 1 2 (by omega) (by omega) (by omega) (by omega) (by omega) (by omega)).mono ?_
  rintro e w1 ⟨B, rfl, h, hBa, hB⟩
  have hA := Lib.hid hBa
  have hBl : Hid (∀ k ∈ B.l, w.heap.size ≤ k) := fun k hk => hBa k (B.l_all k hk)
  clear hBa
  have hD := Lib.hid (show DevAt w1 B e0 from h)
  clear h
  go_wp2_with fail
  refine (dText65 _).mono ?_
  rintro e w2 ⟨rfl, hB2⟩
  have hD2 := Lib.hid (hD.out.below hB2)
  have hB3 := hB.trans (hB2.mono hB.size)
  clear hD hB hB2
  go_wp2_with fail
  refine (dTrip _ B _ hD2.out 1 (by omega)).mono ?_
  rintro e w3 ⟨rfl, h, hF⟩
  have hD := Lib.hid (show DevAt w3 B e1 from h)
  have hB := hB3.trans (hF.below hB3.size hBl.out)
  clear h hF hD2 hB3
  have c := dStore _ B _ hD.out 0 k32
  rw [e2_E] at c
  go_wp2_with fail
  refine c.mono ?_
  clear c
  rintro e w4 ⟨rfl, h, hF⟩
  have hD2 := Lib.hid (show DevAt w4 B e2 from h)
  have hB3 := hB.trans (hF.below hB.size hBl.out)
  clear h hF hD hB
  have c := dBurn _ B _ hD2.out 1
  rw [e3_E] at c
  go_wp2_with fail
  refine c.mono ?_
  clear c
  rintro e w5 ⟨rfl, h, hF⟩
  have hD := Lib.hid (show DevAt w5 B e3 from h)
  have hB := hB3.trans (hF.below hB3.size hBl.out)
  clear h hF hD2 hB3
  have c := dUp _ B _ hD.out
  rw [e3_dn] at c
  have c2 := dBurned _ B _ hD.out 1
  rw [show dBd e3 1 = false from by rw [e3_eq, e2_eq]; rfl] at c2
  go_wp2_with fail
  refine c.mono ?_
  clear c
  rintro e w' ⟨rfl, rfl⟩
  go_wp2_with fail
  refine c2.mono ?_
  clear c2
  rintro e w' ⟨rfl, rfl⟩
  have c := dTick _ B _ hD.out 5
  rw [e4_E] at c
  go_wp2_with fail
  refine c.mono ?_
  clear c
  rintro e w6 ⟨rfl, h, hF⟩
  have hD2 := Lib.hid (show DevAt w6 B e4 from h)
  have hB3 := hB.trans (hF.below hB.size hBl.out)
  clear h hF hD hB
  go_wp2_with fail
  refine (dMount _ B _ hD2.out (fun _ => False) _ [] (SlAt.nil _ _) (by simp) (fun _ h => h.elim)).mono ?_
  rintro e w7 ⟨rfl, h, hF⟩
  have hD := Lib.hid (show DevAt w7 B e5 from h)
  have hB := hB3.trans (hF.below hB3.size hBl.out)
  clear h hF hD2 hB3
  have c := dLoad _ B _ hD.out 0
  rw [e5_T, e5_TE] at c
  go_wp2_with fail
  refine c.mono ?_
  clear c
  rintro e w' ⟨rfl, rfl⟩
  have c := dRaise _ B _ hD.out 7
  rw [e6_E] at c
  go_wp2_with fail
  refine c.mono ?_
  clear c
  rintro e w8 ⟨rfl, h, hF⟩
  have hD2 := Lib.hid (show DevAt w8 B e6 from h)
  have hB3 := hB.trans (hF.below hB.size hBl.out)
  clear h hF hD hB
  have c := dRaise _ B _ hD2.out 6
  rw [e7_E] at c
  go_wp2_with fail
  refine c.mono ?_
  clear c
  rintro e w9 ⟨rfl, h, hF⟩
  have hD := Lib.hid (show DevAt w9 B e7 from h)
  have hB := hB3.trans (hF.below hB3.size hBl.out)
  clear h hF hD2 hB3
  have c := dBurn _ B _ hD.out 0
  rw [e8_E] at c
  go_wp2_with fail
  refine c.mono ?_
  clear c
  rintro e wa ⟨rfl, h, hF⟩
  have hD2 := Lib.hid (show DevAt wa B e8 from h)
  have hB3 := hB.trans (hF.below hB.size hBl.out)
  clear h hF hD hB
  have c := dImage _ B _ hD2.out
  rw [e8_img] at c
  go_wp2_with fail
  refine c.mono ?_
  clear c
  rintro e wb ⟨v, rfl, hsl, hB4⟩
  obtain ⟨xb, xo, xc, rfl, hxc, hxb, hxl, hxcell⟩ := SlAt.pair hsl
  have hD := Lib.hid (hD2.out.below hB4)
  have hB := hB3.trans (hB4.mono hB3.size)
  clear hsl hD2 hB3 hB4 hxb
  have c1 := dNow _ B _ hD.out
  rw [show e8.clk = 5 from by rw [e8_eq]] at c1
  have c2 := dCounter _ B _ hD.out
  rw [show e8.cnt = 7 from by rw [e8_eq]] at c2
  have c3 := dBurned _ B _ hD.out 0
  rw [show dBd e8 0 = true from by rw [e8_eq]; rfl] at c3
  have c4 := dUp _ B _ hD.out
  rw [show e8.dn = false from by rw [e8_eq]] at c4
  have c5 := dSectors _ B _ hD.out
  rw [show ((e8.M.length : Nat) : Int) = 2 from by rw [e8_eq]; rfl] at c5
  clear hA hBl
  go_wp2_with (first
    | (go_at_call 24; refine c1.mono ?_; rintro e w' ⟨rfl, rfl⟩)
    | (go_at_call 25; refine c2.mono ?_; rintro e w' ⟨rfl, rfl⟩)
    | (go_at_call 18; refine c3.mono ?_; rintro e w' ⟨rfl, rfl⟩)
    | (go_at_call 17; refine c4.mono ?_; rintro e w' ⟨rfl, rfl⟩)
    | (go_at_call 26; refine c5.mono ?_; rintro e w' ⟨rfl, rfl⟩))
  go_ret
  exact ⟨rfl, hB⟩

/-- A size, boxed, and few. -/
theorem dFew (w : World) (n s f : Int) (v : Value) (k : Nat) (hv : ∃ a c, v = .slice a k c) :
    Calls Tryz.prog 5 #[.agg #[.int .i64 n, .int .i64 s, .int .i64 f], v] w fun e w' => e = .returned (.bool (decide (n ≤ 12 ∧ k ≤ 60))) ∧ Below w.heap.size w w' := by
  obtain ⟨a, c, rfl⟩ := hv
  by_cases h1 : n ≤ 12
  · by_cases h2 : k ≤ 60
    · have h2i : (k : Int) ≤ 60 := by omega
      rw [decide_eq_true ⟨h1, h2⟩]
      clear h2
      go_enter Tryz.func5, Tryz.ntmps5
      go_wp2
      go_ret
      exact ⟨by simp [h1, h2i], (Below.refl _ _).alloc (Nat.le_refl _) _⟩
    · have h2i : (60 : Int) < k := by omega
      rw [decide_eq_false (fun k => h2 k.2)]
      clear h2
      go_enter Tryz.func5, Tryz.ntmps5
      go_wp2
      go_ret
      exact ⟨by simp [h1, h2i], (Below.refl _ _).alloc (Nat.le_refl _) _⟩
  · have h1i : 12 < n := by omega
    rw [decide_eq_false (fun k => h1 k.1)]
    clear h1
    go_enter Tryz.func5, Tryz.ntmps5
    go_wp2
    all_goals
      go_ret
      exact ⟨by first | rfl | (simp; omega), (Below.refl _ _).alloc (Nat.le_refl _) _⟩

end Go.Proofs.YtogljlloobjeoaaGreat
