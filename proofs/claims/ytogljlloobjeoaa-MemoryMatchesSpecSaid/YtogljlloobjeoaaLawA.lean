/- MemoryMatchesSpec, walked. -/
import Derived.Test.YtogljlloobjeoaaSanity
import Derived.Test.YtogljlloobjeoaaScr
namespace Go.Proofs.Ytogljlloobjeoaa
open Go.RowKit

set_option maxRecDepth 100000 in
set_option maxHeartbeats 4000000 in
theorem lawA_big (w : World) (n : Int) (v : Value) (ops : List OpT) (hs : ScrAt w w.heap.size v ops) (h : 64 < n ∨ 60 < ops.length) :
    Calls Try.prog 3 #[.int .i64 n, v] w fun e w' => e = .returned (.bool true) ∧ Below w.heap.size w w' := by
  have hbad := fun w => mNew_bad w (max n 4097) (by omega)
  obtain ⟨a, cap, rfl, hcap, hmx, hx⟩ := hs
  clear hx
  have hm63 : ops.length ≤ 9223372036854775807 := by unfold maxLen at hmx; omega
  rcases Int.lt_or_le 64 n with h1 | h1
  · clear h
    go_enter Try.func3, Try.ntmps3
    go_wp2_with fail
    refine (hbad _).mono ?_
    rintro e w' ⟨rfl, rfl⟩
    go_wp2_with fail
    refine (lSanity _).mono ?_
    rintro e w2 ⟨rfl, hB2⟩
    go_wp2
    go_ret
    exact ⟨rfl, hB2⟩
  · have h2 : (60 : Int) < (ops.length : Int) := by omega
    clear h
    go_enter Try.func3, Try.ntmps3
    go_wp2_with fail
    refine (hbad _).mono ?_
    rintro e w' ⟨rfl, rfl⟩
    go_wp2_with fail
    refine (lSanity _).mono ?_
    rintro e w2 ⟨rfl, hB2⟩
    go_wp2
    go_ret
    exact ⟨rfl, hB2⟩

set_option maxRecDepth 100000 in
set_option maxHeartbeats 4000000 in
theorem lawA_low (w : World) (n : Int) (v : Value) (ops : List OpT) (hs : ScrAt w w.heap.size v ops) (h : n < 1) (hl : ops.length ≤ 60) :
    Calls Try.prog 3 #[.int .i64 n, v] w fun e w' => e = .returned (.bool true) ∧ Below w.heap.size w w' := by
  obtain ⟨a, cap, rfl, hcap, hmx, hx⟩ := hs
  clear hx
  have hl' : (ops.length : Int) ≤ 60 := by omega
  go_enter Try.func3, Try.ntmps3
  go_wp2_with fail
  refine (lPlayers_bad _ n (.inl h)).mono ?_
  rintro e w1 ⟨rfl, hB1⟩
  go_wp2_with fail
  refine (rNew_bad _ n (.inl h)).mono ?_
  rintro e w' ⟨rfl, rfl⟩
  go_wp2_with fail
  refine (lSanity _).mono ?_
  rintro e w2 ⟨rfl, hB2⟩
  go_wp2
  go_ret
  exact ⟨rfl, hB1.trans (hB2.mono hB1.size)⟩

set_option maxRecDepth 100000 in
set_option maxHeartbeats 4000000 in
theorem lawA_ok (w : World) (n : Nat) (v : Value) (ops : List OpT) (hs : ScrAt w w.heap.size v ops) (h1 : 1 ≤ n) (h2 : n ≤ 64) (hl : ops.length ≤ 60) :
    Calls Try.prog 3 #[.int .i64 n, v] w fun e w' => e = .returned (.bool true) ∧ Below w.heap.size w w' := by
  have hs' := Lib.hid hs
  obtain ⟨a, cap, rfl, hcap, hmx, hx⟩ := hs
  clear hx
  have hl' : (ops.length : Int) ≤ 60 := by omega
  have hn' : (n : Int) ≤ 64 := by omega
  go_enter Try.func3, Try.ntmps3
  go_wp2_with fail
  refine (lPlayers_ok _ n h1 h2).mono ?_
  rintro e w1 ⟨p, pm, pb, q, qm, qb, rfl, hP, hQ, hdis, hB1⟩
  go_wp2_with fail
  have hsx := hs'.out.below (Nat.le_refl _) hB1
  have hz1 := hB1.size
  go_loopw [13, 52] (fun bx t wr => ∃ j : Nat, j ≤ ops.length ∧ t = .int .i64 (j : Int) ∧ Two wr w.heap.size p pm pb q qm qb (runS (ops.take j) ⟨newM n, []⟩) ∧ Below w.heap.size w wr) (fun _ t _ => ops.length - (intOf t).toNat)
  case atStart => exact ⟨0, Nat.zero_le _, rfl, ⟨_, _, _, _, hP, hQ, fun b hb => ⟨hdis b hb, fun h => h⟩, fun b hb => ⟨fun h => hdis b h hb, fun h => h⟩⟩, hB1⟩
  case round =>
    obtain ⟨j, hj, rfl, hT, hB⟩ := hrel
    have hzB := hB.size
    by_cases hlt : j < ops.length
    · have hlti : (j : Int) < (ops.length : Int) := by omega
      obtain ⟨o, ho⟩ : ∃ o, ops[j]? = some o := ⟨ops[j], List.getElem?_eq_getElem hlt⟩
      have hsI : (runS (ops.take j) ⟨newM n, []⟩).I.length ≤ 4096 := by have := runS_I (ops.take j) ⟨newM n, []⟩; simp at this; omega
      have hT1 : runS (ops.take (j + 1)) ⟨newM n, []⟩ = playS o (runS (ops.take j) ⟨newM n, []⟩) := runS_take_succ _ _ _ _ ho
      generalize runS (ops.take j) ⟨newM n, []⟩ = s at *
      have hsx := hs'.out.below (Nat.le_refl _) hB
      obtain ⟨a', cap', e, -, -, hx⟩ := hsx
      injection e with e1 _ e3
      subst e1; subst e3
      obtain ⟨b, off, rfl, hbB, hop⟩ := hx (by omega)
      obtain ⟨pv, d0, d1, d2, d3, d4, hpv, hpl⟩ := hop j o ho
      have hbl : b < wr.heap.size := by omega
      obtain ⟨pa, pn, pc, rfl⟩ : ∃ a n c, pv = .slice a n c := by obtain ⟨a, c, h, _⟩ := hpv; exact ⟨_, _, _, h⟩
      clear hx hop ho hP hQ
      obtain ⟨X, Z, Y, V, hP, hQ, hd1, hd2⟩ := hT
      go_wp2_with fail
      generalize hW : wr.alloc (.cells #[.int .i64 o.kd, .int .i64 o.i, .int .u8 o.f.toNat, .int .i64 o.sz, .slice pa pn pc] 37) = W0
      have hf0 : Fr [] wr W0 := by rw [← hW]; exact (Fr.refl _ _).alloc _
      have hBx : BoxAt W0 wr.heap.size o (.slice pa pn pc) := by rw [← hW]; exact ⟨by simp, by simp, by simp, by simp, by simp⟩
      have hz0 : W0.heap.size = wr.heap.size + 1 := by rw [← hW]; simp
      have hP0 := Lib.hid ((hP.fr0 hf0).fr0 (w' := W0.drew) (Fr.refl _ _).drew)
      have hQ0 := Lib.hid ((hQ.fr0 hf0).fr0 (w' := W0.drew) (Fr.refl _ _).drew)
      have hB0 : Below w.heap.size w W0.drew := (hB.trans (hf0.below hzB (by simp))).drew
      have hpv0 := Lib.hid (hpv.below ((hf0.below hzB (by simp)).drew))
      have hXn : ¬ X wr.heap.size := fun h => by have := (hP.lt _ (.inl h)).2; omega
      have hYn : ¬ Y wr.heap.size := fun h => by have := (hQ.lt _ (.inl h)).2; omega
      have hXb : ∀ k, X k → w.heap.size ≤ k := fun k h => (hP.lt _ (.inl h)).1
      have hYb : ∀ k, Y k → w.heap.size ≤ k := fun k h => (hQ.lt _ (.inl h)).1
      have hd1' : Hid (∀ b, X b → ¬ Y b ∧ ¬ V b) := hd1
      have hd2' : Hid (∀ b, Y b → ¬ X b ∧ ¬ Z b) := hd2
      have hXb' := Lib.hid hXb
      have hYb' := Lib.hid hYb
      have hz0' := Lib.hid hz0
      have hBx0 := Lib.hid (hBx.frP (w' := W0.drew) (X := fun _ => False) (FrP.of_fr (Fr.refl [] _).drew (by simp)) (fun h => h))
      have hS0 : W0.drew.cell? ⟨p, 0, none⟩ = some (.pointer (some ⟨pm, 0, none⟩)) ∧ W0.drew.cell? ⟨q, 0, none⟩ = some (.pointer (some ⟨qm, 0, none⟩)) ∧ W0.drew.cell? ⟨wr.heap.size, 0, none⟩ = some (.int .i64 o.kd) ∧ W0.drew.cell? ⟨wr.heap.size, 1, none⟩ = some (.int .i64 o.i) ∧ W0.drew.cell? ⟨wr.heap.size, 2, none⟩ = some (.int .u8 o.f.toNat) ∧ W0.drew.cell? ⟨wr.heap.size, 3, none⟩ = some (.int .i64 o.sz) ∧ W0.drew.cell? ⟨wr.heap.size, 4, none⟩ = some (.slice pa pn pc) := ⟨hP0.out.c0, hQ0.out.c0, hBx0.out⟩
      have hV : Hid (∀ b, V b → b < wr.heap.size) := fun b h => (hQ.lt _ (.inr h)).2
      have hYl : Hid (∀ b, Y b → b < wr.heap.size) := fun b h => (hQ.lt _ (.inl h)).2
      clear hW hd1 hd2 hXb hYb hP hQ hpv hB d0 d1 d2 d3 d4 hz0 hbl hbB hBx hf0
      go_region_held3 (fun w' => w'.cell? ⟨p, 0, none⟩ = some (.pointer (some ⟨pm, 0, none⟩)) ∧ w'.cell? ⟨q, 0, none⟩ = some (.pointer (some ⟨qm, 0, none⟩)) ∧ w'.cell? ⟨wr.heap.size, 0, none⟩ = some (.int .i64 o.kd) ∧ w'.cell? ⟨wr.heap.size, 1, none⟩ = some (.int .i64 o.i) ∧ w'.cell? ⟨wr.heap.size, 2, none⟩ = some (.int .u8 o.f.toNat) ∧ w'.cell? ⟨wr.heap.size, 3, none⟩ = some (.int .i64 o.sz) ∧ w'.cell? ⟨wr.heap.size, 4, none⟩ = some (.slice pa pn pc)) (first | exact hS4.out | exact hS3.out | exact hS2.out | exact hS0)
        (first
          | (go_at_call 22
             refine (mPlay _ X Z _ p pm pb _ _ _ s hP0.out hsI o _ hpv0.out hpl).mono ?_
             rintro e w2 ⟨rfl, X2, Z2, hP2, hX2, hZ2, hF2⟩
             have hQ2 := hQ0.out.frP hF2 hd1'.out none_own
             have hBx2 := hBx0.out.frP hF2 hXn
             have hS2 := Lib.hid (show w2.cell? ⟨p, 0, none⟩ = some (.pointer (some ⟨pm, 0, none⟩)) ∧ w2.cell? ⟨q, 0, none⟩ = some (.pointer (some ⟨qm, 0, none⟩)) ∧ w2.cell? ⟨wr.heap.size, 0, none⟩ = some (.int .i64 o.kd) ∧ w2.cell? ⟨wr.heap.size, 1, none⟩ = some (.int .i64 o.i) ∧ w2.cell? ⟨wr.heap.size, 2, none⟩ = some (.int .u8 o.f.toNat) ∧ w2.cell? ⟨wr.heap.size, 3, none⟩ = some (.int .i64 o.sz) ∧ w2.cell? ⟨wr.heap.size, 4, none⟩ = some (.slice pa pn pc) from ⟨hP2.c0, hQ2.c0, hBx2⟩)
             have hB2 := hB0.trans (hF2.below hB0.size hXb'.out)
             have hpv2 := Lib.hid (hpv0.out.below (hF2.below hB0.size hXb'.out))
             have hP2' := Lib.hid hP2
             have hQ2' := Lib.hid hQ2
             have hBx2' := Lib.hid hBx2
             clear hP2 hQ2 hBx2)
          | (go_at_call 23
             refine (rPlay _ Y V _ q qm qb _ _ _ s hQ2'.out hsI o _ hpv2.out hpl).mono ?_
             rintro e w3 ⟨rfl, Y3, V3, hQ3, hY3, hV3, hF3⟩
             have hYX : ∀ b, Y b → ¬ X2 b ∧ ¬ Z2 b := fun b hb => by
               have h1 := hd2'.out b hb
               have h2 := hYl.out b hb
               have h3 : W0.drew.heap.size = wr.heap.size + 1 := hz0'.out
               refine ⟨fun h => ?_, fun h => ?_⟩
               · rcases hX2 b h with h | h
                 · exact h1.1 h
                 · omega
               · rcases hZ2 b h with h | h
                 · exact h1.2 h
                 · omega
             have hP3 := hP2'.out.frP hF3 hYX none_own
             have hBx3 := hBx2'.out.frP hF3 hYn
             have hS3 := Lib.hid (show w3.cell? ⟨p, 0, none⟩ = some (.pointer (some ⟨pm, 0, none⟩)) ∧ w3.cell? ⟨q, 0, none⟩ = some (.pointer (some ⟨qm, 0, none⟩)) ∧ w3.cell? ⟨wr.heap.size, 0, none⟩ = some (.int .i64 o.kd) ∧ w3.cell? ⟨wr.heap.size, 1, none⟩ = some (.int .i64 o.i) ∧ w3.cell? ⟨wr.heap.size, 2, none⟩ = some (.int .u8 o.f.toNat) ∧ w3.cell? ⟨wr.heap.size, 3, none⟩ = some (.int .i64 o.sz) ∧ w3.cell? ⟨wr.heap.size, 4, none⟩ = some (.slice pa pn pc) from ⟨hP3.c0, hQ3.c0, hBx3⟩)
             have hB3 := hB2.trans (hF3.below hB2.size hYb'.out)
             have hP3' := Lib.hid hP3
             have hQ3' := Lib.hid hQ3
             have hBx3' := Lib.hid hBx3
             have hYX' := Lib.hid hYX
             clear hP3 hQ3 hBx3 hYX)
          | (go_at_call 24
             refine (lSame _ _ _ _ _ _ hP3'.out.mem hQ3'.out.mem hP3'.out.mlen).mono ?_
             rintro e w4 ⟨rfl, hF4⟩
             have hP4 := hP3'.out.fr0 hF4
             have hQ4 := hQ3'.out.fr0 hF4
             have hBx4 := hBx3'.out.frP (X := fun _ => False) (FrP.of_fr hF4 (by simp)) (fun h => h)
             have hS4 := Lib.hid (show w4.cell? ⟨p, 0, none⟩ = some (.pointer (some ⟨pm, 0, none⟩)) ∧ w4.cell? ⟨q, 0, none⟩ = some (.pointer (some ⟨qm, 0, none⟩)) ∧ w4.cell? ⟨wr.heap.size, 0, none⟩ = some (.int .i64 o.kd) ∧ w4.cell? ⟨wr.heap.size, 1, none⟩ = some (.int .i64 o.i) ∧ w4.cell? ⟨wr.heap.size, 2, none⟩ = some (.int .u8 o.f.toNat) ∧ w4.cell? ⟨wr.heap.size, 3, none⟩ = some (.int .i64 o.sz) ∧ w4.cell? ⟨wr.heap.size, 4, none⟩ = some (.slice pa pn pc) from ⟨hP4.c0, hQ4.c0, hBx4⟩)
             have hB4 := hB3.trans (hF4.below hB3.size (by simp))
             have hP4' := Lib.hid hP4
             have hQ4' := Lib.hid hQ4
             clear hP4 hQ4 hBx4))
      all_goals
        have hT4 : Two w4 w.heap.size p pm pb q qm qb (playS o s) := by
          have hs2 : ∀ b, X2 b ∨ Z2 b → b < w2.heap.size := fun b h => (hP2'.out.lt b h).2
          have hz : W0.drew.heap.size = wr.heap.size + 1 := hz0'.out
          refine ⟨X2, Z2, Y3, V3, hP4'.out, hQ4'.out, fun b hb => ⟨fun h => ?_, fun h => ?_⟩, fun b hb => ⟨fun h => ?_, fun h => ?_⟩⟩
          · rcases hY3 b h with h | h
            · exact (hYX'.out b h).1 hb
            · have := hs2 b (.inl hb); omega
          · rcases hV3 b h with h | h
            · have := hV.out b h
              rcases hX2 b hb with h' | h'
              · exact (hd1'.out b h').2 h
              · omega
            · have := hs2 b (.inl hb); omega
          · rcases hY3 b hb with h' | h'
            · exact (hYX'.out b h').1 h
            · have := hs2 b (.inl h); omega
          · rcases hY3 b hb with h' | h'
            · exact (hYX'.out b h').2 h
            · have := hs2 b (.inr h); omega
        clear hS4 hS3 hS2 hS0 hP4' hQ4' hP3' hQ3' hP2' hQ2' hBx2' hBx3' hBx0 hX2 hZ2 hY3 hV3 hF2 hF3 hF4
        go_wp2
        go_roundw
        case rel => exact ⟨j + 1, by omega, by go_num, by rw [hT1]; exact hT4, hB4⟩
        case measure => simp [intOf]; omega
    · obtain rfl : j = ops.length := by omega
      clear hT
      go_wp2_with (go_at_call 19; refine (lSanity _).mono ?_; rintro e w2 ⟨rfl, hB2⟩)
      go_ret
      exact ⟨rfl, hB.trans (hB2.mono hzB)⟩

end Go.Proofs.Ytogljlloobjeoaa
