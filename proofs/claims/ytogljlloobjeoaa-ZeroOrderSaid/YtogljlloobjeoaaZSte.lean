/- ZeroSteps, walked. -/
import Derived.Test.YtogljlloobjeoaaZBui
import Derived.Test.YtogljlloobjeoaaZStl
namespace Go.Proofs.Ytogljlloobjeoaa
open Go.RowKit
set_option linter.unusedSimpArgs false

/-- The boxed size. -/
structure SzAt (W : World) (b : Nat) (n s f : Int) : Prop where
  c0 : W.cell? ⟨b, 0, none⟩ = some (.int .i64 n)
  c1 : W.cell? ⟨b, 1, none⟩ = some (.int .i64 s)
  c2 : W.cell? ⟨b, 2, none⟩ = some (.int .i64 f)
theorem SzAt.fr {W W' : World} {b : Nat} {n s f : Int} (h : SzAt W b n s f) {S : List Nat} (hf : Fr S W W') (hb : b ∉ S) : SzAt W' b n s f :=
  ⟨(hf.cell (World.block_lt_of_cell? _ _ h.c0) hb).trans h.c0, (hf.cell (World.block_lt_of_cell? _ _ h.c1) hb).trans h.c1, (hf.cell (World.block_lt_of_cell? _ _ h.c2) hb).trans h.c2⟩
theorem SzAt.new (w : World) (n s f : Int) (T : TypeId) : SzAt (w.alloc (.cells #[.int .i64 n, .int .i64 s, .int .i64 f] T)) w.heap.size n s f := ⟨by simp, by simp, by simp⟩

set_option maxRecDepth 100000 in
set_option maxHeartbeats 1600000 in
theorem zSte_nil (w : World) (n s f t : Int) (v1 : Value)
    (hb : ∀ W : World, Below w.heap.size w W → Calls Try.prog 34 #[.agg #[.int .i64 n, .int .i64 s, .int .i64 f], v1] W fun e w' => e = .returned (.pointer none) ∧ Below W.heap.size W w') :
    Calls Try.prog 9 #[.agg #[.int .i64 n, .int .i64 s, .int .i64 f], v1, .int .i64 t] w fun e w' => e = .returned (.bool true) ∧ Below w.heap.size w w' := by
  have hb' := Lib.hid hb
  clear hb
  go_enter Try.func9, Try.ntmps9
  go_wp2_with fail
  have hB0 := (Below.refl w.heap.size w).alloc (Nat.le_refl _) (.cells #[.int .i64 n, .int .i64 s, .int .i64 f] 61)
  refine (hb'.out _ hB0).mono ?_
  rintro e w1 ⟨rfl, hB1⟩
  have hB2 := hB0.trans (hB1.mono hB0.size)
  clear hB0 hB1 hb'
  go_wp2_with fail
  refine (zSanity _).mono ?_
  rintro e w2 ⟨rfl, hB3⟩
  have hB4 := hB2.trans (hB3.mono hB2.size)
  clear hB2 hB3
  go_wp2_with fail
  go_ret
  exact ⟨rfl, hB4⟩

set_option maxRecDepth 100000 in
set_option maxHeartbeats 4000000 in
theorem zSte_some (w : World) (n s f : Nat) (t : Int) (ht0 : -9223372036854775808 ≤ t) (ht : t ≤ 9223372036854775807) (v1 : Value) (ops : List DOp) (hs : DScrAt w w.heap.size v1 ops) (n0 : 1 ≤ n) (n1 : n ≤ 12) (hk : ops.length ≤ 40) (s0 : 1 ≤ s) (s1 : s ≤ 16) (f0 : 1 ≤ f) (f1 : f ≤ 16) :
    Calls Try.prog 9 #[.agg #[.int .i64 n, .int .i64 s, .int .i64 f], v1, .int .i64 t] w fun e w' => e = .returned (.bool true) ∧ Below w.heap.size w w' := by
  have hb' := Lib.hid (fun (W : World) (hW : Below w.heap.size w W) => build_ok W n s f v1 ops _ (hs.below hW) hW.size n0 n1 hk s0 s1 f0 f1)
  have hkp := Lib.hid (Keeps.run ops hs.a_le (newD n s f, []))
  clear hs
  have f1i : (f : Int) ≤ 16 := by omega
  go_enter Try.func9, Try.ntmps9
  go_wp2_with fail
  have hB0 := (Below.refl w.heap.size w).alloc (Nat.le_refl _) (.cells #[.int .i64 n, .int .i64 s, .int .i64 f] 61)
  have hz0 := SzAt.new w n s f 61
  generalize hW : w.alloc (.cells #[.int .i64 n, .int .i64 s, .int .i64 f] 61) = W0 at *
  have hsz0 : W0.heap.size = w.heap.size + 1 := by rw [← hW]; simp
  clear hW
  refine (hb'.out _ hB0).mono ?_
  rintro e w1 ⟨B, rfl, hD, hBa, hB1⟩
  have hB2 := hB0.trans (hB1.mono hB0.size)
  have hA : Hid (∀ k ∈ B.all, w.heap.size + 1 ≤ k) := fun k hk => by have := hBa k hk; omega
  have hA1 : Hid (∀ k ∈ B.l, w.heap.size ≤ k) := fun k hk => by have := hA.out k (B.l_all k hk); omega
  have hA2 : Hid (w.heap.size ∉ B.l) := fun hm => by have := hA.out _ (B.l_all _ hm); omega
  have hz1 := hz0.fr (S := []) (Fr.of_below hB1) (by simp)
  have hlen : (runD ops (newD n s f, [])).1.S.length = s ∧ (runD ops (newD n s f, [])).1.M.length = n ∧ (runD ops (newD n s f, [])).1.F.length = f := by
    have := hkp.out
    exact ⟨this.s.trans (by simp [newD]), this.m.trans (by simp [newD, newM]), this.f.trans (by simp [newD])⟩
  generalize (runD ops (newD n s f, [])).1 = d at *
  have hlen' := Lib.hid hlen
  have hD1 := Lib.hid hD
  clear hB0 hB1 hb' hBa hD hkp hlen hz0
  obtain ⟨c0, c1, c2⟩ := id hz1
  have hz1' := Lib.hid hz1
  clear hz1 hsz0
  by_cases hf2 : f < 2
  · have hf2i : (f : Int) < 2 := by omega
    go_wp2_with fail
    refine (zSanity _).mono ?_
    rintro e w2 ⟨rfl, hB3⟩
    have hB4 := hB2.trans (hB3.mono hB2.size)
    clear hB2 hB3
    go_wp2_with fail
    go_ret
    exact ⟨rfl, hB4⟩
  have hf2i : (2 : Int) ≤ f := by omega
  by_cases ht2 : t < 0
  · go_wp2_with fail
    refine (zSanity _).mono ?_
    rintro e w2 ⟨rfl, hB3⟩
    have hB4 := hB2.trans (hB3.mono hB2.size)
    clear hB2 hB3
    go_wp2_with fail
    go_ret
    exact ⟨rfl, hB4⟩
  have ht2i : 0 ≤ t := by omega
  clear ht2
  go_wp2_with fail
  refine (dMount _ B _ hD1.out (fun _ => False) _ [] (SlAt.nil _ _) (by simp) (fun _ h => h.elim)).mono ?_
  rintro e w2 ⟨rfl, h, hF⟩
  have hB3 := hB2.trans (hF.below hB2.size hA1.out)
  have hz2 := Lib.hid (hz1'.out.fr hF hA2.out)
  have hlen2 : Hid ((dMo d []).S.length = s ∧ (dMo d []).M.length = n ∧ (dMo d []).F.length = f) := ⟨hlen'.out.1, (cutM_length _ _).trans hlen'.out.2.1, hlen'.out.2.2⟩
  have hup : Hid ((dMo d []).dn = false) := rfl
  have hlf : Hid ((dMo d []).lf = -1) := rfl
  generalize dMo d [] = d2 at *
  have hD2 := Lib.hid h
  clear h hF hD1 hB2 hz1' hlen' c0 c1 c2
  have c := dBurned _ B _ hD2.out 1
  cases hb1 : dBd d2 1
  · rw [hb1] at c
    go_wp2_with fail
    refine c.mono ?_
    clear c
    rintro e w' ⟨rfl, rfl⟩
    have c := dBurn _ B _ hD2.out ((0 : Nat) : Int)
    rw [(dBu_ok 0 hup.out hlf.out (by have := hlen2.out; omega)).1, (dBu_ok 0 hup.out hlf.out (by have := hlen2.out; omega)).2] at c
    have hs1 : Hid (zState { d2 with F := d2.F.set 0 true } = 1) := zState_one ((dBd_set_other d2 0 1 (by decide)).trans hb1) (dBd_set_same d2 0 (by have := hlen2.out; omega))
    have hlen3 : Hid (({ d2 with F := d2.F.set 0 true } : Dv).S.length = s ∧ ({ d2 with F := d2.F.set 0 true } : Dv).M.length = n ∧ ({ d2 with F := d2.F.set 0 true } : Dv).F.length = f) := ⟨hlen2.out.1, hlen2.out.2.1, by have := hlen2.out.2.2; simpa using this⟩
    have hup3 : Hid (({ d2 with F := d2.F.set 0 true } : Dv).dn = false) := hup.out
    generalize ({ d2 with F := d2.F.set 0 true } : Dv) = d3 at *
    clear hb1 hup hlf
    go_wp2_with fail
    refine c.mono ?_
    clear c
    rintro e w3 ⟨rfl, h, hF⟩
    have hB4 := hB3.trans (hF.below hB3.size hA1.out)
    have hz3 := Lib.hid (hz2.out.fr hF hA2.out)
    have hD3 := Lib.hid h
    clear h hF hD2 hB3 hz2 hlen2
    have c := zStepsN _ B _ hD3.out
    rw [zSteps_up hup3.out hs1.out, hlen3.out.1, hlen3.out.2.1, show ((s + n + 2 : Nat) : Int) = (s : Int) + n + 2 by omega] at c
    go_wp2_with fail
    refine c.mono ?_
    clear c
    rintro e w4 ⟨rfl, h, hF⟩
    have hB3 := hB4.trans (hF.below hB4.size hA1.out)
    have hz4 := hz3.out.fr hF hA2.out
    have hD4 := Lib.hid h
    obtain ⟨c0, c1, c2⟩ := id hz4
    clear h hF hD3 hB4 hz3 hz4
    have b1 : (s : Int) ≤ 16 := by omega
    have b2 : (n : Int) ≤ 12 := by omega
    go_wp2_with fail
    refine (dClone _ B _ hD4.out).mono ?_
    rintro e w5 ⟨C, rfl, hC, hCa, hB⟩
    have hB4 := hB3.trans (hB.mono hB3.size)
    have hD5 := Lib.hid (hD4.out.below hB)
    have hC5 := Lib.hid hC
    have hCB : Hid (∀ k ∈ C.l, k ∉ B.all) := fun k hk hm => by have h1 := hCa k (C.l_all k hk); have h2 := hD4.out.all_lt k hm; omega
    have hC1 : Hid (∀ k ∈ C.l, w.heap.size ≤ k) := fun k hk => by have h1 := hCa k (C.l_all k hk); have h2 := hB3.size; omega
    clear hB hC hCa hD4 hB3 c0 c1 c2
    have hKi : ((s + n + 2 : Nat) : Int) = (s : Int) + n + 2 := by omega
    obtain ⟨x, hres⟩ := resume_lasts hup3.out hs1.out (by have := hlen3.out; omega) (s + n + 2) (by have := hlen3.out; omega)
    rw [hKi] at hres
    have hr2 := Lib.hid hres
    have hKi' := Lib.hid hKi
    clear hres hKi
    go_wp2_with fail
    refine (dTrip _ C _ hC5.out ((s : Int) + n + 2) (by omega)).mono ?_
    rintro e w6 ⟨rfl, h, hF⟩
    have hB3 := hB4.trans (hF.below hB4.size hC1.out)
    have hD6 := Lib.hid (hD5.out.fr hF hCB.out)
    have c := zResume _ C _ h
    rw [hr2.out] at c
    clear h hF hB4 hC5 hD5
    go_wp2_with fail
    refine c.mono ?_
    clear c
    rintro e w7 ⟨rfl, h, hF⟩
    have hB4 := hB3.trans (hF.below hB3.size hC1.out)
    have hD7 := Lib.hid (hD6.out.fr hF hCB.out)
    have hup7 : ({ d3 with S := List.replicate d3.S.length zero32, M := wiped d3.M, F := d3.F.set 1 true, lf := x } : Dv).dn = false := hup3.out
    have hst7 : zState { d3 with S := List.replicate d3.S.length zero32, M := wiped d3.M, F := d3.F.set 1 true, lf := x } = 2 := zState_two ((dBd_F (d := { d3 with F := d3.F.set 1 true }) rfl 1).trans (dBd_set_same d3 1 (by have := hlen3.out; omega)))
    have c1 := dUp _ C _ h
    rw [hup7] at c1
    have c2 := zState_c _ C _ h
    rw [hst7] at c2
    clear h hF hB3 hD6 hr2 hup7 hst7 hC1 hCB
    go_wp2_with fail
    refine c1.mono ?_
    clear c1
    rintro e w' ⟨rfl, rfl⟩
    go_wp2_with fail
    refine c2.mono ?_
    clear c2
    rintro e w' ⟨rfl, rfl⟩
    go_wp2_with fail
    obtain ⟨k, hk'⟩ : ∃ k : Nat, max 0 ((s : Int) + n + 2 - 1 - t) = (k : Int) := ⟨((s : Int) + n + 2 - 1 - t).toNat, by omega⟩
    obtain ⟨e, hres, hdn, hst⟩ := resume_fails hup3.out hs1.out (by have := hlen3.out; omega) k (by have := hlen3.out; omega)
    have ctr := dTrip _ B _ hD7.out (max 0 ((s : Int) + n + 2 - 1 - t)) (by omega)
    rw [hk'] at ctr
    rw [hk']
    have hres' := Lib.hid hres
    have hdn' := Lib.hid hdn
    have hst' := Lib.hid hst
    clear hk' hres hdn hst
    refine ctr.mono ?_
    clear ctr
    rintro e w8 ⟨rfl, h, hF⟩
    have hB3 := hB4.trans (hF.below hB4.size hA1.out)
    have c := zResume _ B _ h
    rw [hres'.out] at c
    clear h hF hB4 hD7
    go_wp2_with fail
    refine c.mono ?_
    clear c
    rintro e w9 ⟨rfl, h, hF⟩
    have hB4 := hB3.trans (hF.below hB3.size hA1.out)
    have hD9 := Lib.hid h
    clear h hF hB3
    go_wp2_with fail
    refine (zSanity _).mono ?_
    rintro e w10 ⟨rfl, hB⟩
    have hB5 := hB4.trans (hB.mono hB4.size)
    have c1 := dUp _ B _ (hD9.out.below hB)
    rw [hdn'.out] at c1
    have c2 := zState_c _ B _ (hD9.out.below hB)
    rw [hst'.out] at c2
    clear hB hB4 hD9
    go_wp2_with fail
    refine c1.mono ?_
    clear c1
    rintro e w' ⟨rfl, rfl⟩
    go_wp2_with fail
    refine c2.mono ?_
    clear c2
    rintro e w' ⟨rfl, rfl⟩
    go_wp2_with fail
    go_ret
    exact ⟨rfl, hB5⟩
  · rw [hb1] at c
    have hs2 := zState_two hb1
    clear hb1
    go_wp2_with fail
    refine c.mono ?_
    clear c
    rintro e w' ⟨rfl, rfl⟩
    have c' := Lib.hid (fun (W : World) (hW : Fr [] w2 W) => zStepsN W B _ (hD2.out.fr hW (by simp)))
    rw [show ((zSteps d2 : Nat) : Int) = 0 from by unfold zSteps; rw [if_neg (by rw [hs2]; decide)]; rfl] at c'
    clear hs2
    go_wp2_with fail
    refine (zSanity _).mono ?_
    rintro e w3 ⟨rfl, hB⟩
    have hB4 := hB3.trans (hB.mono hB3.size)
    have c := c'.out w3 (Fr.of_below hB)
    clear hB hB3 c'
    go_wp2_with fail
    refine c.mono ?_
    clear c
    rintro e w4 ⟨rfl, _, hF⟩
    have hB5 := hB4.trans (hF.below hB4.size hA1.out)
    clear hF hB4
    go_wp2_with fail
    go_ret
    exact ⟨rfl, hB5⟩

theorem lZSteps (w : World) (n s f : Int) (_hn : n ≤ 9223372036854775807) (hsz : s ≤ 9223372036854775807) (hfz : f ≤ 9223372036854775807) (v1 : Value) (ops1 : List DOp) (hs1 : DScrAt w w.heap.size v1 ops1) (t : Int) (h0 : -9223372036854775808 ≤ t) (ht : t ≤ 9223372036854775807) :
    Calls Try.prog 9 #[.agg #[.int .i64 n, .int .i64 s, .int .i64 f], v1, .int .i64 t] w fun e w' => e = .returned (.bool true) ∧ Below w.heap.size w w' := by
  by_cases h : fits n s f ops1.length
  · obtain ⟨n, s, f, rfl, rfl, rfl, k1, k2, k3, k4, k5, k6, k7⟩ := fits_nat h
    exact zSte_some w n s f t h0 ht v1 ops1 hs1 k1 k2 k3 k4 k5 k6 k7
  · exact zSte_nil w n s f t v1 (fun W hW => build_no W n s f v1 ops1.length hs1.len hsz hfz h)

end Go.Proofs.Ytogljlloobjeoaa
