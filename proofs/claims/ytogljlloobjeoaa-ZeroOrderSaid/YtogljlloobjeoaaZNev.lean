/- ZeroNeverBack, walked. -/
import Derived.Test.YtogljlloobjeoaaZBui
namespace Go.Proofs.Ytogljlloobjeoaa
open Go.RowKit
set_option linter.unusedSimpArgs false

/-! ### The state never goes back -/
theorem Up2.z (d : Dv) (o : ZOp) : Up2 d (zD d o) := by
  cases o with
  | st i => show Up2 d (dSt d i zero32); unfold dSt; exact Up2.stp fun _ => ⟨Int.le_refl _, Int.le_refl _, fun _ h => h⟩
  | wr i => show Up2 d (dWr d i zero64); unfold dWr; exact Up2.stp fun _ => Up2.mem _ _
  | fl => show Up2 d (dFl d); unfold dFl; exact Up2.stp fun _ => Up2.mem _ _
  | bu => show Up2 d (dBu d 1); unfold dBu; exact Up2.stp fun _ => Up2.fuse _ _
theorem Up2.runZ (l : List ZOp) : ∀ d, Up2 d (runZ l d).2 := by
  induction l with
  | nil => exact fun d => Up2.refl d
  | cons o l ih =>
    intro d
    unfold Go.Proofs.Ytogljlloobjeoaa.runZ
    split
    · exact (Up2.z d o).trans (ih _)
    · exact Up2.z d o
theorem Up2.resume (d : Dv) : Up2 d (resume d).2 := by
  unfold Go.Proofs.Ytogljlloobjeoaa.resume
  split
  · exact Up2.refl d
  · split
    · exact Up2.refl d
    · exact Up2.runZ _ d
theorem Up2.burn (d : Dv) (i : Int) : Up2 d (dBu d i) := Up2.stp fun _ => Up2.fuse _ _
theorem Up2.beginZ (d : Dv) : Up2 d (beginZ d).2 := by
  unfold Go.Proofs.Ytogljlloobjeoaa.beginZ
  split
  · exact (Up2.burn d 0).trans (Up2.resume _)
  · exact Up2.burn d 0
theorem dBd_true (d : Dv) (k : Nat) : dBd d (k : Int) = true ↔ d.F[k]? = some true := by
  constructor
  · intro h
    unfold dBd at h
    split at h
    · rw [Int.toNat_natCast] at h
      cases hF : d.F[k]? with
      | none => rw [hF] at h; cases h
      | some b => rw [hF] at h; cases b with
        | true => rfl
        | false => cases h
    · cases h
  · exact dBd_get d k true
theorem Up2.state {d e : Dv} (h : Up2 d e) : zState d ≤ zState e := by
  have k0 : dBd d 0 = true → dBd e 0 = true := fun hb => (dBd_true e 0).2 (h.f 0 ((dBd_true d 0).1 hb))
  have k1 : dBd d 1 = true → dBd e 1 = true := fun hb => (dBd_true e 1).2 (h.f 1 ((dBd_true d 1).1 hb))
  unfold zState
  by_cases h1 : dBd d 1 = true
  · rw [if_pos h1, if_pos (k1 h1)]; omega
  · rw [if_neg h1]
    by_cases h0 : dBd d 0 = true
    · rw [if_pos h0]
      split
      · omega
      · rw [if_pos (k0 h0)]; omega
    · rw [if_neg h0]
      split
      · omega
      · split <;> omega

/-! ### The walk -/
set_option maxRecDepth 100000 in
set_option maxHeartbeats 1600000 in
theorem zNev_nil (w : World) (n s f t : Int) (v1 v2 : Value) (k2 : Nat) (hv2 : ∃ a c, v2 = .slice a k2 c)
    (hb : ∀ W : World, Below w.heap.size w W → Calls Try.prog 34 #[.agg #[.int .i64 n, .int .i64 s, .int .i64 f], v1] W fun e w' => e = .returned (.pointer none) ∧ Below W.heap.size W w') :
    Calls Try.prog 17 #[.agg #[.int .i64 n, .int .i64 s, .int .i64 f], v1, .int .i64 t, v2] w fun e w' => e = .returned (.bool true) ∧ Below w.heap.size w w' := by
  obtain ⟨a2, c2, rfl⟩ := hv2
  have hb' := Lib.hid hb
  clear hb
  go_enter Try.func17, Try.ntmps17
  go_wp2_with fail
  have hB0 := (Below.refl w.heap.size w).alloc (Nat.le_refl _) (.cells #[.int .i64 n, .int .i64 s, .int .i64 f] 61)
  refine (hb'.out _ hB0).mono ?_
  rintro e w1 ⟨rfl, hB1⟩
  have hB2 := hB0.trans (hB1.mono hB0.size)
  clear hB0 hB1 hb'
  go_wp2_with fail
  refine (zSanity _).mono ?_
  rintro e w2 ⟨rfl, hB3⟩
  have hB4 := hB2.trans (hB3.mono hB2.size)
  clear hB2 hB3
  go_wp2_with fail
  go_ret
  exact ⟨rfl, hB4⟩

set_option maxRecDepth 100000 in
set_option maxHeartbeats 1600000 in
theorem zNev_long (w : World) (n s f : Nat) (t : Int) (v1 v2 : Value) (ops : List DOp) (k2 : Nat) (hv2 : ∃ a c, v2 = .slice a k2 c) (h2 : (40 : Int) < k2) (hs : DScrAt w w.heap.size v1 ops) (n0 : 1 ≤ n) (n1 : n ≤ 12) (hk : ops.length ≤ 40) (s0 : 1 ≤ s) (s1 : s ≤ 16) (f0 : 1 ≤ f) (f1 : f ≤ 16) :
    Calls Try.prog 17 #[.agg #[.int .i64 n, .int .i64 s, .int .i64 f], v1, .int .i64 t, v2] w fun e w' => e = .returned (.bool true) ∧ Below w.heap.size w w' := by
  obtain ⟨a2, c2, rfl⟩ := hv2
  have hb' := Lib.hid (fun (W : World) (hW : Below w.heap.size w W) => build_ok W n s f v1 ops _ (hs.below hW) hW.size n0 n1 hk s0 s1 f0 f1)
  clear hs
  go_enter Try.func17, Try.ntmps17
  go_wp2_with fail
  have hB0 := (Below.refl w.heap.size w).alloc (Nat.le_refl _) (.cells #[.int .i64 n, .int .i64 s, .int .i64 f] 61)
  refine (hb'.out _ hB0).mono ?_
  rintro e w1 ⟨B, rfl, _, _, hB1⟩
  have hB2 := hB0.trans (hB1.mono hB0.size)
  clear hB0 hB1 hb'
  go_wp2_with fail
  refine (zSanity _).mono ?_
  rintro e w2 ⟨rfl, hB3⟩
  have hB4 := hB2.trans (hB3.mono hB2.size)
  clear hB2 hB3
  go_wp2_with fail
  go_ret
  exact ⟨rfl, hB4⟩

set_option maxRecDepth 100000 in
set_option maxHeartbeats 4000000 in
theorem zNev_ok (w : World) (n s f : Nat) (t : Int) (ht : t ≤ 9223372036854775807) (v1 v2 : Value) (ops ops2 : List DOp) (hs2 : DScrAt w w.heap.size v2 ops2) (h2 : ops2.length ≤ 40) (hs : DScrAt w w.heap.size v1 ops) (n0 : 1 ≤ n) (n1 : n ≤ 12) (hk : ops.length ≤ 40) (s0 : 1 ≤ s) (s1 : s ≤ 16) (f0 : 1 ≤ f) (f1 : f ≤ 16) :
    Calls Try.prog 17 #[.agg #[.int .i64 n, .int .i64 s, .int .i64 f], v1, .int .i64 t, v2] w fun e w' => e = .returned (.bool true) ∧ Below w.heap.size w w' := by
  have hb' := Lib.hid (fun (W : World) (hW : Below w.heap.size w W) => build_ok W n s f v1 ops _ (hs.below hW) hW.size n0 n1 hk s0 s1 f0 f1)
  have hs' := Lib.hid hs2
  obtain ⟨a, cap, rfl, hcap, hmx, hx⟩ := hs2
  clear hs hx
  have hlen : (ops2.length : Int) ≤ 40 := by omega
  go_enter Try.func17, Try.ntmps17
  go_wp2_with fail
  have hB0 := (Below.refl w.heap.size w).alloc (Nat.le_refl _) (.cells #[.int .i64 n, .int .i64 s, .int .i64 f] 61)
  refine (hb'.out _ hB0).mono ?_
  rintro e w1 ⟨B, rfl, hD, hBa, hB1⟩
  have hB2 := hB0.trans (hB1.mono hB0.size)
  have hA : Hid (∀ k ∈ B.all, w.heap.size ≤ k) := fun k hk => by have := hBa k hk; simp at this; omega
  have hD1 := Lib.hid hD
  clear hB0 hB1 hb' hBa hD
  go_wp2_with fail
  refine (dTrip _ B _ hD1.out t ht).mono ?_
  rintro e w2 ⟨rfl, h, hF⟩
  have hD2 := Lib.hid h
  have hB3 := hB2.trans (hF.below hB2.size (all_l hA.out))
  clear h hF hD1 hB2
  go_wp2_with fail
  refine (zBegin _ B _ hD2.out).mono ?_
  rintro e w3 ⟨rfl, h, hF⟩
  have hD3 := Lib.hid h
  have hB4 := hB3.trans (hF.below hB3.size (all_l hA.out))
  clear h hF hD2 hB3
  go_wp2_with fail
  refine (zState_c _ B _ hD3.out).mono ?_
  rintro e w' ⟨rfl, rfl⟩
  generalize (beginZ (dTr (runD ops (newD n s f, [])).1 t)).2 = d3 at *
  have hst := Lib.hid (DI.start hD3.out)
  clear hD3
  go_wp2_with fail
  go_loopw [10, 11, 12] (fun z iv q wr => ∃ (j : Nat) (x : Dv × List ByteArray), j ≤ ops2.length ∧ q = .int .i64 (j : Int) ∧ z = .int .i64 (zState x.1) ∧ DI wr B x iv ∧ Below w.heap.size w wr) (fun _ _ q _ => ops2.length - (intOf q).toNat)
  case atStart => exact ⟨0, _, Nat.zero_le _, rfl, rfl, hst.out, hB4⟩
  case round =>
    obtain ⟨j, x, hj, rfl, rfl, hT, hB⟩ := hrel
    clear hst hB4
    by_cases hlt : j < ops2.length
    · have hlti : (j : Int) < (ops2.length : Int) := by omega
      obtain ⟨o, ho⟩ : ∃ o, ops2[j]? = some o := ⟨ops2[j], List.getElem?_eq_getElem hlt⟩
      obtain ⟨b, off, pv, rfl, hbP, g0, g1, g2, g3, g4, g5, hpv, hpl, hoa⟩ := hs'.out.get hB ho
      obtain ⟨pa, pn, pc, rfl⟩ : ∃ a n c, pv = .slice a n c := by obtain ⟨a, c, h, _⟩ := hpv; exact ⟨_, _, _, h⟩
      obtain ⟨ia, ik, ic, rfl⟩ := hT.slice
      have hc := Lib.hid (hT.do (P := w.heap.size) hA.out o _ hpv hpl hoa)
      have hup := (Up2.do o x.2 x.1)
      clear hT hpv hpl hoa ho
      go_wp2_with fail
      refine hc.out.mono ?_
      rintro e w5 ⟨iv', rfl, hT5, hF5⟩
      have hB5 := hB.trans (hF5.below hB.size (all_l hA.out))
      obtain ⟨ja, jk, jc, rfl⟩ := hT5.slice
      generalize doD o x.2 x.1 = d5 at *
      generalize doI o x.2 x.1 = img5 at *
      have hT5' := Lib.hid hT5
      have hup' := Lib.hid hup
      clear hT5 hc hB g0 g1 g2 g3 g4 g5 hF5 hup
      by_cases h3 : j % 3 = 0
      · have h3i : ((j : Int) % 3) = 0 := by omega
        go_wp2_with fail
        refine (zResume _ B _ hT5'.out.dev).mono ?_
        rintro e w6 ⟨rfl, hD6, hF6⟩
        have hT6 := Lib.hid (hT5'.out.op hD6 hF6)
        have hB6 := hB5.trans (hF6.below hB5.size (all_l hA.out))
        have hle := (hup'.out.trans (Up2.resume d5)).state
        clear hT5' hB5 hD6 hF6 hup'
        go_wp2_with fail
        refine (zState_c _ B _ hT6.out.dev).mono ?_
        rintro e w' ⟨rfl, rfl⟩
        go_wp2_with fail
        go_roundw
        case rel => exact ⟨j + 1, _, by omega, by go_num, rfl, hT6.out, hB6⟩
        case measure => simp [intOf]; omega
      · have h3i : ((j : Int) % 3 == 0) = false := by simp; omega
        go_wp2_with fail
        refine (zState_c _ B _ hT5'.out.dev).mono ?_
        rintro e w' ⟨rfl, rfl⟩
        have hle := hup'.out.state
        clear hup'
        go_wp2_with fail
        go_roundw
        case rel => exact ⟨j + 1, _, by omega, by go_num, rfl, hT5'.out, hB5⟩
        case measure => simp [intOf]; omega
    · clear hT
      go_wp2_with fail
      refine (zSanity _).mono ?_
      rintro e w6 ⟨rfl, hB3⟩
      have hB4 := hB.trans (hB3.mono hB.size)
      clear hB hB3
      go_wp2_with fail
      go_ret
      exact ⟨rfl, hB4⟩

theorem lZNever (w : World) (n s f : Int) (_hn : n ≤ 9223372036854775807) (hsz : s ≤ 9223372036854775807) (hfz : f ≤ 9223372036854775807) (v1 : Value) (ops1 : List DOp) (hs1 : DScrAt w w.heap.size v1 ops1) (t : Int) (_h0 : -9223372036854775808 ≤ t) (ht : t ≤ 9223372036854775807) (v2 : Value) (ops2 : List DOp) (hs2 : DScrAt w w.heap.size v2 ops2) :
    Calls Try.prog 17 #[.agg #[.int .i64 n, .int .i64 s, .int .i64 f], v1, .int .i64 t, v2] w fun e w' => e = .returned (.bool true) ∧ Below w.heap.size w w' := by
  by_cases h : fits n s f ops1.length
  · obtain ⟨n, s, f, rfl, rfl, rfl, k1, k2, k3, k4, k5, k6, k7⟩ := fits_nat h
    by_cases h2 : ops2.length ≤ 40
    · exact zNev_ok w n s f t ht v1 v2 ops1 ops2 hs2 h2 hs1 k1 k2 k3 k4 k5 k6 k7
    · exact zNev_long w n s f t v1 v2 ops1 ops2.length hs2.len (by omega) hs1 k1 k2 k3 k4 k5 k6 k7
  · exact zNev_nil w n s f t v1 v2 ops2.length hs2.len (fun W hW => build_no W n s f v1 ops1.length hs1.len hsz hfz h)

end Go.Proofs.Ytogljlloobjeoaa
