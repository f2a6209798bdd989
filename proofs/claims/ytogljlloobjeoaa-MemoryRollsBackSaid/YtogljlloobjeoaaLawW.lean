/- MemoryWears, walked. -/
import Derived.Test.YtogljlloobjeoaaOne
namespace Go.Proofs.Ytogljlloobjeoaa
open Go.RowKit

/-! ### The plain law -/
/-- This sector is worn, and not dirty. -/
def Still (M : List Sec) (k : Nat) (x : Sec) : Prop := M[k]? = some x ∧ x.worn = true ∧ x.dirty = false
theorem Still.wr {M : List Sec} {k : Nat} {x : Sec} (h : Still M k x) (i : Int) (b : ByteArray) : Still (wrM M i b) k x := by
  refine ⟨?_, h.2⟩
  unfold wrM
  split
  · rw [updS_get]
    split
    · rw [h.1]; simp [Sec.put, h.2.1]
    · exact h.1
  · exact h.1
theorem Still.fl {M : List Sec} {k : Nat} {x : Sec} (h : Still M k x) : Still (flM M) k x := by
  refine ⟨?_, h.2⟩
  unfold flM
  rw [List.getElem?_map, h.1]; simp [h.2.2]
theorem Still.cut {M : List Sec} {k : Nat} {x : Sec} (h : Still M k x) (ps : List Int) : Still (cutM M ps) k x := by
  refine ⟨?_, h.2⟩
  rw [cutM_get, h.1]; simp [h.2.2]
/-- Of a script, what writes, flushes and cuts. -/
def playF (o : OpT) (s : St) : St := if o.kd = 1 ∨ o.kd = 2 ∨ o.kd = 3 then playS o s else s
def runF (ops : List OpT) (s : St) : St := ops.foldl (fun s o => playF o s) s
theorem runF_take_succ (ops : List OpT) (s : St) (j : Nat) (o : OpT) (h : ops[j]? = some o) : runF (ops.take (j + 1)) s = playF o (runF (ops.take j) s) := by
  unfold runF
  rw [List.take_add_one, h]
  simp
theorem playF_I (o : OpT) (s : St) : (playF o s).I.length ≤ s.I.length + 1 := by
  unfold playF
  split
  · exact playS_I o s
  · omega
theorem runF_I (ops : List OpT) (s : St) : (runF ops s).I.length ≤ s.I.length + ops.length := by
  unfold runF
  induction ops generalizing s with
  | nil => simp
  | cons o ops ih => have := ih (playF o s); have := playF_I o s; simp only [List.foldl_cons, List.length_cons]; omega
theorem playF_M (o : OpT) (s : St) : (playF o s).M.length = s.M.length := by
  unfold playF
  split
  · exact playS_M o s
  · rfl
theorem runF_M (ops : List OpT) (s : St) : (runF ops s).M.length = s.M.length := by
  unfold runF
  induction ops generalizing s with
  | nil => simp
  | cons o ops ih => simp only [List.foldl_cons]; rw [ih, playF_M]
theorem Still.play {s : St} {k : Nat} {x : Sec} (h : Still s.M k x) (o : OpT) : Still (playF o s).M k x := by
  unfold playF
  split
  · rename_i hk
    unfold playS
    rcases hk with hk | hk | hk
    · simp only [hk, if_true]; exact h.wr _ _
    · simp only [hk, if_true]; exact h.fl
    · simp only [hk, if_true]; exact h.cut _
  · exact h
theorem Still.run {ops : List OpT} {s : St} {k : Nat} {x : Sec} (h : Still s.M k x) : Still (runF ops s).M k x := by
  unfold runF
  induction ops generalizing s with
  | nil => exact h
  | cons o ops ih => simp only [List.foldl_cons]; exact ih (h.play o)
theorem fl_dirty {M : List Sec} {k : Nat} {x : Sec} (h : (flM M)[k]? = some x) : x.dirty = false := by
  unfold flM at h
  rw [List.getElem?_map] at h
  cases hM : M[k]? with
  | none => rw [hM] at h; simp at h
  | some y =>
    rw [hM] at h
    simp only [Option.map_some, Option.some.injEq] at h
    split at h
    · subst h; unfold Sec.settle; split <;> rfl
    · rename_i hd; subst h; simpa using hd
/-- Behind Flush and Wear the sector is still. -/
theorem Still.start (M : List Sec) (i : Int) (hi : isIn (flM M) i) : ∃ x, Still (weM (flM M) i) i.toNat x := by
  obtain ⟨h0, h1⟩ := hi
  have hlt : i.toNat < (flM M).length := by omega
  have hg : (flM M)[i.toNat]? = some (flM M)[i.toNat] := List.getElem?_eq_getElem hlt
  refine ⟨(flM M)[i.toNat].wear, ?_, rfl, by have := fl_dirty hg; exact this⟩
  unfold weM
  rw [if_pos ⟨h0, h1⟩, updS_get, if_pos rfl, hg]; rfl
theorem Still.read {M : List Sec} {i : Int} {x : Sec} (h : Still M i.toNat x) (hi : isIn M i) : rdT M i = x.now := by
  unfold rdT
  rw [if_pos hi, h.1]; simp [Sec.read, h.2.2]

/-! ### The walk -/
set_option maxRecDepth 100000 in
set_option maxHeartbeats 4000000 in
theorem wears_bad (w : World) (n : Int) (v1 v2 : Value) (ops more : List OpT) (hs : ScrAt w w.heap.size v1 ops) (hm : ScrAt w w.heap.size v2 more) (i : Int) (h : n < 1 ∨ 64 < n) :
    Calls Try.prog 6 #[.int .i64 n, v1, v2, .int .i64 i] w fun e w' => e = .returned (.bool true) ∧ Below w.heap.size w w' := by
  obtain ⟨a, cap, rfl, hcap, hmx, hx⟩ := hs
  obtain ⟨a2, cap2, rfl, hcap2, hmx2, hx2⟩ := hm
  clear hx hx2
  have hb := lPlayers_bad w n h
  clear h
  go_enter Try.func6, Try.ntmps6
  go_wp2_with fail
  refine hb.mono ?_
  rintro e w1 ⟨rfl, hB1⟩
  go_wp2_with fail
  refine (lSanity _).mono ?_
  rintro e w2 ⟨rfl, hB2⟩
  go_wp2
  go_ret
  exact ⟨rfl, hB1.trans (hB2.mono hB1.size)⟩

set_option maxRecDepth 100000 in
set_option maxHeartbeats 4000000 in
theorem wears_long (w : World) (n : Nat) (v1 v2 : Value) (ops more : List OpT) (hs : ScrAt w w.heap.size v1 ops) (hm : ScrAt w w.heap.size v2 more) (i : Int) (h1 : 1 ≤ n) (h2 : n ≤ 64) (h : 60 < ops.length ∨ 60 < more.length) :
    Calls Try.prog 6 #[.int .i64 n, v1, v2, .int .i64 i] w fun e w' => e = .returned (.bool true) ∧ Below w.heap.size w w' := by
  obtain ⟨a, cap, rfl, hcap, hmx, hx⟩ := hs
  obtain ⟨a2, cap2, rfl, hcap2, hmx2, hx2⟩ := hm
  clear hx hx2
  have hm1 : (ops.length : Int) ≤ 9223372036854775807 := by unfold maxLen at hmx; omega
  have hm2 : (more.length : Int) ≤ 9223372036854775807 := by unfold maxLen at hmx2; omega
  have hb := onePlayers w n h1 h2
  rcases Nat.lt_or_ge 60 ops.length with hl | hl
  · have hl' : (60 : Int) < (ops.length : Int) := by omega
    clear h
    go_enter Try.func6, Try.ntmps6
    go_wp2_with fail
    refine hb.mono ?_
    rintro e w1 ⟨p, pm, pb, q, rfl, hP, hB1⟩
    go_wp2_with fail
    refine (lSanity _).mono ?_
    rintro e w2 ⟨rfl, hB2⟩
    go_wp2
    go_ret
    exact ⟨rfl, hB1.trans (hB2.mono hB1.size)⟩
  · have hl' : (ops.length : Int) ≤ 60 := by omega
    have hl2 : (60 : Int) < (more.length : Int) := by omega
    clear h
    go_enter Try.func6, Try.ntmps6
    go_wp2_with fail
    refine hb.mono ?_
    rintro e w1 ⟨p, pm, pb, q, rfl, hP, hB1⟩
    go_wp2_with fail
    refine (lSanity _).mono ?_
    rintro e w2 ⟨rfl, hB2⟩
    go_wp2
    go_ret
    exact ⟨rfl, hB1.trans (hB2.mono hB1.size)⟩

set_option maxRecDepth 100000 in
set_option maxHeartbeats 4000000 in
theorem wears_ok (w : World) (n : Nat) (v1 v2 : Value) (ops more : List OpT) (hs : ScrAt w w.heap.size v1 ops) (hm : ScrAt w w.heap.size v2 more) (i : Int) (h1 : 1 ≤ n) (h2 : n ≤ 64) (hl : ops.length ≤ 60) (hl2 : more.length ≤ 60) :
    Calls Try.prog 6 #[.int .i64 n, v1, v2, .int .i64 i] w fun e w' => e = .returned (.bool true) ∧ Below w.heap.size w w' := by
  have hs' := Lib.hid hs
  have hm' := Lib.hid hm
  obtain ⟨a, cap, rfl, hcap, hmx, hx⟩ := hs
  obtain ⟨a2, cap2, rfl, hcap2, hmx2, hx2⟩ := hm
  clear hx hx2
  have hl' : (ops.length : Int) ≤ 60 := by omega
  have hl2' : (more.length : Int) ≤ 60 := by omega
  have hn' : (n : Int) ≤ 64 := by omega
  go_enter Try.func6, Try.ntmps6
  go_wp2_with fail
  refine (onePlayers _ n h1 h2).mono ?_
  rintro e w1 ⟨p, pm, pb, q, rfl, hP1, hB1⟩
  go_wp2_with fail
  have hz1 := hB1.size
  go_loopw [13, 42] (fun bx t wr => ∃ j : Nat, j ≤ ops.length ∧ t = .int .i64 (j : Int) ∧ One wr w.heap.size p pm pb (runS (ops.take j) ⟨newM n, []⟩) ∧ Below w.heap.size w wr) (fun _ t _ => ops.length - (intOf t).toNat)
  case atStart => exact ⟨0, Nat.zero_le _, rfl, hP1, hB1⟩
  case round =>
    obtain ⟨j, hj, rfl, hP, hB⟩ := hrel
    have hzB := hB.size
    by_cases hlt : j < ops.length
    · have hlti : (j : Int) < (ops.length : Int) := by omega
      obtain ⟨o, ho⟩ : ∃ o, ops[j]? = some o := ⟨ops[j], List.getElem?_eq_getElem hlt⟩
      have hsI : (runS (ops.take j) ⟨newM n, []⟩).I.length ≤ 4096 := by have := runS_I (ops.take j) ⟨newM n, []⟩; simp at this; omega
      have hT1 : runS (ops.take (j + 1)) ⟨newM n, []⟩ = playS o (runS (ops.take j) ⟨newM n, []⟩) := runS_take_succ _ _ _ _ ho
      generalize runS (ops.take j) ⟨newM n, []⟩ = s at *
      have hsx := hs'.out.below (Nat.le_refl _) hB
      obtain ⟨a', cap', e, -, -, hx⟩ := hsx
      injection e with e1 _ e3
      subst e1; subst e3
      obtain ⟨b, off, rfl, hbB, hop⟩ := hx (by omega)
      obtain ⟨pv, d0, d1, d2, d3, d4, hpv, hpl⟩ := hop j o ho
      have hbl : b < wr.heap.size := by omega
      obtain ⟨pa, pn, pc, rfl⟩ : ∃ a n c, pv = .slice a n c := by obtain ⟨a, c, h, _⟩ := hpv; exact ⟨_, _, _, h⟩
      clear hx hop ho hP1
      have hfa := (Fr.refl [] wr).alloc (.cells #[.int .i64 o.kd, .int .i64 o.i, .int .u8 o.f.toNat, .int .i64 o.sz, .slice pa pn pc] 37)
      have hpv' := Lib.hid (hpv.below (hfa.below hzB (by simp)))
      have hPa := Lib.hid (hP.fr hfa)
      have hBa := hB.trans (hfa.below hzB (by simp))
      clear hpv hfa hP hB
      go_wp2_with fail
      refine (onePlay _ w.heap.size p pm pb s hPa.out hsI o _ hpv'.out hpl hBa.size).mono ?_
      rintro e w2 ⟨rfl, hP2, hB2⟩
      have hB3 := hBa.trans hB2
      clear hPa hpv' hB2 hBa d0 d1 d2 d3 d4
      go_wp2
      go_roundw
      case rel => exact ⟨j + 1, by omega, by go_num, by rw [hT1]; exact hP2, hB3⟩
      case measure => simp [intOf]; omega
    · obtain rfl : j = ops.length := by omega
      rw [List.take_length] at hP
      have hsI : (runS ops ⟨newM n, []⟩).I.length ≤ 60 := by have := runS_I ops ⟨newM n, []⟩; simp at this; omega
      have hsM : (runS ops ⟨newM n, []⟩).M.length = n := by rw [runS_M]; simp [newM]
      generalize runS ops ⟨newM n, []⟩ = s at *
      have hc0 := hP.c0
      go_wp2_with fail
      refine (mFlush _ pm pb _ hP.mem hP.mlen hP.wf).mono ?_
      rintro e w2 ⟨rfl, hM2, hF2⟩
      have hP2 := hP.step hM2 hF2 (flM_WF hP.wf) (by rw [flM_length]; exact hP.mlen)
      have hkb : ∀ k ∈ [pb], w.heap.size ≤ k := by have := hP.lp; simp; omega
      have hB2 := hB.trans (hF2.below hzB hkb)
      have hc2 := hP2.c0
      clear hc0 hP hM2 hF2 hP1
      go_wp2_with fail
      refine (mWear _ pm pb _ hP2.mem hP2.mlen i).mono ?_
      rintro e w3 ⟨rfl, hM3, hF3⟩
      have hP3 := hP2.step hM3 hF3 (weM_WF hP2.wf i) (by rw [weM_length]; exact hP2.mlen)
      have hB3 := hB2.trans (hF3.below hB2.size hkb)
      have hc3 := hP3.c0
      clear hc2 hP2 hM3 hF3 hB2
      have hfn : (flM s.M).length = n := by rw [flM_length]; exact hsM
      have hkn : Hid (∀ k ∈ [pb], w.heap.size ≤ k) := hkb
      clear hkb
      by_cases hin : isIn (flM s.M) i
      · rw [show rdE ({ M := flM s.M, I := s.I } : St).M i = 0 from if_pos hin]
        obtain ⟨x, hst⟩ := Still.start s.M i hin
        have hst' := Lib.hid hst
        clear hst
        have hwn : (weM (flM s.M) i).length = n := by rw [weM_length]; exact hfn
        have hin3 : isIn (weM (flM s.M) i) i := by unfold isIn at hin ⊢; rw [hwn]; rw [hfn] at hin; exact hin
        have hrd := mRead w3 pm pb _ hP3.mem hP3.mlen i
        rw [show rdT ({ M := weM (flM s.M) i, I := s.I } : St).M i = x.now from hst'.out.read hin3, show rdE ({ M := weM (flM s.M) i, I := s.I } : St).M i = 0 from if_pos hin3] at hrd
        go_wp2_with fail
        refine hrd.mono ?_
        clear hrd
        rintro e w' ⟨rfl, rfl⟩
        go_wp2_with fail
        have hz3 := hB3.size
        go_loopw [18, 88] (fun bx t wr => ∃ j : Nat, j ≤ more.length ∧ t = .int .i64 (j : Int) ∧ One wr w.heap.size p pm pb (runF (more.take j) ⟨weM (flM s.M) i, s.I⟩) ∧ Below w.heap.size w wr) (fun _ t _ => more.length - (intOf t).toNat)
        case atStart => exact ⟨0, Nat.zero_le _, rfl, hP3, hB3⟩
        case round =>
          obtain ⟨j, hj, rfl, hP, hB⟩ := hrel
          have hzB := hB.size
          by_cases hlt : j < more.length
          · have hlti : (j : Int) < (more.length : Int) := by omega
            obtain ⟨o, ho⟩ : ∃ o, more[j]? = some o := ⟨more[j], List.getElem?_eq_getElem hlt⟩
            have hsI2 : (runF (more.take j) ⟨weM (flM s.M) i, s.I⟩).I.length ≤ 4096 := by have := runF_I (more.take j) ⟨weM (flM s.M) i, s.I⟩; simp at this; omega
            have hT1 : runF (more.take (j + 1)) ⟨weM (flM s.M) i, s.I⟩ = playF o (runF (more.take j) ⟨weM (flM s.M) i, s.I⟩) := runF_take_succ _ _ _ _ ho
            generalize runF (more.take j) ⟨weM (flM s.M) i, s.I⟩ = s2 at *
            have hsx := hm'.out.below (Nat.le_refl _) hB
            obtain ⟨a', cap', e, -, -, hx⟩ := hsx
            injection e with e1 _ e3
            subst e1; subst e3
            obtain ⟨b, off, rfl, hbB, hop⟩ := hx (by omega)
            obtain ⟨pv, d0, d1, d2, d3, d4, hpv, hpl⟩ := hop j o ho
            have hbl : b < wr.heap.size := by omega
            obtain ⟨pa, pn, pc, rfl⟩ : ∃ a n c, pv = .slice a n c := by obtain ⟨a, c, h, _⟩ := hpv; exact ⟨_, _, _, h⟩
            clear hx hop ho hP3
            have hfa := (Fr.refl [] wr).alloc (.cells #[.int .i64 o.kd, .int .i64 o.i, .int .u8 o.f.toNat, .int .i64 o.sz, .slice pa pn pc] 37)
            have hpv' := Lib.hid (hpv.below (hfa.below hzB (by simp)))
            have hPa := Lib.hid (hP.fr hfa)
            have hBa := hB.trans (hfa.below hzB (by simp))
            clear hpv hfa hP hB
            by_cases hk : o.kd = 1 ∨ o.kd = 2 ∨ o.kd = 3
            · have hF : playF o s2 = playS o s2 := if_pos hk
              have hk' := Lib.hid hk
              clear hk
              obtain ⟨kd, hkd⟩ : ∃ kd, kd = o.kd := ⟨_, rfl⟩
              have honeP := Lib.hid (onePlay _ w.heap.size p pm pb s2 hPa.out hsI2 o _ hpv'.out hpl hBa.size)
              rw [← hkd] at d0 hBa hPa hpv' honeP
              have hk2 := hk'.out
              rw [← hkd] at hk2
              clear hk' hkd hPa hpv'
              rcases hk2 with rfl | rfl | rfl
              all_goals
                go_wp2_with fail
                refine honeP.out.mono ?_
                rintro e w2 ⟨rfl, hP2, hB2⟩
                have hB3 := hBa.trans hB2
                clear hB2 hBa d0 d1 d2 d3 d4 honeP
                go_wp2
                go_roundw
                case rel => exact ⟨j + 1, by omega, by go_num, by rw [hT1, hF]; exact hP2, hB3⟩
                case measure => simp [intOf]; omega
            · have hF : playF o s2 = s2 := if_neg hk
              have n1 : ¬ o.kd = 1 := fun h => hk (.inl h)
              have n2 : ¬ o.kd = 2 := fun h => hk (.inr (.inl h))
              have n3 : ¬ o.kd = 3 := fun h => hk (.inr (.inr h))
              have m1 : (o.kd == 1) = false := by simpa using n1
              have m2 : (o.kd == 2) = false := by simpa using n2
              have m3 : (o.kd == 3) = false := by simpa using n3
              clear hk hpv'
              go_wp2_with fail
              go_roundw
              case rel => exact ⟨j + 1, by omega, by go_num, by rw [hT1, hF]; exact hPa.out, hBa⟩
              case measure => simp [intOf]; omega
          · obtain rfl : j = more.length := by omega
            rw [List.take_length] at hP
            have hst2 : Still (runF more ⟨weM (flM s.M) i, s.I⟩).M i.toNat x := Still.run hst'.out
            have hl3 : (runF more ⟨weM (flM s.M) i, s.I⟩).M.length = n := by rw [runF_M]; exact hwn
            have hin4 : isIn (runF more ⟨weM (flM s.M) i, s.I⟩).M i := by unfold isIn at hin3 ⊢; rw [hl3]; rw [hwn] at hin3; exact hin3
            have hrd := mRead wr pm pb _ hP.mem hP.mlen i
            rw [hst2.read hin4, show rdE (runF more ⟨weM (flM s.M) i, s.I⟩).M i = 0 from if_pos hin4] at hrd
            have hc4 := hP.c0
            clear hP hst2 hl3 hin4 hP3
            go_wp2_with fail
            refine hrd.mono ?_
            clear hrd
            rintro e w' ⟨rfl, rfl⟩
            go_wp2_with fail
            refine (lSanity _).mono ?_
            rintro e w4 ⟨rfl, hB4⟩
            go_wp2
            go_ret
            exact ⟨rfl, hB.trans (hB4.mono hzB)⟩
      · rw [show rdE ({ M := flM s.M, I := s.I } : St).M i = 1 from if_neg hin]
        have hout : i < 0 ∨ (n : Int) ≤ i := by
          unfold isIn at hin; rw [hfn] at hin; omega
        clear hP3 hc3 hin
        rcases Int.lt_or_le i 0 with hi | hi
        · clear hout
          go_wp2_with fail
          refine (lSanity _).mono ?_
          rintro e w4 ⟨rfl, hB4⟩
          go_wp2
          go_ret
          exact ⟨rfl, hB3.trans (hB4.mono hB3.size)⟩
        · have hi2 : (n : Int) ≤ i := by omega
          clear hout
          go_wp2_with fail
          refine (lSanity _).mono ?_
          rintro e w4 ⟨rfl, hB4⟩
          go_wp2
          go_ret
          exact ⟨rfl, hB3.trans (hB4.mono hB3.size)⟩

theorem lWears (w : World) (n : Int) (v1 : Value) (ops : List OpT) (hs : ScrAt w w.heap.size v1 ops) (v2 : Value) (more : List OpT) (hm : ScrAt w w.heap.size v2 more) (i : Int) :
    Calls Try.prog 6 #[.int .i64 n, v1, v2, .int .i64 i] w fun e w' => e = .returned (.bool true) ∧ Below w.heap.size w w' := by
  by_cases hbad : n < 1 ∨ 64 < n
  · exact wears_bad w n v1 v2 ops more hs hm i hbad
  · obtain ⟨k, rfl⟩ : ∃ k : Nat, n = (k : Int) := ⟨n.toNat, by omega⟩
    by_cases hlong : 60 < ops.length ∨ 60 < more.length
    · exact wears_long w k v1 v2 ops more hs hm i (by omega) (by omega) hlong
    · exact wears_ok w k v1 v2 ops more hs hm i (by omega) (by omega) (by omega) (by omega)

end Go.Proofs.Ytogljlloobjeoaa
