/- DeviceNeverGoesBack, walked. -/
import Derived.Test.YtogljlloobjeoaaDPre
namespace Go.Proofs.Ytogljlloobjeoaa
open Go.RowKit

set_option maxRecDepth 100000 in
set_option maxHeartbeats 1600000 in
theorem never_few (w : World) (n s f : Int) (v : Value) (ops : List DOp) (hs : DScrAt w w.heap.size v ops) (h : ¬ (n ≤ 12 ∧ ops.length ≤ 60)) :
    Calls Try.prog 11 #[.agg #[.int .i64 n, .int .i64 s, .int .i64 f], v] w fun e w' => e = .returned (.bool true) ∧ Below w.heap.size w w' := by
  obtain ⟨a, cap, rfl, hcap, hmx, hx⟩ := hs
  clear hx
  have hfew := fun W => dFew W n s f (.slice a ops.length cap) ops.length ⟨_, _, rfl⟩
  rw [decide_eq_false h] at hfew
  clear h
  go_enter Try.func11, Try.ntmps11
  go_wp2_with fail
  generalize hW : w.alloc (.cells #[.int .i64 n, .int .i64 s, .int .i64 f] 84) = W0
  have hB0 : Below w.heap.size w W0 := by rw [← hW]; exact (Below.refl _ _).alloc (Nat.le_refl _) _
  have hl0 : w.heap.size < W0.heap.size := by rw [← hW]; simp
  have q0 : W0.cell? ⟨w.heap.size, 0, none⟩ = some (.int .i64 n) := by rw [← hW]; simp
  have q1 : W0.cell? ⟨w.heap.size, 1, none⟩ = some (.int .i64 s) := by rw [← hW]; simp
  have q2 : W0.cell? ⟨w.heap.size, 2, none⟩ = some (.int .i64 f) := by rw [← hW]; simp
  clear hW
  refine (dSanity _).mono ?_
  rintro e w1 ⟨rfl, hB1⟩
  have r0 := (hB1.cell (p := ⟨w.heap.size, 0, none⟩) hl0).trans q0
  have r1 := (hB1.cell (p := ⟨w.heap.size, 1, none⟩) hl0).trans q1
  have r2 := (hB1.cell (p := ⟨w.heap.size, 2, none⟩) hl0).trans q2
  have hB2 := hB0.trans (hB1.mono hB0.size)
  clear q0 q1 q2 hB1 hB0
  go_wp2_with fail
  refine (hfew _).mono ?_
  rintro e w2 ⟨rfl, hB3⟩
  have hB4 := hB2.trans (hB3.mono hB2.size)
  clear hB2 hB3 hfew
  go_wp2
  go_ret
  exact ⟨rfl, hB4⟩

set_option maxRecDepth 100000 in
set_option maxHeartbeats 1600000 in
theorem never_bad (w : World) (n s f : Int) (v : Value) (ops : List DOp) (hs : DScrAt w w.heap.size v ops) (h : n ≤ 12 ∧ ops.length ≤ 60) (hsz : s ≤ 9223372036854775807) (hfz : f ≤ 9223372036854775807) (hbad : n < 1 ∨ 4096 < n ∨ s < 1 ∨ 16 < s ∨ f < 1 ∨ 16 < f) :
    Calls Try.prog 11 #[.agg #[.int .i64 n, .int .i64 s, .int .i64 f], v] w fun e w' => e = .returned (.bool true) ∧ Below w.heap.size w w' := by
  obtain ⟨a, cap, rfl, hcap, hmx, hx⟩ := hs
  clear hx
  have hfew := fun W => dFew W n s f (.slice a ops.length cap) ops.length ⟨_, _, rfl⟩
  rw [decide_eq_true h] at hfew
  have hnew := Lib.hid (fun W => dNew_bad W n s f hsz hfz hbad)
  clear h hbad
  go_enter Try.func11, Try.ntmps11
  go_wp2_with fail
  generalize hW : w.alloc (.cells #[.int .i64 n, .int .i64 s, .int .i64 f] 84) = W0
  have hB0 : Below w.heap.size w W0 := by rw [← hW]; exact (Below.refl _ _).alloc (Nat.le_refl _) _
  have hl0 : w.heap.size < W0.heap.size := by rw [← hW]; simp
  have q0 : W0.cell? ⟨w.heap.size, 0, none⟩ = some (.int .i64 n) := by rw [← hW]; simp
  have q1 : W0.cell? ⟨w.heap.size, 1, none⟩ = some (.int .i64 s) := by rw [← hW]; simp
  have q2 : W0.cell? ⟨w.heap.size, 2, none⟩ = some (.int .i64 f) := by rw [← hW]; simp
  clear hW
  refine (dSanity _).mono ?_
  rintro e w1 ⟨rfl, hB1⟩
  have r0 := (hB1.cell (p := ⟨w.heap.size, 0, none⟩) hl0).trans q0
  have r1 := (hB1.cell (p := ⟨w.heap.size, 1, none⟩) hl0).trans q1
  have r2 := (hB1.cell (p := ⟨w.heap.size, 2, none⟩) hl0).trans q2
  have hl1 : w.heap.size < w1.heap.size := by have := hB1.size; omega
  have hB2 := hB0.trans (hB1.mono hB0.size)
  clear q0 q1 q2 hB1 hB0 hl0
  go_wp2_with fail
  refine (hfew _).mono ?_
  rintro e w2 ⟨rfl, hB3⟩
  have q0 := (hB3.cell (p := ⟨w.heap.size, 0, none⟩) hl1).trans r0
  have q1 := (hB3.cell (p := ⟨w.heap.size, 1, none⟩) hl1).trans r1
  have q2 := (hB3.cell (p := ⟨w.heap.size, 2, none⟩) hl1).trans r2
  have hB4 := hB2.trans (hB3.mono hB2.size)
  clear hB2 hB3 hfew r0 r1 r2
  go_wp2_with fail
  refine (hnew.out _).mono ?_
  rintro e w3 ⟨rfl, hB5⟩
  have hB6 := hB4.trans (hB5.mono hB4.size)
  clear hB4 hB5
  go_wp2
  go_ret
  exact ⟨rfl, hB6⟩

set_option maxRecDepth 100000 in
set_option maxHeartbeats 4000000 in
theorem never_ok (w : World) (n s f : Nat) (v : Value) (ops : List DOp) (hs : DScrAt w w.heap.size v ops) (h : n ≤ 12 ∧ ops.length ≤ 60) (n0 : 1 ≤ n) (s0 : 1 ≤ s) (s1 : s ≤ 16) (f0 : 1 ≤ f) (f1 : f ≤ 16) :
    Calls Try.prog 11 #[.agg #[.int .i64 n, .int .i64 s, .int .i64 f], v] w fun e w' => e = .returned (.bool true) ∧ Below w.heap.size w w' := by
  obtain ⟨i1, hi', hz0', hz1', hz2'⟩ := info_parts infoBool
  have hs' := Lib.hid hs
  have hale := Lib.hid hs.a_le
  obtain ⟨a, cap, rfl, hcap, hmx, hx⟩ := hs
  clear hx
  have hfew := fun W => dFew W n s f (.slice a ops.length cap) ops.length ⟨_, _, rfl⟩
  rw [decide_eq_true (show (n : Int) ≤ 12 ∧ ops.length ≤ 60 by omega)] at hfew
  have hnew := Lib.hid (fun W => dNew_ok W n s f n0 (by omega) s0 s1 f0 f1)
  have hlen : (ops.length : Int) ≤ 60 := by omega
  have fi0 : (1 : Int) ≤ f := by omega
  have fi1 : (f : Int) ≤ 16 := by omega
  clear h
  go_enter Try.func11, Try.ntmps11
  go_wp2_with fail
  generalize hW : w.alloc (.cells #[.int .i64 n, .int .i64 s, .int .i64 f] 84) = W0
  have hB0 : Below w.heap.size w W0 := by rw [← hW]; exact (Below.refl _ _).alloc (Nat.le_refl _) _
  have hl0 : w.heap.size < W0.heap.size := by rw [← hW]; simp
  have q0 : W0.cell? ⟨w.heap.size, 0, none⟩ = some (.int .i64 n) := by rw [← hW]; simp
  have q1 : W0.cell? ⟨w.heap.size, 1, none⟩ = some (.int .i64 s) := by rw [← hW]; simp
  have q2 : W0.cell? ⟨w.heap.size, 2, none⟩ = some (.int .i64 f) := by rw [← hW]; simp
  clear hW
  refine (dSanity _).mono ?_
  rintro e w1 ⟨rfl, hB1⟩
  have r0 := (hB1.cell (p := ⟨w.heap.size, 0, none⟩) hl0).trans q0
  have r1 := (hB1.cell (p := ⟨w.heap.size, 1, none⟩) hl0).trans q1
  have r2 := (hB1.cell (p := ⟨w.heap.size, 2, none⟩) hl0).trans q2
  have hl1 : w.heap.size < w1.heap.size := by have := hB1.size; omega
  have hB2 := hB0.trans (hB1.mono hB0.size)
  clear q0 q1 q2 hB1 hB0 hl0
  go_wp2_with fail
  refine (hfew _).mono ?_
  rintro e w2 ⟨rfl, hB3⟩
  have q0 := (hB3.cell (p := ⟨w.heap.size, 0, none⟩) hl1).trans r0
  have q1 := (hB3.cell (p := ⟨w.heap.size, 1, none⟩) hl1).trans r1
  have q2 := (hB3.cell (p := ⟨w.heap.size, 2, none⟩) hl1).trans r2
  have hl2 : w.heap.size < w2.heap.size := by have := hB3.size; omega
  have hB4 := hB2.trans (hB3.mono hB2.size)
  clear hB2 hB3 hfew r0 r1 r2 hl1
  go_wp2_with fail
  refine (hnew.out _).mono ?_
  rintro e w3 ⟨B, rfl, hD3, hBa, hB5⟩
  have p2 := (hB5.cell (p := ⟨w.heap.size, 2, none⟩) hl2).trans q2
  have hl3 : w.heap.size < w3.heap.size := by have := hB5.size; omega
  have hB6 := hB4.trans (hB5.mono hB4.size)
  have hA : Hid (∀ k ∈ B.all, w.heap.size + 1 ≤ k) := fun k hk => by have := hBa k hk; omega
  have hst := At23.start (ops := ops) hD3
  clear q0 q1 q2 hB4 hB5 hnew hBa hl2 hD3
  go_wp2_with fail
  go_loopw [8, 9] (fun iv q wr => ∃ j : Nat, j ≤ ops.length ∧ q = .int .i64 (j : Int) ∧ At23 wr B ops (newD n s f, []) j iv ∧ Below w.heap.size w wr ∧ wr.cell? ⟨w.heap.size, 2, none⟩ = some (.int .i64 f)) (fun _ q _ => ops.length - (intOf q).toNat)
  case atStart => exact ⟨0, Nat.zero_le _, rfl, hst, hB6, p2⟩
  case round =>
    obtain ⟨j, hj, rfl, hT, hB, p2'⟩ := hrel
    clear hst p2 hB6
    by_cases hlt : j < ops.length
    · have hlti : (j : Int) < (ops.length : Int) := by omega
      obtain ⟨o, ho⟩ : ∃ o, ops[j]? = some o := ⟨ops[j], List.getElem?_eq_getElem hlt⟩
      have hT1 := Lib.hid (runD_take_succ ops (newD n s f, []) j o ho)
      have hfl := Lib.hid ((Keeps.run (ops.take j) (fun o ho => hale.out o (List.mem_of_mem_take ho)) (newD n s f, [])).f)
      obtain ⟨hD, him, hil⟩ := hT
      generalize runD (ops.take j) (newD n s f, []) = x at *
      obtain ⟨d, img⟩ := x
      have hfl2 : d.F.length = f := by have := hfl.out; simpa [newD] using this
      have hfl' := Lib.hid hfl2
      clear hfl hfl2
      have hD' := Lib.hid hD
      have him' := Lib.hid him
      have hdf : d.F.length ≤ 16 := by have := hfl'.out; omega
      have p2h := Lib.hid p2'
      go_wp2_with fail
      refine (dCounter _ B d hD).mono ?_
      rintro e w' ⟨rfl, rfl⟩
      go_wp2_with fail
      refine (dNow _ B d hD).mono ?_
      rintro e w' ⟨rfl, rfl⟩
      have ho' := Lib.hid ho
      clear hD him ho
      obtain ⟨wo, rfl⟩ : ∃ wo : World, wo = wr := ⟨_, rfl⟩
      have hBz := hB.size
      go_wp2_with fail
      go_loopw [12, 13] (fun v q wi => ∃ k : Nat, k ≤ f ∧ q = .int .i64 (k : Int) ∧ wi.ownsRow wo.heap.size 4 1 v (bools (d.F.take k)).length (bools (d.F.take k)) ∧ Below wo.heap.size wo wi) (fun _ q _ => f - (intOf q).toNat)
      case atStart => exact ⟨0, Nat.zero_le _, rfl, World.ownsRow_nil _ _ _ _, Below.refl _ _⟩
      case round =>
        obtain ⟨k, hk, rfl, hown, hBi⟩ := hrel
        have hBis := hBi.size
        have pi := (hBi.cell (p := ⟨w.heap.size, 2, none⟩) (World.block_lt_of_cell? _ _ p2h.out)).trans p2h.out
        clear p2'
        have hDi := hD'.out.below hBi
        by_cases hkl : k < f
        · have hkli : (k : Int) < (f : Int) := by omega
          have hkd : k < d.F.length := by have := hfl'.out; omega
          have hb := Lib.hid (dBd_get d k d.F[k] (List.getElem?_eq_getElem hkd))
          have hsu := Lib.hid (bools_succ d.F k hkd)
          have hle : (bools (d.F.take k)).length ≤ 16 := by simp [bools]; omega
          have cB := dBurned _ B d hDi k
          rw [hb.out] at cB
          clear hb hDi
          go_wp2_with fail
          refine cB.mono ?_
          clear cB
          rintro e w' ⟨rfl, rfl⟩
          go_wp2_with (at_builtin; refine wpList_append_own _ rfl _ _ 89 rfl wo.heap.size 4 i1 (.bool false) 1 1 Try.underlying89 hi' hz0' hz1' hz2' rfl (by decide) _ _ _ rfl (hown.alloc _) ⟨wr.heap.size, 0, none⟩ 1 1 [.bool d.F[k]] rfl rfl (cell_one _ _ _) (oneC_bool _) ?c3 ?c4 ?c5 ?_)
          case c3 => unfold maxLen; omega
          case c4 => omega
          case c5 => simp; omega
          intro v' w5 hown' hgrow _
          have hB' : Below wo.heap.size wo w5 := (hBi.alloc hBis _).grown hgrow (by simp; omega) (fun k hk => (hown.lt k hk).1)
          have hown2 : w5.ownsRow wo.heap.size 4 1 v' (bools (d.F.take (k + 1))).length (bools (d.F.take (k + 1))) := by rw [hsu.out]; simpa using hown'
          clear hown' hgrow hown hBi pi
          go_wp2
          go_roundw
          case rel => exact ⟨k + 1, by omega, by go_num, hown2, hB'⟩
          case measure => simp [intOf]; omega
        · obtain rfl : k = f := by omega
          rw [show d.F.take k = d.F from List.take_of_length_le (by have := hfl'.out; omega)] at hown
          have hlb : (bools d.F).length = k := by have := hfl'.out; simpa [bools] using this
          rw [hlb] at hown
          clear hlb
          have ho := ho'.out
          have hBw := hB.trans (hBi.mono hBz)
          obtain ⟨g, cp, rfl, hcp, hgb, hgl, hgc, hgz⟩ := row_of_own hown (by omega)
          obtain ⟨b, off, pv, rfl, hbP, g0, g1, g2, g3, g4, g5, hpv, hpl, hoa⟩ := hs'.out.get hBw ho
          obtain ⟨pa, pn, pc, rfl⟩ : ∃ a n c, pv = .slice a n c := by obtain ⟨a, c, h, _⟩ := hpv; exact ⟨_, _, _, h⟩
          have hgc' := Lib.hid hgc
          have hgz' := Lib.hid hgz
          have him2 := him'.out.fr (S := []) (Fr.of_below hBi) (by simp)
          obtain ⟨ia, ik, ic, rfl⟩ : ∃ a n c, u8 = .slice a n c := by obtain ⟨a, c, h, _⟩ := him2; exact ⟨_, _, _, h⟩
          have hoff : (b : Int) ≥ 0 := by omega
          clear hown hgc hgz
          go_wp2_with fail
          refine (ldo23 _ B d hDi o _ _ img (fun b => b < w.heap.size) hpv hpl (picks_ok hDi (fun k hk => by have := hA.out k hk; omega)) him2 hil hoa).mono ?_
          rintro e w5 ⟨iv', rfl, hD5, hF5, him5⟩
          have hal : ∀ q ∈ B.l, w.heap.size + 1 ≤ q := all_l hA.out
          have hB5 := hBw.trans (hF5.below hBw.size (fun q hq => by have := hal q hq; omega))
          have p5 := (hF5.cell (p := ⟨w.heap.size, 2, none⟩) (World.block_lt_of_cell? _ _ pi) (fun hm => by have : w.heap.size + 1 ≤ w.heap.size := hal _ hm; omega)).trans pi
          have hgn : g ∉ B.l := fun hm => by have h2 := hD'.out.all_lt g (B.l_all g hm); omega
          have hgc5 : Hid (∀ (m : Nat) x, (bools d.F)[m]? = some x → w5.cell? ⟨g, m, none⟩ = some x) := fun m x hm => (hF5.cell (p := ⟨g, m, none⟩) hgl hgn).trans (hgc'.out m x hm)
          have hgl5 : g < w5.heap.size := by have := hF5.size; omega
          have hup := Up2.do o img d
          have hk5 := Keeps.do o img d hoa
          have hD5' := Lib.hid hD5
          have him5' := Lib.hid him5
          have hil5 := doI_length o img d hil hDi.ok.m1
          clear hpv him2 hDi hgc' hgz' g0 g1 g2 g3 g4 g5 hD5 him5 hF5 hBi hB pi hgl
          obtain ⟨ja, jk, jc, rfl⟩ : ∃ a n c, iv' = .slice a n c := by obtain ⟨a, c, h, _⟩ := him5'.out; exact ⟨_, _, _, h⟩
          go_wp2_with fail
          generalize hW6 : w5.alloc (.cells #[.string (doT o d), .int .i64 (doE o img d)] 91) = W6
          have hF6 : Fr [] w5 W6 := by rw [← hW6]; exact (Fr.refl _ _).alloc _
          have p6 := (hF6.cell (p := ⟨w.heap.size, 2, none⟩) (World.block_lt_of_cell? _ _ p5) (by simp)).trans p5
          have hD6 := Lib.hid (hD5'.out.fr hF6 (by simp))
          have him6 := Lib.hid (him5'.out.fr hF6 (by simp))
          have hgc6 : Hid (∀ (m : Nat) x, (bools d.F)[m]? = some x → W6.cell? ⟨g, m, none⟩ = some x) := fun m x hm => (hF6.cell (p := ⟨g, m, none⟩) hgl5 (by simp)).trans (hgc5.out m x hm)
          have hB6 := hB5.trans (hF6.below hB5.size (by simp))
          have hup' := Lib.hid hup
          have hkf := Lib.hid hk5.f
          clear hW6 hF6 p5 hD5' him5' hgc5 hB5 hup hk5
          go_loop [16] (fun q => ∃ m : Nat, m ≤ k ∧ q = .int .i64 (m : Int)) (fun q => k - (intOf q).toNat)
          case atStart => exact ⟨0, Nat.zero_le _, rfl⟩
          case round =>
            obtain ⟨m, hm, rfl⟩ := hrel
            by_cases hml : m < k
            · have hmli : (m : Int) < (k : Int) := by omega
              have hmd : m < d.F.length := by have := hfl'.out; omega
              have hg6 := hgc6.out m (.bool d.F[m]) (by unfold bools; rw [List.getElem?_map, List.getElem?_eq_getElem hmd]; rfl)
              have hFm : d.F[m]? = some d.F[m] := List.getElem?_eq_getElem hmd
              cases hv : d.F[m]
              · rw [hv] at hg6
                clear hv hFm
                go_wp2_with fail
                go_round
                case rel => exact ⟨m + 1, by omega, by go_num⟩
                case measure => simp [intOf]; omega
              · rw [hv] at hg6 hFm
                have cB := dBurned _ B _ hD6.out m
                rw [dBd_get _ m true (hup'.out.f m hFm)] at cB
                clear hv hFm
                go_wp2_with fail
                refine cB.mono ?_
                clear cB
                rintro e w' ⟨rfl, rfl⟩
                go_wp2_with fail
                go_round
                case rel => exact ⟨m + 1, by omega, by go_num⟩
                case measure => simp [intOf]; omega
            · obtain rfl : m = k := by omega
              have c1 := dCounter _ B _ hD6.out
              have c2 := dNow _ B _ hD6.out
              have u1 := hup'.out.cnt
              have u2 := hup'.out.clk
              have hT2 : At23 W6 B ops (newD n s m, []) (j + 1) (.slice ja jk jc) := by
                have e := hT1.out
                exact ⟨by rw [e]; exact hD6.out, by rw [e]; exact him6.out, by rw [e]; exact hil5⟩
              have hT2' := Lib.hid hT2
              clear hT2 hD6 him6 hgc6
              go_wp2_with fail
              refine c1.mono ?_
              rintro e w' ⟨rfl, rfl⟩
              go_wp2_with fail
              refine c2.mono ?_
              rintro e w' ⟨rfl, rfl⟩
              clear c1 c2
              go_wp2_with fail
              go_roundw
              case rel => exact ⟨j + 1, by omega, by go_num, hT2'.out, hB6, p6⟩
              case measure => simp [intOf]; omega
    · clear p2' hT
      go_wp2
      go_ret
      exact ⟨rfl, hB⟩

theorem lNever (w : World) (n s f : Int) (_hn : n ≤ 9223372036854775807) (hsz : s ≤ 9223372036854775807) (hfz : f ≤ 9223372036854775807) (v : Value) (ops : List DOp) (hs : DScrAt w w.heap.size v ops) :
    Calls Try.prog 11 #[.agg #[.int .i64 n, .int .i64 s, .int .i64 f], v] w fun e w' => e = .returned (.bool true) ∧ Below w.heap.size w w' := by
  by_cases h : n ≤ 12 ∧ ops.length ≤ 60
  · by_cases hbad : n < 1 ∨ 4096 < n ∨ s < 1 ∨ 16 < s ∨ f < 1 ∨ 16 < f
    · exact never_bad w n s f v ops hs h hsz hfz hbad
    · obtain ⟨n', rfl⟩ : ∃ k : Nat, n = (k : Int) := ⟨n.toNat, by omega⟩
      obtain ⟨s', rfl⟩ : ∃ k : Nat, s = (k : Int) := ⟨s.toNat, by omega⟩
      obtain ⟨f', rfl⟩ : ∃ k : Nat, f = (k : Int) := ⟨f.toNat, by omega⟩
      exact never_ok w n' s' f' v ops hs (by omega) (by omega) (by omega) (by omega) (by omega) (by omega)
  · exact never_few w n s f v ops hs h

end Go.Proofs.Ytogljlloobjeoaa
