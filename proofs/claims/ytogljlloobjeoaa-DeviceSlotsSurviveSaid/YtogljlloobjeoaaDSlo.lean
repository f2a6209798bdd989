/- DeviceSlotsSurvive, walked. -/
import Derived.Test.YtogljlloobjeoaaDPre
import Derived.Test.YtogljlloobjeoaaEmp
import Derived.BigQuiet
namespace Go.Proofs.Ytogljlloobjeoaa
open Go.RowKit
set_option linter.unusedSimpArgs false

/-- What an operation makes of the slots. -/
theorem doS_other (o : DOp) (img : List ByteArray) (d : Dv) (h5 : ¬ o.kd = 5) (h11 : ¬ o.kd = 11) : (doD o img d).S = d.S := by
  have stp : ∀ c g, (g d.less).S = d.S → (stpD d c g).S = d.S := fun c g h => by
    unfold stpD
    split
    · rfl
    · split
      · rfl
      · split
        · rfl
        · exact h
  unfold doD
  rw [if_neg h5, if_neg h11]
  by_cases h2 : o.kd = 2
  · rw [if_pos h2]; exact stp _ _ rfl
  rw [if_neg h2]
  by_cases h3 : o.kd = 3
  · rw [if_pos h3]; exact stp _ _ rfl
  rw [if_neg h3]
  by_cases h6 : o.kd = 6
  · rw [if_pos h6]; exact stp _ _ rfl
  rw [if_neg h6]
  by_cases h7 : o.kd = 7
  · rw [if_pos h7]; exact stp _ _ rfl
  rw [if_neg h7]
  by_cases h8 : o.kd = 8
  · rw [if_pos h8]; unfold dTi; split <;> rfl
  rw [if_neg h8]
  (repeat' split) <;> rfl
theorem doS_store (o : DOp) (img : List ByteArray) (d : Dv) (h5 : o.kd = 5) (hE : doE o img d = 0) : (doD o img d).S = d.S.set o.a.toNat (dtext o.fill o.short 32) ∧ 0 ≤ o.a ∧ o.a < (d.S.length : Int) := by
  have e : doE o img d = stpE d (slC d o.a (dtext o.fill o.short 32)) := by simp [doE, h5]
  have e2 : doD o img d = dSt d o.a (dtext o.fill o.short 32) := by simp [doD, h5]
  rw [e] at hE
  rw [e2]
  unfold stpE at hE
  unfold dSt stpD
  by_cases h1 : d.dn = true
  · rw [if_pos h1] at hE; cases hE
  · rw [if_neg h1] at hE ⊢
    by_cases h2 : slC d o.a (dtext o.fill o.short 32) ≠ 0
    · rw [if_pos h2] at hE; exact absurd hE h2
    · rw [if_neg h2] at hE ⊢
      by_cases h3 : d.lf = 0
      · rw [if_pos h3] at hE; cases hE
      · rw [if_neg h3]
        have h4 : slC d o.a (dtext o.fill o.short 32) = 0 := by omega
        unfold slC at h4
        split at h4
        · rename_i hc; exact ⟨rfl, hc.1⟩
        · cases h4
theorem doS_fail (o : DOp) (img : List ByteArray) (d : Dv) (h5 : o.kd = 5) (hE : ¬ doE o img d = 0) : (doD o img d).S = d.S := by
  have e : doE o img d = stpE d (slC d o.a (dtext o.fill o.short 32)) := by simp [doE, h5]
  have e2 : doD o img d = dSt d o.a (dtext o.fill o.short 32) := by simp [doD, h5]
  rw [e] at hE
  rw [e2]
  unfold stpE at hE
  unfold dSt stpD
  by_cases h1 : d.dn = true
  · rw [if_pos h1]
  · rw [if_neg h1] at hE ⊢
    by_cases h2 : slC d o.a (dtext o.fill o.short 32) ≠ 0
    · rw [if_pos h2]
    · rw [if_neg h2] at hE ⊢
      by_cases h3 : d.lf = 0
      · rw [if_pos h3]
      · rw [if_neg h3] at hE; exact absurd rfl hE
theorem doS_bat (o : DOp) (img : List ByteArray) (d : Dv) (h11 : o.kd = 11) : (doD o img d).S = List.replicate d.S.length zero32 := by simp [doD, h11, dBa]

/-- The script has been played to operation j; the last image lies where ok says. -/
structure At23o (ok : Nat → Prop) (wr : World) (B : DB) (ops : List DOp) (x0 : Dv × List ByteArray) (j : Nat) (iv : Value) : Prop where
  dev : DevAt wr B (runD (ops.take j) x0).1
  img : SlAt wr ok iv (strs (runD (ops.take j) x0).2)
  il : (runD (ops.take j) x0).2.length ≤ 4096
theorem At23o.start {ok : Nat → Prop} {wr : World} {B : DB} {ops : List DOp} {d : Dv} (h : DevAt wr B d) : At23o ok wr B ops (d, []) 0 (.slice none 0 0) := ⟨h, SlAt.nil _ _, Nat.zero_le _⟩
/-- The next operation has been played; a block apart from the device may have turned. -/
theorem at23next {ok : Nat → Prop} {w8 wx : World} {B : DB} {ops : List DOp} {x0 : Dv × List ByteArray} {k g : Nat} {d' : Dv} {img' : List ByteArray} {iv : Value} (hT : runD (ops.take (k + 1)) x0 = (d', img')) (hD : DevAt w8 B d') (him : SlAt w8 ok iv (strs img')) (hil : img'.length ≤ 4096)
    (hF : Fr [g] w8 wx) (hg : g ∉ B.all) (hok : ∀ b, ok b → b ≠ g) : At23o ok wx B ops x0 (k + 1) iv :=
  ⟨by rw [hT]; exact hD.fr hF (by simpa using hg), by rw [hT]; exact him.fr hF (fun b hb => by simpa using hok b hb), by rw [hT]; exact hil⟩
/-- A row of texts, written to. -/
structure WantAt (w : World) (g : Nat) (S : List ByteArray) : Prop where
  c : ∀ (j : Nat) x, (strs S)[j]? = some x → w.cell? ⟨g, j, none⟩ = some x
  z : ∀ o, w.frozen? ⟨g, o, none⟩ = false
  lt : g < w.heap.size
theorem WantAt.fr {w w' : World} {g : Nat} {S : List ByteArray} {L : List Nat} (h : WantAt w g S) (hf : Fr L w w') (hn : g ∉ L) : WantAt w' g S :=
  ⟨fun j x hj => (hf.cell (p := ⟨g, j, none⟩) h.lt hn).trans (h.c j x hj), fun o => (hf.frozen (p := ⟨g, o, none⟩) h.lt hn).trans (h.z o), Nat.lt_of_lt_of_le h.lt hf.size⟩
theorem WantAt.set {w : World} {g : Nat} {S : List ByteArray} (h : WantAt w g S) (i : Nat) (x : ByteArray) : WantAt (w.setCell ⟨g, i, none⟩ (.string x)) g (S.set i x) := by
  refine ⟨?_, fun o => (World.frozen?_setCell _ _ _ _).trans (h.z o), by simpa [World.setCell] using h.lt⟩
  rw [show strs (S.set i x) = (strs S).set i (.string x) from by simp [strs, List.map_set]]
  exact set_cellsAt h.c
theorem WantAt.get {w : World} {g : Nat} {S : List ByteArray} (h : WantAt w g S) {i : Nat} (hi : i < S.length) : w.cell? ⟨g, i, none⟩ = some (.string S[i]) :=
  h.c i _ (by simp [strs, hi])
def fillL (S : List ByteArray) (j : Nat) : List ByteArray := List.replicate j zero32 ++ S.drop j
theorem fillL_succ (S : List ByteArray) (j : Nat) (h : j < S.length) : fillL S (j + 1) = (fillL S j).set j zero32 := by
  have := congrArg Dv.S (batD_succ { M := [], S := S, F := [], cnt := 0, clk := 0, dn := false, lf := 0 } j h)
  exact this
theorem fillL_length (S : List ByteArray) (j : Nat) (h : j ≤ S.length) : (fillL S j).length = S.length := by simp [fillL]; omega
theorem fillL_zero (S : List ByteArray) : fillL S 0 = S := by simp [fillL]
theorem fillL_all (S : List ByteArray) : fillL S S.length = List.replicate S.length zero32 := by simp [fillL]

set_option maxRecDepth 100000 in
set_option maxHeartbeats 4000000 in
theorem slots_few (w : World) (n s f : Int) (v : Value) (ops : List DOp) (hs : DScrAt w w.heap.size v ops) (h : ¬ (n ≤ 12 ∧ ops.length ≤ 60)) :
    Calls Try.prog 12 #[.agg #[.int .i64 n, .int .i64 s, .int .i64 f], v] w fun e w' => e = .returned (.bool true) ∧ Below w.heap.size w w' := by
  obtain ⟨a, cap, rfl, hcap, hmx, hx⟩ := hs
  clear hx
  have hfew := fun W => dFew W n s f (.slice a ops.length cap) ops.length ⟨_, _, rfl⟩
  rw [decide_eq_false h] at hfew
  clear h
  go_enter Try.func12, Try.ntmps12
  go_wp2_with fail
  generalize hW : w.alloc (.cells #[.int .i64 n, .int .i64 s, .int .i64 f] 84) = W0
  have hB0 : Below w.heap.size w W0 := by rw [← hW]; exact (Below.refl _ _).alloc (Nat.le_refl _) _
  have hl0 : w.heap.size < W0.heap.size := by rw [← hW]; simp
  have q0 : W0.cell? ⟨w.heap.size, 0, none⟩ = some (.int .i64 n) := by rw [← hW]; simp
  have q1 : W0.cell? ⟨w.heap.size, 1, none⟩ = some (.int .i64 s) := by rw [← hW]; simp
  have q2 : W0.cell? ⟨w.heap.size, 2, none⟩ = some (.int .i64 f) := by rw [← hW]; simp
  clear hW
  refine (dSanity _).mono ?_
  rintro e w1 ⟨rfl, hB1⟩
  have r0 := (hB1.cell (p := ⟨w.heap.size, 0, none⟩) hl0).trans q0
  have r1 := (hB1.cell (p := ⟨w.heap.size, 1, none⟩) hl0).trans q1
  have r2 := (hB1.cell (p := ⟨w.heap.size, 2, none⟩) hl0).trans q2
  have hl1 : w.heap.size < w1.heap.size := by have := hB1.size; omega
  have hB2 := hB0.trans (hB1.mono hB0.size)
  clear q0 q1 q2 hB1 hB0 hl0
  go_wp2_with fail
  refine (hfew _).mono ?_
  rintro e w2 ⟨rfl, hB3⟩
  have q0 := (hB3.cell (p := ⟨w.heap.size, 0, none⟩) hl1).trans r0
  have q1 := (hB3.cell (p := ⟨w.heap.size, 1, none⟩) hl1).trans r1
  have q2 := (hB3.cell (p := ⟨w.heap.size, 2, none⟩) hl1).trans r2
  have hl2 : w.heap.size < w2.heap.size := by have := hB3.size; omega
  have hB4 := hB2.trans (hB3.mono hB2.size)
  clear hB2 hB3 hfew r0 r1 r2 hl1
  clear q0 q1 q2
  go_wp2
  go_ret
  exact ⟨rfl, hB4⟩

set_option maxRecDepth 100000 in
set_option maxHeartbeats 4000000 in
theorem slots_bad (w : World) (n s f : Int) (v : Value) (ops : List DOp) (hs : DScrAt w w.heap.size v ops) (h : n ≤ 12 ∧ ops.length ≤ 60) (hsz : s ≤ 9223372036854775807) (hfz : f ≤ 9223372036854775807) (hbad : n < 1 ∨ 4096 < n ∨ s < 1 ∨ 16 < s ∨ f < 1 ∨ 16 < f) :
    Calls Try.prog 12 #[.agg #[.int .i64 n, .int .i64 s, .int .i64 f], v] w fun e w' => e = .returned (.bool true) ∧ Below w.heap.size w w' := by
  obtain ⟨a, cap, rfl, hcap, hmx, hx⟩ := hs
  clear hx
  have hfew := fun W => dFew W n s f (.slice a ops.length cap) ops.length ⟨_, _, rfl⟩
  rw [decide_eq_true h] at hfew
  have hnew := Lib.hid (fun W => dNew_bad W n s f hsz hfz hbad)
  clear h hbad
  go_enter Try.func12, Try.ntmps12
  go_wp2_with fail
  generalize hW : w.alloc (.cells #[.int .i64 n, .int .i64 s, .int .i64 f] 84) = W0
  have hB0 : Below w.heap.size w W0 := by rw [← hW]; exact (Below.refl _ _).alloc (Nat.le_refl _) _
  have hl0 : w.heap.size < W0.heap.size := by rw [← hW]; simp
  have q0 : W0.cell? ⟨w.heap.size, 0, none⟩ = some (.int .i64 n) := by rw [← hW]; simp
  have q1 : W0.cell? ⟨w.heap.size, 1, none⟩ = some (.int .i64 s) := by rw [← hW]; simp
  have q2 : W0.cell? ⟨w.heap.size, 2, none⟩ = some (.int .i64 f) := by rw [← hW]; simp
  clear hW
  refine (dSanity _).mono ?_
  rintro e w1 ⟨rfl, hB1⟩
  have r0 := (hB1.cell (p := ⟨w.heap.size, 0, none⟩) hl0).trans q0
  have r1 := (hB1.cell (p := ⟨w.heap.size, 1, none⟩) hl0).trans q1
  have r2 := (hB1.cell (p := ⟨w.heap.size, 2, none⟩) hl0).trans q2
  have hl1 : w.heap.size < w1.heap.size := by have := hB1.size; omega
  have hB2 := hB0.trans (hB1.mono hB0.size)
  clear q0 q1 q2 hB1 hB0 hl0
  go_wp2_with fail
  refine (hfew _).mono ?_
  rintro e w2 ⟨rfl, hB3⟩
  have q0 := (hB3.cell (p := ⟨w.heap.size, 0, none⟩) hl1).trans r0
  have q1 := (hB3.cell (p := ⟨w.heap.size, 1, none⟩) hl1).trans r1
  have q2 := (hB3.cell (p := ⟨w.heap.size, 2, none⟩) hl1).trans r2
  have hl2 : w.heap.size < w2.heap.size := by have := hB3.size; omega
  have hB4 := hB2.trans (hB3.mono hB2.size)
  clear hB2 hB3 hfew r0 r1 r2 hl1
  go_wp2_with fail
  refine (hnew.out _).mono ?_
  rintro e w3 ⟨rfl, hB5⟩
  have hB6 := hB4.trans (hB5.mono hB4.size)
  clear hB4 hB5
  go_wp2
  go_ret
  exact ⟨rfl, hB6⟩

set_option maxRecDepth 100000 in
set_option maxHeartbeats 4000000 in
theorem slots_ok (w : World) (n s f : Nat) (v : Value) (ops : List DOp) (hs : DScrAt w w.heap.size v ops) (h : n ≤ 12 ∧ ops.length ≤ 60) (n0 : 1 ≤ n) (s0 : 1 ≤ s) (s1 : s ≤ 16) (f0 : 1 ≤ f) (f1 : f ≤ 16) :
    Calls Try.prog 12 #[.agg #[.int .i64 n, .int .i64 s, .int .i64 f], v] w fun e w' => e = .returned (.bool true) ∧ Below w.heap.size w w' := by
  have hs' := Lib.hid hs
  have hale := Lib.hid hs.a_le
  obtain ⟨a, cap, rfl, hcap, hmx, hx⟩ := hs
  clear hx
  have hfew := fun W => dFew W n s f (.slice a ops.length cap) ops.length ⟨_, _, rfl⟩
  have hmk := mk32
  have hcv := cv32
  obtain ⟨i0, hi, hz0, hz1, hz2⟩ := info_parts infoStrD
  have hmkS : ∀ W : World, (Instr.makeSlice 54 (.int .i64 (s : Int)) (.int .i64 (s : Int))).run Try.prog W = .ok (.slice (some ⟨W.heap.size, 0, none⟩) s s) (W.alloc (.cells (rowS s) 9)) := fun W => by
    have := run_make_rowN (P := Try.prog) 54 9 i0 _ Try.underlying54 hi hz0 .i64 .i64 s s (Nat.le_refl _) (by rw [hz2]; omega) (by omega) W
    rw [this, hz1]; rfl
  clear hi hz0 hz1 hz2
  rw [decide_eq_true (show (n : Int) ≤ 12 ∧ ops.length ≤ 60 by omega)] at hfew
  have hnew := Lib.hid (fun W => dNew_ok W n s f n0 (by omega) s0 s1 f0 f1)
  have hlen : (ops.length : Int) ≤ 60 := by omega
  have fi0 : (1 : Int) ≤ f := by omega
  have fi1 : (f : Int) ≤ 16 := by omega
  have si0 : (1 : Int) ≤ s := by omega
  have si1 : (s : Int) ≤ 16 := by omega
  have ni0 : (1 : Int) ≤ n := by omega
  have ni1 : (n : Int) ≤ 12 := by omega
  clear h
  go_enter Try.func12, Try.ntmps12
  go_wp2_with fail
  generalize hW : w.alloc (.cells #[.int .i64 n, .int .i64 s, .int .i64 f] 84) = W0
  have hB0 : Below w.heap.size w W0 := by rw [← hW]; exact (Below.refl _ _).alloc (Nat.le_refl _) _
  have hl0 : w.heap.size < W0.heap.size := by rw [← hW]; simp
  have q0 : W0.cell? ⟨w.heap.size, 0, none⟩ = some (.int .i64 n) := by rw [← hW]; simp
  have q1 : W0.cell? ⟨w.heap.size, 1, none⟩ = some (.int .i64 s) := by rw [← hW]; simp
  have q2 : W0.cell? ⟨w.heap.size, 2, none⟩ = some (.int .i64 f) := by rw [← hW]; simp
  clear hW
  refine (dSanity _).mono ?_
  rintro e w1 ⟨rfl, hB1⟩
  have r0 := (hB1.cell (p := ⟨w.heap.size, 0, none⟩) hl0).trans q0
  have r1 := (hB1.cell (p := ⟨w.heap.size, 1, none⟩) hl0).trans q1
  have r2 := (hB1.cell (p := ⟨w.heap.size, 2, none⟩) hl0).trans q2
  have hl1 : w.heap.size < w1.heap.size := by have := hB1.size; omega
  have hB2 := hB0.trans (hB1.mono hB0.size)
  clear q0 q1 q2 hB1 hB0 hl0
  go_wp2_with fail
  refine (hfew _).mono ?_
  rintro e w2 ⟨rfl, hB3⟩
  have q0 := (hB3.cell (p := ⟨w.heap.size, 0, none⟩) hl1).trans r0
  have q1 := (hB3.cell (p := ⟨w.heap.size, 1, none⟩) hl1).trans r1
  have q2 := (hB3.cell (p := ⟨w.heap.size, 2, none⟩) hl1).trans r2
  have hl2 : w.heap.size < w2.heap.size := by have := hB3.size; omega
  have hB4 := hB2.trans (hB3.mono hB2.size)
  clear hB2 hB3 hfew r0 r1 r2 hl1
  go_wp2_with fail
  refine (hnew.out _).mono ?_
  rintro e w3 ⟨B, rfl, hD3, hBa, hB5⟩
  have p0 := (hB5.cell (p := ⟨w.heap.size, 0, none⟩) hl2).trans q0
  have p1 := (hB5.cell (p := ⟨w.heap.size, 1, none⟩) hl2).trans q1
  have p2 := (hB5.cell (p := ⟨w.heap.size, 2, none⟩) hl2).trans q2
  have hl3 : w.heap.size < w3.heap.size := by have := hB5.size; omega
  have hB6 := hB4.trans (hB5.mono hB4.size)
  have hA : Hid (∀ k ∈ B.all, w.heap.size + 1 ≤ k) := fun k hk => by have := hBa k hk; omega
  have hst := Lib.hid (At23.start (ops := ops) hD3)
  have hD3' := Lib.hid hD3
  clear q0 q1 q2 hB4 hB5 hnew hBa hl2 hD3
  have p1h := Lib.hid p1
  go_wp2_with fail
  generalize hW5 : (w3.alloc (.cells (tArr 0 32 0) 5)).alloc (.cells (rowS s) 9) = w5
  have hF35 : Fr [] w3 w5 := by rw [← hW5]; exact ((Fr.refl _ _).alloc _).alloc _
  have hz5 : w5.heap.size = w3.heap.size + 2 := by rw [← hW5]; simp
  have hg5 : w5.heap[w3.heap.size + 1]? = some (.cells (rowS s) 9 (0, 0)) := by rw [← hW5]; have := World.alloc_heap_new (w3.alloc (.cells (tArr 0 32 0) 5)) (.cells (rowS s) 9); rwa [World.size_alloc] at this
  have hlD := hD3'.out.all_lt
  generalize hg : w3.heap.size + 1 = g at *
  have hwa : WantAt w5 g (List.replicate s ByteArray.empty) := by
    refine ⟨fun j x hj => ?_, fun o => by simp [World.frozen?, hg5], by omega⟩
    have hj' : j < s := by have := (List.getElem?_eq_some_iff.1 hj).1; simpa [strs] using this
    have hx : x = .string ByteArray.empty := by simp [strs, hj'] at hj; exact hj.symm
    subst hx
    simp only [World.cell?, hg5]
    exact made_get _ _ _ rfl hj'
  have hwa' := Lib.hid hwa
  have hgn : Hid (g ∉ B.all) := fun hm => by have := hlD g hm; omega
  have hgw : w.heap.size < g := by omega
  have hB5 := Lib.hid (hB6.trans (hF35.below hB6.size (by simp)))
  have hst5 := Lib.hid (hst.out.fr (_S := []) hF35)
  have hgl5 : g < w5.heap.size := by omega
  have hz5' := Lib.hid hz5
  have hg' := Lib.hid hg
  clear hmkS hW5 hz5 hg5 hwa hg p0 p1 p2 hB6 hF35 hst hmk hcv
  go_loopw [10] (fun t wr => ∃ j : Nat, j ≤ s ∧ t = .int .i64 (j : Int) ∧ WantAt wr g (fillL (List.replicate s ByteArray.empty) j) ∧ Fr [g] w5 wr) (fun t _ => s - (intOf t).toNat)
  case atStart => exact ⟨0, Nat.zero_le _, rfl, by rw [fillL_zero]; exact hwa'.out, Fr.refl _ _⟩
  case round =>
    obtain ⟨j, hj, rfl, hwn, hF⟩ := hrel
    by_cases hlt : j < s
    · have hlti : (j : Int) < (s : Int) := by omega
      have hsu := Lib.hid (fillL_succ (List.replicate s ByteArray.empty) j (by simpa using hlt))
      have hjl : j < (fillL (List.replicate s ByteArray.empty) j).length := by rw [fillL_length _ _ (by simpa using hj)]; simpa using hlt
      have gc := hwn.get hjl
      have gz := hwn.z j
      have hwn2 := Lib.hid (hwn.set j zero32)
      have hF2 : Fr [g] w5 (wr.setCell ⟨g, j, none⟩ (.string zero32)) := hF.setCell (by simp) _
      clear hwn hwa'
      go_wp2
      go_roundw
      case rel => exact ⟨j + 1, by omega, by go_num, by rw [hsu.out]; exact hwn2.out, hF2⟩
      case measure => simp [intOf]; omega
    · obtain rfl : j = s := by omega
      have hfa := fillL_all (List.replicate j ByteArray.empty)
      rw [List.length_replicate] at hfa
      rw [hfa] at hwn
      have hwn' := Lib.hid hwn
      have hB7 := Lib.hid (hB5.out.trans (hF.below hB5.out.size (by simp; omega)))
      have hst7 := Lib.hid (At23o.start (ok := fun b => b ∉ B.all ∧ b ≠ g) (ops := ops) (hst5.out.dev.fr hF (by have := hgn.out; simpa using this)))
      obtain ⟨w7, rfl⟩ : ∃ w7 : World, w7 = wr := ⟨_, rfl⟩
      have hD7 := hst7.out.dev
      clear hwn hF hst5 hfa hB5 hwa' hD7
      go_wp2_with fail
      go_loopw [11, 12] (fun iv q wr => ∃ k : Nat, k ≤ ops.length ∧ q = .int .i64 (k : Int) ∧ At23o (fun b => b ∉ B.all ∧ b ≠ g) wr B ops (newD n j f, []) k iv ∧ Below w.heap.size w wr ∧ WantAt wr g (runD (ops.take k) (newD n j f, [])).1.S) (fun _ q _ => ops.length - (intOf q).toNat)
      case atStart => exact ⟨0, Nat.zero_le _, rfl, hst7.out, hB7.out, hwn'.out⟩
      case round =>
        obtain ⟨k, hk, rfl, hT, hB, hwn⟩ := hrel
        clear hwn' hst7
        by_cases hkl : k < ops.length
        · have hkli : (k : Int) < (ops.length : Int) := by omega
          obtain ⟨o, ho⟩ : ∃ o, ops[k]? = some o := ⟨ops[k], List.getElem?_eq_getElem hkl⟩
          have hT1 := Lib.hid (runD_take_succ ops (newD n j f, []) k o ho)
          have hSl := Lib.hid ((Keeps.run (ops.take k) (fun o ho => hale.out o (List.mem_of_mem_take ho)) (newD n j f, [])).s)
          obtain ⟨hD, him, hil⟩ := hT
          generalize runD (ops.take k) (newD n j f, []) = x at *
          obtain ⟨d, img⟩ := x
          have hsl : d.S.length = j := by have := hSl.out; simpa [newD] using this
          obtain ⟨b, off, pv, rfl, hbP, g0, g1, g2, g3, g4, g5, hpv, hpl, hoa⟩ := hs'.out.get hB ho
          obtain ⟨pa, pn, pc, rfl⟩ : ∃ a n c, pv = .slice a n c := by obtain ⟨a, c, h, _⟩ := hpv; exact ⟨_, _, _, h⟩
          obtain ⟨ia, ik, ic, rfl⟩ : ∃ a n c, u11 = .slice a n c := by obtain ⟨a, c, h, _⟩ := him; exact ⟨_, _, _, h⟩
          have hsl' := Lib.hid hsl
          have hglw : g < wr.heap.size := hwn.lt
          have hwn8 := Lib.hid hwn
          have hal : Hid (∀ q ∈ B.l, w.heap.size + 1 ≤ q) := all_l hA.out
          clear ho hSl hsl hwn
          go_wp2_with fail
          refine (ldo23g _ B d hD o _ _ img (fun b => b < w.heap.size) hpv hpl (picks_ok hD (fun k hk => by have := hA.out k hk; omega)) (fun b => b ∉ B.all ∧ b ≠ g) (fun b hb hm => hb.1 (B.l_all b hm)) (fun b hb => ⟨fun hm => by have := hD.all_lt b hm; omega, by omega⟩) him hil hoa).mono ?_
          rintro e w8 ⟨iv', rfl, hD8, hF8, him8⟩
          have hB8 := hB.trans (hF8.below hB.size (fun q hq => by have := hal.out q hq; omega))
          have hwn9 := Lib.hid (hwn8.out.fr hF8 (fun hm => hgn.out (B.l_all g hm)))
          have hil8 := doI_length o img d hil hD.ok.m1
          obtain ⟨ja, jk, jc, rfl⟩ : ∃ a n c, iv' = .slice a n c := by obtain ⟨a, c, h, _⟩ := him8; exact ⟨_, _, _, h⟩
          have hk5 := Keeps.do o img d hoa
          have hsl8 : (doD o img d).S.length = j := by have := hk5.s; have := hsl'.out; omega
          have hsl8' := Lib.hid hsl8
          have hbn : ∀ q ∈ B.l, q ≠ b := fun q hq e => by have := hal.out q hq; omega
          have hcc : ∀ o' v, wr.cell? ⟨b, o', none⟩ = some v → w8.cell? ⟨b, o', none⟩ = some v := fun o' v hv => (hF8.cell (p := ⟨b, o', none⟩) (World.block_lt_of_cell? _ _ hv) (fun hm => hbn b hm rfl)).trans hv
          have k0 := hcc _ _ g0
          have k1 := hcc _ _ g1
          have k2 := hcc _ _ g2
          have k3 := hcc _ _ g3
          have k4 := hcc _ _ g4
          have k5 := hcc _ _ g5
          have hbl8 : b < w8.heap.size := World.block_lt_of_cell? _ _ k5
          have hgl8 : g < w8.heap.size := hwn9.out.lt
          have hg9 : Hid (∀ b, (b ∉ B.all ∧ b ≠ g) → b ≠ g) := fun b hb => hb.2
          have hD8' := Lib.hid hD8
          have him8' := Lib.hid him8
          clear hcc hbn hpv him hD g0 g1 g2 g3 g4 g5 hD8 him8 hF8 hB hwn8 hk5 hsl8
          generalize hE : doE o img d = E at *
          have hE' := Lib.hid hE
          clear hE
          by_cases h5 : o.kd = 5
          · have h5' := Lib.hid h5
            rw [h5] at k0
            clear h5
            by_cases hE0 : E = 0
            · subst hE0
              obtain ⟨hS, ha0, ha1⟩ := doS_store o img d h5'.out hE'.out
              obtain ⟨ka, hka⟩ : ∃ ka : Nat, o.a = (ka : Int) := ⟨o.a.toNat, by omega⟩
              have hS' : Hid ((doD o img d).S = d.S.set ka (dtext o.fill o.short 32)) := by rw [hka] at hS; exact hS
              have hka' := Lib.hid hka
              rw [hka] at k1 ha1
              have hkj : ka < d.S.length := by omega
              have hkji : (ka : Int) < (j : Int) := by have := hsl'.out; omega
              clear hS ha0 hka ha1
              go_wp2_with fail
              generalize hW9 : w8.alloc (.cells #[.string (doT o d), .int .i64 0] 91) = w9
              have hF9 : Fr [] w8 w9 := by rw [← hW9]; exact (Fr.refl _ _).alloc _
              have m0 := (hF9.cell (World.block_lt_of_cell? _ _ k0) List.not_mem_nil).trans k0
              have m1 := (hF9.cell (World.block_lt_of_cell? _ _ k1) List.not_mem_nil).trans k1
              have m2 := (hF9.cell (World.block_lt_of_cell? _ _ k2) List.not_mem_nil).trans k2
              have m3 := (hF9.cell (World.block_lt_of_cell? _ _ k3) List.not_mem_nil).trans k3
              have m4 := (hF9.cell (World.block_lt_of_cell? _ _ k4) List.not_mem_nil).trans k4
              have m5 := (hF9.cell (World.block_lt_of_cell? _ _ k5) List.not_mem_nil).trans k5
              have hwnA := Lib.hid (hwn9.out.fr hF9 List.not_mem_nil)
              have hF9' := Lib.hid hF9
              have hgl9 : g < w9.heap.size := hwnA.out.lt
              have hbl9 : b < w9.heap.size := World.block_lt_of_cell? _ _ m5
              have hgc := hwnA.out.get hkj
              have hgz := hwnA.out.z ka
              clear k0 k1 k2 k3 k4 k5 hW9 hF9 hbl8 hgl8
              go_region_law (first
                | (refine step_call _ (by rfl) 48 _ _ (by rfl) [.agg #[.int .i64 5, .int .i64 (ka : Int), .int .i64 o.b, .int .u8 o.fill.toNat, .bool o.short, .slice pa pn pc], .int .i64 32] (by rfl) (enters_of Try.func48 (by kernel_rfl) rfl) ?_
                   refine (dText _ 5 ka o.b o.fill o.short _ 32 (by omega) (by omega)).mono ?_
                   rintro e wt ⟨rfl, hBt⟩
                   refine ⟨.string (dtext o.fill o.short 32), rfl, ?_⟩
                   have hFt : Fr [] w9 wt := (Fr.refl _ _).drew.trans (Fr.of_below hBt)
                   have n0 := (hFt.cell (World.block_lt_of_cell? _ _ m0) List.not_mem_nil).trans m0
                   have n1 := (hFt.cell (World.block_lt_of_cell? _ _ m1) List.not_mem_nil).trans m1
                   have n2 := (hFt.cell (World.block_lt_of_cell? _ _ m2) List.not_mem_nil).trans m2
                   have n3 := (hFt.cell (World.block_lt_of_cell? _ _ m3) List.not_mem_nil).trans m3
                   have n4 := (hFt.cell (World.block_lt_of_cell? _ _ m4) List.not_mem_nil).trans m4
                   have n5 := (hFt.cell (World.block_lt_of_cell? _ _ m5) List.not_mem_nil).trans m5
                   have hwnT := Lib.hid (hwnA.out.fr hFt List.not_mem_nil)
                   have hgcT := hwnT.out.get hkj
                   have hgzT := hwnT.out.z ka
                   have hFt' := Lib.hid hFt
                   clear hFt hBt))
              all_goals
                generalize hWx : wt.setCell ⟨g, ka, none⟩ (.string (dtext o.fill o.short 32)) = wx
                have hF9x : Fr [g] w9 wx := by rw [← hWx]; exact (hFt'.out.weaken (by simp)).setCell (by simp) _
                have hwX := Lib.hid (show WantAt wx g (doD o img d).S by rw [hS'.out, ← hWx]; exact hwnT.out.set ka _)
                have kx0 := (hF9x.cell (World.block_lt_of_cell? _ _ m0) (by simp; omega)).trans m0
                have hF8x : Fr [g] w8 wx := (hF9'.out.weaken (by simp)).trans hF9x
                have hT2 := Lib.hid (at23next hT1.out hD8'.out him8'.out hil8 hF8x hgn.out hg9.out)
                have hBX := Lib.hid (hB8.trans (hF8x.below hB8.size (by simp; omega)))
                clear hWx hF9x hF8x hgcT hgzT hFt' hwnT hgc hgz m0 m1 m2 m3 m4 m5 n0 n1 n2 n3 n4 n5 hF9' hwnA
                go_wp2_with fail
                go_loop [15] (fun q => q = .int .i64 0) (fun _ => 0)
                case atStart => exact rfl
                case round =>
                  obtain rfl := hrel
                  go_wp2_with fail
                  go_roundw
                  case rel => exact ⟨k + 1, by omega, by go_num, hT2.out, hBX.out, by rw [hT1.out]; exact hwX.out⟩
                  case measure => simp [intOf]; omega
            · have hS := doS_fail o img d h5'.out (by rw [hE'.out]; exact hE0)
              have hE1 : (E == 0) = false := by simpa using hE0
              have hwX8 := Lib.hid (show WantAt w8 g (doD o img d).S by rw [hS]; exact hwn9.out)
              clear hS hE0
              go_wp2_with fail
              generalize hW9 : w8.alloc (.cells #[.string (doT o d), .int .i64 E] 91) = wx
              have hF8x : Fr [] w8 wx := by rw [← hW9]; exact (Fr.refl _ _).alloc _
              have kx0 := (hF8x.cell (World.block_lt_of_cell? _ _ k0) List.not_mem_nil).trans k0
              have hwX := Lib.hid (hwX8.out.fr hF8x List.not_mem_nil)
              have hT2 := Lib.hid (at23next hT1.out hD8'.out him8'.out hil8 (hF8x.weaken (T := [g]) (by simp)) hgn.out hg9.out)
              have hBX := Lib.hid (hB8.trans (hF8x.below hB8.size (by simp)))
              clear hW9 hF8x k0 k1 k2 k3 k4 k5 hE1 hwX8
              go_loop [15] (fun q => q = .int .i64 0) (fun _ => 0)
              case atStart => exact rfl
              case round =>
                obtain rfl := hrel
                go_wp2_with fail
                go_roundw
                case rel => exact ⟨k + 1, by omega, by go_num, hT2.out, hBX.out, by rw [hT1.out]; exact hwX.out⟩
                case measure => simp [intOf]; omega
          · have h51 : (o.kd == 5) = false := by simpa using h5
            by_cases h11 : o.kd = 11
            · have hS := Lib.hid (doS_bat o img d h11)
              rw [h11] at k0
              clear h11 h51
              go_wp2_with fail
              generalize hW9 : w8.alloc (.cells #[.string (doT o d), .int .i64 E] 91) = wx
              have hF8x : Fr [] w8 wx := by rw [← hW9]; exact (Fr.refl _ _).alloc _
              have kx0 := (hF8x.cell (World.block_lt_of_cell? _ _ k0) List.not_mem_nil).trans k0
              have hwX := Lib.hid (hwn9.out.fr hF8x List.not_mem_nil)
              have hF8x' := Lib.hid hF8x
              have hbg : b ≠ g := by omega
              clear hW9 hF8x k0 k1 k2 k3 k4 k5
              go_loopw [15] (fun q wr => ∃ m : Nat, m ≤ j ∧ q = .int .i64 (m : Int) ∧ WantAt wr g (fillL d.S m) ∧ Fr [g] wx wr) (fun q _ => j - (intOf q).toNat)
              case atStart => exact ⟨0, Nat.zero_le _, rfl, by rw [fillL_zero]; exact hwX.out, Fr.refl _ _⟩
              case round =>
                obtain ⟨m, hm, rfl, hwm, hFm⟩ := hrel
                have ky0 := (hFm.cell (World.block_lt_of_cell? _ _ kx0) (by simp; omega)).trans kx0
                clear kx0
                by_cases hml : m < j
                · have hmli : (m : Int) < (j : Int) := by omega
                  have hsu := Lib.hid (fillL_succ d.S m (by have := hsl'.out; omega))
                  have hml2 : m < (fillL d.S m).length := by have := hsl'.out; rw [fillL_length _ _ (by omega)]; omega
                  have gc := hwm.get hml2
                  have gz := hwm.z m
                  have hwm2 := Lib.hid (hwm.set m zero32)
                  have hFm2 : Fr [g] wx (wr.setCell ⟨g, m, none⟩ (.string zero32)) := hFm.setCell (by simp) _
                  clear hwm hFm
                  go_wp2_with fail
                  go_roundw
                  case rel => exact ⟨m + 1, by omega, by go_num, by rw [hsu.out]; exact hwm2.out, hFm2⟩
                  case measure => simp [intOf]; omega
                · obtain rfl : m = j := by omega
                  have hF8y : Fr [g] w8 wr := (hF8x'.out.weaken (by simp)).trans hFm
                  have hwX2 := Lib.hid (show WantAt wr g (doD o img d).S by
                    have e := fillL_all d.S
                    rw [hsl'.out] at e
                    rw [hS.out, hsl'.out, ← e]; exact hwm)
                  have hT2 := Lib.hid (at23next hT1.out hD8'.out him8'.out hil8 hF8y hgn.out hg9.out)
                  have hBX := Lib.hid (hB8.trans (hF8y.below hB8.size (by simp; omega)))
                  clear hwm hFm hF8y
                  go_wp2_with fail
                  go_roundw
                  case rel => exact ⟨k + 1, by omega, by go_num, hT2.out, hBX.out, by rw [hT1.out]; exact hwX2.out⟩
                  case measure => simp [intOf]; omega
            · have h111 : (o.kd == 11) = false := by simpa using h11
              have hS := doS_other o img d h5 h11
              have hwX8 := Lib.hid (show WantAt w8 g (doD o img d).S by rw [hS]; exact hwn9.out)
              clear hS h5 h11
              go_wp2_with fail
              generalize hW9 : w8.alloc (.cells #[.string (doT o d), .int .i64 E] 91) = wx
              have hF8x : Fr [] w8 wx := by rw [← hW9]; exact (Fr.refl _ _).alloc _
              have kx0 := (hF8x.cell (World.block_lt_of_cell? _ _ k0) List.not_mem_nil).trans k0
              have hwX := Lib.hid (hwX8.out.fr hF8x List.not_mem_nil)
              have hT2 := Lib.hid (at23next hT1.out hD8'.out him8'.out hil8 (hF8x.weaken (T := [g]) (by simp)) hgn.out hg9.out)
              have hBX := Lib.hid (hB8.trans (hF8x.below hB8.size (by simp)))
              clear hW9 hF8x k0 k1 k2 k3 k4 k5 hwX8 h51
              go_loop [15] (fun q => q = .int .i64 0) (fun _ => 0)
              case atStart => exact rfl
              case round =>
                obtain rfl := hrel
                go_wp2_with fail
                go_roundw
                case rel => exact ⟨k + 1, by omega, by go_num, hT2.out, hBX.out, by rw [hT1.out]; exact hwX.out⟩
                case measure => simp [intOf]; omega
        · obtain rfl : k = ops.length := by omega
          rw [List.take_length] at hwn
          have hdev := hT.dev
          rw [List.take_length] at hdev
          have hSl := (Keeps.run ops (fun o ho => hale.out o ho) (newD n j f, [])).s
          generalize (runD ops (newD n j f, [])).1 = d at *
          have hsl : d.S.length = j := by simpa [newD] using hSl
          have hsl' := Lib.hid hsl
          clear hT hSl hsl
          go_wp2_with fail
          refine (dMount _ B d hdev (fun _ => False) _ [] (SlAt.nil _ _) (by simp) (fun _ h => h.elim)).mono ?_
          rintro e w8 ⟨rfl, hD8, hF8⟩
          have hal : Hid (∀ q ∈ B.l, w.heap.size + 1 ≤ q) := all_l hA.out
          have hB8 := hB.trans (hF8.below hB.size (fun q hq => by have := hal.out q hq; omega))
          have hwn8 := Lib.hid (hwn.fr hF8 (fun hm => hgn.out (B.l_all g hm)))
          have hD8' := Lib.hid hD8
          clear hdev hwn hF8 hD8 hB
          go_wp2_with fail
          go_loop [16] (fun q => ∃ m : Nat, m ≤ j ∧ q = .int .i64 (m : Int)) (fun q => j - (intOf q).toNat)
          case atStart => exact ⟨0, Nat.zero_le _, rfl⟩
          case round =>
            obtain ⟨m, hm, rfl⟩ := hrel
            by_cases hml : m < j
            · have hmli : (m : Int) < (j : Int) := by omega
              have hmS : m < d.S.length := by have := hsl'.out; omega
              have gc := hwn8.out.get hmS
              have cL := dLoad _ B _ hD8'.out m
              rw [show dLdT (dMo d []) (m : Int) = d.S[m] from by simp [dLdT, dMo, hmS], show dLdE (dMo d []) (m : Int) = 0 from by simp [dLdE, dMo, hmS]] at cL
              go_wp2_with fail
              refine cL.mono ?_
              clear cL
              rintro e w' ⟨rfl, rfl⟩
              go_wp2_with fail
              go_round
              case rel => exact ⟨m + 1, by omega, by go_num⟩
              case measure => simp [intOf]; omega
            · obtain rfl : m = j := by omega
              go_wp2
              go_ret
              exact ⟨rfl, hB8⟩

theorem lSlots (w : World) (n s f : Int) (_hn : n ≤ 9223372036854775807) (hsz : s ≤ 9223372036854775807) (hfz : f ≤ 9223372036854775807) (v : Value) (ops : List DOp) (hs : DScrAt w w.heap.size v ops) :
    Calls Try.prog 12 #[.agg #[.int .i64 n, .int .i64 s, .int .i64 f], v] w fun e w' => e = .returned (.bool true) ∧ Below w.heap.size w w' := by
  by_cases h : n ≤ 12 ∧ ops.length ≤ 60
  · by_cases hbad : n < 1 ∨ 4096 < n ∨ s < 1 ∨ 16 < s ∨ f < 1 ∨ 16 < f
    · exact slots_bad w n s f v ops hs h hsz hfz hbad
    · obtain ⟨n', rfl⟩ : ∃ k : Nat, n = (k : Int) := ⟨n.toNat, by omega⟩
      obtain ⟨s', rfl⟩ : ∃ k : Nat, s = (k : Int) := ⟨s.toNat, by omega⟩
      obtain ⟨f', rfl⟩ : ∃ k : Nat, f = (k : Int) := ⟨f.toNat, by omega⟩
      exact slots_ok w n' s' f' v ops hs (by omega) (by omega) (by omega) (by omega) (by omega) (by omega)
  · exact slots_few w n s f v ops hs h

end Go.Proofs.Ytogljlloobjeoaa
