/- DevicePlays, walked. -/
import Derived.Test.YtogljlloobjeoaaGreatCmn
import Derived.Test.YtogljlloobjeoaaGreatVDo
import Derived.Test.YtogljlloobjeoaaGreatVNew
import Derived.Test.YtogljlloobjeoaaGreatVCln
import Derived.Test.YtogljlloobjeoaaGreatVAlk
import Derived.Laws.StructEq
import Derived.IntWalk
namespace Go.Proofs.YtogljlloobjeoaaGreat
open Go.RowKit
set_option linter.unusedSimpArgs false
set_option linter.unusedVariables false

/-- What stands through the call: both devices, both copies, both images. -/
structure PlyI (w : World) (B R C U : DB) (d1 d2 dc : Dv) (i1 i2 : List ByteArray) (iv jv : Value) (W : World) : Prop where
  dev : DevAt W B d1
  rev : RevAt W R d2
  dvc : DevAt W C dc
  rvc : RevAt W U dc
  im : SlAt W (fun b => b ∉ B.all ∧ b ∉ R.all) iv (strs i1)
  jm : SlAt W (fun b => b ∉ B.all ∧ b ∉ R.all) jv (strs i2)
  il : i1.length ≤ 4096 ∧ i2.length ≤ 4096
  below : Below w.heap.size w W
  old : (∀ q ∈ B.all, w.heap.size + 1 ≤ q) ∧ (∀ q ∈ R.all, w.heap.size + 1 ≤ q)
  BR : ∀ q ∈ B.all, q ∉ R.all ∧ q ∉ C.all ∧ q ∉ U.all
  RR : ∀ q ∈ R.all, q ∉ B.all ∧ q ∉ C.all ∧ q ∉ U.all
  dcm : dc.M.length ≤ 64
section
variable {w : World} {B R C U : DB} {d1 d2 dc d' : Dv} {i1 i2 i' : List ByteArray} {iv jv v' : Value} {W W' : World}
theorem PlyI.fr0 (h : PlyI w B R C U d1 d2 dc i1 i2 iv jv W) (hf : Fr [] W W') : PlyI w B R C U d1 d2 dc i1 i2 iv jv W' :=
  ⟨h.dev.fr hf (by simp), h.rev.fr hf (by simp), h.dvc.fr hf (by simp), h.rvc.fr hf (by simp), h.im.fr hf (by simp), h.jm.fr hf (by simp), h.il, h.below.trans (hf.below h.below.size (by simp)), h.old, h.BR, h.RR, h.dcm⟩
theorem PlyI.opB (h : PlyI w B R C U d1 d2 dc i1 i2 iv jv W) (hD : DevAt W' B d') (hf : Fr B.l W W') (hi : SlAt W' (fun b => b ∉ B.all ∧ b ∉ R.all) v' (strs i')) (hl : i'.length ≤ 4096) : PlyI w B R C U d' d2 dc i' i2 v' jv W' :=
  ⟨hD, h.rev.fr hf (fun q hq => (h.BR q (B.l_all q hq)).1), h.dvc.fr hf (fun q hq => (h.BR q (B.l_all q hq)).2.1), h.rvc.fr hf (fun q hq => (h.BR q (B.l_all q hq)).2.2), hi, h.jm.fr hf (fun b hb hm => hb.1 (B.l_all b hm)), ⟨hl, h.il.2⟩, h.below.trans (hf.below h.below.size (fun q hq => by have := h.old.1 q (B.l_all q hq); omega)), h.old, h.BR, h.RR, h.dcm⟩
theorem PlyI.opR (h : PlyI w B R C U d1 d2 dc i1 i2 iv jv W) (hD : RevAt W' R d') (hf : Fr R.l W W') (hi : SlAt W' (fun b => b ∉ B.all ∧ b ∉ R.all) v' (strs i')) (hl : i'.length ≤ 4096) : PlyI w B R C U d1 d' dc i1 i' iv v' W' :=
  ⟨h.dev.fr hf (fun q hq => (h.RR q (R.l_all q hq)).1), hD, h.dvc.fr hf (fun q hq => (h.RR q (R.l_all q hq)).2.1), h.rvc.fr hf (fun q hq => (h.RR q (R.l_all q hq)).2.2), h.im.fr hf (fun b hb hm => hb.2 (R.l_all b hm)), hi, ⟨h.il.1, hl⟩, h.below.trans (hf.below h.below.size (fun q hq => by have := h.old.2 q (R.l_all q hq); omega)), h.old, h.BR, h.RR, h.dcm⟩
/-- New copies. -/
theorem PlyI.cl (h : PlyI w B R C U d1 d2 dc i1 i2 iv jv W) {C' U' : DB} {w5 : World} (hB1 : Below W.heap.size W w5) (hC : DevAt w5 C' d1) (hCa : ∀ q ∈ C'.all, W.heap.size ≤ q) (hB2 : Below w5.heap.size w5 W') (hU : RevAt W' U' d1) (hUa : ∀ q ∈ U'.all, w5.heap.size ≤ q) (hm : d1.M.length ≤ 64) :
    PlyI w B R C' U' d1 d2 d1 i1 i2 iv jv W' := by
  have hf := (Fr.of_below (S := []) hB1).trans (Fr.of_below (S := []) hB2)
  have k := h.fr0 hf
  have z := hB1.size
  refine ⟨k.dev, k.rev, hC.below hB2, hU, k.im, k.jm, k.il, k.below, k.old, fun q hq => ⟨(h.BR q hq).1, fun hm => ?_, fun hm => ?_⟩, fun q hq => ⟨(h.RR q hq).1, fun hm => ?_, fun hm => ?_⟩, hm⟩
  · have a := hCa q hm; have b := h.dev.all_lt q hq; omega
  · have a := hUa q hm; have b := h.dev.all_lt q hq; omega
  · have a := hCa q hm; have b := h.rev.all_lt q hq; omega
  · have a := hUa q hm; have b := h.rev.all_lt q hq; omega
theorem PlyI.okP (h : PlyI w B R C U d1 d2 dc i1 i2 iv jv W) : ∀ b, b < w.heap.size → b ∉ B.l ∧ b < W.heap.size := fun b hb => ⟨fun hm => by have := h.old.1 b (B.l_all b hm); omega, Nat.lt_of_lt_of_le hb h.below.size⟩
theorem PlyI.okR (h : PlyI w B R C U d1 d2 dc i1 i2 iv jv W) : ∀ b, b < w.heap.size → b ∉ R.l ∧ b < W.heap.size := fun b hb => ⟨fun hm => by have := h.old.2 b (R.l_all b hm); omega, Nat.lt_of_lt_of_le hb h.below.size⟩
theorem PlyI.okN (h : PlyI w B R C U d1 d2 dc i1 i2 iv jv W) : ∀ b, W.heap.size ≤ b → b ∉ B.all ∧ b ∉ R.all := fun b hb => ⟨fun hm => by have := h.dev.all_lt b hm; omega, fun hm => by have := h.rev.all_lt b hm; omega⟩
end

theorem cvtAt (t : Nat) (ht : t < 256) (W : World) : (convert 5 3 (.int .u8 (t : Int))).run Tryz.prog W = .ok (.int .i64 (t : Int)) W := by
  have e : Tryz.prog.intKind 3 = .i64 := by kernel_rfl
  have h := run_convert_int (P := Tryz.prog) W 5 3 .u8 (t : Int) (by kernel_rfl) (by kernel_rfl)
  rw [h, e, IntWalk.i64_in _ (by omega)]

set_option maxRecDepth 100000 in
set_option maxHeartbeats 40000000 in
theorem ply_few (w : World) (n s f : Int) (v : Value) (ops : List DOp) (hs : DScrAt w w.heap.size v ops) (t : Nat) (h : ¬ (n ≤ 12 ∧ ops.length ≤ 60)) :
    Calls Tryz.prog 3 #[.agg #[.int .i64 n, .int .i64 s, .int .i64 f], v, .int .u8 (t : Int)] w fun e w' => e = .returned (.bool true) ∧ Below w.heap.size w w' := by
  have hs' := Lib.hid hs
  have hale := Lib.hid hs.a_le
  obtain ⟨a, cap, rfl, hcap, hmx, hx⟩ := hs
  clear hx
  have hfew0 := fun W => dFew W n s f (.slice a ops.length cap) ops.length ⟨_, _, rfl⟩
  rw [decide_eq_false h] at hfew0
  have hfew := Lib.hid hfew0
  clear hfew0
  go_enter Tryz.func3, Tryz.ntmps3
  go_wp2_with fail
  have hB0 := (Below.refl w.heap.size w).alloc (Nat.le_refl _) (.cells #[.int .i64 n, .int .i64 s, .int .i64 f] 23)
  have hz0 := SizAt.new w n s f 23
  generalize hW : w.alloc (.cells #[.int .i64 n, .int .i64 s, .int .i64 f] 23) = W0 at *
  have hsz0 : W0.heap.size = w.heap.size + 1 := by rw [← hW]; simp
  clear hW
  refine (dSanity _).mono ?_
  rintro e w1 ⟨rfl, hB1⟩
  have hB2 := hB0.trans (hB1.mono hB0.size)
  have hz1 := hz0.below hB1
  have hl1 : w.heap.size + 1 ≤ w1.heap.size := by have := hB1.size; omega
  obtain ⟨c0, c1, c2⟩ := id hz1
  clear hB0 hB1 hz0 hsz0
  go_wp2_with fail
  refine (hfew.out _).mono ?_
  rintro e w2 ⟨rfl, hB3⟩
  have hB4 := hB2.trans (hB3.mono hB2.size)
  have hz2 := hz1.below hB3
  have hl2 : w.heap.size + 1 ≤ w2.heap.size := by have := hB3.size; omega
  obtain ⟨c0', c1', c2'⟩ := id hz2
  have hz2' := Lib.hid hz2
  clear hB2 hB3 hfew hz1 hl1 c0 c1 c2 hz2
  clear hz2' c0' c1' c2' h
  go_wp2
  go_ret
  exact ⟨rfl, hB4⟩

set_option maxRecDepth 100000 in
set_option maxHeartbeats 40000000 in
theorem ply_bad (w : World) (n s f : Int) (v : Value) (ops : List DOp) (hs : DScrAt w w.heap.size v ops) (t : Nat) (h : n ≤ 12 ∧ ops.length ≤ 60) (hsz : s ≤ 9223372036854775807) (hfz : f ≤ 9223372036854775807) (hbad : n < 1 ∨ 4096 < n ∨ s < 1 ∨ 16 < s ∨ f < 1 ∨ 16 < f) :
    Calls Tryz.prog 3 #[.agg #[.int .i64 n, .int .i64 s, .int .i64 f], v, .int .u8 (t : Int)] w fun e w' => e = .returned (.bool true) ∧ Below w.heap.size w w' := by
  have hs' := Lib.hid hs
  have hale := Lib.hid hs.a_le
  obtain ⟨a, cap, rfl, hcap, hmx, hx⟩ := hs
  clear hx
  have hfew0 := fun W => dFew W n s f (.slice a ops.length cap) ops.length ⟨_, _, rfl⟩
  rw [decide_eq_true h] at hfew0
  have hfew := Lib.hid hfew0
  clear hfew0
  have hq := Lib.hid (fun W => qNew_bad W n s f hbad)
  have hnew := Lib.hid (fun W => dNew_bad W n s f hsz hfz hbad)
  clear h hbad
  go_enter Tryz.func3, Tryz.ntmps3
  go_wp2_with fail
  have hB0 := (Below.refl w.heap.size w).alloc (Nat.le_refl _) (.cells #[.int .i64 n, .int .i64 s, .int .i64 f] 23)
  have hz0 := SizAt.new w n s f 23
  generalize hW : w.alloc (.cells #[.int .i64 n, .int .i64 s, .int .i64 f] 23) = W0 at *
  have hsz0 : W0.heap.size = w.heap.size + 1 := by rw [← hW]; simp
  clear hW
  refine (dSanity _).mono ?_
  rintro e w1 ⟨rfl, hB1⟩
  have hB2 := hB0.trans (hB1.mono hB0.size)
  have hz1 := hz0.below hB1
  have hl1 : w.heap.size + 1 ≤ w1.heap.size := by have := hB1.size; omega
  obtain ⟨c0, c1, c2⟩ := id hz1
  clear hB0 hB1 hz0 hsz0
  go_wp2_with fail
  refine (hfew.out _).mono ?_
  rintro e w2 ⟨rfl, hB3⟩
  have hB4 := hB2.trans (hB3.mono hB2.size)
  have hz2 := hz1.below hB3
  have hl2 : w.heap.size + 1 ≤ w2.heap.size := by have := hB3.size; omega
  obtain ⟨c0', c1', c2'⟩ := id hz2
  have hz2' := Lib.hid hz2
  clear hB2 hB3 hfew hz1 hl1 c0 c1 c2 hz2
  obtain ⟨c0, c1, c2⟩ := id hz2'.out
  go_wp2_with fail
  refine (hnew.out _).mono ?_
  rintro e w3 ⟨rfl, hB5⟩
  have hB6 := hB4.trans (hB5.mono hB4.size)
  obtain ⟨e0, e1, e2⟩ := hz2'.out.below hB5
  clear hB4 hB5 c0 c1 c2 c0' c1' c2'
  go_wp2_with fail
  refine (hq.out _).mono ?_
  rintro e w' ⟨rfl, rfl⟩
  go_wp2
  go_ret
  exact ⟨rfl, hB6⟩

set_option maxRecDepth 100000 in
set_option maxHeartbeats 40000000 in
theorem ply_ok (w : World) (n s f : Nat) (v : Value) (ops : List DOp) (hs : DScrAt w w.heap.size v ops) (t : Nat) (ht : t < 256) (h : n ≤ 12 ∧ ops.length ≤ 60) (n0 : 1 ≤ n) (s0 : 1 ≤ s) (s1 : s ≤ 16) (f0 : 1 ≤ f) (f1 : f ≤ 16) :
    Calls Tryz.prog 3 #[.agg #[.int .i64 n, .int .i64 s, .int .i64 f], v, .int .u8 (t : Int)] w fun e w' => e = .returned (.bool true) ∧ Below w.heap.size w w' := by
  have hs' := Lib.hid hs
  have hale := Lib.hid hs.a_le
  obtain ⟨a, cap, rfl, hcap, hmx, hx⟩ := hs
  clear hx
  have hfew0 := fun W => dFew W n s f (.slice a ops.length cap) ops.length ⟨_, _, rfl⟩
  rw [decide_eq_true (show (n : Int) ≤ 12 ∧ ops.length ≤ 60 by omega)] at hfew0
  have hfew := Lib.hid hfew0
  clear hfew0
  have hq := Lib.hid (fun W => qNew_ok W n s f n0 (by omega) s0 s1 f0 f1)
  have hnew := Lib.hid (fun W => dNew_ok W n s f n0 (by omega) s0 s1 f0 f1)
  have hlen : (ops.length : Int) ≤ 60 := by omega
  have fi0 : (1 : Int) ≤ f := by omega
  have fi1 : (f : Int) ≤ 16 := by omega
  have si0 : (1 : Int) ≤ s := by omega
  have si1 : (s : Int) ≤ 16 := by omega
  have ni0 : (1 : Int) ≤ n := by omega
  have ni1 : (n : Int) ≤ 12 := by omega
  clear h
  go_enter Tryz.func3, Tryz.ntmps3
  go_wp2_with fail
  have hB0 := (Below.refl w.heap.size w).alloc (Nat.le_refl _) (.cells #[.int .i64 n, .int .i64 s, .int .i64 f] 23)
  have hz0 := SizAt.new w n s f 23
  generalize hW : w.alloc (.cells #[.int .i64 n, .int .i64 s, .int .i64 f] 23) = W0 at *
  have hsz0 : W0.heap.size = w.heap.size + 1 := by rw [← hW]; simp
  clear hW
  refine (dSanity _).mono ?_
  rintro e w1 ⟨rfl, hB1⟩
  have hB2 := hB0.trans (hB1.mono hB0.size)
  have hz1 := hz0.below hB1
  have hl1 : w.heap.size + 1 ≤ w1.heap.size := by have := hB1.size; omega
  obtain ⟨c0, c1, c2⟩ := id hz1
  clear hB0 hB1 hz0 hsz0
  go_wp2_with fail
  refine (hfew.out _).mono ?_
  rintro e w2 ⟨rfl, hB3⟩
  have hB4 := hB2.trans (hB3.mono hB2.size)
  have hz2 := hz1.below hB3
  have hl2 : w.heap.size + 1 ≤ w2.heap.size := by have := hB3.size; omega
  obtain ⟨c0', c1', c2'⟩ := id hz2
  have hz2' := Lib.hid hz2
  clear hB2 hB3 hfew hz1 hl1 c0 c1 c2 hz2
  go_wp2_with fail
  refine (hnew.out _).mono ?_
  rintro e w3 ⟨B, rfl, hD3, hBa, hB5⟩
  have hB6 := hB4.trans (hB5.mono hB4.size)
  have hz3 := Lib.hid (hz2'.out.below hB5)
  obtain ⟨e0, e1, e2⟩ := id hz3.out
  have hD3' := Lib.hid hD3
  have hBa' : Hid (∀ q ∈ B.all, w.heap.size + 1 ≤ q) := fun q hq => by have := hBa q hq; omega
  clear hB4 hB5 hnew hBa hD3 c0' c1' c2' hz2'
  go_wp2_with fail
  refine (hq.out _).mono ?_
  rintro e w4 ⟨R, rfl, hR4, hRa, hB7⟩
  have hB8 := hB6.trans (hB7.mono hB6.size)
  have hD4 := Lib.hid (hD3'.out.below hB7)
  have hR4' := Lib.hid hR4
  have hRa' : Hid (∀ q ∈ R.all, w3.heap.size ≤ q) := hRa
  have hRw : Hid (∀ q ∈ R.all, w.heap.size + 1 ≤ q) := fun q hq => by have := hRa q hq; have := hB6.size; have := hz3.out.c0; have := World.block_lt_of_cell? _ _ this; simp only at this; omega
  have hDlt := Lib.hid hD3'.out.all_lt
  clear hB6 hB7 hR4 hRa hq e0 e1 e2 hD3'
  go_wp2_with fail
  refine (dClone _ B _ hD4.out).mono ?_
  rintro e w5 ⟨C, rfl, hC5, hCa, hB9⟩
  have hR5 := Lib.hid (hR4'.out.below hB9)
  have hD5 := Lib.hid (hD4.out.below hB9)
  have hC5' := Lib.hid hC5
  have hCa' : Hid (∀ q ∈ C.all, w4.heap.size ≤ q) := hCa
  have hB10 := hB8.trans (hB9.mono hB8.size)
  have hz9 := Lib.hid hB9.size
  have hltB := Lib.hid hD4.out.all_lt
  have hltR := Lib.hid hR4'.out.all_lt
  clear hB8 hB9 hD4 hR4' hC5 hCa
  go_wp2_with fail
  refine (qClone _ R _ hR5.out).mono ?_
  rintro e w6 ⟨U, rfl, hU6, hUa, hB11⟩
  have hP : Hid (PlyI w B R C U (newD n s f) (newD n s f) (newD n s f) [] [] (.slice none 0 0) (.slice none 0 0) w6) := by
    have zz := hz9.out
    refine ⟨hD5.out.below hB11, hR5.out.below hB11, hC5'.out.below hB11, hU6, SlAt.nil _ _, SlAt.nil _ _, ⟨Nat.zero_le _, Nat.zero_le _⟩, hB10.trans (hB11.mono hB10.size), ⟨hBa'.out, hRw.out⟩, fun q hq => ⟨fun hm => ?_, fun hm => ?_, fun hm => ?_⟩, fun q hq => ⟨fun hm => ?_, fun hm => ?_, fun hm => ?_⟩, by simp [newD, newM]; omega⟩
    · have a := hRa'.out q hm; have b := hDlt.out q hq; omega
    · have a := hCa'.out q hm; have b := hltB.out q hq; omega
    · have a := hUa q hm; have b := hltB.out q hq; omega
    · have a := hRa'.out q hq; have b := hDlt.out q hm; omega
    · have a := hCa'.out q hm; have b := hltR.out q hq; omega
    · have a := hUa q hm; have b := hltR.out q hq; omega
  clear hB10 hB11 hD5 hR5 hC5' hU6 hUa hBa' hRa' hRw hCa' hz9 hltB hltR hDlt
  go_wp2_with fail
  go_loopw [12, 13, 14, 15, 16] (fun cv uv iv jv q wr => ∃ (k : Nat) (C U : DB) (dc : Dv), k ≤ ops.length ∧ cv = .pointer (some ⟨C.d, 0, none⟩) ∧ uv = .pointer (some ⟨U.d, 0, none⟩) ∧ q = .int .i64 (k : Int) ∧ Hid (PlyI w B R C U (runD (ops.take k) (newD n s f, [])).1 (runD (ops.take k) (newD n s f, [])).1 dc (runD (ops.take k) (newD n s f, [])).2 (runD (ops.take k) (newD n s f, [])).2 iv jv wr)) (fun _ _ _ _ q _ => ops.length - (intOf q).toNat)
  case atStart => exact ⟨0, C, U, newD n s f, Nat.zero_le _, rfl, rfl, rfl, hP⟩
  case round =>
    obtain ⟨k, C, U, dc, hk, rfl, rfl, rfl, hI⟩ := hrel
    clear hP
    by_cases hkl : k < ops.length
    · have hkli : (k : Int) < (ops.length : Int) := by omega
      obtain ⟨o, ho⟩ : ∃ o, ops[k]? = some o := ⟨ops[k], List.getElem?_eq_getElem hkl⟩
      have hT1 := Lib.hid (runD_take_succ ops (newD n s f, []) k o ho)
      have hMl : Hid ((runD (ops.take k) (newD n s f, [])).1.M.length ≤ 64) := by
        have := (Keeps.run (ops.take k) (fun o ho => hale.out o (List.mem_of_mem_take ho)) (newD n s f, [])).m
        show _ ≤ 64
        rw [this]; simp [newD, newM]; omega
      generalize runD (ops.take k) (newD n s f, []) = x at *
      obtain ⟨d, img⟩ := x
      simp only at hI hMl hT1
      have hcvt := cvtAt t ht
      by_cases hat : k = t
      case' pos =>
        subst hat
        go_wp2_with fail
        refine (dClone _ B _ hI.out.dev).mono ?_
        rintro e w5 ⟨C', rfl, hC, hCa, hB⟩
        have hR5 := Lib.hid (hI.out.rev.below hB)
        have hC' := Lib.hid hC
        have hCa' := Lib.hid hCa
        have hB' := Lib.hid hB
        clear hC hCa hB
        go_wp2_with fail
        refine (qClone _ R _ hR5.out).mono ?_
        rintro e wc ⟨U', rfl, hU, hUa, hB2⟩
        have hIc := Lib.hid (hI.out.cl hB'.out hC'.out hCa'.out hB2 hU hUa hMl.out)
        clear hU hUa hB2 hR5 hC' hCa' hB' hcvt hI
      case' neg =>
        have hkt : ((k : Int) == (t : Int)) = false := by simp; omega
        have hIc := Lib.hid hI.out
        clear hI hat
      all_goals
        obtain ⟨b, off, pv, rfl, hbP, g0, g1, g2, g3, g4, g5, hpv, hpl, hoa⟩ := hs'.out.get hIc.out.below ho
        obtain ⟨pa, pn, pc, rfl⟩ := hpv.shape
        obtain ⟨ia, ik, ic, hiv⟩ := hIc.out.im.shape
        obtain ⟨ja, jk, jc, hjv⟩ := hIc.out.jm.shape
        subst hiv
        subst hjv
        go_wp2_with fail
        refine (ldo23g _ B d hIc.out.dev o _ _ img (fun b => b < w.heap.size) hpv hpl hIc.out.okP (fun b => b ∉ B.all ∧ b ∉ R.all) (fun b hb hm => hb.1 (B.l_all b hm)) hIc.out.okN hIc.out.im hIc.out.il.1 hoa).mono ?_
        rintro e w8 ⟨iv', rfl, hD8, hF8, him8⟩
        have hI8 := Lib.hid (hIc.out.opB hD8 hF8 him8 (doI_length o img d hIc.out.il.1 hIc.out.dev.ok.m1))
        obtain ⟨ia2, ik2, ic2, hiv2⟩ := him8.shape
        subst hiv2
        clear hD8 hF8 him8 hIc hpv g0 g1 g2 g3 g4 g5 hbP
        generalize hW9 : w8.alloc (.cells #[.string (doT o d), .int .i64 (doE o img d)] 38) = w9
        have hF9 : Fr [] w8 w9 := by rw [← hW9]; exact (Fr.refl _ _).alloc _
        obtain ⟨x1, hx1⟩ : ∃ x1, w8.heap.size = x1 := ⟨_, rfl⟩
        have r0 : w9.cell? ⟨x1, 0, none⟩ = some (.string (doT o d)) := by rw [← hW9, ← hx1]; simp
        have r1 : w9.cell? ⟨x1, 1, none⟩ = some (.int .i64 (doE o img d)) := by rw [← hW9, ← hx1]; simp
        have hI9 := Lib.hid (hI8.out.fr0 hF9)
        have hxR : Hid (x1 ∉ R.l) := fun hm => by have := hI8.out.rev.all_lt x1 (R.l_all _ hm); omega
        have hx1l : x1 < w9.heap.size := World.block_lt_of_cell? _ _ r0
        obtain ⟨b2, off2, pv2, hae, hbP, g0, g1, g2, g3, g4, g5, hpv, hpl2, hoa2⟩ := hs'.out.get hI9.out.below ho
        cases hae
        obtain ⟨pa2, pn2, pc2, rfl⟩ := hpv.shape
        have r0h := Lib.hid r0
        have r1h := Lib.hid r1
        clear hF9 hI8 r0 r1
        go_wp2_with fail
        refine (lqdog _ R d hI9.out.rev o _ _ img (fun b => b < w.heap.size) hpv hpl2 hI9.out.okR (fun b => b ∉ B.all ∧ b ∉ R.all) (fun b hb hm => hb.2 (R.l_all b hm)) hI9.out.okN hI9.out.jm hI9.out.il.2 hoa2).mono ?_
        rintro e w10 ⟨jv', rfl, hD10, hF10, him10⟩
        have hI10 := Lib.hid (hI9.out.opR hD10 hF10 him10 (doI_length o img d hI9.out.il.2 hI9.out.rev.ok.m1))
        obtain ⟨ja2, jk2, jc2, hjv2⟩ := him10.shape
        subst hjv2
        have s0 := (hF10.cell (World.block_lt_of_cell? _ _ r0h.out) hxR.out).trans r0h.out
        have s1' := (hF10.cell (World.block_lt_of_cell? _ _ r1h.out) hxR.out).trans r1h.out
        have hx1m := Nat.lt_of_lt_of_le hx1l hF10.size
        clear hD10 hF10 him10 hI9 hpv g0 g1 g2 g3 g4 g5 hbP hW9 hx1 r0h r1h hxR hx1l
        generalize hW11 : w10.alloc (.cells #[.string (doT o d), .int .i64 (doE o img d)] 38) = w11
        have hF11 : Fr [] w10 w11 := by rw [← hW11]; exact (Fr.refl _ _).alloc _
        obtain ⟨x2, hx2⟩ : ∃ x2, w10.heap.size = x2 := ⟨_, rfl⟩
        have y0 : w11.cell? ⟨x2, 0, none⟩ = some (.string (doT o d)) := by rw [← hW11, ← hx2]; simp
        have y1 : w11.cell? ⟨x2, 1, none⟩ = some (.int .i64 (doE o img d)) := by rw [← hW11, ← hx2]; simp
        have z0 := (hF11.cell (World.block_lt_of_cell? _ _ s0) (by simp)).trans s0
        have z1 := (hF11.cell (World.block_lt_of_cell? _ _ s1') (by simp)).trans s1'
        have hI11 := Lib.hid (hI10.out.fr0 hF11)
        have hcmp := beqT (rfl : doT o d = doT o d)
        have q1 : doD o img d = (runD (ops.take (k + 1)) (newD n s f, [])).1 := by rw [hT1.out]
        have q2 : doI o img d = (runD (ops.take (k + 1)) (newD n s f, [])).2 := by rw [hT1.out]
        have hI12 := hI11.out
        rw [q1, q2] at hI12
        have hI13 := Lib.hid hI12
        clear q1 q2 hI12
        clear hF11 hI10 hI11 s0 s1'
        generalize doT o d = T at *
        generalize doE o img d = E at *
        go_wp2_with fail
        go_roundw
        case rel => exact ⟨k + 1, _, _, _, by omega, rfl, rfl, by go_num, hI13⟩
        case measure => simp [intOf]; omega
    · obtain rfl : k = ops.length := by omega
      rw [List.take_length] at hI
      have hMl : (runD ops (newD n s f, [])).1.M.length ≤ 64 := by
        have := (Keeps.run ops hale.out (newD n s f, [])).m
        show _ ≤ 64
        rw [this]; simp [newD, newM]; omega
      generalize (runD ops (newD n s f, [])).1 = d at *
      have hMl' := Lib.hid hMl
      obtain ⟨wl, rfl⟩ : ∃ wl : World, wl = wr := ⟨_, rfl⟩
      clear hMl
      go_wp2_with fail
      refine (qAlike _ B R d hI.out.dev hI.out.rev hMl'.out).mono ?_
      rintro e w8 ⟨rfl, hB8⟩
      have hI8 := Lib.hid (hI.out.fr0 (Fr.of_below hB8))
      clear hB8 hI
      go_wp2_with fail
      refine (qAlike _ C U dc hI8.out.dvc hI8.out.rvc hI8.out.dcm).mono ?_
      rintro e w9 ⟨rfl, hB9⟩
      have hfin := hI8.out.below.trans (hB9.mono hI8.out.below.size)
      go_wp2_with fail
      go_ret
      exact ⟨rfl, hfin⟩


theorem lPlays (w : World) (n s f : Int) (_hn : n ≤ 9223372036854775807) (hsz : s ≤ 9223372036854775807) (hfz : f ≤ 9223372036854775807) (v : Value) (ops : List DOp) (hs : DScrAt w w.heap.size v ops) (t : Int) (ht : 0 ≤ t ∧ t < 256) :
    Calls Tryz.prog 3 #[.agg #[.int .i64 n, .int .i64 s, .int .i64 f], v, .int .u8 t] w fun e w' => e = .returned (.bool true) ∧ Below w.heap.size w w' := by
  obtain ⟨t, rfl⟩ : ∃ k : Nat, t = (k : Int) := ⟨t.toNat, by omega⟩
  by_cases h : n ≤ 12 ∧ ops.length ≤ 60
  · by_cases hbad : n < 1 ∨ 4096 < n ∨ s < 1 ∨ 16 < s ∨ f < 1 ∨ 16 < f
    · exact ply_bad w n s f v ops hs t h hsz hfz hbad
    · obtain ⟨n', rfl⟩ : ∃ k : Nat, n = (k : Int) := ⟨n.toNat, by omega⟩
      obtain ⟨s', rfl⟩ : ∃ k : Nat, s = (k : Int) := ⟨s.toNat, by omega⟩
      obtain ⟨f', rfl⟩ : ∃ k : Nat, f = (k : Int) := ⟨f.toNat, by omega⟩
      exact ply_ok w n' s' f' v ops hs t (by omega) (by omega) (by omega) (by omega) (by omega) (by omega) (by omega)
  · exact ply_few w n s f v ops hs t h

end Go.Proofs.YtogljlloobjeoaaGreat
