/- What the laws of chapter 23 share: an operation of the script, the first steps of a law, the plain law of what never goes back. -/
import Derived.Test.YtogljlloobjeoaaGreatDSan
import Derived.Test.YtogljlloobjeoaaGreatDDo
namespace Go.Proofs.YtogljlloobjeoaaGreat
open Go.RowKit
set_option linter.unusedSimpArgs false

theorem oneC_bool (b : Bool) : ∀ u ∈ [Value.bool b], u.oneCell' = true := by intro u hu; simp at hu; subst hu; rfl
theorem bools_succ (F : List Bool) (k : Nat) (h : k < F.length) : bools (F.take (k + 1)) = bools (F.take k) ++ [.bool F[k]] := by
  unfold bools
  rw [List.take_succ_eq_append_getElem h, List.map_append]; rfl
theorem strs_succ (F : List ByteArray) (k : Nat) (h : k < F.length) : strs (F.take (k + 1)) = strs (F.take k) ++ [.string F[k]] := by
  unfold strs
  rw [List.take_succ_eq_append_getElem h, List.map_append]; rfl
/-- Operation j of the script, in a later world. -/
theorem DScrAt.get {w wr : World} {P : Nat} {a : Option Addr} {n cap : Nat} {ops : List DOp} (h : DScrAt w P (.slice a n cap) ops) (hB : Below P w wr) {j : Nat} {o : DOp} (ho : ops[j]? = some o) :
    ∃ b off pv, a = some ⟨b, off, none⟩ ∧ b < P ∧ wr.cell? ⟨b, off + j * 6, none⟩ = some (.int .i64 o.kd) ∧ wr.cell? ⟨b, off + j * 6 + 1, none⟩ = some (.int .i64 o.a) ∧ wr.cell? ⟨b, off + j * 6 + 2, none⟩ = some (.int .i64 o.b) ∧
      wr.cell? ⟨b, off + j * 6 + 3, none⟩ = some (.int .u8 o.fill.toNat) ∧ wr.cell? ⟨b, off + j * 6 + 4, none⟩ = some (.bool o.short) ∧ wr.cell? ⟨b, off + j * 6 + 5, none⟩ = some pv ∧
      SlAt wr (fun b => b < P) pv (ints o.pk) ∧ o.pk.length ≤ maxLen ∧ o.a ≤ 9223372036854775807 := by
  obtain ⟨a', cap', e, hc, hm, hx⟩ := h.below hB
  injection e with e1 e2 e3
  subst e1; subst e2; subst e3
  obtain ⟨b, off, rfl, hb, hop⟩ := hx (by have := (List.getElem?_eq_some_iff.1 ho).1; omega)
  obtain ⟨pv, h⟩ := hop j o ho
  exact ⟨b, off, pv, rfl, hb, h⟩

/-- Where the picks and the images of a script may lie. -/
theorem picks_ok {w : World} {B : DB} {d : Dv} (h : DevAt w B d) {P : Nat} (hP : ∀ k ∈ B.all, P ≤ k) : ∀ b, b < P → b ∉ B.l ∧ b < w.heap.size := fun b hb => by
  have h1 := h.lt.1
  have h2 := hP B.d (by simp [DB.all])
  exact ⟨fun hm => by have := hP b (B.l_all b hm); omega, by omega⟩
theorem all_l {B : DB} {P : Nat} (hP : ∀ k ∈ B.all, P ≤ k) : ∀ k ∈ B.l, P ≤ k := fun k hk => hP k (B.l_all k hk)

/-! ### What never goes back -/
structure Up2 (d e : Dv) : Prop where
  cnt : d.cnt ≤ e.cnt
  clk : d.clk ≤ e.clk
  f : ∀ i : Nat, d.F[i]? = some true → e.F[i]? = some true
theorem Up2.refl (d : Dv) : Up2 d d := ⟨Int.le_refl _, Int.le_refl _, fun _ h => h⟩
theorem Up2.trans {d e f : Dv} (h : Up2 d e) (k : Up2 e f) : Up2 d f := ⟨Int.le_trans h.cnt k.cnt, Int.le_trans h.clk k.clk, fun i hi => k.f i (h.f i hi)⟩
theorem Up2.stp {d : Dv} {c : Int} {g : Dv → Dv} (h : c = 0 → Up2 d.less (g d.less)) : Up2 d (stpD d c g) := by
  unfold stpD
  split
  · exact Up2.refl d
  · split
    · exact Up2.refl d
    · split
      · exact ⟨Int.le_refl _, Int.le_refl _, fun _ h => h⟩
      · rename_i hc _
        have k := h (by omega)
        exact ⟨k.cnt, k.clk, k.f⟩
theorem Up2.mem (d : Dv) (M : List Sec) : Up2 d { d with M := M } := ⟨Int.le_refl _, Int.le_refl _, fun _ h => h⟩
theorem Up2.fuse (d : Dv) (i : Nat) : Up2 d { d with F := d.F.set i true } := ⟨Int.le_refl _, Int.le_refl _, fun j hj => by
  show (d.F.set i true)[j]? = some true
  rw [List.getElem?_set]
  by_cases e : i = j
  · subst e
    rw [if_pos rfl, if_pos (List.getElem?_eq_some_iff.1 hj).1]
  · rw [if_neg e]; exact hj⟩
theorem Up2.do (o : DOp) (img : List ByteArray) (d : Dv) : Up2 d (doD o img d) := by
  unfold doD
  by_cases h2 : o.kd = 2
  · rw [if_pos h2]; exact Up2.stp fun _ => Up2.mem _ _
  rw [if_neg h2]
  by_cases h3 : o.kd = 3
  · rw [if_pos h3]; exact Up2.stp fun _ => Up2.mem _ _
  rw [if_neg h3]
  by_cases h5 : o.kd = 5
  · rw [if_pos h5]; exact Up2.stp fun _ => ⟨Int.le_refl _, Int.le_refl _, fun _ h => h⟩
  rw [if_neg h5]
  by_cases h6 : o.kd = 6
  · rw [if_pos h6]; exact Up2.stp fun _ => Up2.fuse _ _
  rw [if_neg h6]
  by_cases h7 : o.kd = 7
  · rw [if_pos h7]
    refine Up2.stp fun hc => ?_
    unfold raC at hc
    split at hc
    · split at hc
      · cases hc
      · rename_i h; exact ⟨by show d.cnt ≤ o.a; omega, Int.le_refl _, fun _ h => h⟩
    · cases hc
  rw [if_neg h7]
  by_cases h8 : o.kd = 8
  · rw [if_pos h8]
    unfold dTi
    split
    · exact Up2.refl _
    · exact ⟨Int.le_refl _, by show d.clk ≤ d.clk + o.a; omega, fun _ h => h⟩
  rw [if_neg h8]
  by_cases h9 : o.kd = 9
  · rw [if_pos h9]; exact ⟨Int.le_refl _, Int.le_refl _, fun _ h => h⟩
  rw [if_neg h9]
  by_cases h10 : o.kd = 10
  · rw [if_pos h10]; exact ⟨Int.le_refl _, Int.le_refl _, fun _ h => h⟩
  rw [if_neg h10]
  by_cases h11 : o.kd = 11
  · rw [if_pos h11]; exact ⟨Int.le_refl _, Int.le_refl _, fun _ h => h⟩
  rw [if_neg h11]
  by_cases h12 : o.kd = 12
  · rw [if_pos h12]; exact Up2.mem _ _
  rw [if_neg h12]
  by_cases h13 : o.kd = 13
  · rw [if_pos h13]; exact Up2.mem _ _
  rw [if_neg h13]
  by_cases h15 : o.kd = 15
  · rw [if_pos h15]; exact Up2.mem _ _
  rw [if_neg h15]; exact Up2.refl d

theorem dBd_get (d : Dv) (k : Nat) (b : Bool) (h : d.F[k]? = some b) : dBd d (k : Int) = b := by
  have hk := (List.getElem?_eq_some_iff.1 h).1
  unfold dBd
  rw [if_pos (by omega), Int.toNat_natCast, h]; rfl

/-- The script has been played to operation j. -/
structure At23 (wr : World) (B : DB) (ops : List DOp) (x0 : Dv × List ByteArray) (j : Nat) (iv : Value) : Prop where
  dev : DevAt wr B (runD (ops.take j) x0).1
  img : SlAt wr (fun b => b ∉ B.all) iv (strs (runD (ops.take j) x0).2)
  il : (runD (ops.take j) x0).2.length ≤ 4096
theorem At23.start {wr : World} {B : DB} {ops : List DOp} {d : Dv} (h : DevAt wr B d) : At23 wr B ops (d, []) 0 (.slice none 0 0) := ⟨h, SlAt.nil _ _, Nat.zero_le _⟩
theorem At23.fr {wr w' : World} {B : DB} {ops : List DOp} {x0 : Dv × List ByteArray} {j : Nat} {iv : Value} {_S : List Nat} (h : At23 wr B ops x0 j iv) (hf : Fr [] wr w') : At23 w' B ops x0 j iv :=
  ⟨h.dev.fr hf (by simp), h.img.fr hf (by simp), h.il⟩
end Go.Proofs.YtogljlloobjeoaaGreat
