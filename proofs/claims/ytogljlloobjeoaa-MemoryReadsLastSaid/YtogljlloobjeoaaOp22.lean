/- An operation of chapter 22 that is handed over by value. -/
import Derived.Test.YtogljlloobjeoaaOpenS
import Derived.Lib.SmallJoins
namespace Go.Proofs.Ytogljlloobjeoaa
open Go.ChangeShapes Go.WideShapes Go.ChangeAt Go.RowKit Go.Deep

theorem arr5 {α : Type} {cs : Array α} (h : cs.size = 5) : ∃ c0 c1 c2 c3 c4, cs = #[c0, c1, c2, c3, c4] := by
  obtain ⟨l⟩ := cs
  match l, h with
  | [c0, c1, c2, c3, c4], _ => exact ⟨c0, c1, c2, c3, c4, rfl⟩

section
variable {H : Type} {enc : TypeId × Value → H} {w : World} {base : Nat} {held : Bool}
theorem open_picks22 {v : Value} {d : DataW H} {p : List MemPlace} (h : DataW.Trod enc Try.prog w 0 (fun _ => true) held 35 v d p) (hv : ∃ a n c, v = .slice a n c) : ∃ zs : List Int, zs.length ≤ maxLen ∧ SlAt w (fun b => b < w.heap.size) v (ints zs) := by
  obtain ⟨a, n, c, rfl⟩ := hv
  obtain ⟨fuel, hf⟩ := h
  exact open_picks hf
set_option maxRecDepth 100000 in
theorem open_op22 {r : Reach} {b0 : Nat} {spare : Nat → Bool} {v : Value} {d : DataW H} {p : List MemPlace} (hv : Value.okWide Try.prog w r b0 37 v) (h : DataW.Trod enc Try.prog w base spare held 37 v d p) :
    ∃ (kd i : Int) (f : UInt8) (sz : Int) (pv : Value) (zs : List Int), v = .agg #[.int .i64 kd, .int .i64 i, .int .u8 f.toNat, .int .i64 sz, pv] ∧ zs.length ≤ maxLen ∧ SlAt w (fun b => b < w.heap.size) pv (ints zs) := by
  obtain ⟨cs, rfl, hsz⟩ := okWide_struct Try.underlying37 hv
  obtain ⟨c0, c1, c2, c3, c4, rfl⟩ := arr5 (hsz.trans (show Try.prog.cellsOf 37 = 5 by kernel_rfl))
  obtain ⟨fuel, hf⟩ := h
  obtain ⟨ys, n', hn', hy, hlen, hyl, hfi⟩ := DataW.trod_struct Try.underlying37 hf
  have hone : oneCellFields Try.prog _ = true := (show oneCellFields Try.prog (match Try.prog.underlying 37 with | some (.struct fs) => fs | _ => #[]) = true by kernel_rfl)
  rw [Try.underlying37] at hone
  obtain ⟨o0, k0⟩ := hone_of hone 0 _ rfl
  obtain ⟨o1, k1⟩ := hone_of hone 1 _ rfl
  obtain ⟨o2, k2⟩ := hone_of hone 2 _ rfl
  obtain ⟨o3, k3⟩ := hone_of hone 3 _ rfl
  obtain ⟨o4, k4⟩ := hone_of hone 4 _ rfl
  have t0 := hfi 0 _ rfl
  have t1 := hfi 1 _ rfl
  have t2 := hfi 2 _ rfl
  have t3 := hfi 3 _ rfl
  have t4 := hfi 4 _ rfl
  rw [o0, k0] at t0
  rw [o1, k1] at t1
  rw [o2, k2] at t2
  rw [o3, k3] at t3
  rw [o4, k4] at t4
  have y0 : ys[0]? = some (ys[0]'(by rw [hyl]; decide)) := List.getElem?_eq_getElem _
  have y1 : ys[1]? = some (ys[1]'(by rw [hyl]; decide)) := List.getElem?_eq_getElem _
  have y2 : ys[2]? = some (ys[2]'(by rw [hyl]; decide)) := List.getElem?_eq_getElem _
  have y3 : ys[3]? = some (ys[3]'(by rw [hyl]; decide)) := List.getElem?_eq_getElem _
  have y4 : ys[4]? = some (ys[4]'(by rw [hyl]; decide)) := List.getElem?_eq_getElem _
  obtain ⟨n0, e0, _, _⟩ := DataW.trod_int Try.underlying3 (t0.trans y0)
  obtain ⟨n1, e1, _, _⟩ := DataW.trod_int Try.underlying3 (t1.trans y1)
  obtain ⟨n2, e2, _, w2⟩ := DataW.trod_int Try.underlying5 (t2.trans y2)
  obtain ⟨n3, e3, _, _⟩ := DataW.trod_int Try.underlying3 (t3.trans y3)
  obtain ⟨zs, hz, hs⟩ := open_picks (v := c4) (by simpa [Value.cells] using t4.trans y4)
  simp [Value.cells] at e0 e1 e2 e3
  subst e0; subst e1; subst e2; subst e3
  have hn2 : 0 ≤ n2 ∧ n2 < 256 := by
    have w3 : (decide (IntKind.min .u8 ≤ n2) && decide (n2 ≤ IntKind.max .u8)) = true := w2
    rw [Bool.and_eq_true, decide_eq_true_iff, decide_eq_true_iff] at w3
    have e1 : IntKind.min .u8 = 0 := by decide
    have e2 : IntKind.max .u8 = 255 := by decide
    rw [e1, e2] at w3
    omega
  have hb : ((UInt8.ofNat n2.toNat).toNat : Int) = n2 := by
    rw [UInt8.toNat_ofNat']
    omega
  exact ⟨n0, n1, UInt8.ofNat n2.toNat, n3, c4, zs, by rw [hb], hz, hs⟩
end

end Go.Proofs.Ytogljlloobjeoaa
