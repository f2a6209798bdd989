/- What stands through the call of a law of chapters 23 and 33: the device, the boxed size, the frame. Restore, for an image of any length. -/
import Derived.Test.YtogljlloobjeoaaGreatDPre
namespace Go.Proofs.YtogljlloobjeoaaGreat
open Go.RowKit

theorem SlAt.get {w : World} {ok : Nat → Prop} {a : Option Addr} {n c : Nat} {xs : List Value} (h : SlAt w ok (.slice a n c) xs) {j : Nat} {x : Value} (hj : xs[j]? = some x) : ∃ b o, a = some ⟨b, o, none⟩ ∧ ok b ∧ b < w.heap.size ∧ w.cell? ⟨b, o + j, none⟩ = some x := by
  obtain ⟨a', c', e, hc, hx⟩ := h
  injection e with e1 e2 e3
  subst e1
  obtain ⟨b, o, ha, hb, hl, hg⟩ := hx (by have := (List.getElem?_eq_some_iff.1 hj).1; omega)
  exact ⟨b, o, ha, hb, hl, hg j x hj⟩
theorem SlAt.len {w : World} {ok : Nat → Prop} {v : Value} {xs : List Value} (h : SlAt w ok v xs) : ∃ a c, v = .slice a xs.length c := by
  obtain ⟨a', c', e, hc, hx⟩ := h
  exact ⟨a', c', e⟩
theorem SlAt.shape {w : World} {ok : Nat → Prop} {v : Value} {xs : List Value} (h : SlAt w ok v xs) : ∃ a n c, v = .slice a n c := by
  obtain ⟨a', c', e, hc, hx⟩ := h
  exact ⟨a', _, c', e⟩
theorem ints_length (xs : List Int) : (ints xs).length = xs.length := by simp [ints]
theorem strs_length (xs : List ByteArray) : (strs xs).length = xs.length := by simp [strs]
theorem strs_get {xs : List ByteArray} {i : Nat} {x : ByteArray} (h : xs[i]? = some x) : (strs xs)[i]? = some (.string x) := by simp [strs, h]
theorem ints_get {xs : List Int} {i : Nat} {x : Int} (h : xs[i]? = some x) : (ints xs)[i]? = some (.int .i64 x) := by simp [ints, h]

/-- The boxed size. -/
structure SizAt (W : World) (b : Nat) (n s f : Int) : Prop where
  c0 : W.cell? ⟨b, 0, none⟩ = some (.int .i64 n)
  c1 : W.cell? ⟨b, 1, none⟩ = some (.int .i64 s)
  c2 : W.cell? ⟨b, 2, none⟩ = some (.int .i64 f)
theorem SizAt.fr {W W' : World} {b : Nat} {n s f : Int} (h : SizAt W b n s f) {S : List Nat} (hf : Fr S W W') (hb : b ∉ S) : SizAt W' b n s f :=
  ⟨(hf.cell (World.block_lt_of_cell? _ _ h.c0) hb).trans h.c0, (hf.cell (World.block_lt_of_cell? _ _ h.c1) hb).trans h.c1, (hf.cell (World.block_lt_of_cell? _ _ h.c2) hb).trans h.c2⟩
theorem SizAt.below {W W' : World} {b : Nat} {n s f : Int} (h : SizAt W b n s f) (hf : Below W.heap.size W W') : SizAt W' b n s f := h.fr (S := []) (Fr.of_below hf) (by simp)
theorem SizAt.new (w : World) (n s f : Int) (T : TypeId) : SizAt (w.alloc (.cells #[.int .i64 n, .int .i64 s, .int .i64 f] T)) w.heap.size n s f := ⟨by simp, by simp, by simp⟩

/-- What stands through the call. -/
structure ComI (w : World) (B : DB) (n s f : Int) (d : Dv) (W : World) : Prop where
  dev : DevAt W B d
  below : Below w.heap.size w W
  z : SizAt W w.heap.size n s f
  old : ∀ k ∈ B.all, w.heap.size + 1 ≤ k
theorem ComI.old' {w : World} {B : DB} {n s f : Int} {d : Dv} {W : World} (h : ComI w B n s f d W) : ∀ k ∈ B.l, w.heap.size ≤ k := fun k hk => by have := h.old k (B.l_all k hk); omega
theorem ComI.nz {w : World} {B : DB} {n s f : Int} {d : Dv} {W : World} (h : ComI w B n s f d W) : w.heap.size ∉ B.l := fun hm => by have := h.old _ (B.l_all _ hm); omega
theorem ComI.op {w : World} {B : DB} {n s f : Int} {d : Dv} {W : World} (h : ComI w B n s f d W) {d' : Dv} {W' : World} (hD : DevAt W' B d') (hf : Fr B.l W W') : ComI w B n s f d' W' :=
  ⟨hD, h.below.trans (hf.below h.below.size h.old'), h.z.fr hf h.nz, h.old⟩
theorem ComI.fr0 {w : World} {B : DB} {n s f : Int} {d : Dv} {W : World} (h : ComI w B n s f d W) {W' : World} (hf : Fr [] W W') : ComI w B n s f d W' := h.op (h.dev.fr hf (by simp)) (hf.weaken (by simp))
theorem ComI.bel {w : World} {B : DB} {n s f : Int} {d : Dv} {W : World} (h : ComI w B n s f d W) {W' : World} (hf : Below W.heap.size W W') : ComI w B n s f d W' := h.op (h.dev.below hf) (Fr.of_below hf)
theorem ComI.ok {w : World} {B : DB} {n s f : Int} {d : Dv} {W : World} (h : ComI w B n s f d W) : ∀ b, b < w.heap.size → b ∉ B.l ∧ b < W.heap.size :=
  fun b hb => ⟨fun hm => by have := h.old' b hm; omega, Nat.lt_of_lt_of_le hb h.below.size⟩
/-- Where the call began, nothing has turned. -/
theorem SlAt.old {w W : World} {v : Value} {xs : List Value} (h : SlAt w (fun b => b < w.heap.size) v xs) (hb : Below w.heap.size w W) : SlAt W (fun b => b < w.heap.size) v xs := h.fr (S := []) (Fr.of_below hb) (by simp)

/-! ### Restore, for an image of any length -/
set_option maxRecDepth 100000 in
set_option maxHeartbeats 2000000 in
theorem mLoad_len (w : World) (pm pb : Nat) (ok : Nat → Prop) (M : List Sec) (hM : MemAt w pm pb M) (v : Value) (l : List ByteArray) (hl : SlAt w ok v (strs l)) (he : ¬ l.length = M.length) :
    Calls Tryz.prog 80 #[.pointer (some ⟨pm, 0, none⟩), v] w fun e w' => e = .returned (.int .i64 1) ∧ w = w' := by
  obtain ⟨cap, hc, hcap⟩ := hM.ptr
  obtain ⟨a1, cap1, rfl, hc1, hx1⟩ := hl
  have e1 : (strs l).length = l.length := by simp [strs]
  rw [e1]
  have hne : ((l.length : Int) != (M.length : Int)) = true := by simp; omega
  clear hx1 e1
  go_enter Tryz.func80, Tryz.ntmps80
  go_wp2
  go_ret
  exact ⟨rfl, rfl⟩
theorem mLoadL (w : World) (pm pb : Nat) (ok : Nat → Prop) (M : List Sec) (hM : MemAt w pm pb M) (hnM : M.length ≤ 4096) (v : Value) (l : List ByteArray) (hl : SlAt w ok v (strs l)) (hok : ∀ b, ok b → b ≠ pb) :
    Calls Tryz.prog 80 #[.pointer (some ⟨pm, 0, none⟩), v] w fun e w' => e = .returned (.int .i64 (ldE M l)) ∧ MemAt w' pm pb (ldM M l) ∧ Fr [pb] w w' := by
  by_cases he : l.length = M.length
  · exact mLoad w pm pb ok M hM hnM v l hl (by omega) hok
  · have ho : ¬ okImg M l := fun h => he h.1
    have h1 : ldE M l = 1 := if_neg ho
    have h2 : ldM M l = M := if_neg ho
    rw [h1, h2]
    refine (mLoad_len w pm pb ok M hM v l hl he).mono ?_
    rintro e w' ⟨rfl, rfl⟩
    exact ⟨rfl, hM, Fr.refl _ _⟩
theorem dRestoreL (w : World) (B : DB) (d : Dv) (h : DevAt w B d) (ok : Nat → Prop) (v : Value) (l : List ByteArray) (hv : SlAt w ok v (strs l)) (hok : ∀ b, ok b → b ∉ B.l) :
    Calls Tryz.prog 40 #[.pointer (some ⟨B.d, 0, none⟩), v] w fun e w' => e = .returned (.int .i64 (ldE d.M l)) ∧ DevAt w' B { d with M := ldM d.M l } ∧ Fr B.l w w' := by
  have c4 := h.c4
  have hl := h.ok.m1
  have hv' := Lib.hid hv
  obtain ⟨a, cap, rfl, _⟩ := hv
  go_enter Tryz.func40, Tryz.ntmps40
  go_wp2_with fail
  refine (mLoadL _ _ _ ok _ h.mem hl _ l hv'.out (fun b hb e => hok b hb (by subst e; simp [DB.l]))).mono ?_
  rintro e w' ⟨rfl, hM, hF⟩
  have hr := h.frM hM hF (Keeps.mem _ _ (fun k => ldM_WF k _) (ldM_length _ _))
  clear hM hF c4 h
  go_wp2
  go_ret
  exact ⟨rfl, hr⟩

end Go.Proofs.YtogljlloobjeoaaGreat
