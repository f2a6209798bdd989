/- The specification's device of chapter 23 in memory. Nothing of the program stands here. -/
import Derived.Test.YtogljlloobjeoaaGreatDBase
namespace Go.Proofs.YtogljlloobjeoaaGreat
open Go.RowKit

/-- What Armed and Left say. -/
def ArmRel (ar : Bool) (l lf : Int) : Prop := (ar = false ∧ lf = -1) ∨ (ar = true ∧ l = lf ∧ 0 ≤ lf)
structure RevAt (w : World) (B : DB) (d : Dv) : Prop where
  mem : MemAt w B.m B.b d.M
  k0 : w.cell? ⟨B.d, 0, none⟩ = some (.pointer (some ⟨B.m, 0, none⟩))
  c0 : ∃ cap, d.S.length ≤ cap ∧ w.cell? ⟨B.d, 1, none⟩ = some (.slice (some ⟨B.s, 0, none⟩) d.S.length cap)
  c1 : ∃ cap, d.F.length ≤ cap ∧ w.cell? ⟨B.d, 2, none⟩ = some (.slice (some ⟨B.f, 0, none⟩) d.F.length cap)
  c2 : w.cell? ⟨B.d, 3, none⟩ = some (.int .i64 d.cnt)
  c3 : w.cell? ⟨B.d, 4, none⟩ = some (.int .i64 d.clk)
  c5 : w.cell? ⟨B.d, 5, none⟩ = some (.bool (!d.dn))
  arm : ∃ ar l, w.cell? ⟨B.d, 6, none⟩ = some (.bool ar) ∧ w.cell? ⟨B.d, 7, none⟩ = some (.int .i64 l) ∧ ArmRel ar l d.lf
  slot : ∀ (j : Nat) x, d.S[j]? = some x → w.cell? ⟨B.s, j, none⟩ = some (.string x)
  fuse : ∀ (j : Nat) x, d.F[j]? = some x → w.cell? ⟨B.f, j, none⟩ = some (.bool x)
  lts : B.s < w.heap.size
  ltf : B.f < w.heap.size
  frd : ∀ o, w.frozen? ⟨B.d, o, none⟩ = false
  frs : ∀ o, w.frozen? ⟨B.s, o, none⟩ = false
  frf : ∀ o, w.frozen? ⟨B.f, o, none⟩ = false
  ne : B.d ≠ B.m ∧ B.d ≠ B.b ∧ B.d ≠ B.s ∧ B.d ≠ B.f ∧ B.m ≠ B.s ∧ B.m ≠ B.f ∧ B.b ≠ B.s ∧ B.b ≠ B.f ∧ B.s ≠ B.f
  ok : d.Ok

section
variable {S : List Nat} {w w' : World} {B : DB} {d : Dv}
theorem RevAt.ltd (h : RevAt w B d) : B.d < w.heap.size := World.block_lt_of_cell? _ _ h.c2
theorem RevAt.lt (h : RevAt w B d) : B.d < w.heap.size ∧ B.m < w.heap.size ∧ B.b < w.heap.size ∧ B.s < w.heap.size ∧ B.f < w.heap.size := ⟨h.ltd, h.mem.lt, h.mem.arr.lt, h.lts, h.ltf⟩
theorem RevAt.all_lt (h : RevAt w B d) : ∀ k ∈ B.all, k < w.heap.size := by
  have := h.lt
  intro k hk
  simp only [DB.all, List.mem_cons, List.not_mem_nil, or_false] at hk
  rcases hk with rfl | rfl | rfl | rfl | rfl <;> omega
theorem RevAt.fr (h : RevAt w B d) (hf : Fr S w w') (hn : ∀ k ∈ S, k ∉ B.all) : RevAt w' B d := by
  have nd : B.d ∉ S := fun hm => hn _ hm (by simp [DB.all])
  have nm : B.m ∉ S := fun hm => hn _ hm (by simp [DB.all])
  have nb : B.b ∉ S := fun hm => hn _ hm (by simp [DB.all])
  have ns : B.s ∉ S := fun hm => hn _ hm (by simp [DB.all])
  have nf : B.f ∉ S := fun hm => hn _ hm (by simp [DB.all])
  have ed : ∀ o, w'.cell? ⟨B.d, o, none⟩ = w.cell? ⟨B.d, o, none⟩ := fun o => hf.cell (p := ⟨B.d, o, none⟩) h.ltd nd
  exact ⟨h.mem.fr hf nm nb, (ed _).trans h.k0, h.c0.imp fun _ hc => ⟨hc.1, (ed _).trans hc.2⟩, h.c1.imp fun _ hc => ⟨hc.1, (ed _).trans hc.2⟩, (ed _).trans h.c2, (ed _).trans h.c3, (ed _).trans h.c5, h.arm.imp fun _ ⟨l, a1, a2, a3⟩ => ⟨l, (ed _).trans a1, (ed _).trans a2, a3⟩,
    fun j x hj => (hf.cell (p := ⟨B.s, j, none⟩) h.lts ns).trans (h.slot j x hj), fun j x hj => (hf.cell (p := ⟨B.f, j, none⟩) h.ltf nf).trans (h.fuse j x hj), Nat.lt_of_lt_of_le h.lts hf.size, Nat.lt_of_lt_of_le h.ltf hf.size,
    fun o => (hf.frozen (p := ⟨B.d, o, none⟩) h.ltd nd).trans (h.frd o), fun o => (hf.frozen (p := ⟨B.s, o, none⟩) h.lts ns).trans (h.frs o), fun o => (hf.frozen (p := ⟨B.f, o, none⟩) h.ltf nf).trans (h.frf o), h.ne, h.ok⟩
theorem RevAt.below (h : RevAt w B d) (hf : Below w.heap.size w w') : RevAt w' B d := h.fr (S := []) (Fr.of_below hf) (by simp)
/-- Its sectors have turned. -/
theorem RevAt.setM (h : RevAt w B d) {M' : List Sec} (hM : MemAt w' B.m B.b M') (hf : Fr [B.b] w w') (hk : Dv.Ok { d with M := M' }) : RevAt w' B { d with M := M' } := by
  have hne := h.ne
  have nd : B.d ∉ [B.b] := by simp; exact hne.2.1
  have ns : B.s ∉ [B.b] := by simp; exact fun e => hne.2.2.2.2.2.2.1 e.symm
  have nf : B.f ∉ [B.b] := by simp; exact fun e => hne.2.2.2.2.2.2.2.1 e.symm
  have ed : ∀ o, w'.cell? ⟨B.d, o, none⟩ = w.cell? ⟨B.d, o, none⟩ := fun o => hf.cell (p := ⟨B.d, o, none⟩) h.ltd nd
  exact ⟨hM, (ed _).trans h.k0, h.c0.imp fun _ hc => ⟨hc.1, (ed _).trans hc.2⟩, h.c1.imp fun _ hc => ⟨hc.1, (ed _).trans hc.2⟩, (ed _).trans h.c2, (ed _).trans h.c3, (ed _).trans h.c5, h.arm.imp fun _ ⟨l, a1, a2, a3⟩ => ⟨l, (ed _).trans a1, (ed _).trans a2, a3⟩,
    fun j x hj => (hf.cell (p := ⟨B.s, j, none⟩) h.lts ns).trans (h.slot j x hj), fun j x hj => (hf.cell (p := ⟨B.f, j, none⟩) h.ltf nf).trans (h.fuse j x hj), Nat.lt_of_lt_of_le h.lts hf.size, Nat.lt_of_lt_of_le h.ltf hf.size,
    fun o => (hf.frozen (p := ⟨B.d, o, none⟩) h.ltd nd).trans (h.frd o), fun o => (hf.frozen (p := ⟨B.s, o, none⟩) h.lts ns).trans (h.frs o), fun o => (hf.frozen (p := ⟨B.f, o, none⟩) h.ltf nf).trans (h.frf o), h.ne, hk⟩
theorem RevAt.frM (h : RevAt w B d) {M' : List Sec} (hM : MemAt w' B.m B.b M') (hf : Fr [B.b] w w') (hk : Keeps d { d with M := M' }) : RevAt w' B { d with M := M' } ∧ Fr B.l w w' :=
  ⟨h.setM hM hf (hk.ok h.ok), hf.weaken (by simp [DB.l])⟩
/-- Its own cells have turned. -/
theorem RevAt.setD (h : RevAt w B d) {cnt clk lf l : Int} {dn ar : Bool} (hf : Fr [B.d] w w') (fz : ∀ o, w'.frozen? ⟨B.d, o, none⟩ = false) (e0 : w'.cell? ⟨B.d, 0, none⟩ = w.cell? ⟨B.d, 0, none⟩) (e1 : w'.cell? ⟨B.d, 1, none⟩ = w.cell? ⟨B.d, 1, none⟩) (e2 : w'.cell? ⟨B.d, 2, none⟩ = w.cell? ⟨B.d, 2, none⟩)
    (e3 : w'.cell? ⟨B.d, 3, none⟩ = some (.int .i64 cnt)) (e4 : w'.cell? ⟨B.d, 4, none⟩ = some (.int .i64 clk)) (e5 : w'.cell? ⟨B.d, 5, none⟩ = some (.bool (!dn))) (e6 : w'.cell? ⟨B.d, 6, none⟩ = some (.bool ar)) (e7 : w'.cell? ⟨B.d, 7, none⟩ = some (.int .i64 l)) (ha : ArmRel ar l lf)
    (hk : Dv.Ok { d with cnt := cnt, clk := clk, dn := dn, lf := lf }) : RevAt w' B { d with cnt := cnt, clk := clk, dn := dn, lf := lf } := by
  have hne := h.ne
  have nm : B.m ∉ [B.d] := by simp; exact fun e => hne.1 e.symm
  have nb : B.b ∉ [B.d] := by simp; exact fun e => hne.2.1 e.symm
  have ns : B.s ∉ [B.d] := by simp; exact fun e => hne.2.2.1 e.symm
  have nf : B.f ∉ [B.d] := by simp; exact fun e => hne.2.2.2.1 e.symm
  exact ⟨h.mem.fr hf nm nb, e0.trans h.k0, h.c0.imp fun _ hc => ⟨hc.1, e1.trans hc.2⟩, h.c1.imp fun _ hc => ⟨hc.1, e2.trans hc.2⟩, e3, e4, e5, ⟨ar, l, e6, e7, ha⟩,
    fun j x hj => (hf.cell (p := ⟨B.s, j, none⟩) h.lts ns).trans (h.slot j x hj), fun j x hj => (hf.cell (p := ⟨B.f, j, none⟩) h.ltf nf).trans (h.fuse j x hj), Nat.lt_of_lt_of_le h.lts hf.size, Nat.lt_of_lt_of_le h.ltf hf.size,
    fz, fun o => (hf.frozen (p := ⟨B.s, o, none⟩) h.lts ns).trans (h.frs o), fun o => (hf.frozen (p := ⟨B.f, o, none⟩) h.ltf nf).trans (h.frf o), h.ne, hk⟩
theorem oc {w : World} {b o o' : Nat} {u : Value} (h : o' ≠ o) : (w.setCell ⟨b, o, none⟩ u).cell? ⟨b, o', none⟩ = w.cell? ⟨b, o', none⟩ := World.cell?_setCell_other _ _ _ _ (addr_ne (Ne.symm h))
theorem RevAt.cnt' (h : RevAt w B d) (x : Int) (h0 : 0 ≤ x) (h1 : x ≤ 4611686018427387904) : RevAt (w.setCell ⟨B.d, 3, none⟩ (.int .i64 x)) B { d with cnt := x } := by
  obtain ⟨ar, l, a1, a2, a3⟩ := h.arm
  exact h.setD ((Fr.refl _ _).setCell (by simp) _) (fun o => (World.frozen?_setCell _ _ _ _).trans (h.frd o)) (oc (by decide)) (oc (by decide)) (oc (by decide)) (World.cell?_setCell_same _ _ _ h.c2) ((oc (by decide)).trans h.c3) ((oc (by decide)).trans h.c5)
    ((oc (by decide)).trans a1) ((oc (by decide)).trans a2) a3 { h.ok with cnt0 := h0, cnt1 := h1 }
theorem RevAt.clk' (h : RevAt w B d) (x : Int) (h0 : 0 ≤ x) (h1 : x ≤ 1099511627776) : RevAt (w.setCell ⟨B.d, 4, none⟩ (.int .i64 x)) B { d with clk := x } := by
  obtain ⟨ar, l, a1, a2, a3⟩ := h.arm
  exact h.setD ((Fr.refl _ _).setCell (by simp) _) (fun o => (World.frozen?_setCell _ _ _ _).trans (h.frd o)) (oc (by decide)) (oc (by decide)) (oc (by decide)) ((oc (by decide)).trans h.c2) (World.cell?_setCell_same _ _ _ h.c3) ((oc (by decide)).trans h.c5)
    ((oc (by decide)).trans a1) ((oc (by decide)).trans a2) a3 { h.ok with clk0 := h0, clk1 := h1 }
theorem RevAt.left' (h : RevAt w B d) (x : Int) (a1 : w.cell? ⟨B.d, 6, none⟩ = some (.bool true)) (h0 : 0 ≤ x) (h1 : x ≤ 9223372036854775807) : RevAt (w.setCell ⟨B.d, 7, none⟩ (.int .i64 x)) B { d with lf := x } := by
  obtain ⟨ar, l, _, a2, a3⟩ := h.arm
  exact h.setD ((Fr.refl _ _).setCell (by simp) _) (fun o => (World.frozen?_setCell _ _ _ _).trans (h.frd o)) (oc (by decide)) (oc (by decide)) (oc (by decide)) ((oc (by decide)).trans h.c2) ((oc (by decide)).trans h.c3) ((oc (by decide)).trans h.c5)
    ((oc (by decide)).trans a1) (World.cell?_setCell_same _ _ _ a2) (.inr ⟨rfl, rfl, h0⟩) { h.ok with lf0 := by show -1 ≤ x; omega, lf1 := h1 }
theorem RevAt.trip' (h : RevAt w B d) (n : Int) (hn : n ≤ 9223372036854775807) : RevAt ((w.setCell ⟨B.d, 6, none⟩ (.bool (decide (0 ≤ n)))).setCell ⟨B.d, 7, none⟩ (.int .i64 n)) B (dTr d n) := by
  obtain ⟨ar, l, a1, a2, a3⟩ := h.arm
  refine h.setD (cnt := d.cnt) (clk := d.clk) (dn := d.dn) (((Fr.refl _ _).setCell (by simp) _).setCell (by simp) _) (fun o => (World.frozen?_setCell _ _ _ _).trans ((World.frozen?_setCell _ _ _ _).trans (h.frd o))) ((oc (by decide)).trans (oc (by decide))) ((oc (by decide)).trans (oc (by decide))) ((oc (by decide)).trans (oc (by decide)))
    ((oc (by decide)).trans ((oc (by decide)).trans h.c2)) ((oc (by decide)).trans ((oc (by decide)).trans h.c3)) ((oc (by decide)).trans ((oc (by decide)).trans h.c5)) ((oc (by decide)).trans (World.cell?_setCell_same _ _ _ a1)) (World.cell?_setCell_same _ _ _ ((oc (by decide)).trans a2)) ?_ ((Keeps.tr d n hn).ok h.ok)
  by_cases h0 : 0 ≤ n
  · exact .inr ⟨decide_eq_true h0, by omega, by omega⟩
  · exact .inl ⟨decide_eq_false h0, by omega⟩
/-- The power is switched; no step is counted. -/
theorem RevAt.power (h : RevAt w B d) (x : Bool) : RevAt ((w.setCell ⟨B.d, 5, none⟩ (.bool (!x))).setCell ⟨B.d, 6, none⟩ (.bool false)) B { d with dn := x, lf := -1 } := by
  obtain ⟨ar, l, a1, a2, a3⟩ := h.arm
  exact h.setD (((Fr.refl _ _).setCell (by simp) _).setCell (by simp) _) (fun o => (World.frozen?_setCell _ _ _ _).trans ((World.frozen?_setCell _ _ _ _).trans (h.frd o))) ((oc (by decide)).trans (oc (by decide))) ((oc (by decide)).trans (oc (by decide))) ((oc (by decide)).trans (oc (by decide)))
    ((oc (by decide)).trans ((oc (by decide)).trans h.c2)) ((oc (by decide)).trans ((oc (by decide)).trans h.c3)) ((oc (by decide)).trans (World.cell?_setCell_same _ _ _ h.c5)) (World.cell?_setCell_same _ _ _ ((oc (by decide)).trans a1)) ((oc (by decide)).trans ((oc (by decide)).trans a2)) (.inl ⟨rfl, rfl⟩) { h.ok with lf0 := by show (-1 : Int) ≤ -1; omega, lf1 := by show (-1 : Int) ≤ _; omega }
/-- A slot has turned. -/
theorem RevAt.slot' (h : RevAt w B d) (i : Nat) (x : ByteArray) : RevAt (w.setCell ⟨B.s, i, none⟩ (.string x)) B { d with S := d.S.set i x } := by
  have hne := h.ne
  have hf : Fr [B.s] w (w.setCell ⟨B.s, i, none⟩ (.string x)) := (Fr.refl _ _).setCell (by simp) _
  have nd : B.d ∉ [B.s] := by simp; exact hne.2.2.1
  have nm : B.m ∉ [B.s] := by simp; exact hne.2.2.2.2.1
  have nb : B.b ∉ [B.s] := by simp; exact hne.2.2.2.2.2.2.1
  have nf : B.f ∉ [B.s] := by simp; exact fun e => hne.2.2.2.2.2.2.2.2 e.symm
  have ed : ∀ o, (w.setCell ⟨B.s, i, none⟩ (.string x)).cell? ⟨B.d, o, none⟩ = w.cell? ⟨B.d, o, none⟩ := fun o => hf.cell (p := ⟨B.d, o, none⟩) h.ltd nd
  have hs := set_cellsAt (w := w) (b := B.s) (xs := strs d.S) (i := i) (v := .string x) (fun j v hj => by
    unfold strs at hj; rw [List.getElem?_map] at hj
    cases hS : d.S[j]? with
    | none => rw [hS] at hj; cases hj
    | some y => rw [hS] at hj; cases hj; exact h.slot j y hS)
  refine ⟨h.mem.fr hf nm nb, (ed _).trans h.k0, h.c0.imp fun _ hc => ⟨by simpa using hc.1, by rw [ed, hc.2]; simp⟩, h.c1.imp fun _ hc => ⟨hc.1, (ed _).trans hc.2⟩, (ed _).trans h.c2, (ed _).trans h.c3, (ed _).trans h.c5, h.arm.imp fun _ ⟨l, a1, a2, a3⟩ => ⟨l, (ed _).trans a1, (ed _).trans a2, a3⟩, fun j y hj => hs j _ ?_,
    fun j x hj => (hf.cell (p := ⟨B.f, j, none⟩) h.ltf nf).trans (h.fuse j x hj), Nat.lt_of_lt_of_le h.lts hf.size, Nat.lt_of_lt_of_le h.ltf hf.size,
    fun o => (hf.frozen (p := ⟨B.d, o, none⟩) h.ltd nd).trans (h.frd o), fun o => (World.frozen?_setCell _ _ _ _).trans (h.frs o), fun o => (hf.frozen (p := ⟨B.f, o, none⟩) h.ltf nf).trans (h.frf o), h.ne, (Keeps.slots d _ (by simp)).ok h.ok⟩
  have hj' : (d.S.set i x)[j]? = some y := hj
  rw [← show strs (d.S.set i x) = (strs d.S).set i (.string x) from by simp [strs, List.map_set]]
  unfold strs; rw [List.getElem?_map, hj']; rfl
/-- A fuse has turned. -/
theorem RevAt.fuse' (h : RevAt w B d) (i : Nat) (x : Bool) : RevAt (w.setCell ⟨B.f, i, none⟩ (.bool x)) B { d with F := d.F.set i x } := by
  have hne := h.ne
  have hf : Fr [B.f] w (w.setCell ⟨B.f, i, none⟩ (.bool x)) := (Fr.refl _ _).setCell (by simp) _
  have nd : B.d ∉ [B.f] := by simp; exact hne.2.2.2.1
  have nm : B.m ∉ [B.f] := by simp; exact hne.2.2.2.2.2.1
  have nb : B.b ∉ [B.f] := by simp; exact hne.2.2.2.2.2.2.2.1
  have ns : B.s ∉ [B.f] := by simp; exact hne.2.2.2.2.2.2.2.2
  have ed : ∀ o, (w.setCell ⟨B.f, i, none⟩ (.bool x)).cell? ⟨B.d, o, none⟩ = w.cell? ⟨B.d, o, none⟩ := fun o => hf.cell (p := ⟨B.d, o, none⟩) h.ltd nd
  have hs := set_cellsAt (w := w) (b := B.f) (xs := bools d.F) (i := i) (v := .bool x) (fun j v hj => by
    unfold bools at hj; rw [List.getElem?_map] at hj
    cases hS : d.F[j]? with
    | none => rw [hS] at hj; cases hj
    | some y => rw [hS] at hj; cases hj; exact h.fuse j y hS)
  refine ⟨h.mem.fr hf nm nb, (ed _).trans h.k0, h.c0.imp fun _ hc => ⟨hc.1, (ed _).trans hc.2⟩, h.c1.imp fun _ hc => ⟨by simpa using hc.1, by rw [ed, hc.2]; simp⟩, (ed _).trans h.c2, (ed _).trans h.c3, (ed _).trans h.c5, h.arm.imp fun _ ⟨l, a1, a2, a3⟩ => ⟨l, (ed _).trans a1, (ed _).trans a2, a3⟩,
    fun j x hj => (hf.cell (p := ⟨B.s, j, none⟩) h.lts ns).trans (h.slot j x hj), fun j y hj => hs j _ ?_, Nat.lt_of_lt_of_le h.lts hf.size, Nat.lt_of_lt_of_le h.ltf hf.size,
    fun o => (hf.frozen (p := ⟨B.d, o, none⟩) h.ltd nd).trans (h.frd o), fun o => (hf.frozen (p := ⟨B.s, o, none⟩) h.lts ns).trans (h.frs o), fun o => (World.frozen?_setCell _ _ _ _).trans (h.frf o), h.ne, (Keeps.fuses d _ (by simp)).ok h.ok⟩
  have hj' : (d.F.set i x)[j]? = some y := hj
  rw [← show bools (d.F.set i x) = (bools d.F).set i (.bool x) from by simp [bools, List.map_set]]
  unfold bools; rw [List.getElem?_map, hj']; rfl
end

end Go.Proofs.YtogljlloobjeoaaGreat
