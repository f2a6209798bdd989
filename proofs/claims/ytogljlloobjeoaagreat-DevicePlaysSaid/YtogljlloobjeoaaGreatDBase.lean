/- A device of chapter 23 in memory. Nothing of the program stands here. -/
import Derived.Test.YtogljlloobjeoaaGreatDMod
namespace Go.Proofs.YtogljlloobjeoaaGreat
open Go.RowKit

/-- The blocks of a device: itself, its memory, the sectors, the slots, the fuses. -/
structure DB where
  d : Nat
  m : Nat
  b : Nat
  s : Nat
  f : Nat
def DB.all (B : DB) : List Nat := [B.d, B.m, B.b, B.s, B.f]
/-- Those that an operation may turn. -/
def DB.l (B : DB) : List Nat := [B.d, B.b, B.s, B.f]
def bools (xs : List Bool) : List Value := xs.map .bool

structure DevAt (w : World) (B : DB) (d : Dv) : Prop where
  mem : MemAt w B.m B.b d.M
  c0 : ∃ cap, d.S.length ≤ cap ∧ w.cell? ⟨B.d, 0, none⟩ = some (.slice (some ⟨B.s, 0, none⟩) d.S.length cap)
  c1 : ∃ cap, d.F.length ≤ cap ∧ w.cell? ⟨B.d, 1, none⟩ = some (.slice (some ⟨B.f, 0, none⟩) d.F.length cap)
  c2 : w.cell? ⟨B.d, 2, none⟩ = some (.int .i64 d.cnt)
  c3 : w.cell? ⟨B.d, 3, none⟩ = some (.int .i64 d.clk)
  c4 : w.cell? ⟨B.d, 4, none⟩ = some (.pointer (some ⟨B.m, 0, none⟩))
  c5 : w.cell? ⟨B.d, 5, none⟩ = some (.bool d.dn)
  c6 : w.cell? ⟨B.d, 6, none⟩ = some (.int .i64 d.lf)
  slot : ∀ (j : Nat) x, d.S[j]? = some x → w.cell? ⟨B.s, j, none⟩ = some (.string x)
  fuse : ∀ (j : Nat) x, d.F[j]? = some x → w.cell? ⟨B.f, j, none⟩ = some (.bool x)
  lts : B.s < w.heap.size
  ltf : B.f < w.heap.size
  frd : ∀ o, w.frozen? ⟨B.d, o, none⟩ = false
  frs : ∀ o, w.frozen? ⟨B.s, o, none⟩ = false
  frf : ∀ o, w.frozen? ⟨B.f, o, none⟩ = false
  ne : B.d ≠ B.m ∧ B.d ≠ B.b ∧ B.d ≠ B.s ∧ B.d ≠ B.f ∧ B.m ≠ B.s ∧ B.m ≠ B.f ∧ B.b ≠ B.s ∧ B.b ≠ B.f ∧ B.s ≠ B.f
  ok : d.Ok

section
variable {S : List Nat} {w w' : World} {B : DB} {d : Dv}
theorem DevAt.ltd (h : DevAt w B d) : B.d < w.heap.size := World.block_lt_of_cell? _ _ h.c2
theorem DevAt.lt (h : DevAt w B d) : B.d < w.heap.size ∧ B.m < w.heap.size ∧ B.b < w.heap.size ∧ B.s < w.heap.size ∧ B.f < w.heap.size := ⟨h.ltd, h.mem.lt, h.mem.arr.lt, h.lts, h.ltf⟩
theorem DevAt.all_lt (h : DevAt w B d) : ∀ k ∈ B.all, k < w.heap.size := by
  have := h.lt
  intro k hk
  simp only [DB.all, List.mem_cons, List.not_mem_nil, or_false] at hk
  rcases hk with rfl | rfl | rfl | rfl | rfl <;> omega
theorem DB.l_all (B : DB) : ∀ k ∈ B.l, k ∈ B.all := by
  intro k hk
  simp only [DB.l, DB.all, List.mem_cons, List.not_mem_nil, or_false] at hk ⊢
  rcases hk with rfl | rfl | rfl | rfl <;> simp
theorem DevAt.fr (h : DevAt w B d) (hf : Fr S w w') (hn : ∀ k ∈ S, k ∉ B.all) : DevAt w' B d := by
  have nd : B.d ∉ S := fun hm => hn _ hm (by simp [DB.all])
  have nm : B.m ∉ S := fun hm => hn _ hm (by simp [DB.all])
  have nb : B.b ∉ S := fun hm => hn _ hm (by simp [DB.all])
  have ns : B.s ∉ S := fun hm => hn _ hm (by simp [DB.all])
  have nf : B.f ∉ S := fun hm => hn _ hm (by simp [DB.all])
  have ed : ∀ o, w'.cell? ⟨B.d, o, none⟩ = w.cell? ⟨B.d, o, none⟩ := fun o => hf.cell (p := ⟨B.d, o, none⟩) h.ltd nd
  exact ⟨h.mem.fr hf nm nb, h.c0.imp fun _ hc => ⟨hc.1, (ed _).trans hc.2⟩, h.c1.imp fun _ hc => ⟨hc.1, (ed _).trans hc.2⟩, (ed _).trans h.c2, (ed _).trans h.c3, (ed _).trans h.c4, (ed _).trans h.c5, (ed _).trans h.c6,
    fun j x hj => (hf.cell (p := ⟨B.s, j, none⟩) h.lts ns).trans (h.slot j x hj), fun j x hj => (hf.cell (p := ⟨B.f, j, none⟩) h.ltf nf).trans (h.fuse j x hj), Nat.lt_of_lt_of_le h.lts hf.size, Nat.lt_of_lt_of_le h.ltf hf.size,
    fun o => (hf.frozen (p := ⟨B.d, o, none⟩) h.ltd nd).trans (h.frd o), fun o => (hf.frozen (p := ⟨B.s, o, none⟩) h.lts ns).trans (h.frs o), fun o => (hf.frozen (p := ⟨B.f, o, none⟩) h.ltf nf).trans (h.frf o), h.ne, h.ok⟩
theorem DevAt.below (h : DevAt w B d) (hf : Below w.heap.size w w') : DevAt w' B d := h.fr (S := []) (Fr.of_below hf) (by simp)
/-- Its sectors have turned. -/
theorem DevAt.setM (h : DevAt w B d) {M' : List Sec} (hM : MemAt w' B.m B.b M') (hf : Fr [B.b] w w') (hk : Dv.Ok { d with M := M' }) : DevAt w' B { d with M := M' } := by
  have hne := h.ne
  have nd : B.d ∉ [B.b] := by simp; exact hne.2.1
  have ns : B.s ∉ [B.b] := by simp; exact fun e => hne.2.2.2.2.2.2.1 e.symm
  have nf : B.f ∉ [B.b] := by simp; exact fun e => hne.2.2.2.2.2.2.2.1 e.symm
  have ed : ∀ o, w'.cell? ⟨B.d, o, none⟩ = w.cell? ⟨B.d, o, none⟩ := fun o => hf.cell (p := ⟨B.d, o, none⟩) h.ltd nd
  exact ⟨hM, h.c0.imp fun _ hc => ⟨hc.1, (ed _).trans hc.2⟩, h.c1.imp fun _ hc => ⟨hc.1, (ed _).trans hc.2⟩, (ed _).trans h.c2, (ed _).trans h.c3, (ed _).trans h.c4, (ed _).trans h.c5, (ed _).trans h.c6,
    fun j x hj => (hf.cell (p := ⟨B.s, j, none⟩) h.lts ns).trans (h.slot j x hj), fun j x hj => (hf.cell (p := ⟨B.f, j, none⟩) h.ltf nf).trans (h.fuse j x hj), Nat.lt_of_lt_of_le h.lts hf.size, Nat.lt_of_lt_of_le h.ltf hf.size,
    fun o => (hf.frozen (p := ⟨B.d, o, none⟩) h.ltd nd).trans (h.frd o), fun o => (hf.frozen (p := ⟨B.s, o, none⟩) h.lts ns).trans (h.frs o), fun o => (hf.frozen (p := ⟨B.f, o, none⟩) h.ltf nf).trans (h.frf o), h.ne, hk⟩
/-- Its own cells have turned. -/
theorem DevAt.setD (h : DevAt w B d) {cnt clk lf : Int} {dn : Bool} (hf : Fr [B.d] w w') (fz : ∀ o, w'.frozen? ⟨B.d, o, none⟩ = false) (e0 : w'.cell? ⟨B.d, 0, none⟩ = w.cell? ⟨B.d, 0, none⟩) (e1 : w'.cell? ⟨B.d, 1, none⟩ = w.cell? ⟨B.d, 1, none⟩)
    (e2 : w'.cell? ⟨B.d, 2, none⟩ = some (.int .i64 cnt)) (e3 : w'.cell? ⟨B.d, 3, none⟩ = some (.int .i64 clk)) (e4 : w'.cell? ⟨B.d, 4, none⟩ = w.cell? ⟨B.d, 4, none⟩) (e5 : w'.cell? ⟨B.d, 5, none⟩ = some (.bool dn)) (e6 : w'.cell? ⟨B.d, 6, none⟩ = some (.int .i64 lf))
    (hk : Dv.Ok { d with cnt := cnt, clk := clk, dn := dn, lf := lf }) : DevAt w' B { d with cnt := cnt, clk := clk, dn := dn, lf := lf } := by
  have hne := h.ne
  have nm : B.m ∉ [B.d] := by simp; exact fun e => hne.1 e.symm
  have nb : B.b ∉ [B.d] := by simp; exact fun e => hne.2.1 e.symm
  have ns : B.s ∉ [B.d] := by simp; exact fun e => hne.2.2.1 e.symm
  have nf : B.f ∉ [B.d] := by simp; exact fun e => hne.2.2.2.1 e.symm
  exact ⟨h.mem.fr hf nm nb, h.c0.imp fun _ hc => ⟨hc.1, e0.trans hc.2⟩, h.c1.imp fun _ hc => ⟨hc.1, e1.trans hc.2⟩, e2, e3, e4.trans h.c4, e5, e6,
    fun j x hj => (hf.cell (p := ⟨B.s, j, none⟩) h.lts ns).trans (h.slot j x hj), fun j x hj => (hf.cell (p := ⟨B.f, j, none⟩) h.ltf nf).trans (h.fuse j x hj), Nat.lt_of_lt_of_le h.lts hf.size, Nat.lt_of_lt_of_le h.ltf hf.size,
    fz, fun o => (hf.frozen (p := ⟨B.s, o, none⟩) h.lts ns).trans (h.frs o), fun o => (hf.frozen (p := ⟨B.f, o, none⟩) h.ltf nf).trans (h.frf o), h.ne, hk⟩
theorem DevAt.lf' (h : DevAt w B d) (x : Int) (h0 : -1 ≤ x) (h1 : x ≤ 9223372036854775807) : DevAt (w.setCell ⟨B.d, 6, none⟩ (.int .i64 x)) B { d with lf := x } := by
  have e : ∀ o, o ≠ 6 → (w.setCell ⟨B.d, 6, none⟩ (.int .i64 x)).cell? ⟨B.d, o, none⟩ = w.cell? ⟨B.d, o, none⟩ := fun o ho => World.cell?_setCell_other _ _ _ _ (addr_ne (Ne.symm ho))
  exact h.setD ((Fr.refl _ _).setCell (by simp) _) (fun o => (World.frozen?_setCell _ _ _ _).trans (h.frd o)) (e 0 (by decide)) (e 1 (by decide)) ((e 2 (by decide)).trans h.c2) ((e 3 (by decide)).trans h.c3) (e 4 (by decide)) ((e 5 (by decide)).trans h.c5)
    (World.cell?_setCell_same _ _ _ h.c6) { h.ok with lf0 := h0, lf1 := h1 }
theorem DevAt.dn' (h : DevAt w B d) (x : Bool) : DevAt (w.setCell ⟨B.d, 5, none⟩ (.bool x)) B { d with dn := x } := by
  have e : ∀ o, o ≠ 5 → (w.setCell ⟨B.d, 5, none⟩ (.bool x)).cell? ⟨B.d, o, none⟩ = w.cell? ⟨B.d, o, none⟩ := fun o ho => World.cell?_setCell_other _ _ _ _ (addr_ne (Ne.symm ho))
  exact h.setD ((Fr.refl _ _).setCell (by simp) _) (fun o => (World.frozen?_setCell _ _ _ _).trans (h.frd o)) (e 0 (by decide)) (e 1 (by decide)) ((e 2 (by decide)).trans h.c2) ((e 3 (by decide)).trans h.c3) (e 4 (by decide))
    (World.cell?_setCell_same _ _ _ h.c5) ((e 6 (by decide)).trans h.c6) { h.ok with }
theorem DevAt.cnt' (h : DevAt w B d) (x : Int) (h0 : 0 ≤ x) (h1 : x ≤ 4611686018427387904) : DevAt (w.setCell ⟨B.d, 2, none⟩ (.int .i64 x)) B { d with cnt := x } := by
  have e : ∀ o, o ≠ 2 → (w.setCell ⟨B.d, 2, none⟩ (.int .i64 x)).cell? ⟨B.d, o, none⟩ = w.cell? ⟨B.d, o, none⟩ := fun o ho => World.cell?_setCell_other _ _ _ _ (addr_ne (Ne.symm ho))
  exact h.setD ((Fr.refl _ _).setCell (by simp) _) (fun o => (World.frozen?_setCell _ _ _ _).trans (h.frd o)) (e 0 (by decide)) (e 1 (by decide)) (World.cell?_setCell_same _ _ _ h.c2) ((e 3 (by decide)).trans h.c3) (e 4 (by decide)) ((e 5 (by decide)).trans h.c5)
    ((e 6 (by decide)).trans h.c6) { h.ok with cnt0 := h0, cnt1 := h1 }
theorem DevAt.clk' (h : DevAt w B d) (x : Int) (h0 : 0 ≤ x) (h1 : x ≤ 1099511627776) : DevAt (w.setCell ⟨B.d, 3, none⟩ (.int .i64 x)) B { d with clk := x } := by
  have e : ∀ o, o ≠ 3 → (w.setCell ⟨B.d, 3, none⟩ (.int .i64 x)).cell? ⟨B.d, o, none⟩ = w.cell? ⟨B.d, o, none⟩ := fun o ho => World.cell?_setCell_other _ _ _ _ (addr_ne (Ne.symm ho))
  exact h.setD ((Fr.refl _ _).setCell (by simp) _) (fun o => (World.frozen?_setCell _ _ _ _).trans (h.frd o)) (e 0 (by decide)) (e 1 (by decide)) ((e 2 (by decide)).trans h.c2) (World.cell?_setCell_same _ _ _ h.c3) (e 4 (by decide)) ((e 5 (by decide)).trans h.c5)
    ((e 6 (by decide)).trans h.c6) { h.ok with clk0 := h0, clk1 := h1 }
theorem set_cellsAt {b : Nat} {xs : List Value} {i : Nat} {v : Value} (h : ∀ (j : Nat) x, xs[j]? = some x → w.cell? ⟨b, j, none⟩ = some x) :
    ∀ (j : Nat) x, (xs.set i v)[j]? = some x → (w.setCell ⟨b, i, none⟩ v).cell? ⟨b, j, none⟩ = some x := by
  intro j x hj
  rw [List.getElem?_set] at hj
  by_cases e : i = j
  · subst e
    rw [if_pos rfl] at hj
    split at hj
    · rename_i hl
      injection hj with hj
      subst hj
      exact World.cell?_setCell_same _ _ _ (h i _ (List.getElem?_eq_getElem hl))
    · cases hj
  · rw [if_neg e] at hj
    rw [World.cell?_setCell_other _ _ _ _ (addr_ne e)]
    exact h j x hj
/-- A slot has turned. -/
theorem DevAt.slot' (h : DevAt w B d) (i : Nat) (x : ByteArray) : DevAt (w.setCell ⟨B.s, i, none⟩ (.string x)) B { d with S := d.S.set i x } := by
  have hne := h.ne
  have hf : Fr [B.s] w (w.setCell ⟨B.s, i, none⟩ (.string x)) := (Fr.refl _ _).setCell (by simp) _
  have nd : B.d ∉ [B.s] := by simp; exact hne.2.2.1
  have nm : B.m ∉ [B.s] := by simp; exact hne.2.2.2.2.1
  have nb : B.b ∉ [B.s] := by simp; exact hne.2.2.2.2.2.2.1
  have nf : B.f ∉ [B.s] := by simp; exact fun e => hne.2.2.2.2.2.2.2.2 e.symm
  have ed : ∀ o, (w.setCell ⟨B.s, i, none⟩ (.string x)).cell? ⟨B.d, o, none⟩ = w.cell? ⟨B.d, o, none⟩ := fun o => hf.cell (p := ⟨B.d, o, none⟩) h.ltd nd
  have hs := set_cellsAt (w := w) (b := B.s) (xs := strs d.S) (i := i) (v := .string x) (fun j v hj => by
    unfold strs at hj; rw [List.getElem?_map] at hj
    cases hS : d.S[j]? with
    | none => rw [hS] at hj; cases hj
    | some y => rw [hS] at hj; cases hj; exact h.slot j y hS)
  refine ⟨h.mem.fr hf nm nb, h.c0.imp fun _ hc => ⟨by simpa using hc.1, by rw [ed, hc.2]; simp⟩, h.c1.imp fun _ hc => ⟨hc.1, (ed _).trans hc.2⟩, (ed _).trans h.c2, (ed _).trans h.c3, (ed _).trans h.c4, (ed _).trans h.c5, (ed _).trans h.c6, fun j y hj => hs j _ ?_,
    fun j x hj => (hf.cell (p := ⟨B.f, j, none⟩) h.ltf nf).trans (h.fuse j x hj), Nat.lt_of_lt_of_le h.lts hf.size, Nat.lt_of_lt_of_le h.ltf hf.size,
    fun o => (hf.frozen (p := ⟨B.d, o, none⟩) h.ltd nd).trans (h.frd o), fun o => (World.frozen?_setCell _ _ _ _).trans (h.frs o), fun o => (hf.frozen (p := ⟨B.f, o, none⟩) h.ltf nf).trans (h.frf o), h.ne, (Keeps.slots d _ (by simp)).ok h.ok⟩
  have hj' : (d.S.set i x)[j]? = some y := hj
  rw [← show strs (d.S.set i x) = (strs d.S).set i (.string x) from by simp [strs, List.map_set]]
  unfold strs; rw [List.getElem?_map, hj']; rfl
/-- A fuse has turned. -/
theorem DevAt.fuse' (h : DevAt w B d) (i : Nat) (x : Bool) : DevAt (w.setCell ⟨B.f, i, none⟩ (.bool x)) B { d with F := d.F.set i x } := by
  have hne := h.ne
  have hf : Fr [B.f] w (w.setCell ⟨B.f, i, none⟩ (.bool x)) := (Fr.refl _ _).setCell (by simp) _
  have nd : B.d ∉ [B.f] := by simp; exact hne.2.2.2.1
  have nm : B.m ∉ [B.f] := by simp; exact hne.2.2.2.2.2.1
  have nb : B.b ∉ [B.f] := by simp; exact hne.2.2.2.2.2.2.2.1
  have ns : B.s ∉ [B.f] := by simp; exact hne.2.2.2.2.2.2.2.2
  have ed : ∀ o, (w.setCell ⟨B.f, i, none⟩ (.bool x)).cell? ⟨B.d, o, none⟩ = w.cell? ⟨B.d, o, none⟩ := fun o => hf.cell (p := ⟨B.d, o, none⟩) h.ltd nd
  have hs := set_cellsAt (w := w) (b := B.f) (xs := bools d.F) (i := i) (v := .bool x) (fun j v hj => by
    unfold bools at hj; rw [List.getElem?_map] at hj
    cases hS : d.F[j]? with
    | none => rw [hS] at hj; cases hj
    | some y => rw [hS] at hj; cases hj; exact h.fuse j y hS)
  refine ⟨h.mem.fr hf nm nb, h.c0.imp fun _ hc => ⟨hc.1, (ed _).trans hc.2⟩, h.c1.imp fun _ hc => ⟨by simpa using hc.1, by rw [ed, hc.2]; simp⟩, (ed _).trans h.c2, (ed _).trans h.c3, (ed _).trans h.c4, (ed _).trans h.c5, (ed _).trans h.c6,
    fun j x hj => (hf.cell (p := ⟨B.s, j, none⟩) h.lts ns).trans (h.slot j x hj), fun j y hj => hs j _ ?_, Nat.lt_of_lt_of_le h.lts hf.size, Nat.lt_of_lt_of_le h.ltf hf.size,
    fun o => (hf.frozen (p := ⟨B.d, o, none⟩) h.ltd nd).trans (h.frd o), fun o => (hf.frozen (p := ⟨B.s, o, none⟩) h.lts ns).trans (h.frs o), fun o => (World.frozen?_setCell _ _ _ _).trans (h.frf o), h.ne, (Keeps.fuses d _ (by simp)).ok h.ok⟩
  have hj' : (d.F.set i x)[j]? = some y := hj
  rw [← show bools (d.F.set i x) = (bools d.F).set i (.bool x) from by simp [bools, List.map_set]]
  unfold bools; rw [List.getElem?_map, hj']; rfl
end

end Go.Proofs.YtogljlloobjeoaaGreat
