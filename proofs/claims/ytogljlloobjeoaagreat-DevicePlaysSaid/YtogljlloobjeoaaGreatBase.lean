/- Words for worlds: frames that name the blocks that may have turned, sectors in memory, slices that read as lists. Nothing of the program stands here. -/
import Derived.WalkKit
import Derived.WalkSpells
import Derived.WalkLawsBesides
import Derived.Deep.Draws
import Derived.Lib.Hide
import Derived.Laws.MakeOwn
import Derived.Laws.Entries
import Derived.Deep.OwnRows
namespace Go.Proofs.YtogljlloobjeoaaGreat
open Go.RowKit

/-! ### Frames -/
/-- Only the blocks of the list, and new ones, may have turned. -/
structure Fr (S : List Nat) (w w' : World) : Prop where
  os : w'.os = w.os
  tape : w'.tape = w.tape
  output : w'.output = w.output
  size : w.heap.size ≤ w'.heap.size
  block : ∀ k, k < w.heap.size → k ∉ S → w'.heap[k]? = w.heap[k]?

section
variable {S T : List Nat} {w w' w2 : World}
theorem Fr.refl (S : List Nat) (w : World) : Fr S w w := ⟨rfl, rfl, rfl, Nat.le_refl _, fun _ _ _ => rfl⟩
theorem Fr.trans (h : Fr S w w') (k : Fr S w' w2) : Fr S w w2 :=
  ⟨k.os.trans h.os, k.tape.trans h.tape, k.output.trans h.output, Nat.le_trans h.size k.size,
    fun i hi hn => (k.block i (Nat.lt_of_lt_of_le hi h.size) hn).trans (h.block i hi hn)⟩
/-- A frame over a smaller list, or over blocks that are new, is one over the list. -/
theorem Fr.weaken (h : Fr S w w') (hs : ∀ k ∈ S, k ∈ T ∨ w.heap.size ≤ k) : Fr T w w' :=
  ⟨h.os, h.tape, h.output, h.size, fun k hk hn => h.block k hk (fun hm => by
    rcases hs k hm with h1 | h1
    · exact hn h1
    · omega)⟩
theorem Fr.of_below (h : Below w.heap.size w w') : Fr S w w' := ⟨h.os, h.tape, h.output, h.size, fun k hk _ => h.block k hk⟩
theorem Fr.below {B : Nat} (h : Fr S w w') (hB : B ≤ w.heap.size) (hs : ∀ k ∈ S, B ≤ k) : Below B w w' :=
  ⟨h.os, h.tape, h.output, h.size, fun k hk => h.block k (by omega) (fun hm => by have := hs k hm; omega)⟩
theorem Fr.alloc (h : Fr S w w') (o : Obj) : Fr S w (w'.alloc o) :=
  h.trans ⟨rfl, rfl, rfl, by simp, fun k hk _ => Below.heap_alloc _ _ _ hk⟩
theorem Fr.drew (h : Fr S w w') : Fr S w w'.drew := ⟨h.os, h.tape, h.output, h.size, h.block⟩
theorem Fr.drewN (h : Fr S w w') (n : Nat) : Fr S w (w'.drewN n) := ⟨h.os, h.tape, h.output, h.size, h.block⟩
theorem Fr.setCell (h : Fr S w w') {p : Addr} (hp : p.block ∈ S ∨ w.heap.size ≤ p.block) (u : Value) : Fr S w (w'.setCell p u) :=
  ⟨h.os, h.tape, h.output, by simpa [World.setCell] using h.size, fun k hk hn => by
    refine (Below.heap_setCell _ _ _ _ ?_).trans (h.block k hk hn)
    rintro rfl
    rcases hp with hp | hp
    · exact hn hp
    · omega⟩
theorem Fr.grown {row : Option Nat} (h : Fr S w w') (hg : w'.grownBy w2 row) (hr : ∀ k, row = some k → k ∈ S ∨ w.heap.size ≤ k) : Fr S w w2 :=
  ⟨hg.os.trans h.os, hg.tape.trans h.tape, hg.output.trans h.output, Nat.le_trans h.size hg.size, fun k hk hn => by
    refine (hg.block k (Nat.lt_of_lt_of_le hk h.size) (fun e => ?_)).trans (h.block k hk hn)
    rcases hr k e.symm with h1 | h1
    · exact hn h1
    · omega⟩
theorem Fr.cell (h : Fr S w w') {p : Addr} (hl : p.block < w.heap.size) (hn : p.block ∉ S) : w'.cell? p = w.cell? p := World.cell?_of_block (w := w) (h.block _ hl hn)
theorem Fr.frozen (h : Fr S w w') {p : Addr} (hl : p.block < w.heap.size) (hn : p.block ∉ S) : w'.frozen? p = w.frozen? p := World.frozen?_of_block (w := w) (h.block _ hl hn)
/-- A step behind a frame. -/
theorem Fr.then (h : Fr S w w') (k : Fr T w' w2) (hs : ∀ x ∈ T, x ∈ S ∨ w.heap.size ≤ x) : Fr S w w2 :=
  ⟨k.os.trans h.os, k.tape.trans h.tape, k.output.trans h.output, Nat.le_trans h.size k.size,
    fun i hi hn => (k.block i (Nat.lt_of_lt_of_le hi h.size) (fun hm => by
      rcases hs i hm with h1 | h1
      · exact hn h1
      · omega)).trans (h.block i hi hn)⟩
end

/-! ### Sectors -/
structure Sec where
  now : ByteArray
  before : ByteArray
  fresh : ByteArray
  dirty : Bool
  worn : Bool

def SecAt (w : World) (pb i : Nat) (s : Sec) : Prop :=
  w.cell? ⟨pb, i * 5, none⟩ = some (.string s.now) ∧ w.cell? ⟨pb, i * 5 + 1, none⟩ = some (.string s.before) ∧ w.cell? ⟨pb, i * 5 + 2, none⟩ = some (.string s.fresh) ∧
  w.cell? ⟨pb, i * 5 + 3, none⟩ = some (.bool s.dirty) ∧ w.cell? ⟨pb, i * 5 + 4, none⟩ = some (.bool s.worn)

structure ArrAt (w : World) (pb : Nat) (M : List Sec) : Prop where
  lt : pb < w.heap.size
  sec : ∀ i s, M[i]? = some s → SecAt w pb i s
  frz : ∀ o, w.frozen? ⟨pb, o, none⟩ = false

/-- A memory, the program's or the reference's: a block with a slice over the sectors' block. -/
structure MemAt (w : World) (pm pb : Nat) (M : List Sec) : Prop where
  ptr : ∃ cap, w.cell? ⟨pm, 0, none⟩ = some (.slice (some ⟨pb, 0, none⟩) M.length cap) ∧ M.length ≤ cap
  lt : pm < w.heap.size
  frz : ∀ o, w.frozen? ⟨pm, o, none⟩ = false
  arr : ArrAt w pb M
  ne : pm ≠ pb

section
variable {S T : List Nat} {w w' w2 : World} {pm pb i : Nat} {M : List Sec} {s : Sec}
theorem SecAt.fr (h : SecAt w pb i s) (hf : Fr S w w') (hl : pb < w.heap.size) (hn : pb ∉ S) : SecAt w' pb i s :=
  ⟨(hf.cell hl hn).trans h.1, (hf.cell hl hn).trans h.2.1, (hf.cell hl hn).trans h.2.2.1, (hf.cell hl hn).trans h.2.2.2.1, (hf.cell hl hn).trans h.2.2.2.2⟩
theorem ArrAt.fr (h : ArrAt w pb M) (hf : Fr S w w') (hn : pb ∉ S) : ArrAt w' pb M :=
  ⟨Nat.lt_of_lt_of_le h.lt hf.size, fun i s hi => (h.sec i s hi).fr hf h.lt hn, fun o => (hf.frozen h.lt hn).trans (h.frz o)⟩
theorem MemAt.fr (h : MemAt w pm pb M) (hf : Fr S w w') (hm : pm ∉ S) (hn : pb ∉ S) : MemAt w' pm pb M :=
  ⟨h.ptr.imp fun _ hc => ⟨(hf.cell h.lt hm).trans hc.1, hc.2⟩, Nat.lt_of_lt_of_le h.lt hf.size, fun o => (hf.frozen h.lt hm).trans (h.frz o), h.arr.fr hf hn, h.ne⟩
/-- One sector has turned. -/
theorem ArrAt.set (h : ArrAt w pb M) (hz : w.heap.size ≤ w'.heap.size) (hs : SecAt w' pb i s) (hk : ∀ o, (o < i * 5 ∨ i * 5 + 5 ≤ o) → w'.cell? ⟨pb, o, none⟩ = w.cell? ⟨pb, o, none⟩)
    (hf : ∀ o, w'.frozen? ⟨pb, o, none⟩ = w.frozen? ⟨pb, o, none⟩) : ArrAt w' pb (M.set i s) := by
  refine ⟨Nat.lt_of_lt_of_le h.lt hz, fun j x hj => ?_, fun o => (hf o).trans (h.frz o)⟩
  rw [List.getElem?_set] at hj
  by_cases e : i = j
  · subst e
    rw [if_pos rfl] at hj
    split at hj
    · cases hj; exact hs
    · cases hj
  · rw [if_neg e] at hj
    have := h.sec j x hj
    refine ⟨(hk _ ?_).trans this.1, (hk _ ?_).trans this.2.1, (hk _ ?_).trans this.2.2.1, (hk _ ?_).trans this.2.2.2.1, (hk _ ?_).trans this.2.2.2.2⟩ <;> omega
end

/-- What a cell holds behind a store. -/
theorem cell_set (w : World) (b o b' o' : Nat) (v : Value) :
    (w.setCell ⟨b, o, none⟩ v).cell? ⟨b', o', none⟩ = if b = b' ∧ o = o' then (w.cell? ⟨b, o, none⟩).map (fun _ => v) else w.cell? ⟨b', o', none⟩ := by
  split
  · rename_i h
    obtain ⟨rfl, rfl⟩ := h
    cases hc : w.cell? ⟨b, o, none⟩ with
    | some u => rw [World.cell?_setCell_same _ _ _ hc]; rfl
    | none =>
      rw [Option.map_none]
      simp only [World.setCell, World.cell?, Array.getElem?_modify, if_true] at hc ⊢
      cases hh : w.heap[b]? with
      | none => simp
      | some x =>
        rw [hh] at hc
        cases x <;> simp at hc ⊢
        exact hc
  · rename_i h
    exact World.cell?_setCell_other _ _ _ _ (fun e => h (by cases e; exact ⟨rfl, rfl⟩))

/-- One sector of a memory has turned. -/
theorem MemAt.upd {w w' : World} {pm pb i : Nat} {M : List Sec} {s' : Sec} (h : MemAt w pm pb M) (hfr : Fr [pb] w w') (hs : SecAt w' pb i s')
    (hk : ∀ o, (o < i * 5 ∨ i * 5 + 5 ≤ o) → w'.cell? ⟨pb, o, none⟩ = w.cell? ⟨pb, o, none⟩) (hf : ∀ o, w'.frozen? ⟨pb, o, none⟩ = w.frozen? ⟨pb, o, none⟩) : MemAt w' pm pb (M.set i s') := by
  obtain ⟨cap, hc, hcap⟩ := h.ptr
  have hn : pm ∉ [pb] := by simpa using h.ne
  exact ⟨⟨cap, by rw [hfr.cell h.lt hn, hc]; simp, by simpa using hcap⟩, Nat.lt_of_lt_of_le h.lt hfr.size, fun o => (hfr.frozen h.lt hn).trans (h.frz o), h.arr.set hfr.size hs hk hf, h.ne⟩

/-! ### Slices of one-cell elements that read as lists -/
/-- The slice value v reads as the list xs; its array, if it has elements, lies in a block that is ok. -/
def SlAt (w : World) (ok : Nat → Prop) (v : Value) (xs : List Value) : Prop :=
  ∃ a cap, v = .slice a xs.length cap ∧ xs.length ≤ cap ∧ (0 < xs.length → ∃ b o, a = some ⟨b, o, none⟩ ∧ ok b ∧ b < w.heap.size ∧ ∀ j x, xs[j]? = some x → w.cell? ⟨b, o + j, none⟩ = some x)
theorem SlAt.fr {w w' : World} {S : List Nat} {ok : Nat → Prop} {v : Value} {xs : List Value} (h : SlAt w ok v xs) (hf : Fr S w w') (hok : ∀ b, ok b → b ∉ S) : SlAt w' ok v xs := by
  obtain ⟨a, cap, hv, hc, hx⟩ := h
  refine ⟨a, cap, hv, hc, fun h0 => ?_⟩
  obtain ⟨b, o, ha, hb, hlt, hcell⟩ := hx h0
  exact ⟨b, o, ha, hb, Nat.lt_of_lt_of_le hlt hf.size, fun j x hj => (hf.cell hlt (hok b hb)).trans (hcell j x hj)⟩
theorem SlAt.imp {w : World} {ok ok' : Nat → Prop} {v : Value} {xs : List Value} (h : SlAt w ok v xs) (hok : ∀ b, ok b → ok' b) : SlAt w ok' v xs := by
  obtain ⟨a, cap, hv, hc, hx⟩ := h
  refine ⟨a, cap, hv, hc, fun h0 => ?_⟩
  obtain ⟨b, o, ha, hb, hlt, hcell⟩ := hx h0
  exact ⟨b, o, ha, hok b hb, hlt, hcell⟩
theorem SlAt.nil (w : World) (ok : Nat → Prop) : SlAt w ok (.slice none 0 0) [] := ⟨none, 0, rfl, Nat.le_refl _, fun h => by simp at h⟩
def ints (xs : List Int) : List Value := xs.map (.int .i64)
def nats (xs : List Nat) : List Value := xs.map fun n : Nat => Value.int .i64 (n : Int)
def strs (xs : List ByteArray) : List Value := xs.map .string

/-- A row of the call's own reads as its list. -/
theorem SlAt.of_own {w : World} {base : Nat} {e : TypeId} {v : Value} {n : Nat} {xs : List Value} (h : w.ownsRow base e 1 v n xs) : SlAt w (fun b => base ≤ b) v xs := by
  obtain ⟨hl, h2⟩ := h
  have hl' : xs.length = n := by omega
  rcases h2 with ⟨rfl, rfl⟩ | ⟨g, cap, cur, rfl, hb, hg, hn, hm, hs, ht⟩
  · have : xs = [] := List.length_eq_zero_iff.1 hl'
    subst this
    exact SlAt.nil _ _
  · refine ⟨_, cap, by rw [hl'], by omega, fun _ => ⟨g, 0, rfl, hb, (Array.getElem?_eq_some_iff.1 hg).1, fun j x hj => ?_⟩⟩
    rw [← ht, Nat.mul_one] at hj
    have hjn : j < n := by
      have := (List.getElem?_eq_some_iff.1 hj).1
      simp at this; omega
    rw [List.getElem?_take_of_lt hjn, Array.getElem?_toList] at hj
    simp only [World.cell?, hg, Nat.zero_add]
    exact hj
theorem cell_one (W : World) (x : Value) (T : TypeId) : ∀ (j : Nat) (u : Value), [x][j]? = some u → (W.alloc (.cells #[x] T)).cell? ((⟨W.heap.size, 0, none⟩ : Addr).add j) = some u := by
  intro j u hj
  match j, hj with
  | 0, hj => simp at hj; subst hj; simp [Addr.add]

theorem oneC_int (n : Int) : ∀ u ∈ [Value.int .i64 n], u.oneCell' = true := by intro u hu; simp at hu; subst hu; rfl
theorem oneC_str (x : ByteArray) : ∀ u ∈ [Value.string x], u.oneCell' = true := by intro u hu; simp at hu; subst hu; rfl

theorem run_make_rowN {P : Program} (t e : TypeId) (i : TypeInfo) (z : Value) (ht : P.underlying t = some (.slice e)) (hi : P.info? e = some i) (hz : i.zero = some z)
    (kl kc : IntKind) (n c : Nat) (hnc : n ≤ c) (hbytes : i.bytes * c ≤ 281474976710656) (h63 : c ≤ 9223372036854775807) (w : World) :
    (Instr.makeSlice t (.int kl (n : Int)) (.int kc (c : Int))).run P w = .ok (.slice (some ⟨w.heap.size, 0, none⟩) n c) (w.alloc (.cells (madeCells z.cells (c * i.size)) e)) := by
  have hb : (i.bytes : Int) * (c : Int) ≤ 281474976710656 := by
    have h : ((i.bytes * c : Nat) : Int) ≤ 281474976710656 := by omega
    rwa [Int.natCast_mul] at h
  have hr := run_make (P := P) w t e i z ht hi hz kl kc n c (by omega) (by omega) hb (by omega)
  simp only [Int.toNat_natCast] at hr
  exact hr

theorem addr_ne {b o o' : Nat} (h : o ≠ o') : (⟨b, o, none⟩ : Addr) ≠ ⟨b, o', none⟩ := fun e => h (by cases e; rfl)
theorem addr_ne_block {b b' o o' : Nat} (h : b ≠ b') : (⟨b, o, none⟩ : Addr) ≠ ⟨b', o', none⟩ := fun e => h (by cases e; rfl)

end Go.Proofs.YtogljlloobjeoaaGreat
