/- The memory of chapter 22 as lists: sectors, and what each operation makes of them. Nothing of the program stands here. -/
import Derived.Test.YtogljlloobjeoaaGreatBase
namespace Go.Proofs.YtogljlloobjeoaaGreat

def zero64 : ByteArray := ⟨Array.replicate 64 0⟩
theorem zero64_size : zero64.size = 64 := by simp [zero64, ByteArray.size]

/-- Of the sector with this number, something is changed. -/
def updS (M : List Sec) (i : Nat) (f : Sec → Sec) : List Sec :=
  match M[i]? with
  | some s => M.set i (f s)
  | none => M
theorem updS_length (M : List Sec) (i : Nat) (f : Sec → Sec) : (updS M i f).length = M.length := by
  unfold updS; split <;> simp
theorem updS_get (M : List Sec) (i j : Nat) (f : Sec → Sec) : (updS M i f)[j]? = if i = j then M[j]?.map f else M[j]? := by
  unfold updS
  split
  · rename_i s h
    rw [List.getElem?_set]
    by_cases e : i = j
    · subst e
      rw [if_pos rfl, if_pos rfl, h, if_pos (List.getElem?_eq_some_iff.1 h).1]; rfl
    · rw [if_neg e, if_neg e]
  · rename_i h
    by_cases e : i = j
    · subst e; rw [if_pos rfl, h]; rfl
    · rw [if_neg e]
theorem updS_some {M : List Sec} {i : Nat} {s : Sec} (f : Sec → Sec) (h : M[i]? = some s) : updS M i f = M.set i (f s) := by
  unfold updS; rw [h]

def Sec.put (x : ByteArray) (s : Sec) : Sec := if s.worn then s else { s with fresh := x, dirty := true }
def Sec.back (s : Sec) : Sec := { s with now := s.before }
def Sec.wear (s : Sec) : Sec := { s with worn := true }
def Sec.settle (n : Int) (s : Sec) : Sec :=
  if 0 < n then { s with now := s.fresh.extract 0 n.toNat ++ s.now.extract n.toNat s.now.size, before := s.now, fresh := ByteArray.empty, dirty := false }
  else { s with fresh := ByteArray.empty, dirty := false }
def Sec.laid (x : ByteArray) (s : Sec) : Sec := { now := x, before := x, fresh := ByteArray.empty, dirty := false, worn := s.worn }
def Sec.read (s : Sec) : ByteArray := if s.dirty then s.fresh else s.now

def Sec.WF (s : Sec) : Prop := s.now.size = 64 ∧ s.before.size = 64 ∧ (s.dirty = true → s.fresh.size = 64)
def WFM (M : List Sec) : Prop := ∀ s ∈ M, s.WF

abbrev isIn (M : List Sec) (i : Int) : Prop := 0 ≤ i ∧ i < (M.length : Int)

def wrM (M : List Sec) (i : Int) (x : ByteArray) : List Sec := if isIn M i ∧ x.size = 64 then updS M i.toNat (Sec.put x) else M
def wrE (M : List Sec) (i : Int) (x : ByteArray) : Int := if isIn M i ∧ x.size = 64 then 0 else 1
def rdT (M : List Sec) (i : Int) : ByteArray := if isIn M i then ((M[i.toNat]?).map Sec.read).getD ByteArray.empty else ByteArray.empty
def rdE (M : List Sec) (i : Int) : Int := if isIn M i then 0 else 1
def stM (M : List Sec) (i : Int) : List Sec := if isIn M i then updS M i.toNat Sec.back else M
def weM (M : List Sec) (i : Int) : List Sec := if isIn M i then updS M i.toNat Sec.wear else M
def flM (M : List Sec) : List Sec := M.map fun s => if s.dirty then s.settle 64 else s
def clampP (p : Int) : Int := max 0 (min p 64)
def cutM : List Sec → List Int → List Sec
  | [], _ => []
  | s :: M, ps => if s.dirty then s.settle (clampP (ps.headD 0)) :: cutM M ps.tail else s :: cutM M ps
def imgM (M : List Sec) : List ByteArray := M.map Sec.now
def okImg (M : List Sec) (l : List ByteArray) : Prop := l.length = M.length ∧ ∀ x ∈ l, x.size = 64
instance (M : List Sec) (l : List ByteArray) : Decidable (okImg M l) := inferInstanceAs (Decidable (_ ∧ _))
def ldM (M : List Sec) (l : List ByteArray) : List Sec := if okImg M l then List.zipWith Sec.laid l M else M
def ldE (M : List Sec) (l : List ByteArray) : Int := if okImg M l then 0 else 1
def newM (n : Nat) : List Sec := List.replicate n { now := zero64, before := zero64, fresh := ByteArray.empty, dirty := false, worn := false }
/-- The numbers of the sectors that satisfy a condition, from k on. -/
def idxFrom (f : Sec → Bool) : Nat → List Sec → List Nat
  | _, [] => []
  | k, s :: M => if f s then k :: idxFrom f (k + 1) M else idxFrom f (k + 1) M
def idxs (f : Sec → Bool) (M : List Sec) : List Nat := idxFrom f 0 M

theorem wrM_length (M i x) : (wrM M i x).length = M.length := by unfold wrM; split <;> simp [updS_length]
theorem stM_length (M i) : (stM M i).length = M.length := by unfold stM; split <;> simp [updS_length]
theorem weM_length (M i) : (weM M i).length = M.length := by unfold weM; split <;> simp [updS_length]
theorem flM_length (M) : (flM M).length = M.length := by simp [flM]
theorem cutM_length : ∀ (M : List Sec) (ps : List Int), (cutM M ps).length = M.length
  | [], _ => rfl
  | s :: M, ps => by unfold cutM; split <;> simp [cutM_length]
theorem ldM_length (M l) : (ldM M l).length = M.length := by
  unfold ldM; split
  · rename_i h; simp [h.1]
  · rfl

theorem idxFrom_append (f : Sec → Bool) (k : Nat) (A B : List Sec) : idxFrom f k (A ++ B) = idxFrom f k A ++ idxFrom f (k + A.length) B := by
  induction A generalizing k with
  | nil => simp [idxFrom]
  | cons a A ih =>
    simp only [List.cons_append, idxFrom, List.length_cons]
    have : k + (A.length + 1) = k + 1 + A.length := by omega
    split <;> simp [ih, this]
theorem idxs_take_succ (f : Sec → Bool) (M : List Sec) (k : Nat) (s : Sec) (h : M[k]? = some s) : idxs f (M.take (k + 1)) = idxs f (M.take k) ++ (if f s then [k] else []) := by
  have hk : k < M.length := (List.getElem?_eq_some_iff.1 h).1
  have he : M.take (k + 1) = M.take k ++ [s] := by rw [List.take_add_one, h]; rfl
  unfold idxs
  rw [he, idxFrom_append]
  have : (M.take k).length = k := by simp; omega
  simp only [this, Nat.zero_add]
  congr 1
theorem idxs_length_le (f : Sec → Bool) (M : List Sec) : (idxs f M).length ≤ M.length := by
  unfold idxs
  suffices ∀ k, (idxFrom f k M).length ≤ M.length from this 0
  induction M with
  | nil => simp [idxFrom]
  | cons a M ih => intro k; unfold idxFrom; split <;> simp [Nat.le_succ_of_le, ih]

/-! ### Settling sector by sector -/
/-- The first i sectors are settled, those that are dirty; sector j takes p j. -/
def part (p : Nat → Int) (M : List Sec) (i : Nat) : List Sec := M.mapIdx fun j s => if j < i ∧ s.dirty = true then s.settle (p j) else s
theorem part_length (p : Nat → Int) (M : List Sec) (i : Nat) : (part p M i).length = M.length := by simp [part]
theorem part_get (p : Nat → Int) (M : List Sec) (i j : Nat) : (part p M i)[j]? = M[j]?.map fun s => if j < i ∧ s.dirty = true then s.settle (p j) else s := by
  simp [part, List.getElem?_mapIdx]
theorem part_zero (p : Nat → Int) (M : List Sec) : part p M 0 = M := by
  apply List.ext_getElem?; intro j; rw [part_get]; cases M[j]? <;> simp
theorem part_here (p : Nat → Int) (M : List Sec) (i : Nat) : (part p M i)[i]? = M[i]? := by
  rw [part_get]; cases M[i]? <;> simp
theorem part_no (p : Nat → Int) (M : List Sec) (i : Nat) (h : (M[i]?.map Sec.dirty).getD false = false) : part p M (i + 1) = part p M i := by
  apply List.ext_getElem?; intro j
  rw [part_get, part_get]
  by_cases e : j = i
  · subst e
    cases hM : M[j]? with
    | none => rfl
    | some s => rw [hM] at h; simp only [Option.map_some, Option.getD_some] at h; simp [h]
  · have : (j < i + 1) = (j < i) := by rw [eq_iff_iff]; omega
    simp only [this]
theorem part_yes (p : Nat → Int) (M : List Sec) (i : Nat) (s : Sec) (h : M[i]? = some s) (hd : s.dirty = true) : part p M (i + 1) = (part p M i).set i (s.settle (p i)) := by
  have hi : i < M.length := (List.getElem?_eq_some_iff.1 h).1
  apply List.ext_getElem?; intro j
  rw [List.getElem?_set, part_get, part_get]
  by_cases e : i = j
  · subst e
    rw [if_pos rfl, if_pos (by rw [part_length]; exact hi), h]
    simp [hd]
  · rw [if_neg e]
    have : (j < i + 1) = (j < i) := by rw [eq_iff_iff]; omega
    simp only [this]
theorem part_flM (M : List Sec) : part (fun _ => 64) M M.length = flM M := by
  apply List.ext_getElem?; intro j
  rw [part_get]
  unfold flM
  rw [List.getElem?_map]
  cases hM : M[j]? with
  | none => rfl
  | some s => have : j < M.length := (List.getElem?_eq_some_iff.1 hM).1; simp [this]
/-- How many of the first i sectors are dirty. -/
def before (M : List Sec) (i : Nat) : Nat := ((M.take i).filter Sec.dirty).length
def pickAt (M : List Sec) (ps : List Int) (j : Nat) : Int := clampP (ps.getD (before M j) 0)
theorem before_succ (M : List Sec) (i : Nat) (s : Sec) (h : M[i]? = some s) : before M (i + 1) = before M i + if s.dirty then 1 else 0 := by
  have he : M.take (i + 1) = M.take i ++ [s] := by rw [List.take_add_one, h]; rfl
  unfold before
  rw [he, List.filter_append, List.length_append]
  cases hd : s.dirty <;> simp [hd]
theorem before_cons (s : Sec) (M : List Sec) (i : Nat) : before (s :: M) (i + 1) = (if s.dirty then 1 else 0) + before M i := by
  unfold before
  rw [List.take_succ_cons, List.filter_cons]
  split <;> simp [Nat.add_comm]
theorem cutM_get : ∀ (M : List Sec) (ps : List Int) (j : Nat), (cutM M ps)[j]? = M[j]?.map fun s => if s.dirty = true then s.settle (pickAt M ps j) else s
  | [], _, _ => by simp [cutM]
  | s :: M, ps, 0 => by
    unfold cutM
    cases hd : s.dirty
    · simp [hd]
    · simp [hd, pickAt, before, List.headD_eq_head?_getD, List.head?_eq_getElem?]
  | s :: M, ps, j + 1 => by
    unfold cutM
    cases hd : s.dirty
    · simp only [Bool.false_eq_true, if_false, List.getElem?_cons_succ]
      rw [cutM_get M ps j]
      simp only [pickAt, before_cons, hd, Bool.false_eq_true, if_false, Nat.zero_add]
    · simp only [if_true, List.getElem?_cons_succ]
      rw [cutM_get M ps.tail j]
      have : ps.tail.getD (before M j) 0 = ps.getD (1 + before M j) 0 := by
        cases ps with
        | nil => simp
        | cons q ps => simp [Nat.add_comm 1]
      simp only [pickAt, before_cons, hd, if_true, this]
theorem part_cutM (M : List Sec) (ps : List Int) : part (pickAt M ps) M M.length = cutM M ps := by
  apply List.ext_getElem?; intro j
  rw [part_get, cutM_get]
  cases hM : M[j]? with
  | none => rfl
  | some s => have : j < M.length := (List.getElem?_eq_some_iff.1 hM).1; simp [this]

/-! ### Sectors stay well-formed -/
theorem updS_WF {M : List Sec} (h : WFM M) (i : Nat) (f : Sec → Sec) (hf : ∀ s : Sec, s.WF → (f s).WF) : WFM (updS M i f) := by
  intro s hs
  obtain ⟨j, hj⟩ := List.getElem?_of_mem hs
  rw [updS_get] at hj
  split at hj
  · cases hM : M[j]? with
    | none => rw [hM] at hj; cases hj
    | some t =>
      rw [hM] at hj; cases hj
      exact hf t (h t (List.mem_of_getElem? hM))
  · exact h s (List.mem_of_getElem? hj)
theorem wrM_WF {M : List Sec} (h : WFM M) (i : Int) (x : ByteArray) : WFM (wrM M i x) := by
  unfold wrM; split
  · rename_i hx
    exact updS_WF h _ _ (fun s hs => by unfold Sec.put; split; exact hs; exact ⟨hs.1, hs.2.1, fun _ => hx.2⟩)
  · exact h
theorem stM_WF {M : List Sec} (h : WFM M) (i : Int) : WFM (stM M i) := by
  unfold stM; split
  · exact updS_WF h _ _ (fun s hs => ⟨hs.2.1, hs.2.1, hs.2.2⟩)
  · exact h
theorem weM_WF {M : List Sec} (h : WFM M) (i : Int) : WFM (weM M i) := by
  unfold weM; split
  · exact updS_WF h _ _ (fun s hs => hs)
  · exact h
theorem settle_WF {s : Sec} (h : s.WF) (hd : s.dirty = true) (n : Int) (hn : n ≤ 64) : (s.settle n).WF := by
  unfold Sec.settle; split
  · refine ⟨?_, h.1, fun e => by cases e⟩
    simp only [ByteArray.size_append, ByteArray.size_extract, h.1, h.2.2 hd]
    omega
  · exact ⟨h.1, h.2.1, fun e => by cases e⟩
theorem clampP_le (p : Int) : clampP p ≤ 64 := by unfold clampP; omega
theorem clampP_nonneg (p : Int) : 0 ≤ clampP p := by unfold clampP; omega
theorem flM_WF {M : List Sec} (h : WFM M) : WFM (flM M) := by
  intro s hs
  obtain ⟨t, ht, rfl⟩ := List.mem_map.1 hs
  split
  · rename_i hd; exact settle_WF (h t ht) hd 64 (by omega)
  · exact h t ht
theorem cutM_WF : ∀ {M : List Sec} (_ : WFM M) (ps : List Int), WFM (cutM M ps)
  | [], _, _ => by intro s hs; cases hs
  | t :: M, h, ps => by
    have ht := h t (by simp)
    have hM : WFM M := fun s hs => h s (by simp [hs])
    unfold cutM
    split
    · rename_i hd
      intro s hs
      rcases List.mem_cons.1 hs with rfl | hs
      · exact settle_WF ht hd _ (clampP_le _)
      · exact cutM_WF hM _ s hs
    · intro s hs
      rcases List.mem_cons.1 hs with rfl | hs
      · exact ht
      · exact cutM_WF hM _ s hs
theorem ldM_WF {M : List Sec} (h : WFM M) (l : List ByteArray) : WFM (ldM M l) := by
  unfold ldM; split
  · rename_i ho
    intro s hs
    obtain ⟨i, hi⟩ := List.getElem?_of_mem hs
    rw [List.getElem?_zipWith] at hi
    cases hl : l[i]? with
    | none => rw [hl] at hi; simp at hi
    | some x =>
      cases hM : M[i]? with
      | none => rw [hl, hM] at hi; simp at hi
      | some t =>
        rw [hl, hM] at hi
        simp only [Option.some.injEq] at hi
        subst hi
        have := ho.2 x (List.mem_of_getElem? hl)
        exact ⟨this, this, fun e => by cases e⟩
  · exact h
theorem newM_WF (n : Nat) : WFM (newM n) := by
  intro s hs
  rw [List.eq_of_mem_replicate hs]
  exact ⟨zero64_size, zero64_size, fun e => by cases e⟩

end Go.Proofs.YtogljlloobjeoaaGreat
