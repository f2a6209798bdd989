/- The device of chapter 23 as plain data, and what each operation makes of it. Nothing of the program stands here. -/
import Derived.Test.YtogljlloobjeoaaGreatMod
namespace Go.Proofs.YtogljlloobjeoaaGreat

def zero32 : ByteArray := ⟨Array.replicate 32 0⟩
theorem zero32_size : zero32.size = 32 := by simp [zero32, ByteArray.size]

structure Dv where
  M : List Sec
  S : List ByteArray
  F : List Bool
  cnt : Int
  clk : Int
  dn : Bool
  lf : Int

/-- A step: what it returns, and what it leaves. -/
def stpE (d : Dv) (c : Int) : Int := if d.dn = true then 14 else if c ≠ 0 then c else if d.lf = 0 then 14 else 0
def Dv.less (d : Dv) : Dv := { d with lf := max (d.lf - 1) (-1) }
def stpD (d : Dv) (c : Int) (g : Dv → Dv) : Dv := if d.dn = true then d else if c ≠ 0 then d else if d.lf = 0 then { d with dn := true, lf := -1 } else g d.less

def wrC (d : Dv) (i : Int) (x : ByteArray) : Int := if isIn d.M i ∧ x.size = 64 then 0 else 1
def slC (d : Dv) (i : Int) (x : ByteArray) : Int := if (0 ≤ i ∧ i < (d.S.length : Int)) ∧ x.size = 32 then 0 else 1
def buC (d : Dv) (i : Int) : Int := if 0 ≤ i ∧ i < (d.F.length : Int) then 0 else 1
def raC (d : Dv) (n : Int) : Int := if 0 ≤ n ∧ n ≤ 4611686018427387904 then (if n < d.cnt then 20 else 0) else 1

def dWr (d : Dv) (i : Int) (x : ByteArray) : Dv := stpD d (wrC d i x) fun d => { d with M := wrM d.M i x }
def dFl (d : Dv) : Dv := stpD d 0 fun d => { d with M := flM d.M }
def dSt (d : Dv) (i : Int) (x : ByteArray) : Dv := stpD d (slC d i x) fun d => { d with S := d.S.set i.toNat x }
def dBu (d : Dv) (i : Int) : Dv := stpD d (buC d i) fun d => { d with F := d.F.set i.toNat true }
def dRa (d : Dv) (n : Int) : Dv := stpD d (raC d n) fun d => { d with cnt := n }
def tiE (d : Dv) (n : Int) : Int := if n < 0 ∨ 1099511627776 - d.clk < n then 1 else 0
def dTi (d : Dv) (n : Int) : Dv := if n < 0 ∨ 1099511627776 - d.clk < n then d else { d with clk := d.clk + n }
def dTr (d : Dv) (n : Int) : Dv := { d with lf := max n (-1) }
def dMo (d : Dv) (ps : List Int) : Dv := { d with M := cutM d.M ps, dn := false, lf := -1 }
def dBa (d : Dv) : Dv := { d with S := List.replicate d.S.length zero32 }
def dRdT (d : Dv) (i : Int) : ByteArray := if d.dn = true then ByteArray.empty else rdT d.M i
def dRdE (d : Dv) (i : Int) : Int := if d.dn = true then 14 else rdE d.M i
def dLdT (d : Dv) (i : Int) : ByteArray := if d.dn = true then ByteArray.empty else if 0 ≤ i ∧ i < (d.S.length : Int) then (d.S[i.toNat]?).getD ByteArray.empty else ByteArray.empty
def dLdE (d : Dv) (i : Int) : Int := if d.dn = true then 14 else if 0 ≤ i ∧ i < (d.S.length : Int) then 0 else 1
def dBd (d : Dv) (i : Int) : Bool := if 0 ≤ i ∧ i < (d.F.length : Int) then (d.F[i.toNat]?).getD false else false

/-- An operation of a script of chapter 23. -/
structure DOp where
  kd : Int
  a : Int
  b : Int
  fill : UInt8
  short : Bool
  pk : List Int
def dtext (f : UInt8) (sh : Bool) (n : Nat) : ByteArray := ⟨((List.range (if sh = true then n - 1 else n)).map fun i => f + UInt8.ofNat (i % 5)).toArray⟩
theorem dtext_size (f : UInt8) (sh : Bool) (n : Nat) : (dtext f sh n).size = if sh = true then n - 1 else n := by simp [dtext, ByteArray.size]

/-- What an operation leaves of the device; img is the last image. -/
def doD (o : DOp) (img : List ByteArray) (d : Dv) : Dv :=
  if o.kd = 2 then dWr d o.a (dtext o.fill o.short 64)
  else if o.kd = 3 then dFl d
  else if o.kd = 5 then dSt d o.a (dtext o.fill o.short 32)
  else if o.kd = 6 then dBu d o.a
  else if o.kd = 7 then dRa d o.a
  else if o.kd = 8 then dTi d o.a
  else if o.kd = 9 then dTr d o.a
  else if o.kd = 10 then dMo d o.pk
  else if o.kd = 11 then dBa d
  else if o.kd = 12 then { d with M := stM d.M o.a }
  else if o.kd = 13 then { d with M := weM d.M o.a }
  else if o.kd = 15 then { d with M := ldM d.M img }
  else d
def doI (o : DOp) (img : List ByteArray) (d : Dv) : List ByteArray := if o.kd = 14 then imgM d.M else img
def doT (o : DOp) (d : Dv) : ByteArray := if o.kd = 1 then dRdT d o.a else if o.kd = 4 then dLdT d o.a else ByteArray.empty
def doE (o : DOp) (img : List ByteArray) (d : Dv) : Int :=
  if o.kd = 1 then dRdE d o.a
  else if o.kd = 2 then stpE d (wrC d o.a (dtext o.fill o.short 64))
  else if o.kd = 3 then stpE d 0
  else if o.kd = 4 then dLdE d o.a
  else if o.kd = 5 then stpE d (slC d o.a (dtext o.fill o.short 32))
  else if o.kd = 6 then stpE d (buC d o.a)
  else if o.kd = 7 then stpE d (raC d o.a)
  else if o.kd = 8 then tiE d o.a
  else if o.kd = 12 then rdE d.M o.a
  else if o.kd = 13 then rdE d.M o.a
  else if o.kd = 15 then ldE d.M img
  else 0

/-- What holds of every device. -/
structure Dv.Ok (d : Dv) : Prop where
  wf : WFM d.M
  m0 : 0 < d.M.length
  m1 : d.M.length ≤ 4096
  s0 : 0 < d.S.length
  s1 : d.S.length ≤ 16
  f0 : 0 < d.F.length
  f1 : d.F.length ≤ 16
  cnt0 : 0 ≤ d.cnt
  cnt1 : d.cnt ≤ 4611686018427387904
  clk0 : 0 ≤ d.clk
  clk1 : d.clk ≤ 1099511627776
  lf0 : -1 ≤ d.lf
  lf1 : d.lf ≤ 9223372036854775807

/-- A change that keeps the numbers of parts. -/
structure Keeps (d e : Dv) : Prop where
  ok : d.Ok → e.Ok
  m : e.M.length = d.M.length
  s : e.S.length = d.S.length
  f : e.F.length = d.F.length
theorem Keeps.refl (d : Dv) : Keeps d d := ⟨fun h => h, rfl, rfl, rfl⟩
theorem Keeps.trans {d e f : Dv} (h : Keeps d e) (k : Keeps e f) : Keeps d f := ⟨fun x => k.ok (h.ok x), k.m.trans h.m, k.s.trans h.s, k.f.trans h.f⟩
theorem Keeps.less (d : Dv) : Keeps d d.less := ⟨fun h => { h with lf0 := by show -1 ≤ max (d.lf - 1) (-1); omega, lf1 := by show max (d.lf - 1) (-1) ≤ _; have := h.lf1; omega }, rfl, rfl, rfl⟩
theorem Keeps.stp {d : Dv} {c : Int} {g : Dv → Dv} (h : c = 0 → Keeps d.less (g d.less)) : Keeps d (stpD d c g) := by
  unfold stpD
  split
  · exact Keeps.refl d
  · split
    · exact Keeps.refl d
    · rename_i hc
      split
      · exact ⟨fun h => { h with lf0 := by show (-1 : Int) ≤ -1; omega, lf1 := by show (-1 : Int) ≤ _; omega }, rfl, rfl, rfl⟩
      · exact (Keeps.less d).trans (h (by omega))
theorem Keeps.mem (d : Dv) (M' : List Sec) (hw : WFM d.M → WFM M') (hl : M'.length = d.M.length) : Keeps d { d with M := M' } :=
  ⟨fun h => { h with wf := hw h.wf, m0 := by show 0 < M'.length; rw [hl]; exact h.m0, m1 := by show M'.length ≤ _; rw [hl]; exact h.m1 }, hl, rfl, rfl⟩
theorem Keeps.wr (d : Dv) (i : Int) (x : ByteArray) : Keeps d (dWr d i x) := Keeps.stp fun _ => Keeps.mem _ _ (fun h => wrM_WF h i x) (wrM_length _ _ _)
theorem Keeps.fl (d : Dv) : Keeps d (dFl d) := Keeps.stp fun _ => Keeps.mem _ _ (fun h => flM_WF h) (flM_length _)
theorem Keeps.slots (d : Dv) (S' : List ByteArray) (hl : S'.length = d.S.length) : Keeps d { d with S := S' } :=
  ⟨fun h => { h with s0 := by show 0 < S'.length; rw [hl]; exact h.s0, s1 := by show S'.length ≤ _; rw [hl]; exact h.s1 }, rfl, hl, rfl⟩
theorem Keeps.fuses (d : Dv) (S' : List Bool) (hl : S'.length = d.F.length) : Keeps d { d with F := S' } :=
  ⟨fun h => { h with f0 := by show 0 < S'.length; rw [hl]; exact h.f0, f1 := by show S'.length ≤ _; rw [hl]; exact h.f1 }, rfl, rfl, hl⟩
theorem Keeps.st (d : Dv) (i : Int) (x : ByteArray) : Keeps d (dSt d i x) := Keeps.stp fun _ => Keeps.slots _ _ (by simp)
theorem Keeps.bu (d : Dv) (i : Int) : Keeps d (dBu d i) := Keeps.stp fun _ => Keeps.fuses _ _ (by simp)
theorem Keeps.ra (d : Dv) (n : Int) : Keeps d (dRa d n) := Keeps.stp fun hc => by
  unfold raC at hc
  split at hc
  · rename_i h; exact ⟨fun k => { k with cnt0 := h.1, cnt1 := h.2 }, rfl, rfl, rfl⟩
  · cases hc
theorem Keeps.ti (d : Dv) (n : Int) : Keeps d (dTi d n) := by
  unfold dTi
  split
  · exact Keeps.refl d
  · rename_i h
    exact ⟨fun k => { k with clk0 := by show 0 ≤ d.clk + n; have := k.clk0; omega, clk1 := by show d.clk + n ≤ _; omega }, rfl, rfl, rfl⟩
theorem Keeps.tr (d : Dv) (n : Int) (hn : n ≤ 9223372036854775807) : Keeps d (dTr d n) :=
  ⟨fun k => { k with lf0 := by show -1 ≤ max n (-1); omega, lf1 := by show max n (-1) ≤ _; omega }, rfl, rfl, rfl⟩
theorem Keeps.mo (d : Dv) (ps : List Int) : Keeps d (dMo d ps) :=
  (Keeps.mem d (cutM d.M ps) (fun h => cutM_WF h ps) (cutM_length _ _)).trans ⟨fun k => { k with lf0 := by show (-1 : Int) ≤ -1; omega, lf1 := by show (-1 : Int) ≤ _; omega }, rfl, rfl, rfl⟩
theorem Keeps.ba (d : Dv) : Keeps d (dBa d) := Keeps.slots _ _ (by simp)
theorem Keeps.do (o : DOp) (img : List ByteArray) (d : Dv) (ha : o.a ≤ 9223372036854775807) : Keeps d (doD o img d) := by
  unfold doD
  by_cases h2 : o.kd = 2
  · rw [if_pos h2]; exact Keeps.wr _ _ _
  rw [if_neg h2]
  by_cases h3 : o.kd = 3
  · rw [if_pos h3]; exact Keeps.fl _
  rw [if_neg h3]
  by_cases h5 : o.kd = 5
  · rw [if_pos h5]; exact Keeps.st _ _ _
  rw [if_neg h5]
  by_cases h6 : o.kd = 6
  · rw [if_pos h6]; exact Keeps.bu _ _
  rw [if_neg h6]
  by_cases h7 : o.kd = 7
  · rw [if_pos h7]; exact Keeps.ra _ _
  rw [if_neg h7]
  by_cases h8 : o.kd = 8
  · rw [if_pos h8]; exact Keeps.ti _ _
  rw [if_neg h8]
  by_cases h9 : o.kd = 9
  · rw [if_pos h9]; exact Keeps.tr _ _ ha
  rw [if_neg h9]
  by_cases h10 : o.kd = 10
  · rw [if_pos h10]; exact Keeps.mo _ _
  rw [if_neg h10]
  by_cases h11 : o.kd = 11
  · rw [if_pos h11]; exact Keeps.ba _
  rw [if_neg h11]
  by_cases h12 : o.kd = 12
  · rw [if_pos h12]; exact Keeps.mem _ _ (fun h => stM_WF h _) (stM_length _ _)
  rw [if_neg h12]
  by_cases h13 : o.kd = 13
  · rw [if_pos h13]; exact Keeps.mem _ _ (fun h => weM_WF h _) (weM_length _ _)
  rw [if_neg h13]
  by_cases h15 : o.kd = 15
  · rw [if_pos h15]; exact Keeps.mem _ _ (fun h => ldM_WF h _) (ldM_length _ _)
  rw [if_neg h15]; exact Keeps.refl d

def newD (n s f : Nat) : Dv := { M := newM n, S := List.replicate s zero32, F := List.replicate f false, cnt := 0, clk := 0, dn := false, lf := -1 }
theorem newD_ok (n s f : Nat) (n0 : 0 < n) (n1 : n ≤ 4096) (s0 : 0 < s) (s1 : s ≤ 16) (f0 : 0 < f) (f1 : f ≤ 16) : (newD n s f).Ok := by
  constructor
  · exact newM_WF n
  all_goals simp [newD, newM]
  all_goals omega

/-- A device and its last image, played along a script. -/
def runD : List DOp → Dv × List ByteArray → Dv × List ByteArray
  | [], x => x
  | o :: l, x => runD l (doD o x.2 x.1, doI o x.2 x.1)
theorem runD_append (A B : List DOp) (x : Dv × List ByteArray) : runD (A ++ B) x = runD B (runD A x) := by
  induction A generalizing x with
  | nil => rfl
  | cons o A ih => simp only [List.cons_append, runD]; exact ih _
theorem runD_take_succ (ops : List DOp) (x : Dv × List ByteArray) (j : Nat) (o : DOp) (h : ops[j]? = some o) :
    runD (ops.take (j + 1)) x = (doD o (runD (ops.take j) x).2 (runD (ops.take j) x).1, doI o (runD (ops.take j) x).2 (runD (ops.take j) x).1) := by
  rw [List.take_add_one, h, runD_append]; rfl
theorem doI_length (o : DOp) (img : List ByteArray) (d : Dv) (h : img.length ≤ 4096) (hm : d.M.length ≤ 4096) : (doI o img d).length ≤ 4096 := by
  unfold doI; split
  · simpa [imgM] using hm
  · exact h

end Go.Proofs.YtogljlloobjeoaaGreat
