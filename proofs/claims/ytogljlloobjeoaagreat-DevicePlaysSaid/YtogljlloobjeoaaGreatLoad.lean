/- Load of both memories. -/
import Derived.Test.YtogljlloobjeoaaGreatText
namespace Go.Proofs.YtogljlloobjeoaaGreat
open Go.RowKit

/-- The first i sectors have got their elements of an image. -/
def ldPart (l : List ByteArray) (M : List Sec) (i : Nat) : List Sec := M.mapIdx fun j s => if j < i then Sec.laid (l.getD j ByteArray.empty) s else s
theorem ldPart_length (l : List ByteArray) (M : List Sec) (i : Nat) : (ldPart l M i).length = M.length := by simp [ldPart]
theorem ldPart_get (l : List ByteArray) (M : List Sec) (i j : Nat) : (ldPart l M i)[j]? = M[j]?.map fun s => if j < i then Sec.laid (l.getD j ByteArray.empty) s else s := by
  simp [ldPart, List.getElem?_mapIdx]
theorem ldPart_zero (l : List ByteArray) (M : List Sec) : ldPart l M 0 = M := by
  apply List.ext_getElem?; intro j; rw [ldPart_get]; cases M[j]? <;> simp
theorem ldPart_here (l : List ByteArray) (M : List Sec) (i : Nat) : (ldPart l M i)[i]? = M[i]? := by
  rw [ldPart_get]; cases M[i]? <;> simp
theorem ldPart_succ (l : List ByteArray) (M : List Sec) (i : Nat) (s : Sec) (h : M[i]? = some s) (x : ByteArray) (hx : l[i]? = some x) : ldPart l M (i + 1) = (ldPart l M i).set i (Sec.laid x s) := by
  have hi : i < M.length := (List.getElem?_eq_some_iff.1 h).1
  apply List.ext_getElem?; intro j
  rw [List.getElem?_set, ldPart_get, ldPart_get]
  by_cases e : i = j
  · subst e
    rw [if_pos rfl, if_pos (by rw [ldPart_length]; exact hi), h]
    simp [List.getD_eq_getElem?_getD, hx]
  · rw [if_neg e]
    have : (j < i + 1) = (j < i) := by rw [eq_iff_iff]; omega
    simp only [this]
theorem ldPart_all (l : List ByteArray) (M : List Sec) (ho : okImg M l) : ldPart l M M.length = ldM M l := by
  unfold ldM
  rw [if_pos ho]
  apply List.ext_getElem?; intro j
  rw [ldPart_get, List.getElem?_zipWith]
  cases hM : M[j]? with
  | none => cases l[j]? <;> rfl
  | some s =>
    have hj : j < M.length := (List.getElem?_eq_some_iff.1 hM).1
    have hjl : j < l.length := by have := ho.1; omega
    have hl : l[j]? = some l[j] := List.getElem?_eq_getElem hjl
    simp [hj, hl, List.getD_eq_getElem?_getD]

set_option maxHeartbeats 400000 in
theorem mLoad1 (w : World) (x : ByteArray) (b : Bool) (hb : ((x.size : Int) != 64) = b) :
    Calls Tryz.prog 100 #[.string x] w fun e w' => e = .returned (.bool b) ∧ w = w' := by
  subst hb
  go_enter Tryz.func100, Tryz.ntmps100
  go_wp2
  go_ret
  exact ⟨rfl, rfl⟩

set_option maxRecDepth 100000 in
set_option maxHeartbeats 1600000 in
theorem lIndexFunc_no (w : World) (ok : Nat → Prop) (v : Value) (xs : List ByteArray) (h : SlAt w ok v (strs xs)) (hn : xs.length ≤ 4611686018427387904) (hall : Hid (∀ x ∈ xs, x.size = 64)) :
    Calls Tryz.prog 110 #[v, .func (.func 100) #[] #[]] w fun e w' => e = .returned (.int .i64 (-1)) ∧ w = w' := by
  obtain ⟨a1, cap1, rfl, hc1, hx1⟩ := h
  have e1 : (strs xs).length = xs.length := by simp [strs]
  rw [e1] at hc1 hx1 ⊢
  clear e1
  go_enter Tryz.func110, Tryz.ntmps110
  go_wp2
  go_loop [5, 8] (fun _ k => ∃ i : Nat, i ≤ xs.length ∧ k = .int .i64 (i : Int)) (fun _ k => xs.length - (intOf k).toNat)
  case atStart => exact ⟨0, Nat.zero_le _, rfl⟩
  case round =>
    obtain ⟨i, hi, rfl⟩ := hrel
    by_cases hlt : i < xs.length
    · obtain ⟨b1, o1, rfl, _, hb1, hcell1⟩ := hx1 (by omega)
      have d1 := hcell1 i (.string xs[i]) (by simp [strs, hlt])
      have hsz : ((xs[i].size : Int) != 64) = false := by
        have := hall.out xs[i] (List.getElem_mem hlt); simp [this]
      clear hx1 hcell1
      go_wp2_with (go_at_call 100; refine (mLoad1 _ _ false hsz).mono ?_; rintro e w' ⟨rfl, rfl⟩)
      go_round
      case rel => exact ⟨i + 1, by omega, by go_num⟩
      case measure => simp [intOf]; omega
    · obtain rfl : i = xs.length := by omega
      go_wp2
      go_ret
      exact ⟨rfl, rfl⟩

set_option maxRecDepth 100000 in
set_option maxHeartbeats 1600000 in
theorem lIndexFunc_yes (w : World) (ok : Nat → Prop) (v : Value) (xs : List ByteArray) (h : SlAt w ok v (strs xs)) (hn : xs.length ≤ 4611686018427387904) (hall : Hid (¬ ∀ x ∈ xs, x.size = 64)) :
    Calls Tryz.prog 110 #[v, .func (.func 100) #[] #[]] w fun e w' => (∃ n : Int, 0 ≤ n ∧ e = .returned (.int .i64 n)) ∧ w = w' := by
  obtain ⟨a1, cap1, rfl, hc1, hx1⟩ := h
  have e1 : (strs xs).length = xs.length := by simp [strs]
  rw [e1] at hc1 hx1 ⊢
  clear e1
  go_enter Tryz.func110, Tryz.ntmps110
  go_wp2
  go_loop [5, 8] (fun _ k => ∃ i : Nat, i ≤ xs.length ∧ k = .int .i64 (i : Int) ∧ Hid (∀ j x, j < i → xs[j]? = some x → x.size = 64)) (fun _ k => xs.length - (intOf k).toNat)
  case atStart => exact ⟨0, Nat.zero_le _, rfl, fun j x hj => absurd hj (Nat.not_lt_zero _)⟩
  case round =>
    obtain ⟨i, hi, rfl, hpre⟩ := hrel
    by_cases hlt : i < xs.length
    · obtain ⟨b1, o1, rfl, _, hb1, hcell1⟩ := hx1 (by omega)
      have d1 := hcell1 i (.string xs[i]) (by simp [strs, hlt])
      clear hx1 hcell1
      by_cases hq : xs[i].size = 64
      · have hsz : ((xs[i].size : Int) != 64) = false := by simp [hq]
        have hp2 : Hid (∀ j x, j < i + 1 → xs[j]? = some x → x.size = 64) := fun j x hj hx => by
          rcases Nat.lt_or_ge j i with h | h
          · exact hpre.out j x h hx
          · obtain rfl : j = i := by omega
            rw [List.getElem?_eq_getElem hlt] at hx
            cases hx; exact hq
        clear hq
        go_wp2_with (go_at_call 100; refine (mLoad1 _ _ false hsz).mono ?_; rintro e w' ⟨rfl, rfl⟩)
        go_round
        case rel => exact ⟨i + 1, by omega, by go_num, hp2⟩
        case measure => simp [intOf]; omega
      · have hsz : ((xs[i].size : Int) != 64) = true := by simp; omega
        clear hq
        go_wp2_with (go_at_call 100; refine (mLoad1 _ _ true hsz).mono ?_; rintro e w' ⟨rfl, rfl⟩)
        go_ret
        exact ⟨⟨i, by omega, rfl⟩, rfl⟩
    · exfalso
      refine hall.out (fun x hx => ?_)
      obtain ⟨j, hj⟩ := List.getElem?_of_mem hx
      exact hpre.out j x (by have := (List.getElem?_eq_some_iff.1 hj).1; omega) hj

set_option maxRecDepth 100000 in
set_option maxHeartbeats 1600000 in
theorem lContainsFunc (w : World) (ok : Nat → Prop) (v : Value) (xs : List ByteArray) (h : SlAt w ok v (strs xs)) (hn : xs.length ≤ 4611686018427387904) (b : Bool) (hb : Hid (b = !decide (∀ x ∈ xs, x.size = 64))) :
    Calls Tryz.prog 101 #[v, .func (.func 100) #[] #[]] w fun e w' => e = .returned (.bool b) ∧ w = w' := by
  by_cases hall : ∀ x ∈ xs, x.size = 64
  · have hb' : b = false := by rw [hb.out]; simpa using hall
    have hall' := Lib.hid hall
    clear hall
    subst hb'
    go_enter Tryz.func101, Tryz.ntmps101
    go_wp2_with (go_at_call 110; refine (lIndexFunc_no _ ok v xs h hn hall').mono ?_; rintro e w' ⟨rfl, rfl⟩)
    go_ret
    exact ⟨rfl, rfl⟩
  · have hb' : b = true := by rw [hb.out]; simpa using hall
    have hall' := Lib.hid hall
    clear hall
    subst hb'
    go_enter Tryz.func101, Tryz.ntmps101
    go_wp2_with (go_at_call 110; refine (lIndexFunc_yes _ ok v xs h hn hall').mono ?_; rintro e w' ⟨⟨n, hn0, rfl⟩, rfl⟩)
    go_ret
    exact ⟨by simp <;> omega, rfl⟩

/-- Behind the five stores of Load into a sector. -/
theorem MemAt.laid {w : World} {pm pb i : Nat} {M : List Sec} {s : Sec} (h : MemAt w pm pb M) (hi : M[i]? = some s) (x : ByteArray) :
    MemAt (((((w.setCell ⟨pb, i * 5, none⟩ (.string x)).setCell ⟨pb, i * 5 + 1, none⟩ (.string x)).setCell ⟨pb, i * 5 + 2, none⟩ (.string ⟨#[]⟩)).setCell ⟨pb, i * 5 + 3, none⟩ (.bool false)).setCell ⟨pb, i * 5 + 4, none⟩ (.bool s.worn)).drew pm pb (M.set i (Sec.laid x s)) := by
  obtain ⟨c0, c1, c2, c3, c4⟩ := h.arr.sec i s hi
  refine h.upd ((((((Fr.refl _ _).setCell (by simp) _).setCell (by simp) _).setCell (by simp) _).setCell (by simp) _).setCell (by simp) _).drew ?_ (fun o ho => ?_) (fun o => by simp)
  · refine ⟨?_, ?_, ?_, ?_, ?_⟩ <;> simp [cell_set, Sec.laid, c0, c1, c2, c3, c4]
    rfl
  · rw [World.cell?_drew, cell_set, if_neg (by omega), cell_set, if_neg (by omega), cell_set, if_neg (by omega), cell_set, if_neg (by omega), cell_set, if_neg (by omega)]

set_option maxRecDepth 100000 in
set_option maxHeartbeats 2000000 in
theorem mLoad_w (w : World) (pm pb _n _cap : Nat) (ok : Nat → Prop) (M : List Sec) (hM : MemAt w pm pb M) (hnM : M.length ≤ 4096) (v : Value) (l : List ByteArray) (hl : SlAt w ok v (strs l)) (hok : ∀ b, ok b → b ≠ pb) (ho : Hid (okImg M l)) :
    Calls Tryz.prog 80 #[.pointer (some ⟨pm, 0, none⟩), v] w fun e w' => e = .returned (.int .i64 0) ∧ MemAt w' pm pb (ldM M l) ∧ Fr [pb] w w' := by
  have hcf := lContainsFunc w ok v l hl (by have := ho.out.1; omega) false (by show false = _; simpa using ho.out.2)
  have hlS := hl
  obtain ⟨a1, cap1, rfl, hc1, hx1⟩ := hl
  have e1 : (strs l).length = M.length := by simp [strs]; exact ho.out.1
  rw [e1] at hc1 hx1 hcf hlS ⊢
  clear e1
  obtain ⟨cap, hc, hcap⟩ := hM.ptr
  have hne : ((M.length : Int) != (M.length : Int)) = false := by simp
  have hcf' := Lib.hid hcf
  clear hcf
  go_enter Tryz.func80, Tryz.ntmps80
  go_wp2_with (go_at_call 101; refine hcf'.out.mono ?_; rintro e w' ⟨rfl, rfl⟩)
  have hl0 : M.length = M.length := rfl
  go_loopw [6, 7, 23] (fun _ _ k wr => ∃ i : Nat, i ≤ M.length ∧ k = .int .i64 (i : Int) ∧ MemAt wr pm pb (ldPart l M i) ∧ Fr [pb] w wr) (fun _ _ k _ => M.length - (intOf k).toNat)
  case atStart => exact ⟨0, Nat.zero_le _, rfl, by rw [ldPart_zero]; exact hM, Fr.refl _ _⟩
  case round =>
    obtain ⟨i, hi, rfl, hMi, hfr⟩ := hrel
    by_cases hlt : i < M.length
    · obtain ⟨b1, o1, rfl, hob, hb1, hcell1⟩ := hx1 (by omega)
      have hlt2 : i < l.length := by have := ho.out.1; omega
      have d1 := (hfr.cell (p := ⟨b1, o1 + i, none⟩) hb1 (by have := hok b1 hob; simpa using this)).trans (hcell1 i (.string l[i]) (by simp [strs, hlt2]))
      have hs : M[i]? = some M[i] := List.getElem?_eq_getElem hlt
      obtain ⟨capi, hci, _⟩ := hMi.ptr
      rw [ldPart_length] at hci
      obtain ⟨c0, c1, c2, c3, c4⟩ := hMi.arr.sec i M[i] (by rw [ldPart_here]; exact hs)
      have f0 := hMi.arr.frz (i * 5)
      have f1 := hMi.arr.frz (i * 5 + 1)
      have f2 := hMi.arr.frz (i * 5 + 2)
      have f3 := hMi.arr.frz (i * 5 + 3)
      have f4 := hMi.arr.frz (i * 5 + 4)
      have hlti : (i : Int) < (M.length : Int) := by omega
      clear hx1 hcell1
      have hs' := Lib.hid hs
      clear hs
      go_wp2_with fail
      go_region
      have hM2 := hMi.laid (by rw [ldPart_here]; exact hs'.out) l[i]
      rw [← ldPart_succ l M i _ hs'.out _ (List.getElem?_eq_getElem hlt2)] at hM2
      have hfr2 : Fr [pb] w ((((((wr.setCell ⟨pb, i * 5, none⟩ (.string l[i])).setCell ⟨pb, i * 5 + 1, none⟩ (.string l[i])).setCell ⟨pb, i * 5 + 2, none⟩ (.string ⟨#[]⟩)).setCell ⟨pb, i * 5 + 3, none⟩ (.bool false)).setCell ⟨pb, i * 5 + 4, none⟩ (.bool M[i].worn)).drew) :=
        (((((hfr.setCell (by simp) _).setCell (by simp) _).setCell (by simp) _).setCell (by simp) _).setCell (by simp) _).drew
      clear c0 c1 c2 c3 c4 f0 f1 f2 f3 f4 hci d1
      go_wp2
      go_roundw
      case rel => exact ⟨i + 1, by omega, by go_num, hM2, hfr2⟩
      case measure => simp [intOf]; omega
    · obtain rfl : i = M.length := by omega
      rw [ldPart_all l M ho.out] at hMi
      go_wp2
      go_ret
      exact ⟨rfl, hMi, hfr⟩

set_option maxRecDepth 100000 in
set_option maxHeartbeats 2000000 in
theorem mLoad_no (w : World) (pm pb : Nat) (ok : Nat → Prop) (M : List Sec) (hM : MemAt w pm pb M) (_hnM : M.length ≤ 4096) (v : Value) (l : List ByteArray) (hl : SlAt w ok v (strs l)) (hn : l.length ≤ 4611686018427387904) (ho : Hid (¬ okImg M l)) :
    Calls Tryz.prog 80 #[.pointer (some ⟨pm, 0, none⟩), v] w fun e w' => e = .returned (.int .i64 1) ∧ w = w' := by
  obtain ⟨cap, hc, hcap⟩ := hM.ptr
  by_cases he : l.length = M.length
  · have hcf := lContainsFunc w ok v l hl hn true (by
      show true = _
      have : ¬ ∀ x ∈ l, x.size = 64 := fun h => ho.out ⟨he, h⟩
      simpa using this)
    obtain ⟨a1, cap1, rfl, hc1, hx1⟩ := hl
    have e1 : (strs l).length = M.length := by simp [strs]; exact he
    rw [e1] at hcf ⊢
    have hne : ((M.length : Int) != (M.length : Int)) = false := by simp
    have hcf' := Lib.hid hcf
    clear hcf hx1 e1 he
    go_enter Tryz.func80, Tryz.ntmps80
    go_wp2_with (go_at_call 101; refine hcf'.out.mono ?_; rintro e w' ⟨rfl, rfl⟩)
    go_ret
    exact ⟨rfl, rfl⟩
  · obtain ⟨a1, cap1, rfl, hc1, hx1⟩ := hl
    have e1 : (strs l).length = l.length := by simp [strs]
    rw [e1]
    have hne : ((l.length : Int) != (M.length : Int)) = true := by simp; omega
    clear hx1 e1
    go_enter Tryz.func80, Tryz.ntmps80
    go_wp2
    go_ret
    exact ⟨rfl, rfl⟩

/-- Load. -/
theorem mLoad (w : World) (pm pb : Nat) (ok : Nat → Prop) (M : List Sec) (hM : MemAt w pm pb M) (hnM : M.length ≤ 4096) (v : Value) (l : List ByteArray) (hl : SlAt w ok v (strs l)) (hn : l.length ≤ 4611686018427387904) (hok : ∀ b, ok b → b ≠ pb) :
    Calls Tryz.prog 80 #[.pointer (some ⟨pm, 0, none⟩), v] w fun e w' => e = .returned (.int .i64 (ldE M l)) ∧ MemAt w' pm pb (ldM M l) ∧ Fr [pb] w w' := by
  by_cases ho : okImg M l
  · have : ldE M l = 0 := if_pos ho
    rw [this]
    exact mLoad_w w pm pb 0 0 ok M hM hnM v l hl hok ho
  · have h1 : ldE M l = 1 := if_neg ho
    have h2 : ldM M l = M := if_neg ho
    rw [h1, h2]
    refine (mLoad_no w pm pb ok M hM hnM v l hl hn ho).mono ?_
    rintro e w' ⟨rfl, rfl⟩
    exact ⟨rfl, hM, Fr.refl _ _⟩

end Go.Proofs.YtogljlloobjeoaaGreat
