/- slices.Repeat at the sectors of package memory; New of package memory. -/
import Derived.Test.YtogljlloobjeoaaGreatNewM
import Derived.Test.YtogljlloobjeoaaGreatShelf
import Derived.Laws.CopyOwn
namespace Go.Proofs.YtogljlloobjeoaaGreat
open Go.RowKit

/-- copy into a row that is known whole, whatever the size of its elements. -/
theorem run_copy_rowN {P : Program} (w : World) (dT sT ty elem : TypeId) (sz g o dLen dCap : Nat) (a : Addr) (sLen sCap : Nat) (cur : Array Value) (t : TypeId) (cs : List Value)
    (hu : P.underlying dT = some (.slice elem)) (hs : (P.info? elem).map (·.size) = some sz)
    (hg : w.heap[g]? = some (.cells cur t (0, 0))) (hn : cs.length = Nat.min sLen dLen * sz)
    (hsrc : ∀ j v, cs[j]? = some v → w.cell? (a.add j) = some v) (hfit : o + cs.length ≤ cur.size) (h1 : ∀ v ∈ cs, v.oneCell' = true) :
    (Builtin.copy_ #[dT, sT] ty #[.slice (some ⟨g, o, none⟩) dLen dCap, .slice (some a) sLen sCap]).run P w =
      .ok (goInt (Nat.min sLen dLen)) (w.setRow g (cur.toList.take o ++ cs ++ cur.toList.drop (o + cs.length)).toArray) := by
  have hl := run_loadCells_list (P := P) w a cs hsrc
  have hst := run_storeCells_at P g o t cs 0 cur w hg (by simpa using hfit) h1
  cases hq : P.info? elem with
  | none => simp [hq] at hs
  | some i =>
    have hi : i.size = sz := by simpa [hq] using hs
    simp [Builtin.copy_, run_underlying hu, Builtin.lenOf, Builtin.firstCells, sizeOf, typeInfo, hq, hi, ← hn, hl, hst]

theorem step_copyN {P : Program} {ops : Array Oper} {o : Oper} {a : Act} {w : World} {K : Act → World → Prop} {Q : Exit → Act → World → Prop} {E : Prop} (hgd : o.guard = none) (d s : Operand) (dT sT : TypeId)
    (ho : o.op = .call { callee := .builtin .copy, args := #[d, s], argTypes := #[dT, sT] }) (dv sv : Value) (hd : a.eval d = dv) (hs : a.eval s = sv) (n : Nat) (w' : World)
    (hrun : ∀ ty, (Builtin.copy_ #[dT, sT] ty #[dv, sv]).run P w = .ok (goInt n) w') (hK : K (a.put o.dst (goInt n)) w') :
    if Region.wanted o (yielded ops a.tmps) = true then Oper.wp P o a w K Q else E := by
  have hw : Region.wanted o (yielded ops a.tmps) = true := by simp [Region.wanted, hgd]
  rw [if_pos hw]
  unfold Oper.wp
  simp [execOp, ho, resolve, invoke, builtin, hd, hs, hrun, Result.andThen]
  exact hK

theorem wpList_copyN {P : Program} {w : World} {ops : Array Oper} {rest : List Oper} {o : Oper} {a : Act} {Q : Exit → Act → World → Prop} (hgd : o.guard = none) (d s : Operand) (dT sT : TypeId)
    (ho : o.op = .call { callee := .builtin .copy, args := #[d, s], argTypes := #[dT, sT] }) (dv sv : Value) (hd : a.eval d = dv) (hs : a.eval s = sv) (n : Nat) (w' : World)
    (hrun : ∀ ty, (Builtin.copy_ #[dT, sT] ty #[dv, sv]).run P w = .ok (goInt n) w') (h : wpList P ops Q rest (a.put o.dst (goInt n)) w') : wpList P ops Q (o :: rest) a w := by
  refine wpList_plain hgd fun K hK => ?_
  unfold Oper.wp
  simp [execOp, ho, resolve, invoke, builtin, hd, hs, hrun, Result.andThen]
  exact hK _ _ h

theorem modify_push_new {α : Type} (A : Array α) (x : α) (f : α → α) : (A.push x).modify A.size f = A.push (f x) := by
  apply Array.ext_getElem?
  intro i
  rw [Array.getElem?_modify, Array.getElem?_push, Array.getElem?_push]
  by_cases h : i = A.size
  · subst h; simp
  · rw [if_neg h, if_neg h, if_neg (fun e => h e.symm)]
theorem setRow_alloc (w : World) (c c' : Array Value) (t : TypeId) : (w.alloc (.cells c t)).setRow w.heap.size c' = w.alloc (.cells c' t) := by
  unfold World.setRow World.alloc
  simp only [modify_push_new]

theorem secCells_take (A : List Sec) : ∀ k, (secCells A).take (k * 5) = secCells (A.take k) := by
  induction A with
  | nil => intro k; simp [secCells]
  | cons s A ih =>
    intro k
    cases k with
    | zero => simp [secCells]
    | succ k =>
      have : secCells (s :: A) = s.cells ++ secCells A := by unfold secCells; rw [List.flatMap_cons]
      rw [this, List.take_succ_cons]
      have h2 : secCells (s :: A.take k) = s.cells ++ secCells (A.take k) := by unfold secCells; rw [List.flatMap_cons]
      rw [h2, ← ih k, show (k + 1) * 5 = s.cells.length + k * 5 by rw [Sec.cells_length]; omega, List.take_append, List.take_of_length_le (by omega)]
      simp
theorem secCells_drop (A : List Sec) : ∀ k, (secCells A).drop (k * 5) = secCells (A.drop k) := by
  induction A with
  | nil => intro k; simp [secCells]
  | cons s A ih =>
    intro k
    cases k with
    | zero => simp
    | succ k =>
      have : secCells (s :: A) = s.cells ++ secCells A := by unfold secCells; rw [List.flatMap_cons]
      rw [this, List.drop_succ_cons, ← ih k, show (k + 1) * 5 = s.cells.length + k * 5 by rw [Sec.cells_length]; omega, List.drop_append]
      simp

def zSec : Sec := { now := ByteArray.empty, before := ByteArray.empty, fresh := ByteArray.empty, dirty := false, worn := false }
def repL (S : Sec) (n j : Nat) : List Sec := List.replicate j S ++ List.replicate (n - j) zSec
theorem repL_length (S : Sec) (n j : Nat) (h : j ≤ n) : (repL S n j).length = n := by unfold repL; simp; omega
theorem repL_take (S : Sec) (n j m : Nat) (h : m ≤ j) : (repL S n j).take m = List.replicate m S := by
  unfold repL; rw [List.take_append_of_le_length (by simpa using h), List.take_replicate, Nat.min_eq_left h]
theorem repL_drop (S : Sec) (n j m : Nat) : (repL S n j).drop (j + m) = List.replicate (n - (j + m)) zSec := by
  unfold repL; rw [List.drop_append, List.drop_eq_nil_of_le (by simp), List.nil_append]
  simp [List.drop_replicate]; omega
theorem repL_all (S : Sec) (n : Nat) : repL S n n = List.replicate n S := by unfold repL; simp
/-- The row behind a copy of m sectors. -/
theorem repL_copy (S : Sec) (n j m : Nat) (_hj : j + m ≤ n) :
    ((secCells (repL S n j)).toArray.toList.take (j * 5) ++ secCells (List.replicate m S) ++ (secCells (repL S n j)).toArray.toList.drop (j * 5 + (secCells (List.replicate m S)).length)).toArray = (secCells (repL S n (j + m))).toArray := by
  congr 1
  rw [secCells_length, List.length_replicate, show j * 5 + m * 5 = (j + m) * 5 by omega]
  simp only
  rw [secCells_take, secCells_drop, repL_take _ _ _ _ (Nat.le_refl _), repL_drop, ← secCells_append, ← secCells_append]
  congr 1
  unfold repL
  rw [List.replicate_append_replicate]

theorem made_zSec (n : Nat) : madeCells (Value.agg #[.string ByteArray.empty, .string ByteArray.empty, .string ByteArray.empty, .bool false, .bool false]).cells (n * 5) = (secCells (List.replicate n zSec)).toArray := by
  apply Array.ext_getElem?
  intro i
  show _ = (secCells (List.replicate n zSec)).toArray[i]?
  rw [show (secCells (List.replicate n zSec)).toArray[i]? = (secCells (List.replicate n zSec))[i]? from List.getElem?_toArray ..]
  rcases Nat.lt_or_ge i (n * 5) with h | h
  · have hi : i / 5 < n := by omega
    have he : i = i / 5 * 5 + i % 5 := by omega
    have hs : (List.replicate n zSec)[i / 5]? = some zSec := by rw [List.getElem?_replicate, if_pos hi]
    have hr : (secCells (List.replicate n zSec))[i]? = zSec.cells[i % 5]? := by
      have := secCells_get (List.replicate n zSec) (i / 5) (i % 5) zSec hs (by omega)
      rwa [← he] at this
    rw [hr]
    have hm : (madeCells (Value.agg #[.string ByteArray.empty, .string ByteArray.empty, .string ByteArray.empty, .bool false, .bool false]).cells (n * 5))[i]? = some ((Value.agg #[.string ByteArray.empty, .string ByteArray.empty, .string ByteArray.empty, .bool false, .bool false]).cells[i % 5]!) := by
      unfold madeCells
      rw [Array.getElem?_map, Array.getElem?_range, if_pos h]
      rfl
    rw [hm]
    have hm5 : i % 5 < 5 := by omega
    generalize i % 5 = r at hm5
    match r, hm5 with
    | 0, _ => rfl
    | 1, _ => rfl
    | 2, _ => rfl
    | 3, _ => rfl
    | 4, _ => rfl
  · rw [Array.getElem?_eq_none (by rw [size_madeCells]; exact h), List.getElem?_eq_none (by rw [secCells_length, List.length_replicate]; exact h)]

theorem lMul1 (w : World) (n : Nat) (hn : n ≤ 4096) : Calls Tryz.prog 93 #[.int .u64 1, .int .u64 n] w fun e w' => e = .returned (.tuple #[.int .u64 0, .int .u64 n]) ∧ w = w' := by
  refine (Tryz.bits_Mul 1 n (by omega) (by omega) w).mono ?_
  rintro e w' ⟨rfl, rfl⟩
  refine ⟨?_, rfl⟩
  have h1 : 1 * n / 18446744073709551616 = 0 := by omega
  have h2 : 1 * n % 18446744073709551616 = n := by omega
  rw [h1, h2]; rfl

theorem cpSec (w : World) (S : Sec) (n j m : Nat) (hj : j + m ≤ n) (a : Addr) (sLen sCap dLen dCap : Nat) (hm : m = Nat.min sLen dLen) (W : World) (hW : W = w.alloc (.cells (secCells (repL S n j)).toArray 85))
    (hsrc : ∀ q v, (secCells (List.replicate m S))[q]? = some v → W.cell? (a.add q) = some v) (ty : TypeId) :
    (Builtin.copy_ #[82, 82] ty #[.slice (some ⟨w.heap.size, j * 5, none⟩) dLen dCap, .slice (some a) sLen sCap]).run Tryz.prog W = .ok (.int .i64 m) (w.alloc (.cells (secCells (repL S n (j + m))).toArray 85)) := by
  subst hW
  have hsz5 : (Tryz.prog.info? 85).map (·.size) = some 5 := by
    obtain ⟨i0, hi, hz0, hz1, hz2⟩ := info_parts infoMSec
    rw [hi]; simp [hz1]
  have := run_copy_rowN (P := Tryz.prog) (w.alloc (.cells (secCells (repL S n j)).toArray 85)) 82 82 ty 85 5 w.heap.size (j * 5) dLen dCap a sLen sCap (secCells (repL S n j)).toArray 85 (secCells (List.replicate m S)) Tryz.underlying82 hsz5
    (World.alloc_heap_new _ _) (by rw [secCells_length, List.length_replicate, hm]) hsrc (by rw [secCells_length, List.length_replicate, List.size_toArray, secCells_length, repL_length _ _ _ (by omega)]; omega) (fun v hv => secCells_one v hv)
  rw [setRow_alloc, repL_copy S n j m hj, ← hm] at this
  exact this

theorem arr_rep (w : World) (S : Sec) (n j m : Nat) (hm : m ≤ j) : ∀ q v, (secCells (List.replicate m S))[q]? = some v → (w.alloc (.cells (secCells (repL S n j)).toArray 85)).cell? ((⟨w.heap.size, 0, none⟩ : Addr).add q) = some v := by
  intro q v hq
  refine cells_alloc w _ rfl (secCells (repL S n j)) _ q v ?_
  have hl : q < m * 5 := by
    have := (List.getElem?_eq_some_iff.1 hq).1
    rwa [secCells_length, List.length_replicate] at this
  rw [← hq, ← repL_take S n j m hm, ← secCells_take, List.getElem?_take_of_lt hl]

set_option maxRecDepth 100000 in
set_option maxHeartbeats 1600000 in
theorem lRepeatSec (w : World) (bx cap : Nat) (S : Sec) (hS : ArrAt w bx [S]) (n : Nat) (h1 : 1 ≤ n) (hn : n ≤ 4096) :
    Calls Tryz.prog 71 #[.slice (some ⟨bx, 0, none⟩) 1 cap, .int .i64 n] w fun e w' => e = .returned (.slice (some ⟨w.heap.size, 0, none⟩) n n) ∧ w'.heap.size = w.heap.size + 1 ∧ ArrAt w' w.heap.size (List.replicate n S) ∧ Below w.heap.size w w' := by
  obtain ⟨i0, hi, hz0, hz1, hz2⟩ := info_parts infoMSec
  have hsz5 : (Tryz.prog.info? 85).map (·.size) = some 5 := by rw [hi]; simp [hz1]
  have hmk := fun W => run_make_rowN (P := Tryz.prog) 82 85 i0 _ Tryz.underlying82 hi hz0 .i64 .i64 n n (Nat.le_refl _) (by rw [hz2]; omega) (by omega) W
  rw [hz1, made_zSec] at hmk
  have hcp0 := cpSec w S n 0 1 (by omega) ⟨bx, 0, none⟩ 1 cap n n (by exact (Nat.min_eq_left h1).symm) (w.alloc (.cells (secCells (repL S n 0)).toArray 85)) rfl (fun q v hq => by
    have := hS.cells_add q v hq
    have e : (⟨bx, 0, none⟩ : Addr).add q = ⟨bx, q, none⟩ := by unfold Addr.add; split <;> simp_all
    rw [e] at this ⊢
    rw [World.cell?_alloc_lt _ _ _ hS.lt]; exact this)
  rw [Nat.zero_mul, Nat.zero_add, show repL S n 0 = List.replicate n zSec by unfold repL; simp] at hcp0
  have hcp0' : ∀ ty, (Builtin.copy_ #[82, 82] ty #[.slice (some ⟨w.heap.size, 0, none⟩) n n, .slice (some ⟨bx, 0, none⟩) 1 cap]).run Tryz.prog (w.alloc (.cells (secCells (List.replicate n zSec)).toArray 85)) = .ok (.int .i64 1) (w.alloc (.cells (secCells (repL S n 1)).toArray 85)) := hcp0
  clear hcp0
  go_enter Tryz.func71, Tryz.ntmps71
  go_wp2_with (go_at_call 93; refine (lMul1 _ n hn).mono ?_; rintro e w' ⟨rfl, rfl⟩)
  clear hcp0' hmk
  go_loopw [8] (fun t wr => ∃ j : Nat, 1 ≤ j ∧ j ≤ n ∧ t = .int .i64 (j : Int) ∧ ∃ w0, Below w.heap.size w w0 ∧ w0.heap.size = w.heap.size ∧ wr = w0.alloc (.cells (secCells (repL S n j)).toArray 85)) (fun t _ => n - (intOf t).toNat)
  case atStart => exact ⟨1, Nat.le_refl _, h1, rfl, w, Below.refl _ _, rfl, rfl⟩
  case round =>
    obtain ⟨j, hj1, hjn, rfl, w0, hB0, hz0, rfl⟩ := hrel
    by_cases hlt : j < n
    · have hlti : (j : Int) < (n : Int) := by omega
      have hm : Nat.min j (n - j) = if j ≤ n - j then j else n - j := rfl
      have hcp := cpSec w0.drew S n j (Nat.min j (n - j)) (by have : Nat.min j (n - j) ≤ n - j := Nat.min_le_right j (n - j); omega) ⟨w0.heap.size, 0, none⟩ j n (n - j) (n - j) rfl _ rfl (arr_rep w0.drew S n j _ (Nat.min_le_left _ _))
      have hmn : j + Nat.min j (n - j) ≤ n ∧ 1 ≤ Nat.min j (n - j) := by rw [hm]; split <;> omega
      clear hm
      generalize Nat.min j (n - j) = m at hcp hmn
      have hmi : (m : Int) ≤ 4096 := by omega
      have hmi0 : (0 : Int) ≤ m := by omega
      have hcp1 : ∀ ty, (Builtin.copy_ #[82, 82] ty #[.slice (some ⟨w.heap.size, j * 5, none⟩) (n - j) (n - j), .slice (some ⟨w.heap.size, 0, none⟩) j n]).run Tryz.prog (w0.alloc (.cells (secCells (repL S n j)).toArray 85)).drew = .ok (.int .i64 m) (w0.drew.alloc (.cells (secCells (repL S n (j + m))).toArray 85)) := by rw [← hz0]; exact hcp
      clear hcp
      go_wp2_with fail
      go_region
      go_wp2
      go_roundw
      case rel => exact ⟨j + m, by omega, by omega, by go_num, w0.drew, hB0.drew, hz0, rfl⟩
      case measure => simp [intOf]; omega
    · obtain rfl : j = n := by omega
      go_wp2
      go_ret
      refine ⟨rfl, by simp [hz0], ?_, hB0.alloc (by omega) _⟩
      rw [← hz0]
      refine ArrAt.of_cells (by simp) (fun k u hk => ?_) (fun o => by simp)
      rw [World.cell?_alloc_new]
      rw [repL_all]
      simpa using hk

theorem cell_newL (w : World) (v : Value) (T : TypeId) : ∀ k u, [v][k]? = some u → (w.alloc (.cells #[v] T)).cell? ⟨w.heap.size, k, none⟩ = some u := by
  intro k u hk
  rw [World.cell?_alloc_new]; simpa using hk

set_option maxRecDepth 100000 in
set_option maxHeartbeats 1600000 in
theorem mNew_bad (w : World) (n : Int) (h : n < 1 ∨ 4096 < n) :
    Calls Tryz.prog 27 #[.int .i64 n] w fun e w' => e = .returned (.tuple #[.pointer none, .int .i64 1]) ∧ w = w' := by
  rcases Int.lt_or_le n 1 with h1 | h1
  · clear h
    go_enter Tryz.func27, Tryz.ntmps27
    go_wp2
    go_ret2
    exact ⟨rfl, rfl⟩
  · have h2 : 4096 < n := by omega
    clear h
    go_enter Tryz.func27, Tryz.ntmps27
    go_wp2
    go_ret2
    exact ⟨rfl, rfl⟩

set_option maxRecDepth 100000 in
set_option maxHeartbeats 1600000 in
theorem mNew_ok (w : World) (n : Nat) (h1 : 1 ≤ n) (h2 : n ≤ 4096) :
    Calls Tryz.prog 27 #[.int .i64 n] w fun e w' => ∃ pm pb, e = .returned (.tuple #[.pointer (some ⟨pm, 0, none⟩), .int .i64 0]) ∧ MemAt w' pm pb (newM n) ∧ w.heap.size ≤ pm ∧ w.heap.size ≤ pb ∧ Below w.heap.size w w' := by
  have hrep : Calls Tryz.prog 70 #[.string ⟨#[0]⟩, .int .i64 64] w fun e w' => e = .returned (.string zero64) ∧ Below w.heap.size w w' := by
    have := Tryz.strings_Repeat ⟨#[0]⟩ 64 w (by omega) (by simp [ByteArray.size])
    exact this
  go_enter Tryz.func27, Tryz.ntmps27
  go_wp2_with fail
  refine hrep.mono ?_
  rintro e w1 ⟨rfl, hB1⟩
  go_wp2_with fail
  have hb1 := hB1.size
  have hA : ArrAt (w1.alloc (.cells #[.string zero64, .string zero64, .string ⟨#[]⟩, .bool false, .bool false] 85)) w1.heap.size [{ now := zero64, before := zero64, fresh := ByteArray.empty, dirty := false, worn := false }] :=
    ArrAt.of_cells (by simp) (fun k u hk => by rw [World.cell?_alloc_new]; exact (List.getElem?_toArray (xs := secCells [{ now := zero64, before := zero64, fresh := ByteArray.empty, dirty := false, worn := false }]) ..).trans hk) (fun o => by simp)
  have hzA : (w1.alloc (.cells #[.string zero64, .string zero64, .string ⟨#[]⟩, .bool false, .bool false] 85)).heap.size = w1.heap.size + 1 := by simp
  have hBA := hB1.alloc hb1 (.cells #[.string zero64, .string zero64, .string ⟨#[]⟩, .bool false, .bool false] 85)
  generalize w1.alloc (.cells #[.string zero64, .string zero64, .string ⟨#[]⟩, .bool false, .bool false] 85) = W1 at *
  refine (lRepeatSec W1 w1.heap.size 1 _ hA n h1 h2).mono ?_
  rintro e w2 ⟨rfl, hz2, harr, hB2⟩
  have hB3 : Below w.heap.size w w2 := hBA.trans (hB2.mono (by omega))
  have hl2 := harr.lt
  have harr2 : ArrAt (w2.alloc (.cells #[.slice (some ⟨W1.heap.size, 0, none⟩) n n] 87)) W1.heap.size (newM n) := harr.fr (S := []) ((Fr.refl _ _).alloc _) (by simp)
  have hcn := cell_newB' w2 (.slice (some ⟨W1.heap.size, 0, none⟩) n n) 87
  have hz4 : w2.heap.size < (w2.alloc (.cells #[.slice (some ⟨W1.heap.size, 0, none⟩) n n] 87)).heap.size := by simp
  have hfz : Hid (∀ o, (w2.alloc (.cells #[.slice (some ⟨W1.heap.size, 0, none⟩) n n] 87)).frozen? ⟨w2.heap.size, o, none⟩ = false) := fun o => by simp
  have hb4 : w.heap.size ≤ w2.heap.size ∧ w.heap.size ≤ W1.heap.size := by omega
  have hb5 := Lib.hid hb4
  have hz6 := Lib.hid hz2
  clear hz2 hzA hb1 hb4 hl2
  go_wp2
  go_ret2
  exact ⟨w2.heap.size, W1.heap.size, rfl, ⟨⟨n, by rw [show (newM n).length = n by simp [newM]]; exact hcn, by simp [newM]⟩, hz4, hfz.out, harr2, by have := hz6.out; omega⟩, hb5.out.1, hb5.out.2, hB3.alloc hb5.out.1 _⟩

end Go.Proofs.YtogljlloobjeoaaGreat
