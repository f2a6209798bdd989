/- slices.Clone at the program's types; Clone of package memory. -/
import Derived.Test.YtogljlloobjeoaaGreatNewR
namespace Go.Proofs.YtogljlloobjeoaaGreat
open Go.RowKit

theorem infoMSec : (Tryz.prog.info? 85).map (fun i => (i.zero, i.size, i.bytes)) = some (some (.agg #[.string ByteArray.empty, .string ByteArray.empty, .string ByteArray.empty, .bool false, .bool false]), 5, 56) := by kernel_rfl
theorem cell_newB' (w : World) (v : Value) (T : TypeId) : (w.alloc (.cells #[v] T)).cell? ⟨w.heap.size, 0, none⟩ = some v := by simp
theorem infoBool : (Tryz.prog.info? 4).map (fun i => (i.zero, i.size, i.bytes)) = some (some (.bool false), 1, 1) := by kernel_rfl

set_option maxRecDepth 100000 in
set_option maxHeartbeats 1600000 in
theorem lCloneSec (w : World) (pb o n cap : Nat) (xs : List Value) (hl : xs.length = n * 5) (hx : ∀ j u, xs[j]? = some u → w.cell? ⟨pb, o + j, none⟩ = some u) (hone : ∀ u ∈ xs, u.oneCell' = true) (hn : n ≤ 4096) :
    Calls Tryz.prog 73 #[.slice (some ⟨pb, o, none⟩) n cap] w fun e w' => ∃ v', e = .returned v' ∧ w'.ownsRow w.heap.size 85 5 v' n xs ∧ Below w.heap.size w w' := by
  obtain ⟨i0, hi, hz0, hz1, hz2⟩ := info_parts infoMSec
  have hnil := fun W => Lib.run_eql_slice_nil (P := Tryz.prog) W 82 85 (some (Addr.mk pb o none)) n cap 0 0 Tryz.underlying82
  have hnews : ∀ j u, xs[j]? = some u → (w.alloc (.cells #[] 85)).cell? ((⟨pb, o, none⟩ : Addr).add j) = some u := fun j u hj => by
    have hc := hx j u hj
    have : (⟨pb, o, none⟩ : Addr).add j = ⟨pb, o + j, none⟩ := by unfold Addr.add; split <;> simp_all
    rw [this, World.cell?_alloc_lt _ _ _ (World.block_lt_of_cell? _ _ hc), hc]
  have hnews' := Lib.hid hnews
  clear hnews
  have hl' := Lib.hid hl
  clear hl hx
  have hone' := Lib.hid hone
  clear hone
  go_enter Tryz.func73, Tryz.ntmps73
  go_wp2_with (at_builtin; refine wpList_append_own _ rfl _ _ 82 rfl w.heap.size 85 i0 (.agg #[.string ByteArray.empty, .string ByteArray.empty, .string ByteArray.empty, .bool false, .bool false]) 5 56 Tryz.underlying82 hi hz0 hz1 hz2 rfl (by decide) _ _ _ rfl (World.ownsRow_made w #[] 0 (Nat.le_refl _) (Nat.zero_le _) rfl) ⟨pb, o, none⟩ n cap xs rfl hl'.out hnews'.out hone'.out ?c3 ?c4 ?c5 ?_)
  case c3 => unfold maxLen; omega
  case c4 => omega
  case c5 => simp
  intro v' w1 hown' hgrow _
  have hB : Below w.heap.size w w1 := ((Below.refl _ _).alloc (Nat.le_refl _) _).grown hgrow (by simp) (fun k hk => by simp [Value.ownBlock] at hk; omega)
  have hown2 : w1.ownsRow w.heap.size 85 5 v' n xs := by simpa using hown'
  clear hown' hgrow
  go_wp2
  go_ret
  exact ⟨_, rfl, hown2, hB⟩

set_option maxRecDepth 100000 in
set_option maxHeartbeats 1600000 in
theorem lCloneStr (w : World) (pb o n cap : Nat) (xs : List Value) (hl : xs.length = n * 1) (hx : ∀ j u, xs[j]? = some u → w.cell? ⟨pb, o + j, none⟩ = some u) (hone : ∀ u ∈ xs, u.oneCell' = true) (hn : n ≤ 4096) :
    Calls Tryz.prog 32 #[.slice (some ⟨pb, o, none⟩) n cap] w fun e w' => ∃ v', e = .returned v' ∧ w'.ownsRow w.heap.size 9 1 v' n xs ∧ Below w.heap.size w w' := by
  obtain ⟨i0, hi, hz0, hz1, hz2⟩ := info_parts infoStr
  have hnil := fun W => Lib.run_eql_slice_nil (P := Tryz.prog) W 36 9 (some (Addr.mk pb o none)) n cap 0 0 Tryz.underlying36
  have hnews : ∀ j u, xs[j]? = some u → (w.alloc (.cells #[] 9)).cell? ((⟨pb, o, none⟩ : Addr).add j) = some u := fun j u hj => by
    have hc := hx j u hj
    have : (⟨pb, o, none⟩ : Addr).add j = ⟨pb, o + j, none⟩ := by unfold Addr.add; split <;> simp_all
    rw [this, World.cell?_alloc_lt _ _ _ (World.block_lt_of_cell? _ _ hc), hc]
  have hnews' := Lib.hid hnews
  clear hnews
  have hl' := Lib.hid hl
  clear hl hx
  have hone' := Lib.hid hone
  clear hone
  go_enter Tryz.func32, Tryz.ntmps32
  go_wp2_with (at_builtin; refine wpList_append_own _ rfl _ _ 36 rfl w.heap.size 9 i0 (.string ByteArray.empty) 1 16 Tryz.underlying36 hi hz0 hz1 hz2 rfl (by decide) _ _ _ rfl (World.ownsRow_made w #[] 0 (Nat.le_refl _) (Nat.zero_le _) rfl) ⟨pb, o, none⟩ n cap xs rfl hl'.out hnews'.out hone'.out ?c3 ?c4 ?c5 ?_)
  case c3 => unfold maxLen; omega
  case c4 => omega
  case c5 => simp
  intro v' w1 hown' hgrow _
  have hB : Below w.heap.size w w1 := ((Below.refl _ _).alloc (Nat.le_refl _) _).grown hgrow (by simp) (fun k hk => by simp [Value.ownBlock] at hk; omega)
  have hown2 : w1.ownsRow w.heap.size 9 1 v' n xs := by simpa using hown'
  clear hown' hgrow
  go_wp2
  go_ret
  exact ⟨_, rfl, hown2, hB⟩

set_option maxRecDepth 100000 in
set_option maxHeartbeats 1600000 in
theorem lCloneBool (w : World) (pb o n cap : Nat) (xs : List Value) (hl : xs.length = n * 1) (hx : ∀ j u, xs[j]? = some u → w.cell? ⟨pb, o + j, none⟩ = some u) (hone : ∀ u ∈ xs, u.oneCell' = true) (hn : n ≤ 4096) :
    Calls Tryz.prog 33 #[.slice (some ⟨pb, o, none⟩) n cap] w fun e w' => ∃ v', e = .returned v' ∧ w'.ownsRow w.heap.size 4 1 v' n xs ∧ Below w.heap.size w w' := by
  obtain ⟨i0, hi, hz0, hz1, hz2⟩ := info_parts infoBool
  have hnil := fun W => Lib.run_eql_slice_nil (P := Tryz.prog) W 60 4 (some (Addr.mk pb o none)) n cap 0 0 Tryz.underlying60
  have hnews : ∀ j u, xs[j]? = some u → (w.alloc (.cells #[] 4)).cell? ((⟨pb, o, none⟩ : Addr).add j) = some u := fun j u hj => by
    have hc := hx j u hj
    have : (⟨pb, o, none⟩ : Addr).add j = ⟨pb, o + j, none⟩ := by unfold Addr.add; split <;> simp_all
    rw [this, World.cell?_alloc_lt _ _ _ (World.block_lt_of_cell? _ _ hc), hc]
  have hnews' := Lib.hid hnews
  clear hnews
  have hl' := Lib.hid hl
  clear hl hx
  have hone' := Lib.hid hone
  clear hone
  go_enter Tryz.func33, Tryz.ntmps33
  go_wp2_with (at_builtin; refine wpList_append_own _ rfl _ _ 60 rfl w.heap.size 4 i0 (.bool false) 1 1 Tryz.underlying60 hi hz0 hz1 hz2 rfl (by decide) _ _ _ rfl (World.ownsRow_made w #[] 0 (Nat.le_refl _) (Nat.zero_le _) rfl) ⟨pb, o, none⟩ n cap xs rfl hl'.out hnews'.out hone'.out ?c3 ?c4 ?c5 ?_)
  case c3 => unfold maxLen; omega
  case c4 => omega
  case c5 => simp
  intro v' w1 hown' hgrow _
  have hB : Below w.heap.size w w1 := ((Below.refl _ _).alloc (Nat.le_refl _) _).grown hgrow (by simp) (fun k hk => by simp [Value.ownBlock] at hk; omega)
  have hown2 : w1.ownsRow w.heap.size 4 1 v' n xs := by simpa using hown'
  clear hown' hgrow
  go_wp2
  go_ret
  exact ⟨_, rfl, hown2, hB⟩

set_option maxRecDepth 100000 in
set_option maxHeartbeats 1600000 in
theorem mClone (w : World) (pm pb : Nat) (M : List Sec) (hM : MemAt w pm pb M) (hn : M.length ≤ 4096) (h0 : 0 < M.length) :
    Calls Tryz.prog 31 #[.pointer (some ⟨pm, 0, none⟩)] w fun e w' => ∃ pm' pb', e = .returned (.pointer (some ⟨pm', 0, none⟩)) ∧ MemAt w' pm' pb' M ∧ w.heap.size ≤ pm' ∧ w.heap.size ≤ pb' ∧ Below w.heap.size w w' := by
  obtain ⟨cap, hc, hcap⟩ := hM.ptr
  go_enter Tryz.func31, Tryz.ntmps31
  go_wp2_with fail
  refine (lCloneSec w pb 0 M.length cap (secCells M) (secCells_length M) (fun j u hj => by rw [Nat.zero_add]; exact hM.arr.cells j u hj) secCells_one hn).mono ?_
  rintro e w1 ⟨v, rfl, hown, hB⟩
  obtain ⟨pb', cap', hv, hcap', hpb, harr⟩ := arr_of_own hown h0
  subst hv
  clear hown
  have hlt := harr.lt
  have harr2 : ArrAt (w1.alloc (.cells #[.slice (some ⟨pb', 0, none⟩) M.length cap'] 87)) pb' M := harr.fr (S := []) ((Fr.refl _ _).alloc _) (by simp)
  have hcn := cell_newB' w1 (.slice (some ⟨pb', 0, none⟩) M.length cap') 87
  have hfz : Hid (∀ o, (w1.alloc (.cells #[.slice (some ⟨pb', 0, none⟩) M.length cap'] 87)).frozen? ⟨w1.heap.size, o, none⟩ = false) := fun o => by simp
  have hB2 := hB.alloc hB.size (.cells #[.slice (some ⟨pb', 0, none⟩) M.length cap'] 87)
  have hz2 : w1.heap.size < (w1.alloc (.cells #[.slice (some ⟨pb', 0, none⟩) M.length cap'] 87)).heap.size := by simp
  have hbs := hB.size
  go_wp2
  go_ret
  exact ⟨w1.heap.size, pb', rfl, ⟨⟨cap', hcn, hcap'⟩, hz2, hfz.out, harr2, by omega⟩, hbs, hpb, hB2⟩

end Go.Proofs.YtogljlloobjeoaaGreat
