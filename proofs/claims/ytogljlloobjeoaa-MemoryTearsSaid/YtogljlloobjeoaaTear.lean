/- What a failure of the power leaves of a sector: the plain law; bytes and ends of texts. -/
import Derived.Test.YtogljlloobjeoaaMod
import Derived.Laws.Slices
import Derived.Laws.Strings
namespace Go.Proofs.Ytogljlloobjeoaa
open Go.RowKit

def bN (x : ByteArray) (k : Nat) : Nat := (x.data.toList.getD k 0).toNat
theorem bN_get (x : ByteArray) (k : Nat) (h : k < x.size) : (x[k]'h).toNat = bN x k := by
  unfold bN
  have h' : k < x.data.toList.length := h
  rw [List.getD_eq_getElem?_getD, List.getElem?_eq_getElem h', Option.getD_some]
  rfl
theorem idxRun {P : Program} {t : TypeId} (ht : P.underlying t = some .string) (x : ByteArray) (k : Nat) (h : k < x.size) (W : World) :
    (Instr.index t (.string x) (.int .i64 (k : Int))).run P W = .ok (.int .u8 (bN x k : Nat)) W := by
  rw [run_index_string _ _ _ _ _ ht, dif_pos ⟨by omega, by omega⟩]
  have e := bN_get x k h
  rw [← e]
  congr 2
theorem endRun {P : Program} {t : TypeId} (ht : P.underlying t = some .string) (x : ByteArray) (k : Nat) (h : k ≤ x.size) (W : World) :
    (Instr.slice t (.string x) (some (.int .i64 (k : Int))) none none).run P W = .ok (.string (x.extract k x.size)) W := by
  have := run_slice_string_l W t x ht .i64 (k : Int) (by omega) (by omega)
  simpa using this

theorem ba_ext {a b : ByteArray} (h : a.data.toList = b.data.toList) : a = b := by
  cases a; cases b; congr 1; exact Array.toList_inj.1 h
theorem ext_list (x : ByteArray) (i j : Nat) : (x.extract i j).data.toList = (x.data.toList.take j).drop i := by
  rw [ByteArray.data_extract, Array.toList_extract]
  simp [List.extract, List.drop_take]
theorem app_list (x y : ByteArray) : (x ++ y).data.toList = x.data.toList ++ y.data.toList := by simp
theorem size_list (x : ByteArray) : x.data.toList.length = x.size := rfl

/-- A sector behind the failure. -/
def Sec.torn (p : Int) (s : Sec) : Sec := if s.dirty = true then s.settle p else s
theorem torn_suffix {s : Sec} (hw : s.WF) (p : Int) (hp0 : 0 ≤ p) (hp : p ≤ 64) (k : Nat) (hk : k ≤ 64) (hx : k = 64 ∨ bN (s.torn p).now k ≠ bN s.read k) : (s.torn p).now.extract k (s.torn p).now.size = s.now.extract k s.now.size := by
  unfold Sec.torn at hx ⊢
  unfold Sec.read at hx
  by_cases hd : s.dirty = true
  · rw [if_pos hd, if_pos hd] at hx
    rw [if_pos hd]
    unfold Sec.settle at hx ⊢
    by_cases h0 : 0 < p
    · rw [if_pos h0] at hx
      rw [if_pos h0]
      obtain ⟨q, rfl⟩ : ∃ q : Nat, p = (q : Int) := ⟨p.toNat, by omega⟩
      rw [Int.toNat_natCast] at hx ⊢
      have hf : s.fresh.data.toList.length = 64 := by rw [size_list]; exact hw.2.2 hd
      have hn : s.now.data.toList.length = 64 := by rw [size_list]; exact hw.1
      have hqk : q ≤ k := by
        rcases hx with rfl | hx
        · omega
        · apply Classical.byContradiction
          intro hlt
          refine hx ?_
          unfold bN
          simp only [app_list, ext_list]
          rw [List.getD_eq_getElem?_getD, List.getD_eq_getElem?_getD, List.getElem?_append_left (by simp [hf]; omega)]
          simp only [List.drop_zero]
          rw [List.getElem?_take_of_lt (by omega)]
      apply ba_ext
      rw [ext_list, ext_list]
      simp only [app_list, ext_list, List.drop_zero]
      rw [List.take_of_length_le (l := s.now.data.toList) (by rw [size_list]; exact Nat.le_refl _)]
      rw [List.take_of_length_le (by rw [← size_list]; simp only [app_list, ext_list, List.drop_zero]; rw [List.take_of_length_le (l := s.now.data.toList) (by rw [size_list]; exact Nat.le_refl _)]; exact Nat.le_refl _)]
      have hlt : (s.fresh.data.toList.take q).length = q := by rw [List.length_take, hf]; omega
      rw [List.drop_append, hlt, List.drop_drop, show q + (k - q) = k by omega, List.drop_of_length_le (by rw [hlt]; exact hqk), List.nil_append]
    · rw [if_neg h0]
  · rw [if_neg hd]

end Go.Proofs.Ytogljlloobjeoaa
