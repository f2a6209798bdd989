/- The examples of chapter 22, on lists. Nothing of the program stands here. -/
import Derived.Test.YtogljlloobjeoaaMod
import Derived.KernelRfl
namespace Go.Proofs.Ytogljlloobjeoaa

def aS : ByteArray := ⟨Array.replicate 64 65⟩
def bS : ByteArray := ⟨Array.replicate 64 66⟩
def wantS : ByteArray := ⟨#[65, 65, 65]⟩ ++ zero64.extract 3 64
def zS : Sec := ⟨zero64, zero64, ByteArray.empty, false, false⟩
def sM1 : List Sec := [⟨zero64, zero64, aS, true, false⟩, zS]
def sM2 : List Sec := [⟨wantS, zero64, ByteArray.empty, false, false⟩, zS]
def sM3 : List Sec := [⟨wantS, zero64, bS, true, false⟩, zS]
def sM4 : List Sec := [⟨bS, wantS, ByteArray.empty, false, false⟩, zS]
def sM5 : List Sec := [⟨wantS, wantS, ByteArray.empty, false, false⟩, zS]
def sM6 : List Sec := [⟨wantS, wantS, ByteArray.empty, false, false⟩, ⟨zero64, zero64, ByteArray.empty, false, true⟩]
theorem s1 : wrM (newM 2) 0 aS = sM1 := by kernel_rfl
theorem s1e : wrE (newM 2) 0 aS = 0 := by kernel_rfl
theorem s1r : rdT sM1 0 = aS := by kernel_rfl
theorem s1d : idxs Sec.dirty sM1 = [0] := by kernel_rfl
theorem s2 : cutM sM1 [3] = sM2 := by kernel_rfl
theorem s2r : rdT sM2 0 = wantS := by kernel_rfl
theorem s3 : wrM sM2 0 bS = sM3 := by kernel_rfl
theorem s3e : wrE sM2 0 bS = 0 := by kernel_rfl
theorem s4 : flM sM3 = sM4 := by kernel_rfl
theorem s4r : rdT sM4 0 = bS := by kernel_rfl
theorem s5 : stM sM4 0 = sM5 := by kernel_rfl
theorem s5r : rdT sM5 0 = wantS := by kernel_rfl
theorem s6 : weM sM5 1 = sM6 := by kernel_rfl
theorem s7 : wrM sM6 1 aS = sM6 := by kernel_rfl
theorem s7e : wrE sM6 1 aS = 0 := by kernel_rfl
theorem s7r : rdT sM6 1 = zero64 := by kernel_rfl
theorem s7w : idxs Sec.worn sM6 = [1] := by kernel_rfl
theorem s7i : imgM sM6 = [wantS, zero64] := by kernel_rfl
theorem s8e : ldE sM6 [bS, bS] = 0 := by kernel_rfl
theorem s8r : rdT (ldM sM6 [bS, bS]) 0 = bS := by kernel_rfl
theorem sWF1 : WFM sM1 := by rw [← s1]; exact wrM_WF (newM_WF 2) _ _
theorem sWF3 : WFM sM3 := by rw [← s3]; exact wrM_WF (by rw [← s2]; exact cutM_WF sWF1 _) _ _
theorem sE0 (M : List Sec) (h : 0 < M.length) : rdE M 0 = 0 := by unfold rdE; rw [if_pos ⟨by omega, by omega⟩]

end Go.Proofs.Ytogljlloobjeoaa
