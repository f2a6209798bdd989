/-
  No cell of these rows narrows 'for every input' (looked for: loops, veiled, ifaces, maps, wideKeys, modest, calm, conditions, laid).
  DERIVED. THE GIVEN ROWS OF THIS SEAT. 15 by the template 'for every input the law returns true; each argument reads behind the call as it read before'; 0 by the template 'total and deterministic' (their statements: YtogljlloobjeoaaTotals.lean).
  GIVEN WITH THE SEED: the statements are not yours to turn. If you find one false, say at which input.
  Laid BY PROGRAM, IN A SANDBOX (cutbox-rows.mjs): the forced cells as the released guide's own fill.sh prints them over the translation df826ed6af0fd885… (all of the seat's roots in one cut). By AI agents, Wed Nov 11 2026. No macro, syntax, notation, axiom, sorry.
-/
import Derived.Test.YtogljlloobjeoaaChecked
import GoSem.Claim
import GoSem.ClaimJoined
import GoSem.ClaimMapViews
import Derived.JoinedTies
import Derived.KernelRfl
namespace Go.Proofs.Ytogljlloobjeoaa
/- THE CELL 'sum', in the pinned program and in every row, IS THE sha256 OF THE DUMP (.gsa) THAT YtogljlloobjeoaaProg.lean LOADS. Nothing in Lean hashes anything: it is a label: what it is worth is what the hold of that sum in a sandbox is worth. -/
noncomputable def Try.pinned : Pinned := { name := "ytogljlloobjeoaa", sum := "df826ed6af0fd8853bda169851d8020b40222d3a9cdef54af4d7d762a5aa1b8e", checked := Try.checked }
namespace Rows
def none {H : Type} : Left H := { results := [], args := [] }

/-- 'custodylaw22.MemoryMatchesSpec': WHATEVER THE INPUT: true; the input reads as it did. -/
def memoryMatchesSpecSpec : ChangeSpec := { name := "memoryMatchesSpec", fn := fun _ => fun
  | [d1, d2] => { results := [.lit (.bool true)], args := [d1, d2] }
  | _ => none }
def memoryMatchesSpecRow : OpenClaim := { program := "ytogljlloobjeoaa", sum := "df826ed6af0fd8853bda169851d8020b40222d3a9cdef54af4d7d762a5aa1b8e", func := "custody/custodylaw22.MemoryMatchesSpec", spec := "memoryMatchesSpec", inPlace := ["internal/abi.NoEscape", "internal/bytealg.MakeNoZero"], unfollowed := true, recurses := true, apart := false }
def MemoryMatchesSpecSaid : Prop := memoryMatchesSpecRow.holds Try.pinned (OpenSpec.ofChange memoryMatchesSpecSpec)

/-- ITS FALSE NEIGHBOUR: 'it returns false'. Refute it at one input. -/
def memoryMatchesSpecWrong : ChangeSpec := { name := "memoryMatchesSpec", fn := fun _ => fun
  | [d1, d2] => { results := [.lit (.bool false)], args := [d1, d2] }
  | _ => none }
def MemoryMatchesSpecWrongFalsely : Prop := memoryMatchesSpecRow.holds Try.pinned (OpenSpec.ofChange memoryMatchesSpecWrong)

/-- 'custodylaw22.MemoryReadsLast': WHATEVER THE INPUT: true; the input reads as it did. -/
def memoryReadsLastSpec : ChangeSpec := { name := "memoryReadsLast", fn := fun _ => fun
  | [d1, d2, d3] => { results := [.lit (.bool true)], args := [d1, d2, d3] }
  | _ => none }
def memoryReadsLastRow : OpenClaim := { program := "ytogljlloobjeoaa", sum := "df826ed6af0fd8853bda169851d8020b40222d3a9cdef54af4d7d762a5aa1b8e", func := "custody/custodylaw22.MemoryReadsLast", spec := "memoryReadsLast", inPlace := ["internal/abi.NoEscape", "internal/bytealg.MakeNoZero"], unfollowed := true, recurses := true, apart := false }
def MemoryReadsLastSaid : Prop := memoryReadsLastRow.holds Try.pinned (OpenSpec.ofChange memoryReadsLastSpec)

/-- ITS FALSE NEIGHBOUR: 'it returns false'. Refute it at one input. -/
def memoryReadsLastWrong : ChangeSpec := { name := "memoryReadsLast", fn := fun _ => fun
  | [d1, d2, d3] => { results := [.lit (.bool false)], args := [d1, d2, d3] }
  | _ => none }
def MemoryReadsLastWrongFalsely : Prop := memoryReadsLastRow.holds Try.pinned (OpenSpec.ofChange memoryReadsLastWrong)

/-- 'custodylaw22.MemoryTears': WHATEVER THE INPUT: true; the input reads as it did. -/
def memoryTearsSpec : ChangeSpec := { name := "memoryTears", fn := fun _ => fun
  | [d1, d2, d3] => { results := [.lit (.bool true)], args := [d1, d2, d3] }
  | _ => none }
def memoryTearsRow : OpenClaim := { program := "ytogljlloobjeoaa", sum := "df826ed6af0fd8853bda169851d8020b40222d3a9cdef54af4d7d762a5aa1b8e", func := "custody/custodylaw22.MemoryTears", spec := "memoryTears", inPlace := ["internal/abi.NoEscape", "internal/bytealg.MakeNoZero"], unfollowed := true, recurses := true, apart := false }
def MemoryTearsSaid : Prop := memoryTearsRow.holds Try.pinned (OpenSpec.ofChange memoryTearsSpec)

/-- ITS FALSE NEIGHBOUR: 'it returns false'. Refute it at one input. -/
def memoryTearsWrong : ChangeSpec := { name := "memoryTears", fn := fun _ => fun
  | [d1, d2, d3] => { results := [.lit (.bool false)], args := [d1, d2, d3] }
  | _ => none }
def MemoryTearsWrongFalsely : Prop := memoryTearsRow.holds Try.pinned (OpenSpec.ofChange memoryTearsWrong)

/-- 'custodylaw22.MemoryWears': WHATEVER THE INPUT: true; the input reads as it did. -/
def memoryWearsSpec : ChangeSpec := { name := "memoryWears", fn := fun _ => fun
  | [d1, d2, d3, d4] => { results := [.lit (.bool true)], args := [d1, d2, d3, d4] }
  | _ => none }
def memoryWearsRow : OpenClaim := { program := "ytogljlloobjeoaa", sum := "df826ed6af0fd8853bda169851d8020b40222d3a9cdef54af4d7d762a5aa1b8e", func := "custody/custodylaw22.MemoryWears", spec := "memoryWears", inPlace := ["internal/abi.NoEscape", "internal/bytealg.MakeNoZero"], unfollowed := true, recurses := true, apart := false }
def MemoryWearsSaid : Prop := memoryWearsRow.holds Try.pinned (OpenSpec.ofChange memoryWearsSpec)

/-- ITS FALSE NEIGHBOUR: 'it returns false'. Refute it at one input. -/
def memoryWearsWrong : ChangeSpec := { name := "memoryWears", fn := fun _ => fun
  | [d1, d2, d3, d4] => { results := [.lit (.bool false)], args := [d1, d2, d3, d4] }
  | _ => none }
def MemoryWearsWrongFalsely : Prop := memoryWearsRow.holds Try.pinned (OpenSpec.ofChange memoryWearsWrong)

/-- 'custodylaw33.ZeroCompletes': WHATEVER THE INPUT: true; the input reads as it did. -/
def zeroCompletesSpec : ChangeSpec := { name := "zeroCompletes", fn := fun _ => fun
  | [d1, d2, d3, d4, d5] => { results := [.lit (.bool true)], args := [d1, d2, d3, d4, d5] }
  | _ => none }
def zeroCompletesRow : OpenClaim := { program := "ytogljlloobjeoaa", sum := "df826ed6af0fd8853bda169851d8020b40222d3a9cdef54af4d7d762a5aa1b8e", func := "custody/custodylaw33.ZeroCompletes", spec := "zeroCompletes", inPlace := ["internal/abi.NoEscape", "internal/bytealg.MakeNoZero"], unfollowed := true, recurses := true, apart := false }
def ZeroCompletesSaid : Prop := zeroCompletesRow.holds Try.pinned (OpenSpec.ofChange zeroCompletesSpec)

/-- ITS FALSE NEIGHBOUR: 'it returns false'. Refute it at one input. -/
def zeroCompletesWrong : ChangeSpec := { name := "zeroCompletes", fn := fun _ => fun
  | [d1, d2, d3, d4, d5] => { results := [.lit (.bool false)], args := [d1, d2, d3, d4, d5] }
  | _ => none }
def ZeroCompletesWrongFalsely : Prop := zeroCompletesRow.holds Try.pinned (OpenSpec.ofChange zeroCompletesWrong)

/-- 'custodylaw22.MemoryRollsBack': WHATEVER THE INPUT: true; the input reads as it did. -/
def memoryRollsBackSpec : ChangeSpec := { name := "memoryRollsBack", fn := fun _ => fun
  | [d1, d2, d3] => { results := [.lit (.bool true)], args := [d1, d2, d3] }
  | _ => none }
def memoryRollsBackRow : OpenClaim := { program := "ytogljlloobjeoaa", sum := "df826ed6af0fd8853bda169851d8020b40222d3a9cdef54af4d7d762a5aa1b8e", func := "custody/custodylaw22.MemoryRollsBack", spec := "memoryRollsBack", inPlace := ["internal/abi.NoEscape", "internal/bytealg.MakeNoZero"], unfollowed := true, recurses := true, apart := false }
def MemoryRollsBackSaid : Prop := memoryRollsBackRow.holds Try.pinned (OpenSpec.ofChange memoryRollsBackSpec)

/-- ITS FALSE NEIGHBOUR: 'it returns false'. Refute it at one input. -/
def memoryRollsBackWrong : ChangeSpec := { name := "memoryRollsBack", fn := fun _ => fun
  | [d1, d2, d3] => { results := [.lit (.bool false)], args := [d1, d2, d3] }
  | _ => none }
def MemoryRollsBackWrongFalsely : Prop := memoryRollsBackRow.holds Try.pinned (OpenSpec.ofChange memoryRollsBackWrong)

/-- 'custodylaw33.ZeroSteps': WHATEVER THE INPUT: true; the input reads as it did. -/
def zeroStepsSpec : ChangeSpec := { name := "zeroSteps", fn := fun _ => fun
  | [d1, d2, d3] => { results := [.lit (.bool true)], args := [d1, d2, d3] }
  | _ => none }
def zeroStepsRow : OpenClaim := { program := "ytogljlloobjeoaa", sum := "df826ed6af0fd8853bda169851d8020b40222d3a9cdef54af4d7d762a5aa1b8e", func := "custody/custodylaw33.ZeroSteps", spec := "zeroSteps", inPlace := ["internal/abi.NoEscape", "internal/bytealg.MakeNoZero"], unfollowed := true, recurses := true, apart := false }
def ZeroStepsSaid : Prop := zeroStepsRow.holds Try.pinned (OpenSpec.ofChange zeroStepsSpec)

/-- ITS FALSE NEIGHBOUR: 'it returns false'. Refute it at one input. -/
def zeroStepsWrong : ChangeSpec := { name := "zeroSteps", fn := fun _ => fun
  | [d1, d2, d3] => { results := [.lit (.bool false)], args := [d1, d2, d3] }
  | _ => none }
def ZeroStepsWrongFalsely : Prop := zeroStepsRow.holds Try.pinned (OpenSpec.ofChange zeroStepsWrong)

/-- 'custodylaw22.MemoryClones': WHATEVER THE INPUT: true; the input reads as it did. -/
def memoryClonesSpec : ChangeSpec := { name := "memoryClones", fn := fun _ => fun
  | [d1, d2, d3, d4] => { results := [.lit (.bool true)], args := [d1, d2, d3, d4] }
  | _ => none }
def memoryClonesRow : OpenClaim := { program := "ytogljlloobjeoaa", sum := "df826ed6af0fd8853bda169851d8020b40222d3a9cdef54af4d7d762a5aa1b8e", func := "custody/custodylaw22.MemoryClones", spec := "memoryClones", inPlace := ["internal/abi.NoEscape", "internal/bytealg.MakeNoZero"], unfollowed := true, recurses := true, apart := false }
def MemoryClonesSaid : Prop := memoryClonesRow.holds Try.pinned (OpenSpec.ofChange memoryClonesSpec)

/-- ITS FALSE NEIGHBOUR: 'it returns false'. Refute it at one input. -/
def memoryClonesWrong : ChangeSpec := { name := "memoryClones", fn := fun _ => fun
  | [d1, d2, d3, d4] => { results := [.lit (.bool false)], args := [d1, d2, d3, d4] }
  | _ => none }
def MemoryClonesWrongFalsely : Prop := memoryClonesRow.holds Try.pinned (OpenSpec.ofChange memoryClonesWrong)

/-- 'custodylaw23.DeviceNeverGoesBack': WHATEVER THE INPUT: true; the input reads as it did. -/
def deviceNeverGoesBackSpec : ChangeSpec := { name := "deviceNeverGoesBack", fn := fun _ => fun
  | [d1, d2] => { results := [.lit (.bool true)], args := [d1, d2] }
  | _ => none }
def deviceNeverGoesBackRow : OpenClaim := { program := "ytogljlloobjeoaa", sum := "df826ed6af0fd8853bda169851d8020b40222d3a9cdef54af4d7d762a5aa1b8e", func := "custody/custodylaw23.DeviceNeverGoesBack", spec := "deviceNeverGoesBack", inPlace := ["internal/abi.NoEscape", "internal/bytealg.MakeNoZero"], unfollowed := true, recurses := true, apart := false }
def DeviceNeverGoesBackSaid : Prop := deviceNeverGoesBackRow.holds Try.pinned (OpenSpec.ofChange deviceNeverGoesBackSpec)

/-- ITS FALSE NEIGHBOUR: 'it returns false'. Refute it at one input. -/
def deviceNeverGoesBackWrong : ChangeSpec := { name := "deviceNeverGoesBack", fn := fun _ => fun
  | [d1, d2] => { results := [.lit (.bool false)], args := [d1, d2] }
  | _ => none }
def DeviceNeverGoesBackWrongFalsely : Prop := deviceNeverGoesBackRow.holds Try.pinned (OpenSpec.ofChange deviceNeverGoesBackWrong)

/-- 'custodylaw23.DeviceSlotsSurvive': WHATEVER THE INPUT: true; the input reads as it did. -/
def deviceSlotsSurviveSpec : ChangeSpec := { name := "deviceSlotsSurvive", fn := fun _ => fun
  | [d1, d2] => { results := [.lit (.bool true)], args := [d1, d2] }
  | _ => none }
def deviceSlotsSurviveRow : OpenClaim := { program := "ytogljlloobjeoaa", sum := "df826ed6af0fd8853bda169851d8020b40222d3a9cdef54af4d7d762a5aa1b8e", func := "custody/custodylaw23.DeviceSlotsSurvive", spec := "deviceSlotsSurvive", inPlace := ["internal/abi.NoEscape", "internal/bytealg.MakeNoZero"], unfollowed := true, recurses := true, apart := false }
def DeviceSlotsSurviveSaid : Prop := deviceSlotsSurviveRow.holds Try.pinned (OpenSpec.ofChange deviceSlotsSurviveSpec)

/-- ITS FALSE NEIGHBOUR: 'it returns false'. Refute it at one input. -/
def deviceSlotsSurviveWrong : ChangeSpec := { name := "deviceSlotsSurvive", fn := fun _ => fun
  | [d1, d2] => { results := [.lit (.bool false)], args := [d1, d2] }
  | _ => none }
def DeviceSlotsSurviveWrongFalsely : Prop := deviceSlotsSurviveRow.holds Try.pinned (OpenSpec.ofChange deviceSlotsSurviveWrong)

/-- 'custodylaw23.DeviceTornSectors': WHATEVER THE INPUT: true; the input reads as it did. -/
def deviceTornSectorsSpec : ChangeSpec := { name := "deviceTornSectors", fn := fun _ => fun
  | [d1, d2, d3] => { results := [.lit (.bool true)], args := [d1, d2, d3] }
  | _ => none }
def deviceTornSectorsRow : OpenClaim := { program := "ytogljlloobjeoaa", sum := "df826ed6af0fd8853bda169851d8020b40222d3a9cdef54af4d7d762a5aa1b8e", func := "custody/custodylaw23.DeviceTornSectors", spec := "deviceTornSectors", inPlace := ["internal/abi.NoEscape", "internal/bytealg.MakeNoZero"], unfollowed := true, recurses := true, apart := false }
def DeviceTornSectorsSaid : Prop := deviceTornSectorsRow.holds Try.pinned (OpenSpec.ofChange deviceTornSectorsSpec)

/-- ITS FALSE NEIGHBOUR: 'it returns false'. Refute it at one input. -/
def deviceTornSectorsWrong : ChangeSpec := { name := "deviceTornSectors", fn := fun _ => fun
  | [d1, d2, d3] => { results := [.lit (.bool false)], args := [d1, d2, d3] }
  | _ => none }
def DeviceTornSectorsWrongFalsely : Prop := deviceTornSectorsRow.holds Try.pinned (OpenSpec.ofChange deviceTornSectorsWrong)

/-- 'custodylaw23.DeviceTripCounts': WHATEVER THE INPUT: true; the input reads as it did. -/
def deviceTripCountsSpec : ChangeSpec := { name := "deviceTripCounts", fn := fun _ => fun
  | [d1, d2, d3] => { results := [.lit (.bool true)], args := [d1, d2, d3] }
  | _ => none }
def deviceTripCountsRow : OpenClaim := { program := "ytogljlloobjeoaa", sum := "df826ed6af0fd8853bda169851d8020b40222d3a9cdef54af4d7d762a5aa1b8e", func := "custody/custodylaw23.DeviceTripCounts", spec := "deviceTripCounts", inPlace := ["internal/abi.NoEscape", "internal/bytealg.MakeNoZero"], unfollowed := true, recurses := true, apart := false }
def DeviceTripCountsSaid : Prop := deviceTripCountsRow.holds Try.pinned (OpenSpec.ofChange deviceTripCountsSpec)

/-- ITS FALSE NEIGHBOUR: 'it returns false'. Refute it at one input. -/
def deviceTripCountsWrong : ChangeSpec := { name := "deviceTripCounts", fn := fun _ => fun
  | [d1, d2, d3] => { results := [.lit (.bool false)], args := [d1, d2, d3] }
  | _ => none }
def DeviceTripCountsWrongFalsely : Prop := deviceTripCountsRow.holds Try.pinned (OpenSpec.ofChange deviceTripCountsWrong)

/-- 'custodylaw23.DeviceRestoreIsLocal': WHATEVER THE INPUT: true; the input reads as it did. -/
def deviceRestoreIsLocalSpec : ChangeSpec := { name := "deviceRestoreIsLocal", fn := fun _ => fun
  | [d1, d2, d3] => { results := [.lit (.bool true)], args := [d1, d2, d3] }
  | _ => none }
def deviceRestoreIsLocalRow : OpenClaim := { program := "ytogljlloobjeoaa", sum := "df826ed6af0fd8853bda169851d8020b40222d3a9cdef54af4d7d762a5aa1b8e", func := "custody/custodylaw23.DeviceRestoreIsLocal", spec := "deviceRestoreIsLocal", inPlace := ["internal/abi.NoEscape", "internal/bytealg.MakeNoZero"], unfollowed := true, recurses := true, apart := false }
def DeviceRestoreIsLocalSaid : Prop := deviceRestoreIsLocalRow.holds Try.pinned (OpenSpec.ofChange deviceRestoreIsLocalSpec)

/-- ITS FALSE NEIGHBOUR: 'it returns false'. Refute it at one input. -/
def deviceRestoreIsLocalWrong : ChangeSpec := { name := "deviceRestoreIsLocal", fn := fun _ => fun
  | [d1, d2, d3] => { results := [.lit (.bool false)], args := [d1, d2, d3] }
  | _ => none }
def DeviceRestoreIsLocalWrongFalsely : Prop := deviceRestoreIsLocalRow.holds Try.pinned (OpenSpec.ofChange deviceRestoreIsLocalWrong)

/-- 'custodylaw33.ZeroOrder': WHATEVER THE INPUT: true; the input reads as it did. -/
def zeroOrderSpec : ChangeSpec := { name := "zeroOrder", fn := fun _ => fun
  | [d1, d2, d3, d4] => { results := [.lit (.bool true)], args := [d1, d2, d3, d4] }
  | _ => none }
def zeroOrderRow : OpenClaim := { program := "ytogljlloobjeoaa", sum := "df826ed6af0fd8853bda169851d8020b40222d3a9cdef54af4d7d762a5aa1b8e", func := "custody/custodylaw33.ZeroOrder", spec := "zeroOrder", inPlace := ["internal/abi.NoEscape", "internal/bytealg.MakeNoZero"], unfollowed := true, recurses := true, apart := false }
def ZeroOrderSaid : Prop := zeroOrderRow.holds Try.pinned (OpenSpec.ofChange zeroOrderSpec)

/-- ITS FALSE NEIGHBOUR: 'it returns false'. Refute it at one input. -/
def zeroOrderWrong : ChangeSpec := { name := "zeroOrder", fn := fun _ => fun
  | [d1, d2, d3, d4] => { results := [.lit (.bool false)], args := [d1, d2, d3, d4] }
  | _ => none }
def ZeroOrderWrongFalsely : Prop := zeroOrderRow.holds Try.pinned (OpenSpec.ofChange zeroOrderWrong)

/-- 'custodylaw33.ZeroNeverBack': WHATEVER THE INPUT: true; the input reads as it did. -/
def zeroNeverBackSpec : ChangeSpec := { name := "zeroNeverBack", fn := fun _ => fun
  | [d1, d2, d3, d4] => { results := [.lit (.bool true)], args := [d1, d2, d3, d4] }
  | _ => none }
def zeroNeverBackRow : OpenClaim := { program := "ytogljlloobjeoaa", sum := "df826ed6af0fd8853bda169851d8020b40222d3a9cdef54af4d7d762a5aa1b8e", func := "custody/custodylaw33.ZeroNeverBack", spec := "zeroNeverBack", inPlace := ["internal/abi.NoEscape", "internal/bytealg.MakeNoZero"], unfollowed := true, recurses := true, apart := false }
def ZeroNeverBackSaid : Prop := zeroNeverBackRow.holds Try.pinned (OpenSpec.ofChange zeroNeverBackSpec)

/-- ITS FALSE NEIGHBOUR: 'it returns false'. Refute it at one input. -/
def zeroNeverBackWrong : ChangeSpec := { name := "zeroNeverBack", fn := fun _ => fun
  | [d1, d2, d3, d4] => { results := [.lit (.bool false)], args := [d1, d2, d3, d4] }
  | _ => none }
def ZeroNeverBackWrongFalsely : Prop := zeroNeverBackRow.holds Try.pinned (OpenSpec.ofChange zeroNeverBackWrong)

/- THE SECOND FORM. 'bulk': how many values and letters a reading holds, each counted each time it is reached (what is shared counts as often as it is met; a slice's spare places count too). A statement '..UptoSaid' is the law's where the arguments, and the package variables that the reading takes, are together of bulk at most 1048576: NARROWER than '..Said'. Prove '..Said' where nothing that the law and all that it calls make is longer than what came in: it says more and counts as full. Else prove '..UptoSaid'. A law counts once. -/
mutual
def uptoBulk {H : Type} : DataW H → Nat
  | .lit (.string bytes) => bytes.length + 1
  | .lit _ => 1
  | .nil => 1
  | .ptr d => uptoBulk d + 1
  | .slice elems spare => uptoBulkAll elems + uptoBulkAll spare + 1
  | .agg parts => uptoBulkAll parts + 1
  | .iface _ d => uptoBulk d + 1
  | .map entries => uptoBulkEntries entries + 1
  | .held _ => 1
def uptoBulkAll {H : Type} : List (DataW H) → Nat
  | [] => 0
  | d :: r => uptoBulk d + uptoBulkAll r
def uptoBulkEntries {H : Type} : List (Lit × DataW H) → Nat
  | [] => 0
  | x :: r => uptoBulkEntry x + uptoBulkEntries r
def uptoBulkEntry {H : Type} : Lit × DataW H → Nat
  | (.string bytes, d) => bytes.length + uptoBulk d + 1
  | (_, d) => uptoBulk d + 1
 end
def uptoSmall : (H : Type) → List (DataW H) → Bool := fun _ ds => decide (uptoBulkAll ds ≤ 1048576)
def OpenSpec.upto (s : _root_.Go.ChangeSpec) : _root_.Go.OpenSpec := { _root_.Go.OpenSpec.ofChange s with cond := some uptoSmall }

/-- 'custodylaw22.MemoryMatchesSpec', WHERE WHAT IT READS IS OF BULK AT MOST 1048576: true; the input reads as it did. -/
def memoryMatchesSpecUptoRow : OpenClaim := { program := "ytogljlloobjeoaa", sum := "df826ed6af0fd8853bda169851d8020b40222d3a9cdef54af4d7d762a5aa1b8e", func := "custody/custodylaw22.MemoryMatchesSpec", spec := "memoryMatchesSpec", inPlace := ["internal/abi.NoEscape", "internal/bytealg.MakeNoZero"], unfollowed := true, recurses := true, apart := false, narrowed := true }
def MemoryMatchesSpecUptoSaid : Prop := memoryMatchesSpecUptoRow.holds Try.pinned (OpenSpec.upto memoryMatchesSpecSpec)

/-- 'custodylaw22.MemoryReadsLast', WHERE WHAT IT READS IS OF BULK AT MOST 1048576: true; the input reads as it did. -/
def memoryReadsLastUptoRow : OpenClaim := { program := "ytogljlloobjeoaa", sum := "df826ed6af0fd8853bda169851d8020b40222d3a9cdef54af4d7d762a5aa1b8e", func := "custody/custodylaw22.MemoryReadsLast", spec := "memoryReadsLast", inPlace := ["internal/abi.NoEscape", "internal/bytealg.MakeNoZero"], unfollowed := true, recurses := true, apart := false, narrowed := true }
def MemoryReadsLastUptoSaid : Prop := memoryReadsLastUptoRow.holds Try.pinned (OpenSpec.upto memoryReadsLastSpec)

/-- 'custodylaw22.MemoryTears', WHERE WHAT IT READS IS OF BULK AT MOST 1048576: true; the input reads as it did. -/
def memoryTearsUptoRow : OpenClaim := { program := "ytogljlloobjeoaa", sum := "df826ed6af0fd8853bda169851d8020b40222d3a9cdef54af4d7d762a5aa1b8e", func := "custody/custodylaw22.MemoryTears", spec := "memoryTears", inPlace := ["internal/abi.NoEscape", "internal/bytealg.MakeNoZero"], unfollowed := true, recurses := true, apart := false, narrowed := true }
def MemoryTearsUptoSaid : Prop := memoryTearsUptoRow.holds Try.pinned (OpenSpec.upto memoryTearsSpec)

/-- 'custodylaw22.MemoryWears', WHERE WHAT IT READS IS OF BULK AT MOST 1048576: true; the input reads as it did. -/
def memoryWearsUptoRow : OpenClaim := { program := "ytogljlloobjeoaa", sum := "df826ed6af0fd8853bda169851d8020b40222d3a9cdef54af4d7d762a5aa1b8e", func := "custody/custodylaw22.MemoryWears", spec := "memoryWears", inPlace := ["internal/abi.NoEscape", "internal/bytealg.MakeNoZero"], unfollowed := true, recurses := true, apart := false, narrowed := true }
def MemoryWearsUptoSaid : Prop := memoryWearsUptoRow.holds Try.pinned (OpenSpec.upto memoryWearsSpec)

/-- 'custodylaw33.ZeroCompletes', WHERE WHAT IT READS IS OF BULK AT MOST 1048576: true; the input reads as it did. -/
def zeroCompletesUptoRow : OpenClaim := { program := "ytogljlloobjeoaa", sum := "df826ed6af0fd8853bda169851d8020b40222d3a9cdef54af4d7d762a5aa1b8e", func := "custody/custodylaw33.ZeroCompletes", spec := "zeroCompletes", inPlace := ["internal/abi.NoEscape", "internal/bytealg.MakeNoZero"], unfollowed := true, recurses := true, apart := false, narrowed := true }
def ZeroCompletesUptoSaid : Prop := zeroCompletesUptoRow.holds Try.pinned (OpenSpec.upto zeroCompletesSpec)

/-- 'custodylaw22.MemoryRollsBack', WHERE WHAT IT READS IS OF BULK AT MOST 1048576: true; the input reads as it did. -/
def memoryRollsBackUptoRow : OpenClaim := { program := "ytogljlloobjeoaa", sum := "df826ed6af0fd8853bda169851d8020b40222d3a9cdef54af4d7d762a5aa1b8e", func := "custody/custodylaw22.MemoryRollsBack", spec := "memoryRollsBack", inPlace := ["internal/abi.NoEscape", "internal/bytealg.MakeNoZero"], unfollowed := true, recurses := true, apart := false, narrowed := true }
def MemoryRollsBackUptoSaid : Prop := memoryRollsBackUptoRow.holds Try.pinned (OpenSpec.upto memoryRollsBackSpec)

/-- 'custodylaw33.ZeroSteps', WHERE WHAT IT READS IS OF BULK AT MOST 1048576: true; the input reads as it did. -/
def zeroStepsUptoRow : OpenClaim := { program := "ytogljlloobjeoaa", sum := "df826ed6af0fd8853bda169851d8020b40222d3a9cdef54af4d7d762a5aa1b8e", func := "custody/custodylaw33.ZeroSteps", spec := "zeroSteps", inPlace := ["internal/abi.NoEscape", "internal/bytealg.MakeNoZero"], unfollowed := true, recurses := true, apart := false, narrowed := true }
def ZeroStepsUptoSaid : Prop := zeroStepsUptoRow.holds Try.pinned (OpenSpec.upto zeroStepsSpec)

/-- 'custodylaw22.MemoryClones', WHERE WHAT IT READS IS OF BULK AT MOST 1048576: true; the input reads as it did. -/
def memoryClonesUptoRow : OpenClaim := { program := "ytogljlloobjeoaa", sum := "df826ed6af0fd8853bda169851d8020b40222d3a9cdef54af4d7d762a5aa1b8e", func := "custody/custodylaw22.MemoryClones", spec := "memoryClones", inPlace := ["internal/abi.NoEscape", "internal/bytealg.MakeNoZero"], unfollowed := true, recurses := true, apart := false, narrowed := true }
def MemoryClonesUptoSaid : Prop := memoryClonesUptoRow.holds Try.pinned (OpenSpec.upto memoryClonesSpec)

/-- 'custodylaw23.DeviceNeverGoesBack', WHERE WHAT IT READS IS OF BULK AT MOST 1048576: true; the input reads as it did. -/
def deviceNeverGoesBackUptoRow : OpenClaim := { program := "ytogljlloobjeoaa", sum := "df826ed6af0fd8853bda169851d8020b40222d3a9cdef54af4d7d762a5aa1b8e", func := "custody/custodylaw23.DeviceNeverGoesBack", spec := "deviceNeverGoesBack", inPlace := ["internal/abi.NoEscape", "internal/bytealg.MakeNoZero"], unfollowed := true, recurses := true, apart := false, narrowed := true }
def DeviceNeverGoesBackUptoSaid : Prop := deviceNeverGoesBackUptoRow.holds Try.pinned (OpenSpec.upto deviceNeverGoesBackSpec)

/-- 'custodylaw23.DeviceSlotsSurvive', WHERE WHAT IT READS IS OF BULK AT MOST 1048576: true; the input reads as it did. -/
def deviceSlotsSurviveUptoRow : OpenClaim := { program := "ytogljlloobjeoaa", sum := "df826ed6af0fd8853bda169851d8020b40222d3a9cdef54af4d7d762a5aa1b8e", func := "custody/custodylaw23.DeviceSlotsSurvive", spec := "deviceSlotsSurvive", inPlace := ["internal/abi.NoEscape", "internal/bytealg.MakeNoZero"], unfollowed := true, recurses := true, apart := false, narrowed := true }
def DeviceSlotsSurviveUptoSaid : Prop := deviceSlotsSurviveUptoRow.holds Try.pinned (OpenSpec.upto deviceSlotsSurviveSpec)

/-- 'custodylaw23.DeviceTornSectors', WHERE WHAT IT READS IS OF BULK AT MOST 1048576: true; the input reads as it did. -/
def deviceTornSectorsUptoRow : OpenClaim := { program := "ytogljlloobjeoaa", sum := "df826ed6af0fd8853bda169851d8020b40222d3a9cdef54af4d7d762a5aa1b8e", func := "custody/custodylaw23.DeviceTornSectors", spec := "deviceTornSectors", inPlace := ["internal/abi.NoEscape", "internal/bytealg.MakeNoZero"], unfollowed := true, recurses := true, apart := false, narrowed := true }
def DeviceTornSectorsUptoSaid : Prop := deviceTornSectorsUptoRow.holds Try.pinned (OpenSpec.upto deviceTornSectorsSpec)

/-- 'custodylaw23.DeviceTripCounts', WHERE WHAT IT READS IS OF BULK AT MOST 1048576: true; the input reads as it did. -/
def deviceTripCountsUptoRow : OpenClaim := { program := "ytogljlloobjeoaa", sum := "df826ed6af0fd8853bda169851d8020b40222d3a9cdef54af4d7d762a5aa1b8e", func := "custody/custodylaw23.DeviceTripCounts", spec := "deviceTripCounts", inPlace := ["internal/abi.NoEscape", "internal/bytealg.MakeNoZero"], unfollowed := true, recurses := true, apart := false, narrowed := true }
def DeviceTripCountsUptoSaid : Prop := deviceTripCountsUptoRow.holds Try.pinned (OpenSpec.upto deviceTripCountsSpec)

/-- 'custodylaw23.DeviceRestoreIsLocal', WHERE WHAT IT READS IS OF BULK AT MOST 1048576: true; the input reads as it did. -/
def deviceRestoreIsLocalUptoRow : OpenClaim := { program := "ytogljlloobjeoaa", sum := "df826ed6af0fd8853bda169851d8020b40222d3a9cdef54af4d7d762a5aa1b8e", func := "custody/custodylaw23.DeviceRestoreIsLocal", spec := "deviceRestoreIsLocal", inPlace := ["internal/abi.NoEscape", "internal/bytealg.MakeNoZero"], unfollowed := true, recurses := true, apart := false, narrowed := true }
def DeviceRestoreIsLocalUptoSaid : Prop := deviceRestoreIsLocalUptoRow.holds Try.pinned (OpenSpec.upto deviceRestoreIsLocalSpec)

/-- 'custodylaw33.ZeroOrder', WHERE WHAT IT READS IS OF BULK AT MOST 1048576: true; the input reads as it did. -/
def zeroOrderUptoRow : OpenClaim := { program := "ytogljlloobjeoaa", sum := "df826ed6af0fd8853bda169851d8020b40222d3a9cdef54af4d7d762a5aa1b8e", func := "custody/custodylaw33.ZeroOrder", spec := "zeroOrder", inPlace := ["internal/abi.NoEscape", "internal/bytealg.MakeNoZero"], unfollowed := true, recurses := true, apart := false, narrowed := true }
def ZeroOrderUptoSaid : Prop := zeroOrderUptoRow.holds Try.pinned (OpenSpec.upto zeroOrderSpec)

/-- 'custodylaw33.ZeroNeverBack', WHERE WHAT IT READS IS OF BULK AT MOST 1048576: true; the input reads as it did. -/
def zeroNeverBackUptoRow : OpenClaim := { program := "ytogljlloobjeoaa", sum := "df826ed6af0fd8853bda169851d8020b40222d3a9cdef54af4d7d762a5aa1b8e", func := "custody/custodylaw33.ZeroNeverBack", spec := "zeroNeverBack", inPlace := ["internal/abi.NoEscape", "internal/bytealg.MakeNoZero"], unfollowed := true, recurses := true, apart := false, narrowed := true }
def ZeroNeverBackUptoSaid : Prop := zeroNeverBackUptoRow.holds Try.pinned (OpenSpec.upto zeroNeverBackSpec)

end Rows
end Go.Proofs.Ytogljlloobjeoaa
