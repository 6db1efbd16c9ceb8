/- The numbers under which this translation holds sync.Mutex's functions and types, and that it holds them: written by a program of mine (locks.py) in the form of the kit's worked texts. -/
import Derived.Test.YtdkdeiofjoccnaaGreatProg
import Derived.Conc.RwLib
import Derived.Conc.MuData
import Derived.KernelRfl
namespace Go.Proofs.YtdkdeiofjoccnaaGreat
abbrev muLink : Go.Conc.Locks.MuLink := { lock := 74, unlock := 75, ilock := 93, iunlock := 94, lockSlow := 126, unlockSlow := 129, disable := 122, enable := 124, acquire := 125, relMerge := 127, cas32 := 123, add32 := 128, tMutex := 169, tIMutex := 167, tPMutex := 214, tPIMutex := 237, tPI32 := 239, tUP := 241, tNoCopy := 164, tU32 := 165 }
theorem muLib : Go.Conc.Locks.MuLib Tryz.prog muLink :=
  ⟨Tryz.func74, Tryz.func75, Tryz.func93, Tryz.func94, Tryz.func122, Tryz.func124, Tryz.func125, Tryz.func127, Tryz.func123, Tryz.func128, Tryz.underlying167, Tryz.runUnderlying167, Tryz.sizeOf167, Tryz.isAgg167, Tryz.zeroValue167, Tryz.underlying169, Tryz.runUnderlying169, Tryz.sizeOf169, Tryz.isAgg169, Tryz.zeroValue169, Tryz.underlying214, Tryz.runUnderlying214, Tryz.sizeOf214, Tryz.isAgg214, Tryz.zeroValue214, Tryz.underlying237, Tryz.runUnderlying237, Tryz.sizeOf237, Tryz.isAgg237, Tryz.zeroValue237, Tryz.underlying239, Tryz.runUnderlying239, Tryz.sizeOf239, Tryz.isAgg239, Tryz.zeroValue239, Tryz.underlying241, Tryz.runUnderlying241, Tryz.sizeOf241, Tryz.isAgg241, Tryz.zeroValue241, Tryz.underlying164, Tryz.runUnderlying164, Tryz.sizeOf164, Tryz.isAgg164, Tryz.zeroValue164, Tryz.underlying21, Tryz.runUnderlying21, Tryz.sizeOf21, Tryz.isAgg21, Tryz.zeroValue21, (by kernel_rfl)⟩
end Go.Proofs.YtdkdeiofjoccnaaGreat
