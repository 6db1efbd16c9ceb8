/- The numbers under which this translation holds sync.Mutex's functions and types, and that it holds them: written by a program of mine (locks.py) in the form of the kit's worked texts. -/
import Derived.Test.YtmdboahjikngeaaGreatProg
import Derived.Conc.RwLib
import Derived.Conc.MuData
import Derived.KernelRfl
namespace Go.Proofs.YtmdboahjikngeaaGreat
abbrev muLink : Go.Conc.Locks.MuLink := { lock := 42, unlock := 43, ilock := 94, iunlock := 95, lockSlow := 131, unlockSlow := 133, disable := 100, enable := 101, acquire := 110, relMerge := 99, cas32 := 130, add32 := 132, tMutex := 86, tIMutex := 84, tPMutex := 154, tPIMutex := 179, tPI32 := 181, tUP := 163, tNoCopy := 81, tU32 := 82 }
theorem muLib : Go.Conc.Locks.MuLib Tryz.prog muLink :=
  ⟨Tryz.func42, Tryz.func43, Tryz.func94, Tryz.func95, Tryz.func100, Tryz.func101, Tryz.func110, Tryz.func99, Tryz.func130, Tryz.func132, Tryz.underlying84, Tryz.runUnderlying84, Tryz.sizeOf84, Tryz.isAgg84, Tryz.zeroValue84, Tryz.underlying86, Tryz.runUnderlying86, Tryz.sizeOf86, Tryz.isAgg86, Tryz.zeroValue86, Tryz.underlying154, Tryz.runUnderlying154, Tryz.sizeOf154, Tryz.isAgg154, Tryz.zeroValue154, Tryz.underlying179, Tryz.runUnderlying179, Tryz.sizeOf179, Tryz.isAgg179, Tryz.zeroValue179, Tryz.underlying181, Tryz.runUnderlying181, Tryz.sizeOf181, Tryz.isAgg181, Tryz.zeroValue181, Tryz.underlying163, Tryz.runUnderlying163, Tryz.sizeOf163, Tryz.isAgg163, Tryz.zeroValue163, Tryz.underlying81, Tryz.runUnderlying81, Tryz.sizeOf81, Tryz.isAgg81, Tryz.zeroValue81, Tryz.underlying21, Tryz.runUnderlying21, Tryz.sizeOf21, Tryz.isAgg21, Tryz.zeroValue21, (by kernel_rfl)⟩
end Go.Proofs.YtmdboahjikngeaaGreat
