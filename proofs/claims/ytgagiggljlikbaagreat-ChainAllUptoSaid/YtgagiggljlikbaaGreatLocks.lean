/- The numbers under which this translation holds sync.Mutex's functions and types, and that it holds them: written by a program of mine (locks.py) in the form of the kit's worked texts. -/
import Derived.Test.YtgagiggljlikbaaGreatProg
import Derived.Conc.RwLib
import Derived.Conc.MuData
import Derived.KernelRfl
namespace Go.Proofs.YtgagiggljlikbaaGreat
abbrev muLink : Go.Conc.Locks.MuLink := { lock := 57, unlock := 58, ilock := 93, iunlock := 94, lockSlow := 129, unlockSlow := 132, disable := 125, enable := 127, acquire := 128, relMerge := 130, cas32 := 126, add32 := 131, tMutex := 110, tIMutex := 108, tPMutex := 172, tPIMutex := 199, tPI32 := 201, tUP := 203, tNoCopy := 105, tU32 := 106 }
theorem muLib : Go.Conc.Locks.MuLib Tryz.prog muLink :=
  ⟨Tryz.func57, Tryz.func58, Tryz.func93, Tryz.func94, Tryz.func125, Tryz.func127, Tryz.func128, Tryz.func130, Tryz.func126, Tryz.func131, Tryz.underlying108, Tryz.runUnderlying108, Tryz.sizeOf108, Tryz.isAgg108, Tryz.zeroValue108, Tryz.underlying110, Tryz.runUnderlying110, Tryz.sizeOf110, Tryz.isAgg110, Tryz.zeroValue110, Tryz.underlying172, Tryz.runUnderlying172, Tryz.sizeOf172, Tryz.isAgg172, Tryz.zeroValue172, Tryz.underlying199, Tryz.runUnderlying199, Tryz.sizeOf199, Tryz.isAgg199, Tryz.zeroValue199, Tryz.underlying201, Tryz.runUnderlying201, Tryz.sizeOf201, Tryz.isAgg201, Tryz.zeroValue201, Tryz.underlying203, Tryz.runUnderlying203, Tryz.sizeOf203, Tryz.isAgg203, Tryz.zeroValue203, Tryz.underlying105, Tryz.runUnderlying105, Tryz.sizeOf105, Tryz.isAgg105, Tryz.zeroValue105, Tryz.underlying21, Tryz.runUnderlying21, Tryz.sizeOf21, Tryz.isAgg21, Tryz.zeroValue21, (by kernel_rfl)⟩
end Go.Proofs.YtgagiggljlikbaaGreat
