/- The numbers under which this translation holds sync.Mutex's functions and types, and that it holds them: written by a program of mine (locks.py) in the form of the kit's worked texts. -/
import Derived.Test.YtdkdeiofjoccnaaProg
import Derived.Conc.RwLib
import Derived.Conc.MuData
import Derived.KernelRfl
namespace Go.Proofs.Ytdkdeiofjoccnaa
abbrev muLink : Go.Conc.Locks.MuLink := { lock := 109, unlock := 110, ilock := 130, iunlock := 131, lockSlow := 148, unlockSlow := 151, disable := 144, enable := 146, acquire := 147, relMerge := 149, cas32 := 145, add32 := 150, tMutex := 191, tIMutex := 189, tPMutex := 246, tPIMutex := 256, tPI32 := 258, tUP := 260, tNoCopy := 186, tU32 := 187 }
theorem muLib : Go.Conc.Locks.MuLib Try.prog muLink :=
  ⟨Try.func109, Try.func110, Try.func130, Try.func131, Try.func144, Try.func146, Try.func147, Try.func149, Try.func145, Try.func150, Try.underlying189, Try.runUnderlying189, Try.sizeOf189, Try.isAgg189, Try.zeroValue189, Try.underlying191, Try.runUnderlying191, Try.sizeOf191, Try.isAgg191, Try.zeroValue191, Try.underlying246, Try.runUnderlying246, Try.sizeOf246, Try.isAgg246, Try.zeroValue246, Try.underlying256, Try.runUnderlying256, Try.sizeOf256, Try.isAgg256, Try.zeroValue256, Try.underlying258, Try.runUnderlying258, Try.sizeOf258, Try.isAgg258, Try.zeroValue258, Try.underlying260, Try.runUnderlying260, Try.sizeOf260, Try.isAgg260, Try.zeroValue260, Try.underlying186, Try.runUnderlying186, Try.sizeOf186, Try.isAgg186, Try.zeroValue186, Try.underlying21, Try.runUnderlying21, Try.sizeOf21, Try.isAgg21, Try.zeroValue21, (by kernel_rfl)⟩
end Go.Proofs.Ytdkdeiofjoccnaa
