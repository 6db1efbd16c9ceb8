/- The numbers under which this translation holds sync.Mutex's functions and types, and that it holds them: written by a program of mine (locks.py) in the form of the kit's worked texts. -/
import Derived.Test.YtmdboahjikngeaaProg
import Derived.Conc.RwLib
import Derived.Conc.MuData
import Derived.KernelRfl
namespace Go.Proofs.Ytmdboahjikngeaa
abbrev muLink : Go.Conc.Locks.MuLink := { lock := 40, unlock := 41, ilock := 78, iunlock := 79, lockSlow := 112, unlockSlow := 114, disable := 89, enable := 90, acquire := 99, relMerge := 88, cas32 := 111, add32 := 113, tMutex := 92, tIMutex := 90, tPMutex := 147, tPIMutex := 172, tPI32 := 174, tUP := 159, tNoCopy := 87, tU32 := 88 }
theorem muLib : Go.Conc.Locks.MuLib Try.prog muLink :=
  ⟨Try.func40, Try.func41, Try.func78, Try.func79, Try.func89, Try.func90, Try.func99, Try.func88, Try.func111, Try.func113, Try.underlying90, Try.runUnderlying90, Try.sizeOf90, Try.isAgg90, Try.zeroValue90, Try.underlying92, Try.runUnderlying92, Try.sizeOf92, Try.isAgg92, Try.zeroValue92, Try.underlying147, Try.runUnderlying147, Try.sizeOf147, Try.isAgg147, Try.zeroValue147, Try.underlying172, Try.runUnderlying172, Try.sizeOf172, Try.isAgg172, Try.zeroValue172, Try.underlying174, Try.runUnderlying174, Try.sizeOf174, Try.isAgg174, Try.zeroValue174, Try.underlying159, Try.runUnderlying159, Try.sizeOf159, Try.isAgg159, Try.zeroValue159, Try.underlying87, Try.runUnderlying87, Try.sizeOf87, Try.isAgg87, Try.zeroValue87, Try.underlying21, Try.runUnderlying21, Try.sizeOf21, Try.isAgg21, Try.zeroValue21, (by kernel_rfl)⟩
end Go.Proofs.Ytmdboahjikngeaa
