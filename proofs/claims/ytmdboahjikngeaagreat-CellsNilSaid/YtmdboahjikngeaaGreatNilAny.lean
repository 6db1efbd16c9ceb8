/- CellsNil: printed by cellnils.py. -/
import Derived.Test.YtmdboahjikngeaaGreatNilAsk
import Derived.Test.YtmdboahjikngeaaGreatNilDoc
import Derived.Deep.DeepCutAuto
import Derived.BigQuiet
namespace Go.Proofs.YtmdboahjikngeaaGreat.Nil
open Go.RowKit Go.Proofs.YtmdboahjikngeaaGreat.Mem Go.Proofs.YtmdboahjikngeaaGreat.Ar Go.Proofs.YtmdboahjikngeaaGreat.As
set_option linter.unusedVariables false
variable {w : World} {p : Option Addr}

theorem askAny (h : Bare w p) (k s c a b : Int) (ad : Option Addr) (cap : Nat) (ws : List Int) (pp : ByteArray) (hws : Came .u64 w ad ws.length ws) (hwl : ws.length ≤ 17592186043904) :
    Calls Tryz.prog 21 #[.pointer p, opV k s c a b (.slice ad ws.length cap) pp] w fun e w' => ∃ v, e = .returned v ∧ AnsIs w w' v (nilE k) (nilN k).length (nilN k) ∧ Keep [] w w' := by
  by_cases k1 : k = 1
  · subst k1
    rw [show nilE 1 = 1 by decide, show nilN 1 = [0] by decide]
    exact ask1 h s c a b ad cap ws pp hws hwl
  by_cases k2 : k = 2
  · subst k2
    rw [show nilE 2 = 1 by decide, show nilN 2 = [] by decide]
    exact ask2 h s c a b ad cap ws pp hws hwl
  by_cases k3 : k = 3
  · subst k3
    rw [show nilE 3 = 1 by decide, show nilN 3 = [] by decide]
    exact ask3 h s c a b ad cap ws pp hws hwl
  by_cases k4 : k = 4
  · subst k4
    rw [show nilE 4 = 1 by decide, show nilN 4 = [0] by decide]
    exact ask4 h s c a b ad cap ws pp hws hwl
  by_cases k5 : k = 5
  · subst k5
    rw [show nilE 5 = 1 by decide, show nilN 5 = [] by decide]
    exact ask5 h s c a b ad cap ws pp hws hwl
  by_cases k6 : k = 6
  · subst k6
    rw [show nilE 6 = 1 by decide, show nilN 6 = [0] by decide]
    exact ask6 h s c a b ad cap ws pp hws hwl
  by_cases k7 : k = 7
  · subst k7
    rw [show nilE 7 = 1 by decide, show nilN 7 = [0] by decide]
    exact ask7 h s c a b ad cap ws pp hws hwl
  by_cases k8 : k = 8
  · subst k8
    rw [show nilE 8 = 1 by decide, show nilN 8 = [0] by decide]
    exact ask8 h s c a b ad cap ws pp hws hwl
  by_cases k9 : k = 9
  · subst k9
    rw [show nilE 9 = 0 by decide, show nilN 9 = [0] by decide]
    exact ask9 h s c a b ad cap ws pp hws hwl
  by_cases k10 : k = 10
  · subst k10
    rw [show nilE 10 = 0 by decide, show nilN 10 = [0] by decide]
    exact ask10 h s c a b ad cap ws pp hws hwl
  by_cases k11 : k = 11
  · subst k11
    rw [show nilE 11 = 1 by decide, show nilN 11 = [] by decide]
    exact ask11 h s c a b ad cap ws pp hws hwl
  by_cases k12 : k = 12
  · subst k12
    rw [show nilE 12 = 1 by decide, show nilN 12 = [0] by decide]
    exact ask12 h s c a b ad cap ws pp hws hwl
  by_cases k13 : k = 13
  · subst k13
    rw [show nilE 13 = 0 by decide, show nilN 13 = [] by decide]
    exact ask13 h s c a b ad cap ws pp hws hwl
  by_cases k14 : k = 14
  · subst k14
    rw [show nilE 14 = 0 by decide, show nilN 14 = [0, 0] by decide]
    exact ask14 h s c a b ad cap ws pp hws hwl
  rw [show nilE k = 0 by unfold nilE; rw [if_pos (by omega)], show nilN k = [] by unfold nilN; rw [if_pos (by omega)]]
  exact askk h k s c a b ad cap ws pp hws hwl k1 k2 k3 k4 k5 k6 k7 k8 k9 k10 k11 k12 k13 k14

theorem docAny (k s c a b : Int) (ad : Option Addr) (cap : Nat) (ws : List Int) (pp : ByteArray) (hws : Came .u64 w ad ws.length ws) (hwl : ws.length ≤ 17592186043904) :
    Calls Tryz.prog 22 #[.pointer none, opV k s c a b (.slice ad ws.length cap) pp] w fun e w' => ∃ v, e = .returned v ∧ AnsIs w w' v (nilE k) (nilN k).length (nilN k) ∧ Keep [] w w' := by
  by_cases k1 : k = 1
  · subst k1
    rw [show nilE 1 = 1 by decide, show nilN 1 = [0] by decide]
    exact doc1 s c a b ad cap ws pp hws hwl
  by_cases k2 : k = 2
  · subst k2
    rw [show nilE 2 = 1 by decide, show nilN 2 = [] by decide]
    exact doc2 s c a b ad cap ws pp hws hwl
  by_cases k3 : k = 3
  · subst k3
    rw [show nilE 3 = 1 by decide, show nilN 3 = [] by decide]
    exact doc3 s c a b ad cap ws pp hws hwl
  by_cases k4 : k = 4
  · subst k4
    rw [show nilE 4 = 1 by decide, show nilN 4 = [0] by decide]
    exact doc4 s c a b ad cap ws pp hws hwl
  by_cases k5 : k = 5
  · subst k5
    rw [show nilE 5 = 1 by decide, show nilN 5 = [] by decide]
    exact doc5 s c a b ad cap ws pp hws hwl
  by_cases k6 : k = 6
  · subst k6
    rw [show nilE 6 = 1 by decide, show nilN 6 = [0] by decide]
    exact doc6 s c a b ad cap ws pp hws hwl
  by_cases k7 : k = 7
  · subst k7
    rw [show nilE 7 = 1 by decide, show nilN 7 = [0] by decide]
    exact doc7 s c a b ad cap ws pp hws hwl
  by_cases k8 : k = 8
  · subst k8
    rw [show nilE 8 = 1 by decide, show nilN 8 = [0] by decide]
    exact doc8 s c a b ad cap ws pp hws hwl
  by_cases k9 : k = 9
  · subst k9
    rw [show nilE 9 = 0 by decide, show nilN 9 = [0] by decide]
    exact doc9 s c a b ad cap ws pp hws hwl
  by_cases k10 : k = 10
  · subst k10
    rw [show nilE 10 = 0 by decide, show nilN 10 = [0] by decide]
    exact doc10 s c a b ad cap ws pp hws hwl
  by_cases k11 : k = 11
  · subst k11
    rw [show nilE 11 = 1 by decide, show nilN 11 = [] by decide]
    exact doc11 s c a b ad cap ws pp hws hwl
  by_cases k12 : k = 12
  · subst k12
    rw [show nilE 12 = 1 by decide, show nilN 12 = [0] by decide]
    exact doc12 s c a b ad cap ws pp hws hwl
  by_cases k13 : k = 13
  · subst k13
    rw [show nilE 13 = 0 by decide, show nilN 13 = [] by decide]
    exact doc13 s c a b ad cap ws pp hws hwl
  by_cases k14 : k = 14
  · subst k14
    rw [show nilE 14 = 0 by decide, show nilN 14 = [0, 0] by decide]
    exact doc14 s c a b ad cap ws pp hws hwl
  rw [show nilE k = 0 by unfold nilE; rw [if_pos (by omega)], show nilN k = [] by unfold nilN; rw [if_pos (by omega)]]
  exact dock k s c a b ad cap ws pp hws hwl k1 k2 k3 k4 k5 k6 k7 k8 k9 k10 k11 k12 k13 k14
end Go.Proofs.YtmdboahjikngeaaGreat.Nil
