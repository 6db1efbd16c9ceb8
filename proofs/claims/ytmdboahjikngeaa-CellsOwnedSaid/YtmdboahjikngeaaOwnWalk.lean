/- CellsOwned: the walk of the statement's own text. -/
import Derived.Test.YtmdboahjikngeaaOwnK0
import Derived.Test.YtmdboahjikngeaaOwnK1
import Derived.Test.YtmdboahjikngeaaOwnK2
import Derived.Test.YtmdboahjikngeaaOwnK3
import Derived.Test.YtmdboahjikngeaaOwnK4
import Derived.Test.YtmdboahjikngeaaOwnK5
import Derived.Test.YtmdboahjikngeaaOwnK6
import Derived.Test.YtmdboahjikngeaaOwnK7
import Derived.Test.YtmdboahjikngeaaOwnK8
import Derived.Test.YtmdboahjikngeaaOwnSame
namespace Go.Proofs.Ytmdboahjikngeaa.Owned
open Go.RowKit Go.Proofs.Ytmdboahjikngeaa.Mem Go.Proofs.Ytmdboahjikngeaa.Ar Go.Proofs.Ytmdboahjikngeaa.As Go.Proofs.Ytmdboahjikngeaa.Fifo
set_option linter.unusedVariables false

variable {w0 w w' : World} {L : Bk} {P : Pl} {N : List ByteArray} {V : List Value} {A A' : Arena ByteArray} {R : List Nat}

/-- one call, whatever its kind -/
theorem owned (h : St w0 w L P N V A R) (k slot cell a b : Int) (ad : Option Addr) (cap : Nat) (ws : List Int) (p : ByteArray) (hws : Came .u64 w0 ad ws.length ws) (hwl : ws.length ≤ 17592186043904) :
    Calls Try.prog 20 #[.pointer (some ⟨P.b, 0, none⟩), .pointer (some ⟨L.b, 0, none⟩), opV k slot cell a b (.slice ad ws.length cap) p, .int .i64 A.slots, .int .i64 A.width] w fun e w' => e = .returned (.bool true) ∧ Goes w0 w' L P A := by
  have way : (¬ 1 ≤ slot) ∨ (1 ≤ slot ∧ ¬ slot ≤ A.slots) ∨ ∃ s : Nat, slot = s ∧ 1 ≤ s ∧ s ≤ A.slots := by
    by_cases h1 : 1 ≤ slot
    · by_cases h2 : slot ≤ A.slots
      · exact .inr (.inr ⟨slot.toNat, by omega, by omega, by omega⟩)
      · exact .inr (.inl ⟨h1, h2⟩)
    · exact .inl h1
  have wcell : (¬ 0 ≤ cell) ∨ (0 ≤ cell ∧ ¬ cell < A.width) ∨ ∃ c : Nat, cell = c ∧ c < A.width := by
    by_cases h1 : 0 ≤ cell
    · by_cases h2 : cell < A.width
      · exact .inr (.inr ⟨cell.toNat, by omega, by omega⟩)
      · exact .inr (.inl ⟨h1, h2⟩)
    · exact .inl h1
  by_cases k1 : k = 1
  · subst k1
    have wal : (A.width < ws.length) ∨ (ws.length ≤ A.width ∧ A.free = 0) ∨ (ws.length ≤ A.width ∧ 1 ≤ A.free) := by omega
    rcases way with h1 | ⟨h1, h2⟩ | ⟨s, rfl, hs1, hs2⟩
    · rcases wal with e | ⟨e, f⟩ | ⟨e, f⟩
      · exact owned1_low_many h slot cell a b ad cap ws p hws hwl h1 e
      · exact owned1_low_full h slot cell a b ad cap ws p hws hwl h1 e f
      · exact owned1_low_ok h slot cell a b ad cap ws p hws hwl h1 e f
    · rcases wal with e | ⟨e, f⟩ | ⟨e, f⟩
      · exact owned1_high_many h slot cell a b ad cap ws p hws hwl h1 h2 e
      · exact owned1_high_full h slot cell a b ad cap ws p hws hwl h1 h2 e f
      · exact owned1_high_ok h slot cell a b ad cap ws p hws hwl h1 h2 e f
    · cases hu : nth A.used s false with
      | false =>
        rcases wal with e | ⟨e, f⟩ | ⟨e, f⟩
        · exact owned1_off_many h cell a b ad cap ws p hws hwl s hs1 hs2 hu e
        · exact owned1_off_full h cell a b ad cap ws p hws hwl s hs1 hs2 hu e f
        · exact owned1_off_ok h cell a b ad cap ws p hws hwl s hs1 hs2 hu e f
      | true =>
        rcases wcell with c0 | ⟨c0, c1⟩ | ⟨c, rfl, hc⟩
        · rcases wal with e | ⟨e, f⟩ | ⟨e, f⟩
          · exact owned1_ona_many h cell a b ad cap ws p hws hwl s hs1 hs2 hu c0 e
          · exact owned1_ona_full h cell a b ad cap ws p hws hwl s hs1 hs2 hu c0 e f
          · exact owned1_ona_ok h cell a b ad cap ws p hws hwl s hs1 hs2 hu c0 e f
        · rcases wal with e | ⟨e, f⟩ | ⟨e, f⟩
          · exact owned1_onb_many h cell a b ad cap ws p hws hwl s hs1 hs2 hu c0 c1 e
          · exact owned1_onb_full h cell a b ad cap ws p hws hwl s hs1 hs2 hu c0 c1 e f
          · exact owned1_onb_ok h cell a b ad cap ws p hws hwl s hs1 hs2 hu c0 c1 e f
        · rcases wal with e | ⟨e, f⟩ | ⟨e, f⟩
          · exact owned1_on_many h a b ad cap ws p hws hwl s c hs1 hs2 hu hc e
          · exact owned1_on_full h a b ad cap ws p hws hwl s c hs1 hs2 hu hc e f
          · exact owned1_on_ok h a b ad cap ws p hws hwl s c hs1 hs2 hu hc e f
  by_cases k2 : k = 2
  · subst k2
    rcases way with h1 | ⟨h1, h2⟩ | ⟨s, rfl, hs1, hs2⟩
    · exact owned2_low h slot cell a b ad cap ws p hws hwl h1
    · exact owned2_high h slot cell a b ad cap ws p hws hwl h1 h2
    · cases hu : nth A.used s false with
      | false => exact owned2_off h cell a b ad cap ws p hws hwl s hs1 hs2 hu
      | true =>
        rcases wcell with c0 | ⟨c0, c1⟩ | ⟨c, rfl, hc⟩
        · exact owned2_ona h cell a b ad cap ws p hws hwl s hs1 hs2 hu c0
        · exact owned2_onb h cell a b ad cap ws p hws hwl s hs1 hs2 hu c0 c1
        · exact owned2_on h a b ad cap ws p hws hwl s c hs1 hs2 hu hc
  by_cases k3 : k = 3
  · subst k3
    rcases way with h1 | ⟨h1, h2⟩ | ⟨s, rfl, hs1, hs2⟩
    · exact owned3_low h slot cell a b ad cap ws p hws hwl h1
    · exact owned3_high h slot cell a b ad cap ws p hws hwl h1 h2
    · cases hu : nth A.used s false with
      | false => exact owned3_off h cell a b ad cap ws p hws hwl s hs1 hs2 hu
      | true =>
        rcases wcell with c0 | ⟨c0, c1⟩ | ⟨c, rfl, hc⟩
        · exact owned3_ona h cell a b ad cap ws p hws hwl s hs1 hs2 hu c0
        · exact owned3_onb h cell a b ad cap ws p hws hwl s hs1 hs2 hu c0 c1
        · exact owned3_on h a b ad cap ws p hws hwl s c hs1 hs2 hu hc
  by_cases k4 : k = 4
  · subst k4
    rcases way with h1 | ⟨h1, h2⟩ | ⟨s, rfl, hs1, hs2⟩
    · exact owned4_low h slot cell a b ad cap ws p hws hwl h1
    · exact owned4_high h slot cell a b ad cap ws p hws hwl h1 h2
    · cases hu : nth A.used s false with
      | false => exact owned4_off h cell a b ad cap ws p hws hwl s hs1 hs2 hu
      | true =>
        rcases wcell with c0 | ⟨c0, c1⟩ | ⟨c, rfl, hc⟩
        · exact owned4_ona h cell a b ad cap ws p hws hwl s hs1 hs2 hu c0
        · exact owned4_onb h cell a b ad cap ws p hws hwl s hs1 hs2 hu c0 c1
        · exact owned4_on h a b ad cap ws p hws hwl s c hs1 hs2 hu hc
  by_cases k5 : k = 5
  · subst k5
    rcases way with h1 | ⟨h1, h2⟩ | ⟨s, rfl, hs1, hs2⟩
    · exact owned5_low h slot cell a b ad cap ws p hws hwl h1
    · exact owned5_high h slot cell a b ad cap ws p hws hwl h1 h2
    · cases hu : nth A.used s false with
      | false => exact owned5_off h cell a b ad cap ws p hws hwl s hs1 hs2 hu
      | true =>
        rcases wcell with c0 | ⟨c0, c1⟩ | ⟨c, rfl, hc⟩
        · exact owned5_ona h cell a b ad cap ws p hws hwl s hs1 hs2 hu c0
        · exact owned5_onb h cell a b ad cap ws p hws hwl s hs1 hs2 hu c0 c1
        · exact owned5_on h a b ad cap ws p hws hwl s c hs1 hs2 hu hc
  by_cases k6 : k = 6
  · subst k6
    rcases way with h1 | ⟨h1, h2⟩ | ⟨s, rfl, hs1, hs2⟩
    · exact owned6_low h slot cell a b ad cap ws p hws hwl h1
    · exact owned6_high h slot cell a b ad cap ws p hws hwl h1 h2
    · cases hu : nth A.used s false with
      | false => exact owned6_off h cell a b ad cap ws p hws hwl s hs1 hs2 hu
      | true =>
        rcases wcell with c0 | ⟨c0, c1⟩ | ⟨c, rfl, hc⟩
        · exact owned6_ona h cell a b ad cap ws p hws hwl s hs1 hs2 hu c0
        · exact owned6_onb h cell a b ad cap ws p hws hwl s hs1 hs2 hu c0 c1
        · by_cases hx : nth A.words (wordAt A s c) 0 = a
          · exact owned6_on_hit h a b ad cap ws p hws hwl s c hs1 hs2 hu hc hx
          · exact owned6_on_miss h a b ad cap ws p hws hwl s c hs1 hs2 hu hc hx
  rcases way with h1 | ⟨h1, h2⟩ | ⟨s, rfl, hs1, hs2⟩
  · exact owned0_low h k slot cell a b ad cap ws p hws hwl h1 k1 k2 k3 k4 k5 k6
  · exact owned0_high h k slot cell a b ad cap ws p hws hwl h1 h2 k1 k2 k3 k4 k5 k6
  · cases hu : nth A.used s false with
    | false => exact owned0_off h k cell a b ad cap ws p hws hwl s hs1 hs2 hu k1 k2 k3 k4 k5 k6
    | true =>
      rcases wcell with c0 | ⟨c0, c1⟩ | ⟨c, rfl, hc⟩
      · exact owned0_ona h k cell a b ad cap ws p hws hwl s hs1 hs2 hu c0 k1 k2 k3 k4 k5 k6
      · exact owned0_onb h k cell a b ad cap ws p hws hwl s hs1 hs2 hu c0 c1 k1 k2 k3 k4 k5 k6
      · exact owned0_on h k a b ad cap ws p hws hwl s c hs1 hs2 hu hc k1 k2 k3 k4 k5 k6
end Go.Proofs.Ytmdboahjikngeaa.Owned
