/- The document's Insert: the making of one. -/
import Derived.Test.YtgagiggljlikbaaGreatRcI
namespace Go.Proofs.YtgagiggljlikbaaGreat.Rc
open Go.RowKit Go.Proofs.YtgagiggljlikbaaGreat.Mem Go.Proofs.YtgagiggljlikbaaGreat.Ar Go.Proofs.YtgagiggljlikbaaGreat.En Go.Proofs.YtgagiggljlikbaaGreat.Ch
open Go.Proofs.YtgagiggljlikbaaGreat.Ra (owns_block RAt rBlocks)
set_option linter.unusedVariables false
set_option linter.unusedSimpArgs false
set_option maxRecDepth 100000
section
variable {w w' : World} {b sg sc : Nat} {qv : Value} {bs : List (Option Nat)} {A A' : Ars} {Q : List Nat} {xb hb hc mb : Nat} {X X' : CI} {m : MI} {Bl : List Nat}
theorem EnvR.lt (h : EnvR w b sg sc qv bs xb hb hc X A Q) : (∀ x ∈ rBlocks b sg qv bs, x < w.heap.size) ∧ xb < w.heap.size ∧ hb < w.heap.size := ⟨h.ar.lt, lt_of h.ix.hx, (h.ix.hh.lt _ rfl).2⟩
theorem new_insR (h : EnvR w b sg sc qv bs xb hb hc X A Q) (k s : Int) :
    Calls Tryz.prog 109 #[.pointer (some ⟨xb, 0, none⟩), .int .i64 k, .int .i64 s] w fun r w' => r = .returned (.pointer (some ⟨w.heap.size, 0, none⟩)) ∧ InsR w' (rBlocks b sg qv bs) xb hb w.heap.size (newI k s) ∧ Keep [] w w' := by
  obtain ⟨l1, l2, l3⟩ := h.lt
  have OFF : Hid (w.heap.size ∉ rBlocks b sg qv bs ∧ w.heap.size ≠ xb ∧ w.heap.size ≠ hb) := Lib.hid ⟨fun hm => by have := l1 _ hm; omega, by omega, by omega⟩
  clear h l1 l2 l3
  go_enter Tryz.func109, Tryz.ntmps109
  go_wp2_with fail
  go_ret
  exact ⟨rfl, ⟨⟨1, (alloc_new w _).trans rfl, fun _ => rfl⟩, OFF.out⟩, (Keep.refl _ _).alloc _⟩
end
end Go.Proofs.YtgagiggljlikbaaGreat.Rc
