/- Jobs that came in: how an argument of the type []stratalaw03.Job is read. -/
import Derived.Test.YtdkdeiofjoccnaaRows
import Derived.Test.YtdkdeiofjoccnaaLaidWalk
import Derived.ProofKit
import Derived.OpenShut
import Derived.ShutString
import Derived.ChangeOld
import Derived.Below
import Derived.JoinedCond
import Derived.Deep.Slices
import Derived.Deep.Strs
namespace Go.Proofs.Ytdkdeiofjoccnaa.Lit
open Go.RowKit Go.Proofs.Ytdkdeiofjoccnaa.Mem Go.ChangeShapes Go.WideShapes Go.ChangeAt
open Go.Deep
set_option linter.unusedVariables false

section
variable {H : Type} {enc0 : TypeId × Value → H} {W : World} {base : Nat} {spare : Nat → Bool} {held : Bool}

theorem jb_cellsI : Try.prog.cellsOf 3 = 1 := by kernel_rfl
theorem jb_cells : Try.prog.cellsOf 155 = 3 := by kernel_rfl
theorem jb_laidOut : laidOutB Try.prog = true := by kernel_rfl

def i64In (z : Int) : Prop := -9223372036854775808 ≤ z ∧ z ≤ 9223372036854775807
theorem wf_i64 {z : Int} (h : (Lit.int .i64 z).wf = true) : i64In z := by
  have h : IntKind.i64.min ≤ z ∧ z ≤ IntKind.i64.max := by simpa [Lit.wf] using h
  have e1 : IntKind.i64.min = -9223372036854775808 := by decide
  have e2 : IntKind.i64.max = 9223372036854775807 := by decide
  unfold i64In
  omega

set_option maxRecDepth 100000 in
theorem job_open {n : Nat} {cs : List Value} {x : DataW H × List MemPlace} (h : DataW.trod enc0 Try.prog W base spare held n 155 cs = some x) : ∃ a b c, cs = [.int .i64 a, .int .i64 b, .int .i64 c] ∧ i64In b := by
  obtain ⟨y0, y1, y2, m, _, hl, h0, h1, h2⟩ := trod_struct3 Try.underlying155 h
  have hl3 : cs.length = 3 := hl.trans jb_cells
  match cs, hl3 with
  | [c0, c1, c2], _ =>
    obtain ⟨a, ea, _⟩ := DataW.trod_int Try.underlying3 (by simpa [jb_cellsI] using h0 : DataW.trod enc0 Try.prog W base spare held m 3 [c0] = some y0)
    obtain ⟨b, eb, _, wb⟩ := DataW.trod_int Try.underlying3 (by simpa [jb_cellsI] using h1 : DataW.trod enc0 Try.prog W base spare held m 3 [c1] = some y1)
    obtain ⟨c, ec, _⟩ := DataW.trod_int Try.underlying3 (by simpa [jb_cellsI] using h2 : DataW.trod enc0 Try.prog W base spare held m 3 [c2] = some y2)
    exact ⟨a, b, c, by rw [List.cons.inj ea |>.1, List.cons.inj eb |>.1, List.cons.inj ec |>.1], wf_i64 wb⟩

instance : Inhabited Jb := ⟨⟨0, 0, 0⟩⟩

set_option maxRecDepth 100000 in
theorem jobs_came {a : Option Addr} {len cap : Nat} {d : DataW H} {p : List MemPlace} (h : DataW.Trod enc0 Try.prog W base spare held 74 (.slice a len cap) d p) : ∃ l : List Jb, l.length = len ∧ JobsIn W a l := by
  obtain ⟨fuel, hf⟩ := h
  rcases open_slice Try.underlying74 hf with ⟨hcs, hx⟩ | ⟨x, l, c, m, n, D, Pl, hcs, _, hl, hm, hmm, hx, hcell⟩
  · simp [Value.cells] at hcs
    obtain ⟨rfl, rfl, rfl⟩ := hcs
    exact ⟨[], rfl, ⟨fun i hi => by simp at hi, fun j hj => by simp at hj⟩⟩
  · simp [Value.cells] at hcs
    obtain ⟨rfl, rfl, rfl⟩ := hcs
    have hlm : len ≤ m := by rw [hmm]; split <;> omega
    have key : ∀ i, i < len → ∃ q : Jb, W.cell? (x.add (i * 3)) = some (.int .i64 q.who) ∧ W.cell? ((x.add (i * 3)).add 1) = some (.int .i64 q.tag) ∧ W.cell? ((x.add (i * 3)).add 2) = some (.int .i64 q.len) ∧ i64In q.tag := by
      intro i hi
      obtain ⟨cs', h1, h2⟩ := hcell i (by omega)
      obtain ⟨k, who, nn, rfl, hr⟩ := job_open h2
      rw [jb_cells] at h1
      obtain ⟨_, _, hc⟩ := World.cells?_some h1
      refine ⟨⟨k, who, nn⟩, ?_, hc 1 (by omega), hc 2 (by omega), hr⟩
      have := hc 0 (by omega)
      have e0 : (x.add (i * 3)).add 0 = x.add (i * 3) := by unfold Addr.add; split <;> simp_all
      rw [e0] at this
      exact this
    obtain ⟨f, hf2⟩ := choose_lt key
    refine ⟨(List.range len).map f, by simp, ⟨fun i hi => ?_, fun j hj => ?_⟩⟩
    · have hi' : i < len := by simpa using hi
      obtain ⟨g0, g1, g2, -⟩ := hf2 i hi'
      obtain ⟨b, off, spot⟩ := x
      have hspot : spot = none := by
        have := World.cell?_spot (hf2 0 (by omega)).1
        simpa [Addr.add] using this
      subst hspot
      have p0 : ∀ j, (⟨b, off, none⟩ : Addr).add j = ⟨b, off + j, none⟩ := by intro j; unfold Addr.add; split <;> simp_all
      have p1 : ∀ q j, (⟨b, q, none⟩ : Addr).add j = ⟨b, q + j, none⟩ := by intro q j; unfold Addr.add; split <;> simp_all
      rw [p0] at g0 g1 g2
      rw [p1] at g1 g2
      refine ⟨b, off, rfl, ?_, ?_, ?_⟩
      · simpa using g0
      · simpa using g1
      · simpa using g2
    · obtain ⟨i, hi, rfl⟩ := List.mem_map.1 hj
      exact (hf2 i (List.mem_range.1 hi)).2.2.2
end
end Go.Proofs.Ytdkdeiofjoccnaa.Lit
