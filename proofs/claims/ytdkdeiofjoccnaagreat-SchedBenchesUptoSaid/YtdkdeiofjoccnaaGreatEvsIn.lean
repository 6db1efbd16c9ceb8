/- Events that lie in memory. -/
import Derived.Test.YtdkdeiofjoccnaaGreatOver
namespace Go.Proofs.YtdkdeiofjoccnaaGreat.Lit
open Go.RowKit Go.Proofs.YtdkdeiofjoccnaaGreat.Mem Go.Proofs.YtdkdeiofjoccnaaGreat.Ar Go.Proofs.YtdkdeiofjoccnaaGreat.Un
open Go.Proofs.YtdkdeiofjoccnaaGreat.Har (Ev evs)
set_option linter.unusedVariables false
set_option maxRecDepth 100000

/-- events that lie in memory -/
structure EvsIn (w : World) (a : Option Addr) (es : List Ev) : Prop where
  cell : ∀ (i : Nat) (hi : i < es.length), ∃ g, a = some ⟨g, 0, none⟩ ∧ w.cell? ⟨g, i * 4, none⟩ = some (.int .i64 es[i].kind) ∧ w.cell? ⟨g, i * 4 + 1, none⟩ = some (.int .i64 es[i].who) ∧ w.cell? ⟨g, i * 4 + 2, none⟩ = some (.int .i64 es[i].tag) ∧ w.cell? ⟨g, i * 4 + 3, none⟩ = some (.int .i64 es[i].at_)
theorem EvsIn.keep {w w' : World} {a : Option Addr} {es : List Ev} (h : EvsIn w a es) (k : Keep [] w w') : EvsIn w' a es :=
  ⟨fun i hi => let ⟨g, e, c0, c1, c2, c3⟩ := h.cell i hi; ⟨g, e, k.cell c0 (by simp), k.cell c1 (by simp), k.cell c2 (by simp), k.cell c3 (by simp)⟩⟩
theorem evs_at (es : List Ev) (i j : Nat) (hi : i < es.length) (hj : j < 4) : (evs es)[i * 4 + j]? = es[i].cells[j]? := by
  induction es generalizing i with
  | nil => simp at hi
  | cons e es ih =>
    rw [show evs (e :: es) = e.cells ++ evs es from rfl]
    cases i with
    | zero => rw [List.getElem?_append_left (by simp [Ev.cells]; omega)]; simp
    | succ i =>
      rw [List.getElem?_append_right (by simp [Ev.cells]; omega)]
      have := ih i (by simpa using hi)
      rw [show (i + 1) * 4 + j - e.cells.length = i * 4 + j by simp [Ev.cells]; omega, this]
      simp
theorem evsIn_of {w : World} {base : Nat} {v : Value} {es : List Ev} (h : w.ownsRow base 190 4 v es.length (evs es)) : ∃ a c, v = .slice a es.length c ∧ EvsIn w a es := by
  rcases h.2 with ⟨e, h0⟩ | ⟨g, cap, cur, e, -⟩
  · exact ⟨none, 0, by rw [e, h0], ⟨fun i hi => by omega⟩⟩
  · refine ⟨some ⟨g, 0, none⟩, cap, e, ⟨fun i hi => ⟨g, rfl, ?_⟩⟩⟩
    have key : ∀ j, j < 4 → w.cell? ⟨g, i * 4 + j, none⟩ = es[i].cells[j]? := by
      intro j hj
      have h1 := h.cells (g := g) (by rw [e]; rfl) (i * 4 + j)
      have e2 : (⟨g, 0, none⟩ : Addr).add (i * 4 + j) = ⟨g, i * 4 + j, none⟩ := by unfold Addr.add; split <;> simp_all
      rw [e2, evs_at es i j hi hj] at h1
      have h4 : es[i].cells[j]? = some (es[i].cells[j]'(by simp [Ev.cells]; omega)) := List.getElem?_eq_getElem _
      rw [h4]
      exact h1 _ h4
    exact ⟨key 0 (by omega), key 1 (by omega), key 2 (by omega), key 3 (by omega)⟩

end Go.Proofs.YtdkdeiofjoccnaaGreat.Lit
