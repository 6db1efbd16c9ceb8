/- The arena at entries: Shape. -/
import Derived.Test.YtggpjdaglhjlgaaGreatEnRows
namespace Go.Proofs.YtggpjdaglhjlgaaGreat.En
open Go.RowKit Go.Proofs.YtggpjdaglhjlgaaGreat.Mem Go.Proofs.YtggpjdaglhjlgaaGreat.Ar
set_option linter.unusedVariables false
variable {mu : Int} {w : World} {L : Bk} {A : Arena Ent}

theorem At.of0 (h : At mu w L A) {w' : World} (k : Keep [] w w') : At mu w' L A := h.keep k (by simp)

theorem shape (h : At mu w L A) :
    Calls Tryz.prog 24 #[.pointer (some ⟨L.b, 0, none⟩)] w fun e w' => e = .returned (.tuple #[.int .i64 A.slots, .int .i64 A.width]) ∧ Keep [] w w' := by
  have e0 := c0 h
  have e1 := c1 h
  have HA := Lib.hid h; clear h
  go_enter Tryz.func24, Tryz.ntmps24
  go_wp2_with fail
  refine (missing HA.out).mono ?_
  rintro e w' ⟨rfl, rfl⟩
  go_wp2_with fail
  go_quiet (fail)
  go_wp2_with fail
  go_ret2
  exact ⟨rfl, (Keep.refl _ _).drewN _⟩

theorem shape_nil : Calls Tryz.prog 24 #[.pointer none] w fun e w' => e = .returned (.tuple #[.int .i64 0, .int .i64 0]) ∧ w = w' := by
  go_enter Tryz.func24, Tryz.ntmps24
  go_wp2_with fail
  refine (missing_nil _).mono ?_
  rintro e w' ⟨rfl, rfl⟩
  go_wp2_with fail
  go_ret2
  exact ⟨rfl, rfl⟩
theorem num (x : Int) (w : World) : Calls Tryz.prog 6 #[.int .i64 x] w fun e w' => e = .returned (.int .i64 x) ∧ w = w' := by
  go_enter Tryz.func6, Tryz.ntmps6
  go_wp2
  go_ret
  exact ⟨rfl, rfl⟩
end Go.Proofs.YtggpjdaglhjlgaaGreat.En
