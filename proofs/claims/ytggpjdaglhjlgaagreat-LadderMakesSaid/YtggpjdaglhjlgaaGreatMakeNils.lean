/- LadderMakes: a ladder that is not there, and its machines: contracts. Printed by makes.py. -/
import Derived.Test.YtggpjdaglhjlgaaGreatEnShape
import Derived.Test.YtggpjdaglhjlgaaGreatEnRef
namespace Go.Proofs.YtggpjdaglhjlgaaGreat.Mk
open Go.RowKit Go.Proofs.YtggpjdaglhjlgaaGreat.Mem Go.Proofs.YtggpjdaglhjlgaaGreat.Ar Go.Proofs.YtggpjdaglhjlgaaGreat.En
set_option linter.unusedVariables false
set_option maxRecDepth 100000

theorem lmissing (w : World) : Calls Tryz.prog 27 #[.pointer none] w fun e w' => e = .returned (.bool true) ∧ Keep [] w w' := by
  go_enter Tryz.func27, Tryz.ntmps27
  go_wp2_with fail
  have K := Lib.hid (Keep.refl [] w)
  go_ret
  exact ⟨rfl, by repeat (first | exact K.out | exact Keep.refl _ _ | apply Keep.drew | apply Keep.alloc | refine Keep.set ?_ (.inr (Nat.le_refl _)) _ _)⟩

theorem insert (a : Int) (w : World) : Calls Tryz.prog 7 #[.pointer none, .int .i64 a] w fun e w' => e = .returned (.pointer none) ∧ Keep [] w w' := by
  go_enter Tryz.func7, Tryz.ntmps7
  go_wp2_with fail
  refine (lmissing _).mono ?_
  rintro e w' ⟨rfl, k⟩
  have K := Lib.hid (Keep.trans (show Keep [] w _ from by repeat (first | exact Keep.refl _ _ | apply Keep.drew | apply Keep.alloc)) k); clear k
  go_wp2_with fail
  go_ret
  exact ⟨rfl, by repeat (first | exact K.out | exact Keep.refl _ _ | apply Keep.drew | apply Keep.alloc | refine Keep.set ?_ (.inr (Nat.le_refl _)) _ _)⟩

theorem remove (a : Int) (w : World) : Calls Tryz.prog 8 #[.pointer none, .int .i64 a] w fun e w' => e = .returned (.pointer none) ∧ Keep [] w w' := by
  go_enter Tryz.func8, Tryz.ntmps8
  go_wp2_with fail
  refine (lmissing _).mono ?_
  rintro e w' ⟨rfl, k⟩
  have K := Lib.hid (Keep.trans (show Keep [] w _ from by repeat (first | exact Keep.refl _ _ | apply Keep.drew | apply Keep.alloc)) k); clear k
  go_wp2_with fail
  go_ret
  exact ⟨rfl, by repeat (first | exact K.out | exact Keep.refl _ _ | apply Keep.drew | apply Keep.alloc | refine Keep.set ?_ (.inr (Nat.le_refl _)) _ _)⟩

theorem walk (a : ByteArray) (w : World) : Calls Tryz.prog 9 #[.pointer none, .string a] w fun e w' => e = .returned (.pointer none) ∧ Keep [] w w' := by
  go_enter Tryz.func9, Tryz.ntmps9
  go_wp2_with fail
  refine (lmissing _).mono ?_
  rintro e w' ⟨rfl, k⟩
  have K := Lib.hid (Keep.trans (show Keep [] w _ from by repeat (first | exact Keep.refl _ _ | apply Keep.drew | apply Keep.alloc)) k); clear k
  go_wp2_with fail
  go_ret
  exact ⟨rfl, by repeat (first | exact K.out | exact Keep.refl _ _ | apply Keep.drew | apply Keep.alloc | refine Keep.set ?_ (.inr (Nat.le_refl _)) _ _)⟩

theorem iStep (w : World) : Calls Tryz.prog 10 #[.pointer none] w fun e w' => e = .returned (.bool true) ∧ Keep [] w w' := by
  go_enter Tryz.func10, Tryz.ntmps10
  go_wp2_with fail
  have K := Lib.hid (Keep.refl [] w)
  go_ret
  exact ⟨rfl, by repeat (first | exact K.out | exact Keep.refl _ _ | apply Keep.drew | apply Keep.alloc | refine Keep.set ?_ (.inr (Nat.le_refl _)) _ _)⟩

theorem iCode (w : World) : Calls Tryz.prog 14 #[.pointer none] w fun e w' => e = .returned (.int .i64 1) ∧ Keep [] w w' := by
  go_enter Tryz.func14, Tryz.ntmps14
  go_wp2_with fail
  have K := Lib.hid (Keep.refl [] w)
  go_ret
  exact ⟨rfl, by repeat (first | exact K.out | exact Keep.refl _ _ | apply Keep.drew | apply Keep.alloc | refine Keep.set ?_ (.inr (Nat.le_refl _)) _ _)⟩

theorem rStep (w : World) : Calls Tryz.prog 11 #[.pointer none] w fun e w' => e = .returned (.bool true) ∧ Keep [] w w' := by
  go_enter Tryz.func11, Tryz.ntmps11
  go_wp2_with fail
  have K := Lib.hid (Keep.refl [] w)
  go_ret
  exact ⟨rfl, by repeat (first | exact K.out | exact Keep.refl _ _ | apply Keep.drew | apply Keep.alloc | refine Keep.set ?_ (.inr (Nat.le_refl _)) _ _)⟩

theorem rCode (w : World) : Calls Tryz.prog 15 #[.pointer none] w fun e w' => e = .returned (.int .i64 1) ∧ Keep [] w w' := by
  go_enter Tryz.func15, Tryz.ntmps15
  go_wp2_with fail
  have K := Lib.hid (Keep.refl [] w)
  go_ret
  exact ⟨rfl, by repeat (first | exact K.out | exact Keep.refl _ _ | apply Keep.drew | apply Keep.alloc | refine Keep.set ?_ (.inr (Nat.le_refl _)) _ _)⟩

theorem wStep (w : World) : Calls Tryz.prog 12 #[.pointer none] w fun e w' => e = .returned (.bool true) ∧ Keep [] w w' := by
  go_enter Tryz.func12, Tryz.ntmps12
  go_wp2_with fail
  have K := Lib.hid (Keep.refl [] w)
  go_ret
  exact ⟨rfl, by repeat (first | exact K.out | exact Keep.refl _ _ | apply Keep.drew | apply Keep.alloc | refine Keep.set ?_ (.inr (Nat.le_refl _)) _ _)⟩

theorem wCode (w : World) : Calls Tryz.prog 16 #[.pointer none] w fun e w' => e = .returned (.int .i64 1) ∧ Keep [] w w' := by
  go_enter Tryz.func16, Tryz.ntmps16
  go_wp2_with fail
  have K := Lib.hid (Keep.refl [] w)
  go_ret
  exact ⟨rfl, by repeat (first | exact K.out | exact Keep.refl _ _ | apply Keep.drew | apply Keep.alloc | refine Keep.set ?_ (.inr (Nat.le_refl _)) _ _)⟩

theorem wSlot (w : World) : Calls Tryz.prog 17 #[.pointer none] w fun e w' => e = .returned (.int .i64 0) ∧ Keep [] w w' := by
  go_enter Tryz.func17, Tryz.ntmps17
  go_wp2_with fail
  have K := Lib.hid (Keep.refl [] w)
  go_ret
  exact ⟨rfl, by repeat (first | exact K.out | exact Keep.refl _ _ | apply Keep.drew | apply Keep.alloc | refine Keep.set ?_ (.inr (Nat.le_refl _)) _ _)⟩

theorem wEnded (w : World) : Calls Tryz.prog 13 #[.pointer none] w fun e w' => e = .returned (.bool true) ∧ Keep [] w w' := by
  go_enter Tryz.func13, Tryz.ntmps13
  go_wp2_with fail
  have K := Lib.hid (Keep.refl [] w)
  go_ret
  exact ⟨rfl, by repeat (first | exact K.out | exact Keep.refl _ _ | apply Keep.drew | apply Keep.alloc | refine Keep.set ?_ (.inr (Nat.le_refl _)) _ _)⟩

theorem accesses (w : World) : Calls Tryz.prog 20 #[.pointer none] w fun e w' => e = .returned (.int .i64 0) ∧ Keep [] w w' := by
  go_enter Tryz.func20, Tryz.ntmps20
  go_wp2_with fail
  refine (lmissing _).mono ?_
  rintro e w' ⟨rfl, k⟩
  have K := Lib.hid (Keep.trans (show Keep [] w _ from by repeat (first | exact Keep.refl _ _ | apply Keep.drew | apply Keep.alloc)) k); clear k
  go_wp2_with fail
  go_ret
  exact ⟨rfl, by repeat (first | exact K.out | exact Keep.refl _ _ | apply Keep.drew | apply Keep.alloc | refine Keep.set ?_ (.inr (Nat.le_refl _)) _ _)⟩

theorem row (a : Int) (f : Value) (w : World) : Calls Tryz.prog 35 #[.pointer none, .int .i64 a, f] w fun e w' => e = .returned (.int .i64 1) ∧ Keep [] w w' := by
  go_enter Tryz.func35, Tryz.ntmps35
  go_wp2_with fail
  refine (lmissing _).mono ?_
  rintro e w' ⟨rfl, k⟩
  have K := Lib.hid (Keep.trans (show Keep [] w _ from by repeat (first | exact Keep.refl _ _ | apply Keep.drew | apply Keep.alloc)) k); clear k
  go_wp2_with fail
  go_ret
  exact ⟨rfl, by repeat (first | exact K.out | exact Keep.refl _ _ | apply Keep.drew | apply Keep.alloc | refine Keep.set ?_ (.inr (Nat.le_refl _)) _ _)⟩

theorem list (a : Int) (w : World) : Calls Tryz.prog 18 #[.pointer none, .int .i64 a] w fun e w' => e = .returned (.tuple #[.slice none 0 0, .int .i64 1]) ∧ Keep [] w w' := by
  go_enter Tryz.func18, Tryz.ntmps18
  go_wp2_with fail
  refine (row _ _ _).mono ?_
  rintro e w' ⟨rfl, k⟩
  have c0 := (k.cell ((cell_of (alloc_new _ _) 0).trans rfl : (w.alloc (.cells #[.slice none 0 0] 45)).cell? ⟨w.heap.size, 0, none⟩ = some (.slice none 0 0)) (by simp) :)
  have K := Lib.hid (Keep.trans (show Keep [] w _ from by repeat (first | exact Keep.refl _ _ | apply Keep.drew | apply Keep.alloc)) k); clear k
  go_wp2_with fail
  refine bodyPost_ret (results_tmp2 rfl _ _ _) rfl ?_
  exact ⟨rfl, K.out⟩

theorem held (a : Int) (w : World) : Calls Tryz.prog 19 #[.pointer none, .int .i64 a] w fun e w' => e = .returned (.tuple #[.int .i64 0, .int .i64 1]) ∧ Keep [] w w' := by
  go_enter Tryz.func19, Tryz.ntmps19
  go_wp2_with fail
  refine (row _ _ _).mono ?_
  rintro e w' ⟨rfl, k⟩
  have c0 := (k.cell ((cell_of (alloc_new _ _) 0).trans rfl : (w.alloc (.cells #[.int .i64 0] 3)).cell? ⟨w.heap.size, 0, none⟩ = some (.int .i64 0)) (by simp) :)
  have K := Lib.hid (Keep.trans (show Keep [] w _ from by repeat (first | exact Keep.refl _ _ | apply Keep.drew | apply Keep.alloc)) k); clear k
  go_wp2_with fail
  refine bodyPost_ret (results_tmp2 rfl _ _ _) rfl ?_
  exact ⟨rfl, K.out⟩

end Go.Proofs.YtggpjdaglhjlgaaGreat.Mk
