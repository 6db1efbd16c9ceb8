/- LadderUnmade: a zero arena, a zero ladder: the contracts and the walk. Printed by laddernils.py. -/
import Derived.Test.YtggpjdaglhjlgaaHeap
import Derived.Test.YtggpjdaglhjlgaaChecked
import Derived.Lib.Hide
import Derived.BigQuiet
namespace Go.Proofs.Ytggpjdaglhjlgaa.Nils
open Go.RowKit Go.Proofs.Ytggpjdaglhjlgaa.Mem
set_option linter.unusedVariables false
set_option maxRecDepth 100000

theorem num (x : Int) (w : World) : Calls Try.prog 5 #[.int .i64 x] w fun e w' => e = .returned (.int .i64 x) ∧ Keep [] w w' := by
  go_enter Try.func5, Try.ntmps5
  go_wp2
  go_ret
  exact ⟨rfl, by repeat (first | exact Keep.refl _ _ | apply Keep.drew | apply Keep.alloc)⟩

theorem amissing (g : Nat) (w : World) (h : w.cell? ⟨g, 0, none⟩ = some (.int .i64 0)) : Calls Try.prog 26 #[.pointer (some ⟨g, 0, none⟩)] w fun e w' => e = .returned (.bool true) ∧ Keep [] w w' := by
  go_enter Try.func26, Try.ntmps26
  go_wp2
  go_ret
  exact ⟨rfl, by repeat (first | exact Keep.refl _ _ | apply Keep.drew | apply Keep.alloc)⟩

theorem shape (g : Nat) (w : World) (h : w.cell? ⟨g, 0, none⟩ = some (.int .i64 0)) : Calls Try.prog 12 #[.pointer (some ⟨g, 0, none⟩)] w fun e w' => e = .returned (.tuple #[.int .i64 0, .int .i64 0]) ∧ Keep [] w w' := by
  go_enter Try.func12, Try.ntmps12
  go_wp2_with fail
  refine (amissing g _ ((show Keep [] w _ from by repeat (first | exact Keep.refl _ _ | apply Keep.drew | apply Keep.alloc)).cell h (by simp))).mono ?_
  rintro e w' ⟨rfl, k⟩
  have K := Lib.hid (Keep.trans (show Keep [] w _ from by repeat (first | exact Keep.refl _ _ | apply Keep.drew | apply Keep.alloc)) k); clear k
  go_wp2_with fail
  refine bodyPost_ret (results_tmp2 rfl _ _ _) rfl ?_
  exact ⟨rfl, K.out⟩

theorem newBare (g : Nat) (a b : Int) (w : World) (h : w.cell? ⟨g, 0, none⟩ = some (.int .i64 0)) : Calls Try.prog 6 #[.pointer (some ⟨g, 0, none⟩), .int .i64 a, .int .i64 b] w fun e w' => e = .returned (.tuple #[.pointer none, .int .i64 1]) ∧ Keep [] w w' := by
  go_enter Try.func6, Try.ntmps6
  go_wp2_with fail
  refine (shape g _ ((show Keep [] w _ from by repeat (first | exact Keep.refl _ _ | apply Keep.drew | apply Keep.alloc)).cell h (by simp))).mono ?_
  rintro e w' ⟨rfl, k⟩
  have K := Lib.hid (Keep.trans (show Keep [] w _ from by repeat (first | exact Keep.refl _ _ | apply Keep.drew | apply Keep.alloc)) k); clear k
  go_wp2_with fail
  refine bodyPost_ret (results_tmp2 rfl _ _ _) rfl ?_
  exact ⟨rfl, K.out⟩

theorem missing (g : Nat) (w : World) (h : w.cell? ⟨g, 2, none⟩ = some (.int .i64 0)) : Calls Try.prog 18 #[.pointer (some ⟨g, 0, none⟩)] w fun e w' => e = .returned (.bool true) ∧ Keep [] w w' := by
  go_enter Try.func18, Try.ntmps18
  go_wp2
  go_ret
  exact ⟨rfl, by repeat (first | exact Keep.refl _ _ | apply Keep.drew | apply Keep.alloc)⟩

theorem row (g : Nat) (a : Int) (f : Value) (w : World) (h : w.cell? ⟨g, 2, none⟩ = some (.int .i64 0)) : Calls Try.prog 15 #[.pointer (some ⟨g, 0, none⟩), .int .i64 a, f] w fun e w' => e = .returned (.int .i64 1) ∧ Keep [] w w' := by
  go_enter Try.func15, Try.ntmps15
  go_wp2_with fail
  refine (missing g _ ((show Keep [] w _ from by repeat (first | exact Keep.refl _ _ | apply Keep.drew | apply Keep.alloc)).cell h (by simp))).mono ?_
  rintro e w' ⟨rfl, k⟩
  have K := Lib.hid (Keep.trans (show Keep [] w _ from by repeat (first | exact Keep.refl _ _ | apply Keep.drew | apply Keep.alloc)) k); clear k
  go_wp2_with fail
  go_ret
  exact ⟨rfl, K.out⟩

theorem list (g : Nat) (a : Int) (w : World) (h : w.cell? ⟨g, 2, none⟩ = some (.int .i64 0)) : Calls Try.prog 7 #[.pointer (some ⟨g, 0, none⟩), .int .i64 a] w fun e w' => e = .returned (.tuple #[.slice none 0 0, .int .i64 1]) ∧ Keep [] w w' := by
  go_enter Try.func7, Try.ntmps7
  go_wp2_with fail
  refine (row g _ _ _ ((show Keep [] w _ from by repeat (first | exact Keep.refl _ _ | apply Keep.drew | apply Keep.alloc)).cell h (by simp))).mono ?_
  rintro e w' ⟨rfl, k⟩
  have c0 := (k.cell ((cell_of (alloc_new _ _) 0).trans rfl : (w.alloc (.cells #[.slice none 0 0] 44)).cell? ⟨w.heap.size, 0, none⟩ = some (.slice none 0 0)) (by simp) :)
  have K := Lib.hid (Keep.trans (show Keep [] w _ from by repeat (first | exact Keep.refl _ _ | apply Keep.drew | apply Keep.alloc)) k); clear k
  go_wp2_with fail
  refine bodyPost_ret (results_tmp2 rfl _ _ _) rfl ?_
  exact ⟨rfl, K.out⟩

theorem held (g : Nat) (a : Int) (w : World) (h : w.cell? ⟨g, 2, none⟩ = some (.int .i64 0)) : Calls Try.prog 8 #[.pointer (some ⟨g, 0, none⟩), .int .i64 a] w fun e w' => e = .returned (.tuple #[.int .i64 0, .int .i64 1]) ∧ Keep [] w w' := by
  go_enter Try.func8, Try.ntmps8
  go_wp2_with fail
  refine (row g _ _ _ ((show Keep [] w _ from by repeat (first | exact Keep.refl _ _ | apply Keep.drew | apply Keep.alloc)).cell h (by simp))).mono ?_
  rintro e w' ⟨rfl, k⟩
  have c0 := (k.cell ((cell_of (alloc_new _ _) 0).trans rfl : (w.alloc (.cells #[.int .i64 0] 3)).cell? ⟨w.heap.size, 0, none⟩ = some (.int .i64 0)) (by simp) :)
  have K := Lib.hid (Keep.trans (show Keep [] w _ from by repeat (first | exact Keep.refl _ _ | apply Keep.drew | apply Keep.alloc)) k); clear k
  go_wp2_with fail
  refine bodyPost_ret (results_tmp2 rfl _ _ _) rfl ?_
  exact ⟨rfl, K.out⟩

theorem insert (g : Nat) (a : Int) (w : World) (h : w.cell? ⟨g, 2, none⟩ = some (.int .i64 0)) : Calls Try.prog 9 #[.pointer (some ⟨g, 0, none⟩), .int .i64 a] w fun e w' => e = .returned (.pointer none) ∧ Keep [] w w' := by
  go_enter Try.func9, Try.ntmps9
  go_wp2_with fail
  refine (missing g _ ((show Keep [] w _ from by repeat (first | exact Keep.refl _ _ | apply Keep.drew | apply Keep.alloc)).cell h (by simp))).mono ?_
  rintro e w' ⟨rfl, k⟩
  have K := Lib.hid (Keep.trans (show Keep [] w _ from by repeat (first | exact Keep.refl _ _ | apply Keep.drew | apply Keep.alloc)) k); clear k
  go_wp2_with fail
  go_ret
  exact ⟨rfl, K.out⟩

theorem remove (g : Nat) (a : Int) (w : World) (h : w.cell? ⟨g, 2, none⟩ = some (.int .i64 0)) : Calls Try.prog 10 #[.pointer (some ⟨g, 0, none⟩), .int .i64 a] w fun e w' => e = .returned (.pointer none) ∧ Keep [] w w' := by
  go_enter Try.func10, Try.ntmps10
  go_wp2_with fail
  refine (missing g _ ((show Keep [] w _ from by repeat (first | exact Keep.refl _ _ | apply Keep.drew | apply Keep.alloc)).cell h (by simp))).mono ?_
  rintro e w' ⟨rfl, k⟩
  have K := Lib.hid (Keep.trans (show Keep [] w _ from by repeat (first | exact Keep.refl _ _ | apply Keep.drew | apply Keep.alloc)) k); clear k
  go_wp2_with fail
  go_ret
  exact ⟨rfl, K.out⟩

theorem walk (g : Nat) (s : ByteArray) (w : World) (h : w.cell? ⟨g, 2, none⟩ = some (.int .i64 0)) : Calls Try.prog 11 #[.pointer (some ⟨g, 0, none⟩), .string s] w fun e w' => e = .returned (.pointer none) ∧ Keep [] w w' := by
  go_enter Try.func11, Try.ntmps11
  go_wp2_with fail
  refine (missing g _ ((show Keep [] w _ from by repeat (first | exact Keep.refl _ _ | apply Keep.drew | apply Keep.alloc)).cell h (by simp))).mono ?_
  rintro e w' ⟨rfl, k⟩
  have K := Lib.hid (Keep.trans (show Keep [] w _ from by repeat (first | exact Keep.refl _ _ | apply Keep.drew | apply Keep.alloc)) k); clear k
  go_wp2_with fail
  go_ret
  exact ⟨rfl, K.out⟩

set_option maxHeartbeats 4000000 in
theorem nils (a b c : Int) (s : ByteArray) (w : World) : Calls Try.prog 4 #[.int .i64 a, .int .i64 b, .int .i64 c, .string s] w fun e w' => e = .returned (.bool true) ∧ Below w.heap.size w w' := by
  go_enter Try.func4, Try.ntmps4
  have K0 := Lib.hid (Keep.refl [] w)
  go_wp2_with fail
  refine (newBare _ _ _ _ ((cell_of (alloc_new _ _) 0).trans rfl)).mono ?_
  rintro e w0 ⟨rfl, k⟩
  have K1 : Hid (Keep [] w w0) := Lib.hid (Keep.trans (by repeat (first | exact K0.out | apply Keep.drew | apply Keep.alloc)) k); clear k K0
  go_wp2_with fail
  refine (num _ _).mono ?_
  rintro e w1 ⟨rfl, k⟩
  have K2 : Hid (Keep [] w w1) := Lib.hid (Keep.trans (by repeat (first | exact K1.out | apply Keep.drew | apply Keep.alloc)) k); clear k K1
  go_wp2_with fail
  refine (list _ _ _ ((cell_of (alloc_new _ _) 2).trans rfl)).mono ?_
  rintro e w2 ⟨rfl, k⟩
  have c0 := Lib.hid (k.cell ((cell_of (alloc_new w1 _) 2).trans rfl : _ = some (.int .i64 0)) (by simp))
  have K3 : Hid (Keep [] w w2) := Lib.hid (Keep.trans (by repeat (first | exact K2.out | apply Keep.drew | apply Keep.alloc)) k); clear k K2
  go_wp2_with fail
  refine (held _ _ _ c0.out).mono ?_
  rintro e w3 ⟨rfl, k⟩
  have c0 := Lib.hid ((Keep.trans (by repeat (first | exact Keep.refl _ _ | apply Keep.drew | apply Keep.alloc)) k : Keep [] _ _).cell c0.out (by simp))
  have K4 : Hid (Keep [] w w3) := Lib.hid (Keep.trans (by repeat (first | exact K3.out | apply Keep.drew | apply Keep.alloc)) k); clear k K3
  go_wp2_with fail
  refine (insert _ _ _ c0.out).mono ?_
  rintro e w4 ⟨rfl, k⟩
  have c0 := Lib.hid ((Keep.trans (by repeat (first | exact Keep.refl _ _ | apply Keep.drew | apply Keep.alloc)) k : Keep [] _ _).cell c0.out (by simp))
  have K5 : Hid (Keep [] w w4) := Lib.hid (Keep.trans (by repeat (first | exact K4.out | apply Keep.drew | apply Keep.alloc)) k); clear k K4
  go_wp2_with fail
  refine (remove _ _ _ c0.out).mono ?_
  rintro e w5 ⟨rfl, k⟩
  have c0 := Lib.hid ((Keep.trans (by repeat (first | exact Keep.refl _ _ | apply Keep.drew | apply Keep.alloc)) k : Keep [] _ _).cell c0.out (by simp))
  have K6 : Hid (Keep [] w w5) := Lib.hid (Keep.trans (by repeat (first | exact K5.out | apply Keep.drew | apply Keep.alloc)) k); clear k K5
  go_wp2_with fail
  refine (walk _ _ _ c0.out).mono ?_
  rintro e w6 ⟨rfl, k⟩
  have c0 := Lib.hid ((Keep.trans (by repeat (first | exact Keep.refl _ _ | apply Keep.drew | apply Keep.alloc)) k : Keep [] _ _).cell c0.out (by simp))
  have K7 : Hid (Keep [] w w6) := Lib.hid (Keep.trans (by repeat (first | exact K6.out | apply Keep.drew | apply Keep.alloc)) k); clear k K6
  go_wp2_with fail
  refine (num _ _).mono ?_
  rintro e w7 ⟨rfl, k⟩
  have c0 := Lib.hid ((Keep.trans (by repeat (first | exact Keep.refl _ _ | apply Keep.drew | apply Keep.alloc)) k : Keep [] _ _).cell c0.out (by simp))
  have K8 : Hid (Keep [] w w7) := Lib.hid (Keep.trans (by repeat (first | exact K7.out | apply Keep.drew | apply Keep.alloc)) k); clear k K7
  go_wp2_with fail
  refine (num _ _).mono ?_
  rintro e w8 ⟨rfl, k⟩
  have c0 := Lib.hid ((Keep.trans (by repeat (first | exact Keep.refl _ _ | apply Keep.drew | apply Keep.alloc)) k : Keep [] _ _).cell c0.out (by simp))
  have K9 : Hid (Keep [] w w8) := Lib.hid (Keep.trans (by repeat (first | exact K8.out | apply Keep.drew | apply Keep.alloc)) k); clear k K8
  go_wp2_with fail
  go_ret
  exact ⟨rfl, (show Keep [] w _ from by repeat (first | exact K9.out | apply Keep.drew | apply Keep.alloc)).below (Nat.le_refl _) (by simp)⟩
end Go.Proofs.Ytggpjdaglhjlgaa.Nils
