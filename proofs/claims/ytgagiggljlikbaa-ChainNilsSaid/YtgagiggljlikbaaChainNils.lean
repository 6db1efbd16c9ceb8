/- ChainNils: what is not there: the contracts and the walk. Printed by nils.py. -/
import Derived.Test.YtgagiggljlikbaaHeap
import Derived.Test.YtgagiggljlikbaaChecked
import Derived.Lib.Hide
import Derived.BigQuiet
namespace Go.Proofs.Ytgagiggljlikbaa.Nils
open Go.RowKit Go.Proofs.Ytgagiggljlikbaa.Mem
set_option linter.unusedVariables false
set_option maxRecDepth 100000

theorem num (x : Int) (w : World) : Calls Try.prog 6 #[.int .i64 x] w fun e w' => e = .returned (.int .i64 x) ∧ Keep [] w w' := by
  go_enter Try.func6, Try.ntmps6
  go_wp2
  go_ret
  exact ⟨rfl, by repeat (first | exact Keep.refl _ _ | apply Keep.drew | apply Keep.alloc)⟩

theorem newNil (a b : Int) (w : World) : Calls Try.prog 7 #[.pointer none, .int .i64 a, .int .i64 b] w fun e w' => e = .returned (.tuple #[.pointer none, .int .i64 1]) ∧ Keep [] w w' := by
  go_enter Try.func7, Try.ntmps7
  go_wp2
  refine bodyPost_ret (results_tmp2 rfl _ _ _) rfl ?_
  exact ⟨rfl, by repeat (first | exact Keep.refl _ _ | apply Keep.drew | apply Keep.alloc)⟩

theorem list (a : Int) (w : World) : Calls Try.prog 8 #[.pointer none, .int .i64 a] w fun e w' => e = .returned (.tuple #[.slice none 0 0, .int .i64 1]) ∧ Keep [] w w' := by
  go_enter Try.func8, Try.ntmps8
  go_wp2
  refine bodyPost_ret (results_tmp2 rfl _ _ _) rfl ?_
  exact ⟨rfl, by repeat (first | exact Keep.refl _ _ | apply Keep.drew | apply Keep.alloc)⟩

theorem held (a : Int) (w : World) : Calls Try.prog 9 #[.pointer none, .int .i64 a] w fun e w' => e = .returned (.tuple #[.int .i64 0, .int .i64 1]) ∧ Keep [] w w' := by
  go_enter Try.func9, Try.ntmps9
  go_wp2
  refine bodyPost_ret (results_tmp2 rfl _ _ _) rfl ?_
  exact ⟨rfl, by repeat (first | exact Keep.refl _ _ | apply Keep.drew | apply Keep.alloc)⟩

theorem buckets (w : World) : Calls Try.prog 10 #[.pointer none] w fun e w' => e = .returned (.int .i64 0) ∧ Keep [] w w' := by
  go_enter Try.func10, Try.ntmps10
  go_wp2
  go_ret
  exact ⟨rfl, by repeat (first | exact Keep.refl _ _ | apply Keep.drew | apply Keep.alloc)⟩

theorem accesses (w : World) : Calls Try.prog 11 #[.pointer none] w fun e w' => e = .returned (.int .i64 0) ∧ Keep [] w w' := by
  go_enter Try.func11, Try.ntmps11
  go_wp2
  go_ret
  exact ⟨rfl, by repeat (first | exact Keep.refl _ _ | apply Keep.drew | apply Keep.alloc)⟩

theorem insert (a b : Int) (w : World) : Calls Try.prog 12 #[.pointer none, .int .i64 a, .int .i64 b] w fun e w' => e = .returned (.pointer none) ∧ Keep [] w w' := by
  go_enter Try.func12, Try.ntmps12
  go_wp2
  go_ret
  exact ⟨rfl, by repeat (first | exact Keep.refl _ _ | apply Keep.drew | apply Keep.alloc)⟩

theorem walk (a : Int) (w : World) : Calls Try.prog 13 #[.pointer none, .int .i64 a] w fun e w' => e = .returned (.pointer none) ∧ Keep [] w w' := by
  go_enter Try.func13, Try.ntmps13
  go_wp2
  go_ret
  exact ⟨rfl, by repeat (first | exact Keep.refl _ _ | apply Keep.drew | apply Keep.alloc)⟩

theorem behind (a : Int) (w : World) : Calls Try.prog 14 #[.pointer none, .int .i64 a] w fun e w' => e = .returned (.pointer none) ∧ Keep [] w w' := by
  go_enter Try.func14, Try.ntmps14
  go_wp2
  go_ret
  exact ⟨rfl, by repeat (first | exact Keep.refl _ _ | apply Keep.drew | apply Keep.alloc)⟩

theorem remove (a b : Int) (w : World) : Calls Try.prog 15 #[.pointer none, .int .i64 a, .int .i64 b] w fun e w' => e = .returned (.pointer none) ∧ Keep [] w w' := by
  go_enter Try.func15, Try.ntmps15
  go_wp2
  go_ret
  exact ⟨rfl, by repeat (first | exact Keep.refl _ _ | apply Keep.drew | apply Keep.alloc)⟩

theorem iStep (w : World) : Calls Try.prog 16 #[.pointer none] w fun e w' => e = .returned (.bool true) ∧ Keep [] w w' := by
  go_enter Try.func16, Try.ntmps16
  go_wp2
  go_ret
  exact ⟨rfl, by repeat (first | exact Keep.refl _ _ | apply Keep.drew | apply Keep.alloc)⟩

theorem iCode (w : World) : Calls Try.prog 17 #[.pointer none] w fun e w' => e = .returned (.int .i64 1) ∧ Keep [] w w' := by
  go_enter Try.func17, Try.ntmps17
  go_wp2
  go_ret
  exact ⟨rfl, by repeat (first | exact Keep.refl _ _ | apply Keep.drew | apply Keep.alloc)⟩

theorem iTries (w : World) : Calls Try.prog 18 #[.pointer none] w fun e w' => e = .returned (.int .i64 0) ∧ Keep [] w w' := by
  go_enter Try.func18, Try.ntmps18
  go_wp2
  go_ret
  exact ⟨rfl, by repeat (first | exact Keep.refl _ _ | apply Keep.drew | apply Keep.alloc)⟩

theorem wStep (w : World) : Calls Try.prog 19 #[.pointer none] w fun e w' => e = .returned (.bool true) ∧ Keep [] w w' := by
  go_enter Try.func19, Try.ntmps19
  go_wp2
  go_ret
  exact ⟨rfl, by repeat (first | exact Keep.refl _ _ | apply Keep.drew | apply Keep.alloc)⟩

theorem wCode (w : World) : Calls Try.prog 20 #[.pointer none] w fun e w' => e = .returned (.int .i64 1) ∧ Keep [] w w' := by
  go_enter Try.func20, Try.ntmps20
  go_wp2
  go_ret
  exact ⟨rfl, by repeat (first | exact Keep.refl _ _ | apply Keep.drew | apply Keep.alloc)⟩

theorem wSlot (w : World) : Calls Try.prog 21 #[.pointer none] w fun e w' => e = .returned (.int .i64 0) ∧ Keep [] w w' := by
  go_enter Try.func21, Try.ntmps21
  go_wp2
  go_ret
  exact ⟨rfl, by repeat (first | exact Keep.refl _ _ | apply Keep.drew | apply Keep.alloc)⟩

theorem wEnded (w : World) : Calls Try.prog 22 #[.pointer none] w fun e w' => e = .returned (.bool true) ∧ Keep [] w w' := by
  go_enter Try.func22, Try.ntmps22
  go_wp2
  go_ret
  exact ⟨rfl, by repeat (first | exact Keep.refl _ _ | apply Keep.drew | apply Keep.alloc)⟩

theorem rStep (w : World) : Calls Try.prog 23 #[.pointer none] w fun e w' => e = .returned (.bool true) ∧ Keep [] w w' := by
  go_enter Try.func23, Try.ntmps23
  go_wp2
  go_ret
  exact ⟨rfl, by repeat (first | exact Keep.refl _ _ | apply Keep.drew | apply Keep.alloc)⟩

theorem rCode (w : World) : Calls Try.prog 24 #[.pointer none] w fun e w' => e = .returned (.int .i64 1) ∧ Keep [] w w' := by
  go_enter Try.func24, Try.ntmps24
  go_wp2
  go_ret
  exact ⟨rfl, by repeat (first | exact Keep.refl _ _ | apply Keep.drew | apply Keep.alloc)⟩

theorem rMarked (w : World) : Calls Try.prog 25 #[.pointer none] w fun e w' => e = .returned (.bool false) ∧ Keep [] w w' := by
  go_enter Try.func25, Try.ntmps25
  go_wp2
  go_ret
  exact ⟨rfl, by repeat (first | exact Keep.refl _ _ | apply Keep.drew | apply Keep.alloc)⟩

theorem rHelped (w : World) : Calls Try.prog 26 #[.pointer none] w fun e w' => e = .returned (.int .i64 0) ∧ Keep [] w w' := by
  go_enter Try.func26, Try.ntmps26
  go_wp2
  go_ret
  exact ⟨rfl, by repeat (first | exact Keep.refl _ _ | apply Keep.drew | apply Keep.alloc)⟩

theorem missing (g : Nat) (w : World) (h : w.cell? ⟨g, 0, none⟩ = some (.int .i64 0)) : Calls Try.prog 56 #[.pointer (some ⟨g, 0, none⟩)] w fun e w' => e = .returned (.bool true) ∧ Keep [] w w' := by
  go_enter Try.func56, Try.ntmps56
  go_wp2
  go_ret
  exact ⟨rfl, by repeat (first | exact Keep.refl _ _ | apply Keep.drew | apply Keep.alloc)⟩

theorem shape (g : Nat) (w : World) (h : w.cell? ⟨g, 0, none⟩ = some (.int .i64 0)) : Calls Try.prog 37 #[.pointer (some ⟨g, 0, none⟩)] w fun e w' => e = .returned (.tuple #[.int .i64 0, .int .i64 0]) ∧ Keep [] w w' := by
  go_enter Try.func37, Try.ntmps37
  go_wp2_with fail
  refine (missing g _ h).mono ?_
  rintro e w' ⟨rfl, k⟩
  have K := Lib.hid k; clear k
  go_wp2_with fail
  refine bodyPost_ret (results_tmp2 rfl _ _ _) rfl ?_
  exact ⟨rfl, K.out⟩

theorem newBare (g : Nat) (a b : Int) (w : World) (h : w.cell? ⟨g, 0, none⟩ = some (.int .i64 0)) : Calls Try.prog 7 #[.pointer (some ⟨g, 0, none⟩), .int .i64 a, .int .i64 b] w fun e w' => e = .returned (.tuple #[.pointer none, .int .i64 23]) ∧ Keep [] w w' := by
  by_cases ha : a < 0
  · go_enter Try.func7, Try.ntmps7
    go_wp2_with fail
    refine (shape g _ h).mono ?_
    rintro e w' ⟨rfl, k⟩
    have K := Lib.hid k; clear k
    go_wp2_with fail
    refine bodyPost_ret (results_tmp2 rfl _ _ _) rfl ?_
    exact ⟨rfl, K.out⟩
  · go_enter Try.func7, Try.ntmps7
    go_wp2_with fail
    refine (shape g _ h).mono ?_
    rintro e w' ⟨rfl, k⟩
    have K := Lib.hid k; clear k
    go_wp2_with fail
    refine bodyPost_ret (results_tmp2 rfl _ _ _) rfl ?_
    exact ⟨rfl, K.out⟩

set_option maxHeartbeats 4000000 in
theorem nils (a0 a1 a2 a3 : Int) (w : World) : Calls Try.prog 4 #[.int .i64 a0, .int .i64 a1, .int .i64 a2, .int .i64 a3] w fun e w' => e = .returned (.bool true) ∧ Below w.heap.size w w' := by
  go_enter Try.func4, Try.ntmps4
  have K0 := Lib.hid (Keep.refl [] w)
  go_wp2_with fail
  refine (newNil _ _ _).mono ?_
  rintro e w0 ⟨rfl, k⟩
  have K1 := Lib.hid (K0.out.trans k); clear k
  go_wp2_with fail
  refine (num _ _).mono ?_
  rintro e w1 ⟨rfl, k⟩
  have K2 := Lib.hid (K1.out.trans k); clear k
  go_wp2_with fail
  refine (newBare _ _ _ _ ((cell_of (alloc_new _ _) 0).trans rfl)).mono ?_
  rintro e w2 ⟨rfl, k⟩
  have K3 := Lib.hid ((K2.out.alloc _).trans k); clear k
  go_wp2_with fail
  refine (num _ _).mono ?_
  rintro e w3 ⟨rfl, k⟩
  have K4 := Lib.hid (K3.out.trans k); clear k
  go_wp2_with fail
  refine (list _ _).mono ?_
  rintro e w4 ⟨rfl, k⟩
  have K5 := Lib.hid (K4.out.trans k); clear k
  go_wp2_with fail
  refine (held _ _).mono ?_
  rintro e w5 ⟨rfl, k⟩
  have K6 := Lib.hid (K5.out.trans k); clear k
  go_wp2_with fail
  refine (buckets _).mono ?_
  rintro e w6 ⟨rfl, k⟩
  have K7 := Lib.hid (K6.out.trans k); clear k
  go_wp2_with fail
  refine (accesses _).mono ?_
  rintro e w7 ⟨rfl, k⟩
  have K8 := Lib.hid (K7.out.trans k); clear k
  go_wp2_with fail
  refine (num _ _).mono ?_
  rintro e w8 ⟨rfl, k⟩
  have K9 := Lib.hid (K8.out.trans k); clear k
  go_wp2_with fail
  refine (num _ _).mono ?_
  rintro e w9 ⟨rfl, k⟩
  have K10 := Lib.hid (K9.out.trans k); clear k
  go_wp2_with fail
  refine (insert _ _ _).mono ?_
  rintro e w10 ⟨rfl, k⟩
  have K11 := Lib.hid (K10.out.trans k); clear k
  go_wp2_with fail
  refine (walk _ _).mono ?_
  rintro e w11 ⟨rfl, k⟩
  have K12 := Lib.hid (K11.out.trans k); clear k
  go_wp2_with fail
  refine (behind _ _).mono ?_
  rintro e w12 ⟨rfl, k⟩
  have K13 := Lib.hid (K12.out.trans k); clear k
  go_wp2_with fail
  refine (remove _ _ _).mono ?_
  rintro e w13 ⟨rfl, k⟩
  have K14 := Lib.hid (K13.out.trans k); clear k
  go_wp2_with fail
  go_loopw [21] (fun i wr => ∃ j : Nat, j ≤ 2 ∧ i = .int .i64 j ∧ Keep [] w wr) (fun i _ => 2 - (intOf i).toNat)
  case atStart => exact ⟨0, by omega, rfl, K14.out⟩
  case round =>
    obtain ⟨j, hj, rfl, k⟩ := hrel
    have K15 := Lib.hid k; clear k
    by_cases hlt : j < 2
    · go_wp2_with fail
      refine (iStep _).mono ?_
      rintro e w15 ⟨rfl, k⟩
      have K16 := Lib.hid (K15.out.trans k); clear k
      go_wp2_with fail
      refine (iCode _).mono ?_
      rintro e w16 ⟨rfl, k⟩
      have K17 := Lib.hid (K16.out.trans k); clear k
      go_wp2_with fail
      refine (num _ _).mono ?_
      rintro e w17 ⟨rfl, k⟩
      have K18 := Lib.hid (K17.out.trans k); clear k
      go_wp2_with fail
      refine (iTries _).mono ?_
      rintro e w18 ⟨rfl, k⟩
      have K19 := Lib.hid (K18.out.trans k); clear k
      go_wp2_with fail
      refine (wStep _).mono ?_
      rintro e w19 ⟨rfl, k⟩
      have K20 := Lib.hid (K19.out.trans k); clear k
      go_wp2_with fail
      refine (wCode _).mono ?_
      rintro e w20 ⟨rfl, k⟩
      have K21 := Lib.hid (K20.out.trans k); clear k
      go_wp2_with fail
      refine (num _ _).mono ?_
      rintro e w21 ⟨rfl, k⟩
      have K22 := Lib.hid (K21.out.trans k); clear k
      go_wp2_with fail
      refine (wSlot _).mono ?_
      rintro e w22 ⟨rfl, k⟩
      have K23 := Lib.hid (K22.out.trans k); clear k
      go_wp2_with fail
      refine (wEnded _).mono ?_
      rintro e w23 ⟨rfl, k⟩
      have K24 := Lib.hid (K23.out.trans k); clear k
      go_wp2_with fail
      refine (wStep _).mono ?_
      rintro e w24 ⟨rfl, k⟩
      have K25 := Lib.hid (K24.out.trans k); clear k
      go_wp2_with fail
      refine (wCode _).mono ?_
      rintro e w25 ⟨rfl, k⟩
      have K26 := Lib.hid (K25.out.trans k); clear k
      go_wp2_with fail
      refine (num _ _).mono ?_
      rintro e w26 ⟨rfl, k⟩
      have K27 := Lib.hid (K26.out.trans k); clear k
      go_wp2_with fail
      refine (wSlot _).mono ?_
      rintro e w27 ⟨rfl, k⟩
      have K28 := Lib.hid (K27.out.trans k); clear k
      go_wp2_with fail
      refine (wEnded _).mono ?_
      rintro e w28 ⟨rfl, k⟩
      have K29 := Lib.hid (K28.out.trans k); clear k
      go_wp2_with fail
      refine (rStep _).mono ?_
      rintro e w29 ⟨rfl, k⟩
      have K30 := Lib.hid (K29.out.trans k); clear k
      go_wp2_with fail
      refine (rCode _).mono ?_
      rintro e w30 ⟨rfl, k⟩
      have K31 := Lib.hid (K30.out.trans k); clear k
      go_wp2_with fail
      refine (num _ _).mono ?_
      rintro e w31 ⟨rfl, k⟩
      have K32 := Lib.hid (K31.out.trans k); clear k
      go_wp2_with fail
      refine (rMarked _).mono ?_
      rintro e w32 ⟨rfl, k⟩
      have K33 := Lib.hid (K32.out.trans k); clear k
      go_wp2_with fail
      refine (rHelped _).mono ?_
      rintro e w33 ⟨rfl, k⟩
      have K34 := Lib.hid (K33.out.trans k); clear k
      go_wp2_with fail
      go_roundw
      case rel => exact ⟨j + 1, by omega, by go_num, K34.out⟩
      case measure => simp [intOf]; omega
    · go_wp2_with fail
      go_ret
      exact ⟨rfl, K15.out.below (Nat.le_refl _) (by simp)⟩
end Go.Proofs.Ytgagiggljlikbaa.Nils
