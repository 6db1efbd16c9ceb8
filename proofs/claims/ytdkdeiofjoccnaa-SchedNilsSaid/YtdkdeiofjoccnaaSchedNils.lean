/- SchedNils: what is not there: the contracts and the walk. Printed by schednils.py. -/
import Derived.Test.YtdkdeiofjoccnaaHeap
import Derived.Test.YtdkdeiofjoccnaaChecked
import Derived.Lib.Hide
import Derived.BigQuiet
namespace Go.Proofs.Ytdkdeiofjoccnaa.Nils
open Go.RowKit Go.Proofs.Ytdkdeiofjoccnaa.Mem
set_option linter.unusedVariables false
set_option maxRecDepth 100000

theorem play (a : Int) (p : Option Addr) (l c : Nat) (w : World) : Calls Try.prog 27 #[.pointer none, .int .i64 a, .slice p l c] w fun e w' => e = .returned (.tuple #[.int .i64 0, .int .i64 1]) ∧ Keep [] w w' := by
  go_enter Try.func27, Try.ntmps27
  go_wp2
  refine bodyPost_ret (results_tmp2 rfl _ _ _) rfl ?_
  exact ⟨rfl, by repeat (first | exact Keep.refl _ _ | apply Keep.drew | apply Keep.alloc)⟩

theorem drain (a : Int) (w : World) : Calls Try.prog 28 #[.pointer none, .int .i64 a] w fun e w' => e = .returned (.tuple #[.int .i64 0, .int .i64 1]) ∧ Keep [] w w' := by
  go_enter Try.func28, Try.ntmps28
  go_wp2_with fail
  refine (play _ _ _ _ _).mono ?_
  rintro e w' ⟨rfl, k⟩
  have K := Lib.hid k; clear k
  go_wp2_with fail
  refine bodyPost_ret (results_tmp2 rfl _ _ _) rfl ?_
  exact ⟨rfl, Keep.trans (by repeat (first | exact Keep.refl _ _ | apply Keep.drew | apply Keep.alloc)) K.out⟩

theorem outcome (w : World) : Calls Try.prog 29 #[.pointer none] w fun e w' => e = .returned (.tuple #[.agg #[.slice none 0 0, .slice none 0 0], .bool false]) ∧ Keep [] w w' := by
  go_enter Try.func29, Try.ntmps29
  go_wp2
  refine bodyPost_ret (v := .tuple #[.agg #[.slice none 0 0, .slice none 0 0], .bool false]) ?_ rfl ?_
  · simp [results]
    go_simp
  exact ⟨rfl, by repeat (first | exact Keep.refl _ _ | apply Keep.drew | apply Keep.alloc)⟩

theorem infoQ : (Try.prog.info? 149).map (fun i => (i.zero, i.size, i.bytes)) = some (some (.slice none 0 0), 1, 24) := by kernel_rfl

theorem newOne (w : World) : Calls Try.prog 30 #[.int .i64 1] w fun e w' => ∃ p, e = .returned (.tuple #[.pointer (some p), .int .i64 0]) ∧ Keep [] w w' := by
  obtain ⟨i0, hi, hz0, hz1, hz2⟩ := info_parts infoQ
  have k1 := fun (u : World) => run_make (P := Try.prog) u 146 149 i0 (.slice none 0 0) Try.underlying146 hi hz0 .i64 .i64 1 1 (by omega) (by omega) (by rw [hz2]; omega) (by omega)
  clear hz0 hz1 hz2 hi
  go_enter Try.func30, Try.ntmps30
  go_wp2
  refine bodyPost_ret (results_tmp2 rfl _ _ _) rfl ?_
  exact ⟨_, rfl, by repeat (first | exact Keep.refl _ _ | apply Keep.drew | apply Keep.alloc)⟩

theorem submit (a b : Int) (p : Option Addr) (l c : Nat) (w : World) : Calls Try.prog 31 #[.pointer none, .int .i64 a, .int .i64 b, .slice p l c] w fun e w' => e = .returned (.int .i64 1) ∧ Keep [] w w' := by
  go_enter Try.func31, Try.ntmps31
  go_wp2
  go_ret
  exact ⟨rfl, by repeat (first | exact Keep.refl _ _ | apply Keep.drew | apply Keep.alloc)⟩

theorem pending (a : Int) (w : World) : Calls Try.prog 33 #[.pointer none, .int .i64 a] w fun e w' => e = .returned (.int .i64 0) ∧ Keep [] w w' := by
  go_enter Try.func33, Try.ntmps33
  go_wp2
  go_ret
  exact ⟨rfl, by repeat (first | exact Keep.refl _ _ | apply Keep.drew | apply Keep.alloc)⟩

theorem step (a : Int) (w : World) : Calls Try.prog 32 #[.pointer none, .int .i64 a] w fun e w' => e = .returned (.bool false) ∧ Keep [] w w' := by
  go_enter Try.func32, Try.ntmps32
  go_wp2_with fail
  refine (pending _ _).mono ?_
  rintro e w' ⟨rfl, k⟩
  have K := Lib.hid k; clear k
  go_wp2_with fail
  go_ret
  exact ⟨rfl, K.out⟩

theorem idle (w : World) : Calls Try.prog 34 #[.pointer none] w fun e w' => e = .returned (.bool false) ∧ Keep [] w w' := by
  go_enter Try.func34, Try.ntmps34
  go_wp2
  go_ret
  exact ⟨rfl, by repeat (first | exact Keep.refl _ _ | apply Keep.drew | apply Keep.alloc)⟩

theorem steps (w : World) : Calls Try.prog 35 #[.pointer none] w fun e w' => e = .returned (.int .i64 0) ∧ Keep [] w w' := by
  go_enter Try.func35, Try.ntmps35
  go_wp2
  go_ret
  exact ⟨rfl, by repeat (first | exact Keep.refl _ _ | apply Keep.drew | apply Keep.alloc)⟩

theorem events (w : World) : Calls Try.prog 36 #[.pointer none] w fun e w' => e = .returned (.slice none 0 0) ∧ Keep [] w w' := by
  go_enter Try.func36, Try.ntmps36
  go_wp2
  go_ret
  exact ⟨rfl, by repeat (first | exact Keep.refl _ _ | apply Keep.drew | apply Keep.alloc)⟩

theorem take (w : World) : Calls Try.prog 37 #[.pointer none] w fun e w' => e = .returned (.slice none 0 0) ∧ Keep [] w w' := by
  go_enter Try.func37, Try.ntmps37
  go_wp2
  go_ret
  exact ⟨rfl, by repeat (first | exact Keep.refl _ _ | apply Keep.drew | apply Keep.alloc)⟩

theorem tStep (w : World) : Calls Try.prog 38 #[.pointer none] w fun e w' => e = .returned (.bool true) ∧ Keep [] w w' := by
  go_enter Try.func38, Try.ntmps38
  go_wp2_with fail
  go_quiet (fail)
  go_wp2_with fail
  go_ret
  exact ⟨rfl, (Keep.refl _ _).drewN _⟩

theorem tRegs (w : World) : Calls Try.prog 39 #[.pointer none] w fun e w' => e = .returned (.slice none 0 0) ∧ Keep [] w w' := by
  go_enter Try.func39, Try.ntmps39
  go_wp2
  go_ret
  exact ⟨rfl, by repeat (first | exact Keep.refl _ _ | apply Keep.drew | apply Keep.alloc)⟩

theorem bThread (a : Int) (w : World) : Calls Try.prog 40 #[.pointer none, .int .i64 a] w fun e w' => e = .returned (.pointer none) ∧ Keep [] w w' := by
  go_enter Try.func40, Try.ntmps40
  go_wp2
  go_ret
  exact ⟨rfl, by repeat (first | exact Keep.refl _ _ | apply Keep.drew | apply Keep.alloc)⟩

theorem bPlay (s : ByteArray) (w : World) : Calls Try.prog 41 #[.pointer none, .string s] w fun e w' => e = .returned (.int .i64 0) ∧ Keep [] w w' := by
  go_enter Try.func41, Try.ntmps41
  go_wp2
  go_ret
  exact ⟨rfl, by repeat (first | exact Keep.refl _ _ | apply Keep.drew | apply Keep.alloc)⟩

theorem bEvents (w : World) : Calls Try.prog 42 #[.pointer none] w fun e w' => e = .returned (.slice none 0 0) ∧ Keep [] w w' := by
  go_enter Try.func42, Try.ntmps42
  go_wp2
  go_ret
  exact ⟨rfl, by repeat (first | exact Keep.refl _ _ | apply Keep.drew | apply Keep.alloc)⟩

set_option maxHeartbeats 4000000 in
theorem nils (w : World) : Calls Try.prog 8 #[] w fun e w' => e = .returned (.bool true) ∧ Below w.heap.size w w' := by
  go_enter Try.func8, Try.ntmps8
  have K0 := Lib.hid (Keep.refl [] w)
  go_wp2_with fail
  refine (play _ _ _ _ _).mono ?_
  rintro e w0 ⟨rfl, k⟩
  have K1 : Hid (Keep [] w w0) := Lib.hid (Keep.trans (by repeat (first | exact K0.out | apply Keep.drew | apply Keep.alloc)) k); clear k K0
  go_wp2_with fail
  refine (drain _ _).mono ?_
  rintro e w1 ⟨rfl, k⟩
  have K2 : Hid (Keep [] w w1) := Lib.hid (Keep.trans (by repeat (first | exact K1.out | apply Keep.drew | apply Keep.alloc)) k); clear k K1
  go_wp2_with fail
  refine (outcome _).mono ?_
  rintro e w2 ⟨rfl, k⟩
  have K3 : Hid (Keep [] w w2) := Lib.hid (Keep.trans (by repeat (first | exact K2.out | apply Keep.drew | apply Keep.alloc)) k); clear k K2
  go_wp2_with fail
  have c0 := Lib.hid ((cell_of (alloc_new w2 (.cells #[.slice none 0 0, .slice none 0 0] 42)) 0).trans rfl : (w2.alloc (.cells #[.slice none 0 0, .slice none 0 0] 42)).cell? ⟨w2.heap.size, 0, none⟩ = some (.slice none 0 0))
  have c1 := Lib.hid ((cell_of (alloc_new w2 (.cells #[.slice none 0 0, .slice none 0 0] 42)) 1).trans rfl : (w2.alloc (.cells #[.slice none 0 0, .slice none 0 0] 42)).cell? ⟨w2.heap.size, 1, none⟩ = some (.slice none 0 0))
  refine (newOne _).mono ?_
  rintro e w3 ⟨p, rfl, k⟩
  have c0 := Lib.hid ((Keep.trans (by repeat (first | exact Keep.refl _ _ | apply Keep.drew | apply Keep.alloc)) k : Keep [] _ _).cell c0.out (by simp)); have c1 := Lib.hid ((Keep.trans (by repeat (first | exact Keep.refl _ _ | apply Keep.drew | apply Keep.alloc)) k : Keep [] _ _).cell c1.out (by simp))
  have K4 : Hid (Keep [] w w3) := Lib.hid (Keep.trans (by repeat (first | exact K3.out | apply Keep.drew | apply Keep.alloc)) k); clear k K3
  go_wp2_with fail
  refine (submit _ _ _ _ _ _).mono ?_
  rintro e w4 ⟨rfl, k⟩
  have c0 := Lib.hid ((Keep.trans (by repeat (first | exact Keep.refl _ _ | apply Keep.drew | apply Keep.alloc)) k : Keep [] _ _).cell c0.out (by simp)); have c1 := Lib.hid ((Keep.trans (by repeat (first | exact Keep.refl _ _ | apply Keep.drew | apply Keep.alloc)) k : Keep [] _ _).cell c1.out (by simp))
  have K5 : Hid (Keep [] w w4) := Lib.hid (Keep.trans (by repeat (first | exact K4.out | apply Keep.drew | apply Keep.alloc)) k); clear k K4
  go_wp2_with fail
  refine (step _ _).mono ?_
  rintro e w5 ⟨rfl, k⟩
  have c0 := Lib.hid ((Keep.trans (by repeat (first | exact Keep.refl _ _ | apply Keep.drew | apply Keep.alloc)) k : Keep [] _ _).cell c0.out (by simp)); have c1 := Lib.hid ((Keep.trans (by repeat (first | exact Keep.refl _ _ | apply Keep.drew | apply Keep.alloc)) k : Keep [] _ _).cell c1.out (by simp))
  have K6 : Hid (Keep [] w w5) := Lib.hid (Keep.trans (by repeat (first | exact K5.out | apply Keep.drew | apply Keep.alloc)) k); clear k K5
  go_wp2_with fail
  refine (pending _ _).mono ?_
  rintro e w6 ⟨rfl, k⟩
  have c0 := Lib.hid ((Keep.trans (by repeat (first | exact Keep.refl _ _ | apply Keep.drew | apply Keep.alloc)) k : Keep [] _ _).cell c0.out (by simp)); have c1 := Lib.hid ((Keep.trans (by repeat (first | exact Keep.refl _ _ | apply Keep.drew | apply Keep.alloc)) k : Keep [] _ _).cell c1.out (by simp))
  have K7 : Hid (Keep [] w w6) := Lib.hid (Keep.trans (by repeat (first | exact K6.out | apply Keep.drew | apply Keep.alloc)) k); clear k K6
  go_wp2_with fail
  refine (idle _).mono ?_
  rintro e w7 ⟨rfl, k⟩
  have c0 := Lib.hid ((Keep.trans (by repeat (first | exact Keep.refl _ _ | apply Keep.drew | apply Keep.alloc)) k : Keep [] _ _).cell c0.out (by simp)); have c1 := Lib.hid ((Keep.trans (by repeat (first | exact Keep.refl _ _ | apply Keep.drew | apply Keep.alloc)) k : Keep [] _ _).cell c1.out (by simp))
  have K8 : Hid (Keep [] w w7) := Lib.hid (Keep.trans (by repeat (first | exact K7.out | apply Keep.drew | apply Keep.alloc)) k); clear k K7
  go_wp2_with fail
  refine (steps _).mono ?_
  rintro e w8 ⟨rfl, k⟩
  have c0 := Lib.hid ((Keep.trans (by repeat (first | exact Keep.refl _ _ | apply Keep.drew | apply Keep.alloc)) k : Keep [] _ _).cell c0.out (by simp)); have c1 := Lib.hid ((Keep.trans (by repeat (first | exact Keep.refl _ _ | apply Keep.drew | apply Keep.alloc)) k : Keep [] _ _).cell c1.out (by simp))
  have K9 : Hid (Keep [] w w8) := Lib.hid (Keep.trans (by repeat (first | exact K8.out | apply Keep.drew | apply Keep.alloc)) k); clear k K8
  go_wp2_with fail
  refine (events _).mono ?_
  rintro e w9 ⟨rfl, k⟩
  have c0 := Lib.hid ((Keep.trans (by repeat (first | exact Keep.refl _ _ | apply Keep.drew | apply Keep.alloc)) k : Keep [] _ _).cell c0.out (by simp)); have c1 := Lib.hid ((Keep.trans (by repeat (first | exact Keep.refl _ _ | apply Keep.drew | apply Keep.alloc)) k : Keep [] _ _).cell c1.out (by simp))
  have K10 : Hid (Keep [] w w9) := Lib.hid (Keep.trans (by repeat (first | exact K9.out | apply Keep.drew | apply Keep.alloc)) k); clear k K9
  go_wp2_with fail
  refine (take _).mono ?_
  rintro e w10 ⟨rfl, k⟩
  have c0 := Lib.hid ((Keep.trans (by repeat (first | exact Keep.refl _ _ | apply Keep.drew | apply Keep.alloc)) k : Keep [] _ _).cell c0.out (by simp)); have c1 := Lib.hid ((Keep.trans (by repeat (first | exact Keep.refl _ _ | apply Keep.drew | apply Keep.alloc)) k : Keep [] _ _).cell c1.out (by simp))
  have K11 : Hid (Keep [] w w10) := Lib.hid (Keep.trans (by repeat (first | exact K10.out | apply Keep.drew | apply Keep.alloc)) k); clear k K10
  go_wp2_with fail
  refine (tStep _).mono ?_
  rintro e w11 ⟨rfl, k⟩
  have c0 := Lib.hid ((Keep.trans (by repeat (first | exact Keep.refl _ _ | apply Keep.drew | apply Keep.alloc)) k : Keep [] _ _).cell c0.out (by simp)); have c1 := Lib.hid ((Keep.trans (by repeat (first | exact Keep.refl _ _ | apply Keep.drew | apply Keep.alloc)) k : Keep [] _ _).cell c1.out (by simp))
  have K12 : Hid (Keep [] w w11) := Lib.hid (Keep.trans (by repeat (first | exact K11.out | apply Keep.drew | apply Keep.alloc)) k); clear k K11
  go_wp2_with fail
  refine (tRegs _).mono ?_
  rintro e w12 ⟨rfl, k⟩
  have c0 := Lib.hid ((Keep.trans (by repeat (first | exact Keep.refl _ _ | apply Keep.drew | apply Keep.alloc)) k : Keep [] _ _).cell c0.out (by simp)); have c1 := Lib.hid ((Keep.trans (by repeat (first | exact Keep.refl _ _ | apply Keep.drew | apply Keep.alloc)) k : Keep [] _ _).cell c1.out (by simp))
  have K13 : Hid (Keep [] w w12) := Lib.hid (Keep.trans (by repeat (first | exact K12.out | apply Keep.drew | apply Keep.alloc)) k); clear k K12
  go_wp2_with fail
  refine (bThread _ _).mono ?_
  rintro e w13 ⟨rfl, k⟩
  have c0 := Lib.hid ((Keep.trans (by repeat (first | exact Keep.refl _ _ | apply Keep.drew | apply Keep.alloc)) k : Keep [] _ _).cell c0.out (by simp)); have c1 := Lib.hid ((Keep.trans (by repeat (first | exact Keep.refl _ _ | apply Keep.drew | apply Keep.alloc)) k : Keep [] _ _).cell c1.out (by simp))
  have K14 : Hid (Keep [] w w13) := Lib.hid (Keep.trans (by repeat (first | exact K13.out | apply Keep.drew | apply Keep.alloc)) k); clear k K13
  go_wp2_with fail
  refine (bPlay _ _).mono ?_
  rintro e w14 ⟨rfl, k⟩
  have c0 := Lib.hid ((Keep.trans (by repeat (first | exact Keep.refl _ _ | apply Keep.drew | apply Keep.alloc)) k : Keep [] _ _).cell c0.out (by simp)); have c1 := Lib.hid ((Keep.trans (by repeat (first | exact Keep.refl _ _ | apply Keep.drew | apply Keep.alloc)) k : Keep [] _ _).cell c1.out (by simp))
  have K15 : Hid (Keep [] w w14) := Lib.hid (Keep.trans (by repeat (first | exact K14.out | apply Keep.drew | apply Keep.alloc)) k); clear k K14
  have e2 := c0.out
  have e3 := c1.out
  go_wp2_with fail
  refine (bEvents _).mono ?_
  rintro e w15 ⟨rfl, k⟩
  have c0 := Lib.hid ((Keep.trans (by repeat (first | exact Keep.refl _ _ | apply Keep.drew | apply Keep.alloc)) k : Keep [] _ _).cell c0.out (by simp)); have c1 := Lib.hid ((Keep.trans (by repeat (first | exact Keep.refl _ _ | apply Keep.drew | apply Keep.alloc)) k : Keep [] _ _).cell c1.out (by simp))
  have K16 : Hid (Keep [] w w15) := Lib.hid (Keep.trans (by repeat (first | exact K15.out | apply Keep.drew | apply Keep.alloc)) k); clear k K15
  go_wp2_with fail
  go_ret
  exact ⟨rfl, (show Keep [] w _ from by repeat (first | exact K16.out | apply Keep.drew | apply Keep.alloc)).below (Nat.le_refl _) (by simp)⟩
end Go.Proofs.Ytdkdeiofjoccnaa.Nils
