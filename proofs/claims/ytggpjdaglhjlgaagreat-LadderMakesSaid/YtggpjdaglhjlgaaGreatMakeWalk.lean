/- LadderMakes: Begin, and the walk of the statement's own text. -/
import Derived.Test.YtggpjdaglhjlgaaGreatMakeRef
namespace Go.Proofs.YtggpjdaglhjlgaaGreat.Mk
open Go.RowKit Go.Proofs.YtggpjdaglhjlgaaGreat.Mem Go.Proofs.YtggpjdaglhjlgaaGreat.Ar Go.Proofs.YtggpjdaglhjlgaaGreat.En
set_option linter.unusedVariables false
set_option maxRecDepth 100000
variable {w : World}

/-- a thing's pointer, or nil, whichever: both sides alike -/
theorem begin_any (n m link levels : Int) (v : Value) (w : World) (hl : -9223372036854775808 ≤ link ∧ link ≤ 9223372036854775807) :
    Calls Tryz.prog 4 #[.agg #[.int .i64 n, .int .i64 m, .int .i64 link, .int .i64 levels, v]] w fun e w' => ∃ p q, e = .returned (.tuple #[p, q, .bool true]) ∧ Keep [] w w' := by
  by_cases hs : 1 ≤ n ∧ n ≤ 4096 ∧ 1 ≤ m ∧ m ≤ 16
  · obtain ⟨n, rfl⟩ : ∃ k : Nat, n = k := ⟨n.toNat, by omega⟩
    obtain ⟨m, rfl⟩ : ∃ k : Nat, m = k := ⟨m.toNat, by omega⟩
    obtain ⟨s1, s2, s3, s4⟩ := hs
    have t1 : 1 ≤ n := by omega
    have t2 : n ≤ 4096 := by omega
    have t3 : 1 ≤ m := by omega
    have t4 : m ≤ 16 := by omega
    clear s1 s2 s3 s4
    by_cases hf : Fine m link levels
    · have HF := Lib.hid hf
      obtain ⟨lv, rfl⟩ : ∃ k : Nat, levels = k := ⟨levels.toNat, by have := hf.1; omega⟩
      clear hf
      go_enter Tryz.func4, Tryz.ntmps4
      go_wp2_with fail
      refine (En.new_ok n m t1 t2 t3 t4).mono ?_
      rintro e w1 ⟨L, rfl, hL, hA, k1⟩
      have HA := Lib.hid hA
      have K1 := Lib.hid k1
      clear hL hA
      have g0 := k1.cell ((cell_of (alloc_new w _) 0).trans rfl : (w.alloc (.cells #[.int .i64 n, .int .i64 m, .int .i64 link, .int .i64 lv, v] 24)).cell? ⟨w.heap.size, 0, none⟩ = some (.int .i64 n)) (by simp)
      have g1 := k1.cell ((cell_of (alloc_new w _) 1).trans rfl : (w.alloc (.cells #[.int .i64 n, .int .i64 m, .int .i64 link, .int .i64 lv, v] 24)).cell? ⟨w.heap.size, 1, none⟩ = some (.int .i64 m)) (by simp)
      have g2 := k1.cell ((cell_of (alloc_new w _) 2).trans rfl : (w.alloc (.cells #[.int .i64 n, .int .i64 m, .int .i64 link, .int .i64 lv, v] 24)).cell? ⟨w.heap.size, 2, none⟩ = some (.int .i64 link)) (by simp)
      have g3 := k1.cell ((cell_of (alloc_new w _) 3).trans rfl : (w.alloc (.cells #[.int .i64 n, .int .i64 m, .int .i64 link, .int .i64 lv, v] 24)).cell? ⟨w.heap.size, 3, none⟩ = some (.int .i64 lv)) (by simp)
      clear k1
      go_wp2_with fail
      refine (Ref.new_ok n m t1 t2 t3 t4).mono ?_
      rintro e w2 ⟨v1, v2, rfl, hM⟩
      have HM := Lib.hid hM
      have HMK := Lib.hid hM.keep
      have HA2 := Lib.hid (En.At.of0 HA.out hM.keep)
      have g2' := hM.keep.cell g2 (by simp)
      have g3' := hM.keep.cell g3 (by simp)
      clear hM g0 g1 g2 g3
      go_wp2_with fail
      refine (En.num _ _).mono ?_
      rintro e w' ⟨rfl, rfl⟩
      go_wp2_with fail
      refine (lnew_ok HA2.out link lv HF.out).mono ?_
      rintro e w3 ⟨b, rfl, k3⟩
      have HM3 := Lib.hid (HM.out.later k3)
      have K3 := Lib.hid k3
      have g2 := k3.cell g2' (by simp)
      have g3 := k3.cell g3' (by simp)
      clear k3 g2' g3'
      go_wp2_with fail
      refine (rnew_ok HM3.out t2 ⟨t3, t4⟩ link lv HF.out).mono ?_
      rintro e w4 ⟨b2, rfl, k4⟩
      have K4 := Lib.hid k4
      clear k4
      go_wp2_with fail
      refine (En.num _ _).mono ?_
      rintro e w' ⟨rfl, rfl⟩
      go_wp2_with fail
      refine bodyPost_ret (v := .tuple #[_, _, .bool true]) (by simp [results]; exact ⟨rfl, rfl⟩) rfl ?_
      exact ⟨_, _, rfl, (((((((Keep.refl [] w).alloc _).trans K1.out).trans HMK.out).trans K3.out).trans K4.out).alloc _).alloc _⟩
    · have HF := Lib.hid hf
      clear hf
      go_enter Tryz.func4, Tryz.ntmps4
      go_wp2_with fail
      refine (En.new_ok n m t1 t2 t3 t4).mono ?_
      rintro e w1 ⟨L, rfl, hL, hA, k1⟩
      have HA := Lib.hid hA
      have K1 := Lib.hid k1
      clear hL hA
      have g0 := k1.cell ((cell_of (alloc_new w _) 0).trans rfl : (w.alloc (.cells #[.int .i64 n, .int .i64 m, .int .i64 link, .int .i64 levels, v] 24)).cell? ⟨w.heap.size, 0, none⟩ = some (.int .i64 n)) (by simp)
      have g1 := k1.cell ((cell_of (alloc_new w _) 1).trans rfl : (w.alloc (.cells #[.int .i64 n, .int .i64 m, .int .i64 link, .int .i64 levels, v] 24)).cell? ⟨w.heap.size, 1, none⟩ = some (.int .i64 m)) (by simp)
      have g2 := k1.cell ((cell_of (alloc_new w _) 2).trans rfl : (w.alloc (.cells #[.int .i64 n, .int .i64 m, .int .i64 link, .int .i64 levels, v] 24)).cell? ⟨w.heap.size, 2, none⟩ = some (.int .i64 link)) (by simp)
      have g3 := k1.cell ((cell_of (alloc_new w _) 3).trans rfl : (w.alloc (.cells #[.int .i64 n, .int .i64 m, .int .i64 link, .int .i64 levels, v] 24)).cell? ⟨w.heap.size, 3, none⟩ = some (.int .i64 levels)) (by simp)
      clear k1
      go_wp2_with fail
      refine (Ref.new_ok n m t1 t2 t3 t4).mono ?_
      rintro e w2 ⟨v1, v2, rfl, hM⟩
      have HM := Lib.hid hM
      have HMK := Lib.hid hM.keep
      have HA2 := Lib.hid (En.At.of0 HA.out hM.keep)
      have g2' := hM.keep.cell g2 (by simp)
      have g3' := hM.keep.cell g3 (by simp)
      clear hM g0 g1 g2 g3
      go_wp2_with fail
      refine (En.num _ _).mono ?_
      rintro e w' ⟨rfl, rfl⟩
      go_wp2_with fail
      refine (lnew_bad HA2.out link levels hl HF.out).mono ?_
      rintro e w3 ⟨rfl, k3⟩
      have HM3 := Lib.hid (HM.out.later k3)
      have K3 := Lib.hid k3
      have g2 := k3.cell g2' (by simp)
      have g3 := k3.cell g3' (by simp)
      clear k3 g2' g3'
      go_wp2_with fail
      refine (rnew_bad HM3.out t2 ⟨t3, t4⟩ link levels HF.out).mono ?_
      rintro e w4 ⟨rfl, k4⟩
      have K4 := Lib.hid k4
      clear k4
      go_wp2_with fail
      refine (En.num _ _).mono ?_
      rintro e w' ⟨rfl, rfl⟩
      go_wp2_with fail
      refine bodyPost_ret (v := .tuple #[_, _, .bool true]) (by simp [results]; exact ⟨rfl, rfl⟩) rfl ?_
      exact ⟨_, _, rfl, (((((((Keep.refl [] w).alloc _).trans K1.out).trans HMK.out).trans K3.out).trans K4.out).alloc _).alloc _⟩
  · have HS := Lib.hid hs
    clear hs
    go_enter Tryz.func4, Tryz.ntmps4
    go_wp2_with fail
    refine (En.new_bad n m HS.out).mono ?_
    rintro e w' ⟨rfl, rfl⟩
    go_wp2_with fail
    refine (Ref.new_bad n m HS.out).mono ?_
    rintro e w' ⟨rfl, rfl⟩
    go_wp2_with fail
    refine (En.num _ _).mono ?_
    rintro e w' ⟨rfl, rfl⟩
    go_wp2_with fail
    refine (lnew_nil _ _ _).mono ?_
    rintro e w' ⟨rfl, rfl⟩
    go_wp2_with fail
    refine (rnew_nil _ _ _).mono ?_
    rintro e w' ⟨rfl, rfl⟩
    go_wp2_with fail
    refine (En.num _ _).mono ?_
    rintro e w' ⟨rfl, rfl⟩
    go_wp2_with fail
    refine bodyPost_ret (v := .tuple #[_, _, .bool true]) (by simp [results]; exact ⟨rfl, rfl⟩) rfl ?_
    exact ⟨_, _, rfl, (((Keep.refl [] w).alloc _).alloc _).alloc _⟩

theorem makes (n m link levels : Int) (v : Value) (w : World) (hl : -9223372036854775808 ≤ link ∧ link ≤ 9223372036854775807) :
    Calls Tryz.prog 3 #[.agg #[.int .i64 n, .int .i64 m, .int .i64 link, .int .i64 levels, v]] w fun e w' => e = .returned (.bool true) ∧ Below w.heap.size w w' := by
  go_enter Tryz.func3, Tryz.ntmps3
  go_wp2_with fail
  refine (begin_any n m link levels v _ hl).mono ?_
  rintro e w1 ⟨p, q, rfl, k⟩
  have K1 := Lib.hid (((Keep.refl [] w).alloc _).trans k)
  have g2 := k.cell ((cell_of (alloc_new w _) 2).trans rfl : (w.alloc (.cells #[.int .i64 n, .int .i64 m, .int .i64 link, .int .i64 levels, v] 24)).cell? ⟨w.heap.size, 2, none⟩ = some (.int .i64 link)) (by simp)
  have g3 := k.cell ((cell_of (alloc_new w _) 3).trans rfl : (w.alloc (.cells #[.int .i64 n, .int .i64 m, .int .i64 link, .int .i64 levels, v] 24)).cell? ⟨w.heap.size, 3, none⟩ = some (.int .i64 levels)) (by simp)
  clear k
  go_wp2_with fail
  refine (lnew_nil _ _ _).mono ?_
  rintro e w' ⟨rfl, rfl⟩
  go_wp2_with fail
  refine (En.num _ _).mono ?_
  rintro e w' ⟨rfl, rfl⟩
  clear g2 g3
  go_wp2_with fail
  refine (insert _ _).mono ?_
  rintro e w2 ⟨rfl, k⟩
  have K2 := Lib.hid (K1.out.trans k); clear k
  go_wp2_with fail
  refine (remove _ _).mono ?_
  rintro e w3 ⟨rfl, k⟩
  have K3 := Lib.hid (K2.out.trans k); clear k
  go_wp2_with fail
  refine (walk _ _).mono ?_
  rintro e w4 ⟨rfl, k⟩
  have K4 := Lib.hid (K3.out.trans k); clear k
  go_wp2_with fail
  refine (iStep _).mono ?_
  rintro e w5 ⟨rfl, k⟩
  have K5 := Lib.hid (K4.out.trans k); clear k
  go_wp2_with fail
  refine (rStep _).mono ?_
  rintro e w6 ⟨rfl, k⟩
  have K6 := Lib.hid (K5.out.trans k); clear k
  go_wp2_with fail
  refine (wStep _).mono ?_
  rintro e w7 ⟨rfl, k⟩
  have K7 := Lib.hid (K6.out.trans k); clear k
  go_wp2_with fail
  refine (wEnded _).mono ?_
  rintro e w8 ⟨rfl, k⟩
  have K8 := Lib.hid (K7.out.trans k); clear k
  go_wp2_with fail
  refine (iCode _).mono ?_
  rintro e w9 ⟨rfl, k⟩
  have K9 := Lib.hid (K8.out.trans k); clear k
  go_wp2_with fail
  refine (En.num _ _).mono ?_
  rintro e w' ⟨rfl, rfl⟩
  go_wp2_with fail
  refine (rCode _).mono ?_
  rintro e w10 ⟨rfl, k⟩
  have K10 := Lib.hid (K9.out.trans k); clear k
  go_wp2_with fail
  refine (En.num _ _).mono ?_
  rintro e w' ⟨rfl, rfl⟩
  go_wp2_with fail
  refine (wCode _).mono ?_
  rintro e w11 ⟨rfl, k⟩
  have K11 := Lib.hid (K10.out.trans k); clear k
  go_wp2_with fail
  refine (En.num _ _).mono ?_
  rintro e w' ⟨rfl, rfl⟩
  go_wp2_with fail
  refine (wSlot _).mono ?_
  rintro e w12 ⟨rfl, k⟩
  have K12 := Lib.hid (K11.out.trans k); clear k
  go_wp2_with fail
  refine (list _ _).mono ?_
  rintro e w13 ⟨rfl, k⟩
  have K13 := Lib.hid (K12.out.trans k); clear k
  go_wp2_with fail
  refine (held _ _).mono ?_
  rintro e w14 ⟨rfl, k⟩
  have K14 := Lib.hid (K13.out.trans k); clear k
  go_wp2_with fail
  refine (accesses _).mono ?_
  rintro e w15 ⟨rfl, k⟩
  have K15 := Lib.hid (K14.out.trans k); clear k
  go_wp2_with fail
  refine (En.num _ _).mono ?_
  rintro e w' ⟨rfl, rfl⟩
  go_wp2_with fail
  refine (En.num _ _).mono ?_
  rintro e w' ⟨rfl, rfl⟩
  go_wp2_with fail
  go_ret
  exact ⟨rfl, K15.out.below (Nat.le_refl _) (by simp)⟩
end Go.Proofs.YtggpjdaglhjlgaaGreat.Mk
