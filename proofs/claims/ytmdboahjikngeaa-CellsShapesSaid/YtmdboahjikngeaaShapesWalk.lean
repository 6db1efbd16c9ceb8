/- CellsShapes: the walk of the statement's own text. -/
import Derived.Test.YtmdboahjikngeaaRefNew
import Derived.Test.YtmdboahjikngeaaFifoWalk
namespace Go.Proofs.Ytmdboahjikngeaa.Shapes
open Go.RowKit Go.Proofs.Ytmdboahjikngeaa.Mem Go.Proofs.Ytmdboahjikngeaa.Ar Go.Proofs.Ytmdboahjikngeaa.As Go.Proofs.Ytmdboahjikngeaa.Fifo
set_option linter.unusedVariables false

variable {w : World}

theorem begin_bad (slots width : Int) (hs : ¬ (1 ≤ slots ∧ slots ≤ 4096 ∧ 1 ≤ width ∧ width ≤ 16)) :
    Calls Try.prog 12 #[.int .i64 slots, .int .i64 width] w fun e w' => e = .returned (.tuple #[.pointer none, .pointer none, .bool true]) ∧ w = w' := by
  have HS := Lib.hid hs; clear hs
  go_enter Try.func12, Try.ntmps12
  go_wp2_with fail
  refine (As.new_bad slots width HS.out).mono ?_
  rintro e w' ⟨rfl, rfl⟩
  go_wp2_with fail
  refine (Ref.new_bad slots width HS.out).mono ?_
  rintro e w' ⟨rfl, rfl⟩
  go_wp2_with fail
  refine (num_any _ _).mono ?_
  rintro e w' ⟨rfl, rfl⟩
  go_wp2_with fail
  go_ret3
  exact ⟨rfl, rfl⟩

theorem begin_ok (slots width : Nat) (h1 : 1 ≤ slots) (h2 : slots ≤ 4096) (h3 : 1 ≤ width) (h4 : width ≤ 16) :
    Calls Try.prog 12 #[.int .i64 slots, .int .i64 width] w fun e w' => ∃ (L : Bk) (wm : World) (v1 v2 : Value), e = .returned (.tuple #[.pointer (some ⟨L.b, 0, none⟩), .pointer (some ⟨wm.heap.size, 0, none⟩), .bool true]) ∧
      (∀ x ∈ L.blocks, w.heap.size ≤ x) ∧ As.At 0 w' L (fresh ByteArray slots width) ∧ Keep [] w wm ∧ Ref.Making wm w' width slots v1 v2 ∧ (∀ x ∈ L.blocks, x < wm.heap.size) := by
  go_enter Try.func12, Try.ntmps12
  go_wp2_with fail
  refine (As.new_ok slots width h1 h2 h3 h4).mono ?_
  rintro e w1 ⟨L, rfl, hL, hA, k1⟩
  have HL := Lib.hid hL; clear hL
  have HA := Lib.hid hA; clear hA
  go_wp2_with fail
  refine (Ref.new_ok slots width h1 h2 h3 h4).mono ?_
  rintro e w2 ⟨v1, v2, rfl, hM⟩
  have HM := Lib.hid hM; clear hM
  go_wp2_with fail
  refine (num_any _ _).mono ?_
  rintro e w' ⟨rfl, rfl⟩
  go_wp2_with fail
  go_ret3
  exact ⟨L, w1, v1, v2, rfl, HL.out, HA.out.keep HM.out.keep (by simp), k1, HM.out, blocks_lt HA.out⟩

theorem live_fresh (slots width : Nat) : live (fresh ByteArray slots width) = [] := by
  unfold live usedTo
  rw [List.filter_eq_nil_iff]
  intro s hs
  rw [List.mem_range'_1] at hs
  simp only [fresh, Nat.add_sub_cancel] at hs ⊢
  rw [nth_replicate _ _ _ _ (by omega)]
  simp

theorem shape_nil : Calls Try.prog 13 #[.pointer none] w fun e w' => e = .returned (.tuple #[.int .i64 0, .int .i64 0]) ∧ w = w' := by
  go_enter Try.func13, Try.ntmps13
  go_wp2_with fail
  refine (missing_nil _).mono ?_
  rintro e w' ⟨rfl, rfl⟩
  go_wp2_with fail
  go_ret2
  exact ⟨rfl, rfl⟩
theorem ref_shape_nil : Calls Try.prog 14 #[.pointer none] w fun e w' => e = .returned (.tuple #[.int .i64 0, .int .i64 0]) ∧ w = w' := by
  go_enter Try.func14, Try.ntmps14
  go_wp2_with fail
  go_ret2
  exact ⟨rfl, rfl⟩
theorem picture_nil : Calls Try.prog 38 #[.pointer none] w fun e w' => e = .returned (.tuple #[.slice none 0 0, .slice none 0 0]) ∧ w = w' := by
  go_enter_defers Try.func38, Try.ntmps38
  go_wp2_with fail
  refine (missing_nil _).mono ?_
  rintro e w' ⟨rfl, rfl⟩
  go_wp2_with fail
  exact ⟨_, results_tmp2 rfl _ _ _, rfl, rfl⟩
theorem live_nil : Calls Try.prog 15 #[.pointer none] w fun e w' => e = .returned (.slice none 0 0) ∧ w = w' := by
  go_enter Try.func15, Try.ntmps15
  go_wp2_with fail
  refine picture_nil.mono ?_
  rintro e w' ⟨rfl, rfl⟩
  go_wp2_with fail
  go_ret
  exact ⟨rfl, rfl⟩

set_option maxRecDepth 100000 in
theorem walk (slots width : Int) (v : Value) (w : World) :
    Calls Try.prog 4 #[.agg #[.int .i64 slots, .int .i64 width, v]] w fun e w' => e = .returned (.bool true) ∧ Below w.heap.size w w' := by
  by_cases hs : 1 ≤ slots ∧ slots ≤ 4096 ∧ 1 ≤ width ∧ width ≤ 16
  · obtain ⟨a, rfl⟩ : ∃ a : Nat, slots = a := ⟨slots.toNat, by omega⟩
    obtain ⟨b, rfl⟩ : ∃ b : Nat, width = b := ⟨width.toNat, by omega⟩
    obtain ⟨h1, h2, h3, h4⟩ := hs
    go_enter Try.func4, Try.ntmps4
    go_wp2_with fail
    refine (begin_ok a b (by omega) (by omega) (by omega) (by omega)).mono ?_
    rintro e w1 ⟨L, wm, v1, v2, rfl, hL, hA, km, hM, hlt⟩
    have HL := Lib.hid hL; clear hL
    have HA := Lib.hid hA; clear hA
    have HM := Lib.hid hM; clear hM
    have HT := Lib.hid hlt; clear hlt
    go_wp2_with fail
    refine (As.shape HA.out).mono ?_
    rintro e w2 ⟨rfl, k2⟩
    have HM2 := Lib.hid (HM.out.later k2)
    have HA2 := Lib.hid (At.of0 HA.out k2)
    go_wp2_with fail
    refine (Ref.shape HM2.out (by omega)).mono ?_
    rintro e w3 ⟨rfl, k3⟩
    have HA3 := Lib.hid (At.of0 HA2.out k3)
    go_wp2_with fail
    refine (live_any HA3.out).mono ?_
    rintro e w4 ⟨vl, rfl, ho, _, k4⟩
    rw [live_fresh] at ho
    obtain ⟨ax, cx, rfl⟩ := Ref.owns_shape ho
    go_wp2_with fail
    go_ret
    exact ⟨rfl, (Keep.new (S := L.blocks) (((Keep.refl [] w).alloc _).trans (((km.trans HM.out.keep).trans k2).trans k3)) k4 (fun x hx => by have := HL.out x hx; simp at this; omega)).below (Nat.le_refl _) (by simp)⟩
  · have HS := Lib.hid hs; clear hs
    go_enter Try.func4, Try.ntmps4
    go_wp2_with fail
    refine (begin_bad slots width HS.out).mono ?_
    rintro e w' ⟨rfl, rfl⟩
    go_wp2_with fail
    refine shape_nil.mono ?_
    rintro e w' ⟨rfl, rfl⟩
    go_wp2_with fail
    refine ref_shape_nil.mono ?_
    rintro e w' ⟨rfl, rfl⟩
    go_wp2_with fail
    refine live_nil.mono ?_
    rintro e w' ⟨rfl, rfl⟩
    go_wp2_with fail
    go_ret
    exact ⟨rfl, ((Keep.refl [] w).alloc _).below (Nat.le_refl _) (by simp)⟩
end Go.Proofs.Ytmdboahjikngeaa.Shapes
