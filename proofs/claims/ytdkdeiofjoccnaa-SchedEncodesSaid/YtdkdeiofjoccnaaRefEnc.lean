/- strataref03.bytesOf and strataref03.Encode: the walks. Printed by refenc.py. -/
import Derived.Test.YtdkdeiofjoccnaaEncWalk
namespace Go.Proofs.Ytdkdeiofjoccnaa.Pick
open Go.RowKit Go.Proofs.Ytdkdeiofjoccnaa.Mem
set_option linter.unusedVariables false
set_option maxRecDepth 100000

/-- what bytesOf answers -/
def BOut (w : World) (xs : List Int) (e : Ending) (w' : World) : Prop := ∃ v, e = .returned v ∧ BRow w' w.heap.size v xs ∧ Keep [] w w'
theorem BOut.nil {w w' : World} {xs : List Int} (h : xs = []) (k : Keep [] w w') : BOut w xs (.returned (.slice none 0 0)) w' := by
  subst h
  exact ⟨_, rfl, World.ownsRow_nil _ _ _ _, k⟩
theorem BOut.one {w w2 : World} {x : Int} {xs : List Int} (h : xs = [x]) (k : Keep [] w w2) : BOut w xs (.returned (.slice (some ⟨w2.heap.size, 0, none⟩) 1 1)) (w2.alloc (.cells #[.int .u8 x] 5)) :=
  ⟨_, rfl, owns_mono (leaf1 h) k.size, k.alloc _⟩
theorem BOut.two {w w2 : World} {x y : Int} {xs : List Int} (h : xs = [x, y]) (k : Keep [] w w2) : BOut w xs (.returned (.slice (some ⟨w2.heap.size, 0, none⟩) 2 2)) (w2.alloc (.cells #[.int .u8 x, .int .u8 y] 5)) :=
  ⟨_, rfl, owns_mono (leaf2 h) k.size, k.alloc _⟩
set_option maxHeartbeats 2000000 in
theorem bytes1 (who n : Int) (last : Bool) (w : World) : Calls Try.prog 53 #[.agg #[.int .i64 1, .int .i64 who, .int .i64 n], .bool last] w fun e w' => BOut w (bytesOf ⟨1, who, n⟩ last) e w' := by
  go_enter Try.func53, Try.ntmps53
  go_upto_region 1 with fail
  obtain ⟨B, hB⟩ : ∃ B, B = w.heap.size := ⟨_, rfl⟩
  obtain ⟨w1, hw1⟩ : ∃ w1, w1 = w.alloc (.cells #[.int .i64 1, .int .i64 who, .int .i64 n] 29) := ⟨_, rfl⟩
  have e0 : w1.cell? ⟨B, 0, none⟩ = some (.int .i64 1) := by rw [hw1, hB]; exact (cell_of (alloc_new _ _) 0).trans rfl
  have e1 : w1.cell? ⟨B, 1, none⟩ = some (.int .i64 who) := by rw [hw1, hB]; exact (cell_of (alloc_new _ _) 1).trans rfl
  have e2 : w1.cell? ⟨B, 2, none⟩ = some (.int .i64 n) := by rw [hw1, hB]; exact (cell_of (alloc_new _ _) 2).trans rfl
  have K1 : Hid (Keep [] w w1) := Lib.hid (by rw [hw1]; exact (Keep.refl _ _).alloc _)
  rw [← hw1, ← hB]
  clear hw1 hB
  by_cases h1 : 0 ≤ who
  · by_cases h2 : who ≤ 31
    · by_cases h3 : n = 1
      · subst h3
        go_wp2_with fail
        all_goals go_ret
        all_goals exact BOut.one (by first | (simp [bytesOf]; done) | (simp [bytesOf]; omega)) K1.out
      · have bh3 : (n == 1) = false := beq_eq_false_iff_ne.2 h3
        have h3 := Lib.hid h3
        go_wp2_with fail
        all_goals go_ret
        all_goals exact BOut.nil (by have h3 := h3.out; first | (simp [bytesOf]; done) | (simp [bytesOf, *]; done) | (simp [bytesOf]; omega)) K1.out
    · go_wp2_with fail
      all_goals go_ret
      all_goals exact BOut.nil (by first | (simp [bytesOf]; done) | (simp [bytesOf, *]; done) | (simp [bytesOf]; omega)) K1.out
  · go_wp2_with fail
    all_goals go_ret
    all_goals exact BOut.nil (by first | (simp [bytesOf]; done) | (simp [bytesOf, *]; done) | (simp [bytesOf]; omega)) K1.out

set_option maxHeartbeats 2000000 in
theorem bytes2 (who n : Int) (last : Bool) (w : World) : Calls Try.prog 53 #[.agg #[.int .i64 2, .int .i64 who, .int .i64 n], .bool last] w fun e w' => BOut w (bytesOf ⟨2, who, n⟩ last) e w' := by
  go_enter Try.func53, Try.ntmps53
  go_upto_region 1 with fail
  obtain ⟨B, hB⟩ : ∃ B, B = w.heap.size := ⟨_, rfl⟩
  obtain ⟨w1, hw1⟩ : ∃ w1, w1 = w.alloc (.cells #[.int .i64 2, .int .i64 who, .int .i64 n] 29) := ⟨_, rfl⟩
  have e0 : w1.cell? ⟨B, 0, none⟩ = some (.int .i64 2) := by rw [hw1, hB]; exact (cell_of (alloc_new _ _) 0).trans rfl
  have e1 : w1.cell? ⟨B, 1, none⟩ = some (.int .i64 who) := by rw [hw1, hB]; exact (cell_of (alloc_new _ _) 1).trans rfl
  have e2 : w1.cell? ⟨B, 2, none⟩ = some (.int .i64 n) := by rw [hw1, hB]; exact (cell_of (alloc_new _ _) 2).trans rfl
  have K1 : Hid (Keep [] w w1) := Lib.hid (by rw [hw1]; exact (Keep.refl _ _).alloc _)
  rw [← hw1, ← hB]
  clear hw1 hB
  by_cases h1 : 0 ≤ who
  · by_cases h2 : who ≤ 31
    · by_cases h3 : 1 ≤ n
      · by_cases h4 : n ≤ 256
        · go_wp2_with fail
          all_goals go_ret
          all_goals exact BOut.two (by first | (simp [bytesOf]; done) | (simp [bytesOf]; omega)) K1.out
        · go_wp2_with fail
          all_goals go_ret
          all_goals exact BOut.nil (by first | (simp [bytesOf]; done) | (simp [bytesOf, *]; done) | (simp [bytesOf]; omega)) K1.out
      · go_wp2_with fail
        all_goals go_ret
        all_goals exact BOut.nil (by first | (simp [bytesOf]; done) | (simp [bytesOf, *]; done) | (simp [bytesOf]; omega)) K1.out
    · go_wp2_with fail
      all_goals go_ret
      all_goals exact BOut.nil (by first | (simp [bytesOf]; done) | (simp [bytesOf, *]; done) | (simp [bytesOf]; omega)) K1.out
  · go_wp2_with fail
    all_goals go_ret
    all_goals exact BOut.nil (by first | (simp [bytesOf]; done) | (simp [bytesOf, *]; done) | (simp [bytesOf]; omega)) K1.out

set_option maxHeartbeats 2000000 in
theorem bytes3 (who n : Int) (last : Bool) (w : World) : Calls Try.prog 53 #[.agg #[.int .i64 3, .int .i64 who, .int .i64 n], .bool last] w fun e w' => BOut w (bytesOf ⟨3, who, n⟩ last) e w' := by
  go_enter Try.func53, Try.ntmps53
  go_upto_region 1 with fail
  obtain ⟨B, hB⟩ : ∃ B, B = w.heap.size := ⟨_, rfl⟩
  obtain ⟨w1, hw1⟩ : ∃ w1, w1 = w.alloc (.cells #[.int .i64 3, .int .i64 who, .int .i64 n] 29) := ⟨_, rfl⟩
  have e0 : w1.cell? ⟨B, 0, none⟩ = some (.int .i64 3) := by rw [hw1, hB]; exact (cell_of (alloc_new _ _) 0).trans rfl
  have e1 : w1.cell? ⟨B, 1, none⟩ = some (.int .i64 who) := by rw [hw1, hB]; exact (cell_of (alloc_new _ _) 1).trans rfl
  have e2 : w1.cell? ⟨B, 2, none⟩ = some (.int .i64 n) := by rw [hw1, hB]; exact (cell_of (alloc_new _ _) 2).trans rfl
  have K1 : Hid (Keep [] w w1) := Lib.hid (by rw [hw1]; exact (Keep.refl _ _).alloc _)
  rw [← hw1, ← hB]
  clear hw1 hB
  by_cases h1 : 0 ≤ who
  · by_cases h2 : who ≤ 31
    · by_cases h3 : n = 1
      · subst h3
        go_wp2_with fail
        all_goals go_ret
        all_goals exact BOut.one (by first | (simp [bytesOf]; done) | (simp [bytesOf]; omega)) K1.out
      · have bh3 : (n == 1) = false := beq_eq_false_iff_ne.2 h3
        have h3 := Lib.hid h3
        go_wp2_with fail
        all_goals go_ret
        all_goals exact BOut.nil (by have h3 := h3.out; first | (simp [bytesOf]; done) | (simp [bytesOf, *]; done) | (simp [bytesOf]; omega)) K1.out
    · go_wp2_with fail
      all_goals go_ret
      all_goals exact BOut.nil (by first | (simp [bytesOf]; done) | (simp [bytesOf, *]; done) | (simp [bytesOf]; omega)) K1.out
  · go_wp2_with fail
    all_goals go_ret
    all_goals exact BOut.nil (by first | (simp [bytesOf]; done) | (simp [bytesOf, *]; done) | (simp [bytesOf]; omega)) K1.out

set_option maxHeartbeats 2000000 in
theorem bytes4 (who n : Int) (last : Bool) (w : World) : Calls Try.prog 53 #[.agg #[.int .i64 4, .int .i64 who, .int .i64 n], .bool last] w fun e w' => BOut w (bytesOf ⟨4, who, n⟩ last) e w' := by
  go_enter Try.func53, Try.ntmps53
  go_upto_region 1 with fail
  obtain ⟨B, hB⟩ : ∃ B, B = w.heap.size := ⟨_, rfl⟩
  obtain ⟨w1, hw1⟩ : ∃ w1, w1 = w.alloc (.cells #[.int .i64 4, .int .i64 who, .int .i64 n] 29) := ⟨_, rfl⟩
  have e0 : w1.cell? ⟨B, 0, none⟩ = some (.int .i64 4) := by rw [hw1, hB]; exact (cell_of (alloc_new _ _) 0).trans rfl
  have e1 : w1.cell? ⟨B, 1, none⟩ = some (.int .i64 who) := by rw [hw1, hB]; exact (cell_of (alloc_new _ _) 1).trans rfl
  have e2 : w1.cell? ⟨B, 2, none⟩ = some (.int .i64 n) := by rw [hw1, hB]; exact (cell_of (alloc_new _ _) 2).trans rfl
  have K1 : Hid (Keep [] w w1) := Lib.hid (by rw [hw1]; exact (Keep.refl _ _).alloc _)
  rw [← hw1, ← hB]
  clear hw1 hB
  by_cases h1 : who = 0
  · subst h1
    by_cases h2 : 1 ≤ n
    · by_cases h3 : n ≤ 32
      · go_wp2_with fail
        all_goals go_ret
        all_goals exact BOut.one (by first | (simp [bytesOf]; done) | (simp [bytesOf]; omega)) K1.out
      · go_wp2_with fail
        all_goals go_ret
        all_goals exact BOut.nil (by first | (simp [bytesOf]; done) | (simp [bytesOf, *]; done) | (simp [bytesOf]; omega)) K1.out
    · go_wp2_with fail
      all_goals go_ret
      all_goals exact BOut.nil (by first | (simp [bytesOf]; done) | (simp [bytesOf, *]; done) | (simp [bytesOf]; omega)) K1.out
  · have bh1 : (who == 0) = false := beq_eq_false_iff_ne.2 h1
    have h1 := Lib.hid h1
    go_wp2_with fail
    all_goals go_ret
    all_goals exact BOut.nil (by have h1 := h1.out; first | (simp [bytesOf]; done) | (simp [bytesOf, *]; done) | (simp [bytesOf]; omega)) K1.out

set_option maxHeartbeats 2000000 in
theorem bytes5 (who n : Int) (last : Bool) (w : World) : Calls Try.prog 53 #[.agg #[.int .i64 5, .int .i64 who, .int .i64 n], .bool last] w fun e w' => BOut w (bytesOf ⟨5, who, n⟩ last) e w' := by
  go_enter Try.func53, Try.ntmps53
  go_upto_region 1 with fail
  obtain ⟨B, hB⟩ : ∃ B, B = w.heap.size := ⟨_, rfl⟩
  obtain ⟨w1, hw1⟩ : ∃ w1, w1 = w.alloc (.cells #[.int .i64 5, .int .i64 who, .int .i64 n] 29) := ⟨_, rfl⟩
  have e0 : w1.cell? ⟨B, 0, none⟩ = some (.int .i64 5) := by rw [hw1, hB]; exact (cell_of (alloc_new _ _) 0).trans rfl
  have e1 : w1.cell? ⟨B, 1, none⟩ = some (.int .i64 who) := by rw [hw1, hB]; exact (cell_of (alloc_new _ _) 1).trans rfl
  have e2 : w1.cell? ⟨B, 2, none⟩ = some (.int .i64 n) := by rw [hw1, hB]; exact (cell_of (alloc_new _ _) 2).trans rfl
  have K1 : Hid (Keep [] w w1) := Lib.hid (by rw [hw1]; exact (Keep.refl _ _).alloc _)
  rw [← hw1, ← hB]
  clear hw1 hB
  by_cases h1 : 0 ≤ who
  · by_cases h2 : who ≤ 31
    · by_cases h3 : n = 1
      · subst h3
        go_wp2_with fail
        all_goals go_ret
        all_goals exact BOut.one (by first | (simp [bytesOf]; done) | (simp [bytesOf]; omega)) K1.out
      · have bh3 : (n == 1) = false := beq_eq_false_iff_ne.2 h3
        have h3 := Lib.hid h3
        go_wp2_with fail
        all_goals go_ret
        all_goals exact BOut.nil (by have h3 := h3.out; first | (simp [bytesOf]; done) | (simp [bytesOf, *]; done) | (simp [bytesOf]; omega)) K1.out
    · go_wp2_with fail
      all_goals go_ret
      all_goals exact BOut.nil (by first | (simp [bytesOf]; done) | (simp [bytesOf, *]; done) | (simp [bytesOf]; omega)) K1.out
  · go_wp2_with fail
    all_goals go_ret
    all_goals exact BOut.nil (by first | (simp [bytesOf]; done) | (simp [bytesOf, *]; done) | (simp [bytesOf]; omega)) K1.out

set_option maxHeartbeats 2000000 in
theorem bytes6 (who n : Int) (last : Bool) (w : World) : Calls Try.prog 53 #[.agg #[.int .i64 6, .int .i64 who, .int .i64 n], .bool last] w fun e w' => BOut w (bytesOf ⟨6, who, n⟩ last) e w' := by
  go_enter Try.func53, Try.ntmps53
  go_upto_region 1 with fail
  obtain ⟨B, hB⟩ : ∃ B, B = w.heap.size := ⟨_, rfl⟩
  obtain ⟨w1, hw1⟩ : ∃ w1, w1 = w.alloc (.cells #[.int .i64 6, .int .i64 who, .int .i64 n] 29) := ⟨_, rfl⟩
  have e0 : w1.cell? ⟨B, 0, none⟩ = some (.int .i64 6) := by rw [hw1, hB]; exact (cell_of (alloc_new _ _) 0).trans rfl
  have e1 : w1.cell? ⟨B, 1, none⟩ = some (.int .i64 who) := by rw [hw1, hB]; exact (cell_of (alloc_new _ _) 1).trans rfl
  have e2 : w1.cell? ⟨B, 2, none⟩ = some (.int .i64 n) := by rw [hw1, hB]; exact (cell_of (alloc_new _ _) 2).trans rfl
  have K1 : Hid (Keep [] w w1) := Lib.hid (by rw [hw1]; exact (Keep.refl _ _).alloc _)
  rw [← hw1, ← hB]
  clear hw1 hB
  by_cases h1 : who = 0
  · subst h1
    by_cases h2 : n = 0
    · subst h2
      go_wp2_with fail
      all_goals go_ret
      all_goals exact BOut.one (by first | (simp [bytesOf]; done) | (simp [bytesOf]; omega)) K1.out
    · have bh2 : (n == 0) = false := beq_eq_false_iff_ne.2 h2
      have h2 := Lib.hid h2
      go_wp2_with fail
      all_goals go_ret
      all_goals exact BOut.nil (by have h2 := h2.out; first | (simp [bytesOf]; done) | (simp [bytesOf, *]; done) | (simp [bytesOf]; omega)) K1.out
  · have bh1 : (who == 0) = false := beq_eq_false_iff_ne.2 h1
    have h1 := Lib.hid h1
    go_wp2_with fail
    all_goals go_ret
    all_goals exact BOut.nil (by have h1 := h1.out; first | (simp [bytesOf]; done) | (simp [bytesOf, *]; done) | (simp [bytesOf]; omega)) K1.out

theorem bytes00 (n : Int) (last : Bool) : bytesOf ⟨0, 0, n⟩ last = if 161 ≤ n ∧ n ≤ 255 then [n] else if 32 ≤ n ∧ n ≤ 63 ∧ last = true then [n] else [] := by simp [bytesOf]
theorem bytes00_no {n : Int} {last : Bool} (h : ¬ (161 ≤ n ∧ n ≤ 255)) (g : ¬ (32 ≤ n ∧ n ≤ 63)) : bytesOf ⟨0, 0, n⟩ last = [] := by
  rw [bytes00, if_neg h, if_neg (fun x => g ⟨x.1, x.2.1⟩)]

set_option maxHeartbeats 2000000 in
theorem bytes0 (who n : Int) (last : Bool) (w : World) : Calls Try.prog 53 #[.agg #[.int .i64 0, .int .i64 who, .int .i64 n], .bool last] w fun e w' => BOut w (bytesOf ⟨0, who, n⟩ last) e w' := by
  go_enter Try.func53, Try.ntmps53
  go_upto_region 1 with fail
  obtain ⟨B, hB⟩ : ∃ B, B = w.heap.size := ⟨_, rfl⟩
  obtain ⟨w1, hw1⟩ : ∃ w1, w1 = w.alloc (.cells #[.int .i64 0, .int .i64 who, .int .i64 n] 29) := ⟨_, rfl⟩
  have e0 : w1.cell? ⟨B, 0, none⟩ = some (.int .i64 0) := by rw [hw1, hB]; exact (cell_of (alloc_new _ _) 0).trans rfl
  have e1 : w1.cell? ⟨B, 1, none⟩ = some (.int .i64 who) := by rw [hw1, hB]; exact (cell_of (alloc_new _ _) 1).trans rfl
  have e2 : w1.cell? ⟨B, 2, none⟩ = some (.int .i64 n) := by rw [hw1, hB]; exact (cell_of (alloc_new _ _) 2).trans rfl
  have K1 : Hid (Keep [] w w1) := Lib.hid (by rw [hw1]; exact (Keep.refl _ _).alloc _)
  rw [← hw1, ← hB]
  clear hw1 hB
  by_cases h1 : who = 0
  · subst h1
    by_cases a1 : 32 ≤ n
    · by_cases a2 : n ≤ 63
      · cases last
        · go_wp2_with fail
          all_goals go_ret
          all_goals exact BOut.nil (by first | (simp [bytesOf]; done) | (simp [bytesOf]; omega)) K1.out
        · go_wp2_with fail
          all_goals go_ret
          all_goals exact BOut.one (by first | (simp [bytesOf]; done) | (simp [bytesOf]; omega)) K1.out
      · by_cases a3 : 161 ≤ n
        · by_cases a4 : n ≤ 255
          · go_wp2_with fail
            all_goals go_ret
            all_goals exact BOut.one (by first | (simp [bytesOf]; done) | (simp [bytesOf]; omega)) K1.out
          · go_wp2_with fail
            all_goals go_ret
            all_goals exact BOut.nil (bytes00_no (by omega) (by omega)) K1.out
        · go_wp2_with fail
          all_goals go_ret
          all_goals exact BOut.nil (bytes00_no (by omega) (by omega)) K1.out
    · go_wp2_with fail
      all_goals go_ret
      all_goals exact BOut.nil (bytes00_no (by omega) (by omega)) K1.out
  · have bh1 : (who == 0) = false := beq_eq_false_iff_ne.2 h1
    have hn := Lib.hid (show bytesOf ⟨0, who, n⟩ last = [] from by simp [bytesOf, h1])
    clear h1
    go_wp2_with fail
    all_goals go_ret
    all_goals exact BOut.nil hn.out K1.out

set_option maxHeartbeats 2000000 in
theorem bytesNo (k who n : Int) (last : Bool) (w : World) (h0 : ¬ k = 0) (h1 : ¬ k = 1) (h2 : ¬ k = 2) (h3 : ¬ k = 3) (h4 : ¬ k = 4) (h5 : ¬ k = 5) (h6 : ¬ k = 6) : Calls Try.prog 53 #[.agg #[.int .i64 k, .int .i64 who, .int .i64 n], .bool last] w fun e w' => BOut w (bytesOf ⟨k, who, n⟩ last) e w' := by
  have hn := Lib.hid (show bytesOf ⟨k, who, n⟩ last = [] from by simp [bytesOf, h0, h1, h2, h3, h4, h5, h6])
  have b0 : (k == 0) = false := beq_eq_false_iff_ne.2 h0
  have b1 : (k == 1) = false := beq_eq_false_iff_ne.2 h1
  have b2 : (k == 2) = false := beq_eq_false_iff_ne.2 h2
  have b3 : (k == 3) = false := beq_eq_false_iff_ne.2 h3
  have b4 : (k == 4) = false := beq_eq_false_iff_ne.2 h4
  have b5 : (k == 5) = false := beq_eq_false_iff_ne.2 h5
  have b6 : (k == 6) = false := beq_eq_false_iff_ne.2 h6
  clear h0 h1 h2 h3 h4 h5 h6
  go_enter Try.func53, Try.ntmps53
  go_upto_region 1 with fail
  obtain ⟨B, hB⟩ : ∃ B, B = w.heap.size := ⟨_, rfl⟩
  obtain ⟨w1, hw1⟩ : ∃ w1, w1 = w.alloc (.cells #[.int .i64 k, .int .i64 who, .int .i64 n] 29) := ⟨_, rfl⟩
  have e0 : w1.cell? ⟨B, 0, none⟩ = some (.int .i64 k) := by rw [hw1, hB]; exact (cell_of (alloc_new _ _) 0).trans rfl
  have e1 : w1.cell? ⟨B, 1, none⟩ = some (.int .i64 who) := by rw [hw1, hB]; exact (cell_of (alloc_new _ _) 1).trans rfl
  have e2 : w1.cell? ⟨B, 2, none⟩ = some (.int .i64 n) := by rw [hw1, hB]; exact (cell_of (alloc_new _ _) 2).trans rfl
  have K1 : Hid (Keep [] w w1) := Lib.hid (by rw [hw1]; exact (Keep.refl _ _).alloc _)
  rw [← hw1, ← hB]
  clear hw1 hB
  go_wp2_with fail
  all_goals go_ret
  all_goals exact BOut.nil hn.out K1.out

theorem bytesAny (k who n : Int) (last : Bool) (w : World) : Calls Try.prog 53 #[.agg #[.int .i64 k, .int .i64 who, .int .i64 n], .bool last] w fun e w' => BOut w (bytesOf ⟨k, who, n⟩ last) e w' := by
  by_cases h0 : k = 0
  · subst h0; exact bytes0 who n last w
  by_cases h1 : k = 1
  · subst h1; exact bytes1 who n last w
  by_cases h2 : k = 2
  · subst h2; exact bytes2 who n last w
  by_cases h3 : k = 3
  · subst h3; exact bytes3 who n last w
  by_cases h4 : k = 4
  · subst h4; exact bytes4 who n last w
  by_cases h5 : k = 5
  · subst h5; exact bytes5 who n last w
  by_cases h6 : k = 6
  · subst h6; exact bytes6 who n last w
  exact bytesNo k who n last w h0 h1 h2 h3 h4 h5 h6

set_option maxHeartbeats 4000000 in
theorem refEncode {a : Option Addr} {cap : Nat} {l : List Pk} {w : World} (h : Has w a l) (hl : l.length ≤ 5864062014640) :
    Calls Try.prog 19 #[.slice a l.length cap] w fun e w' => e = .returned (answer l) ∧ Keep [] w w' := by
  obtain ⟨i0, hi, hz0, hz1, hz2⟩ := info_parts infoU8
  have HI := Lib.hid hi; clear hi
  have HZ := Lib.hid (And.intro hz0 (And.intro hz1 hz2)); clear hz0 hz1 hz2
  have H := Lib.hid h; clear h
  go_enter Try.func19, Try.ntmps19
  go_wp2_with fail
  go_loopw [4, 5] (fun v4 x wr => ∃ (i : Nat) (xs : List Int), i ≤ l.length ∧ x = .int .i64 i ∧ enc l = (enc (l.drop i)).map (xs ++ ·) ∧ xs.length ≤ 2 * i ∧ BRow wr w.heap.size v4 xs ∧ Keep [] w wr) (fun _ x _ => l.length - (intOf x).toNat)
  case atStart => exact ⟨0, [], Nat.zero_le _, rfl, by simp, by simp, World.ownsRow_nil _ _ _ _, Keep.refl _ _⟩
  case round =>
    obtain ⟨i, xs, hi, rfl, he, hx, hrow, hk⟩ := hrel
    have HE := Lib.hid he; clear he
    have HX := Lib.hid hrow; clear hrow
    have HK := Lib.hid hk; clear hk
    obtain ⟨wo, rfl⟩ : ∃ wo : World, wo = wr := ⟨_, rfl⟩
    by_cases hlt : i < l.length
    · obtain ⟨b, o, rfl, c0, c1, c2⟩ := (H.out.keep HK.out).cell i hlt
      obtain ⟨p, hp⟩ : ∃ p, p = l[i] := ⟨_, rfl⟩
      obtain ⟨r, hr⟩ : ∃ r, r = l.drop (i + 1) := ⟨_, rfl⟩
      have hd : Hid (l.drop i = p :: r) := Lib.hid (by rw [hp, hr]; exact List.drop_eq_getElem_cons hlt)
      have hlast : ((i : Int) == (l.length : Int) - 1) = r.isEmpty := by
        rw [hr]
        by_cases hh : l.length ≤ i + 1
        · rw [List.drop_eq_nil_of_le hh, beq_iff_eq.2 (by omega)]; rfl
        · rw [beq_eq_false_iff_ne.2 (by omega)]
          cases h3 : l.drop (i + 1) with
          | nil => rw [List.drop_eq_nil_iff] at h3; omega
          | cons _ _ => rfl
      rw [← hp] at c0 c1 c2
      clear hp hr
      obtain ⟨k, who, n⟩ := p
      go_wp2_with fail
      refine (bytesAny k who n r.isEmpty _).mono ?_
      rintro e w2 ⟨v, rfl, q1, k2⟩
      have Q := Lib.hid q1
      have K2 := Lib.hid (HK.out.trans k2)
      have X2 : Hid (BRow w2 w.heap.size u4 xs) := Lib.hid (owns_keep HX.out k2 (by simp))
      clear q1 k2 HX HK
      by_cases hb : bytesOf ⟨k, who, n⟩ r.isEmpty = []
      · have Q2 := Q.out
        rw [hb] at Q2
        obtain ⟨a8, cap8, hv8, -⟩ := BRow.shape Q2
        subst hv8
        have HB := Lib.hid hb
        clear Q2 Q hb
        try simp only [List.length_nil]
        go_wp2_with fail
        refine bodyPost_ret (results_tmp2 rfl _ _ _) rfl ?_
        exact ⟨by rw [answer_no HE.out hd.out HB.out]; rfl, K2.out⟩
      · have HB := Lib.hid hb
        obtain ⟨ts, hts⟩ : ∃ ts, ts = bytesOf ⟨k, who, n⟩ r.isEmpty := ⟨_, rfl⟩
        have hlen : 1 ≤ ts.length := by
          rw [hts]
          cases hc : bytesOf ⟨k, who, n⟩ r.isEmpty with
          | nil => exact absurd hc hb
          | cons _ _ => simp
        have f0 : ts.length ≤ 2 := by rw [hts, ← (try_yes _ _ hb).1]; exact try_length _
        clear hb
        have Q2 : BRow w2 wo.heap.size v ts := by rw [hts]; exact Q.out
        have HTS := Lib.hid hts
        clear hts Q
        obtain ⟨g7, cap7, hv7, hnews⟩ := BRow.news Q2 hlen
        have NEWS := Lib.hid hnews
        clear Q2 hnews
        subst hv7
        have f1 := Lib.hid (one_nums ts)
        have f2 := Lib.hid (show xs.length + ts.length ≤ maxLen by unfold maxLen; omega)
        have f3 := Lib.hid (show (xs.length + ts.length) * 1 ≤ 140737488355328 by omega)
        have f4 := Lib.hid K2.out.size
        have f5 := Lib.hid (show (nums ts).length = ts.length * 1 by simp [nums])
        have hb0 : ((ts.length : Int) == 0) = false := beq_eq_false_iff_ne.2 (by omega)
        go_wp2_with (at_builtin; refine wpList_append_own_at _ rfl _ _ 103 rfl w.heap.size 5 i0 (.int .u8 0) 1 1 Try.underlying103 HI.out HZ.out.1 HZ.out.2.1 HZ.out.2.2 rfl (by decide) _ _ _ rfl X2.out ⟨g7, 0, none⟩ ts.length cap7 (nums ts) rfl f5.out NEWS.out f1.out f2.out f3.out f4.out ?_; intro v' w6 y1 y2 _ _; have A1 := Lib.hid y1; have G1 := Lib.hid y2; clear y1 y2)
        go_roundw
        case rel =>
          refine ⟨i + 1, xs ++ ts, hlt, by go_num, ?_, by simp; omega, BRow.push A1.out, Keep.grown K2.out G1.out fun k hk => .inr (X2.out.lt k hk).1⟩
          rw [HTS.out]
          exact enc_yes HE.out hd.out HB.out
        case measure => simp [intOf]; omega
    · obtain rfl : i = l.length := by omega
      have hcv := conv_row HX.out
      go_wp2_with fail
      refine bodyPost_ret (results_tmp2 rfl _ _ _) rfl ?_
      refine ⟨?_, HK.out⟩
      have e : enc l = some xs := by rw [HE.out]; simp [enc]
      unfold answer
      rw [e]
      rfl
end Go.Proofs.Ytdkdeiofjoccnaa.Pick

