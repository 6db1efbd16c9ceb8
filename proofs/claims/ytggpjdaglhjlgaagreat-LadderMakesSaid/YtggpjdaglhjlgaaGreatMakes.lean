/- LadderMakes: when a ladder is made, the program's and the document's: the walks. -/
import Derived.Test.YtggpjdaglhjlgaaGreatMakeNils
import Derived.StillTailTactics
import Derived.Deep.RegionHeld3
namespace Go.Proofs.YtggpjdaglhjlgaaGreat.Mk
open Go.RowKit Go.Proofs.YtggpjdaglhjlgaaGreat.Mem Go.Proofs.YtggpjdaglhjlgaaGreat.Ar Go.Proofs.YtggpjdaglhjlgaaGreat.En
set_option linter.unusedVariables false
set_option maxRecDepth 100000
variable {w : World} {L : Bk} {A : Arena Ent}

theorem link_end (w : World) : Calls Tryz.prog 43 #[.int .i64 2147483647, .bool false] w fun e w' => e = .returned (.tuple #[.int .u64 4294967294, .int .i64 0]) ∧ w = w' := by
  go_enter Tryz.func43, Tryz.ntmps43
  go_wp2_with fail
  refine bodyPost_ret (results_tmp2 rfl _ _ _) rfl ?_
  exact ⟨rfl, rfl⟩
theorem pack_end (w : World) : Calls Tryz.prog 26 #[.int .i64 2147483647] w fun e w' => e = .returned (.int .u64 4294967294) ∧ w' = w := by
  go_enter Tryz.func26, Tryz.ntmps26
  go_wp2_with fail
  refine (link_end _).mono ?_
  rintro e w' ⟨rfl, rfl⟩
  go_wp2_with fail
  go_ret
  exact ⟨rfl, rfl⟩
theorem word_end (w : World) : Calls Tryz.prog 40 #[.int .i64 2147483647, .bool false] w fun e w' => e = .returned (.int .u64 4294967294) ∧ w' = w := by
  go_enter Tryz.func40, Tryz.ntmps40
  go_wp2_with fail
  go_ret
  exact ⟨rfl, rfl⟩

theorem lnew_nil (link levels : Int) (w : World) : Calls Tryz.prog 5 #[.pointer none, .int .i64 link, .int .i64 levels] w fun e w' => e = .returned (.tuple #[.pointer none, .int .i64 1]) ∧ w = w' := by
  go_enter Tryz.func5, Tryz.ntmps5
  go_wp2_with fail
  refine shape_nil.mono ?_
  rintro e w' ⟨rfl, rfl⟩
  go_wp2_with fail
  refine bodyPost_ret (results_tmp2 rfl _ _ _) rfl ?_
  exact ⟨rfl, rfl⟩
theorem rnew_nil (link levels : Int) (w : World) : Calls Tryz.prog 23 #[.pointer none, .int .i64 link, .int .i64 levels] w fun e w' => e = .returned (.tuple #[.pointer none, .int .i64 1]) ∧ w = w' := by
  go_enter Tryz.func23, Tryz.ntmps23
  go_wp2_with fail
  refine bodyPost_ret (results_tmp2 rfl _ _ _) rfl ?_
  exact ⟨rfl, rfl⟩

/-- which numbers make a ladder -/
def Fine (width : Nat) (link levels : Int) : Prop := 1 ≤ levels ∧ levels ≤ 4 ∧ 0 ≤ link ∧ link ≤ width - levels

theorem lnew_bad (h : En.At 0 w L A) (link levels : Int) (hl : -9223372036854775808 ≤ link ∧ link ≤ 9223372036854775807) (hb : ¬ Fine A.width link levels) :
    Calls Tryz.prog 5 #[.pointer (some ⟨L.b, 0, none⟩), .int .i64 link, .int .i64 levels] w fun e w' => e = .returned (.tuple #[.pointer none, .int .i64 2]) ∧ Keep [] w w' := by
  have hs := slots_pos h
  have hw1 := h.fits.w1
  have hw2 := h.fits.w2
  have HA := Lib.hid h; clear h
  unfold Fine at hb
  by_cases b1 : levels < 1
  · clear hb
    go_enter Tryz.func5, Tryz.ntmps5
    go_wp2_with fail
    refine (En.shape HA.out).mono ?_
    rintro e w' ⟨rfl, k⟩
    go_wp2_with fail
    refine bodyPost_ret (results_tmp2 rfl _ _ _) rfl ?_
    exact ⟨rfl, k⟩
  · by_cases b2 : 4 < levels
    · clear hb
      go_enter Tryz.func5, Tryz.ntmps5
      go_wp2_with fail
      refine (En.shape HA.out).mono ?_
      rintro e w' ⟨rfl, k⟩
      go_wp2_with fail
      refine bodyPost_ret (results_tmp2 rfl _ _ _) rfl ?_
      exact ⟨rfl, k⟩
    · by_cases b3 : link < 0
      · clear hb
        go_enter Tryz.func5, Tryz.ntmps5
        go_wp2_with fail
        refine (En.shape HA.out).mono ?_
        rintro e w' ⟨rfl, k⟩
        go_wp2_with fail
        refine bodyPost_ret (results_tmp2 rfl _ _ _) rfl ?_
        exact ⟨rfl, k⟩
      · have b4 : (A.width : Int) - levels < link := by omega
        clear hb
        go_enter Tryz.func5, Tryz.ntmps5
        go_wp2_with fail
        refine (En.shape HA.out).mono ?_
        rintro e w' ⟨rfl, k⟩
        go_wp2_with fail
        refine bodyPost_ret (results_tmp2 rfl _ _ _) rfl ?_
        exact ⟨rfl, k⟩

theorem lnew_ok (h : En.At 0 w L A) (link : Int) (levels : Nat) (hf : Fine A.width link levels) :
    Calls Tryz.prog 5 #[.pointer (some ⟨L.b, 0, none⟩), .int .i64 link, .int .i64 levels] w fun e w' => ∃ b, e = .returned (.tuple #[.pointer (some ⟨b, 0, none⟩), .int .i64 0]) ∧ Keep [] w w' := by
  have hs := slots_pos h
  have hw1 := h.fits.w1
  have hw2 := h.fits.w2
  have HA := Lib.hid h; clear h
  obtain ⟨f1, f2, f3, f4⟩ := hf
  go_enter Tryz.func5, Tryz.ntmps5
  go_wp2_with fail
  refine (En.shape HA.out).mono ?_
  rintro e w1 ⟨rfl, k⟩
  have K1 := Lib.hid k; clear k
  go_wp2_with fail
  obtain ⟨lb, hlb⟩ : ∃ lb, lb = w1.heap.size := ⟨_, rfl⟩
  have HLB := Lib.hid hlb
  rw [← hlb]
  go_loopw [11, 42] (fun _ i wr => ∃ (k : Nat) (z0 z1 z2 z3 : Int), k ≤ levels ∧ i = .int .i64 k ∧ wr.heap[lb]? = some (.cells #[.pointer (some ⟨L.b, 0, none⟩), .int .i64 link, .int .i64 levels, .int .u64 z0, .int .u64 z1, .int .u64 z2, .int .u64 z3, .int .i64 0] 78 (0, 0)) ∧ Keep [] w wr) (fun _ i _ => levels - (intOf i).toNat)
  case atStart => exact ⟨0, 0, 0, 0, 0, Nat.zero_le _, rfl, by rw [hlb]; exact alloc_new _ _, K1.out.alloc _⟩
  case round =>
    clear hlb
    obtain ⟨k, z0, z1, z2, z3, hk, rfl, hb, hK⟩ := hrel
    have HB := Lib.hid hb
    have KR := Lib.hid hK
    have HX : Hid (w.heap.size ≤ lb) := Lib.hid (by rw [HLB.out]; exact K1.out.size)
    clear hb hK
    by_cases hlt : k < levels
    · obtain ⟨w5, hw5⟩ : ∃ w5, w5 = wr.drew := ⟨_, rfl⟩
      have D5 : Hid (Keep [] w w5) := Lib.hid (by rw [hw5]; exact KR.out.drew)
      have B5 : Hid (w5.heap[lb]? = some (.cells #[.pointer (some ⟨L.b, 0, none⟩), .int .i64 link, .int .i64 levels, .int .u64 z0, .int .u64 z1, .int .u64 z2, .int .u64 z3, .int .i64 0] 78 (0, 0))) := Lib.hid (by rw [hw5]; exact HB.out)
      have hw5' : { heap := wr.heap, tape := wr.tape, drawn := wr.drawn + 1, os := wr.os, output := wr.output : World } = w5 := hw5.symm
      clear hw5
      have i1 : (k : Int) < 4 := by omega
      have i2 : k < 4 := by omega
      have i3 : (0 : Int) ≤ k := by omega
      go_wp2_with fail
      refine wp_region_still_tail 6 (by kernel_rfl) (by kernel_rfl) ?_
      rw [hw5']
      clear hw5'
      simp only [List.take_succ_cons, List.take_zero, List.drop_succ_cons, List.drop_zero]
      still_step
      still_step
      still_step
      still_step
      still_step
      still_call (pack_end _)
      refine wpStill_nil ?_
      have hv : ∃ u, w5.cell? ⟨lb, 3 + k, none⟩ = some u := by
        rw [cell_of B5.out]
        have : k = 0 ∨ k = 1 ∨ k = 2 ∨ k = 3 := by omega
        rcases this with rfl | rfl | rfl | rfl <;> exact ⟨_, rfl⟩
      obtain ⟨u, hu⟩ := hv
      have hfz := free_of B5.out (3 + k)
      go_wp2_with fail
      refine (Atom.store64 lb (3 + k) u 4294967294 _ hu hfz).mono ?_
      rintro e w6 ⟨rfl, hw6⟩
      have K6 : Hid (Keep [] w w6) := Lib.hid (by rw [hw6]; exact D5.out.set (.inr HX.out) _ _)
      have B6 : Hid (∃ z0 z1 z2 z3 : Int, w6.heap[lb]? = some (.cells #[.pointer (some ⟨L.b, 0, none⟩), .int .i64 link, .int .i64 levels, .int .u64 z0, .int .u64 z1, .int .u64 z2, .int .u64 z3, .int .i64 0] 78 (0, 0))) := Lib.hid (by
        rw [hw6, set_same B5.out]
        have : k = 0 ∨ k = 1 ∨ k = 2 ∨ k = 3 := by omega
        rcases this with rfl | rfl | rfl | rfl <;> exact ⟨_, _, _, _, rfl⟩)
      clear hw6 hu hfz
      go_wp2_with fail
      go_roundw
      case rel =>
        obtain ⟨y0, y1, y2, y3, hy⟩ := B6.out
        exact ⟨k + 1, y0, y1, y2, y3, hlt, by go_num, hy, K6.out⟩
      case measure => simp [intOf]; omega
    · go_wp2_with fail
      refine bodyPost_ret (results_tmp2 rfl _ _ _) rfl ?_
      exact ⟨lb, rfl, KR.out⟩
end Go.Proofs.YtggpjdaglhjlgaaGreat.Mk
