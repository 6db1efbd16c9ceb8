/- LadderMakes: the document's New: the walks. -/
import Derived.Test.YtggpjdaglhjlgaaGreatMakes
import Derived.Deep.RegionLaw
namespace Go.Proofs.YtggpjdaglhjlgaaGreat.Mk
open Go.RowKit Go.Proofs.YtggpjdaglhjlgaaGreat.Mem Go.Proofs.YtggpjdaglhjlgaaGreat.Ar Go.Proofs.YtggpjdaglhjlgaaGreat.En
set_option linter.unusedVariables false
set_option maxRecDepth 100000
variable {w0 w : World} {width slots : Nat} {v1 v2 : Value}

theorem rnew_bad (h : Ref.Making w0 w width slots v1 v2) (hk : slots ≤ 4096) (hw : 1 ≤ width ∧ width ≤ 16) (link levels : Int) (hb : ¬ Fine width link levels) :
    Calls Tryz.prog 23 #[.pointer (some ⟨w0.heap.size, 0, none⟩), .int .i64 link, .int .i64 levels] w fun e w' => e = .returned (.tuple #[.pointer none, .int .i64 2]) ∧ Keep [] w w' := by
  have HM := Lib.hid h; clear h
  unfold Fine at hb
  by_cases b1 : levels < 1
  · clear hb
    go_enter Tryz.func23, Tryz.ntmps23
    go_wp2_with fail
    refine (Ref.shape HM.out hk).mono ?_
    rintro e w' ⟨rfl, k⟩
    go_wp2_with fail
    refine bodyPost_ret (results_tmp2 rfl _ _ _) rfl ?_
    exact ⟨rfl, k⟩
  · by_cases b2 : 4 < levels
    · clear hb
      go_enter Tryz.func23, Tryz.ntmps23
      go_wp2_with fail
      refine (Ref.shape HM.out hk).mono ?_
      rintro e w' ⟨rfl, k⟩
      go_wp2_with fail
      refine bodyPost_ret (results_tmp2 rfl _ _ _) rfl ?_
      exact ⟨rfl, k⟩
    · by_cases b3 : link < 0
      · clear hb
        go_enter Tryz.func23, Tryz.ntmps23
        go_wp2_with fail
        refine (Ref.shape HM.out hk).mono ?_
        rintro e w' ⟨rfl, k⟩
        go_wp2_with fail
        refine bodyPost_ret (results_tmp2 rfl _ _ _) rfl ?_
        exact ⟨rfl, k⟩
      · by_cases b4 : (width : Int) < link
        · clear hb
          go_enter Tryz.func23, Tryz.ntmps23
          go_wp2_with fail
          refine (Ref.shape HM.out hk).mono ?_
          rintro e w' ⟨rfl, k⟩
          go_wp2_with fail
          refine bodyPost_ret (results_tmp2 rfl _ _ _) rfl ?_
          exact ⟨rfl, k⟩
        · have b5 : (width : Int) < link + levels := by omega
          clear hb
          go_enter Tryz.func23, Tryz.ntmps23
          go_wp2_with fail
          refine (Ref.shape HM.out hk).mono ?_
          rintro e w' ⟨rfl, k⟩
          go_wp2_with fail
          refine bodyPost_ret (results_tmp2 rfl _ _ _) rfl ?_
          exact ⟨rfl, k⟩

theorem infoU64 : (Tryz.prog.info? 71).map (fun i => (i.zero, i.size, i.bytes)) = some (some (.int .u64 0), 1, 8) := by kernel_rfl
theorem one_u64 (z : Int) : ∀ u ∈ [Value.int .u64 z], u.oneCell' = true := by simp [Value.oneCell']
def ends (k : Nat) : List Value := List.replicate k (.int .u64 4294967294)

theorem rnew_ok (h : Ref.Making w0 w width slots v1 v2) (hk : slots ≤ 4096) (hw : 1 ≤ width ∧ width ≤ 16) (link : Int) (levels : Nat) (hf : Fine width link levels) :
    Calls Tryz.prog 23 #[.pointer (some ⟨w0.heap.size, 0, none⟩), .int .i64 link, .int .i64 levels] w fun e w' => ∃ b, e = .returned (.tuple #[.pointer (some ⟨b, 0, none⟩), .int .i64 0]) ∧ Keep [] w w' := by
  obtain ⟨i0, hi, hz0, hz1, hz2⟩ := info_parts infoU64
  have HI := Lib.hid hi; clear hi
  have HZ := Lib.hid (And.intro hz0 (And.intro hz1 hz2)); clear hz0 hz1 hz2
  have HM := Lib.hid h; clear h
  obtain ⟨f1, f2, f3, f4⟩ := hf
  go_enter Tryz.func23, Tryz.ntmps23
  go_wp2_with fail
  refine (Ref.shape HM.out hk).mono ?_
  rintro e w1 ⟨rfl, k⟩
  have K1 := Lib.hid k; clear k
  go_wp2_with fail
  obtain ⟨lb, hlb⟩ : ∃ lb, lb = w1.heap.size := ⟨_, rfl⟩
  have HLB := Lib.hid hlb
  rw [← hlb]
  go_loopw [11] (fun i wr => ∃ (k : Nat) (v : Value), k ≤ levels ∧ i = .int .i64 k ∧ wr.heap[lb]? = some (.cells #[.pointer (some ⟨w0.heap.size, 0, none⟩), .int .i64 link, .int .i64 levels, v, .int .i64 0] 115 (0, 0)) ∧ wr.ownsRow (lb + 1) 71 1 v k (ends k) ∧ Keep [] w wr) (fun i _ => levels - (intOf i).toNat)
  case atStart => exact ⟨0, _, Nat.zero_le _, rfl, by rw [hlb]; exact alloc_new _ _, World.ownsRow_nil _ _ _ _, K1.out.alloc _⟩
  case round =>
    clear hlb
    obtain ⟨k, v, hk2, rfl, hb, ho, hK⟩ := hrel
    have HX : Hid (w.heap.size ≤ lb) := Lib.hid (by rw [HLB.out]; exact K1.out.size)
    by_cases hlt : k < levels
    · have HB := Lib.hid hb
      have HO := Lib.hid ho
      have KR := Lib.hid hK
      have c3 : wr.cell? ⟨lb, 3, none⟩ = some v := cell_of hb 3
      have z3 : wr.frozen? ⟨lb, 3, none⟩ = false := free_of hb 3
      have n3 := World.new_ne wr _ c3
      have za : ∀ o : Obj, (wr.alloc o).drew.frozen? ⟨lb, 3, none⟩ = false := fun o => free_of (show (wr.alloc o).drew.heap[lb]? = _ from alloc_some o hb) 3
      have zc : ∀ o : Obj, (wr.alloc o).drew.cell? ⟨lb, 3, none⟩ = some v := fun o => cell_of (show (wr.alloc o).drew.heap[lb]? = _ from alloc_some o hb) 3
      have hsz : Hid (lb < wr.heap.size) := Lib.hid (lt_of hb)
      have hvo : Hid (some lb ≠ v.ownBlock) := Lib.hid (fun e => by have := (ho.lt lb e.symm).1; omega)
      have d1 := Lib.hid (one_u64 4294967294)
      have d2 := Lib.hid (show k + 1 ≤ maxLen by unfold maxLen; omega)
      have d3 := Lib.hid (show (k + 1) * 8 ≤ 140737488355328 by omega)
      clear hb ho hK
      go_wp2_with fail
      go_region_law
        (first
          | (go_simp; go_at_call 40; refine (word_end _).mono ?_; rintro e w' ⟨rfl, rfl⟩)
          | (refine step_append_lies _ (by rfl) _ _ _ (by rfl) (lb + 1) 71 i0 _ 1 8 Tryz.underlying111 HI.out HZ.out.1 HZ.out.2.1 HZ.out.2.2 rfl (by decide) v k (ends k) (by rfl) ((HO.out.alloc _).drew) ⟨wr.heap.size, 0, none⟩ 1 1 [.int .u64 4294967294] (by rfl) (by rfl) (World.news_of_block (cs := #[.int .u64 4294967294]) (fr := (0, 0)) (alloc_new wr _)) d1.out (by decide) d2.out d3.out (by have := hsz.out; simp; omega) _ rfl ?_; intro g cap w7 hown7 hgrow7 hat7 hlt7; have HO7 := Lib.hid hown7; have G7 := Lib.hid hgrow7; have y1 : w7.cell? ⟨lb, 3, none⟩ = some v := (hgrow7.cell_far _ (by have := hsz.out; simp; omega) hvo.out).trans (zc _); have y2 : w7.frozen? ⟨lb, 3, none⟩ = false := (hgrow7.frozen_far _ (by have := hsz.out; simp; omega) hvo.out).trans (za _); clear hown7 hgrow7 hat7))
      all_goals
        go_wp2_with fail
        go_roundw
        case rel =>
          refine ⟨k + 1, .slice (some ⟨g, 0, none⟩) (k + 1) cap, hlt, by go_num, ?_, ?_, (Keep.grown (KR.out.alloc _).drew G7.out (fun b hb => by have := (HO.out.lt b hb).1; have := HX.out; omega)).set (.inr HX.out) 3 _⟩
          · have h7 := (G7.out.block lb (by have := hsz.out; simp; omega) hvo.out).trans (alloc_some _ HB.out)
            rw [set_same h7]
            rfl
          · have h7 := ownsRow_setCell_below HO7.out (a := ⟨lb, 3, none⟩) (Nat.lt_succ_self lb) (.slice (some ⟨g, 0, none⟩) (k + 1) cap)
            rw [show ends (k + 1) = ends k ++ [.int .u64 4294967294] from List.replicate_succ']
            exact h7
        case measure => simp [intOf]; omega
    · go_wp2_with fail
      refine bodyPost_ret (results_tmp2 rfl _ _ _) rfl ?_
      exact ⟨lb, rfl, hK⟩
end Go.Proofs.YtggpjdaglhjlgaaGreat.Mk
