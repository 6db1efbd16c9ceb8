/- The document's index: New. -/
import Derived.Test.YtgagiggljlikbaaGreatChS
import Derived.Test.YtgagiggljlikbaaGreatRcV
import Derived.Deep.RegionLaw
namespace Go.Proofs.YtgagiggljlikbaaGreat.Rc
open Go.RowKit Go.Proofs.YtgagiggljlikbaaGreat.Mem Go.Proofs.YtgagiggljlikbaaGreat.Ar Go.Proofs.YtgagiggljlikbaaGreat.En Go.Proofs.YtgagiggljlikbaaGreat.Ch
open Go.Proofs.YtgagiggljlikbaaGreat.Ra (owns_block RAt rBlocks)
set_option linter.unusedVariables false
set_option linter.unusedSimpArgs false
set_option maxRecDepth 100000
section
variable {w w' : World} {b sg sc : Nat} {qv : Value} {bs : List (Option Nat)} {A : Ars} {Q : List Nat}
theorem shapeR (h : RAt w b sg sc qv bs A Q) :
    Calls Tryz.prog 105 #[.pointer (some ⟨b, 0, none⟩)] w fun e w' => e = .returned (.tuple #[.int .i64 A.slots, .int .i64 A.width]) ∧ Keep [] w w' := by
  have c0 := h.c0
  have c1 := h.c1
  have hs := h.fits.s2
  have r1 : IntKind.i64.wrap ((A.slots : Int) + 1 - 1) = (A.slots : Int) := by rw [IntWalk.i64_in _ (by omega)]; omega
  clear h
  go_enter Tryz.func105, Tryz.ntmps105
  go_wp2_with fail
  go_quiet (fail)
  go_wp2_with fail
  go_ret2
  exact ⟨rfl, (Keep.refl _ _).drewN _⟩
theorem newR_nil (c k : Int) :
    Calls Tryz.prog 78 #[.pointer none, .int .i64 c, .int .i64 k] w fun r w' => r = .returned (.tuple #[.pointer none, .int .i64 1]) ∧ Keep [] w w' := by
  go_enter Tryz.func78, Tryz.ntmps78
  go_wp2
  refine bodyPost_ret (results_tmp2 rfl _ _ _) rfl ?_
  exact ⟨rfl, Keep.refl _ _⟩
theorem newR_bad (h : RAt w b sg sc qv bs A Q) (c k : Int) (he : errX A.width c k ≠ 0) :
    Calls Tryz.prog 78 #[.pointer (some ⟨b, 0, none⟩), .int .i64 c, .int .i64 k] w fun r w' => r = .returned (.tuple #[.pointer none, .int .i64 (errX A.width c k)]) ∧ Keep [] w w' := by
  have HA := Lib.hid h
  have hw := h.fits.w2
  clear h
  unfold errX at he ⊢
  by_cases h1 : c < 0
  · rw [if_pos (.inl h1)]
    clear he
    go_enter Tryz.func78, Tryz.ntmps78
    go_wp2_with fail
    refine (shapeR HA.out).mono ?_
    rintro e w1 ⟨rfl, k1⟩
    go_wp2_with fail
    go_ret2
    exact ⟨rfl, k1⟩
  · by_cases h2 : (A.width : Int) ≤ c
    · rw [if_pos (.inr h2)]
      clear he
      go_enter Tryz.func78, Tryz.ntmps78
      go_wp2_with fail
      refine (shapeR HA.out).mono ?_
      rintro e w1 ⟨rfl, k1⟩
      go_wp2_with fail
      go_ret2
      exact ⟨rfl, k1⟩
    · rw [if_neg (by omega)] at he ⊢
      by_cases h3 : k < 1
      · rw [if_pos (.inl h3)]
        clear he
        go_enter Tryz.func78, Tryz.ntmps78
        go_wp2_with fail
        refine (shapeR HA.out).mono ?_
        rintro e w1 ⟨rfl, k1⟩
        go_wp2_with fail
        go_ret2
        exact ⟨rfl, k1⟩
      · have h4 : 256 < k := by
          apply Decidable.byContradiction
          intro h4
          rw [if_neg (by omega)] at he
          exact he rfl
        rw [if_pos (.inr h4)]
        clear he
        go_enter Tryz.func78, Tryz.ntmps78
        go_wp2_with fail
        refine (shapeR HA.out).mono ?_
        rintro e w1 ⟨rfl, k1⟩
        go_wp2_with fail
        go_ret2
        exact ⟨rfl, k1⟩
set_option maxHeartbeats 2000000 in
theorem newR_ok (h : RAt w b sg sc qv bs A Q) (c k : Int) (he : errX A.width c k = 0) :
    Calls Tryz.prog 78 #[.pointer (some ⟨b, 0, none⟩), .int .i64 c, .int .i64 k] w fun r w' => ∃ xb hb hc, r = .returned (.tuple #[.pointer (some ⟨xb, 0, none⟩), .int .i64 0]) ∧ w.heap.size ≤ xb ∧ w.heap.size ≤ hb ∧ IdxR w' b xb hb hc (newX c k) ∧ Keep [] w w' := by
  have h1 : 0 ≤ c ∧ c < A.width ∧ 1 ≤ k ∧ k ≤ 256 := by
    unfold errX at he
    split at he
    · omega
    · split at he
      · omega
      · omega
  obtain ⟨h1, h2, h3, h4⟩ := h1
  obtain ⟨n, rfl⟩ : ∃ n : Nat, k = n := ⟨k.toNat, by omega⟩
  obtain ⟨i0, hi, hz0, hz1, hz2⟩ := info_parts infoW64
  have HI := Lib.hid hi; clear hi
  have HZ := Lib.hid (And.intro hz0 (And.intro hz1 hz2)); clear hz0 hz1 hz2
  have HA := Lib.hid h
  have hw := h.fits.w2
  clear h he
  go_enter Tryz.func78, Tryz.ntmps78
  go_wp2_with fail
  refine (shapeR HA.out).mono ?_
  rintro e w1 ⟨rfl, kk⟩
  have KK := Lib.hid kk
  clear kk
  go_wp2_with fail
  obtain ⟨lb, hlb⟩ : ∃ lb, lb = w1.heap.size := ⟨_, rfl⟩
  have HLB := Lib.hid hlb
  rw [← hlb]
  go_loopw [11] (fun i wr => ∃ (k : Nat) (v : Value), k ≤ n ∧ i = .int .i64 k ∧ wr.heap[lb]? = some (.cells #[.pointer (some ⟨b, 0, none⟩), .int .i64 c, v, .int .i64 0] 165 (0, 0)) ∧ wr.ownsRow (lb + 1) 83 1 v k ((heads0 k).map (.int .u64)) ∧ Keep [] w wr) (fun i _ => n - (intOf i).toNat)
  case atStart => exact ⟨0, _, Nat.zero_le _, rfl, by rw [hlb]; exact alloc_new _ _, World.ownsRow_nil _ _ _ _, KK.out.alloc _⟩
  case round =>
    clear hlb
    obtain ⟨k, v, hk2, rfl, hb, ho, hK⟩ := hrel
    have HX : Hid (w.heap.size ≤ lb) := Lib.hid (by rw [HLB.out]; exact KK.out.size)
    by_cases hlt : k < n
    · have HB := Lib.hid hb
      have HO := Lib.hid ho
      have KR := Lib.hid hK
      have c3 : wr.cell? ⟨lb, 2, none⟩ = some v := cell_of hb 2
      have z3 : wr.frozen? ⟨lb, 2, none⟩ = false := free_of hb 2
      have n3 := World.new_ne wr _ c3
      have za : ∀ o : Obj, (wr.alloc o).drew.frozen? ⟨lb, 2, none⟩ = false := fun o => free_of (show (wr.alloc o).drew.heap[lb]? = _ from alloc_some o hb) 2
      have zc : ∀ o : Obj, (wr.alloc o).drew.cell? ⟨lb, 2, none⟩ = some v := fun o => cell_of (show (wr.alloc o).drew.heap[lb]? = _ from alloc_some o hb) 2
      have hsz : Hid (lb < wr.heap.size) := Lib.hid (lt_of hb)
      have hvo : Hid (some lb ≠ v.ownBlock) := Lib.hid (fun e => by have := (ho.lt lb e.symm).1; omega)
      have d1 := Lib.hid (u64_one (lk (4097 + (k : Int))))
      have d2 := Lib.hid (show k + 1 ≤ maxLen by unfold maxLen; omega)
      have d3 := Lib.hid (show (k + 1) * 8 ≤ 140737488355328 by omega)
      have CW : Hid (∀ wx : World, Calls Tryz.prog 106 #[.int .i64 (4097 + (k : Int))] wx fun e w' => e = .returned (.int .u64 (lk (4097 + (k : Int)))) ∧ wx = w') := Lib.hid fun wx => word_ (4097 + (k : Int)) wx (by omega) (by omega)
      have r1 : IntKind.i64.wrap (4097 + (k : Int)) = 4097 + (k : Int) := IntWalk.i64_in _ (by omega)
      clear hb ho hK
      go_wp2_with fail
      go_region_law
        (first
          | (go_simp; go_at_call 106; with_reducible refine (CW.out _).mono ?_; rintro e w' ⟨rfl, rfl⟩)
          | (refine step_append_lies _ (by rfl) _ _ _ (by rfl) (lb + 1) 83 i0 _ 1 8 Tryz.underlying122 HI.out HZ.out.1 HZ.out.2.1 HZ.out.2.2 rfl (by decide) v k ((heads0 k).map (.int .u64)) (by rfl) ((HO.out.alloc _).drew) ⟨wr.heap.size, 0, none⟩ 1 1 [.int .u64 (lk (4097 + (k : Int)))] (by rfl) (by rfl) (World.news_of_block (cs := #[.int .u64 (lk (4097 + (k : Int)))]) (fr := (0, 0)) (alloc_new wr _)) d1.out (by decide) d2.out d3.out (by have := hsz.out; simp; omega) _ rfl ?_; intro g cap w7 hown7 hgrow7 hat7 hlt7; have HO7 := Lib.hid hown7; have G7 := Lib.hid hgrow7; have y1 : w7.cell? ⟨lb, 2, none⟩ = some v := (hgrow7.cell_far _ (by have := hsz.out; simp; omega) hvo.out).trans (zc _); have y2 : w7.frozen? ⟨lb, 2, none⟩ = false := (hgrow7.frozen_far _ (by have := hsz.out; simp; omega) hvo.out).trans (za _); clear hown7 hgrow7 hat7))
      all_goals
        go_wp2_with fail
        go_roundw
        case rel =>
          refine ⟨k + 1, .slice (some ⟨g, 0, none⟩) (k + 1) cap, hlt, by go_num, ?_, ?_, (Keep.grown (KR.out.alloc _).drew G7.out (fun b hb => by have := (HO.out.lt b hb).1; have := HX.out; omega)).set (.inr HX.out) 2 _⟩
          · have h7 := (G7.out.block lb (by have := hsz.out; simp; omega) hvo.out).trans (alloc_some _ HB.out)
            rw [set_same h7]
            rfl
          · have h7 := ownsRow_setCell_below HO7.out (a := ⟨lb, 2, none⟩) (Nat.lt_succ_self lb) (.slice (some ⟨g, 0, none⟩) (k + 1) cap)
            rw [show (heads0 (k + 1)).map (Value.int .u64) = (heads0 k).map (.int .u64) ++ [.int .u64 (lk (4097 + (k : Int)))] from by simp [heads0, List.range_succ]]
            exact h7
        case measure => simp [intOf]; omega
    · have hke : k = n := by omega
      subst hke
      have HF := Lib.hid (And.intro hb (And.intro ho hK))
      clear hb ho hK
      go_wp2_with fail
      go_ret2
      obtain ⟨g, cap, rfl, hg⟩ := owns_pos HF.out.2.1 (by omega)
      have hhl : (newX c (k : Int)).heads.length = k := by simp [newX, heads0_len]
      refine ⟨lb, g, cap, rfl, HX.out, by have := HX.out; omega, ⟨?_, ?_, by omega, by rw [hhl]; omega⟩, HF.out.2.2⟩
      · rw [HF.out.1, hhl]
        simp only [newX]
        rw [Int.toNat_of_nonneg h1]
      · rw [hhl]
        refine owns_mono ?_ (Nat.zero_le _) (base := lb + 1)
        simpa [newX] using HF.out.2.1
end
end Go.Proofs.YtgagiggljlikbaaGreat.Rc
