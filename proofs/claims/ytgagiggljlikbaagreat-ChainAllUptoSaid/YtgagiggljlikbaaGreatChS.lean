/- The chain: New. -/
import Derived.Test.YtgagiggljlikbaaGreatChR
import Derived.StillTailTactics
namespace Go.Proofs.YtgagiggljlikbaaGreat.Ch
open Go.RowKit Go.Proofs.YtgagiggljlikbaaGreat.Mem Go.Proofs.YtgagiggljlikbaaGreat.Ar Go.Proofs.YtgagiggljlikbaaGreat.En
set_option linter.unusedVariables false
set_option linter.unusedSimpArgs false
set_option maxRecDepth 100000

/-- the error of New over an arena that is there; the index that it makes -/
def errX (wd : Nat) (c k : Int) : Int := if c < 0 ∨ (wd : Int) ≤ c then 23 else if k < 1 ∨ 256 < k then 40 else 0
def heads0 (k : Nat) : List Int := (List.range k).map fun b : Nat => lk (4097 + (b : Int))
def newX (c k : Int) : CI := ⟨c.toNat, heads0 k.toNat, 0⟩
theorem newX_ok (c k : Int) (hk : k ≤ 256) : okH (newX c k) := by
  intro v hv
  simp only [newX, heads0, List.mem_map, List.mem_range] at hv
  obtain ⟨b, hb, rfl⟩ := hv
  unfold okL lk
  omega
/-- heads half made -/
def hd0 (n k : Nat) : List Int := heads0 k ++ List.replicate (n - k) 0
theorem heads0_len (k : Nat) : (heads0 k).length = k := by simp [heads0]
theorem hd0_len {n k : Nat} (h : k ≤ n) : (hd0 n k).length = n := by simp [hd0, heads0_len]; omega
theorem hd0_set {n k : Nat} (h : k < n) : (hd0 n k).set k (lk (4097 + (k : Int))) = hd0 n (k + 1) := by
  unfold hd0
  rw [List.set_append_right _ _ (by rw [heads0_len]; omega), heads0_len, Nat.sub_self]
  obtain ⟨m, hm⟩ : ∃ m, n - k = m + 1 := ⟨n - k - 1, by omega⟩
  rw [hm, List.replicate_succ, List.set_cons_zero, show n - (k + 1) = m from by omega]
  simp [heads0, List.range_succ]
theorem hd0_done (n : Nat) : hd0 n n = heads0 n := by simp [hd0]
theorem infoHd : (Tryz.prog.info? 119).map (fun i => (i.zero, i.size, i.bytes)) = some (some (.agg #[.int .u64 0]), 1, 8) := by kernel_rfl
section
variable {w w' : World} {L : Bk} {A : Ars}
theorem new_nil (c k : Int) :
    Calls Tryz.prog 28 #[.pointer none, .int .i64 c, .int .i64 k] w fun r w' => r = .returned (.tuple #[.pointer none, .int .i64 1]) ∧ w = w' := by
  go_enter Tryz.func28, Tryz.ntmps28
  go_wp2
  refine bodyPost_ret (results_tmp2 rfl _ _ _) rfl ?_
  exact ⟨rfl, rfl⟩
theorem new_bad (h : En.At 0 w L A) (c k : Int) (he : errX A.width c k ≠ 0) :
    Calls Tryz.prog 28 #[.pointer (some ⟨L.b, 0, none⟩), .int .i64 c, .int .i64 k] w fun r w' => r = .returned (.tuple #[.pointer none, .int .i64 (errX A.width c k)]) ∧ Keep [] w w' := by
  have HA := Lib.hid h
  have hw := h.fits.w2
  clear h
  unfold errX at he ⊢
  by_cases h1 : c < 0
  · rw [if_pos (.inl h1)]
    clear he
    go_enter Tryz.func28, Tryz.ntmps28
    go_wp2_with fail
    refine (Go.Proofs.YtgagiggljlikbaaGreat.En.shape HA.out).mono ?_
    rintro e w1 ⟨rfl, k1⟩
    go_wp2_with fail
    go_ret2
    exact ⟨rfl, k1⟩
  · by_cases h2 : (A.width : Int) ≤ c
    · rw [if_pos (.inr h2)]
      clear he
      go_enter Tryz.func28, Tryz.ntmps28
      go_wp2_with fail
      refine (Go.Proofs.YtgagiggljlikbaaGreat.En.shape HA.out).mono ?_
      rintro e w1 ⟨rfl, k1⟩
      go_wp2_with fail
      go_ret2
      exact ⟨rfl, k1⟩
    · rw [if_neg (by omega)] at he ⊢
      by_cases h3 : k < 1
      · rw [if_pos (.inl h3)]
        clear he
        go_enter Tryz.func28, Tryz.ntmps28
        go_wp2_with fail
        refine (Go.Proofs.YtgagiggljlikbaaGreat.En.shape HA.out).mono ?_
        rintro e w1 ⟨rfl, k1⟩
        go_wp2_with fail
        go_ret2
        exact ⟨rfl, k1⟩
      · have h4 : 256 < k := by
          apply Decidable.byContradiction
          intro h4
          rw [if_neg (by omega)] at he
          exact he rfl
        rw [if_pos (.inr h4)]
        clear he
        go_enter Tryz.func28, Tryz.ntmps28
        go_wp2_with fail
        refine (Go.Proofs.YtgagiggljlikbaaGreat.En.shape HA.out).mono ?_
        rintro e w1 ⟨rfl, k1⟩
        go_wp2_with fail
        go_ret2
        exact ⟨rfl, k1⟩
set_option maxHeartbeats 2000000 in
theorem new_ok (h : En.At 0 w L A) (c k : Int) (he : errX A.width c k = 0) :
    Calls Tryz.prog 28 #[.pointer (some ⟨L.b, 0, none⟩), .int .i64 c, .int .i64 k] w fun r w' => ∃ xb hb, r = .returned (.tuple #[.pointer (some ⟨xb, 0, none⟩), .int .i64 0]) ∧ w.heap.size ≤ xb ∧ w.heap.size ≤ hb ∧ IdxP w' L xb hb (newX c k) ∧ Keep [] w w' := by
  have h1 : 0 ≤ c ∧ c < A.width ∧ 1 ≤ k ∧ k ≤ 256 := by
    unfold errX at he
    split at he
    · omega
    · split at he
      · omega
      · omega
  obtain ⟨h1, h2, h3, h4⟩ := h1
  obtain ⟨n, rfl⟩ : ∃ n : Nat, k = n := ⟨k.toNat, by omega⟩
  have HA := Lib.hid h
  have hw := h.fits.w2
  have k1 := make_row 85 119 _ (.int .u64 0) 8 Tryz.underlying85 infoHd rfl n (by omega) (by omega)
  clear h he
  go_enter Tryz.func28, Tryz.ntmps28
  go_wp2_with fail
  refine (Go.Proofs.YtgagiggljlikbaaGreat.En.shape HA.out).mono ?_
  rintro e w1 ⟨rfl, kk⟩
  have KK := Lib.hid kk
  clear kk
  go_wp2_with fail
  obtain ⟨wa, hwa⟩ : ∃ wa, wa = w1.alloc (.cells (madeCells #[.int .u64 0] n) 119 (0, 0)) := ⟨_, rfl⟩
  obtain ⟨xb, hxb⟩ : ∃ xb, xb = w1.heap.size + 1 := ⟨_, rfl⟩
  obtain ⟨wb, hwb⟩ : ∃ wb, wb = wa.alloc (.cells #[.pointer (some ⟨L.b, 0, none⟩), .int .i64 c, .slice (some ⟨w1.heap.size, 0, none⟩) n n, .int .i64 0] 92 (0, 0)) := ⟨_, rfl⟩
  have q1 : wb.heap[w1.heap.size]? = some (.cells ((hd0 n 0).map (.int .u64)).toArray 119 (0, 0)) := by
    rw [hwb, hwa]
    refine alloc_some _ ((alloc_new _ _).trans ?_)
    rw [replicate_made (.int .u64 0) _ (0 : Int) (.int .u64) rfl]
    simp [hd0, heads0]
  have q2 : wb.heap[xb]? = some (.cells #[.pointer (some ⟨L.b, 0, none⟩), .int .i64 c, .slice (some ⟨w1.heap.size, 0, none⟩) n n, .int .i64 0] 92 (0, 0)) := by
    have := alloc_new wa (.cells #[.pointer (some ⟨L.b, 0, none⟩), .int .i64 c, .slice (some ⟨w1.heap.size, 0, none⟩) n n, .int .i64 0] 92 (0, 0))
    rw [← hwb] at this
    rw [hxb]
    rw [show wa.heap.size = w1.heap.size + 1 from by rw [hwa]; simp] at this
    exact this
  have kb : Keep [] w1 wb := by rw [hwb, hwa]; exact ((Keep.refl _ _).alloc _).alloc _
  rw [← hxb, show (w1.alloc (.cells (madeCells #[.int .u64 0] n) 119 (0, 0))).alloc (.cells #[.pointer (some ⟨L.b, 0, none⟩), .int .i64 c, .slice (some ⟨w1.heap.size, 0, none⟩) n n, .int .i64 0] 92 (0, 0)) = wb from by rw [hwb, hwa]]
  obtain ⟨hb, hhb⟩ : ∃ hb, hb = w1.heap.size := ⟨_, rfl⟩
  rw [← hhb] at q1 q2 ⊢
  have QQ := Lib.hid (And.intro q1 (And.intro q2 kb))
  have SZ := Lib.hid (And.intro hhb hxb)
  clear q1 q2 kb hwa hwb hxb hhb k1
  go_loopw [43] (fun j wr => ∃ k : Nat, k ≤ n ∧ j = .int .i64 k ∧ wr.heap[hb]? = some (.cells ((hd0 n k).map (.int .u64)).toArray 119 (0, 0)) ∧ wr.heap[xb]? = some (.cells #[.pointer (some ⟨L.b, 0, none⟩), .int .i64 c, .slice (some ⟨hb, 0, none⟩) n n, .int .i64 0] 92 (0, 0)) ∧ Keep [] w1 wr) (fun j _ => n - (intOf j).toNat)
  case atStart => exact ⟨0, Nat.zero_le _, rfl, QQ.out.1, QQ.out.2.1, QQ.out.2.2⟩
  case round =>
    obtain ⟨k, hk, rfl, hb1, hx1, hK⟩ := hrel
    have HR := Lib.hid (And.intro hb1 (And.intro hx1 hK))
    clear hb1 hx1 hK
    by_cases hlt : k < n
    · have CL : Hid (∀ wx : World, Calls Tryz.prog 47 #[.int .i64 k] wx fun e w' => e = .returned (.int .i64 (4097 + (k : Int))) ∧ w' = wx) := Lib.hid fun wx => (last_ k wx (by omega) (by omega)).mono fun e w' ⟨a, b⟩ => ⟨a, b.symm⟩
      have CK : Hid (∀ wx : World, Calls Tryz.prog 54 #[.int .i64 (4097 + (k : Int))] wx fun e w' => e = .returned (.int .u64 (lk (4097 + (k : Int)))) ∧ w' = wx) := Lib.hid fun wx => (link_ (4097 + (k : Int)) wx (by omega) (by omega)).mono fun e w' ⟨a, b⟩ => ⟨a, b.symm⟩
      have hk' : (k : Int) < (n : Int) := by omega
      obtain ⟨w7, hw7⟩ : ∃ w7, w7 = wr.drew := ⟨_, rfl⟩
      have hb7 := show wr.drew.heap[hb]? = _ from HR.out.1
      have hx7 := show wr.drew.heap[xb]? = _ from HR.out.2.1
      rw [← hw7] at hb7 hx7
      have k7 : Keep [] w1 w7 := by rw [hw7]; exact HR.out.2.2.drew
      have x2 : w7.cell? ⟨xb, 2, none⟩ = some (.slice (some ⟨hb, 0, none⟩) n n) := (cell_of hx7 2).trans rfl
      have hcell : w7.cell? ⟨hb, k, none⟩ = some (.int .u64 ((hd0 n k)[k]'(by rw [hd0_len hk]; exact hlt))) := list_cell hb7 (by rw [hd0_len hk]; exact hlt)
      have hfz := free_of hb7 k
      have H7 := Lib.hid (And.intro hb7 (And.intro hx7 k7))
      clear hb7 hx7 k7
      go_wp2_with fail
      refine wp_region_still_tail 10 (by kernel_rfl) (by kernel_rfl) ?_
      have hw7' : { heap := wr.heap, tape := wr.tape, drawn := wr.drawn + 1, os := wr.os, output := wr.output : World } = w7 := hw7.symm
      rw [hw7']
      clear hw7 hw7'
      simp only [List.take_succ_cons, List.take_zero, List.drop_succ_cons, List.drop_zero]
      repeat still_step
      still_call (CL.out _)
      repeat still_step
      still_call (CK.out _)
      repeat still_step
      refine wpStill_nil ?_
      go_wp2_with fail
      refine (Atom.store64 hb k _ _ _ hcell hfz).mono ?_
      rintro e w8 ⟨rfl, hw8⟩
      have H8 := Lib.hid hw8
      clear hw8 hcell hfz x2
      go_wp2_with fail
      go_roundw
      case rel =>
        refine ⟨k + 1, hlt, by go_num, ?_, ?_, ?_⟩
        · rw [H8.out, list_set (g := Value.int .u64) H7.out.1 k (lk (4097 + (k : Int))), hd0_set hlt]
        · rw [H8.out, set_other (by have := SZ.out; omega)]
          exact H7.out.2.1
        · rw [H8.out]
          exact H7.out.2.2.set (.inr (by have := SZ.out; omega)) _ _
      case measure => simp [intOf]; omega
    · have hke : k = n := by omega
      subst hke
      go_wp2_with fail
      go_ret2
      refine ⟨xb, hb, rfl, by have := SZ.out; have := KK.out.size; omega, by have := SZ.out; have := KK.out.size; omega, ⟨?_, ?_, by have := SZ.out; omega, ?_⟩, KK.out.trans HR.out.2.2⟩
      · rw [HR.out.2.1]
        simp only [newX, heads0_len, Int.toNat_natCast]
        rw [Int.toNat_of_nonneg h1]
      · rw [HR.out.1, hd0_done]
        simp only [newX, Int.toNat_natCast]
      · simp only [newX, heads0_len, Int.toNat_natCast]
        omega
end
end Go.Proofs.YtgagiggljlikbaaGreat.Ch
