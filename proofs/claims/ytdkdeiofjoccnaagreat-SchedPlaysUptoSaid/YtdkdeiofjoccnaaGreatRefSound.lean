/- strataref03.within, sound, Sound: the walks. -/
import Derived.Test.YtdkdeiofjoccnaaGreatRefProg
import Derived.BigQuiet
namespace Go.Proofs.YtdkdeiofjoccnaaGreat.Ref
open Go.RowKit Go.Proofs.YtdkdeiofjoccnaaGreat.Mem Go.Proofs.YtdkdeiofjoccnaaGreat.Ar Go.Proofs.YtdkdeiofjoccnaaGreat.Un Go.Proofs.YtdkdeiofjoccnaaGreat.Lit
set_option linter.unusedVariables false
set_option maxRecDepth 100000

theorem within (n lo hi : Int) (w : World) :
    Calls Tryz.prog 62 #[.int .i64 n, .int .i64 lo, .int .i64 hi] w fun e w' => e = .returned (.bool (betB lo n hi)) ∧ w' = w := by
  by_cases h : lo ≤ n
  · have e1 : betB lo n hi = decide (n ≤ hi) := by simp [betB, h]
    rw [e1]
    have hd : decide (lo ≤ n) = true := by simpa using h
    go_enter Tryz.func62, Tryz.ntmps62
    go_wp2_with fail
    go_ret
    exact ⟨rfl, rfl⟩
  · have e1 : betB lo n hi = false := by simp [betB, h]
    rw [e1]
    have hd : decide (lo ≤ n) = false := by simpa using h
    go_enter Tryz.func62, Tryz.ntmps62
    go_wp2_with fail
    go_ret
    exact ⟨rfl, rfl⟩

set_option maxHeartbeats 1000000 in
theorem sound (x : Ins) (n : Nat) (hn : n ≤ 9223372036854775807) (w : World) :
    Calls Tryz.prog 63 #[.agg #[.int .i64 x.op, .int .i64 x.cell, .int .i64 x.reg, .int .i64 x.newR, .int .u64 x.newI, .int .i64 x.oldR, .int .u64 x.oldI, .int .i64 x.n], .int .i64 n] w fun e w' => e = .returned (.bool (fitB x n)) ∧ Keep [] w w' := by
  have hsub := IntWalk.i64_in ((n : Int) - 1) (by omega)
  have hsub2 : wrap64 ((n : Int) - 1) = (n : Int) - 1 := IntWalk.wrap64_in _ (by omega)
  have HE := Lib.hid (fitB_eq x n)
  go_enter Tryz.func63, Tryz.ntmps63
  go_wp2_with fail
  have hx : (w.alloc x.obj).heap[w.heap.size]? = some x.obj := alloc_new w x.obj
  obtain ⟨xb, hxb⟩ : ∃ xb, xb = w.heap.size := ⟨_, rfl⟩
  obtain ⟨w1, hw1⟩ : ∃ w1, w1 = w.alloc x.obj := ⟨_, rfl⟩
  have K1 := Lib.hid (show Keep [] w w1 by rw [hw1]; exact (Keep.refl _ _).alloc _)
  have hx1 : w1.heap[xb]? = some x.obj := by rw [hw1, hxb]; exact hx
  have hw1' : w.alloc (.cells #[.int .i64 x.op, .int .i64 x.cell, .int .i64 x.reg, .int .i64 x.newR, .int .u64 x.newI, .int .i64 x.oldR, .int .u64 x.oldI, .int .i64 x.n] 140 (0, 0)) = w1 := hw1.symm
  rw [hw1', ← hxb]
  clear hx hxb hw1 hw1'
  have y0 : w1.cell? ⟨xb, 0, none⟩ = some (.int .i64 x.op) := by rw [cell_of hx1]; rfl
  have y2 : w1.cell? ⟨xb, 2, none⟩ = some (.int .i64 x.reg) := by rw [cell_of hx1]; rfl
  have y3 : w1.cell? ⟨xb, 3, none⟩ = some (.int .i64 x.newR) := by rw [cell_of hx1]; rfl
  have y5 : w1.cell? ⟨xb, 5, none⟩ = some (.int .i64 x.oldR) := by rw [cell_of hx1]; rfl
  have y7 : w1.cell? ⟨xb, 7, none⟩ = some (.int .i64 x.n) := by rw [cell_of hx1]; rfl
  clear hx1
  refine (within _ _ _ _).mono ?_
  rintro e w' ⟨rfl, rfl⟩
  go_wp2_with fail
  refine (within _ _ _ _).mono ?_
  rintro e w' ⟨rfl, rfl⟩
  go_wp2_with fail
  refine (within _ _ _ _).mono ?_
  rintro e w' ⟨rfl, rfl⟩
  go_wp2_with fail
  refine (within _ _ _ _).mono ?_
  rintro e w' ⟨rfl, rfl⟩
  generalize betB 0 x.cell ((n : Int) - 1) = cc at *
  generalize betB 0 x.reg 3 = rr at *
  generalize betB (-1) x.newR 3 = ff at *
  generalize betB (-1) x.oldR 3 = oo at *
  go_wp2_with fail
  all_goals try ((refine (within x.n 1 10 _).mono ?_); rintro e w' ⟨rfl, rfl⟩; go_wp2_with fail)
  all_goals go_ret
  all_goals
    refine ⟨?_, K1.out⟩
    have e := HE.out
    simp only [beq_iff_eq, beq_eq_false_iff_ne, Bool.not_eq_true] at *
    rw [e]
    clear HE e
    unfold fitC
    simp [*]

theorem Sound_few {w : World} {a1 a2 : Option Addr} {c1 c2 : Nat} {l : LP} (hs : Small l) (h : (betB 1 l.threads.length 4 && betB 1 l.cells.length 4) = false) :
    Calls Tryz.prog 22 #[.agg #[.slice a1 l.cells.length c1, .slice a2 l.threads.length c2]] w fun e w' => e = .returned (.bool false) ∧ Keep [] w w' := by
  obtain ⟨nt, hnt⟩ : ∃ n, n = l.threads.length := ⟨_, rfl⟩
  obtain ⟨nc, hnc⟩ : ∃ n, n = l.cells.length := ⟨_, rfl⟩
  rw [← hnt, ← hnc] at h ⊢
  clear hs hnt hnc
  go_enter Tryz.func22, Tryz.ntmps22
  go_wp2_with fail
  refine (within nt 1 4 _).mono ?_
  rintro e w' ⟨rfl, rfl⟩
  by_cases h1 : betB 1 nt 4 = true
  · rw [h1] at h
    simp only [Bool.true_and] at h
    have H := Lib.hid h
    have H1 := Lib.hid h1
    rw [h1]
    clear h h1
    go_wp2_with fail
    refine (within nc 1 4 _).mono ?_
    rintro e w' ⟨rfl, rfl⟩
    rw [H.out]
    go_wp2_with fail
    go_ret
    exact ⟨rfl, (Keep.refl _ _).alloc _⟩
  · have h1' : betB 1 nt 4 = false := by simpa using h1
    rw [h1']
    clear h h1 h1'
    go_wp2_with fail
    go_ret
    exact ⟨rfl, (Keep.refl _ _).alloc _⟩

set_option maxHeartbeats 1000000 in
theorem Sound_many {w : World} {cv tv : Value} {l : LP} (hs : Small l) (hl : LitAt w cv tv l) (h1 : betB 1 l.threads.length 4 = true) (h2 : betB 1 l.cells.length 4 = true) :
    Calls Tryz.prog 22 #[.agg #[cv, tv]] w fun e w' => e = .returned (.bool (soundGo l.cells.length 0 l.threads)) ∧ Keep [] w w' := by
  obtain ⟨a1, c1, rfl, s1⟩ := hl.cells
  obtain ⟨a2, c2, ps, rfl, hps, s2, s3⟩ := hl.threads
  obtain ⟨nt, hnt⟩ : ∃ n, n = l.threads.length := ⟨_, rfl⟩
  obtain ⟨nc, hnc⟩ : ∃ n, n = l.cells.length := ⟨_, rfl⟩
  rw [← hnt] at h1
  rw [← hnc] at h2
  rw [← hnt, ← hnc]
  have HN := Lib.hid (And.intro hnt hnc)
  have HS := Lib.hid hs
  have S1 := Lib.hid s1
  have S2 := Lib.hid s2
  have S3 := Lib.hid s3
  have HP := Lib.hid hps
  have H1 := Lib.hid h1
  have H2 := Lib.hid h2
  have hnt4 : nt ≤ 4 := by
    simp only [betB, Bool.and_eq_true, decide_eq_true_eq] at h1
    omega
  have hnc4 : nc ≤ 4 := by
    simp only [betB, Bool.and_eq_true, decide_eq_true_eq] at h2
    omega
  clear hs hl s1 s2 s3 hps h1 h2 hnt hnc
  go_enter Tryz.func22, Tryz.ntmps22
  go_wp2_with fail
  refine (within nt 1 4 _).mono ?_
  rintro e w' ⟨rfl, rfl⟩
  rw [H1.out]
  go_wp2_with fail
  refine (within nc 1 4 _).mono ?_
  rintro e w' ⟨rfl, rfl⟩
  rw [H2.out]
  go_wp2_with fail
  obtain ⟨xb, hxb⟩ : ∃ xb, xb = w.heap.size := ⟨_, rfl⟩
  obtain ⟨w1, hw1⟩ : ∃ w1, w1 = w.alloc (.cells #[.slice a1 nc c1, .slice a2 nt c2] 25) := ⟨_, rfl⟩
  have hx : w1.heap[xb]? = some (.cells #[.slice a1 nc c1, .slice a2 nt c2] 25 (0, 0)) := by rw [hw1, hxb]; exact alloc_new w _
  have K1 := Lib.hid (show Keep [] w w1 by rw [hw1]; exact (Keep.refl _ _).alloc _)
  have y0 : w1.cell? ⟨xb, 0, none⟩ = some (.slice a1 nc c1) := by rw [cell_of hx]; rfl
  have Y0 := Lib.hid y0
  have y1 : w1.cell? ⟨xb, 1, none⟩ = some (.slice a2 nt c2) := by rw [cell_of hx]; rfl
  have Y1 := Lib.hid y1
  rw [← hw1, ← hxb]
  clear hw1 hxb hx y0 y1
  go_loopw [3, 4] (fun n i wr => ∃ (k m : Nat), n = .int .i64 m ∧ i = .int .i64 k ∧ k ≤ nt ∧ m ≤ 10 ∧ Keep [] w1 wr ∧ soundGo nc m (l.threads.drop k) = soundGo nc 0 l.threads) (fun _ i _ => nt - (intOf i).toNat)
  case atStart => exact ⟨0, 0, rfl, rfl, Nat.zero_le _, Nat.zero_le _, Keep.refl _ _, rfl⟩
  case round =>
    obtain ⟨k, m, rfl, rfl, hk, hm, hK, hS⟩ := hrel
    have KR := Lib.hid hK
    have SR := Lib.hid hS
    have rt := KR.out.cell Y1.out (by simp)
    clear hK hS
    by_cases hlt : k < nt
    · have hkt : k < l.threads.length := by have := HN.out.1; omega
      have hkp : k < ps.length := by rw [HP.out]; exact hkt
      obtain ⟨g, o, rfl, x0⟩ := (S2.out.keep0 (K1.out.trans KR.out)).at_ k hkp
      obtain ⟨a', c', he, s4⟩ := S3.out k hkp hkt
      rw [he] at x0
      obtain ⟨p, hp⟩ : ∃ p, p = l.threads[k] := ⟨_, rfl⟩
      rw [← hp] at x0 s4
      have S4 := Lib.hid (s4.keep0 (K1.out.trans KR.out))
      have hdrop := Lib.hid (show l.threads.drop k = p :: l.threads.drop (k + 1) by rw [hp]; exact List.drop_eq_getElem_cons hkt)
      have hpl : p.length ≤ 1000000000000000000 := by rw [hp]; exact HS.out.p _ (List.getElem_mem hkt)
      obtain ⟨np, hnp⟩ : ∃ n, n = p.length := ⟨_, rfl⟩
      rw [← hnp] at x0 hpl
      have HNP := Lib.hid hnp
      have hgo := Lib.hid (show soundGo nc 0 l.threads = if 10 < m + np then false else if p.all (fun x => fitB x nc) then soundGo nc (m + np) (l.threads.drop (k + 1)) else false by
        rw [← SR.out, hdrop.out, hnp]
        rfl)
      have r0 := KR.out.cell Y0.out (by simp)
      clear he s4 hp hkt hkp hnp
      by_cases h10 : 10 < m + np
      · have hres : soundGo nc 0 l.threads = false := by rw [hgo.out, if_pos h10]
        have HRES := Lib.hid hres
        clear hres
        go_wp2_with fail
        go_ret
        exact ⟨by rw [HRES.out]; rfl, K1.out.trans KR.out⟩
      · have hsum := IntWalk.i64_in ((m : Int) + (np : Int)) (by omega)
        clear hpl
        have h10' : decide ((10 : Int) < (m : Int) + (np : Int)) = false := by simp; omega
        go_wp2_with fail
        obtain ⟨wo, hwo⟩ : ∃ wo, wo = wr := ⟨_, rfl⟩
        subst hwo
        go_loopw [5] (fun i wi => ∃ j : Nat, i = .int .i64 j ∧ j ≤ np ∧ Keep [] wo wi ∧ (p.take j).all (fun x => fitB x nc) = true) (fun i _ => np - (intOf i).toNat)
        case atStart => exact ⟨0, rfl, Nat.zero_le _, Keep.refl _ _, rfl⟩
        case round =>
          obtain ⟨j, rfl, hj, hK, hA⟩ := hrel
          have KI := Lib.hid hK
          have AI := Lib.hid hA
          have rt1 := (KR.out.trans KI.out).cell Y1.out (by simp)
          have xi := KI.out.cell x0 (by simp)
          clear hK hA
          by_cases hjn : j < np
          · have hjp : j < p.length := by have := HNP.out; omega
            obtain ⟨g2, o2, rfl, x0', x1, x2, x3, x4, x5, x6, x7⟩ := (S4.out.keep0 KI.out).ins hjp
            obtain ⟨x, hx⟩ : ∃ x, x = p[j] := ⟨_, rfl⟩
            rw [← hx] at x0' x1 x2 x3 x4 x5 x6 x7
            have HX := Lib.hid (show ∃ hjp : j < p.length, x = p[j] from ⟨hjp, hx⟩)
            have r1 := (KR.out.trans KI.out).cell Y0.out (by simp)
            have r2 := fun o : Obj => ((KR.out.trans KI.out).alloc o).cell Y0.out (by simp)
            clear hx hjp
            by_cases hf : fitB x nc = true
            · have HFT := Lib.hid hf
              clear hf
              go_wp2_with fail
              go_region_held3 (fun w' => w'.cell? ⟨xb, 1, none⟩ = some (.slice (some ⟨g, o, none⟩) nt c2) ∧ w'.cell? ⟨xb, 0, none⟩ = some (.slice a1 nc c1) ∧ w'.cell? ⟨g, o + k, none⟩ = some (.slice (some ⟨g2, o2, none⟩) np c') ∧ w'.cell? ⟨g2, o2 + j * 8, none⟩ = some (.int .i64 x.op) ∧ w'.cell? ⟨g2, o2 + j * 8 + 1, none⟩ = some (.int .i64 x.cell) ∧ w'.cell? ⟨g2, o2 + j * 8 + 2, none⟩ = some (.int .i64 x.reg) ∧ w'.cell? ⟨g2, o2 + j * 8 + 3, none⟩ = some (.int .i64 x.newR) ∧ w'.cell? ⟨g2, o2 + j * 8 + 4, none⟩ = some (.int .u64 x.newI) ∧ w'.cell? ⟨g2, o2 + j * 8 + 5, none⟩ = some (.int .i64 x.oldR) ∧ w'.cell? ⟨g2, o2 + j * 8 + 6, none⟩ = some (.int .u64 x.oldI) ∧ w'.cell? ⟨g2, o2 + j * 8 + 7, none⟩ = some (.int .i64 x.n)) (go_keep)
                (first
                  | (go_at_call 63; refine (sound x nc (by omega) _).mono ?_; rintro e w2 ⟨he, k2⟩; rw [HFT.out] at he; subst he; have K2 := Lib.hid k2; have v0 := k2.cell (show wr.drew.cell? ⟨xb, 1, none⟩ = some (.slice (some ⟨g, o, none⟩) nt c2) from rt1) (by simp); have v1 := k2.cell (show wr.drew.cell? ⟨xb, 0, none⟩ = some (.slice a1 nc c1) from r1) (by simp); have v2 := k2.cell (show wr.drew.cell? ⟨g, o + k, none⟩ = some (.slice (some ⟨g2, o2, none⟩) np c') from xi) (by simp); have v3 := k2.cell (show wr.drew.cell? ⟨g2, o2 + j * 8, none⟩ = some (.int .i64 x.op) from x0') (by simp); have v4 := k2.cell (show wr.drew.cell? ⟨g2, o2 + j * 8 + 1, none⟩ = some (.int .i64 x.cell) from x1) (by simp); have v5 := k2.cell (show wr.drew.cell? ⟨g2, o2 + j * 8 + 2, none⟩ = some (.int .i64 x.reg) from x2) (by simp); have v6 := k2.cell (show wr.drew.cell? ⟨g2, o2 + j * 8 + 3, none⟩ = some (.int .i64 x.newR) from x3) (by simp); have v7 := k2.cell (show wr.drew.cell? ⟨g2, o2 + j * 8 + 4, none⟩ = some (.int .u64 x.newI) from x4) (by simp); have v8 := k2.cell (show wr.drew.cell? ⟨g2, o2 + j * 8 + 5, none⟩ = some (.int .i64 x.oldR) from x5) (by simp); have v9 := k2.cell (show wr.drew.cell? ⟨g2, o2 + j * 8 + 6, none⟩ = some (.int .u64 x.oldI) from x6) (by simp); have v10 := k2.cell (show wr.drew.cell? ⟨g2, o2 + j * 8 + 7, none⟩ = some (.int .i64 x.n) from x7) (by simp); clear k2))
              clear v0 v1 v2 v3 v4 v5 v6 v7 v8 v9 v10
              go_wp2_with fail
              go_roundw
              case rel =>
                refine ⟨j + 1, by go_num, hjn, KI.out.trans ((Keep.refl [] _).drew.trans K2.out), ?_⟩
                obtain ⟨hjp, hx⟩ := HX.out
                rw [List.take_succ_eq_append_getElem hjp, List.all_append, AI.out, ← hx]
                simpa using HFT.out
              case measure => simp [intOf]; omega
            · have HFT := Lib.hid (show fitB x nc = false by simpa using hf)
              clear hf
              go_wp2_with fail
              go_region_held3 (fun w' => w'.cell? ⟨xb, 1, none⟩ = some (.slice (some ⟨g, o, none⟩) nt c2) ∧ w'.cell? ⟨xb, 0, none⟩ = some (.slice a1 nc c1) ∧ w'.cell? ⟨g, o + k, none⟩ = some (.slice (some ⟨g2, o2, none⟩) np c') ∧ w'.cell? ⟨g2, o2 + j * 8, none⟩ = some (.int .i64 x.op) ∧ w'.cell? ⟨g2, o2 + j * 8 + 1, none⟩ = some (.int .i64 x.cell) ∧ w'.cell? ⟨g2, o2 + j * 8 + 2, none⟩ = some (.int .i64 x.reg) ∧ w'.cell? ⟨g2, o2 + j * 8 + 3, none⟩ = some (.int .i64 x.newR) ∧ w'.cell? ⟨g2, o2 + j * 8 + 4, none⟩ = some (.int .u64 x.newI) ∧ w'.cell? ⟨g2, o2 + j * 8 + 5, none⟩ = some (.int .i64 x.oldR) ∧ w'.cell? ⟨g2, o2 + j * 8 + 6, none⟩ = some (.int .u64 x.oldI) ∧ w'.cell? ⟨g2, o2 + j * 8 + 7, none⟩ = some (.int .i64 x.n)) (go_keep)
                (first
                  | (go_at_call 63; refine (sound x nc (by omega) _).mono ?_; rintro e w2 ⟨he, k2⟩; rw [HFT.out] at he; subst he; have K2 := Lib.hid k2; have v0 := k2.cell (show wr.drew.cell? ⟨xb, 1, none⟩ = some (.slice (some ⟨g, o, none⟩) nt c2) from rt1) (by simp); have v1 := k2.cell (show wr.drew.cell? ⟨xb, 0, none⟩ = some (.slice a1 nc c1) from r1) (by simp); have v2 := k2.cell (show wr.drew.cell? ⟨g, o + k, none⟩ = some (.slice (some ⟨g2, o2, none⟩) np c') from xi) (by simp); have v3 := k2.cell (show wr.drew.cell? ⟨g2, o2 + j * 8, none⟩ = some (.int .i64 x.op) from x0') (by simp); have v4 := k2.cell (show wr.drew.cell? ⟨g2, o2 + j * 8 + 1, none⟩ = some (.int .i64 x.cell) from x1) (by simp); have v5 := k2.cell (show wr.drew.cell? ⟨g2, o2 + j * 8 + 2, none⟩ = some (.int .i64 x.reg) from x2) (by simp); have v6 := k2.cell (show wr.drew.cell? ⟨g2, o2 + j * 8 + 3, none⟩ = some (.int .i64 x.newR) from x3) (by simp); have v7 := k2.cell (show wr.drew.cell? ⟨g2, o2 + j * 8 + 4, none⟩ = some (.int .u64 x.newI) from x4) (by simp); have v8 := k2.cell (show wr.drew.cell? ⟨g2, o2 + j * 8 + 5, none⟩ = some (.int .i64 x.oldR) from x5) (by simp); have v9 := k2.cell (show wr.drew.cell? ⟨g2, o2 + j * 8 + 6, none⟩ = some (.int .u64 x.oldI) from x6) (by simp); have v10 := k2.cell (show wr.drew.cell? ⟨g2, o2 + j * 8 + 7, none⟩ = some (.int .i64 x.n) from x7) (by simp); clear k2))
              clear v0 v1 v2 v3 v4 v5 v6 v7 v8 v9 v10
              go_wp2_with fail
              go_ret
              have hres : soundGo nc 0 l.threads = false := by
                rw [hgo.out, if_neg h10, if_neg]
                intro hall
                rw [List.all_eq_true] at hall
                obtain ⟨hjp, hx⟩ := HX.out
                have := hall x (by rw [hx]; exact List.getElem_mem hjp)
                rw [HFT.out] at this
                cases this
              exact ⟨by rw [hres]; rfl, (K1.out.trans KR.out).trans (KI.out.trans ((Keep.refl [] _).drew.trans K2.out))⟩
          · have hall : p.all (fun x => fitB x nc) = true := by
              have q := AI.out
              rwa [List.take_of_length_le (by have := HNP.out; omega)] at q
            have HALL := Lib.hid hall
            clear hall
            go_wp2_with fail
            go_roundw
            case rel =>
              refine ⟨k + 1, m + np, by go_num, by go_num, hlt, by omega, KR.out.trans KI.out, ?_⟩
              rw [hgo.out, if_neg h10, if_pos HALL.out]
            case measure => simp [intOf]; omega
    · have hkn : k = nt := by omega
      have hres : soundGo nc 0 l.threads = true := by
        rw [← SR.out, List.drop_of_length_le (by have := HN.out.1; omega)]
        rfl
      have HRES := Lib.hid hres
      clear hres hkn
      go_wp2_with fail
      go_ret
      exact ⟨by rw [HRES.out]; rfl, K1.out.trans KR.out⟩

/-- sound -/
theorem Sound {w : World} {cv tv : Value} {l : LP} (hs : Small l) (hl : LitAt w cv tv l) :
    Calls Tryz.prog 22 #[.agg #[cv, tv]] w fun e w' => e = .returned (.bool (soundB l)) ∧ Keep [] w w' := by
  by_cases h : (betB 1 l.threads.length 4 && betB 1 l.cells.length 4) = true
  · have h2 := h
    simp only [Bool.and_eq_true] at h2
    have e : soundB l = soundGo l.cells.length 0 l.threads := by unfold soundB; rw [h2.1, h2.2]; rfl
    rw [e]
    exact Sound_many hs hl h2.1 h2.2
  · have h' : (betB 1 l.threads.length 4 && betB 1 l.cells.length 4) = false := by simpa using h
    have e : soundB l = false := by
      unfold soundB
      rw [← Bool.and_assoc, h']
      rfl
    rw [e]
    obtain ⟨a1, c1, rfl, -⟩ := hl.cells
    obtain ⟨a2, c2, ps, rfl, -⟩ := hl.threads
    exact Sound_few hs h'
end Go.Proofs.YtdkdeiofjoccnaaGreat.Ref
