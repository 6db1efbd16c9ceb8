import Derived.Test.YtdkdeiofjoccnaaGreatLitA
import Derived.StillTailTactics
import Derived.WalkLawsBesides
import Derived.RegionTactic
/- A thread's swap. -/
namespace Go.Proofs.YtdkdeiofjoccnaaGreat.Lit
open Go.RowKit Go.Proofs.YtdkdeiofjoccnaaGreat.Mem Go.Proofs.YtdkdeiofjoccnaaGreat.Ar Go.Proofs.YtdkdeiofjoccnaaGreat.Un
set_option linter.unusedVariables false
set_option maxRecDepth 100000
variable {w : World} {L : Bk} {A : Arena Unit} {tb b slot : Nat} {pv : Value} {t : Th}

set_option maxHeartbeats 1000000 in
theorem do_swap_hit (h : ThAt w tb pv L.b slot t) (hA : Un.At 0 w L A) (hin : inUseB A slot = true) (ho : Off L tb pv) (x : Ins) (hc0 : 0 ≤ x.cell) (hc : x.cell < A.width) (h1 : -1 ≤ x.newR) (h2 : x.newR ≤ 3) (h3 : -1 ≤ x.oldR) (h4 : x.oldR ≤ 3) (r : Nat) (hr : r < 4) (hxr : x.reg = r) (hw : wordOf A slot x.cell = valOf t.regs x.oldR x.oldI) :
    Calls Tryz.prog 105 #[.pointer (some ⟨tb, 0, none⟩), .agg #[.int .i64 x.op, .int .i64 x.cell, .int .i64 x.reg, .int .i64 x.newR, .int .u64 x.newI, .int .i64 x.oldR, .int .u64 x.oldI, .int .i64 x.n]] w fun e w' => e = .returned (.tuple #[]) ∧
      ThAt w' tb pv L.b slot { t with regs := t.regs.set r 1 } ∧ Un.At 0 w' L (wrote A slot x.cell (valOf t.regs x.newR x.newI)) ∧ Keep (tb :: L.blocks) w w' := by
  obtain ⟨w1, hw1, kx, hT, hAA, hX, hxo, hxt⟩ := enter h hA x
  have x1 := hX.x1
  have x2 := hX.x2
  rw [hxr] at x2
  have x3 := hX.x3
  have x5 := hX.x5
  have x6 := hX.x6
  have x4 := hX.x4
  have t1 := hT.cell1
  have HT := Lib.hid hT
  have HA := Lib.hid hAA
  have HO := Lib.hid ho
  have HI := Lib.hid hin
  have HX := Lib.hid (And.intro hX hxo)
  have hm : ∀ w : World, (method 388 84 (.agg #[.pointer (some ⟨L.b, 0, none⟩), .int .i64 slot]) "strata/sched.swap").run Tryz.prog w = .ok (167, .agg #[.pointer (some ⟨L.b, 0, none⟩), .int .i64 slot]) w := fun w => m_swap _ w
  have hn : ∀ w : World, (nilAhead 388 84 (.agg #[.pointer (some ⟨L.b, 0, none⟩), .int .i64 slot]) "strata/sched.swap").run Tryz.prog w = .ok (some false) w := fun w => n_swap _ w
  have HXT := Lib.hid hxt
  have HW := Lib.hid hw
  have hr2 : (r : Int) < 4 := by omega
  have hr3 : 0 ≤ (r : Int) := by omega
  clear h hA hin ho hT hAA hX hxo hxt hxr hw
  go_enter Tryz.func105, Tryz.ntmps105
  go_wp2_with fail
  rw [show w.alloc (.cells #[.int .i64 x.op, .int .i64 x.cell, .int .i64 x.reg, .int .i64 x.newR, .int .u64 x.newI, .int .i64 x.oldR, .int .u64 x.oldI, .int .i64 x.n] 140 (0, 0)) = w1 from hw1]
  clear hw1
  go_region_held3 (fun w' => w'.cell? ⟨w.heap.size, 1, none⟩ = some (.int .i64 x.cell) ∧ w'.cell? ⟨w.heap.size, 2, none⟩ = some (.int .i64 r) ∧ w'.cell? ⟨w.heap.size, 3, none⟩ = some (.int .i64 x.newR) ∧ w'.cell? ⟨w.heap.size, 4, none⟩ = some (.int .u64 x.newI) ∧ w'.cell? ⟨w.heap.size, 5, none⟩ = some (.int .i64 x.oldR) ∧ w'.cell? ⟨w.heap.size, 6, none⟩ = some (.int .u64 x.oldI) ∧ w'.cell? ⟨tb, 1, none⟩ = some (.iface 84 (.agg #[.pointer (some ⟨L.b, 0, none⟩), .int .i64 slot]))) (go_keep)
    (first
      | (go_at_call 130; ((with_reducible refine (val_any (HT.out.keep ((Keep.refl [] w1).drew) (by simp) (by simp)) x.oldR x.oldI h3 h4).mono ?_); rintro e w2 ⟨rfl, k2⟩); have K2 := Lib.hid k2; have T2 := Lib.hid ((HT.out.keep ((Keep.refl [] w1).drew) (by simp) (by simp)).keep k2 (by simp) (by simp)); have A2 := Lib.hid (HA.out.drew.keep k2 (by simp)); have y1 := k2.cell (show w1.drew.cell? ⟨w.heap.size, 1, none⟩ = _ from x1) (by simp); have y2 := k2.cell (show w1.drew.cell? ⟨w.heap.size, 2, none⟩ = _ from x2) (by simp); have y3 := k2.cell (show w1.drew.cell? ⟨w.heap.size, 3, none⟩ = _ from x3) (by simp); have y4 := k2.cell (show w1.drew.cell? ⟨w.heap.size, 4, none⟩ = _ from x4) (by simp); have y5 := k2.cell (show w1.drew.cell? ⟨w.heap.size, 5, none⟩ = _ from x5) (by simp); have y6 := k2.cell (show w1.drew.cell? ⟨w.heap.size, 6, none⟩ = _ from x6) (by simp); have u1 := T2.out.cell1; clear k2)
      | (go_at_call 130; ((with_reducible refine (val_any T2.out x.newR x.newI h1 h2).mono ?_); rintro e w4 ⟨rfl, k4⟩); have K4 := Lib.hid k4; have T4 := Lib.hid (T2.out.keep k4 (by simp) (by simp)); have A4 := Lib.hid (A2.out.keep k4 (by simp)); have q1 := k4.cell y1 (by simp); have q2 := k4.cell y2 (by simp); have q3 := k4.cell y3 (by simp); have q4 := k4.cell y4 (by simp); have q5 := k4.cell y5 (by simp); have q6 := k4.cell y6 (by simp); have u4 := T4.out.cell1; clear k4)
      | (go_at_call 167; refine (s_swap_hit A4.out slot x.cell (valOf t.regs x.oldR x.oldI) _ HI.out hc0 hc HW.out).mono ?_; rintro e w3 ⟨rfl, h3', k3⟩; have H3 := Lib.hid h3'; have K3 := Lib.hid k3; have T3 := Lib.hid (T4.out.keep k3 HO.out.tb HO.out.pv); have z1 := k3.cell q1 HX.out.2; have z2 := k3.cell q2 HX.out.2; have z3 := k3.cell q3 HX.out.2; have z4 := k3.cell q4 HX.out.2; have z5 := k3.cell q5 HX.out.2; have z6 := k3.cell q6 HX.out.2; have v1 := T3.out.cell1; clear h3' k3))
  have f0 := T3.out.free (2 + r)
  have r0 := T3.out.reg hr
  clear x1 x2 x3 x4 x5 x6 t1 y1 y2 y3 y4 y5 y6 u1 q1 q2 q3 q4 q5 q6 u4
  go_wp2_with fail
  refine wp_region_still_tail 6 (by kernel_rfl) (by kernel_rfl) ?_
  rw [show { heap := w3.heap, tape := w3.tape, drawn := w3.drawn + 1, os := w3.os, output := w3.output : World } = w3.drew from rfl]
  simp only [List.take_succ_cons, List.take_zero, List.drop_succ_cons, List.drop_zero]
  repeat still_step
  refine wpStill_nil ?_
  go_wp2_with fail
  have k5 : Keep (tb :: L.blocks) w (w3.drew.setCell ⟨tb, 2 + r, none⟩ (.int .u64 0)) := by
    have k3 : Keep (tb :: L.blocks) w w3.drew := (((kx.mono (by simp)).drew.trans (K2.out.mono (by simp))).trans ((K4.out.mono (by simp)).trans ((K3.out.mono fun x hx => List.mem_cons_of_mem _ hx).drew)))
    exact k3.set (.inl (List.mem_cons_self ..)) _ _
  have T5 := Lib.hid ((T3.out.keep ((Keep.refl [] w3).drew) (by simp) (by simp)).setReg hr 0)
  have A5 := Lib.hid ((H3.out.keep ((Keep.refl [] w3).drew) (by simp)).keep ((Keep.refl [tb] w3.drew).set (b := tb) (.inl (by simp)) (2 + r) (.int .u64 0)) (by simpa using HO.out.tb))
  have s2 := cell_aside (v := .int .u64 0) (show w3.drew.cell? ⟨w.heap.size, 2, none⟩ = _ from z2) (ne_block (o' := 2 + r) HXT.out)
  obtain ⟨w5, hw5⟩ : ∃ w5, w5 = w3.drew.setCell ⟨tb, 2 + r, none⟩ (.int .u64 0) := ⟨_, rfl⟩
  have K5 := Lib.hid k5
  have hw5' : (w3.setCell ⟨tb, 2 + r, none⟩ (.int .u64 0)).drew = w5 := hw5.symm
  rw [← hw5] at T5 A5 s2 K5
  clear k5 z1 z2 z3 z4 z5 z6 v1 f0 r0
  try rw [hw5']
  try rw [← hw5]
  clear hw5 hw5'
  have f5 := T5.out.free (2 + r)
  have r5 := T5.out.reg hr
  refine wp_region_still_tail 6 (by kernel_rfl) (by kernel_rfl) ?_
  rw [show { heap := w5.heap, tape := w5.tape, drawn := w5.drawn + 1, os := w5.os, output := w5.output : World } = w5.drew from rfl]
  simp only [List.take_succ_cons, List.take_zero, List.drop_succ_cons, List.drop_zero]
  repeat still_step
  refine wpStill_nil ?_
  go_wp2_with fail
  refine bodyPost_end (results_none rfl _ _ _) rfl ?_
  have T6 := (T5.out.keep ((Keep.refl [] w5).drew) (by simp) (by simp)).setReg hr 1
  have e1 : (t.regs.set r 0).set r 1 = t.regs.set r 1 := List.set_set ..
  simp only [e1] at T6
  exact ⟨rfl, T6, (A5.out.keep ((Keep.refl [] w5).drew) (by simp)).keep ((Keep.refl [tb] w5.drew).set (b := tb) (.inl (by simp)) (2 + r) (.int .u64 1)) (by simpa using HO.out.tb), (K5.out.drew).set (.inl (List.mem_cons_self ..)) _ _⟩

set_option maxHeartbeats 1000000 in
theorem do_swap_miss (h : ThAt w tb pv L.b slot t) (hA : Un.At 0 w L A) (hin : inUseB A slot = true) (ho : Off L tb pv) (x : Ins) (hc0 : 0 ≤ x.cell) (hc : x.cell < A.width) (h1 : -1 ≤ x.newR) (h2 : x.newR ≤ 3) (h3 : -1 ≤ x.oldR) (h4 : x.oldR ≤ 3) (r : Nat) (hr : r < 4) (hxr : x.reg = r) (hw : ¬ wordOf A slot x.cell = valOf t.regs x.oldR x.oldI) :
    Calls Tryz.prog 105 #[.pointer (some ⟨tb, 0, none⟩), .agg #[.int .i64 x.op, .int .i64 x.cell, .int .i64 x.reg, .int .i64 x.newR, .int .u64 x.newI, .int .i64 x.oldR, .int .u64 x.oldI, .int .i64 x.n]] w fun e w' => e = .returned (.tuple #[]) ∧
      ThAt w' tb pv L.b slot { t with regs := t.regs.set r 0 } ∧ Un.At 0 w' L (counted A) ∧ Keep (tb :: L.blocks) w w' := by
  obtain ⟨w1, hw1, kx, hT, hAA, hX, hxo, hxt⟩ := enter h hA x
  have x1 := hX.x1
  have x2 := hX.x2
  rw [hxr] at x2
  have x3 := hX.x3
  have x5 := hX.x5
  have x6 := hX.x6
  have x4 := hX.x4
  have t1 := hT.cell1
  have HT := Lib.hid hT
  have HA := Lib.hid hAA
  have HO := Lib.hid ho
  have HI := Lib.hid hin
  have HX := Lib.hid (And.intro hX hxo)
  have hm : ∀ w : World, (method 388 84 (.agg #[.pointer (some ⟨L.b, 0, none⟩), .int .i64 slot]) "strata/sched.swap").run Tryz.prog w = .ok (167, .agg #[.pointer (some ⟨L.b, 0, none⟩), .int .i64 slot]) w := fun w => m_swap _ w
  have hn : ∀ w : World, (nilAhead 388 84 (.agg #[.pointer (some ⟨L.b, 0, none⟩), .int .i64 slot]) "strata/sched.swap").run Tryz.prog w = .ok (some false) w := fun w => n_swap _ w
  have HXT := Lib.hid hxt
  have HW := Lib.hid hw
  have hr2 : (r : Int) < 4 := by omega
  have hr3 : 0 ≤ (r : Int) := by omega
  clear h hA hin ho hT hAA hX hxo hxt hxr hw
  go_enter Tryz.func105, Tryz.ntmps105
  go_wp2_with fail
  rw [show w.alloc (.cells #[.int .i64 x.op, .int .i64 x.cell, .int .i64 x.reg, .int .i64 x.newR, .int .u64 x.newI, .int .i64 x.oldR, .int .u64 x.oldI, .int .i64 x.n] 140 (0, 0)) = w1 from hw1]
  clear hw1
  go_region_held3 (fun w' => w'.cell? ⟨w.heap.size, 1, none⟩ = some (.int .i64 x.cell) ∧ w'.cell? ⟨w.heap.size, 2, none⟩ = some (.int .i64 r) ∧ w'.cell? ⟨w.heap.size, 3, none⟩ = some (.int .i64 x.newR) ∧ w'.cell? ⟨w.heap.size, 4, none⟩ = some (.int .u64 x.newI) ∧ w'.cell? ⟨w.heap.size, 5, none⟩ = some (.int .i64 x.oldR) ∧ w'.cell? ⟨w.heap.size, 6, none⟩ = some (.int .u64 x.oldI) ∧ w'.cell? ⟨tb, 1, none⟩ = some (.iface 84 (.agg #[.pointer (some ⟨L.b, 0, none⟩), .int .i64 slot]))) (go_keep)
    (first
      | (go_at_call 130; ((with_reducible refine (val_any (HT.out.keep ((Keep.refl [] w1).drew) (by simp) (by simp)) x.oldR x.oldI h3 h4).mono ?_); rintro e w2 ⟨rfl, k2⟩); have K2 := Lib.hid k2; have T2 := Lib.hid ((HT.out.keep ((Keep.refl [] w1).drew) (by simp) (by simp)).keep k2 (by simp) (by simp)); have A2 := Lib.hid (HA.out.drew.keep k2 (by simp)); have y1 := k2.cell (show w1.drew.cell? ⟨w.heap.size, 1, none⟩ = _ from x1) (by simp); have y2 := k2.cell (show w1.drew.cell? ⟨w.heap.size, 2, none⟩ = _ from x2) (by simp); have y3 := k2.cell (show w1.drew.cell? ⟨w.heap.size, 3, none⟩ = _ from x3) (by simp); have y4 := k2.cell (show w1.drew.cell? ⟨w.heap.size, 4, none⟩ = _ from x4) (by simp); have y5 := k2.cell (show w1.drew.cell? ⟨w.heap.size, 5, none⟩ = _ from x5) (by simp); have y6 := k2.cell (show w1.drew.cell? ⟨w.heap.size, 6, none⟩ = _ from x6) (by simp); have u1 := T2.out.cell1; clear k2)
      | (go_at_call 130; ((with_reducible refine (val_any T2.out x.newR x.newI h1 h2).mono ?_); rintro e w4 ⟨rfl, k4⟩); have K4 := Lib.hid k4; have T4 := Lib.hid (T2.out.keep k4 (by simp) (by simp)); have A4 := Lib.hid (A2.out.keep k4 (by simp)); have q1 := k4.cell y1 (by simp); have q2 := k4.cell y2 (by simp); have q3 := k4.cell y3 (by simp); have q4 := k4.cell y4 (by simp); have q5 := k4.cell y5 (by simp); have q6 := k4.cell y6 (by simp); have u4 := T4.out.cell1; clear k4)
      | (go_at_call 167; refine (s_swap_miss A4.out slot x.cell (valOf t.regs x.oldR x.oldI) _ HI.out hc0 hc HW.out).mono ?_; rintro e w3 ⟨rfl, h3', k3⟩; have H3 := Lib.hid h3'; have K3 := Lib.hid k3; have T3 := Lib.hid (T4.out.keep k3 HO.out.tb HO.out.pv); have z1 := k3.cell q1 HX.out.2; have z2 := k3.cell q2 HX.out.2; have z3 := k3.cell q3 HX.out.2; have z4 := k3.cell q4 HX.out.2; have z5 := k3.cell q5 HX.out.2; have z6 := k3.cell q6 HX.out.2; have v1 := T3.out.cell1; clear h3' k3))
  have f0 := T3.out.free (2 + r)
  have r0 := T3.out.reg hr
  clear x1 x2 x3 x4 x5 x6 t1 y1 y2 y3 y4 y5 y6 u1 q1 q2 q3 q4 q5 q6 u4
  go_wp2_with fail
  refine wp_region_still_tail 6 (by kernel_rfl) (by kernel_rfl) ?_
  rw [show { heap := w3.heap, tape := w3.tape, drawn := w3.drawn + 1, os := w3.os, output := w3.output : World } = w3.drew from rfl]
  simp only [List.take_succ_cons, List.take_zero, List.drop_succ_cons, List.drop_zero]
  repeat still_step
  refine wpStill_nil ?_
  go_wp2_with fail
  have k5 : Keep (tb :: L.blocks) w (w3.drew.setCell ⟨tb, 2 + r, none⟩ (.int .u64 0)) := by
    have k3 : Keep (tb :: L.blocks) w w3.drew := (((kx.mono (by simp)).drew.trans (K2.out.mono (by simp))).trans ((K4.out.mono (by simp)).trans ((K3.out.mono fun x hx => List.mem_cons_of_mem _ hx).drew)))
    exact k3.set (.inl (List.mem_cons_self ..)) _ _
  have T5 := Lib.hid ((T3.out.keep ((Keep.refl [] w3).drew) (by simp) (by simp)).setReg hr 0)
  have A5 := Lib.hid ((H3.out.keep ((Keep.refl [] w3).drew) (by simp)).keep ((Keep.refl [tb] w3.drew).set (b := tb) (.inl (by simp)) (2 + r) (.int .u64 0)) (by simpa using HO.out.tb))
  have s2 := cell_aside (v := .int .u64 0) (show w3.drew.cell? ⟨w.heap.size, 2, none⟩ = _ from z2) (ne_block (o' := 2 + r) HXT.out)
  obtain ⟨w5, hw5⟩ : ∃ w5, w5 = w3.drew.setCell ⟨tb, 2 + r, none⟩ (.int .u64 0) := ⟨_, rfl⟩
  have K5 := Lib.hid k5
  have hw5' : (w3.setCell ⟨tb, 2 + r, none⟩ (.int .u64 0)).drew = w5 := hw5.symm
  rw [← hw5] at T5 A5 s2 K5
  clear k5 z1 z2 z3 z4 z5 z6 v1 f0 r0
  try rw [hw5']
  try rw [← hw5]
  clear hw5 hw5'
  refine bodyPost_end (results_none rfl _ _ _) rfl ?_
  exact ⟨rfl, T5.out, A5.out, K5.out⟩

end Go.Proofs.YtdkdeiofjoccnaaGreat.Lit

/- A thread's skip. -/
namespace Go.Proofs.YtdkdeiofjoccnaaGreat.Lit
open Go.RowKit Go.Proofs.YtdkdeiofjoccnaaGreat.Mem Go.Proofs.YtdkdeiofjoccnaaGreat.Ar Go.Proofs.YtdkdeiofjoccnaaGreat.Un
set_option linter.unusedVariables false
set_option maxRecDepth 100000
variable {w : World} {L : Bk} {A : Arena Unit} {tb b slot : Nat} {pv : Value} {t : Th}

set_option maxHeartbeats 1000000 in
theorem do_skip (h : ThAt w tb pv L.b slot t) (hA : Un.At 0 w L A) (ho : Off L tb pv) (x : Ins) (h1 : -1 ≤ x.newR) (h2 : x.newR ≤ 3) (r : Nat) (hr : r < 4) (hxr : x.reg = r) (n : Nat) (hn1 : n ≤ 10) (hxn : x.n = n) (hat : t.at_ ≤ 100) (hpl : t.prog.length ≤ 100) :
    Calls Tryz.prog 107 #[.pointer (some ⟨tb, 0, none⟩), .agg #[.int .i64 x.op, .int .i64 x.cell, .int .i64 x.reg, .int .i64 x.newR, .int .u64 x.newI, .int .i64 x.oldR, .int .u64 x.oldI, .int .i64 x.n]] w fun e w' => e = .returned (.tuple #[]) ∧
      ThAt w' tb pv L.b slot (if nth t.regs r 0 = valOf t.regs x.newR x.newI then { t with at_ := min (t.at_ + n) t.prog.length } else t) ∧ Un.At 0 w' L A ∧ Keep (tb :: L.blocks) w w' := by
  obtain ⟨w1, hw1, kx, hT, hAA, hX, hxo, hxt⟩ := enter h hA x
  have x2 := hX.x2
  rw [hxr] at x2
  have x3 := hX.x3
  have x4 := hX.x4
  have x7 := hX.x7
  rw [hxn] at x7
  have r1 := hT.reg hr
  obtain ⟨p1, p2, hpv⟩ : ∃ a c, pv = .slice a t.prog.length c := by
    rcases hT.hp.2 with ⟨hv, hl⟩ | ⟨g, cap, cur, hv, -⟩
    · exact ⟨none, 0, by rw [hv, hl]⟩
    · exact ⟨_, _, hv⟩
  have HT := Lib.hid hT
  have HA := Lib.hid hAA
  have HO := Lib.hid ho
  have HX := Lib.hid (And.intro hX hxo)
  have HXT := Lib.hid hxt
  have HPV := Lib.hid hpv
  have hr2 : (r : Int) < 4 := by omega
  have hr3 : 0 ≤ (r : Int) := by omega
  clear h hA ho hT hAA hX hxo hxt hxr hxn hpv
  go_enter Tryz.func107, Tryz.ntmps107
  go_wp2_with fail
  rw [show w.alloc (.cells #[.int .i64 x.op, .int .i64 x.cell, .int .i64 x.reg, .int .i64 x.newR, .int .u64 x.newI, .int .i64 x.oldR, .int .u64 x.oldI, .int .i64 x.n] 140 (0, 0)) = w1 from hw1]
  clear hw1
  go_region_held3 (fun w' => w'.cell? ⟨w.heap.size, 2, none⟩ = some (.int .i64 r) ∧ w'.cell? ⟨w.heap.size, 3, none⟩ = some (.int .i64 x.newR) ∧ w'.cell? ⟨w.heap.size, 4, none⟩ = some (.int .u64 x.newI) ∧ w'.cell? ⟨tb, 2 + r, none⟩ = some (.int .u64 (nth t.regs r 0))) (go_keep)
    (first
      | (go_at_call 130; refine (val_any (HT.out.keep ((Keep.refl [] w1).drew) (by simp) (by simp)) x.newR x.newI h1 h2).mono ?_; rintro e w2 ⟨rfl, k2⟩; have K2 := Lib.hid k2; have T2 := Lib.hid ((HT.out.keep ((Keep.refl [] w1).drew) (by simp) (by simp)).keep k2 (by simp) (by simp)); have A2 := Lib.hid (HA.out.drew.keep k2 (by simp)); have y2 := k2.cell (show w1.drew.cell? ⟨w.heap.size, 2, none⟩ = _ from x2) (by simp); have y3 := k2.cell (show w1.drew.cell? ⟨w.heap.size, 3, none⟩ = _ from x3) (by simp); have y4 := k2.cell (show w1.drew.cell? ⟨w.heap.size, 4, none⟩ = _ from x4) (by simp); have y7 := k2.cell (show w1.drew.cell? ⟨w.heap.size, 7, none⟩ = _ from x7) (by simp); have u1 := T2.out.reg hr; clear k2))
  have t6 := T2.out.cell6
  have f6 := T2.out.free 6
  have t0 := T2.out.cell0
  rw [HPV.out] at t0
  have kk : Hid (Keep (tb :: L.blocks) w w2) := Lib.hid ((kx.mono (by simp)).drew.trans (K2.out.mono (by simp)))
  clear x2 x3 x4 x7 r1 y2 y3 y4 u1
  by_cases he : nth t.regs r 0 = valOf t.regs x.newR x.newI
  · have he' : (nth t.regs r 0 == valOf t.regs x.newR x.newI) = true := by simpa using he
    have HE := Lib.hid he
    clear he
    go_wp2_with fail
    have hsum := IntWalk.i64_in ((t.at_ : Int) + (n : Int)) (by omega)
    refine wp_region_still_tail 16 (by kernel_rfl) (by kernel_rfl) ?_
    rw [show { heap := w2.heap, tape := w2.tape, drawn := w2.drawn + 1, os := w2.os, output := w2.output : World } = w2.drew from rfl]
    simp only [List.take_succ_cons, List.take_zero, List.drop_succ_cons, List.drop_zero]
    repeat still_step
    refine wpStill_nil ?_
    go_wp2_with fail
    all_goals
      refine bodyPost_end (results_none rfl _ _ _) rfl ?_
      have q := T2.out.setAt (min (t.at_ + n) t.prog.length)
      have kd := kk.out.set (b := tb) (.inl (List.mem_cons_self ..)) 6 (.int .i64 ((min (t.at_ + n) t.prog.length : Nat) : Int))
      have ad := A2.out.keep ((Keep.refl [tb] w2).set (b := tb) (.inl (by simp)) 6 (.int .i64 ((min (t.at_ + n) t.prog.length : Nat) : Int))) (by simpa using HO.out.tb)
      first
        | rw [show ((min (t.at_ + n) t.prog.length : Nat) : Int) = (t.at_ : Int) + (n : Int) by omega] at q kd ad
        | rw [show ((min (t.at_ + n) t.prog.length : Nat) : Int) = (t.prog.length : Int) by omega] at q kd ad
      exact ⟨rfl, q.keep ((Keep.refl [] _).drew) (by simp) (by simp), ad.keep ((Keep.refl [] _).drew) (by simp), kd.drew⟩
  · have he' : (nth t.regs r 0 == valOf t.regs x.newR x.newI) = false := by simpa using he
    have HE := Lib.hid he
    clear he
    go_wp2_with fail
    refine bodyPost_end (results_none rfl _ _ _) rfl ?_
    refine ⟨rfl, ?_, A2.out, kk.out⟩
    first | exact T2.out | (rw [if_neg HE.out]; exact T2.out)
end Go.Proofs.YtdkdeiofjoccnaaGreat.Lit

/- A thread's act and Step. -/
namespace Go.Proofs.YtdkdeiofjoccnaaGreat.Lit
open Go.RowKit Go.Proofs.YtdkdeiofjoccnaaGreat.Mem Go.Proofs.YtdkdeiofjoccnaaGreat.Ar Go.Proofs.YtdkdeiofjoccnaaGreat.Un
set_option linter.unusedVariables false
set_option maxRecDepth 100000
variable {w : World} {L : Bk} {A : Arena Unit} {tb b slot : Nat} {pv : Value} {t : Th}

/-- what an instruction makes of the memory and of its thread -/
def actT (A : Arena Unit) (slot : Int) (t : Th) (x : Ins) : Arena Unit × Th :=
  if x.op = 1 then (counted A, { t with regs := t.regs.set x.reg.toNat (wordOf A slot x.cell) })
  else if x.op = 2 then (wrote A slot x.cell (valOf t.regs x.newR x.newI), t)
  else if x.op = 3 then
    if wordOf A slot x.cell = valOf t.regs x.oldR x.oldI then (wrote A slot x.cell (valOf t.regs x.newR x.newI), { t with regs := t.regs.set x.reg.toNat 1 }) else (counted A, { t with regs := t.regs.set x.reg.toNat 0 })
  else if x.op = 4 then (wrote A slot x.cell (uw (wordOf A slot x.cell + valOf t.regs x.newR x.newI)), { t with regs := t.regs.set x.reg.toNat (uw (uw (wordOf A slot x.cell + valOf t.regs x.newR x.newI) - valOf t.regs x.newR x.newI)) })
  else if x.op = 5 then (A, if nth t.regs x.reg.toNat 0 = valOf t.regs x.newR x.newI then { t with at_ := min (t.at_ + x.n.toNat) t.prog.length } else t)
  else (A, t)

/-- a thread over its memory -/
structure Runs (w : World) (L : Bk) (tb : Nat) (pv : Value) (slot : Nat) (A : Arena Unit) (t : Th) : Prop where
  th : ThAt w tb pv L.b slot t
  mem : Un.At 0 w L A
  use : inUseB A slot = true
  off : Off L tb pv
  fit : ∀ x ∈ t.prog, fitB x A.width = true
  short : t.prog.length ≤ 100
  at_ : t.at_ ≤ t.prog.length

theorem act1 (a : Value) (cell reg nr ni or oi n : Int) (Post : World → Prop)
    (hk : Calls Tryz.prog 103 #[a, .agg #[.int .i64 1, .int .i64 cell, .int .i64 reg, .int .i64 nr, .int .u64 ni, .int .i64 or, .int .u64 oi, .int .i64 n]] (w.alloc (.cells #[.int .i64 1, .int .i64 cell, .int .i64 reg, .int .i64 nr, .int .u64 ni, .int .i64 or, .int .u64 oi, .int .i64 n] 140 (0, 0))) fun e w' => e = .returned (.tuple #[]) ∧ Post w') :
    Calls Tryz.prog 83 #[a, .agg #[.int .i64 1, .int .i64 cell, .int .i64 reg, .int .i64 nr, .int .u64 ni, .int .i64 or, .int .u64 oi, .int .i64 n]] w fun e w' => e = .returned (.tuple #[]) ∧ Post w' := by
  have HK := Lib.hid hk
  clear hk
  go_enter Tryz.func83, Tryz.ntmps83
  go_wp2_with fail
  refine HK.out.mono ?_
  rintro e w' ⟨rfl, hp⟩
  have HP := Lib.hid hp
  clear hp
  go_wp2_with fail
  refine bodyPost_end (results_none rfl _ _ _) rfl ?_
  exact ⟨rfl, HP.out⟩

theorem act2 (a : Value) (cell reg nr ni or oi n : Int) (Post : World → Prop)
    (hk : Calls Tryz.prog 104 #[a, .agg #[.int .i64 2, .int .i64 cell, .int .i64 reg, .int .i64 nr, .int .u64 ni, .int .i64 or, .int .u64 oi, .int .i64 n]] (w.alloc (.cells #[.int .i64 2, .int .i64 cell, .int .i64 reg, .int .i64 nr, .int .u64 ni, .int .i64 or, .int .u64 oi, .int .i64 n] 140 (0, 0))) fun e w' => e = .returned (.tuple #[]) ∧ Post w') :
    Calls Tryz.prog 83 #[a, .agg #[.int .i64 2, .int .i64 cell, .int .i64 reg, .int .i64 nr, .int .u64 ni, .int .i64 or, .int .u64 oi, .int .i64 n]] w fun e w' => e = .returned (.tuple #[]) ∧ Post w' := by
  have HK := Lib.hid hk
  clear hk
  go_enter Tryz.func83, Tryz.ntmps83
  go_wp2_with fail
  refine HK.out.mono ?_
  rintro e w' ⟨rfl, hp⟩
  have HP := Lib.hid hp
  clear hp
  go_wp2_with fail
  refine bodyPost_end (results_none rfl _ _ _) rfl ?_
  exact ⟨rfl, HP.out⟩

theorem act3 (a : Value) (cell reg nr ni or oi n : Int) (Post : World → Prop)
    (hk : Calls Tryz.prog 105 #[a, .agg #[.int .i64 3, .int .i64 cell, .int .i64 reg, .int .i64 nr, .int .u64 ni, .int .i64 or, .int .u64 oi, .int .i64 n]] (w.alloc (.cells #[.int .i64 3, .int .i64 cell, .int .i64 reg, .int .i64 nr, .int .u64 ni, .int .i64 or, .int .u64 oi, .int .i64 n] 140 (0, 0))) fun e w' => e = .returned (.tuple #[]) ∧ Post w') :
    Calls Tryz.prog 83 #[a, .agg #[.int .i64 3, .int .i64 cell, .int .i64 reg, .int .i64 nr, .int .u64 ni, .int .i64 or, .int .u64 oi, .int .i64 n]] w fun e w' => e = .returned (.tuple #[]) ∧ Post w' := by
  have HK := Lib.hid hk
  clear hk
  go_enter Tryz.func83, Tryz.ntmps83
  go_wp2_with fail
  refine HK.out.mono ?_
  rintro e w' ⟨rfl, hp⟩
  have HP := Lib.hid hp
  clear hp
  go_wp2_with fail
  refine bodyPost_end (results_none rfl _ _ _) rfl ?_
  exact ⟨rfl, HP.out⟩

theorem act4 (a : Value) (cell reg nr ni or oi n : Int) (Post : World → Prop)
    (hk : Calls Tryz.prog 106 #[a, .agg #[.int .i64 4, .int .i64 cell, .int .i64 reg, .int .i64 nr, .int .u64 ni, .int .i64 or, .int .u64 oi, .int .i64 n]] (w.alloc (.cells #[.int .i64 4, .int .i64 cell, .int .i64 reg, .int .i64 nr, .int .u64 ni, .int .i64 or, .int .u64 oi, .int .i64 n] 140 (0, 0))) fun e w' => e = .returned (.tuple #[]) ∧ Post w') :
    Calls Tryz.prog 83 #[a, .agg #[.int .i64 4, .int .i64 cell, .int .i64 reg, .int .i64 nr, .int .u64 ni, .int .i64 or, .int .u64 oi, .int .i64 n]] w fun e w' => e = .returned (.tuple #[]) ∧ Post w' := by
  have HK := Lib.hid hk
  clear hk
  go_enter Tryz.func83, Tryz.ntmps83
  go_wp2_with fail
  refine HK.out.mono ?_
  rintro e w' ⟨rfl, hp⟩
  have HP := Lib.hid hp
  clear hp
  go_wp2_with fail
  refine bodyPost_end (results_none rfl _ _ _) rfl ?_
  exact ⟨rfl, HP.out⟩

theorem act5 (a : Value) (cell reg nr ni or oi n : Int) (Post : World → Prop)
    (hk : Calls Tryz.prog 107 #[a, .agg #[.int .i64 5, .int .i64 cell, .int .i64 reg, .int .i64 nr, .int .u64 ni, .int .i64 or, .int .u64 oi, .int .i64 n]] (w.alloc (.cells #[.int .i64 5, .int .i64 cell, .int .i64 reg, .int .i64 nr, .int .u64 ni, .int .i64 or, .int .u64 oi, .int .i64 n] 140 (0, 0))) fun e w' => e = .returned (.tuple #[]) ∧ Post w') :
    Calls Tryz.prog 83 #[a, .agg #[.int .i64 5, .int .i64 cell, .int .i64 reg, .int .i64 nr, .int .u64 ni, .int .i64 or, .int .u64 oi, .int .i64 n]] w fun e w' => e = .returned (.tuple #[]) ∧ Post w' := by
  have HK := Lib.hid hk
  clear hk
  go_enter Tryz.func83, Tryz.ntmps83
  go_wp2_with fail
  refine HK.out.mono ?_
  rintro e w' ⟨rfl, hp⟩
  have HP := Lib.hid hp
  clear hp
  go_wp2_with fail
  refine bodyPost_end (results_none rfl _ _ _) rfl ?_
  exact ⟨rfl, HP.out⟩

theorem act_any (h : ThAt w tb pv L.b slot t) (hA : Un.At 0 w L A) (hin : inUseB A slot = true) (ho : Off L tb pv) (x : Ins) (hf : fitB x A.width = true) (hat : t.at_ ≤ 100) (hpl : t.prog.length ≤ 100) :
    Calls Tryz.prog 83 #[.pointer (some ⟨tb, 0, none⟩), .agg #[.int .i64 x.op, .int .i64 x.cell, .int .i64 x.reg, .int .i64 x.newR, .int .u64 x.newI, .int .i64 x.oldR, .int .u64 x.oldI, .int .i64 x.n]] w fun e w' => e = .returned (.tuple #[]) ∧
      ThAt w' tb pv L.b slot (actT A slot t x).2 ∧ Un.At 0 w' L (actT A slot t x).1 ∧ Keep (tb :: L.blocks) w w' := by
  obtain ⟨w1, hw1, kx, hT, hA1, -, -, -⟩ := enter h hA x
  obtain ⟨op, cell, reg, nr, ni, or, oi, n⟩ := x
  have hw2 : w.alloc (.cells #[.int .i64 op, .int .i64 cell, .int .i64 reg, .int .i64 nr, .int .u64 ni, .int .i64 or, .int .u64 oi, .int .i64 n] 140 (0, 0)) = w1 := hw1
  have kk : ∀ w', Keep (tb :: L.blocks) w1 w' → Keep (tb :: L.blocks) w w' := fun w' k => (kx.mono (by simp)).trans k
  unfold fitB at hf
  unfold actT
  simp only at hf ⊢
  by_cases h1 : op = 1
  · subst h1
    simp only [if_true, Bool.and_eq_true, decide_eq_true_eq] at hf ⊢
    obtain ⟨⟨q1, q2⟩, q3, q4⟩ := hf
    obtain ⟨r, rfl⟩ : ∃ r : Nat, reg = r := ⟨reg.toNat, by omega⟩
    refine act1 _ cell r nr ni or oi n (fun w' => ThAt w' tb pv L.b slot _ ∧ Un.At 0 w' L _ ∧ Keep (tb :: L.blocks) w w') ?_
    rw [hw2]
    exact (do_load hT hA1 hin ho 1 cell r nr ni or oi n q1 q2 (by omega)).mono fun e w' ⟨p1, p2, p3, p4⟩ => ⟨p1, p2, p3, kk _ p4⟩
  by_cases h2 : op = 2
  · subst h2
    simp only [if_neg h1, if_true, Bool.and_eq_true, decide_eq_true_eq] at hf ⊢
    obtain ⟨⟨q1, q2⟩, q3, q4⟩ := hf
    refine act2 _ cell reg nr ni or oi n (fun w' => ThAt w' tb pv L.b slot _ ∧ Un.At 0 w' L _ ∧ Keep (tb :: L.blocks) w w') ?_
    rw [hw2]
    exact (do_store hT hA1 hin ho ⟨2, cell, reg, nr, ni, or, oi, n⟩ q1 q2 q3 q4).mono fun e w' ⟨p1, p2, p3, p4⟩ => ⟨p1, p2, p3, kk _ p4⟩
  by_cases h3 : op = 3
  · subst h3
    simp only [if_neg h1, if_neg h2, if_true, Bool.and_eq_true, decide_eq_true_eq] at hf ⊢
    obtain ⟨⟨⟨⟨q1, q2⟩, q3, q4⟩, q5, q6⟩, q7, q8⟩ := hf
    obtain ⟨r, rfl⟩ : ∃ r : Nat, reg = r := ⟨reg.toNat, by omega⟩
    by_cases hw : wordOf A slot cell = valOf t.regs or oi
    · rw [if_pos hw]
      refine act3 _ cell r nr ni or oi n (fun w' => ThAt w' tb pv L.b slot _ ∧ Un.At 0 w' L _ ∧ Keep (tb :: L.blocks) w w') ?_
      rw [hw2]
      exact (do_swap_hit hT hA1 hin ho ⟨3, cell, r, nr, ni, or, oi, n⟩ q1 q2 q5 q6 q7 q8 r (by omega) rfl hw).mono fun e w' ⟨p1, p2, p3, p4⟩ => ⟨p1, p2, p3, kk _ p4⟩
    · rw [if_neg hw]
      refine act3 _ cell r nr ni or oi n (fun w' => ThAt w' tb pv L.b slot _ ∧ Un.At 0 w' L _ ∧ Keep (tb :: L.blocks) w w') ?_
      rw [hw2]
      exact (do_swap_miss hT hA1 hin ho ⟨3, cell, r, nr, ni, or, oi, n⟩ q1 q2 q5 q6 q7 q8 r (by omega) rfl hw).mono fun e w' ⟨p1, p2, p3, p4⟩ => ⟨p1, p2, p3, kk _ p4⟩
  by_cases h4 : op = 4
  · subst h4
    simp only [if_neg h1, if_neg h2, if_neg h3, if_true, Bool.and_eq_true, decide_eq_true_eq] at hf ⊢
    obtain ⟨⟨⟨q1, q2⟩, q3, q4⟩, q5, q6⟩ := hf
    obtain ⟨r, rfl⟩ : ∃ r : Nat, reg = r := ⟨reg.toNat, by omega⟩
    refine act4 _ cell r nr ni or oi n (fun w' => ThAt w' tb pv L.b slot _ ∧ Un.At 0 w' L _ ∧ Keep (tb :: L.blocks) w w') ?_
    rw [hw2]
    exact (do_add hT hA1 hin ho ⟨4, cell, r, nr, ni, or, oi, n⟩ q1 q2 q5 q6 r (by omega) rfl).mono fun e w' ⟨p1, p2, p3, p4⟩ => ⟨p1, p2, p3, kk _ p4⟩
  by_cases h5 : op = 5
  · subst h5
    simp only [if_neg h1, if_neg h2, if_neg h3, if_neg h4, if_true, Bool.and_eq_true, decide_eq_true_eq] at hf ⊢
    obtain ⟨⟨⟨q3, q4⟩, q5, q6⟩, q7, q8⟩ := hf
    obtain ⟨r, rfl⟩ : ∃ r : Nat, reg = r := ⟨reg.toNat, by omega⟩
    obtain ⟨m, rfl⟩ : ∃ m : Nat, n = m := ⟨n.toNat, by omega⟩
    refine act5 _ cell r nr ni or oi m (fun w' => ThAt w' tb pv L.b slot _ ∧ Un.At 0 w' L _ ∧ Keep (tb :: L.blocks) w w') ?_
    rw [hw2]
    exact (do_skip hT hA1 ho ⟨5, cell, r, nr, ni, or, oi, m⟩ q5 q6 r (by omega) rfl m (by omega) rfl hat hpl).mono fun e w' ⟨p1, p2, p3, p4⟩ => ⟨p1, p2, p3, kk _ p4⟩
  · simp only [if_neg h1, if_neg h2, if_neg h3, if_neg h4, if_neg h5] at hf
    cases hf
end Go.Proofs.YtdkdeiofjoccnaaGreat.Lit

/- A thread's Step. -/
namespace Go.Proofs.YtdkdeiofjoccnaaGreat.Lit
open Go.RowKit Go.Proofs.YtdkdeiofjoccnaaGreat.Mem Go.Proofs.YtdkdeiofjoccnaaGreat.Ar Go.Proofs.YtdkdeiofjoccnaaGreat.Un
set_option linter.unusedVariables false
set_option maxRecDepth 100000
variable {w : World} {L : Bk} {A : Arena Unit} {tb b slot : Nat} {pv : Value} {t : Th}

/-- a step -/
def stepT (A : Arena Unit) (slot : Int) (t : Th) : (Arena Unit × Th) × Bool :=
  match t.prog[t.at_]? with
  | none => ((A, t), true)
  | some x => (actT A slot { t with at_ := t.at_ + 1 } x, decide (t.prog.length ≤ (actT A slot { t with at_ := t.at_ + 1 } x).2.at_))

theorem actT_same (A : Arena Unit) (slot : Int) (t : Th) (x : Ins) (h : t.at_ ≤ t.prog.length) : (actT A slot t x).2.prog = t.prog ∧ (actT A slot t x).2.at_ ≤ t.prog.length ∧ (actT A slot t x).1.width = A.width ∧ ∀ s, inUseB (actT A slot t x).1 s = inUseB A s := by
  unfold actT
  repeat' split
  all_goals first | exact ⟨rfl, h, rfl, fun _ => rfl⟩ | exact ⟨rfl, Nat.min_le_right _ _, rfl, fun _ => rfl⟩

theorem ThAt.ins (h : ThAt w tb pv b slot t) {i : Nat} (hi : i < t.prog.length) : ∃ g cap, pv = .slice (some ⟨g, 0, none⟩) t.prog.length cap ∧ ∀ j (hj : j < 8), w.cell? ⟨g, i * 8 + j, none⟩ = some ((t.prog[i].cells)[j]'(by simpa [Ins.cells] using hj)) := by
  obtain ⟨g, cap, hv, -, -⟩ := h.hp.form (by omega)
  refine ⟨g, cap, hv, fun j hj => ?_⟩
  have hc := h.hp.cells (g := g) (by rw [hv]; rfl) (i * 8 + j)
  have hadd : (⟨g, 0, none⟩ : Addr).add (i * 8 + j) = ⟨g, i * 8 + j, none⟩ := by unfold Addr.add; split <;> simp_all
  rw [hadd] at hc
  refine hc _ ?_
  have key : ∀ (l : List Ins) (i : Nat) (hi : i < l.length), (flatI l)[i * 8 + j]? = l[i].cells[j]? := by
    intro l
    induction l with
    | nil => intro i hi; simp at hi
    | cons x l ih =>
      intro i hi
      rw [show flatI (x :: l) = x.cells ++ flatI l by simp [flatI]]
      cases i with
      | zero => rw [List.getElem?_append_left (by show 0 * 8 + j < 8; omega)]; simp
      | succ i =>
        rw [List.getElem?_append_right (by show 8 ≤ _; omega), show (i + 1) * 8 + j - x.cells.length = i * 8 + j by show (i + 1) * 8 + j - 8 = _; omega]
        exact ih i (by simpa using hi)
  rw [key t.prog i hi]
  exact List.getElem?_eq_getElem _

/-- nothing left -/
theorem step_end (h : Runs w L tb pv slot A t) (he : t.prog.length ≤ t.at_) :
    Calls Tryz.prog 39 #[.pointer (some ⟨tb, 0, none⟩)] w fun e w' => e = .returned (.bool true) ∧ Keep [] w w' := by
  have t0 := h.th.cell0
  have t6 := h.th.cell6
  obtain ⟨p1, p2, hpv⟩ : ∃ a c, pv = .slice a t.prog.length c := by
    rcases h.th.hp.2 with ⟨hv, hl⟩ | ⟨g, cap, cur, hv, -⟩
    · exact ⟨none, 0, by rw [hv, hl]⟩
    · exact ⟨_, _, hv⟩
  rw [hpv] at t0
  have hd : decide ((t.prog.length : Nat) ≤ t.at_) = true := by simpa using he
  clear h hpv
  go_enter Tryz.func39, Tryz.ntmps39
  go_wp2_with fail
  go_quiet (fail)
  go_wp2_with fail
  go_ret
  exact ⟨rfl, (Keep.refl _ _).drewN _⟩

set_option maxHeartbeats 1000000 in
theorem step_on (h : Runs w L tb pv slot A t) (he : t.at_ < t.prog.length) :
    Calls Tryz.prog 39 #[.pointer (some ⟨tb, 0, none⟩)] w fun e w' => e = .returned (.bool (decide (t.prog.length ≤ (actT A slot { t with at_ := t.at_ + 1 } t.prog[t.at_]).2.at_))) ∧
      Runs w' L tb pv slot (actT A slot { t with at_ := t.at_ + 1 } t.prog[t.at_]).1 (actT A slot { t with at_ := t.at_ + 1 } t.prog[t.at_]).2 ∧ Keep (tb :: L.blocks) w w' := by
  have t0 := h.th.cell0
  have t6 := h.th.cell6
  have f6 := h.th.free 6
  obtain ⟨g, cap, hpv, hx⟩ := h.th.ins he
  rw [hpv] at t0
  have hsame := actT_same A slot { t with at_ := t.at_ + 1 } t.prog[t.at_] he
  have hft := h.fit t.prog[t.at_] (List.getElem_mem he)
  obtain ⟨x, hxx⟩ : ∃ x, x = t.prog[t.at_] := ⟨_, rfl⟩
  rw [← hxx] at hx hsame hft ⊢
  have x0 : w.cell? ⟨g, t.at_ * 8, none⟩ = some (.int .i64 x.op) := hx 0 (by omega)
  have x1 : w.cell? ⟨g, t.at_ * 8 + 1, none⟩ = some (.int .i64 x.cell) := hx 1 (by omega)
  have x2 : w.cell? ⟨g, t.at_ * 8 + 2, none⟩ = some (.int .i64 x.reg) := hx 2 (by omega)
  have x3 : w.cell? ⟨g, t.at_ * 8 + 3, none⟩ = some (.int .i64 x.newR) := hx 3 (by omega)
  have x4 : w.cell? ⟨g, t.at_ * 8 + 4, none⟩ = some (.int .u64 x.newI) := hx 4 (by omega)
  have x5 : w.cell? ⟨g, t.at_ * 8 + 5, none⟩ = some (.int .i64 x.oldR) := hx 5 (by omega)
  have x6 : w.cell? ⟨g, t.at_ * 8 + 6, none⟩ = some (.int .u64 x.oldI) := hx 6 (by omega)
  have x7 : w.cell? ⟨g, t.at_ * 8 + 7, none⟩ = some (.int .i64 x.n) := hx 7 (by omega)
  have hshort := h.short
  have HH := Lib.hid h
  have HS := Lib.hid hsame
  have HF := Lib.hid hft
  have HX := Lib.hid hxx
  have HPV := Lib.hid hpv
  have hd : decide ((t.prog.length : Nat) ≤ t.at_) = false := by simpa using he
  clear h hsame hft hxx hpv hx
  go_enter Tryz.func39, Tryz.ntmps39
  go_wp2_with fail
  go_quiet (fail)
  go_wp2_with fail
  obtain ⟨w1, hw1⟩ : ∃ w1, w1 = w.drewN nq := ⟨_, rfl⟩
  rw [← hw1]
  have K1 := Lib.hid (show Keep [] w w1 by rw [hw1]; exact (Keep.refl _ _).drewN _)
  clear hw1
  replace t0 := K1.out.cell t0 (by simp)
  replace t6 := K1.out.cell t6 (by simp)
  replace x0 := K1.out.cell x0 (by simp)
  replace x1 := K1.out.cell x1 (by simp)
  replace x2 := K1.out.cell x2 (by simp)
  replace x3 := K1.out.cell x3 (by simp)
  replace x4 := K1.out.cell x4 (by simp)
  replace x5 := K1.out.cell x5 (by simp)
  replace x6 := K1.out.cell x6 (by simp)
  replace x7 := K1.out.cell x7 (by simp)
  clear f6
  have n0 := World.new_ne w1 _ t0
  have nt6 := World.new_ne w1 _ t6
  have nx0 := World.new_ne w1 _ x0
  have nx1 := World.new_ne w1 _ x1
  have nx2 := World.new_ne w1 _ x2
  have nx3 := World.new_ne w1 _ x3
  have nx4 := World.new_ne w1 _ x4
  have nx5 := World.new_ne w1 _ x5
  have nx6 := World.new_ne w1 _ x6
  have nx7 := World.new_ne w1 _ x7
  go_region_held3 (fun w' => w'.cell? ⟨tb, 0, none⟩ = some (.slice (some ⟨g, 0, none⟩) t.prog.length cap) ∧ w'.cell? ⟨tb, 6, none⟩ = some (.int .i64 t.at_) ∧ w'.cell? ⟨g, t.at_ * 8, none⟩ = some (.int .i64 x.op) ∧ w'.cell? ⟨g, t.at_ * 8 + 1, none⟩ = some (.int .i64 x.cell) ∧ w'.cell? ⟨g, t.at_ * 8 + 2, none⟩ = some (.int .i64 x.reg) ∧ w'.cell? ⟨g, t.at_ * 8 + 3, none⟩ = some (.int .i64 x.newR) ∧ w'.cell? ⟨g, t.at_ * 8 + 4, none⟩ = some (.int .u64 x.newI) ∧ w'.cell? ⟨g, t.at_ * 8 + 5, none⟩ = some (.int .i64 x.oldR) ∧ w'.cell? ⟨g, t.at_ * 8 + 6, none⟩ = some (.int .u64 x.oldI) ∧ w'.cell? ⟨g, t.at_ * 8 + 7, none⟩ = some (.int .i64 x.n)) (go_keep) (fail)
  clear x0 x1 x2 x3 x4 x5 x6 x7 nt6 nx0 nx1 nx2 nx3 nx4 nx5 nx6 nx7 t0 t6
  obtain ⟨xb, hxb⟩ : ∃ xb, xb = w1.heap.size := ⟨_, rfl⟩
  obtain ⟨w2, hw2⟩ : ∃ w2, w2 = (w1.alloc (.cells #[.int .i64 x.op, .int .i64 x.cell, .int .i64 x.reg, .int .i64 x.newR, .int .u64 x.newI, .int .i64 x.oldR, .int .u64 x.oldI, .int .i64 x.n] 140)).drew := ⟨_, rfl⟩
  have hb2 : w2.heap[xb]? = some (.cells #[.int .i64 x.op, .int .i64 x.cell, .int .i64 x.reg, .int .i64 x.newR, .int .u64 x.newI, .int .i64 x.oldR, .int .u64 x.oldI, .int .i64 x.n] 140 (0, 0)) := by
    rw [hw2, hxb]
    exact alloc_new w1 _
  rw [← hw2, ← hxb]
  rw [← hxb] at n0
  have K2 := Lib.hid (show Keep [] w w2 by rw [hw2]; exact (K1.out.alloc _).drew)
  clear hw2 hxb
  have T2 := Lib.hid (HH.out.th.keep K2.out (by simp) (by simp))
  have A2 := Lib.hid (HH.out.mem.keep K2.out (by simp))
  have t6 := T2.out.cell6
  have f6 := T2.out.free 6
  have n1 := n0.symm
  have y0 : w2.cell? ⟨xb, 0, none⟩ = some (.int .i64 x.op) := by rw [cell_of hb2]; rfl
  have y1 : w2.cell? ⟨xb, 1, none⟩ = some (.int .i64 x.cell) := by rw [cell_of hb2]; rfl
  have y2 : w2.cell? ⟨xb, 2, none⟩ = some (.int .i64 x.reg) := by rw [cell_of hb2]; rfl
  have y3 : w2.cell? ⟨xb, 3, none⟩ = some (.int .i64 x.newR) := by rw [cell_of hb2]; rfl
  have y4 : w2.cell? ⟨xb, 4, none⟩ = some (.int .u64 x.newI) := by rw [cell_of hb2]; rfl
  have y5 : w2.cell? ⟨xb, 5, none⟩ = some (.int .i64 x.oldR) := by rw [cell_of hb2]; rfl
  have y6 : w2.cell? ⟨xb, 6, none⟩ = some (.int .u64 x.oldI) := by rw [cell_of hb2]; rfl
  have y7 : w2.cell? ⟨xb, 7, none⟩ = some (.int .i64 x.n) := by rw [cell_of hb2]; rfl
  clear hb2
  go_wp2_with fail
  have T3 := T2.out.setAt (t.at_ + 1)
  rw [show ((t.at_ + 1 : Nat) : Int) = (t.at_ : Int) + 1 by omega] at T3
  have A3 := A2.out.keep ((Keep.refl [tb] w2).set (b := tb) (.inl (by simp)) 6 (.int .i64 ((t.at_ : Int) + 1))) (by simpa using HH.out.off.tb)
  have K3 := Lib.hid ((K2.out.mono (S' := tb :: L.blocks) (by simp)).set (b := tb) (.inl (List.mem_cons_self ..)) 6 (.int .i64 ((t.at_ : Int) + 1)))
  refine (act_any T3 A3 HH.out.use HH.out.off x HF.out (by show t.at_ + 1 ≤ 100; omega) hshort).mono ?_
  rintro e w4 ⟨rfl, h4, a4, k4⟩
  obtain ⟨R, hR⟩ : ∃ R, R = actT A slot { t with at_ := t.at_ + 1 } x := ⟨_, rfl⟩
  have HSS := HS.out
  rw [← hR] at h4 a4 HSS
  have HR := Lib.hid hR
  have u0 := h4.cell0
  have u6 := h4.cell6
  rw [HPV.out] at u0
  have S4 := Lib.hid HSS
  have H4 := Lib.hid (And.intro h4 (And.intro a4 (K3.out.trans k4)))
  clear T3 A3 h4 a4 k4 hR HSS t6 f6 y0 y1 y2 y3 y4 y5 y6 y7 n0 n1
  go_wp2_with fail
  go_quiet (fail)
  go_wp2_with fail
  go_ret
  obtain ⟨q1, q2, q3, q4⟩ := S4.out
  rw [← HR.out]
  exact ⟨rfl, ⟨H4.out.1.keep ((Keep.refl [] w4).drewN _) (by simp) (by simp), H4.out.2.1.keep ((Keep.refl [] w4).drewN _) (by simp), by rw [q4]; exact HH.out.use, HH.out.off, fun y hy => by rw [q3]; exact HH.out.fit y (q1 ▸ hy), by rw [q1]; exact hshort, by rw [q1]; exact q2⟩, H4.out.2.2.drewN _⟩

/-- Step -/
theorem step (h : Runs w L tb pv slot A t) :
    Calls Tryz.prog 39 #[.pointer (some ⟨tb, 0, none⟩)] w fun e w' => e = .returned (.bool (stepT A slot t).2) ∧ Runs w' L tb pv slot (stepT A slot t).1.1 (stepT A slot t).1.2 ∧ Keep (tb :: L.blocks) w w' := by
  unfold stepT
  by_cases he : t.at_ < t.prog.length
  · rw [List.getElem?_eq_getElem he]
    exact step_on h he
  · rw [List.getElem?_eq_none (by omega)]
    refine (step_end h (by omega)).mono fun e w' ⟨q1, q2⟩ => ⟨q1, ⟨h.th.keep q2 (by simp) (by simp), h.mem.keep q2 (by simp), h.use, h.off, h.fit, h.short, h.at_⟩, q2.mono (by simp)⟩
end Go.Proofs.YtdkdeiofjoccnaaGreat.Lit
