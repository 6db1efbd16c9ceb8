/- strataref03.value, (*Program).Step: the walks. -/
import Derived.Test.YtdkdeiofjoccnaaGreatRefProg
import Derived.Test.YtdkdeiofjoccnaaGreatCopyLit
import Derived.StillTailTactics
namespace Go.Proofs.YtdkdeiofjoccnaaGreat.Ref
open Go.RowKit Go.Proofs.YtdkdeiofjoccnaaGreat.Mem Go.Proofs.YtdkdeiofjoccnaaGreat.Ar Go.Proofs.YtdkdeiofjoccnaaGreat.Un Go.Proofs.YtdkdeiofjoccnaaGreat.Lit
set_option linter.unusedVariables false
set_option maxRecDepth 100000

theorem value {w : World} {rb : Nat} {regs : List Int} (hr : w.heap[rb]? = some (.cells (regs.map (.int .u64)).toArray 75 (0, 0))) (hl : regs.length = 4) (r i : Int) (h : r < 4) :
    Calls Tryz.prog 84 #[.agg #[.int .i64 r, .int .u64 i], .slice (some ⟨rb, 0, none⟩) 4 4] w fun e w' => e = .returned (.int .u64 (Lit.valOf regs r i)) ∧ Keep [] w w' := by
  by_cases h0 : r < 0
  · have HV := Lib.hid (show Lit.valOf regs r i = i by unfold Lit.valOf; rw [if_pos h0])
    have h0' : ¬ 0 ≤ r := by omega
    rw [HV.out]
    clear hr hl
    go_enter Tryz.func84, Tryz.ntmps84
    go_wp2_with fail
    go_ret
    exact ⟨rfl, (Keep.refl _ _).alloc _⟩
  · obtain ⟨k, rfl⟩ : ∃ k : Nat, r = k := ⟨r.toNat, by omega⟩
    have hk : k < 4 := by omega
    have hc : ∀ o : Obj, (w.alloc o).cell? ⟨rb, k, none⟩ = some (.int .u64 (nth regs k 0)) := fun o => by
      rw [cell_of (alloc_some o hr), List.getElem?_toArray, List.getElem?_map, List.getElem?_eq_getElem (by omega)]
      simp [nth, List.getD_eq_getElem?_getD, List.getElem?_eq_getElem (show k < regs.length by omega)]
    have HV := Lib.hid (show Lit.valOf regs k i = IntKind.u64.wrap (i + nth regs k 0) by unfold Lit.valOf; rw [if_neg h0]; rfl)
    rw [HV.out]
    clear hr hl
    go_enter Tryz.func84, Tryz.ntmps84
    go_wp2_with fail
    obtain ⟨bx, hbx⟩ : ∃ x, x = w.heap.size := ⟨_, rfl⟩
    obtain ⟨w1, hw1⟩ : ∃ w1, w1 = w.alloc (.cells #[.int .i64 k, .int .u64 i] 138) := ⟨_, rfl⟩
    have K1 := Lib.hid (show Keep [] w w1 by rw [hw1]; exact (Keep.refl _ _).alloc _)
    have y1 : w1.cell? ⟨bx, 1, none⟩ = some (.int .u64 i) := (cell_of (show w1.heap[bx]? = some (.cells #[.int .i64 k, .int .u64 i] 138 (0, 0)) by rw [hw1, hbx]; exact alloc_new _ _) 1).trans rfl
    have y0 : w1.cell? ⟨bx, 0, none⟩ = some (.int .i64 k) := (cell_of (show w1.heap[bx]? = some (.cells #[.int .i64 k, .int .u64 i] 138 (0, 0)) by rw [hw1, hbx]; exact alloc_new _ _) 0).trans rfl
    have y2 : w1.cell? ⟨rb, k, none⟩ = some (.int .u64 (nth regs k 0)) := by rw [hw1]; exact hc _
    rw [← hw1, ← hbx]
    clear hw1 hbx hc
    go_quiet (fail)
    go_wp2_with fail
    go_ret
    exact ⟨rfl, K1.out.drewN _⟩

theorem min_run (b m : Nat) (w : World) : (Builtin.min_ #[3, 3] 3 #[.int .i64 b, .int .i64 (m : Int)]).run Tryz.prog w = .ok (.int .i64 ((min b m : Nat) : Int)) w := by
  rcases Nat.lt_trichotomy b m with h | h | h
  · rw [Nat.min_eq_left (by omega)]
    have h3 : ¬ (m : Int) < b := by omega
    simp [Builtin.min_, Builtin.min2, h3]
  · subst h
    have h3 : ¬ (b : Int) < b := by omega
    simp [Builtin.min_, Builtin.min2, h3]
  · rw [Nat.min_eq_right (by omega)]
    have h2 : (m : Int) < b := by omega
    simp [Builtin.min_, Builtin.min2, h2]

section
variable {w : World} {pb : Nat} {B : RB} {S : RP}

/-- what a step comes to -/
theorem step_fin (i : Nat) (hi : i < S.ths.length) (he : S.ths[i].at_ < S.ths[i].prog.length) {cs : List Int} {t' : Th} (hx : refAct S.cells (tP S.ths[i] (S.ths[i].at_ + 1)) S.ths[i].prog[S.ths[i].at_] = (cs, t')) :
    refStep S i = (⟨cs, S.ths.set i t'⟩, decide (S.ths[i].prog.length ≤ t'.at_)) := by
  unfold refStep
  simp only [List.getElem?_eq_getElem hi, List.getElem?_eq_getElem he, hx]
/-- what the end of a step reads -/
theorem PAt.tail (h : PAt w pb B S) (i : Nat) (h1 : i < B.ss.length) (h2 : i < S.ths.length) {pv : Value} (e : B.ss[i].pv = pv) : w.cell? ⟨B.tg, i * 3, none⟩ = some pv ∧ w.cell? ⟨B.tg, i * 3 + 2, none⟩ = some (.int .i64 S.ths[i].at_) := by
  have p0 := h.ths.cellAt (i * 3 + 0) (by omega)
  have p2 := h.ths.cellAt (i * 3 + 2) (by omega)
  rw [rows_at B.ss S.ths i 0 h1 h2 (by omega)] at p0
  rw [rows_at B.ss S.ths i 2 h1 h2 (by omega)] at p2
  exact ⟨by rw [← e]; exact p0, p2⟩

theorem PAt.cellFact (h : PAt w pb B S) {ci : Nat} (hc : ci < S.cells.length) : w.cell? ⟨B.cb, ci, none⟩ = some (.int .u64 (nth S.cells ci 0)) ∧ w.frozen? ⟨B.cb, ci, none⟩ = false := by
  refine ⟨?_, h.cells.frozenAt ci⟩
  rw [h.cells.cellAt ci (by omega), List.getElem?_map, List.getElem?_eq_getElem hc]
  simp [nth, List.getD_eq_getElem?_getD, List.getElem?_eq_getElem hc]
theorem regFact {rb : Nat} {regs : List Int} (hr : w.heap[rb]? = some (.cells (regs.map (.int .u64)).toArray 75 (0, 0))) {ri : Nat} (h : ri < regs.length) : w.cell? ⟨rb, ri, none⟩ = some (.int .u64 (nth regs ri 0)) ∧ w.frozen? ⟨rb, ri, none⟩ = false := by
  refine ⟨?_, free_of hr ri⟩
  rw [cell_of hr, List.getElem?_toArray, List.getElem?_map, List.getElem?_eq_getElem h]
  simp [nth, List.getD_eq_getElem?_getD, List.getElem?_eq_getElem h]
theorem step_all0 {w5 : World} (i : Nat) (hi : i < S.ths.length) (he : S.ths[i].at_ < S.ths[i].prog.length) {cs : List Int} {t' : Th} {pl : Nat} (hpl : pl = S.ths[i].prog.length) (hx : refAct S.cells (tP S.ths[i] (S.ths[i].at_ + 1)) S.ths[i].prog[S.ths[i].at_] = (cs, t'))
    (hP : PAt w5 pb B ⟨cs, S.ths.set i t'⟩) (hK : Keep B.mem w w5) : Ending.returned (.bool (decide (pl ≤ t'.at_))) = .returned (.bool (refStep S i).2) ∧ PAt w5 pb B (refStep S i).1 ∧ Keep B.mem w w5 := by
  rw [step_fin i hi he hx]
  exact ⟨by rw [hpl], hP, hK⟩

theorem PAt.tail1 (h : PAt w pb B S) (i : Nat) (h1 : i < B.ss.length) (h2 : i < S.ths.length) : w.cell? ⟨B.tg, i * 3 + 1, none⟩ = some (.slice (some ⟨B.ss[i].rb, 0, none⟩) 4 4) := by
  have p1 := h.ths.cellAt (i * 3 + 1) (by omega)
  rw [rows_at B.ss S.ths i 1 h1 h2 (by omega)] at p1
  exact p1
/-- the end of a step, all told -/
theorem step_all {w5 : World} (i : Nat) (hi : i < S.ths.length) (he : S.ths[i].at_ < S.ths[i].prog.length) {cs : List Int} {t1 t' : Th} {pl : Nat} (hpl : pl = S.ths[i].prog.length) (hx : refAct S.cells (tP S.ths[i] (S.ths[i].at_ + 1)) S.ths[i].prog[S.ths[i].at_] = (cs, t'))
    (hP : PAt w5 pb B ⟨cs, (S.ths.set i t1).set i t'⟩) (hK : Keep B.mem w w5) : Ending.returned (.bool (decide (pl ≤ t'.at_))) = .returned (.bool (refStep S i).2) ∧ PAt w5 pb B (refStep S i).1 ∧ Keep B.mem w w5 := by
  rw [step_fin i hi he hx]
  rw [List.set_set] at hP
  exact ⟨by rw [hpl], hP, hK⟩

/-- a thread at its end -/
theorem step_end (h : PAt w pb B S) (i : Nat) (hi : i < S.ths.length) (he : ¬ S.ths[i].at_ < S.ths[i].prog.length) :
    Calls Tryz.prog 40 #[.pointer (some ⟨pb, 0, none⟩), .int .i64 i] w fun e w' => e = .returned (.bool true) ∧ Keep [] w w' := by
  have hib : i < B.ss.length := by rw [h.len]; exact hi
  have c1 := h.c1
  have p0 := h.ths.cellAt (i * 3 + 0) (by omega)
  have p2 := h.ths.cellAt (i * 3 + 2) (by omega)
  rw [rows_at B.ss S.ths i 0 hib hi (by omega)] at p0
  rw [rows_at B.ss S.ths i 2 hib hi (by omega)] at p2
  obtain ⟨a, c, e, -⟩ := h.progs i hib hi
  have q0 : w.cell? ⟨B.tg, i * 3, none⟩ = some (.slice a S.ths[i].prog.length c) := by rw [← e]; exact p0
  have q2 : w.cell? ⟨B.tg, i * 3 + 2, none⟩ = some (.int .i64 S.ths[i].at_) := p2
  obtain ⟨n, hn⟩ : ∃ n, n = S.ths.length := ⟨_, rfl⟩
  obtain ⟨pl, hpl⟩ : ∃ x, x = S.ths[i].prog.length := ⟨_, rfl⟩
  obtain ⟨at_, hat⟩ : ∃ x, x = S.ths[i].at_ := ⟨_, rfl⟩
  rw [← hn] at c1 hi
  rw [← hpl, ← hat] at he
  rw [← hpl] at q0
  rw [← hat] at q2
  have he2 : pl ≤ at_ := by omega
  clear h p0 p2 e hn hpl hat hib
  go_enter Tryz.func40, Tryz.ntmps40
  go_wp2_with fail
  go_quiet (fail)
  go_wp2_with fail
  go_ret
  exact ⟨rfl, (Keep.refl _ _).drewN _⟩

set_option maxHeartbeats 4000000 in
theorem step_go (h : PAt w pb B S) (i : Nat) (hi : i < S.ths.length) (he : S.ths[i].at_ < S.ths[i].prog.length) :
    Calls Tryz.prog 40 #[.pointer (some ⟨pb, 0, none⟩), .int .i64 i] w fun e w' => e = .returned (.bool (refStep S i).2) ∧ PAt w' pb B (refStep S i).1 ∧ Keep B.mem w w' := by
  have hib : i < B.ss.length := by rw [h.len]; exact hi
  have c1 := h.c1
  have p0 := h.ths.cellAt (i * 3 + 0) (by omega)
  have p2 := h.ths.cellAt (i * 3 + 2) (by omega)
  rw [rows_at B.ss S.ths i 0 hib hi (by omega)] at p0
  rw [rows_at B.ss S.ths i 2 hib hi (by omega)] at p2
  obtain ⟨a, c, e, ho⟩ := h.progs i hib hi
  have q0 : w.cell? ⟨B.tg, i * 3, none⟩ = some (.slice a S.ths[i].prog.length c) := by rw [← e]; exact p0
  have q2 : w.cell? ⟨B.tg, i * 3 + 2, none⟩ = some (.int .i64 S.ths[i].at_) := p2
  have f2 := h.ths.frozenAt (i * 3 + 2)
  obtain ⟨n, hn⟩ : ∃ n, n = S.ths.length := ⟨_, rfl⟩
  have HP := Lib.hid h
  rw [e] at ho
  have hsee := sees_of ho
  have hx := hsee.ins he
  obtain ⟨x, hxx⟩ : ∃ x, x = S.ths[i].prog[S.ths[i].at_] := ⟨_, rfl⟩
  rw [← hxx] at hx
  obtain ⟨pl, hpl⟩ : ∃ x, x = S.ths[i].prog.length := ⟨_, rfl⟩
  obtain ⟨at_, hat⟩ : ∃ x, x = S.ths[i].at_ := ⟨_, rfl⟩
  rw [← hpl, ← hat] at he
  rw [← hpl] at q0
  rw [← hat] at q2 hx
  obtain ⟨g, o, rfl, x0, x1, x2, x3, x4, x5, x6, x7⟩ := hx
  obtain ⟨xop, xcell, xreg, xnr, xni, xor, xoi, xn⟩ := x
  simp only at x0 x1 x2 x3 x4 x5 x6 x7
  have HX := Lib.hid (And.intro hxx (And.intro hpl hat))
  have hi' : i < n := by rw [hn]; exact hi
  rw [← hn] at c1
  clear h p0 p2 e ho hsee hn hxx hpl hat
  go_enter Tryz.func40, Tryz.ntmps40
  go_wp2_with fail
  go_quiet (fail)
  obtain ⟨w2, hw2⟩ : ∃ w2, w2 = w.drewN nq := ⟨_, rfl⟩
  have K2 := Lib.hid (show Keep [] w w2 by rw [hw2]; exact (Keep.refl _ _).drewN _)
  have q0' := K2.out.cell q0 (by simp)
  have q2' := K2.out.cell q2 (by simp)
  rw [← hw2]
  clear hw2
  go_wp2_with fail
  have x0' := K2.out.cell x0 (by simp)
  have x1' := K2.out.cell x1 (by simp)
  have x2' := K2.out.cell x2 (by simp)
  have x3' := K2.out.cell x3 (by simp)
  have x4' := K2.out.cell x4 (by simp)
  have x5' := K2.out.cell x5 (by simp)
  have x6' := K2.out.cell x6 (by simp)
  have x7' := K2.out.cell x7 (by simp)
  have z0 : ∀ ob : Obj, (w2.alloc ob).drew.cell? ⟨B.tg, i * 3, none⟩ = _ := fun ob => ((Keep.refl [] w2).alloc ob).drew.cell q0' (by simp)
  have z2 : ∀ ob : Obj, (w2.alloc ob).drew.cell? ⟨B.tg, i * 3 + 2, none⟩ = _ := fun ob => ((Keep.refl [] w2).alloc ob).drew.cell q2' (by simp)
  have zx0 : ∀ ob : Obj, (w2.alloc ob).drew.cell? ⟨g, o + at_ * 8, none⟩ = _ := fun ob => ((Keep.refl [] w2).alloc ob).drew.cell x0' (by simp)
  have zx1 : ∀ ob : Obj, (w2.alloc ob).drew.cell? ⟨g, o + at_ * 8 + 1, none⟩ = _ := fun ob => ((Keep.refl [] w2).alloc ob).drew.cell x1' (by simp)
  have zx2 : ∀ ob : Obj, (w2.alloc ob).drew.cell? ⟨g, o + at_ * 8 + 2, none⟩ = _ := fun ob => ((Keep.refl [] w2).alloc ob).drew.cell x2' (by simp)
  have zx3 : ∀ ob : Obj, (w2.alloc ob).drew.cell? ⟨g, o + at_ * 8 + 3, none⟩ = _ := fun ob => ((Keep.refl [] w2).alloc ob).drew.cell x3' (by simp)
  have zx4 : ∀ ob : Obj, (w2.alloc ob).drew.cell? ⟨g, o + at_ * 8 + 4, none⟩ = _ := fun ob => ((Keep.refl [] w2).alloc ob).drew.cell x4' (by simp)
  have zx5 : ∀ ob : Obj, (w2.alloc ob).drew.cell? ⟨g, o + at_ * 8 + 5, none⟩ = _ := fun ob => ((Keep.refl [] w2).alloc ob).drew.cell x5' (by simp)
  have zx6 : ∀ ob : Obj, (w2.alloc ob).drew.cell? ⟨g, o + at_ * 8 + 6, none⟩ = _ := fun ob => ((Keep.refl [] w2).alloc ob).drew.cell x6' (by simp)
  have zx7 : ∀ ob : Obj, (w2.alloc ob).drew.cell? ⟨g, o + at_ * 8 + 7, none⟩ = _ := fun ob => ((Keep.refl [] w2).alloc ob).drew.cell x7' (by simp)
  go_cut [6] (fun v6 wx => ∃ bx, v6 = .pointer (some ⟨bx, 0, none⟩) ∧ wx.heap[bx]? = some (.cells #[.int .i64 xop, .int .i64 xcell, .int .i64 xreg, .int .i64 xnr, .int .u64 xni, .int .i64 xor, .int .u64 xoi, .int .i64 xn] 140 (0, 0)) ∧ w.heap.size ≤ bx ∧ Keep [] w wx)
  case first =>
    go_region_law (fail)
    all_goals
      go_wp2_with fail
      go_meet
      case rel => exact ⟨_, rfl, alloc_new _ _, K2.out.size, by first | exact K2.out.alloc _ | exact (K2.out.alloc _).drew | exact K2.out.drew.alloc _⟩
  case rest =>
    obtain ⟨bx, rfl, hbx, hbs, k3⟩ := hcut
    clear z0 z2 zx0 zx1 zx2 zx3 zx4 zx5 zx6 zx7 x0' x1' x2' x3' x4' x5' x6' x7' q0' q2'
    have K3 := Lib.hid k3
    have BX := Lib.hid (And.intro hbx hbs)
    clear hbx hbs k3
    have P3 := Lib.hid (HP.out.keep0 K3.out)
    have q3 := K3.out.cell q2 (by simp)
    have f3 := P3.out.ths.frozenAt (i * 3 + 2)
    have r3 : wrap64 ((at_ : Int) + 1) = ((at_ + 1 : Nat) : Int) := by rw [IntWalk.wrap64_in _ (by have := (HP.out.fit S.ths[i] (List.getElem_mem hi)).2.2; have := HX.out.2.1; omega)]; omega
    go_upto_region 6 with fail
    obtain ⟨w4, hw4⟩ : ∃ w4, w4 = wc.setCell ⟨B.tg, i * 3 + 2, none⟩ (.int .i64 ((at_ : Int) + 1)) := ⟨_, rfl⟩
    have htb : B.tg ∈ B.mem := List.mem_cons_of_mem _ (List.mem_cons_self ..)
    have hbt : bx ≠ B.tg := fun e => by have := HP.out.lt _ htb; have := BX.out.2; omega
    have P4 := Lib.hid (show PAt w4 pb B ⟨S.cells, S.ths.set i (tP S.ths[i] (at_ + 1))⟩ by
      rw [hw4, show ((at_ : Int) + 1) = ((at_ + 1 : Nat) : Int) from rfl]
      exact P3.out.setPlace hib hi (at_ + 1) (by have := HX.out.2.1; omega))
    have K4 := Lib.hid (show Keep B.mem w w4 by rw [hw4]; exact (K3.out.mono (by simp)).set (.inl htb) _ _)
    have B4 := Lib.hid (show w4.heap[bx]? = some (.cells #[.int .i64 xop, .int .i64 xcell, .int .i64 xreg, .int .i64 xnr, .int .u64 xni, .int .i64 xor, .int .u64 xoi, .int .i64 xn] 140 (0, 0)) by rw [hw4]; exact (set_other hbt _ _).trans BX.out.1)
    rw [← hw4]
    clear hw4 q3 f3 r3 hbt q0 q2 x0 x1 x2 x3 x4 x5 x6 x7 f2 c1 P3 htb
    have hi4 : i < (⟨S.cells, S.ths.set i (tP S.ths[i] (at_ + 1))⟩ : RP).ths.length := by simpa using hi
    have e4 : (⟨S.cells, S.ths.set i (tP S.ths[i] (at_ + 1))⟩ : RP).ths[i] = tP S.ths[i] (at_ + 1) := by simp
    have c0 := P4.out.c0
    have tp0 := P4.out.ths.cellAt (i * 3 + 0) (by omega)
    have tp1 := P4.out.ths.cellAt (i * 3 + 1) (by omega)
    have tp2 := P4.out.ths.cellAt (i * 3 + 2) (by omega)
    rw [rows_at B.ss _ i 0 hib hi4 (by omega), e4] at tp0
    rw [rows_at B.ss _ i 1 hib hi4 (by omega), e4] at tp1
    rw [rows_at B.ss _ i 2 hib hi4 (by omega), e4] at tp2
    obtain ⟨pa, pcc, pe, -⟩ := HP.out.progs i hib hi
    replace tp0 : w4.cell? ⟨B.tg, i * 3, none⟩ = some (.slice pa pl pcc) := by rw [HX.out.2.1, ← pe]; exact tp0
    replace tp1 : w4.cell? ⟨B.tg, i * 3 + 1, none⟩ = some (.slice (some ⟨B.ss[i].rb, 0, none⟩) 4 4) := tp1
    replace tp2 : w4.cell? ⟨B.tg, i * 3 + 2, none⟩ = some (.int .i64 ((at_ + 1 : Nat) : Int)) := tp2
    obtain ⟨rb, hrb⟩ : ∃ x, x = B.ss[i].rb := ⟨_, rfl⟩
    rw [← hrb] at tp1
    have hrg := P4.out.regs i hib hi4
    rw [e4, ← hrb] at hrg
    obtain ⟨rgs, hrgs⟩ : ∃ x, x = S.ths[i].regs := ⟨_, rfl⟩
    rw [show (tP S.ths[i] (at_ + 1)).regs = rgs from hrgs.symm] at hrg
    have RG := Lib.hid hrg
    have HRB := Lib.hid (And.intro hrb hrgs)
    have b0 := (cell_of B4.out 0).trans rfl
    have b1 := (cell_of B4.out 1).trans rfl
    have b2 := (cell_of B4.out 2).trans rfl
    obtain ⟨nc, hnc⟩ : ∃ x, x = S.cells.length := ⟨_, rfl⟩
    have hfit := (HP.out.fit S.ths[i] (List.getElem_mem hi)).1 _ (List.getElem_mem (by have := HX.out.2; omega : S.ths[i].at_ < S.ths[i].prog.length))
    rw [← HX.out.1, ← hnc] at hfit
    simp only [← hnc] at c0
    have HNC := Lib.hid hnc
    have PE := Lib.hid pe
    clear hrg hrb hrgs hi4 e4 pe hnc
    have hcase : (xop = 1 ∧ 0 ≤ xcell ∧ xcell < nc ∧ 0 ≤ xreg ∧ xreg ≤ 3) ∨ xop ≠ 1 := by
      by_cases h1 : xop = 1
      · subst h1
        simp only [fitB, if_true, Bool.and_eq_true, decide_eq_true_eq] at hfit
        exact .inl ⟨rfl, hfit.1.1, hfit.1.2, hfit.2.1, hfit.2.2⟩
      · exact .inr h1
    rcases hcase with ⟨rfl, h1, h2, h3, h4⟩ | hne
    · obtain ⟨ci, rfl⟩ : ∃ k : Nat, xcell = k := ⟨xcell.toNat, by omega⟩
      obtain ⟨ri, rfl⟩ : ∃ k : Nat, xreg = k := ⟨xreg.toNat, by omega⟩
      have hci : ci < nc := by omega
      have hri : ri < 4 := by omega
      have hcs : w4.cell? ⟨B.cb, ci, none⟩ = some (.int .u64 (nth S.cells ci 0)) := by
        have h5 := P4.out.cells.cellAt ci (by have := HNC.out; show ci < S.cells.length * 1; omega)
        rw [h5, List.getElem?_map, List.getElem?_eq_getElem (show ci < S.cells.length by have := HNC.out; omega)]
        simp [nth, List.getD_eq_getElem?_getD, List.getElem?_eq_getElem (show ci < S.cells.length by have := HNC.out; omega)]
      obtain ⟨v, hv⟩ : ∃ x, x = nth S.cells ci 0 := ⟨_, rfl⟩
      rw [← hv] at hcs
      have HV := Lib.hid hv
      obtain ⟨rold, hrc⟩ : ∃ v, w4.cell? ⟨rb, ri, none⟩ = some v := by
        refine ⟨_, (cell_of RG.out.1 ri).trans (Array.getElem?_eq_getElem (by rw [List.size_toArray, List.length_map]; have := RG.out.2; omega))⟩
      have hrf := free_of RG.out.1 ri
      clear hfit hv
      go_wp2_with fail
      refine wp_region_still_tail 14 (by kernel_rfl) (by kernel_rfl) ?_
      rw [show { heap := w4.heap, tape := w4.tape, drawn := w4.drawn + 1, os := w4.os, output := w4.output : World } = w4.drew from rfl]
      simp only [List.take_succ_cons, List.take_zero, List.drop_succ_cons, List.drop_zero]
      repeat still_step
      refine wpStill_nil ?_
      go_wp2_with fail
      obtain ⟨w5, hw5⟩ : ∃ w5, w5 = (w4.setCell ⟨rb, ri, none⟩ (.int .u64 v)).drew := ⟨_, rfl⟩
      have P5 := (P4.out.setReg hib (by simpa using hi) ri v).keep0 ((Keep.refl [] _).drew)
      simp only [List.getElem_set_self] at P5
      rw [← HRB.out.1, ← hw5] at P5
      have HP5 := Lib.hid P5
      obtain ⟨y0, y2⟩ := P5.tail i hib (by simpa using hi) PE.out
      simp only [List.getElem_set_self] at y2
      rw [← HX.out.2.1] at y0
      have K5 := Lib.hid (show Keep B.mem w w5 by rw [hw5]; exact (K4.out.set (.inl (by rw [HRB.out.1]; exact RB.mem_rb hib)) _ _).drew)
      rw [← hw5]
      clear hw5 P5 tp0 tp1 tp2 c0 hcs hrc hrf b0 b1 b2
      replace y2 : w5.cell? ⟨B.tg, i * 3 + 2, none⟩ = some (.int .i64 ((at_ + 1 : Nat) : Int)) := y2
      go_quiet (fail)
      go_wp2_with fail
      rw [show decide ((pl : Int) ≤ (at_ : Int) + 1) = decide (pl ≤ at_ + 1) from decide_eq_decide.2 (by omega)]
      go_ret
      refine step_all (t1 := tP S.ths[i] (at_ + 1)) (t' := tR (tP S.ths[i] (at_ + 1)) ((tP S.ths[i] (at_ + 1)).regs.set ri v)) i hi (by have := HX.out.2; omega) HX.out.2.1 ?_ (HP5.out.keep0 ((Keep.refl _ _).drewN _)) (K5.out.drewN _)
      rw [← HX.out.1, ← HX.out.2.2, HV.out]
      simp [refAct]
    · have hops : (xop = 2 ∧ 0 ≤ xcell ∧ xcell < nc) ∨ (xop = 3 ∧ 0 ≤ xcell ∧ xcell < nc ∧ 0 ≤ xreg ∧ xreg ≤ 3 ∧ xor ≤ 3) ∨ (xop = 4 ∧ 0 ≤ xcell ∧ xcell < nc ∧ 0 ≤ xreg ∧ xreg ≤ 3) ∨ (xop = 5 ∧ 0 ≤ xreg ∧ xreg ≤ 3 ∧ 1 ≤ xn ∧ xn ≤ 10) := by
        by_cases h2 : xop = 2
        · subst h2; simp [fitB] at hfit; omega
        by_cases h3 : xop = 3
        · subst h3; simp [fitB] at hfit; omega
        by_cases h4 : xop = 4
        · subst h4; simp [fitB] at hfit; omega
        by_cases h5 : xop = 5
        · subst h5; simp [fitB] at hfit; omega
        · simp [fitB, hne, h2, h3, h4, h5] at hfit
      have hnr : xnr < 4 := by
        rcases hops with ⟨rfl, -⟩ | ⟨rfl, -⟩ | ⟨rfl, -⟩ | ⟨rfl, -⟩ <;> simp [fitB] at hfit <;> omega
      have HOPS := Lib.hid hops
      have hne' : (xop != 1) = true := by simpa using hne
      have b3 := (cell_of B4.out 3).trans rfl
      have b4 := (cell_of B4.out 4).trans rfl
      obtain ⟨fr, hfr⟩ : ∃ x, x = Lit.valOf rgs xnr xni := ⟨_, rfl⟩
      have HFR := Lib.hid hfr
      clear hfit hne hops hfr
      go_wp2_with fail
      go_region_held3 (fun w' => w'.cell? ⟨bx, 3, none⟩ = some (.int .i64 xnr) ∧ w'.cell? ⟨bx, 4, none⟩ = some (.int .u64 xni) ∧ w'.cell? ⟨B.tg, i * 3 + 1, none⟩ = some (.slice (some ⟨rb, 0, none⟩) 4 4)) (go_keep)
        (first
          | (go_at_call 84; refine (value (w := w4.drew) (show w4.drew.heap[rb]? = _ from RG.out.1) RG.out.2 xnr xni hnr).mono ?_; rintro e w5 ⟨he, k5⟩; rw [← HFR.out] at he; subst he; have K5 := Lib.hid k5; have v0 := k5.cell (show w4.drew.cell? ⟨bx, 3, none⟩ = some (.int .i64 xnr) from b3) (by simp); have v1 := k5.cell (show w4.drew.cell? ⟨bx, 4, none⟩ = some (.int .u64 xni) from b4) (by simp); have v2 := k5.cell (show w4.drew.cell? ⟨B.tg, i * 3 + 1, none⟩ = _ from tp1) (by simp); clear k5))
      have KK := Lib.hid (show Keep [] w4 w5 from (Keep.refl [] w4).drew.trans K5.out)
      have P5 := Lib.hid (P4.out.keep0 KK.out)
      have B5 := Lib.hid (KK.out.old B4.out (by simp))
      have G5 := Lib.hid (KK.out.old RG.out.1 (by simp))
      have b0' := (cell_of B5.out 0).trans rfl
      have b1' := (cell_of B5.out 1).trans rfl
      have b2' := (cell_of B5.out 2).trans rfl
      have c0' := KK.out.cell c0 (by simp)
      have t0' := KK.out.cell tp0 (by simp)
      have t1' := KK.out.cell tp1 (by simp)
      have t2' := KK.out.cell tp2 (by simp)
      have K6 := Lib.hid (show Keep B.mem w w5 from K4.out.trans (KK.out.mono (by simp)))
      clear v0 v1 v2 b0 b1 b2 b3 b4 c0 tp0 tp1 tp2 K5 hne'
      rcases HOPS.out with ⟨rfl, h1, h2⟩ | ⟨rfl, h1, h2, h3, h4, h5⟩ | ⟨rfl, h1, h2, h3, h4⟩ | ⟨rfl, h3, h4, h5, h6⟩
      · obtain ⟨ci, rfl⟩ : ∃ k : Nat, xcell = k := ⟨xcell.toNat, by omega⟩
        have hci : ci < nc := by omega
        obtain ⟨y1, yf⟩ := P5.out.cellFact (ci := ci) (by have := HNC.out; show ci < S.cells.length; omega)
        go_wp2_with fail
        refine wp_region_still_tail 7 (by kernel_rfl) (by kernel_rfl) ?_
        rw [show { heap := w5.heap, tape := w5.tape, drawn := w5.drawn + 1, os := w5.os, output := w5.output : World } = w5.drew from rfl]
        simp only [List.take_succ_cons, List.take_zero, List.drop_succ_cons, List.drop_zero]
        repeat still_step
        refine wpStill_nil ?_
        go_wp2_with fail
        obtain ⟨w6, hw6⟩ : ∃ w6, w6 = (w5.setCell ⟨B.cb, ci, none⟩ (.int .u64 fr)).drew := ⟨_, rfl⟩
        have P6 := Lib.hid (show PAt w6 pb B ⟨S.cells.set ci fr, S.ths.set i (tP S.ths[i] (at_ + 1))⟩ by
          rw [hw6]
          exact (P5.out.setCellAt ci (by have := HNC.out; show ci < S.cells.length; omega) fr).keep0 ((Keep.refl [] _).drew))
        have K7 := Lib.hid (show Keep B.mem w w6 by rw [hw6]; exact (K6.out.set (.inl (List.mem_cons_self ..)) _ _).drew)
        obtain ⟨z0, z2⟩ := P6.out.tail i hib (by simpa using hi) PE.out
        simp only [List.getElem_set_self] at z2
        rw [← HX.out.2.1] at z0
        replace z2 : w6.cell? ⟨B.tg, i * 3 + 2, none⟩ = some (.int .i64 ((at_ + 1 : Nat) : Int)) := z2
        rw [← hw6]
        clear hw6 y1 yf b0' b1' b2' c0' t0' t1' t2'
        go_quiet (fail)
        go_wp2_with fail
        rw [show decide ((pl : Int) ≤ (at_ : Int) + 1) = decide (pl ≤ at_ + 1) from decide_eq_decide.2 (by omega)]
        go_ret
        refine step_all0 (t' := tP S.ths[i] (at_ + 1)) i hi (by have := HX.out.2; omega) HX.out.2.1 ?_ (P6.out.keep0 ((Keep.refl _ _).drewN _)) (K7.out.drewN _)
        rw [← HX.out.1, ← HX.out.2.2, HFR.out, HRB.out.2]
        simp [refAct, tP]
      · obtain ⟨ci, rfl⟩ : ∃ k : Nat, xcell = k := ⟨xcell.toNat, by omega⟩
        obtain ⟨ri, rfl⟩ : ∃ k : Nat, xreg = k := ⟨xreg.toNat, by omega⟩
        have hci : ci < nc := by omega
        have hri : ri < 4 := by omega
        have b5 := (cell_of B5.out 5).trans rfl
        have b6 := (cell_of B5.out 6).trans rfl
        obtain ⟨ol, hol⟩ : ∃ x, x = Lit.valOf rgs xor xoi := ⟨_, rfl⟩
        have HOL := Lib.hid hol
        clear hol
        go_wp2_with fail
        go_region_held3 (fun w' => w'.cell? ⟨bx, 5, none⟩ = some (.int .i64 xor) ∧ w'.cell? ⟨bx, 6, none⟩ = some (.int .u64 xoi) ∧ w'.cell? ⟨B.tg, i * 3 + 1, none⟩ = some (.slice (some ⟨rb, 0, none⟩) 4 4)) (go_keep)
          (first
            | (go_at_call 84; refine (value (w := w5.drew) (show w5.drew.heap[rb]? = _ from G5.out) RG.out.2 xor xoi (by omega)).mono ?_; rintro e w6 ⟨he, k6⟩; rw [← HOL.out] at he; subst he; have K6' := Lib.hid k6; have v0 := k6.cell (show w5.drew.cell? ⟨bx, 5, none⟩ = some (.int .i64 xor) from b5) (by simp); have v1 := k6.cell (show w5.drew.cell? ⟨bx, 6, none⟩ = some (.int .u64 xoi) from b6) (by simp); have v2 := k6.cell (show w5.drew.cell? ⟨B.tg, i * 3 + 1, none⟩ = _ from t1') (by simp); clear k6))
        have KL := Lib.hid (show Keep [] w5 w6 from (Keep.refl [] w5).drew.trans K6'.out)
        have P6 := Lib.hid (P5.out.keep0 KL.out)
        have B6 := Lib.hid (KL.out.old B5.out (by simp))
        have G6 := Lib.hid (KL.out.old G5.out (by simp))
        have K7 := Lib.hid (show Keep B.mem w w6 from K6.out.trans (KL.out.mono (by simp)))
        have d0 := (cell_of B6.out 0).trans rfl
        have d1 := (cell_of B6.out 1).trans rfl
        have d2 := (cell_of B6.out 2).trans rfl
        have e0 := KL.out.cell c0' (by simp)
        have e1 := KL.out.cell t1' (by simp)
        obtain ⟨y1, yf⟩ := P6.out.cellFact (ci := ci) (by have := HNC.out; show ci < S.cells.length; omega)
        replace y1 : w6.cell? ⟨B.cb, ci, none⟩ = some (.int .u64 (nth S.cells ci 0)) := y1
        obtain ⟨cv, hcv⟩ : ∃ x, x = nth S.cells ci 0 := ⟨_, rfl⟩
        rw [← hcv] at y1
        have HCV := Lib.hid hcv
        clear hcv v0 v1 v2 b0' b1' b2' b5 b6 c0' t0' t1' t2' K6'
        by_cases hcw : cv = ol
        · have hcb : (cv == ol) = true := by simpa using hcw
          have HCW := Lib.hid hcw
          clear hcw
          go_wp2_with fail
          go_quiet (fail)
          obtain ⟨w7, hw7⟩ : ∃ w7, w7 = w6.drewN nq := ⟨_, rfl⟩
          have KM := Lib.hid (show Keep [] w6 w7 by rw [hw7]; exact (Keep.refl _ _).drewN _)
          have P7 := Lib.hid (P6.out.keep0 KM.out)
          have K8 := Lib.hid (show Keep B.mem w w7 from K7.out.trans (KM.out.mono (by simp)))
          have B7 := Lib.hid (KM.out.old B6.out (by simp))
          have G7 := Lib.hid (KM.out.old G6.out (by simp))
          have u0 := (cell_of B7.out 1).trans rfl
          have u2 := (cell_of B7.out 2).trans rfl
          have u1 := KM.out.cell e0 (by simp)
          obtain ⟨y3, yh⟩ := P7.out.cellFact (ci := ci) (by have := HNC.out; show ci < S.cells.length; omega)
          rw [← hw7]
          clear hw7 d0 d1 d2 e0 y1 yf
          go_wp2_with fail
          refine wp_region_still_tail 7 (by kernel_rfl) (by kernel_rfl) ?_
          rw [show { heap := w7.heap, tape := w7.tape, drawn := w7.drawn + 1, os := w7.os, output := w7.output : World } = w7.drew from rfl]
          simp only [List.take_succ_cons, List.take_zero, List.drop_succ_cons, List.drop_zero]
          repeat still_step
          refine wpStill_nil ?_
          go_wp2_with fail
          obtain ⟨w8, hw8⟩ : ∃ w8, w8 = (w7.setCell ⟨B.cb, ci, none⟩ (.int .u64 fr)).drew := ⟨_, rfl⟩
          have P8 := Lib.hid (show PAt w8 pb B ⟨S.cells.set ci fr, S.ths.set i (tP S.ths[i] (at_ + 1))⟩ by
            rw [hw8]
            exact (P7.out.setCellAt ci (by have := HNC.out; show ci < S.cells.length; omega) fr).keep0 ((Keep.refl [] _).drew))
          have hbc : bx ≠ B.cb := fun e => by have := HP.out.lt B.cb (List.mem_cons_self ..); have := BX.out.2; omega
          have B8 := Lib.hid (show w8.heap[bx]? = some (.cells #[.int .i64 3, .int .i64 ci, .int .i64 ri, .int .i64 xnr, .int .u64 xni, .int .i64 xor, .int .u64 xoi, .int .i64 xn] 140 (0, 0)) by rw [hw8]; exact (set_other hbc _ _).trans B7.out)
          have K9 := Lib.hid (show Keep B.mem w w8 by rw [hw8]; exact (K8.out.set (.inl (List.mem_cons_self ..)) _ _).drew)
          have g2 := (cell_of B8.out 2).trans rfl
          have g1 := P8.out.tail1 i hib (by simpa using hi)
          rw [← HRB.out.1] at g1
          have G8 := (P8.out.regs i hib (by simpa using hi)).1
          simp only [List.getElem_set_self, ← HRB.out.1] at G8
          obtain ⟨y5, yi⟩ := regFact (regs := rgs) (ri := ri) (by rw [HRB.out.2]; exact G8) (by have := RG.out.2; omega)
          rw [← hw8]
          clear hw8 hbc G8 u0 u1 u2 y3 yh
          refine wp_region_still_tail 6 (by kernel_rfl) (by kernel_rfl) ?_
          rw [show { heap := w8.heap, tape := w8.tape, drawn := w8.drawn + 1, os := w8.os, output := w8.output : World } = w8.drew from rfl]
          simp only [List.take_succ_cons, List.take_zero, List.drop_succ_cons, List.drop_zero]
          repeat still_step
          refine wpStill_nil ?_
          go_wp2_with fail
          obtain ⟨w9, hw9⟩ : ∃ w9, w9 = (w8.setCell ⟨rb, ri, none⟩ (.int .u64 1)).drew := ⟨_, rfl⟩
          have P9 := (P8.out.setReg hib (by simpa using hi) ri 1).keep0 ((Keep.refl [] _).drew)
          simp only [List.getElem_set_self, List.set_set] at P9
          rw [← HRB.out.1, ← hw9] at P9
          have HP9 := Lib.hid P9
          have KA := Lib.hid (show Keep B.mem w w9 by rw [hw9]; exact (K9.out.set (.inl (by rw [HRB.out.1]; exact RB.mem_rb hib)) _ _).drew)
          rw [← hw9]
          clear hw9 P9 g1 g2 y5 yi
          obtain ⟨z0, z2⟩ := HP9.out.tail i hib (by simpa using hi) PE.out
          simp only [List.getElem_set_self] at z2
          rw [← HX.out.2.1] at z0
          replace z2 : w9.cell? ⟨B.tg, i * 3 + 2, none⟩ = some (.int .i64 ((at_ + 1 : Nat) : Int)) := z2
          go_quiet (fail)
          go_wp2_with fail
          rw [show decide ((pl : Int) ≤ (at_ : Int) + 1) = decide (pl ≤ at_ + 1) from decide_eq_decide.2 (by omega)]
          go_ret
          refine step_all0 (t' := tR (tP S.ths[i] (at_ + 1)) ((tP S.ths[i] (at_ + 1)).regs.set ri 1)) i hi (by have := HX.out.2; omega) HX.out.2.1 ?_ (HP9.out.keep0 ((Keep.refl _ _).drewN _)) (KA.out.drewN _)
          have hh := HCW.out
          rw [HCV.out, HOL.out, HRB.out.2] at hh
          rw [← HX.out.1, ← HX.out.2.2, HFR.out, HRB.out.2]
          simp only [refAct, tP]
          simp [hh]
        · have hcb : (cv == ol) = false := by simpa using hcw
          have HCW := Lib.hid hcw
          clear hcw
          go_wp2_with fail
          go_quiet (fail)
          obtain ⟨w7, hw7⟩ : ∃ w7, w7 = w6.drewN nq := ⟨_, rfl⟩
          have KM := Lib.hid (show Keep [] w6 w7 by rw [hw7]; exact (Keep.refl _ _).drewN _)
          have P7 := Lib.hid (P6.out.keep0 KM.out)
          have K8 := Lib.hid (show Keep B.mem w w7 from K7.out.trans (KM.out.mono (by simp)))
          have B7 := Lib.hid (KM.out.old B6.out (by simp))
          have G7 := Lib.hid (KM.out.old G6.out (by simp))
          have u2 := (cell_of B7.out 2).trans rfl
          have u1 := KM.out.cell e1 (by simp)
          obtain ⟨y3, yh⟩ := regFact G7.out (ri := ri) (by have := RG.out.2; omega)
          rw [← hw7]
          clear hw7 d0 d1 d2 e0 e1 y1 yf
          go_wp2_with fail
          refine wp_region_still_tail 6 (by kernel_rfl) (by kernel_rfl) ?_
          rw [show { heap := w7.heap, tape := w7.tape, drawn := w7.drawn + 1, os := w7.os, output := w7.output : World } = w7.drew from rfl]
          simp only [List.take_succ_cons, List.take_zero, List.drop_succ_cons, List.drop_zero]
          repeat still_step
          refine wpStill_nil ?_
          go_wp2_with fail
          obtain ⟨w9, hw9⟩ : ∃ w9, w9 = (w7.setCell ⟨rb, ri, none⟩ (.int .u64 0)).drew := ⟨_, rfl⟩
          have P9 := (P7.out.setReg hib (by simpa using hi) ri 0).keep0 ((Keep.refl [] _).drew)
          simp only [List.getElem_set_self, List.set_set] at P9
          rw [← HRB.out.1, ← hw9] at P9
          have HP9 := Lib.hid P9
          have KA := Lib.hid (show Keep B.mem w w9 by rw [hw9]; exact (K8.out.set (.inl (by rw [HRB.out.1]; exact RB.mem_rb hib)) _ _).drew)
          rw [← hw9]
          clear hw9 P9 u1 u2 y3 yh
          obtain ⟨z0, z2⟩ := HP9.out.tail i hib (by simpa using hi) PE.out
          simp only [List.getElem_set_self] at z2
          rw [← HX.out.2.1] at z0
          replace z2 : w9.cell? ⟨B.tg, i * 3 + 2, none⟩ = some (.int .i64 ((at_ + 1 : Nat) : Int)) := z2
          go_quiet (fail)
          go_wp2_with fail
          rw [show decide ((pl : Int) ≤ (at_ : Int) + 1) = decide (pl ≤ at_ + 1) from decide_eq_decide.2 (by omega)]
          go_ret
          refine step_all0 (t' := tR (tP S.ths[i] (at_ + 1)) ((tP S.ths[i] (at_ + 1)).regs.set ri 0)) i hi (by have := HX.out.2; omega) HX.out.2.1 ?_ (HP9.out.keep0 ((Keep.refl _ _).drewN _)) (KA.out.drewN _)
          have hh := HCW.out
          rw [HCV.out, HOL.out, HRB.out.2] at hh
          rw [← HX.out.1, ← HX.out.2.2]
          simp only [refAct, tP]
          simp [hh]
      · obtain ⟨ci, rfl⟩ : ∃ k : Nat, xcell = k := ⟨xcell.toNat, by omega⟩
        obtain ⟨ri, rfl⟩ : ∃ k : Nat, xreg = k := ⟨xreg.toNat, by omega⟩
        have hci : ci < nc := by omega
        have hri : ri < 4 := by omega
        obtain ⟨y1, yf⟩ := P5.out.cellFact (ci := ci) (by have := HNC.out; show ci < S.cells.length; omega)
        replace y1 : w5.cell? ⟨B.cb, ci, none⟩ = some (.int .u64 (nth S.cells ci 0)) := y1
        obtain ⟨cv, hcv⟩ : ∃ x, x = nth S.cells ci 0 := ⟨_, rfl⟩
        rw [← hcv] at y1
        have HCV := Lib.hid hcv
        obtain ⟨y2, yg⟩ := regFact G5.out (ri := ri) (by have := RG.out.2; omega)
        clear hcv
        go_wp2_with fail
        refine wp_region_still_tail 14 (by kernel_rfl) (by kernel_rfl) ?_
        rw [show { heap := w5.heap, tape := w5.tape, drawn := w5.drawn + 1, os := w5.os, output := w5.output : World } = w5.drew from rfl]
        simp only [List.take_succ_cons, List.take_zero, List.drop_succ_cons, List.drop_zero]
        repeat still_step
        refine wpStill_nil ?_
        go_wp2_with fail
        obtain ⟨w6, hw6⟩ : ∃ w6, w6 = (w5.setCell ⟨rb, ri, none⟩ (.int .u64 cv)).drew := ⟨_, rfl⟩
        have P6 := (P5.out.setReg hib (by simpa using hi) ri cv).keep0 ((Keep.refl [] _).drew)
        simp only [List.getElem_set_self, List.set_set] at P6
        rw [← HRB.out.1, ← hw6] at P6
        have HP6 := Lib.hid P6
        have hbr : bx ≠ rb := fun e => by
          have h7 := HP.out.lt _ (RB.mem_rb hib)
          rw [← HRB.out.1, ← e] at h7
          have := BX.out.2
          omega
        have B6 := Lib.hid (show w6.heap[bx]? = some (.cells #[.int .i64 4, .int .i64 ci, .int .i64 ri, .int .i64 xnr, .int .u64 xni, .int .i64 xor, .int .u64 xoi, .int .i64 xn] 140 (0, 0)) by rw [hw6]; exact (set_other hbr _ _).trans B5.out)
        have K7 := Lib.hid (show Keep B.mem w w6 by rw [hw6]; exact (K6.out.set (.inl (by rw [HRB.out.1]; exact RB.mem_rb hib)) _ _).drew)
        have d1 := (cell_of B6.out 1).trans rfl
        have e0 := P6.c0
        simp only at e0
        rw [← HNC.out] at e0
        obtain ⟨y3, yh⟩ := P6.cellFact (ci := ci) (by have := HNC.out; show ci < S.cells.length; omega)
        replace y3 : w6.cell? ⟨B.cb, ci, none⟩ = some (.int .u64 cv) := by rw [HCV.out]; exact y3
        rw [← hw6]
        clear hw6 P6 hbr y1 yf y2 yg b0' b1' b2' c0' t0' t1' t2'
        refine wp_region_still_tail 16 (by kernel_rfl) (by kernel_rfl) ?_
        rw [show { heap := w6.heap, tape := w6.tape, drawn := w6.drawn + 1, os := w6.os, output := w6.output : World } = w6.drew from rfl]
        simp only [List.take_succ_cons, List.take_zero, List.drop_succ_cons, List.drop_zero]
        repeat still_step
        refine wpStill_nil ?_
        go_wp2_with fail
        obtain ⟨w9, hw9⟩ : ∃ w9, w9 = (w6.setCell ⟨B.cb, ci, none⟩ (.int .u64 (IntKind.u64.wrap (cv + fr)))).drew := ⟨_, rfl⟩
        have P9 := Lib.hid (show PAt w9 pb B ⟨S.cells.set ci (IntKind.u64.wrap (cv + fr)), S.ths.set i (tR (tP S.ths[i] (at_ + 1)) ((tP S.ths[i] (at_ + 1)).regs.set ri cv))⟩ by
          rw [hw9]
          exact (HP6.out.setCellAt ci (by have := HNC.out; show ci < S.cells.length; omega) _).keep0 ((Keep.refl [] _).drew))
        have KA := Lib.hid (show Keep B.mem w w9 by rw [hw9]; exact (K7.out.set (.inl (List.mem_cons_self ..)) _ _).drew)
        rw [← hw9]
        clear hw9 d1 e0 y3 yh
        obtain ⟨z0, z2⟩ := P9.out.tail i hib (by simpa using hi) PE.out
        simp only [List.getElem_set_self] at z2
        rw [← HX.out.2.1] at z0
        replace z2 : w9.cell? ⟨B.tg, i * 3 + 2, none⟩ = some (.int .i64 ((at_ + 1 : Nat) : Int)) := z2
        go_quiet (fail)
        go_wp2_with fail
        rw [show decide ((pl : Int) ≤ (at_ : Int) + 1) = decide (pl ≤ at_ + 1) from decide_eq_decide.2 (by omega)]
        go_ret
        refine step_all0 (t' := tR (tP S.ths[i] (at_ + 1)) ((tP S.ths[i] (at_ + 1)).regs.set ri cv)) i hi (by have := HX.out.2; omega) HX.out.2.1 ?_ (P9.out.keep0 ((Keep.refl _ _).drewN _)) (KA.out.drewN _)
        rw [← HX.out.1, ← HX.out.2.2, HCV.out, HFR.out, HRB.out.2]
        simp only [refAct, tP]
        simp [uw]
      · obtain ⟨ri, rfl⟩ : ∃ k : Nat, xreg = k := ⟨xreg.toNat, by omega⟩
        have hri : ri < 4 := by omega
        have b7 := (cell_of B5.out 7).trans rfl
        obtain ⟨y2, yg⟩ := regFact G5.out (ri := ri) (by have := RG.out.2; omega)
        obtain ⟨rv, hrv⟩ : ∃ x, x = nth rgs ri 0 := ⟨_, rfl⟩
        rw [← hrv] at y2
        have HRV := Lib.hid hrv
        clear hrv
        by_cases hcw : rv = fr
        · have hcb : (rv == fr) = true := by simpa using hcw
          have HCW := Lib.hid hcw
          clear hcw
          obtain ⟨nn, rfl⟩ : ∃ k : Nat, xn = k := ⟨xn.toNat, by omega⟩
          go_wp2_with fail
          go_quiet (fail)
          obtain ⟨w6, hw6⟩ : ∃ w6, w6 = w5.drewN nq := ⟨_, rfl⟩
          have KM := Lib.hid (show Keep [] w5 w6 by rw [hw6]; exact (Keep.refl _ _).drewN _)
          have P6 := Lib.hid (P5.out.keep0 KM.out)
          have K7 := Lib.hid (show Keep B.mem w w6 from K6.out.trans (KM.out.mono (by simp)))
          have B6 := Lib.hid (KM.out.old B5.out (by simp))
          have u7 := (cell_of B6.out 7).trans rfl
          have u0 := KM.out.cell t0' (by simp)
          have u2 := KM.out.cell t2' (by simp)
          have uf := P6.out.ths.frozenAt (i * 3 + 2)
          have r1 : wrap64 (((at_ + 1 : Nat) : Int) + (nn : Int)) = ((at_ + 1 + nn : Nat) : Int) := by
            have := (HP.out.fit S.ths[i] (List.getElem_mem hi)).2.2
            have := HX.out.2.1
            rw [IntWalk.wrap64_in _ (by omega)]; omega
          obtain ⟨a2, ha2⟩ : ∃ x, x = at_ + 1 + nn := ⟨_, rfl⟩
          obtain ⟨a1, ha1⟩ : ∃ x, x = at_ + 1 := ⟨_, rfl⟩
          rw [← ha2] at r1
          rw [← ha1] at r1 u2
          have r2 : IntKind.i64.wrap ((a1 : Int) + (nn : Int)) = (a2 : Int) := by first | exact r1 | (rw [← IntWalk.i64_left]; exact r1) | (rw [IntWalk.i64_left]; exact r1)
          have HMM := Lib.hid (And.intro ha2 ha1)
          rw [← hw6]
          clear hw6 b0' b1' b2' c0' t0' t1' t2' y2 yg b7 ha2 ha1
          go_wp2_with fail
          rcases Nat.lt_or_ge pl a2 with hlt | hge
          · have hlt' : (pl : Int) < (a2 : Int) := by omega
            refine wp_region_still_tail 14 (by kernel_rfl) (by kernel_rfl) ?_
            rw [show { heap := w6.heap, tape := w6.tape, drawn := w6.drawn + 1, os := w6.os, output := w6.output : World } = w6.drew from rfl]
            simp only [List.take_succ_cons, List.take_zero, List.drop_succ_cons, List.drop_zero]
            repeat still_step
            refine wpStill_nil ?_
            go_wp2_with fail
            obtain ⟨w9, hw9⟩ : ∃ w9, w9 = (w6.setCell ⟨B.tg, i * 3 + 2, none⟩ (.int .i64 (pl : Int))).drew := ⟨_, rfl⟩
            have P9 := (P6.out.setPlace hib (by simpa using hi) pl (by
              simp only [List.getElem_set_self, tP]
              have := HX.out.2.1
              omega)).keep0 ((Keep.refl [] _).drew)
            simp only [List.getElem_set_self, List.set_set] at P9
            rw [← hw9] at P9
            have HP9 := Lib.hid P9
            have KA := Lib.hid (show Keep B.mem w w9 by rw [hw9]; exact (K7.out.set (.inl (List.mem_cons_of_mem _ (List.mem_cons_self ..))) _ _).drew)
            rw [← hw9]
            clear hw9 P9 u0 u2 u7 uf r1 hcb
            obtain ⟨z0, z2⟩ := HP9.out.tail i hib (by simpa using hi) PE.out
            simp only [List.getElem_set_self] at z2
            rw [← HX.out.2.1] at z0
            replace z2 : w9.cell? ⟨B.tg, i * 3 + 2, none⟩ = some (.int .i64 (pl : Int)) := z2
            go_quiet (fail)
            go_wp2_with fail
            have hfin := step_all0 (t' := tP (tP S.ths[i] (at_ + 1)) pl) i hi (by have := HX.out.2; omega) HX.out.2.1 (by
              have hh := HCW.out
              rw [HRV.out, HFR.out, HRB.out.2] at hh
              have hmin : min (at_ + 1 + nn) S.ths[i].prog.length = pl := by
                have := HX.out.2.1
                have := HMM.out
                omega
              rw [← HX.out.1, ← HX.out.2.2]
              simp only [refAct, tP]
              simp [hh, hmin]) (HP9.out.keep0 ((Keep.refl _ _).drewN nq)) (KA.out.drewN nq)
            have hb : decide (pl ≤ pl) = true := by simp
            rw [show (tP (tP S.ths[i] (at_ + 1)) pl).at_ = pl from rfl, hb] at hfin
            go_ret
            exact hfin
          · have hge' : ¬ (pl : Int) < (a2 : Int) := by omega
            refine wp_region_still_tail 14 (by kernel_rfl) (by kernel_rfl) ?_
            rw [show { heap := w6.heap, tape := w6.tape, drawn := w6.drawn + 1, os := w6.os, output := w6.output : World } = w6.drew from rfl]
            simp only [List.take_succ_cons, List.take_zero, List.drop_succ_cons, List.drop_zero]
            repeat still_step
            refine wpStill_nil ?_
            go_wp2_with fail
            obtain ⟨w9, hw9⟩ : ∃ w9, w9 = (w6.setCell ⟨B.tg, i * 3 + 2, none⟩ (.int .i64 (a2 : Int))).drew := ⟨_, rfl⟩
            have P9 := (P6.out.setPlace hib (by simpa using hi) a2 (by
              simp only [List.getElem_set_self, tP]
              have := HX.out.2.1
              omega)).keep0 ((Keep.refl [] _).drew)
            simp only [List.getElem_set_self, List.set_set] at P9
            rw [← hw9] at P9
            have HP9 := Lib.hid P9
            have KA := Lib.hid (show Keep B.mem w w9 by rw [hw9]; exact (K7.out.set (.inl (List.mem_cons_of_mem _ (List.mem_cons_self ..))) _ _).drew)
            rw [← hw9]
            clear hw9 P9 u0 u2 u7 uf r1 hcb
            obtain ⟨z0, z2⟩ := HP9.out.tail i hib (by simpa using hi) PE.out
            simp only [List.getElem_set_self] at z2
            rw [← HX.out.2.1] at z0
            replace z2 : w9.cell? ⟨B.tg, i * 3 + 2, none⟩ = some (.int .i64 (a2 : Int)) := z2
            go_quiet (fail)
            go_wp2_with fail
            have hfin := step_all0 (t' := tP (tP S.ths[i] (at_ + 1)) a2) i hi (by have := HX.out.2; omega) HX.out.2.1 (by
              have hh := HCW.out
              rw [HRV.out, HFR.out, HRB.out.2] at hh
              have hmin : min (at_ + 1 + nn) S.ths[i].prog.length = a2 := by
                have := HX.out.2.1
                have := HMM.out
                omega
              rw [← HX.out.1, ← HX.out.2.2]
              simp only [refAct, tP]
              simp [hh, hmin]) (HP9.out.keep0 ((Keep.refl _ _).drewN nq)) (KA.out.drewN nq)
            rw [show (tP (tP S.ths[i] (at_ + 1)) a2).at_ = a2 from rfl] at hfin
            go_ret
            exact hfin
        · have hcb : (rv == fr) = false := by simpa using hcw
          have HCW := Lib.hid hcw
          clear hcw
          go_wp2_with fail
          go_quiet (fail)
          obtain ⟨w6, hw6⟩ : ∃ w6, w6 = w5.drewN nq := ⟨_, rfl⟩
          have P6 := Lib.hid (show PAt w6 pb B _ by rw [hw6]; exact P5.out.keep0 ((Keep.refl _ _).drewN _))
          have K7 := Lib.hid (show Keep B.mem w w6 by rw [hw6]; exact K6.out.drewN _)
          obtain ⟨z0, z2⟩ := P6.out.tail i hib (by simpa using hi) PE.out
          simp only [List.getElem_set_self] at z2
          rw [← HX.out.2.1] at z0
          replace z2 : w6.cell? ⟨B.tg, i * 3 + 2, none⟩ = some (.int .i64 ((at_ + 1 : Nat) : Int)) := z2
          rw [← hw6]
          clear hw6 b0' b1' b2' c0' t0' t1' t2' y2 yg b7
          go_wp2_with fail
          go_quiet (fail)
          go_wp2_with fail
          rw [show decide ((pl : Int) ≤ (at_ : Int) + 1) = decide (pl ≤ at_ + 1) from decide_eq_decide.2 (by omega)]
          go_ret
          refine step_all0 (t' := tP S.ths[i] (at_ + 1)) i hi (by have := HX.out.2; omega) HX.out.2.1 ?_ (P6.out.keep0 ((Keep.refl _ _).drewN _)) (K7.out.drewN _)
          have hh := HCW.out
          rw [HRV.out, HFR.out, HRB.out.2] at hh
          rw [← HX.out.1, ← HX.out.2.2]
          simp only [refAct, tP]
          simp [hh]
end
end Go.Proofs.YtdkdeiofjoccnaaGreat.Ref
