import Derived.Test.YtgagiggljlikbaaGreatLwA
import Derived.BigQuiet
/- Layer 4's scripts: world.step, world.ask, world.machine. -/
namespace Go.Proofs.YtgagiggljlikbaaGreat.Lw
open Go.RowKit Go.Proofs.YtgagiggljlikbaaGreat.Mem Go.Proofs.YtgagiggljlikbaaGreat.Ar Go.Proofs.YtgagiggljlikbaaGreat.En Go.Proofs.YtgagiggljlikbaaGreat.Ch Go.Proofs.YtgagiggljlikbaaGreat.Rc
open Go.Proofs.YtgagiggljlikbaaGreat.Ra (owns_block RAt rBlocks)
set_option linter.unusedVariables false
set_option linter.unusedSimpArgs false
set_option maxRecDepth 100000
section
variable {w w' w2 w0 : World} {f f' : Lab} {g : Lay} {X : Nat → CI} {A A' : Ars} {Q Q' : List Nat} {ms : List One} {qv qv' : Value} {bs bs' : List (Option Nat)} {S : List Nat} {Y : CI} {k wd : Nat} {o : One} {m' : Mach} {hold : Int}
theorem WPart.hc (h : WPart w0 w f g wd hold ms) : w.cell? ⟨wd, 7, none⟩ = some (.int .i64 hold) := by
  obtain ⟨ap, cap, h1, -⟩ := h.st
  exact (cell_of h1 7).trans rfl
/-- blocks that are nobody's stay -/
def Out (f : Lab) (w w' : World) : Prop := ∀ y ob, f y = none → w.heap[y]? = some ob → w'.heap[y]? = some ob
theorem out_of (kk : Keep S w w') (hS : ∀ x ∈ S, ∃ t, f x = some t) : Out f w w' := fun y ob hy hb => kk.old hb fun hm => by
  obtain ⟨t, ht⟩ := hS y hm
  rw [hy] at ht
  cases ht
theorem Out.trans {a b c : World} (h : Out f a b) (k : Out f b c) : Out f a c := fun y ob hy hb => k y ob hy (h y ob hy hb)
theorem WPart.fresh (h : WPart w0 w f g wd hold ms) {y : Nat} (hy : w.heap.size ≤ y) : f y = none := by
  cases e : f y with
  | none => rfl
  | some t => have := (h.dom y t e).2; omega
theorem bool_same (d : Bool) : (d == d) = true := by cases d <;> rfl
set_option maxHeartbeats 2000000 in
theorem step_insL {i mb vb sb rb : Nat} {m : MI} (h : All w0 w f g wd hold X A Q ms) (hk : ms[k]? = some ⟨i, .ins m, mb, vb, sb, rb⟩) :
    Calls Tryz.prog 84 #[.pointer (some ⟨wd, 0, none⟩), .agg (pairRow 0 mb rb).toArray] w fun r w' => r = .returned (.bool true) ∧ All w0 w' f g wd hold (put X i (stepO (X i) A (.ins m)).1) (stepO (X i) A (.ins m)).2.1 Q (ms.set k ⟨i, (stepO (X i) A (.ins m)).2.2.1, mb, vb, sb, rb⟩) := by
  have hom := List.mem_of_getElem? hk
  have hi : i < 2 := h.good.idx _ hom
  have hok : okM (X i) (.ins m) := h.good.okM _ hom
  have FR := Lib.hid (h.wp.fresh (Nat.le_refl _))
  obtain ⟨wp, hwp⟩ : ∃ wp, wp = w.alloc (.cells (pairRow 0 mb rb).toArray 159 (0, 0)) := ⟨_, rfl⟩
  have hpb : wp.heap[w.heap.size]? = some (.cells (pairRow 0 mb rb).toArray 159 (0, 0)) := by rw [hwp]; exact alloc_new _ _
  have kwp : Keep [] w wp := by rw [hwp]; exact (Keep.refl _ _).alloc _
  have h := h.keep0 kwp
  obtain ⟨qv, bs, hr⟩ := h.r
  have hmp : MP wp f g k ⟨i, .ins m, mb, vb, sb, rb⟩ := h.p.mach k _ hk
  have hmr0 : MR_ wp f g (rBlocks g.b g.sg qv bs) k ⟨i, .ins m, mb, vb, sb, rb⟩ := hr.mach k _ hk
  have hlab : f mb = some (8 + 2 * k) := hmp.2
  have hwh : True := trivial
  have hrb : f rb = some (9 + 2 * k) := hmr0.2
  have CP : Hid (Calls Tryz.prog 65 #[.pointer (some ⟨mb, 0, none⟩)] wp fun r w' => r = .returned (.bool (stepI (X i) A m).2.2.2) ∧ Mid w0 w' f g wd hold X A Q ms k ⟨i, .ins m, mb, vb, sb, rb⟩ qv bs ∧ Out f wp w') := Lib.hid (by
    refine (step_ins (h.p.env i hi) hmp.1 hok.1).mono ?_
    rintro r w' ⟨rfl, e2, i2, k2⟩
    exact ⟨rfl, h.mid hr hk hlab e2 ⟨i2, hlab⟩ k2, out_of k2 fun x hx => (labP (o := ⟨i, .ins m, mb, vb, sb, rb⟩) h.p hi hlab x hx).imp fun _ e => e.1⟩)
  have CR : Hid (∀ w1, Mid w0 w1 f g wd hold X A Q ms k ⟨i, .ins m, mb, vb, sb, rb⟩ qv bs → Calls Tryz.prog 114 #[.pointer (some ⟨rb, 0, none⟩)] w1 fun r w' => r = .returned (.bool (stepI (X i) A m).2.2.2) ∧ All w0 w' f g wd hold (put X i (stepO (X i) A (.ins m)).1) (stepO (X i) A (.ins m)).2.1 Q (ms.set k ⟨i, (stepO (X i) A (.ins m)).2.2.1, mb, vb, sb, rb⟩)) := Lib.hid fun w1 hM => by
    have hmr : MR_ w1 f g (rBlocks g.b g.sg qv bs) k ⟨i, .ins m, mb, vb, sb, rb⟩ := hM.r.mach k _ hk
    refine (step_insR (hM.r.env i hi) hmr.1 hok.1).mono ?_
    rintro r w' ⟨rfl, e2, i2, k2⟩
    exact ⟨rfl, hM.all hk hrb e2 ⟨i2, hrb⟩ k2⟩
  obtain ⟨d, hd⟩ : ∃ d, d = (stepI (X i) A m).2.2.2 := ⟨_, rfl⟩
  rw [← hd] at CP CR
  have hdd := bool_same d
  have HPB := Lib.hid hpb
  have WP := Lib.hid hwp
  clear h hk hom hi hok hr hmp hmr0 hlab hwh hrb hd hpb hwp kwp
  go_enter Tryz.func84, Tryz.ntmps84
  simp only [pairRow, pt]
  go_wp2_with fail
  rw [show w.alloc (.cells #[.int .i64 1, .pointer (some ⟨mb, 0, none⟩), .pointer none, .pointer none, .pointer (some ⟨rb, 0, none⟩), .pointer none, .pointer none] 159 (0, 0)) = wp from WP.out.symm]
  refine CP.out.mono ?_
  rintro e w1 ⟨rfl, hM, hO⟩
  have C2 := Lib.hid (CR.out w1 hM)
  have hb1 := hO _ _ FR.out HPB.out
  have c1 : w1.cell? ⟨w.heap.size, 4, none⟩ = some (.pointer (some ⟨rb, 0, none⟩)) := (cell_of hb1 4).trans rfl
  clear hM hO hb1
  go_wp2_with fail
  refine C2.out.mono ?_
  rintro e w2 ⟨rfl, hA⟩
  have HA := Lib.hid hA
  clear hA C2 CP CR c1
  go_wp2_with fail
  go_ret
  exact ⟨rfl, HA.out⟩
theorem stepW_whole (X : CI) (A : Ars) (m : MW) : (stepW X A m).2.2.1.whole = m.whole := by
  unfold stepW
  split
  · rfl
  · dsimp only
    split
    · split <;> rfl
    · split <;> rfl
set_option maxHeartbeats 2000000 in
theorem step_wlkL {i mb vb sb rb : Nat} {m : MW} (h : All w0 w f g wd hold X A Q ms) (hk : ms[k]? = some ⟨i, .wlk m, mb, vb, sb, rb⟩) :
    Calls Tryz.prog 84 #[.pointer (some ⟨wd, 0, none⟩), .agg (pairRow 1 mb rb).toArray] w fun r w' => r = .returned (.bool true) ∧ All w0 w' f g wd hold (put X i (stepO (X i) A (.wlk m)).1) (stepO (X i) A (.wlk m)).2.1 Q (ms.set k ⟨i, (stepO (X i) A (.wlk m)).2.2.1, mb, vb, sb, rb⟩) := by
  have hom := List.mem_of_getElem? hk
  have hi : i < 2 := h.good.idx _ hom
  have hok : okM (X i) (.wlk m) := h.good.okM _ hom
  have FR := Lib.hid (h.wp.fresh (Nat.le_refl _))
  obtain ⟨wp, hwp⟩ : ∃ wp, wp = w.alloc (.cells (pairRow 1 mb rb).toArray 159 (0, 0)) := ⟨_, rfl⟩
  have hpb : wp.heap[w.heap.size]? = some (.cells (pairRow 1 mb rb).toArray 159 (0, 0)) := by rw [hwp]; exact alloc_new _ _
  have kwp : Keep [] w wp := by rw [hwp]; exact (Keep.refl _ _).alloc _
  have h := h.keep0 kwp
  obtain ⟨qv, bs, hr⟩ := h.r
  have hmp : MP wp f g k ⟨i, .wlk m, mb, vb, sb, rb⟩ := h.p.mach k _ hk
  have hmr0 : MR_ wp f g (rBlocks g.b g.sg qv bs) k ⟨i, .wlk m, mb, vb, sb, rb⟩ := hr.mach k _ hk
  have hlab : f mb = some (8 + 2 * k) := hmp.2.1
  have hwh : (m.whole = false → f vb = some (8 + 2 * k) ∧ f sb = some (8 + 2 * k)) := hmp.2.2
  have hrb : f rb = some (9 + 2 * k) := hmr0.2
  have CP : Hid (Calls Tryz.prog 23 #[.pointer (some ⟨mb, 0, none⟩)] wp fun r w' => r = .returned (.bool (stepW (X i) A m).2.2.2) ∧ Mid w0 w' f g wd hold X A Q ms k ⟨i, .wlk m, mb, vb, sb, rb⟩ qv bs ∧ Out f wp w') := Lib.hid (by
    refine (step_wlk (h.p.env i hi) hmp.1 hok h.good.okA (h.good.okH i hi)).mono ?_
    rintro r w' ⟨rfl, e2, i2, k2⟩
    exact ⟨rfl, h.mid hr hk hlab e2 ⟨i2, hlab, fun e => hwh (by rw [← e]; exact (stepW_whole _ _ _).symm)⟩ k2, out_of k2 fun x hx => (labP (o := ⟨i, .wlk m, mb, vb, sb, rb⟩) h.p hi hlab x hx).imp fun _ e => e.1⟩)
  have CR : Hid (∀ w1, Mid w0 w1 f g wd hold X A Q ms k ⟨i, .wlk m, mb, vb, sb, rb⟩ qv bs → Calls Tryz.prog 115 #[.pointer (some ⟨rb, 0, none⟩)] w1 fun r w' => r = .returned (.bool (stepW (X i) A m).2.2.2) ∧ All w0 w' f g wd hold (put X i (stepO (X i) A (.wlk m)).1) (stepO (X i) A (.wlk m)).2.1 Q (ms.set k ⟨i, (stepO (X i) A (.wlk m)).2.2.1, mb, vb, sb, rb⟩)) := Lib.hid fun w1 hM => by
    have hmr : MR_ w1 f g (rBlocks g.b g.sg qv bs) k ⟨i, .wlk m, mb, vb, sb, rb⟩ := hM.r.mach k _ hk
    refine (step_wlkV (hM.r.env i hi) hmr.1 hok h.good.okA (h.good.okH i hi)).mono ?_
    rintro r w' ⟨rfl, e2, i2, k2⟩
    exact ⟨rfl, hM.all hk hrb e2 ⟨i2, hrb⟩ k2⟩
  obtain ⟨d, hd⟩ : ∃ d, d = (stepW (X i) A m).2.2.2 := ⟨_, rfl⟩
  rw [← hd] at CP CR
  have hdd := bool_same d
  have HPB := Lib.hid hpb
  have WP := Lib.hid hwp
  clear h hk hom hi hok hr hmp hmr0 hlab hwh hrb hd hpb hwp kwp
  go_enter Tryz.func84, Tryz.ntmps84
  simp only [pairRow, pt]
  go_wp2_with fail
  rw [show w.alloc (.cells #[.int .i64 2, .pointer none, .pointer (some ⟨mb, 0, none⟩), .pointer none, .pointer none, .pointer (some ⟨rb, 0, none⟩), .pointer none] 159 (0, 0)) = wp from WP.out.symm]
  refine CP.out.mono ?_
  rintro e w1 ⟨rfl, hM, hO⟩
  have C2 := Lib.hid (CR.out w1 hM)
  have hb1 := hO _ _ FR.out HPB.out
  have c1 : w1.cell? ⟨w.heap.size, 5, none⟩ = some (.pointer (some ⟨rb, 0, none⟩)) := (cell_of hb1 5).trans rfl
  clear hM hO hb1
  go_wp2_with fail
  refine C2.out.mono ?_
  rintro e w2 ⟨rfl, hA⟩
  have HA := Lib.hid hA
  clear hA C2 CP CR c1
  go_wp2_with fail
  go_ret
  exact ⟨rfl, HA.out⟩
set_option maxHeartbeats 2000000 in
theorem step_remL {i mb vb sb rb : Nat} {m : MR} (h : All w0 w f g wd hold X A Q ms) (hk : ms[k]? = some ⟨i, .rem m, mb, vb, sb, rb⟩) :
    Calls Tryz.prog 84 #[.pointer (some ⟨wd, 0, none⟩), .agg (pairRow 2 mb rb).toArray] w fun r w' => r = .returned (.bool true) ∧ All w0 w' f g wd hold (put X i (stepO (X i) A (.rem m)).1) (stepO (X i) A (.rem m)).2.1 Q (ms.set k ⟨i, (stepO (X i) A (.rem m)).2.2.1, mb, vb, sb, rb⟩) := by
  have hom := List.mem_of_getElem? hk
  have hi : i < 2 := h.good.idx _ hom
  have hok : okM (X i) (.rem m) := h.good.okM _ hom
  have FR := Lib.hid (h.wp.fresh (Nat.le_refl _))
  obtain ⟨wp, hwp⟩ : ∃ wp, wp = w.alloc (.cells (pairRow 2 mb rb).toArray 159 (0, 0)) := ⟨_, rfl⟩
  have hpb : wp.heap[w.heap.size]? = some (.cells (pairRow 2 mb rb).toArray 159 (0, 0)) := by rw [hwp]; exact alloc_new _ _
  have kwp : Keep [] w wp := by rw [hwp]; exact (Keep.refl _ _).alloc _
  have h := h.keep0 kwp
  obtain ⟨qv, bs, hr⟩ := h.r
  have hmp : MP wp f g k ⟨i, .rem m, mb, vb, sb, rb⟩ := h.p.mach k _ hk
  have hmr0 : MR_ wp f g (rBlocks g.b g.sg qv bs) k ⟨i, .rem m, mb, vb, sb, rb⟩ := hr.mach k _ hk
  have hlab : f mb = some (8 + 2 * k) := hmp.2
  have hwh : True := trivial
  have hrb : f rb = some (9 + 2 * k) := hmr0.2
  have CP : Hid (Calls Tryz.prog 67 #[.pointer (some ⟨mb, 0, none⟩)] wp fun r w' => r = .returned (.bool (stepR (X i) A m).2.2.2) ∧ Mid w0 w' f g wd hold X A Q ms k ⟨i, .rem m, mb, vb, sb, rb⟩ qv bs ∧ Out f wp w') := Lib.hid (by
    refine (step_rem (h.p.env i hi) hmp.1 (h.good.len i hi) hok h.good.okA (h.good.okH i hi)).mono ?_
    rintro r w' ⟨rfl, e2, i2, k2⟩
    exact ⟨rfl, h.mid hr hk hlab e2 ⟨i2, hlab⟩ k2, out_of k2 fun x hx => (labP (o := ⟨i, .rem m, mb, vb, sb, rb⟩) h.p hi hlab x hx).imp fun _ e => e.1⟩)
  have CR : Hid (∀ w1, Mid w0 w1 f g wd hold X A Q ms k ⟨i, .rem m, mb, vb, sb, rb⟩ qv bs → Calls Tryz.prog 116 #[.pointer (some ⟨rb, 0, none⟩)] w1 fun r w' => r = .returned (.bool (stepR (X i) A m).2.2.2) ∧ All w0 w' f g wd hold (put X i (stepO (X i) A (.rem m)).1) (stepO (X i) A (.rem m)).2.1 Q (ms.set k ⟨i, (stepO (X i) A (.rem m)).2.2.1, mb, vb, sb, rb⟩)) := Lib.hid fun w1 hM => by
    have hmr : MR_ w1 f g (rBlocks g.b g.sg qv bs) k ⟨i, .rem m, mb, vb, sb, rb⟩ := hM.r.mach k _ hk
    refine (step_remQ (hM.r.env i hi) hmr.1 hok h.good.okA (h.good.okH i hi)).mono ?_
    rintro r w' ⟨rfl, e2, i2, k2⟩
    exact ⟨rfl, hM.all hk hrb e2 ⟨i2, hrb⟩ k2⟩
  obtain ⟨d, hd⟩ : ∃ d, d = (stepR (X i) A m).2.2.2 := ⟨_, rfl⟩
  rw [← hd] at CP CR
  have hdd := bool_same d
  have HPB := Lib.hid hpb
  have WP := Lib.hid hwp
  clear h hk hom hi hok hr hmp hmr0 hlab hwh hrb hd hpb hwp kwp
  go_enter Tryz.func84, Tryz.ntmps84
  simp only [pairRow, pt]
  go_wp2_with fail
  rw [show w.alloc (.cells #[.int .i64 4, .pointer none, .pointer none, .pointer (some ⟨mb, 0, none⟩), .pointer none, .pointer none, .pointer (some ⟨rb, 0, none⟩)] 159 (0, 0)) = wp from WP.out.symm]
  refine CP.out.mono ?_
  rintro e w1 ⟨rfl, hM, hO⟩
  have C2 := Lib.hid (CR.out w1 hM)
  have hb1 := hO _ _ FR.out HPB.out
  have c1 : w1.cell? ⟨w.heap.size, 6, none⟩ = some (.pointer (some ⟨rb, 0, none⟩)) := (cell_of hb1 6).trans rfl
  clear hM hO hb1
  go_wp2_with fail
  refine C2.out.mono ?_
  rintro e w2 ⟨rfl, hA⟩
  have HA := Lib.hid hA
  clear hA C2 CP CR c1
  go_wp2_with fail
  go_ret
  exact ⟨rfl, HA.out⟩
end
end Go.Proofs.YtgagiggljlikbaaGreat.Lw

/- Layer 4's scripts: world.ask, world.machine. -/
namespace Go.Proofs.YtgagiggljlikbaaGreat.Lw
open Go.RowKit Go.Proofs.YtgagiggljlikbaaGreat.Mem Go.Proofs.YtgagiggljlikbaaGreat.Ar Go.Proofs.YtgagiggljlikbaaGreat.En Go.Proofs.YtgagiggljlikbaaGreat.Ch Go.Proofs.YtgagiggljlikbaaGreat.Rc
open Go.Proofs.YtgagiggljlikbaaGreat.Ra (owns_block RAt rBlocks)
set_option linter.unusedVariables false
set_option linter.unusedSimpArgs false
set_option maxRecDepth 100000
section
variable {w w' w2 w0 : World} {f f' : Lab} {g : Lay} {X : Nat → CI} {A A' : Ars} {Q Q' : List Nat} {ms : List One} {qv qv' : Value} {bs bs' : List (Option Nat)} {S : List Nat} {Y : CI} {k wd : Nat} {o : One} {m' : Mach} {hold : Int}
theorem num_ (e : Int) (w : World) : Calls Tryz.prog 21 #[.int .i64 e] w fun r w' => r = .returned (.int .i64 e) ∧ w' = w := by
  go_enter Tryz.func21, Tryz.ntmps21
  go_wp2_with fail
  go_ret
  exact ⟨rfl, rfl⟩
theorem endedV {xb hb mb : Nat} {m : MW} {Bl : List Nat} (hi : WlkV w Bl xb hb mb m) :
    Calls Tryz.prog 118 #[.pointer (some ⟨mb, 0, none⟩)] w fun r w' => r = .returned (.bool m.ended) ∧ w' = w := by
  obtain ⟨ld, nx, R, -⟩ := hi.hm
  have c7 : w.cell? ⟨mb, 7, none⟩ = some (.bool m.ended) := (cell_of R 7).trans rfl
  clear hi R
  go_enter Tryz.func118, Tryz.ntmps118
  go_wp2_with fail
  go_ret
  exact ⟨rfl, rfl⟩
theorem flip {P : Program} {f : Nat} {args : Array Value} {w : World} {v : Value} (h : Calls P f args w fun r w' => r = .returned v ∧ w = w') : Calls P f args w fun r w' => r = .returned v ∧ w' = w := h.mono fun _ _ ⟨a, b⟩ => ⟨a, b.symm⟩
set_option maxHeartbeats 4000000 in
theorem ask_insL {i mb vb sb rb : Nat} {m : MI} (h : All w0 w f g wd hold X A Q ms) (hk : ms[k]? = some ⟨i, .ins m, mb, vb, sb, rb⟩) :
    Calls Tryz.prog 85 #[.pointer (some ⟨wd, 0, none⟩), .agg (pairRow 0 mb rb).toArray] w fun r w' => r = .returned (.bool true) ∧ All w0 w' f g wd hold X A Q ms := by
  obtain ⟨wp, hwp⟩ : ∃ wp, wp = w.alloc (.cells (pairRow 0 mb rb).toArray 159 (0, 0)) := ⟨_, rfl⟩
  have hpb : wp.heap[w.heap.size]? = some (.cells (pairRow 0 mb rb).toArray 159 (0, 0)) := by rw [hwp]; exact alloc_new _ _
  have kwp : Keep [] w wp := by rw [hwp]; exact (Keep.refl _ _).alloc _
  have h := h.keep0 kwp
  have c7 := h.wp.hc
  have e0 : wp.cell? ⟨w.heap.size, 0, none⟩ = some (.int .i64 1) := (cell_of hpb 0).trans rfl
  have e1 : wp.cell? ⟨w.heap.size, 1, none⟩ = some (.pointer (some ⟨mb, 0, none⟩)) := (cell_of hpb 1).trans rfl
  have e2 : wp.cell? ⟨w.heap.size, 4, none⟩ = some (.pointer (some ⟨rb, 0, none⟩)) := (cell_of hpb 4).trans rfl
  have HA := Lib.hid (And.intro h (And.intro hpb hk))
  have HW := Lib.hid hwp
  clear h hk hpb kwp hwp
  go_enter Tryz.func85, Tryz.ntmps85
  simp only [pairRow, pt]
  go_wp2_with fail
  rw [show w.alloc (.cells #[.int .i64 1, .pointer (some ⟨mb, 0, none⟩), .pointer none, .pointer none, .pointer (some ⟨rb, 0, none⟩), .pointer none, .pointer none] 159 (0, 0)) = wp from HW.out.symm]
  go_quiet (fail)
  obtain ⟨wy, hwy⟩ : ∃ wy, wy = wp.drewN nq := ⟨_, rfl⟩
  have ky : Keep [] wp wy := by rw [hwy]; exact (Keep.refl _ _).drewN _
  rw [← hwy]
  clear hwy c7 e0 e1 e2
  have hpb := ky.old HA.out.2.1 (by simp)
  have h := HA.out.1.keep0 ky
  have e0 : wy.cell? ⟨w.heap.size, 0, none⟩ = some (.int .i64 1) := (cell_of hpb 0).trans rfl
  have e1 : wy.cell? ⟨w.heap.size, 1, none⟩ = some (.pointer (some ⟨mb, 0, none⟩)) := (cell_of hpb 1).trans rfl
  have e2 : wy.cell? ⟨w.heap.size, 4, none⟩ = some (.pointer (some ⟨rb, 0, none⟩)) := (cell_of hpb 4).trans rfl
  have HY := Lib.hid h
  cases hz : (bits BinOp.and IntKind.i64 hold 1 == 0)
  · obtain ⟨qv, bs, hr⟩ := h.r
    have hmp : MP wy f g k ⟨i, .ins m, mb, vb, sb, rb⟩ := h.p.mach k _ HA.out.2.2
    have hmr : MR_ wy f g (rBlocks g.b g.sg qv bs) k ⟨i, .ins m, mb, vb, sb, rb⟩ := hr.mach k _ HA.out.2.2
    obtain ⟨av, R, -⟩ := hmr.1.hm
    have r6 : wy.cell? ⟨rb, 6, none⟩ = some (.int .i64 m.code) := (cell_of R 6).trans rfl
    have r7 : wy.cell? ⟨rb, 7, none⟩ = some (.int .i64 m.tries) := (cell_of R 7).trans rfl
    have CCode : Hid (∀ n, Calls Tryz.prog 66 #[.pointer (some ⟨mb, 0, none⟩)] (wy.drewN n) fun r w' => r = .returned (.int .i64 m.code) ∧ w' = wy.drewN n) := Lib.hid fun n => flip (code_ins (hmp.1.keep ((Keep.refl [] wy).drewN n) (by simp)))
    have CTries : Hid (∀ n, Calls Tryz.prog 117 #[.pointer (some ⟨mb, 0, none⟩)] (wy.drewN n) fun r w' => r = .returned (.int .i64 m.tries) ∧ w' = wy.drewN n) := Lib.hid fun n => flip (tries_ins (hmp.1.keep ((Keep.refl [] wy).drewN n) (by simp)))
    clear h hpb hmp hmr R hr
    go_wp2_with fail
    go_quiet (first | (go_at_call 21; exact Calls.quiet_of_same (num_ _ _)) | (go_at_call 66; exact Calls.quiet_of_same (CCode.out _)) | (go_at_call 117; exact Calls.quiet_of_same (CTries.out _)))
    go_wp2_with fail
    go_ret
    exact ⟨by simp, HY.out.keep0 ((Keep.refl _ _).drewN _)⟩
  · clear h hpb
    go_wp2_with fail
    go_ret
    exact ⟨rfl, HY.out⟩
set_option maxHeartbeats 4000000 in
theorem ask_wlkL {i mb vb sb rb : Nat} {m : MW} (h : All w0 w f g wd hold X A Q ms) (hk : ms[k]? = some ⟨i, .wlk m, mb, vb, sb, rb⟩) :
    Calls Tryz.prog 85 #[.pointer (some ⟨wd, 0, none⟩), .agg (pairRow 1 mb rb).toArray] w fun r w' => r = .returned (.bool true) ∧ All w0 w' f g wd hold X A Q ms := by
  obtain ⟨wp, hwp⟩ : ∃ wp, wp = w.alloc (.cells (pairRow 1 mb rb).toArray 159 (0, 0)) := ⟨_, rfl⟩
  have hpb : wp.heap[w.heap.size]? = some (.cells (pairRow 1 mb rb).toArray 159 (0, 0)) := by rw [hwp]; exact alloc_new _ _
  have kwp : Keep [] w wp := by rw [hwp]; exact (Keep.refl _ _).alloc _
  have h := h.keep0 kwp
  have c7 := h.wp.hc
  have e0 : wp.cell? ⟨w.heap.size, 0, none⟩ = some (.int .i64 2) := (cell_of hpb 0).trans rfl
  have e1 : wp.cell? ⟨w.heap.size, 2, none⟩ = some (.pointer (some ⟨mb, 0, none⟩)) := (cell_of hpb 2).trans rfl
  have e2 : wp.cell? ⟨w.heap.size, 5, none⟩ = some (.pointer (some ⟨rb, 0, none⟩)) := (cell_of hpb 5).trans rfl
  have HA := Lib.hid (And.intro h (And.intro hpb hk))
  have HW := Lib.hid hwp
  clear h hk hpb kwp hwp
  go_enter Tryz.func85, Tryz.ntmps85
  simp only [pairRow, pt]
  go_wp2_with fail
  rw [show w.alloc (.cells #[.int .i64 2, .pointer none, .pointer (some ⟨mb, 0, none⟩), .pointer none, .pointer none, .pointer (some ⟨rb, 0, none⟩), .pointer none] 159 (0, 0)) = wp from HW.out.symm]
  go_quiet (fail)
  obtain ⟨wy, hwy⟩ : ∃ wy, wy = wp.drewN nq := ⟨_, rfl⟩
  have ky : Keep [] wp wy := by rw [hwy]; exact (Keep.refl _ _).drewN _
  rw [← hwy]
  clear hwy c7 e0 e1 e2
  have hpb := ky.old HA.out.2.1 (by simp)
  have h := HA.out.1.keep0 ky
  have e0 : wy.cell? ⟨w.heap.size, 0, none⟩ = some (.int .i64 2) := (cell_of hpb 0).trans rfl
  have e1 : wy.cell? ⟨w.heap.size, 2, none⟩ = some (.pointer (some ⟨mb, 0, none⟩)) := (cell_of hpb 2).trans rfl
  have e2 : wy.cell? ⟨w.heap.size, 5, none⟩ = some (.pointer (some ⟨rb, 0, none⟩)) := (cell_of hpb 5).trans rfl
  have HY := Lib.hid h
  cases hz : (bits BinOp.and IntKind.i64 hold 2 == 0)
  · obtain ⟨qv, bs, hr⟩ := h.r
    have hmp : MP wy f g k ⟨i, .wlk m, mb, vb, sb, rb⟩ := h.p.mach k _ HA.out.2.2
    have hmr : MR_ wy f g (rBlocks g.b g.sg qv bs) k ⟨i, .wlk m, mb, vb, sb, rb⟩ := hr.mach k _ HA.out.2.2
    obtain ⟨ld, nx, R, -⟩ := hmr.1.hm
    have r6 : wy.cell? ⟨rb, 6, none⟩ = some (.int .i64 m.slot) := (cell_of R 6).trans rfl
    have r8 : wy.cell? ⟨rb, 8, none⟩ = some (.int .i64 m.code) := (cell_of R 8).trans rfl
    have CCode : Hid (∀ n, Calls Tryz.prog 71 #[.pointer (some ⟨mb, 0, none⟩)] (wy.drewN n) fun r w' => r = .returned (.int .i64 m.code) ∧ w' = wy.drewN n) := Lib.hid fun n => flip (code_wlk (hmp.1.keep ((Keep.refl [] wy).drewN n) (by simp)))
    have CSlot : Hid (∀ n, Calls Tryz.prog 24 #[.pointer (some ⟨mb, 0, none⟩)] (wy.drewN n) fun r w' => r = .returned (.int .i64 m.slot) ∧ w' = wy.drewN n) := Lib.hid fun n => flip (slot_wlk (hmp.1.keep ((Keep.refl [] wy).drewN n) (by simp)))
    have CEnded : Hid (∀ n, Calls Tryz.prog 25 #[.pointer (some ⟨mb, 0, none⟩)] (wy.drewN n) fun r w' => r = .returned (.bool m.ended) ∧ w' = wy.drewN n) := Lib.hid fun n => flip (ended_wlk (hmp.1.keep ((Keep.refl [] wy).drewN n) (by simp)))
    have CEn : Hid (∀ n, Calls Tryz.prog 118 #[.pointer (some ⟨rb, 0, none⟩)] (wy.drewN n) fun r w' => r = .returned (.bool m.ended) ∧ w' = wy.drewN n) := Lib.hid fun n => endedV (hmr.1.keep ((Keep.refl [] wy).drewN n) (by simp))
    clear h hpb hmp hmr R hr
    go_wp2_with fail
    go_quiet (first | (go_at_call 21; exact Calls.quiet_of_same (num_ _ _)) | (go_at_call 71; exact Calls.quiet_of_same (CCode.out _)) | (go_at_call 24; exact Calls.quiet_of_same (CSlot.out _)) | (go_at_call 25; exact Calls.quiet_of_same (CEnded.out _)) | (go_at_call 118; exact Calls.quiet_of_same (CEn.out _)))
    go_wp2_with fail
    go_ret
    exact ⟨by simp, HY.out.keep0 ((Keep.refl _ _).drewN _)⟩
  · clear h hpb
    go_wp2_with fail
    go_ret
    exact ⟨rfl, HY.out⟩
set_option maxHeartbeats 4000000 in
theorem ask_remL {i mb vb sb rb : Nat} {m : MR} (h : All w0 w f g wd hold X A Q ms) (hk : ms[k]? = some ⟨i, .rem m, mb, vb, sb, rb⟩) :
    Calls Tryz.prog 85 #[.pointer (some ⟨wd, 0, none⟩), .agg (pairRow 2 mb rb).toArray] w fun r w' => r = .returned (.bool true) ∧ All w0 w' f g wd hold X A Q ms := by
  obtain ⟨wp, hwp⟩ : ∃ wp, wp = w.alloc (.cells (pairRow 2 mb rb).toArray 159 (0, 0)) := ⟨_, rfl⟩
  have hpb : wp.heap[w.heap.size]? = some (.cells (pairRow 2 mb rb).toArray 159 (0, 0)) := by rw [hwp]; exact alloc_new _ _
  have kwp : Keep [] w wp := by rw [hwp]; exact (Keep.refl _ _).alloc _
  have h := h.keep0 kwp
  have c7 := h.wp.hc
  have e0 : wp.cell? ⟨w.heap.size, 0, none⟩ = some (.int .i64 4) := (cell_of hpb 0).trans rfl
  have e1 : wp.cell? ⟨w.heap.size, 3, none⟩ = some (.pointer (some ⟨mb, 0, none⟩)) := (cell_of hpb 3).trans rfl
  have e2 : wp.cell? ⟨w.heap.size, 6, none⟩ = some (.pointer (some ⟨rb, 0, none⟩)) := (cell_of hpb 6).trans rfl
  have HA := Lib.hid (And.intro h (And.intro hpb hk))
  have HW := Lib.hid hwp
  clear h hk hpb kwp hwp
  go_enter Tryz.func85, Tryz.ntmps85
  simp only [pairRow, pt]
  go_wp2_with fail
  rw [show w.alloc (.cells #[.int .i64 4, .pointer none, .pointer none, .pointer (some ⟨mb, 0, none⟩), .pointer none, .pointer none, .pointer (some ⟨rb, 0, none⟩)] 159 (0, 0)) = wp from HW.out.symm]
  go_quiet (fail)
  obtain ⟨wy, hwy⟩ : ∃ wy, wy = wp.drewN nq := ⟨_, rfl⟩
  have ky : Keep [] wp wy := by rw [hwy]; exact (Keep.refl _ _).drewN _
  rw [← hwy]
  clear hwy c7 e0 e1 e2
  have hpb := ky.old HA.out.2.1 (by simp)
  have h := HA.out.1.keep0 ky
  have e0 : wy.cell? ⟨w.heap.size, 0, none⟩ = some (.int .i64 4) := (cell_of hpb 0).trans rfl
  have e1 : wy.cell? ⟨w.heap.size, 3, none⟩ = some (.pointer (some ⟨mb, 0, none⟩)) := (cell_of hpb 3).trans rfl
  have e2 : wy.cell? ⟨w.heap.size, 6, none⟩ = some (.pointer (some ⟨rb, 0, none⟩)) := (cell_of hpb 6).trans rfl
  have HY := Lib.hid h
  cases hz : (bits BinOp.and IntKind.i64 hold 4 == 0)
  · obtain ⟨qv, bs, hr⟩ := h.r
    have hmp : MP wy f g k ⟨i, .rem m, mb, vb, sb, rb⟩ := h.p.mach k _ HA.out.2.2
    have hmr : MR_ wy f g (rBlocks g.b g.sg qv bs) k ⟨i, .rem m, mb, vb, sb, rb⟩ := hr.mach k _ HA.out.2.2
    obtain ⟨av, wd', R, -, -⟩ := hmr.1.hm
    have r8 : wy.cell? ⟨rb, 8, none⟩ = some (.int .i64 m.code) := (cell_of R 8).trans rfl
    have r9 : wy.cell? ⟨rb, 9, none⟩ = some (.bool m.marked) := (cell_of R 9).trans rfl
    have r10 : wy.cell? ⟨rb, 10, none⟩ = some (.int .i64 m.helped) := (cell_of R 10).trans rfl
    have CCode : Hid (∀ n, Calls Tryz.prog 70 #[.pointer (some ⟨mb, 0, none⟩)] (wy.drewN n) fun r w' => r = .returned (.int .i64 m.code) ∧ w' = wy.drewN n) := Lib.hid fun n => flip (code_rem (hmp.1.keep ((Keep.refl [] wy).drewN n) (by simp)))
    have CMarked : Hid (∀ n, Calls Tryz.prog 68 #[.pointer (some ⟨mb, 0, none⟩)] (wy.drewN n) fun r w' => r = .returned (.bool m.marked) ∧ w' = wy.drewN n) := Lib.hid fun n => flip (marked_rem (hmp.1.keep ((Keep.refl [] wy).drewN n) (by simp)))
    have CHelped : Hid (∀ n, Calls Tryz.prog 119 #[.pointer (some ⟨mb, 0, none⟩)] (wy.drewN n) fun r w' => r = .returned (.int .i64 m.helped) ∧ w' = wy.drewN n) := Lib.hid fun n => flip (helped_rem (hmp.1.keep ((Keep.refl [] wy).drewN n) (by simp)))
    clear h hpb hmp hmr R hr
    go_wp2_with fail
    go_quiet (first | (go_at_call 21; exact Calls.quiet_of_same (num_ _ _)) | (go_at_call 70; exact Calls.quiet_of_same (CCode.out _)) | (go_at_call 68; exact Calls.quiet_of_same (CMarked.out _)) | (go_at_call 119; exact Calls.quiet_of_same (CHelped.out _)))
    go_wp2_with fail
    go_ret
    exact ⟨by simp, HY.out.keep0 ((Keep.refl _ _).drewN _)⟩
  · clear h hpb
    go_wp2_with fail
    go_ret
    exact ⟨rfl, HY.out⟩
end
end Go.Proofs.YtgagiggljlikbaaGreat.Lw

/- Layer 4's scripts: same, world.machine, world.look. -/
namespace Go.Proofs.YtgagiggljlikbaaGreat.Lw
open Go.RowKit Go.Proofs.YtgagiggljlikbaaGreat.Mem Go.Proofs.YtgagiggljlikbaaGreat.Ar Go.Proofs.YtgagiggljlikbaaGreat.En Go.Proofs.YtgagiggljlikbaaGreat.Ch Go.Proofs.YtgagiggljlikbaaGreat.Rc
open Go.Proofs.YtgagiggljlikbaaGreat.Ra (owns_block RAt rBlocks)
open Go.Proofs.YtgagiggljlikbaaGreat.Ref (owns_shape)
set_option linter.unusedVariables false
set_option linter.unusedSimpArgs false
set_option maxRecDepth 100000
section
variable {w w' w2 w0 : World} {f f' : Lab} {g : Lay} {X : Nat → CI} {A A' : Ars} {Q Q' : List Nat} {ms : List One} {qv qv' : Value} {bs bs' : List (Option Nat)} {S : List Nat} {Y : CI} {k wd : Nat} {o : One} {m' : Mach} {hold : Int}
theorem owns_keep0 {base : Nat} {e : TypeId} {size : Nat} {v : Value} {n : Nat} {xs : List Value} (h : w.ownsRow base e size v n xs) (kk : Keep [] w w') : w'.ownsRow base e size v n xs := owns_block h fun y hy => kk.block y (h.lt y hy).2 (by simp)
theorem sameL {l : List Int} {B1 B2 : Nat} {v1 v2 : Value} (h1 : w.ownsRow B1 3 1 v1 l.length (l.map (.int .i64))) (h2 : w.ownsRow B2 3 1 v2 l.length (l.map (.int .i64))) (hl : l.length ≤ 4096) :
    Calls Tryz.prog 32 #[v1, v2] w fun r w' => r = .returned (.bool true) ∧ Keep [] w w' := by
  obtain ⟨p1, c1, rfl⟩ := owns_shape h1
  obtain ⟨p2, c2, rfl⟩ := owns_shape h2
  have HH := Lib.hid (And.intro h1 h2)
  clear h1 h2
  go_enter Tryz.func32, Tryz.ntmps32
  go_wp2_with fail
  go_loopw [5] (fun i wr => ∃ k : Nat, k ≤ l.length ∧ i = .int .i64 k ∧ Keep [] w wr) (fun i _ => l.length - (intOf i).toNat)
  case atStart => exact ⟨0, Nat.zero_le _, rfl, Keep.refl _ _⟩
  case round =>
    obtain ⟨k, hk, rfl, hK⟩ := hrel
    have KR := Lib.hid hK
    clear hK
    by_cases hlt : k < l.length
    · have hk' : (k : Int) < (l.length : Int) := by omega
      have o1 := owns_keep0 HH.out.1 KR.out
      have o2 := owns_keep0 HH.out.2 KR.out
      obtain ⟨g1, cc1, e1, -⟩ := owns_pos o1 (by omega)
      obtain ⟨g2, cc2, e2, -⟩ := owns_pos o2 (by omega)
      cases e1
      cases e2
      obtain ⟨x, hx⟩ : ∃ x, x = l[k] := ⟨_, rfl⟩
      have d1 : wr.cell? ⟨g1, k, none⟩ = some (.int .i64 x) := by
        rw [o1.cellAt k (by omega), hx]
        simp [hlt]
      have d2 : wr.cell? ⟨g2, k, none⟩ = some (.int .i64 x) := by
        rw [o2.cellAt k (by omega), hx]
        simp [hlt]
      clear o1 o2 hx
      go_wp2_with fail
      go_quiet (fail)
      go_wp2_with fail
      go_roundw
      case rel => exact ⟨k + 1, hlt, by go_num, KR.out.trans ((Keep.refl _ _).drewN _)⟩
      case measure => simp [intOf]; omega
    · have hke : k = l.length := by omega
      subst hke
      go_wp2_with fail
      go_ret
      exact ⟨rfl, KR.out⟩
theorem results_cell_tmp {fn : Func} {a t : Tmp} {ty : TypeId} (h : fn.results = #[.cell a ty, .tmp t]) (tmps : Array Value) (P : Program) (w : World) {g : Nat} {v : Value} (ha : tmps.getD a undef = .pointer (some ⟨g, 0, none⟩)) (hv : (loadVar ty ⟨g, 0, none⟩).run P w = .ok v w) :
    (results fn tmps).run P w = .ok (.tuple #[v, tmps.getD t undef]) w := by
  have ha' : tmps[a]?.getD undef = .pointer (some ⟨g, 0, none⟩) := by simpa using ha
  simp [results, h, ha', asAddr, hv]
def zrow : List Value := [.int .i64 0, .pointer none, .pointer none, .pointer none, .pointer none, .pointer none, .pointer none]
theorem machineL (h : All w0 w f g wd hold X A Q ms) (hms : ms.length ≤ 2000000000000000000) (n : Int) :
    Calls Tryz.prog 83 #[.pointer (some ⟨wd, 0, none⟩), .int .i64 n] w fun r w' => (∀ (o : One) (k : Nat), n = (k : Int) → ms[k]? = some o → r = .returned (.tuple #[.agg o.row.toArray, .bool true])) ∧ ((n < 0 ∨ (ms.length : Int) ≤ n) → r = .returned (.tuple #[.agg zrow.toArray, .bool false])) ∧ Keep [] w w' := by
  obtain ⟨wp, hwp⟩ : ∃ wp, wp = w.alloc (.cells zrow.toArray 159 (0, 0)) := ⟨_, rfl⟩
  have hpb : wp.heap[w.heap.size]? = some (.cells zrow.toArray 159 (0, 0)) := by rw [hwp]; exact alloc_new _ _
  have kwp : Keep [] w wp := by rw [hwp]; exact (Keep.refl _ _).alloc _
  obtain ⟨ap, cap, h1, h2, -⟩ := (h.keep0 kwp).wp.st
  have c6 : wp.cell? ⟨wd, 6, none⟩ = some (.slice ap ms.length cap) := (cell_of h1 6).trans rfl
  have HP := Lib.hid (And.intro hpb kwp)
  have HW := Lib.hid hwp
  by_cases hin : 0 ≤ n ∧ n < ms.length
  · obtain ⟨k, rfl⟩ : ∃ k : Nat, n = k := ⟨n.toNat, by omega⟩
    have hn : k < ms.length := by omega
    obtain ⟨o, hk⟩ : ∃ o, ms[k]? = some o := ⟨_, List.getElem?_eq_getElem hn⟩
    obtain ⟨gp, cp, e1, hge⟩ := owns_pos h2 (by omega)
    cases e1
    have hn' : (k : Int) < (ms.length : Int) := by omega
    have hc : ∀ j, j < 7 → wp.cell? ⟨gp, k * 7 + j, none⟩ = o.row[j]? := fun j hj => by
      rw [h2.cellAt (k * 7 + j) (by omega), rowsO_at ms k j o hk hj]
    obtain ⟨a0, a1, a2, a3, a4, a5, a6, hr⟩ : ∃ a0 a1 a2 a3 a4 a5 a6, o.row = [.int .i64 a0, .pointer a1, .pointer a2, .pointer a3, .pointer a4, .pointer a5, .pointer a6] := by
      unfold One.row pairRow pt
      split <;> exact ⟨_, _, _, _, _, _, _, rfl⟩
    rw [hr] at hc
    have q0 : wp.cell? ⟨gp, k * 7, none⟩ = some (.int .i64 a0) := hc 0 (by omega)
    have q1 : wp.cell? ⟨gp, k * 7 + 1, none⟩ = some (.pointer a1) := hc 1 (by omega)
    have q2 : wp.cell? ⟨gp, k * 7 + 2, none⟩ = some (.pointer a2) := hc 2 (by omega)
    have q3 : wp.cell? ⟨gp, k * 7 + 3, none⟩ = some (.pointer a3) := hc 3 (by omega)
    have q4 : wp.cell? ⟨gp, k * 7 + 4, none⟩ = some (.pointer a4) := hc 4 (by omega)
    have q5 : wp.cell? ⟨gp, k * 7 + 5, none⟩ = some (.pointer a5) := hc 5 (by omega)
    have q6 : wp.cell? ⟨gp, k * 7 + 6, none⟩ = some (.pointer a6) := hc 6 (by omega)
    have HR := Lib.hid (And.intro hr hk)
    have z0 : wp.cell? ⟨w.heap.size, 0, none⟩ = some (.int .i64 0) := (cell_of hpb 0).trans rfl
    have z1 : wp.cell? ⟨w.heap.size, 1, none⟩ = some (.pointer none) := (cell_of hpb 1).trans rfl
    have z2 : wp.cell? ⟨w.heap.size, 2, none⟩ = some (.pointer none) := (cell_of hpb 2).trans rfl
    have z3 : wp.cell? ⟨w.heap.size, 3, none⟩ = some (.pointer none) := (cell_of hpb 3).trans rfl
    have z4 : wp.cell? ⟨w.heap.size, 4, none⟩ = some (.pointer none) := (cell_of hpb 4).trans rfl
    have z5 : wp.cell? ⟨w.heap.size, 5, none⟩ = some (.pointer none) := (cell_of hpb 5).trans rfl
    have z6 : wp.cell? ⟨w.heap.size, 6, none⟩ = some (.pointer none) := (cell_of hpb 6).trans rfl
    have y0 := free_of hpb 0
    have y1 := free_of hpb 1
    have y2 := free_of hpb 2
    have y3 := free_of hpb 3
    have y4 := free_of hpb 4
    have y5 := free_of hpb 5
    have y6 := free_of hpb 6
    clear h h1 h2 hk hc hr hpb kwp hin hge hwp
    go_enter Tryz.func83, Tryz.ntmps83
    go_upto_region 1 with fail
    rw [show w.alloc (.cells #[.int .i64 0, .pointer none, .pointer none, .pointer none, .pointer none, .pointer none, .pointer none] 159 (0, 0)) = wp from HW.out.symm]
    go_wp2_with fail
    obtain ⟨w6, hw6⟩ : ∃ w6, w6 = ((((((wp.setCell ⟨w.heap.size, 0, none⟩ (.int .i64 a0)).setCell ⟨w.heap.size, 1, none⟩ (.pointer a1)).setCell ⟨w.heap.size, 2, none⟩ (.pointer a2)).setCell ⟨w.heap.size, 3, none⟩ (.pointer a3)).setCell ⟨w.heap.size, 4, none⟩ (.pointer a4)).setCell ⟨w.heap.size, 5, none⟩ (.pointer a5)).setCell ⟨w.heap.size, 6, none⟩ (.pointer a6) := ⟨_, rfl⟩
    have b6 : w6.heap[w.heap.size]? = some (.cells #[.int .i64 a0, .pointer a1, .pointer a2, .pointer a3, .pointer a4, .pointer a5, .pointer a6] 159 (0, 0)) := by
      rw [hw6]
      exact (set_same (set_same (set_same (set_same (set_same (set_same (set_same HP.out.1 0 _) 1 _) 2 _) 3 _) 4 _) 5 _) 6 _).trans rfl
    have k6 : Keep [] w w6 := by rw [hw6]; exact ((((((HP.out.2.set (.inr (Nat.le_refl _)) _ _).set (.inr (Nat.le_refl _)) _ _).set (.inr (Nat.le_refl _)) _ _).set (.inr (Nat.le_refl _)) _ _).set (.inr (Nat.le_refl _)) _ _).set (.inr (Nat.le_refl _)) _ _).set (.inr (Nat.le_refl _)) _ _
    rw [← hw6]
    clear hw6
    have lv := run_loadVar_row (P := Tryz.prog) w6 w.heap.size 159 159 _ (0, 0) _ b6 Tryz.underlying159 rfl (by kernel_rfl)
    refine bodyPost_ret (results_cell_tmp rfl _ _ _ rfl lv) rfl ?_
    refine ⟨fun o' k' he ho => ?_, fun h => by omega, k6⟩
    obtain rfl : k = k' := by omega
    rw [HR.out.2] at ho
    cases ho
    rw [HR.out.1]
    rfl
  · have z0 : wp.cell? ⟨w.heap.size, 0, none⟩ = some (.int .i64 0) := (cell_of hpb 0).trans rfl
    have z1 : wp.cell? ⟨w.heap.size, 1, none⟩ = some (.pointer none) := (cell_of hpb 1).trans rfl
    have z2 : wp.cell? ⟨w.heap.size, 2, none⟩ = some (.pointer none) := (cell_of hpb 2).trans rfl
    have z3 : wp.cell? ⟨w.heap.size, 3, none⟩ = some (.pointer none) := (cell_of hpb 3).trans rfl
    have z4 : wp.cell? ⟨w.heap.size, 4, none⟩ = some (.pointer none) := (cell_of hpb 4).trans rfl
    have z5 : wp.cell? ⟨w.heap.size, 5, none⟩ = some (.pointer none) := (cell_of hpb 5).trans rfl
    have z6 : wp.cell? ⟨w.heap.size, 6, none⟩ = some (.pointer none) := (cell_of hpb 6).trans rfl
    have y0 := free_of hpb 0
    have y1 := free_of hpb 1
    have y2 := free_of hpb 2
    have y3 := free_of hpb 3
    have y4 := free_of hpb 4
    have y5 := free_of hpb 5
    have y6 := free_of hpb 6
    clear h h1 h2 hpb kwp hwp
    have main : ∀ (r : Ending) (w' : World), (r = .returned (.tuple #[.agg zrow.toArray, .bool false]) ∧ Keep [] w w') → ((∀ (o : One) (k : Nat), n = (k : Int) → ms[k]? = some o → r = .returned (.tuple #[.agg o.row.toArray, .bool true])) ∧ ((n < 0 ∨ (ms.length : Int) ≤ n) → r = .returned (.tuple #[.agg zrow.toArray, .bool false])) ∧ Keep [] w w') := fun r w' ⟨hr, hk⟩ => ⟨fun o k he ho => absurd (List.getElem?_eq_some_iff.1 ho).1 (by omega), fun _ => hr, hk⟩
    refine Calls.mono ?_ main
    clear main
    by_cases h0 : n < 0
    · clear hin
      go_enter Tryz.func83, Tryz.ntmps83
      go_upto_region 1 with fail
      rw [show w.alloc (.cells #[.int .i64 0, .pointer none, .pointer none, .pointer none, .pointer none, .pointer none, .pointer none] 159 (0, 0)) = wp from HW.out.symm]
      go_wp2_with fail
      obtain ⟨w6, hw6⟩ : ∃ w6, w6 = ((((((wp.setCell ⟨w.heap.size, 0, none⟩ (.int .i64 0)).setCell ⟨w.heap.size, 1, none⟩ (.pointer none)).setCell ⟨w.heap.size, 2, none⟩ (.pointer none)).setCell ⟨w.heap.size, 3, none⟩ (.pointer none)).setCell ⟨w.heap.size, 4, none⟩ (.pointer none)).setCell ⟨w.heap.size, 5, none⟩ (.pointer none)).setCell ⟨w.heap.size, 6, none⟩ (.pointer none) := ⟨_, rfl⟩
      have b6 : w6.heap[w.heap.size]? = some (.cells #[.int .i64 0, .pointer none, .pointer none, .pointer none, .pointer none, .pointer none, .pointer none] 159 (0, 0)) := by
        rw [hw6]
        exact (set_same (set_same (set_same (set_same (set_same (set_same (set_same HP.out.1 0 _) 1 _) 2 _) 3 _) 4 _) 5 _) 6 _).trans rfl
      have k6 : Keep [] w w6 := by rw [hw6]; exact ((((((HP.out.2.set (.inr (Nat.le_refl _)) _ _).set (.inr (Nat.le_refl _)) _ _).set (.inr (Nat.le_refl _)) _ _).set (.inr (Nat.le_refl _)) _ _).set (.inr (Nat.le_refl _)) _ _).set (.inr (Nat.le_refl _)) _ _).set (.inr (Nat.le_refl _)) _ _
      rw [← hw6]
      clear hw6
      have lv := run_loadVar_row (P := Tryz.prog) w6 w.heap.size 159 159 _ (0, 0) _ b6 Tryz.underlying159 rfl (by kernel_rfl)
      refine bodyPost_ret (results_cell_tmp rfl _ _ _ rfl lv) rfl ?_
      exact ⟨rfl, k6⟩
    · have h1 : ¬ n < (ms.length : Int) := by omega
      clear hin
      go_enter Tryz.func83, Tryz.ntmps83
      go_upto_region 1 with fail
      rw [show w.alloc (.cells #[.int .i64 0, .pointer none, .pointer none, .pointer none, .pointer none, .pointer none, .pointer none] 159 (0, 0)) = wp from HW.out.symm]
      go_wp2_with fail
      obtain ⟨w6, hw6⟩ : ∃ w6, w6 = ((((((wp.setCell ⟨w.heap.size, 0, none⟩ (.int .i64 0)).setCell ⟨w.heap.size, 1, none⟩ (.pointer none)).setCell ⟨w.heap.size, 2, none⟩ (.pointer none)).setCell ⟨w.heap.size, 3, none⟩ (.pointer none)).setCell ⟨w.heap.size, 4, none⟩ (.pointer none)).setCell ⟨w.heap.size, 5, none⟩ (.pointer none)).setCell ⟨w.heap.size, 6, none⟩ (.pointer none) := ⟨_, rfl⟩
      have b6 : w6.heap[w.heap.size]? = some (.cells #[.int .i64 0, .pointer none, .pointer none, .pointer none, .pointer none, .pointer none, .pointer none] 159 (0, 0)) := by
        rw [hw6]
        exact (set_same (set_same (set_same (set_same (set_same (set_same (set_same HP.out.1 0 _) 1 _) 2 _) 3 _) 4 _) 5 _) 6 _).trans rfl
      have k6 : Keep [] w w6 := by rw [hw6]; exact ((((((HP.out.2.set (.inr (Nat.le_refl _)) _ _).set (.inr (Nat.le_refl _)) _ _).set (.inr (Nat.le_refl _)) _ _).set (.inr (Nat.le_refl _)) _ _).set (.inr (Nat.le_refl _)) _ _).set (.inr (Nat.le_refl _)) _ _).set (.inr (Nat.le_refl _)) _ _
      rw [← hw6]
      clear hw6
      have lv := run_loadVar_row (P := Tryz.prog) w6 w.heap.size 159 159 _ (0, 0) _ b6 Tryz.underlying159 rfl (by kernel_rfl)
      refine bodyPost_ret (results_cell_tmp rfl _ _ _ rfl lv) rfl ?_
      exact ⟨rfl, k6⟩
end
end Go.Proofs.YtgagiggljlikbaaGreat.Lw

/- Layer 4's scripts: world.look, world.counts, world.peek. -/
namespace Go.Proofs.YtgagiggljlikbaaGreat.Lw
open Go.RowKit Go.Proofs.YtgagiggljlikbaaGreat.Mem Go.Proofs.YtgagiggljlikbaaGreat.Ar Go.Proofs.YtgagiggljlikbaaGreat.En Go.Proofs.YtgagiggljlikbaaGreat.Ch Go.Proofs.YtgagiggljlikbaaGreat.Rc
open Go.Proofs.YtgagiggljlikbaaGreat.Ra (owns_block RAt rBlocks)
open Go.Proofs.YtgagiggljlikbaaGreat.Ref (owns_shape)
set_option linter.unusedVariables false
set_option linter.unusedSimpArgs false
set_option maxRecDepth 100000
section
variable {w w' w2 w0 : World} {f f' : Lab} {g : Lay} {X : Nat → CI} {A A' : Ars} {Q Q' : List Nat} {ms : List One} {qv qv' : Value} {bs bs' : List (Option Nat)} {S : List Nat} {Y : CI} {k wd : Nat} {o : One} {m' : Mach} {hold : Int}
theorem WPart.cs (h : WPart w0 w f g wd hold ms) : w.cell? ⟨wd, 0, none⟩ = some (pt g.L.b) ∧ w.cell? ⟨wd, 1, none⟩ = some (pt (g.xb 0)) ∧ w.cell? ⟨wd, 2, none⟩ = some (pt (g.xb 1)) ∧ w.cell? ⟨wd, 3, none⟩ = some (pt g.b) ∧ w.cell? ⟨wd, 4, none⟩ = some (pt (g.rx 0)) ∧ w.cell? ⟨wd, 5, none⟩ = some (pt (g.rx 1)) := by
  obtain ⟨ap, cap, h1, -⟩ := h.st
  exact ⟨(cell_of h1 0).trans rfl, (cell_of h1 1).trans rfl, (cell_of h1 2).trans rfl, (cell_of h1 3).trans rfl, (cell_of h1 4).trans rfl, (cell_of h1 5).trans rfl⟩
theorem listX_len (X : CI) (A : Ars) (b : Int) : (listX X A b).1.length ≤ 4096 := by
  unfold listX
  split
  · rw [List.length_map]
    exact Nat.le_trans (List.length_filter_le _ _) (rowX_len _ _ _)
  · simp
set_option maxHeartbeats 2000000 in
theorem look0 (h : All w0 w f g wd hold X A Q ms) (bk : Int) :
    Calls Tryz.prog 86 #[.pointer (some ⟨wd, 0, none⟩), .int .i64 0, .int .i64 bk] w fun r w' => r = .returned (.bool true) ∧ Keep [] w w' := by
  have c7 := h.wp.hc
  have HA := Lib.hid h
  have CL : Hid (∀ wx, Keep [] w wx → Calls Tryz.prog 31 #[.pointer (some ⟨g.xb 0, 0, none⟩), .int .i64 bk] wx fun r w' => ∃ v, r = .returned (.tuple #[v, .int .i64 (listX (X 0) A bk).2]) ∧ w'.ownsRow wx.heap.size 3 1 v (listX (X 0) A bk).1.length ((listX (X 0) A bk).1.map (.int .i64)) ∧ Keep [] wx w') := Lib.hid fun wx kx => list_ ((h.keep0 kx).p.env 0 (by omega)) h.good.okA (h.good.okH 0 (by omega)) bk
  have CH : Hid (∀ wx, Keep [] w wx → Calls Tryz.prog 20 #[.pointer (some ⟨g.xb 0, 0, none⟩), .int .i64 bk] wx fun r w' => r = .returned (.tuple #[.int .i64 (heldX (X 0) A bk).1, .int .i64 (heldX (X 0) A bk).2]) ∧ Keep [] wx w') := Lib.hid fun wx kx => held_ ((h.keep0 kx).p.env 0 (by omega)) h.good.okA (h.good.okH 0 (by omega)) bk
  have RL : Hid (∀ wx, Keep [] w wx → Calls Tryz.prog 120 #[.pointer (some ⟨g.rx 0, 0, none⟩), .int .i64 bk] wx fun r w' => ∃ v, r = .returned (.tuple #[v, .int .i64 (listX (X 0) A bk).2]) ∧ w'.ownsRow wx.heap.size 3 1 v (listX (X 0) A bk).1.length ((listX (X 0) A bk).1.map (.int .i64)) ∧ Keep [] wx w') := Lib.hid fun wx kx => by
    obtain ⟨qv, bs, hr⟩ := (h.keep0 kx).r
    exact listR (hr.env 0 (by omega)) h.good.okA (h.good.okH 0 (by omega)) bk
  have RH : Hid (∀ wx, Keep [] w wx → Calls Tryz.prog 121 #[.pointer (some ⟨g.rx 0, 0, none⟩), .int .i64 bk] wx fun r w' => r = .returned (.tuple #[.int .i64 (heldX (X 0) A bk).1, .int .i64 (heldX (X 0) A bk).2]) ∧ Keep [] wx w') := Lib.hid fun wx kx => by
    obtain ⟨qv, bs, hr⟩ := (h.keep0 kx).r
    exact heldR (hr.env 0 (by omega)) h.good.okA (h.good.okH 0 (by omega)) bk
  obtain ⟨l, hl⟩ : ∃ l, l = (listX (X 0) A bk).1 := ⟨_, rfl⟩
  have hll : l.length ≤ 4096 := by rw [hl]; exact listX_len _ _ _
  obtain ⟨le, hle⟩ : ∃ le, le = (listX (X 0) A bk).2 := ⟨_, rfl⟩
  obtain ⟨hn, hhn⟩ : ∃ hn, hn = (heldX (X 0) A bk).1 := ⟨_, rfl⟩
  obtain ⟨he, hhe⟩ : ∃ he, he = (heldX (X 0) A bk).2 := ⟨_, rfl⟩
  rw [← hl, ← hle] at CL RL
  rw [← hhn, ← hhe] at CH RH
  clear h hl hle hhn hhe
  cases hz : (bits BinOp.and IntKind.i64 hold 8 == 0)
  · obtain ⟨s0, s1, s2, s3, s4, s5⟩ := HA.out.wp.cs
    unfold pt at s0 s1 s2 s3 s4 s5
    go_enter Tryz.func86, Tryz.ntmps86
    go_wp2_with fail
    refine (CL.out w (Keep.refl _ _)).mono ?_
    rintro e w1 ⟨v1, rfl, o1, k1⟩
    have H1 := Lib.hid (And.intro o1 k1)
    obtain ⟨t0, t1, t2, t3, t4, t5⟩ := (HA.out.keep0 k1).wp.cs
    unfold pt at t0 t1 t2 t3 t4 t5
    clear o1 k1 s0 s1 s2 s3 s4 s5 c7
    go_wp2_with fail
    refine (RL.out w1 H1.out.2).mono ?_
    rintro e w2 ⟨v2, rfl, o2, k2⟩
    have H2 := Lib.hid (And.intro o2 (And.intro k2 (H1.out.2.trans k2)))
    clear o2 k2 t0 t1 t2 t3 t4 t5
    go_wp2_with fail
    refine (sameL (owns_keep0 H1.out.1 H2.out.2.1) H2.out.1 hll).mono ?_
    rintro e w3 ⟨rfl, k3⟩
    have K3 := Lib.hid (H2.out.2.2.trans k3)
    clear k3
    go_wp2_with fail
    refine (num_ le w3).mono ?_
    rintro e wx ⟨rfl, hx⟩
    obtain rfl := hx
    obtain ⟨t0, t1, t2, t3, t4, t5⟩ := (HA.out.keep0 K3.out).wp.cs
    unfold pt at t0 t1 t2 t3 t4 t5
    go_wp2_with fail
    refine (CH.out _ K3.out).mono ?_
    rintro e w4 ⟨rfl, k4⟩
    have K4 := Lib.hid (K3.out.trans k4)
    obtain ⟨t0, t1, t2, t3, t4, t5⟩ := (HA.out.keep0 K4.out).wp.cs
    unfold pt at t0 t1 t2 t3 t4 t5
    clear k4
    go_wp2_with fail
    refine (RH.out w4 K4.out).mono ?_
    rintro e w5 ⟨rfl, k5⟩
    have K5 := Lib.hid (K4.out.trans k5)
    clear k5 t0 t1 t2 t3 t4 t5
    go_wp2_with fail
    refine (num_ he w5).mono ?_
    rintro e wx ⟨rfl, hx⟩
    obtain rfl := hx
    go_wp2_with fail
    go_ret
    exact ⟨rfl, K5.out⟩
  · go_enter Tryz.func86, Tryz.ntmps86
    go_wp2_with fail
    go_ret
    exact ⟨rfl, Keep.refl _ _⟩
set_option maxHeartbeats 2000000 in
theorem look1 (h : All w0 w f g wd hold X A Q ms) (bk : Int) :
    Calls Tryz.prog 86 #[.pointer (some ⟨wd, 0, none⟩), .int .i64 1, .int .i64 bk] w fun r w' => r = .returned (.bool true) ∧ Keep [] w w' := by
  have c7 := h.wp.hc
  have HA := Lib.hid h
  have CL : Hid (∀ wx, Keep [] w wx → Calls Tryz.prog 31 #[.pointer (some ⟨g.xb 1, 0, none⟩), .int .i64 bk] wx fun r w' => ∃ v, r = .returned (.tuple #[v, .int .i64 (listX (X 1) A bk).2]) ∧ w'.ownsRow wx.heap.size 3 1 v (listX (X 1) A bk).1.length ((listX (X 1) A bk).1.map (.int .i64)) ∧ Keep [] wx w') := Lib.hid fun wx kx => list_ ((h.keep0 kx).p.env 1 (by omega)) h.good.okA (h.good.okH 1 (by omega)) bk
  have CH : Hid (∀ wx, Keep [] w wx → Calls Tryz.prog 20 #[.pointer (some ⟨g.xb 1, 0, none⟩), .int .i64 bk] wx fun r w' => r = .returned (.tuple #[.int .i64 (heldX (X 1) A bk).1, .int .i64 (heldX (X 1) A bk).2]) ∧ Keep [] wx w') := Lib.hid fun wx kx => held_ ((h.keep0 kx).p.env 1 (by omega)) h.good.okA (h.good.okH 1 (by omega)) bk
  have RL : Hid (∀ wx, Keep [] w wx → Calls Tryz.prog 120 #[.pointer (some ⟨g.rx 1, 0, none⟩), .int .i64 bk] wx fun r w' => ∃ v, r = .returned (.tuple #[v, .int .i64 (listX (X 1) A bk).2]) ∧ w'.ownsRow wx.heap.size 3 1 v (listX (X 1) A bk).1.length ((listX (X 1) A bk).1.map (.int .i64)) ∧ Keep [] wx w') := Lib.hid fun wx kx => by
    obtain ⟨qv, bs, hr⟩ := (h.keep0 kx).r
    exact listR (hr.env 1 (by omega)) h.good.okA (h.good.okH 1 (by omega)) bk
  have RH : Hid (∀ wx, Keep [] w wx → Calls Tryz.prog 121 #[.pointer (some ⟨g.rx 1, 0, none⟩), .int .i64 bk] wx fun r w' => r = .returned (.tuple #[.int .i64 (heldX (X 1) A bk).1, .int .i64 (heldX (X 1) A bk).2]) ∧ Keep [] wx w') := Lib.hid fun wx kx => by
    obtain ⟨qv, bs, hr⟩ := (h.keep0 kx).r
    exact heldR (hr.env 1 (by omega)) h.good.okA (h.good.okH 1 (by omega)) bk
  obtain ⟨l, hl⟩ : ∃ l, l = (listX (X 1) A bk).1 := ⟨_, rfl⟩
  have hll : l.length ≤ 4096 := by rw [hl]; exact listX_len _ _ _
  obtain ⟨le, hle⟩ : ∃ le, le = (listX (X 1) A bk).2 := ⟨_, rfl⟩
  obtain ⟨hn, hhn⟩ : ∃ hn, hn = (heldX (X 1) A bk).1 := ⟨_, rfl⟩
  obtain ⟨he, hhe⟩ : ∃ he, he = (heldX (X 1) A bk).2 := ⟨_, rfl⟩
  rw [← hl, ← hle] at CL RL
  rw [← hhn, ← hhe] at CH RH
  clear h hl hle hhn hhe
  cases hz : (bits BinOp.and IntKind.i64 hold 8 == 0)
  · obtain ⟨s0, s1, s2, s3, s4, s5⟩ := HA.out.wp.cs
    unfold pt at s0 s1 s2 s3 s4 s5
    go_enter Tryz.func86, Tryz.ntmps86
    go_wp2_with fail
    refine (CL.out w (Keep.refl _ _)).mono ?_
    rintro e w1 ⟨v1, rfl, o1, k1⟩
    have H1 := Lib.hid (And.intro o1 k1)
    obtain ⟨t0, t1, t2, t3, t4, t5⟩ := (HA.out.keep0 k1).wp.cs
    unfold pt at t0 t1 t2 t3 t4 t5
    clear o1 k1 s0 s1 s2 s3 s4 s5 c7
    go_wp2_with fail
    refine (RL.out w1 H1.out.2).mono ?_
    rintro e w2 ⟨v2, rfl, o2, k2⟩
    have H2 := Lib.hid (And.intro o2 (And.intro k2 (H1.out.2.trans k2)))
    clear o2 k2 t0 t1 t2 t3 t4 t5
    go_wp2_with fail
    refine (sameL (owns_keep0 H1.out.1 H2.out.2.1) H2.out.1 hll).mono ?_
    rintro e w3 ⟨rfl, k3⟩
    have K3 := Lib.hid (H2.out.2.2.trans k3)
    clear k3
    go_wp2_with fail
    refine (num_ le w3).mono ?_
    rintro e wx ⟨rfl, hx⟩
    obtain rfl := hx
    obtain ⟨t0, t1, t2, t3, t4, t5⟩ := (HA.out.keep0 K3.out).wp.cs
    unfold pt at t0 t1 t2 t3 t4 t5
    go_wp2_with fail
    refine (CH.out _ K3.out).mono ?_
    rintro e w4 ⟨rfl, k4⟩
    have K4 := Lib.hid (K3.out.trans k4)
    obtain ⟨t0, t1, t2, t3, t4, t5⟩ := (HA.out.keep0 K4.out).wp.cs
    unfold pt at t0 t1 t2 t3 t4 t5
    clear k4
    go_wp2_with fail
    refine (RH.out w4 K4.out).mono ?_
    rintro e w5 ⟨rfl, k5⟩
    have K5 := Lib.hid (K4.out.trans k5)
    clear k5 t0 t1 t2 t3 t4 t5
    go_wp2_with fail
    refine (num_ he w5).mono ?_
    rintro e wx ⟨rfl, hx⟩
    obtain rfl := hx
    go_wp2_with fail
    go_ret
    exact ⟨rfl, K5.out⟩
  · go_enter Tryz.func86, Tryz.ntmps86
    go_wp2_with fail
    go_ret
    exact ⟨rfl, Keep.refl _ _⟩
theorem buckets_q {L : Bk} {xb hb : Nat} {Z : CI} (h : IdxP w L xb hb Z) : Calls Tryz.prog 122 #[.pointer (some ⟨xb, 0, none⟩)] w fun r w' => r = .returned (.int .i64 Z.heads.length) ∧ w' = w := flip (buckets_ h)
set_option maxHeartbeats 4000000 in
theorem countsL (h : All w0 w f g wd hold X A Q ms) :
    Calls Tryz.prog 87 #[.pointer (some ⟨wd, 0, none⟩)] w fun r w' => r = .returned (.bool true) ∧ Keep [] w w' := by
  have c7 := h.wp.hc
  have HA := Lib.hid h
  clear h
  cases hz : (bits BinOp.and IntKind.i64 hold 8 == 0)
  · go_enter Tryz.func87, Tryz.ntmps87
    go_wp2_with fail
    go_loopw [3] (fun i wr => ∃ k : Nat, k ≤ 2 ∧ i = .int .i64 k ∧ Keep [] w wr) (fun i _ => 2 - (intOf i).toNat)
    case atStart => exact ⟨0, by omega, rfl, Keep.refl _ _⟩
    case round =>
      obtain ⟨k, hk, rfl, hK⟩ := hrel
      have KR := Lib.hid (And.intro hK (HA.out.keep0 hK))
      obtain ⟨qv, bs, hr⟩ := KR.out.2.r
      have h3 : k = 0 ∨ k = 1 ∨ k = 2 := by omega
      obtain ⟨s0, s1, s2, s3, s4, s5⟩ := KR.out.2.wp.cs
      unfold pt at s0 s1 s2 s3 s4 s5
      rcases h3 with rfl | rfl | rfl
      · have ir := (hr.env 0 (by omega)).ix
        have d2 : wr.cell? ⟨g.rx 0, 2, none⟩ = some (.slice (some ⟨g.rh 0, 0, none⟩) (X 0).heads.length (g.rc 0)) := (cell_of ir.hx 2).trans rfl
        have d3 : wr.cell? ⟨g.rx 0, 3, none⟩ = some (.int .i64 (X 0).count) := (cell_of ir.hx 3).trans rfl
        have CA : Hid (∀ n, Calls Tryz.prog 61 #[.pointer (some ⟨g.xb 0, 0, none⟩)] (wr.drewN n) fun r w' => r = .returned (.int .i64 (X 0).count) ∧ w' = wr.drewN n) := Lib.hid fun n => flip (accX ((KR.out.2.p.env 0 (by omega)).ix.keep ((Keep.refl [] wr).drewN n) (by simp)))
        have CB : Hid (∀ n, Calls Tryz.prog 122 #[.pointer (some ⟨g.xb 0, 0, none⟩)] (wr.drewN n) fun r w' => r = .returned (.int .i64 (X 0).heads.length) ∧ w' = wr.drewN n) := Lib.hid fun n => buckets_q ((KR.out.2.p.env 0 (by omega)).ix.keep ((Keep.refl [] wr).drewN n) (by simp))
        clear hK hr ir
        go_wp2_with fail
        go_quiet (first | (go_at_call 61; exact Calls.quiet_of_same (CA.out _)) | (go_at_call 122; exact Calls.quiet_of_same (CB.out _)))
        go_wp2_with fail
        go_roundw
        case rel => exact ⟨1, by omega, by go_num, KR.out.1.trans ((Keep.refl _ _).drewN _)⟩
        case measure => simp [intOf]
      · have ir := (hr.env 1 (by omega)).ix
        have d2 : wr.cell? ⟨g.rx 1, 2, none⟩ = some (.slice (some ⟨g.rh 1, 0, none⟩) (X 1).heads.length (g.rc 1)) := (cell_of ir.hx 2).trans rfl
        have d3 : wr.cell? ⟨g.rx 1, 3, none⟩ = some (.int .i64 (X 1).count) := (cell_of ir.hx 3).trans rfl
        have CA : Hid (∀ n, Calls Tryz.prog 61 #[.pointer (some ⟨g.xb 1, 0, none⟩)] (wr.drewN n) fun r w' => r = .returned (.int .i64 (X 1).count) ∧ w' = wr.drewN n) := Lib.hid fun n => flip (accX ((KR.out.2.p.env 1 (by omega)).ix.keep ((Keep.refl [] wr).drewN n) (by simp)))
        have CB : Hid (∀ n, Calls Tryz.prog 122 #[.pointer (some ⟨g.xb 1, 0, none⟩)] (wr.drewN n) fun r w' => r = .returned (.int .i64 (X 1).heads.length) ∧ w' = wr.drewN n) := Lib.hid fun n => buckets_q ((KR.out.2.p.env 1 (by omega)).ix.keep ((Keep.refl [] wr).drewN n) (by simp))
        clear hK hr ir
        go_wp2_with fail
        go_quiet (first | (go_at_call 61; exact Calls.quiet_of_same (CA.out _)) | (go_at_call 122; exact Calls.quiet_of_same (CB.out _)))
        go_wp2_with fail
        go_roundw
        case rel => exact ⟨2, by omega, by go_num, KR.out.1.trans ((Keep.refl _ _).drewN _)⟩
        case measure => simp [intOf]
      · have ca : wr.cell? ⟨g.b, 3, none⟩ = some (.int .i64 A.acc) := (hr.env 0 (by omega)).ar.c3
        have CA : Hid (∀ n, Calls Tryz.prog 60 #[.pointer (some ⟨g.L.b, 0, none⟩)] (wr.drewN n) fun r w' => r = .returned (.int .i64 A.acc) ∧ w' = wr.drewN n) := Lib.hid fun n => flip (accP ((KR.out.2.p.env 0 (by omega)).ar.keep ((Keep.refl [] wr).drewN n) (by simp)))
        have CB : Hid (∀ n, Calls Tryz.prog 123 #[.pointer (some ⟨g.b, 0, none⟩)] (wr.drewN n) fun r w' => r = .returned (.int .i64 A.acc) ∧ w' = wr.drewN n) := Lib.hid fun n => flip (Go.Proofs.YtgagiggljlikbaaGreat.Ra.accR ((hr.env 0 (by omega)).ar.keep ((Keep.refl [] wr).drewN n) (by simp)))
        clear hK hr
        go_wp2_with fail
        first
          | (refine (CA.out 0).mono ?_; rintro e wx ⟨rfl, hx⟩; obtain rfl := hx; go_wp2_with fail; refine (CB.out 0).mono ?_; rintro e wx ⟨rfl, hx⟩; obtain rfl := hx)
          | go_quiet (first | (go_at_call 60; exact Calls.quiet_of_same (CA.out _)) | (go_at_call 123; exact Calls.quiet_of_same (CB.out _)))
        go_wp2_with fail
        go_ret
        exact ⟨by simp, KR.out.1.trans ((Keep.refl _ _).drewN _)⟩
  · go_enter Tryz.func87, Tryz.ntmps87
    go_wp2_with fail
    go_ret
    exact ⟨rfl, Keep.refl _ _⟩
theorem sameU {l : List Int} {B1 B2 : Nat} {v1 v2 : Value} : True := trivial
set_option maxHeartbeats 2000000 in
theorem peekL (h : All w0 w f g wd hold X A Q ms) (s : Int) :
    Calls Tryz.prog 88 #[.pointer (some ⟨wd, 0, none⟩), .int .i64 s] w fun r w' => r = .returned (.bool true) ∧ Keep [] w w' := by
  have c7 := h.wp.hc
  have HA := Lib.hid h
  have hwA := (h.p.env 0 (by omega)).ar.fits.w2
  have CP : Hid (∃ (l : List Int) (le : Int), l.length ≤ 16 ∧ Calls Tryz.prog 74 #[.pointer (some ⟨g.L.b, 0, none⟩), .int .i64 s] w (fun r w' => ∃ v, r = .returned (.tuple #[v, .int .i64 le]) ∧ w'.ownsRow w.heap.size 83 1 v l.length (l.map (.int .u64)) ∧ Keep [] w w') ∧
      ∀ wx, Keep [] w wx → Calls Tryz.prog 124 #[.pointer (some ⟨g.b, 0, none⟩), .int .i64 s] wx (fun r w' => ∃ v, r = .returned (.tuple #[v, .int .i64 le]) ∧ w'.ownsRow wx.heap.size 83 1 v l.length (l.map (.int .u64)) ∧ Keep [] wx w')) := Lib.hid (by
    cases hin : inUseB A s with
    | false =>
      refine ⟨[], 22, by simp, (peek_no (h.p.env 0 (by omega)).ar s hin).mono ?_, fun wx kx => ?_⟩
      · rintro r w' ⟨rfl, rfl⟩
        exact ⟨_, rfl, World.ownsRow_nil _ _ _ _, Keep.refl _ _⟩
      · obtain ⟨qv, bs, hr⟩ := (h.keep0 kx).r
        refine (peekR_no (hr.env 0 (by omega)).ar s hin).mono ?_
        rintro r w' ⟨rfl, rfl⟩
        exact ⟨_, rfl, World.ownsRow_nil _ _ _ _, Keep.refl _ _⟩
    | true =>
      refine ⟨slotWords A s.toNat, 0, by rw [slotWords_length]; exact hwA, (peek_ok (h.p.env 0 (by omega)).ar s hin).mono ?_, fun wx kx => ?_⟩
      · rintro r w' ⟨rfl, hb, kk⟩
        refine ⟨_, rfl, ⟨by rw [List.length_map, slotWords_length, Nat.mul_one], .inr ⟨_, A.width, _, by rw [slotWords_length], Nat.le_refl _, hb, by rw [slotWords_length]; exact Nat.le_refl _, by unfold maxLen; omega, by simp [slotWords_length], ?_⟩⟩, kk⟩
        rw [List.toList_toArray, Nat.mul_one, List.take_of_length_le (by simp)]
      · obtain ⟨qv, bs, hr⟩ := (h.keep0 kx).r
        refine (peekR_ok (hr.env 0 (by omega)).ar s hin).mono ?_
        rintro r w' ⟨v, rfl, ho, kk⟩
        exact ⟨v, rfl, by rw [slotWords_length]; exact ho, kk⟩)
  obtain ⟨l, le, hl, C1, C2⟩ := CP.out
  have D1 := Lib.hid C1
  have D2 := Lib.hid C2
  clear h C1 C2 CP
  obtain ⟨s0, s1, s2, s3, s4, s5⟩ := HA.out.wp.cs
  unfold pt at s0 s1 s2 s3 s4 s5
  have main : Calls Tryz.prog 88 #[.pointer (some ⟨wd, 0, none⟩), .int .i64 s] w fun r w' => r = .returned (.bool true) ∧ Keep [] w w' := by
    cases hz : (hold != 15)
    all_goals
      go_enter Tryz.func88, Tryz.ntmps88
      go_wp2_with fail
      refine D1.out.mono ?_
      rintro e w1 ⟨v1, rfl, o1, k1⟩
      have H1 := Lib.hid (And.intro o1 k1)
      obtain ⟨t0, t1, t2, t3, t4, t5⟩ := (HA.out.keep0 k1).wp.cs
      unfold pt at t0 t1 t2 t3 t4 t5
      clear o1 k1 s0 s1 s2 s3 s4 s5 c7
      go_wp2_with fail
      refine (D2.out w1 H1.out.2).mono ?_
      rintro e w2 ⟨v2, rfl, o2, k2⟩
      have H2 := Lib.hid (And.intro o2 (And.intro (owns_keep0 H1.out.1 k2) (H1.out.2.trans k2)))
      have c7 := (HA.out.keep0 (H1.out.2.trans k2)).wp.hc
      obtain ⟨p1, c1, rfl⟩ := owns_shape o2
      obtain ⟨p2, c2, rfl⟩ := owns_shape H1.out.1
      clear o2 k2 t0 t1 t2 t3 t4 t5
      go_wp2_with fail
    · refine (num_ le w2).mono ?_
      rintro e wx ⟨rfl, hx⟩
      obtain rfl := hx
      go_wp2_with fail
      go_loopw [9] (fun i wr => ∃ k : Nat, k ≤ l.length ∧ i = .int .i64 k ∧ Keep [] wx wr) (fun i _ => l.length - (intOf i).toNat)
      case atStart => exact ⟨0, Nat.zero_le _, rfl, Keep.refl _ _⟩
      case round =>
        obtain ⟨k, hk, rfl, hK⟩ := hrel
        have KR := Lib.hid hK
        clear hK
        by_cases hlt : k < l.length
        · have hk' : (k : Int) < (l.length : Int) := by omega
          have o1 := owns_keep0 H2.out.1 KR.out
          have o2 := owns_keep0 H2.out.2.1 KR.out
          obtain ⟨g1, cc1, e1, -⟩ := owns_pos o1 (by omega)
          obtain ⟨g2, cc2, e2, -⟩ := owns_pos o2 (by omega)
          cases e1
          cases e2
          obtain ⟨x, hx⟩ : ∃ x, x = l[k] := ⟨_, rfl⟩
          have d1 : wr.cell? ⟨g1, k, none⟩ = some (.int .u64 x) := by
            rw [o1.cellAt k (by omega), hx]
            simp [hlt]
          have d2 : wr.cell? ⟨g2, k, none⟩ = some (.int .u64 x) := by
            rw [o2.cellAt k (by omega), hx]
            simp [hlt]
          clear o1 o2 hx
          go_wp2_with fail
          go_quiet (fail)
          go_wp2_with fail
          go_roundw
          case rel => exact ⟨k + 1, hlt, by go_num, KR.out.trans ((Keep.refl _ _).drewN _)⟩
          case measure => simp [intOf]; omega
        · have hke : k = l.length := by omega
          subst hke
          go_wp2_with fail
          go_ret
          exact ⟨rfl, H2.out.2.2.trans KR.out⟩
    · go_ret
      exact ⟨rfl, H2.out.2.2⟩
  exact main
end
end Go.Proofs.YtgagiggljlikbaaGreat.Lw
