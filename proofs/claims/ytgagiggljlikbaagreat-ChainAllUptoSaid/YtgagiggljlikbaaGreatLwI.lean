/- Layer 4's scripts: world.begin: the first kinds. -/
import Derived.Test.YtgagiggljlikbaaGreatLwH
namespace Go.Proofs.YtgagiggljlikbaaGreat.Lw
open Go.RowKit Go.Proofs.YtgagiggljlikbaaGreat.Mem Go.Proofs.YtgagiggljlikbaaGreat.Ar Go.Proofs.YtgagiggljlikbaaGreat.En Go.Proofs.YtgagiggljlikbaaGreat.Ch Go.Proofs.YtgagiggljlikbaaGreat.Rc
open Go.Proofs.YtgagiggljlikbaaGreat.Ra (owns_block RAt rBlocks)
open Go.Proofs.YtgagiggljlikbaaGreat.Ref (owns_shape)
set_option linter.unusedVariables false
set_option linter.unusedSimpArgs false
set_option maxRecDepth 100000
section
variable {w w' w1 w2 w3 w0 : World} {f f' : Lab} {g : Lay} {X : Nat → CI} {A A' : Ars} {Q Q' : List Nat} {ms : List One} {qv qv' : Value} {bs bs' : List (Option Nat)} {S : List Nat} {Y : CI} {k wd i mb vb sb rb n : Nat} {o : One} {m m' : Mach} {hold : Int}
set_option maxHeartbeats 8000000 in
theorem begin_ins0 (h : All w0 w f g wd hold X A Q ms) (hms : ms.length ≤ 1400000000000) (of a b : Int) :
    Calls Tryz.prog 82 #[.pointer (some ⟨wd, 0, none⟩), .agg #[.int .i64 3, .int .i64 of, .int .i64 a, .int .i64 b], .int .i64 0] w fun r w' => r = .returned (.tuple #[]) ∧ ∃ f' o, All w0 w' f' g wd hold X A Q (ms ++ [o]) := by
  obtain ⟨wq, hwq⟩ : ∃ wq, wq = (w.alloc (.cells #[.int .i64 3, .int .i64 of, .int .i64 a, .int .i64 b] 102 (0, 0))).alloc (.cells zrow.toArray 159 (0, 0)) := ⟨_, rfl⟩
  have kq : Keep [] w wq := by rw [hwq]; exact ((Keep.refl _ _).alloc _).alloc _
  have ho : wq.heap[w.heap.size]? = some (.cells #[.int .i64 3, .int .i64 of, .int .i64 a, .int .i64 b] 102 (0, 0)) := by rw [hwq]; exact alloc_some _ (alloc_new _ _)
  have hz : wq.heap[w.heap.size + 1]? = some (.cells zrow.toArray 159 (0, 0)) := by
    rw [hwq]
    have := alloc_new (w.alloc (.cells #[.int .i64 3, .int .i64 of, .int .i64 a, .int .i64 b] 102 (0, 0))) (.cells zrow.toArray 159 (0, 0))
    rw [World.size_alloc] at this
    exact this
  have hq := h.keep0 kq
  have hwd := (h.wp.dom wd 0 h.wp.lw).2
  have F1 := Lib.hid (And.intro (h.wp.fresh (Nat.le_refl _)) (And.intro (h.wp.fresh (Nat.le_succ _)) hwd))
  obtain ⟨s0, s1, s2, s3, s4, s5⟩ := hq.wp.cs
  unfold pt at s0 s1 s2 s3 s4 s5
  have o0 : wq.cell? ⟨w.heap.size, 0, none⟩ = some (.int .i64 3) := (cell_of ho 0).trans rfl
  have o2 : wq.cell? ⟨w.heap.size, 2, none⟩ = some (.int .i64 a) := (cell_of ho 2).trans rfl
  have o3 : wq.cell? ⟨w.heap.size, 3, none⟩ = some (.int .i64 b) := (cell_of ho 3).trans rfl
  have n1 : wd ≠ w.heap.size + 1 := by omega
  have n2 : w.heap.size ≠ w.heap.size + 1 := by omega
  have HQ := Lib.hid (And.intro hq (And.intro hz kq))
  have WQ := Lib.hid hwq
  obtain ⟨qv, bs, hr⟩ := h.r
  have CP : Hid (∀ wx, Keep [] w wx → Calls Tryz.prog 34 #[.pointer (some ⟨g.xb 0, 0, none⟩), .int .i64 a, .int .i64 b] wx (MadeP wx g 0 (.ins (newI a b)))) := Lib.hid fun wx kx => made_ins (h.p.keep kx (by simp)) (by omega) a b
  have CR : Hid (∀ wx, Keep [] w wx → Calls Tryz.prog 109 #[.pointer (some ⟨g.rx 0, 0, none⟩), .int .i64 a, .int .i64 b] wx (MadeR wx g (rBlocks g.b g.sg qv bs) 0 (.ins (newI a b)))) := Lib.hid fun wx kx => maderIns (hr.keep kx (by simp)) (by omega) a b
  have HH := Lib.hid (And.intro h hr)
  clear h hr hwq kq ho hz hq hwd
  go_enter Tryz.func82, Tryz.ntmps82
  go_wp2_with fail
  rw [show (w.alloc (.cells #[.int .i64 3, .int .i64 of, .int .i64 a, .int .i64 b] 102 (0, 0))).alloc (.cells #[.int .i64 0, .pointer none, .pointer none, .pointer none, .pointer none, .pointer none, .pointer none] 159 (0, 0)) = wq from WQ.out.symm]
  go_region_held3 (fun w' => w'.cell? ⟨wd, 1, none⟩ = some (.pointer (some ⟨g.xb 0, 0, none⟩)) ∧ w'.cell? ⟨wd, 4, none⟩ = some (.pointer (some ⟨g.rx 0, 0, none⟩)) ∧ w'.cell? ⟨w.heap.size, 2, none⟩ = some (.int .i64 a) ∧ w'.cell? ⟨w.heap.size, 3, none⟩ = some (.int .i64 b))
    (first | (refine ⟨?_, ?_, ?_, ?_⟩ <;> (repeat (refine aside ?_ (by assumption))) <;> assumption) | go_keep)
    (first
      | (go_at_call 34; refine (CP.out wq.drew (HQ.out.2.2.drew)).mono ?_; rintro e w1 ⟨mb, vb, sb, rfl, g1, l1, b1, k1⟩; have t0 := k1.cell (show wq.drew.cell? _ = _ from s1) (by simp); have t1 := k1.cell (show wq.drew.cell? _ = _ from s4) (by simp); have t2 := k1.cell (show wq.drew.cell? _ = _ from o2) (by simp); have t3 := k1.cell (show wq.drew.cell? _ = _ from o3) (by simp); have H1 := Lib.hid (And.intro g1 (And.intro l1 (And.intro b1 k1))); clear g1 l1 b1 k1)
      | (go_at_call 109; refine (CR.out w1 (HQ.out.2.2.drew.trans H1.out.2.2.2)).mono ?_; rintro e w2 ⟨rb, rfl, g2, l2, b2, k2⟩; have u0 := k2.cell (t0) (by simp); have u1 := k2.cell (t1) (by simp); have u2 := k2.cell (t2) (by simp); have u3 := k2.cell (t3) (by simp); have H2 := Lib.hid (And.intro g2 (And.intro l2 (And.intro b2 k2))); have hz2 := k2.old (H1.out.2.2.2.old (show wq.drew.heap[w.heap.size + 1]? = _ from HQ.out.2.1) (by simp)) (by simp); have z0 : w2.cell? ⟨w.heap.size + 1, 0, none⟩ = some (.int .i64 0) := (cell_of hz2 0).trans rfl; have z1 : w2.cell? ⟨w.heap.size + 1, 1, none⟩ = some (.pointer none) := (cell_of hz2 1).trans rfl; have z2 : w2.cell? ⟨w.heap.size + 1, 2, none⟩ = some (.pointer none) := (cell_of hz2 2).trans rfl; have z3 : w2.cell? ⟨w.heap.size + 1, 3, none⟩ = some (.pointer none) := (cell_of hz2 3).trans rfl; have z4 : w2.cell? ⟨w.heap.size + 1, 4, none⟩ = some (.pointer none) := (cell_of hz2 4).trans rfl; have z5 : w2.cell? ⟨w.heap.size + 1, 5, none⟩ = some (.pointer none) := (cell_of hz2 5).trans rfl; have z6 : w2.cell? ⟨w.heap.size + 1, 6, none⟩ = some (.pointer none) := (cell_of hz2 6).trans rfl; have zf := free_of hz2; have HZ := Lib.hid hz2; clear g2 l2 b2 k2 hz2))
  obtain ⟨pb, hpb⟩ : ∃ pb, pb = w.heap.size + 1 := ⟨_, rfl⟩
  rw [← hpb]
  obtain ⟨w4, hw4⟩ : ∃ w4, w4 = ((((((w2.setCell ⟨pb, 0, none⟩ (.int .i64 1)).setCell ⟨pb, 1, none⟩ (.pointer (some ⟨mb, 0, none⟩))).setCell ⟨pb, 2, none⟩ (.pointer none)).setCell ⟨pb, 3, none⟩ (.pointer none)).setCell ⟨pb, 4, none⟩ (.pointer (some ⟨rb, 0, none⟩))).setCell ⟨pb, 5, none⟩ (.pointer none)).setCell ⟨pb, 6, none⟩ (.pointer none) := ⟨_, rfl⟩
  have hzz := HZ.out
  rw [← hpb] at hzz
  have b4 : w4.heap[pb]? = some (.cells #[.int .i64 1, .pointer (some ⟨mb, 0, none⟩), .pointer none, .pointer none, .pointer (some ⟨rb, 0, none⟩), .pointer none, .pointer none] 159 (0, 0)) := by
    rw [hw4]
    exact (set_same (set_same (set_same (set_same (set_same (set_same (set_same hzz 0 _) 1 _) 2 _) 3 _) 4 _) 5 _) 6 _).trans rfl
  have k24 : Keep [pb] w2 w4 := by rw [hw4]; exact keep_set (keep_set (keep_set (keep_set (keep_set (keep_set (keep_set (Keep.refl [pb] w2) (List.mem_singleton.2 rfl) _ _) (List.mem_singleton.2 rfl) _ _) (List.mem_singleton.2 rfl) _ _) (List.mem_singleton.2 rfl) _ _) (List.mem_singleton.2 rfl) _ _) (List.mem_singleton.2 rfl) _ _) (List.mem_singleton.2 rfl) _ _
  have kw2 : Keep [] w w2 := (HQ.out.2.2.drew.trans H1.out.2.2.2).trans H2.out.2.2.2
  have kw4 : Keep [] w w4 := keep_base kw2 k24 (fun x hx => by rw [List.mem_singleton.1 hx, hpb]; omega)
  rw [← hw4]
  clear hw4 hzz
  have zq := HQ.out.2.2.size
  have z1' := H1.out.2.2.2.size
  have hzq : w.heap.size + 2 = wq.heap.size := by rw [WQ.out]; simp
  have hA4 := HH.out.1.keep0 kw4
  obtain ⟨ap, cap, q1, q2, q3⟩ := hA4.wp.st
  have W4 := Lib.hid (And.intro hA4 (And.intro q1 (And.intro q2 (And.intro q3 (And.intro kw4 (And.intro k24 (And.intro kw2 b4)))))))
  have PB := Lib.hid (And.intro hpb hzq)
  have c6 : w4.cell? ⟨wd, 6, none⟩ = some (.slice ap ms.length cap) := (cell_of q1 6).trans rfl
  have n6 := World.new_ne w4 _ c6
  have za : ∀ o : Obj, (w4.alloc o).drew.frozen? ⟨wd, 6, none⟩ = false := fun o => free_of (show (w4.alloc o).drew.heap[wd]? = _ from alloc_some o q1) 6
  have zc : ∀ o : Obj, (w4.alloc o).drew.cell? ⟨wd, 6, none⟩ = some (.slice ap ms.length cap) := fun o => (cell_of (show (w4.alloc o).drew.heap[wd]? = _ from alloc_some o q1) 6).trans rfl
  have v0 : w4.cell? ⟨pb, 0, none⟩ = some (.int .i64 1) := (cell_of b4 0).trans rfl
  have v1 : w4.cell? ⟨pb, 1, none⟩ = some (.pointer (some ⟨mb, 0, none⟩)) := (cell_of b4 1).trans rfl
  have v2 : w4.cell? ⟨pb, 2, none⟩ = some (.pointer none) := (cell_of b4 2).trans rfl
  have v3 : w4.cell? ⟨pb, 3, none⟩ = some (.pointer none) := (cell_of b4 3).trans rfl
  have v4 : w4.cell? ⟨pb, 4, none⟩ = some (.pointer (some ⟨rb, 0, none⟩)) := (cell_of b4 4).trans rfl
  have v5 : w4.cell? ⟨pb, 5, none⟩ = some (.pointer none) := (cell_of b4 5).trans rfl
  have v6 : w4.cell? ⟨pb, 6, none⟩ = some (.pointer none) := (cell_of b4 6).trans rfl
  have hwl : Hid (wd < w4.heap.size) := Lib.hid (lt_of q1)
  have hvo : Hid (some wd ≠ (Value.slice ap ms.length cap).ownBlock) := Lib.hid (fun e => by have := q3 wd e.symm; rw [hA4.wp.lw] at this; cases this)
  have e1 := Lib.hid (show ms.length + 1 ≤ maxLen by unfold maxLen; omega)
  have e2 := Lib.hid (show (ms.length + 1) * 56 ≤ 140737488355328 by omega)
  have e7 : Hid (∀ u ∈ [Value.int .i64 1, Value.pointer (some ⟨mb, 0, none⟩), Value.pointer none, Value.pointer none, Value.pointer (some ⟨rb, 0, none⟩), Value.pointer none, Value.pointer none], u.oneCell' = true) := Lib.hid (by simp [Value.oneCell'])
  obtain ⟨i0, hi0, hz0, hz1, hz2⟩ := info_parts infoPair
  have I0 := Lib.hid hi0
  have Z0 := Lib.hid (And.intro hz0 (And.intro hz1 hz2))
  clear hA4 q1 q2 q3 kw4 k24 kw2 b4 hpb hzq zq z1' hi0 hz0 hz1 hz2 s0 s1 s2 s3 s4 s5 o0 o2 o3 n1 n2 z0 z1 z2 z3 z4 z5 z6 zf t0 u0 t1 u1 t2 u2 t3 u3
  go_wp2_with fail
  go_region_law
    (first
      | (refine step_append_lies _ (by rfl) _ _ _ (by rfl) w0.heap.size 159 i0 _ 7 56 Tryz.underlying145 I0.out Z0.out.1 Z0.out.2.1 Z0.out.2.2 rfl (by decide) (.slice ap ms.length cap) ms.length (rowsO ms) (by rfl) (W4.out.2.2.1.alloc _).drew ⟨w4.heap.size, 0, none⟩ 1 1 [Value.int .i64 1, Value.pointer (some ⟨mb, 0, none⟩), Value.pointer none, Value.pointer none, Value.pointer (some ⟨rb, 0, none⟩), Value.pointer none, Value.pointer none] (by rfl) (by rfl) (World.news_of_block (cs := #[.int .i64 1, .pointer (some ⟨mb, 0, none⟩), .pointer none, .pointer none, .pointer (some ⟨rb, 0, none⟩), .pointer none, .pointer none]) (fr := (0, 0)) (alloc_new w4 _)) e7.out (by decide) e1.out e2.out (by have := W4.out.1.wp.keep.size; simp; omega) _ rfl ?_; intro gq capq w7 hown7 hgrow7 hat7 hlt7; have HO7 := Lib.hid hown7; have G7 := Lib.hid hgrow7; have A7 := Lib.hid hat7; have y1 : w7.cell? ⟨wd, 6, none⟩ = some (.slice ap ms.length cap) := (hgrow7.cell_far _ (by have := hwl.out; simp; omega) hvo.out).trans (zc _); have y2 : w7.frozen? ⟨wd, 6, none⟩ = false := (hgrow7.frozen_far _ (by have := hwl.out; simp; omega) hvo.out).trans (za _); clear hown7 hgrow7 hat7))
  all_goals
    go_wp2_with fail
    refine bodyPost_end (results_none rfl _ _ _) rfl ?_
    refine ⟨rfl, ?_⟩
    obtain ⟨hA4, q1, q2, q3, kw4, k24, kw2, b4⟩ := W4.out
    obtain ⟨hpb, hzq⟩ := PB.out
    obtain ⟨⟨g1, g1v, g1s⟩, ⟨l1, l1v, l1s⟩, hb1, k1⟩ := H1.out
    obtain ⟨g2, l2, hb2, k2⟩ := H2.out
    have zd : wq.drew.heap.size = wq.heap.size := rfl
    have zz1 := k1.size
    have zz2 := k2.size
    have zz4 := k24.size
    have zw := W4.out.1.wp.keep.size
    have zw0 : w0.heap.size ≤ w.heap.size := HH.out.1.wp.keep.size
    have fr : ∀ y, w.heap.size ≤ y → f y = none := fun y hy => HH.out.1.wp.fresh hy
    have ho : okM (X 0) (.ins (newI a b)) := ⟨⟨by simp [newI], fun h => by simp [newI] at h⟩, fun h => by simp [newI] at h⟩
    obtain ⟨f'', hf⟩ := All.born (i := 0) (m := .ins (newI a b)) (mb := mb) (vb := vb) (sb := sb) (rb := rb) (w3 := w7) hA4 (HH.out.2.keep kw4 (by simp)) (by omega) ho ((hb1.keep k2 (by simp) (by simp) (by simp)).keep k24 (by simp; omega) (by simp; omega) (by simp; omega)) (hb2.keep k24 (by simp; omega))
      ⟨fr mb (by omega), fr vb (by omega), fr sb (by omega), fr rb (by omega)⟩ ⟨by omega, by omega, by omega⟩ ⟨by omega, by omega, by omega, by omega⟩ ⟨by omega, by omega, by omega, by omega⟩ q1 q3 HO7.out ⟨G7.out.os, G7.out.tape, G7.out.output, G7.out.size, G7.out.block⟩ (A7.out.imp (fun e => e.symm) (fun e => congrArg some e))
    exact ⟨f'', _, hf⟩
set_option maxHeartbeats 8000000 in
theorem begin_ins1 (h : All w0 w f g wd hold X A Q ms) (hms : ms.length ≤ 1400000000000) (of a b : Int) :
    Calls Tryz.prog 82 #[.pointer (some ⟨wd, 0, none⟩), .agg #[.int .i64 3, .int .i64 of, .int .i64 a, .int .i64 b], .int .i64 1] w fun r w' => r = .returned (.tuple #[]) ∧ ∃ f' o, All w0 w' f' g wd hold X A Q (ms ++ [o]) := by
  obtain ⟨wq, hwq⟩ : ∃ wq, wq = (w.alloc (.cells #[.int .i64 3, .int .i64 of, .int .i64 a, .int .i64 b] 102 (0, 0))).alloc (.cells zrow.toArray 159 (0, 0)) := ⟨_, rfl⟩
  have kq : Keep [] w wq := by rw [hwq]; exact ((Keep.refl _ _).alloc _).alloc _
  have ho : wq.heap[w.heap.size]? = some (.cells #[.int .i64 3, .int .i64 of, .int .i64 a, .int .i64 b] 102 (0, 0)) := by rw [hwq]; exact alloc_some _ (alloc_new _ _)
  have hz : wq.heap[w.heap.size + 1]? = some (.cells zrow.toArray 159 (0, 0)) := by
    rw [hwq]
    have := alloc_new (w.alloc (.cells #[.int .i64 3, .int .i64 of, .int .i64 a, .int .i64 b] 102 (0, 0))) (.cells zrow.toArray 159 (0, 0))
    rw [World.size_alloc] at this
    exact this
  have hq := h.keep0 kq
  have hwd := (h.wp.dom wd 0 h.wp.lw).2
  have F1 := Lib.hid (And.intro (h.wp.fresh (Nat.le_refl _)) (And.intro (h.wp.fresh (Nat.le_succ _)) hwd))
  obtain ⟨s0, s1, s2, s3, s4, s5⟩ := hq.wp.cs
  unfold pt at s0 s1 s2 s3 s4 s5
  have o0 : wq.cell? ⟨w.heap.size, 0, none⟩ = some (.int .i64 3) := (cell_of ho 0).trans rfl
  have o2 : wq.cell? ⟨w.heap.size, 2, none⟩ = some (.int .i64 a) := (cell_of ho 2).trans rfl
  have o3 : wq.cell? ⟨w.heap.size, 3, none⟩ = some (.int .i64 b) := (cell_of ho 3).trans rfl
  have n1 : wd ≠ w.heap.size + 1 := by omega
  have n2 : w.heap.size ≠ w.heap.size + 1 := by omega
  have HQ := Lib.hid (And.intro hq (And.intro hz kq))
  have WQ := Lib.hid hwq
  obtain ⟨qv, bs, hr⟩ := h.r
  have CP : Hid (∀ wx, Keep [] w wx → Calls Tryz.prog 34 #[.pointer (some ⟨g.xb 1, 0, none⟩), .int .i64 a, .int .i64 b] wx (MadeP wx g 1 (.ins (newI a b)))) := Lib.hid fun wx kx => made_ins (h.p.keep kx (by simp)) (by omega) a b
  have CR : Hid (∀ wx, Keep [] w wx → Calls Tryz.prog 109 #[.pointer (some ⟨g.rx 1, 0, none⟩), .int .i64 a, .int .i64 b] wx (MadeR wx g (rBlocks g.b g.sg qv bs) 1 (.ins (newI a b)))) := Lib.hid fun wx kx => maderIns (hr.keep kx (by simp)) (by omega) a b
  have HH := Lib.hid (And.intro h hr)
  clear h hr hwq kq ho hz hq hwd
  go_enter Tryz.func82, Tryz.ntmps82
  go_wp2_with fail
  rw [show (w.alloc (.cells #[.int .i64 3, .int .i64 of, .int .i64 a, .int .i64 b] 102 (0, 0))).alloc (.cells #[.int .i64 0, .pointer none, .pointer none, .pointer none, .pointer none, .pointer none, .pointer none] 159 (0, 0)) = wq from WQ.out.symm]
  go_region_held3 (fun w' => w'.cell? ⟨wd, 2, none⟩ = some (.pointer (some ⟨g.xb 1, 0, none⟩)) ∧ w'.cell? ⟨wd, 5, none⟩ = some (.pointer (some ⟨g.rx 1, 0, none⟩)) ∧ w'.cell? ⟨w.heap.size, 2, none⟩ = some (.int .i64 a) ∧ w'.cell? ⟨w.heap.size, 3, none⟩ = some (.int .i64 b))
    (first | (refine ⟨?_, ?_, ?_, ?_⟩ <;> (repeat (refine aside ?_ (by assumption))) <;> assumption) | go_keep)
    (first
      | (go_at_call 34; refine (CP.out wq.drew (HQ.out.2.2.drew)).mono ?_; rintro e w1 ⟨mb, vb, sb, rfl, g1, l1, b1, k1⟩; have t0 := k1.cell (show wq.drew.cell? _ = _ from s2) (by simp); have t1 := k1.cell (show wq.drew.cell? _ = _ from s5) (by simp); have t2 := k1.cell (show wq.drew.cell? _ = _ from o2) (by simp); have t3 := k1.cell (show wq.drew.cell? _ = _ from o3) (by simp); have H1 := Lib.hid (And.intro g1 (And.intro l1 (And.intro b1 k1))); clear g1 l1 b1 k1)
      | (go_at_call 109; refine (CR.out w1 (HQ.out.2.2.drew.trans H1.out.2.2.2)).mono ?_; rintro e w2 ⟨rb, rfl, g2, l2, b2, k2⟩; have u0 := k2.cell (t0) (by simp); have u1 := k2.cell (t1) (by simp); have u2 := k2.cell (t2) (by simp); have u3 := k2.cell (t3) (by simp); have H2 := Lib.hid (And.intro g2 (And.intro l2 (And.intro b2 k2))); have hz2 := k2.old (H1.out.2.2.2.old (show wq.drew.heap[w.heap.size + 1]? = _ from HQ.out.2.1) (by simp)) (by simp); have z0 : w2.cell? ⟨w.heap.size + 1, 0, none⟩ = some (.int .i64 0) := (cell_of hz2 0).trans rfl; have z1 : w2.cell? ⟨w.heap.size + 1, 1, none⟩ = some (.pointer none) := (cell_of hz2 1).trans rfl; have z2 : w2.cell? ⟨w.heap.size + 1, 2, none⟩ = some (.pointer none) := (cell_of hz2 2).trans rfl; have z3 : w2.cell? ⟨w.heap.size + 1, 3, none⟩ = some (.pointer none) := (cell_of hz2 3).trans rfl; have z4 : w2.cell? ⟨w.heap.size + 1, 4, none⟩ = some (.pointer none) := (cell_of hz2 4).trans rfl; have z5 : w2.cell? ⟨w.heap.size + 1, 5, none⟩ = some (.pointer none) := (cell_of hz2 5).trans rfl; have z6 : w2.cell? ⟨w.heap.size + 1, 6, none⟩ = some (.pointer none) := (cell_of hz2 6).trans rfl; have zf := free_of hz2; have HZ := Lib.hid hz2; clear g2 l2 b2 k2 hz2))
  obtain ⟨pb, hpb⟩ : ∃ pb, pb = w.heap.size + 1 := ⟨_, rfl⟩
  rw [← hpb]
  obtain ⟨w4, hw4⟩ : ∃ w4, w4 = ((((((w2.setCell ⟨pb, 0, none⟩ (.int .i64 1)).setCell ⟨pb, 1, none⟩ (.pointer (some ⟨mb, 0, none⟩))).setCell ⟨pb, 2, none⟩ (.pointer none)).setCell ⟨pb, 3, none⟩ (.pointer none)).setCell ⟨pb, 4, none⟩ (.pointer (some ⟨rb, 0, none⟩))).setCell ⟨pb, 5, none⟩ (.pointer none)).setCell ⟨pb, 6, none⟩ (.pointer none) := ⟨_, rfl⟩
  have hzz := HZ.out
  rw [← hpb] at hzz
  have b4 : w4.heap[pb]? = some (.cells #[.int .i64 1, .pointer (some ⟨mb, 0, none⟩), .pointer none, .pointer none, .pointer (some ⟨rb, 0, none⟩), .pointer none, .pointer none] 159 (0, 0)) := by
    rw [hw4]
    exact (set_same (set_same (set_same (set_same (set_same (set_same (set_same hzz 0 _) 1 _) 2 _) 3 _) 4 _) 5 _) 6 _).trans rfl
  have k24 : Keep [pb] w2 w4 := by rw [hw4]; exact keep_set (keep_set (keep_set (keep_set (keep_set (keep_set (keep_set (Keep.refl [pb] w2) (List.mem_singleton.2 rfl) _ _) (List.mem_singleton.2 rfl) _ _) (List.mem_singleton.2 rfl) _ _) (List.mem_singleton.2 rfl) _ _) (List.mem_singleton.2 rfl) _ _) (List.mem_singleton.2 rfl) _ _) (List.mem_singleton.2 rfl) _ _
  have kw2 : Keep [] w w2 := (HQ.out.2.2.drew.trans H1.out.2.2.2).trans H2.out.2.2.2
  have kw4 : Keep [] w w4 := keep_base kw2 k24 (fun x hx => by rw [List.mem_singleton.1 hx, hpb]; omega)
  rw [← hw4]
  clear hw4 hzz
  have zq := HQ.out.2.2.size
  have z1' := H1.out.2.2.2.size
  have hzq : w.heap.size + 2 = wq.heap.size := by rw [WQ.out]; simp
  have hA4 := HH.out.1.keep0 kw4
  obtain ⟨ap, cap, q1, q2, q3⟩ := hA4.wp.st
  have W4 := Lib.hid (And.intro hA4 (And.intro q1 (And.intro q2 (And.intro q3 (And.intro kw4 (And.intro k24 (And.intro kw2 b4)))))))
  have PB := Lib.hid (And.intro hpb hzq)
  have c6 : w4.cell? ⟨wd, 6, none⟩ = some (.slice ap ms.length cap) := (cell_of q1 6).trans rfl
  have n6 := World.new_ne w4 _ c6
  have za : ∀ o : Obj, (w4.alloc o).drew.frozen? ⟨wd, 6, none⟩ = false := fun o => free_of (show (w4.alloc o).drew.heap[wd]? = _ from alloc_some o q1) 6
  have zc : ∀ o : Obj, (w4.alloc o).drew.cell? ⟨wd, 6, none⟩ = some (.slice ap ms.length cap) := fun o => (cell_of (show (w4.alloc o).drew.heap[wd]? = _ from alloc_some o q1) 6).trans rfl
  have v0 : w4.cell? ⟨pb, 0, none⟩ = some (.int .i64 1) := (cell_of b4 0).trans rfl
  have v1 : w4.cell? ⟨pb, 1, none⟩ = some (.pointer (some ⟨mb, 0, none⟩)) := (cell_of b4 1).trans rfl
  have v2 : w4.cell? ⟨pb, 2, none⟩ = some (.pointer none) := (cell_of b4 2).trans rfl
  have v3 : w4.cell? ⟨pb, 3, none⟩ = some (.pointer none) := (cell_of b4 3).trans rfl
  have v4 : w4.cell? ⟨pb, 4, none⟩ = some (.pointer (some ⟨rb, 0, none⟩)) := (cell_of b4 4).trans rfl
  have v5 : w4.cell? ⟨pb, 5, none⟩ = some (.pointer none) := (cell_of b4 5).trans rfl
  have v6 : w4.cell? ⟨pb, 6, none⟩ = some (.pointer none) := (cell_of b4 6).trans rfl
  have hwl : Hid (wd < w4.heap.size) := Lib.hid (lt_of q1)
  have hvo : Hid (some wd ≠ (Value.slice ap ms.length cap).ownBlock) := Lib.hid (fun e => by have := q3 wd e.symm; rw [hA4.wp.lw] at this; cases this)
  have e1 := Lib.hid (show ms.length + 1 ≤ maxLen by unfold maxLen; omega)
  have e2 := Lib.hid (show (ms.length + 1) * 56 ≤ 140737488355328 by omega)
  have e7 : Hid (∀ u ∈ [Value.int .i64 1, Value.pointer (some ⟨mb, 0, none⟩), Value.pointer none, Value.pointer none, Value.pointer (some ⟨rb, 0, none⟩), Value.pointer none, Value.pointer none], u.oneCell' = true) := Lib.hid (by simp [Value.oneCell'])
  obtain ⟨i0, hi0, hz0, hz1, hz2⟩ := info_parts infoPair
  have I0 := Lib.hid hi0
  have Z0 := Lib.hid (And.intro hz0 (And.intro hz1 hz2))
  clear hA4 q1 q2 q3 kw4 k24 kw2 b4 hpb hzq zq z1' hi0 hz0 hz1 hz2 s0 s1 s2 s3 s4 s5 o0 o2 o3 n1 n2 z0 z1 z2 z3 z4 z5 z6 zf t0 u0 t1 u1 t2 u2 t3 u3
  go_wp2_with fail
  go_region_law
    (first
      | (refine step_append_lies _ (by rfl) _ _ _ (by rfl) w0.heap.size 159 i0 _ 7 56 Tryz.underlying145 I0.out Z0.out.1 Z0.out.2.1 Z0.out.2.2 rfl (by decide) (.slice ap ms.length cap) ms.length (rowsO ms) (by rfl) (W4.out.2.2.1.alloc _).drew ⟨w4.heap.size, 0, none⟩ 1 1 [Value.int .i64 1, Value.pointer (some ⟨mb, 0, none⟩), Value.pointer none, Value.pointer none, Value.pointer (some ⟨rb, 0, none⟩), Value.pointer none, Value.pointer none] (by rfl) (by rfl) (World.news_of_block (cs := #[.int .i64 1, .pointer (some ⟨mb, 0, none⟩), .pointer none, .pointer none, .pointer (some ⟨rb, 0, none⟩), .pointer none, .pointer none]) (fr := (0, 0)) (alloc_new w4 _)) e7.out (by decide) e1.out e2.out (by have := W4.out.1.wp.keep.size; simp; omega) _ rfl ?_; intro gq capq w7 hown7 hgrow7 hat7 hlt7; have HO7 := Lib.hid hown7; have G7 := Lib.hid hgrow7; have A7 := Lib.hid hat7; have y1 : w7.cell? ⟨wd, 6, none⟩ = some (.slice ap ms.length cap) := (hgrow7.cell_far _ (by have := hwl.out; simp; omega) hvo.out).trans (zc _); have y2 : w7.frozen? ⟨wd, 6, none⟩ = false := (hgrow7.frozen_far _ (by have := hwl.out; simp; omega) hvo.out).trans (za _); clear hown7 hgrow7 hat7))
  all_goals
    go_wp2_with fail
    refine bodyPost_end (results_none rfl _ _ _) rfl ?_
    refine ⟨rfl, ?_⟩
    obtain ⟨hA4, q1, q2, q3, kw4, k24, kw2, b4⟩ := W4.out
    obtain ⟨hpb, hzq⟩ := PB.out
    obtain ⟨⟨g1, g1v, g1s⟩, ⟨l1, l1v, l1s⟩, hb1, k1⟩ := H1.out
    obtain ⟨g2, l2, hb2, k2⟩ := H2.out
    have zd : wq.drew.heap.size = wq.heap.size := rfl
    have zz1 := k1.size
    have zz2 := k2.size
    have zz4 := k24.size
    have zw := W4.out.1.wp.keep.size
    have zw0 : w0.heap.size ≤ w.heap.size := HH.out.1.wp.keep.size
    have fr : ∀ y, w.heap.size ≤ y → f y = none := fun y hy => HH.out.1.wp.fresh hy
    have ho : okM (X 1) (.ins (newI a b)) := ⟨⟨by simp [newI], fun h => by simp [newI] at h⟩, fun h => by simp [newI] at h⟩
    obtain ⟨f'', hf⟩ := All.born (i := 1) (m := .ins (newI a b)) (mb := mb) (vb := vb) (sb := sb) (rb := rb) (w3 := w7) hA4 (HH.out.2.keep kw4 (by simp)) (by omega) ho ((hb1.keep k2 (by simp) (by simp) (by simp)).keep k24 (by simp; omega) (by simp; omega) (by simp; omega)) (hb2.keep k24 (by simp; omega))
      ⟨fr mb (by omega), fr vb (by omega), fr sb (by omega), fr rb (by omega)⟩ ⟨by omega, by omega, by omega⟩ ⟨by omega, by omega, by omega, by omega⟩ ⟨by omega, by omega, by omega, by omega⟩ q1 q3 HO7.out ⟨G7.out.os, G7.out.tape, G7.out.output, G7.out.size, G7.out.block⟩ (A7.out.imp (fun e => e.symm) (fun e => congrArg some e))
    exact ⟨f'', _, hf⟩
set_option maxHeartbeats 8000000 in
theorem begin_wlk0 (h : All w0 w f g wd hold X A Q ms) (hms : ms.length ≤ 1400000000000) (of a b : Int) :
    Calls Tryz.prog 82 #[.pointer (some ⟨wd, 0, none⟩), .agg #[.int .i64 4, .int .i64 of, .int .i64 a, .int .i64 b], .int .i64 0] w fun r w' => r = .returned (.tuple #[]) ∧ ∃ f' o, All w0 w' f' g wd hold X A Q (ms ++ [o]) := by
  obtain ⟨wq, hwq⟩ : ∃ wq, wq = (w.alloc (.cells #[.int .i64 4, .int .i64 of, .int .i64 a, .int .i64 b] 102 (0, 0))).alloc (.cells zrow.toArray 159 (0, 0)) := ⟨_, rfl⟩
  have kq : Keep [] w wq := by rw [hwq]; exact ((Keep.refl _ _).alloc _).alloc _
  have ho : wq.heap[w.heap.size]? = some (.cells #[.int .i64 4, .int .i64 of, .int .i64 a, .int .i64 b] 102 (0, 0)) := by rw [hwq]; exact alloc_some _ (alloc_new _ _)
  have hz : wq.heap[w.heap.size + 1]? = some (.cells zrow.toArray 159 (0, 0)) := by
    rw [hwq]
    have := alloc_new (w.alloc (.cells #[.int .i64 4, .int .i64 of, .int .i64 a, .int .i64 b] 102 (0, 0))) (.cells zrow.toArray 159 (0, 0))
    rw [World.size_alloc] at this
    exact this
  have hq := h.keep0 kq
  have hwd := (h.wp.dom wd 0 h.wp.lw).2
  have F1 := Lib.hid (And.intro (h.wp.fresh (Nat.le_refl _)) (And.intro (h.wp.fresh (Nat.le_succ _)) hwd))
  obtain ⟨s0, s1, s2, s3, s4, s5⟩ := hq.wp.cs
  unfold pt at s0 s1 s2 s3 s4 s5
  have o0 : wq.cell? ⟨w.heap.size, 0, none⟩ = some (.int .i64 4) := (cell_of ho 0).trans rfl
  have o2 : wq.cell? ⟨w.heap.size, 2, none⟩ = some (.int .i64 a) := (cell_of ho 2).trans rfl
  have o3 : wq.cell? ⟨w.heap.size, 3, none⟩ = some (.int .i64 b) := (cell_of ho 3).trans rfl
  have n1 : wd ≠ w.heap.size + 1 := by omega
  have n2 : w.heap.size ≠ w.heap.size + 1 := by omega
  have HQ := Lib.hid (And.intro hq (And.intro hz kq))
  have WQ := Lib.hid hwq
  obtain ⟨qv, bs, hr⟩ := h.r
  have CP : Hid (∀ wx, Keep [] w wx → Calls Tryz.prog 22 #[.pointer (some ⟨g.xb 0, 0, none⟩), .int .i64 a] wx (MadeP wx g 0 (.wlk (newW a)))) := Lib.hid fun wx kx => made_wlk (h.p.keep kx (by simp)) (by omega) a
  have CR : Hid (∀ wx, Keep [] w wx → Calls Tryz.prog 110 #[.pointer (some ⟨g.rx 0, 0, none⟩), .int .i64 a] wx (MadeR wx g (rBlocks g.b g.sg qv bs) 0 (.wlk (newW a)))) := Lib.hid fun wx kx => maderWlk (hr.keep kx (by simp)) (by omega) a
  have HH := Lib.hid (And.intro h hr)
  clear h hr hwq kq ho hz hq hwd
  go_enter Tryz.func82, Tryz.ntmps82
  go_wp2_with fail
  rw [show (w.alloc (.cells #[.int .i64 4, .int .i64 of, .int .i64 a, .int .i64 b] 102 (0, 0))).alloc (.cells #[.int .i64 0, .pointer none, .pointer none, .pointer none, .pointer none, .pointer none, .pointer none] 159 (0, 0)) = wq from WQ.out.symm]
  go_region_held3 (fun w' => w'.cell? ⟨wd, 1, none⟩ = some (.pointer (some ⟨g.xb 0, 0, none⟩)) ∧ w'.cell? ⟨wd, 4, none⟩ = some (.pointer (some ⟨g.rx 0, 0, none⟩)) ∧ w'.cell? ⟨w.heap.size, 2, none⟩ = some (.int .i64 a))
    (first | (refine ⟨?_, ?_, ?_⟩ <;> (repeat (refine aside ?_ (by assumption))) <;> assumption) | go_keep)
    (first
      | (go_at_call 22; refine (CP.out wq.drew (HQ.out.2.2.drew)).mono ?_; rintro e w1 ⟨mb, vb, sb, rfl, g1, l1, b1, k1⟩; have t0 := k1.cell (show wq.drew.cell? _ = _ from s1) (by simp); have t1 := k1.cell (show wq.drew.cell? _ = _ from s4) (by simp); have t2 := k1.cell (show wq.drew.cell? _ = _ from o2) (by simp); have H1 := Lib.hid (And.intro g1 (And.intro l1 (And.intro b1 k1))); clear g1 l1 b1 k1)
      | (go_at_call 110; refine (CR.out w1 (HQ.out.2.2.drew.trans H1.out.2.2.2)).mono ?_; rintro e w2 ⟨rb, rfl, g2, l2, b2, k2⟩; have u0 := k2.cell (t0) (by simp); have u1 := k2.cell (t1) (by simp); have u2 := k2.cell (t2) (by simp); have H2 := Lib.hid (And.intro g2 (And.intro l2 (And.intro b2 k2))); have hz2 := k2.old (H1.out.2.2.2.old (show wq.drew.heap[w.heap.size + 1]? = _ from HQ.out.2.1) (by simp)) (by simp); have z0 : w2.cell? ⟨w.heap.size + 1, 0, none⟩ = some (.int .i64 0) := (cell_of hz2 0).trans rfl; have z1 : w2.cell? ⟨w.heap.size + 1, 1, none⟩ = some (.pointer none) := (cell_of hz2 1).trans rfl; have z2 : w2.cell? ⟨w.heap.size + 1, 2, none⟩ = some (.pointer none) := (cell_of hz2 2).trans rfl; have z3 : w2.cell? ⟨w.heap.size + 1, 3, none⟩ = some (.pointer none) := (cell_of hz2 3).trans rfl; have z4 : w2.cell? ⟨w.heap.size + 1, 4, none⟩ = some (.pointer none) := (cell_of hz2 4).trans rfl; have z5 : w2.cell? ⟨w.heap.size + 1, 5, none⟩ = some (.pointer none) := (cell_of hz2 5).trans rfl; have z6 : w2.cell? ⟨w.heap.size + 1, 6, none⟩ = some (.pointer none) := (cell_of hz2 6).trans rfl; have zf := free_of hz2; have HZ := Lib.hid hz2; clear g2 l2 b2 k2 hz2))
  obtain ⟨pb, hpb⟩ : ∃ pb, pb = w.heap.size + 1 := ⟨_, rfl⟩
  rw [← hpb]
  obtain ⟨w4, hw4⟩ : ∃ w4, w4 = ((((((w2.setCell ⟨pb, 0, none⟩ (.int .i64 2)).setCell ⟨pb, 1, none⟩ (.pointer none)).setCell ⟨pb, 2, none⟩ (.pointer (some ⟨mb, 0, none⟩))).setCell ⟨pb, 3, none⟩ (.pointer none)).setCell ⟨pb, 4, none⟩ (.pointer none)).setCell ⟨pb, 5, none⟩ (.pointer (some ⟨rb, 0, none⟩))).setCell ⟨pb, 6, none⟩ (.pointer none) := ⟨_, rfl⟩
  have hzz := HZ.out
  rw [← hpb] at hzz
  have b4 : w4.heap[pb]? = some (.cells #[.int .i64 2, .pointer none, .pointer (some ⟨mb, 0, none⟩), .pointer none, .pointer none, .pointer (some ⟨rb, 0, none⟩), .pointer none] 159 (0, 0)) := by
    rw [hw4]
    exact (set_same (set_same (set_same (set_same (set_same (set_same (set_same hzz 0 _) 1 _) 2 _) 3 _) 4 _) 5 _) 6 _).trans rfl
  have k24 : Keep [pb] w2 w4 := by rw [hw4]; exact keep_set (keep_set (keep_set (keep_set (keep_set (keep_set (keep_set (Keep.refl [pb] w2) (List.mem_singleton.2 rfl) _ _) (List.mem_singleton.2 rfl) _ _) (List.mem_singleton.2 rfl) _ _) (List.mem_singleton.2 rfl) _ _) (List.mem_singleton.2 rfl) _ _) (List.mem_singleton.2 rfl) _ _) (List.mem_singleton.2 rfl) _ _
  have kw2 : Keep [] w w2 := (HQ.out.2.2.drew.trans H1.out.2.2.2).trans H2.out.2.2.2
  have kw4 : Keep [] w w4 := keep_base kw2 k24 (fun x hx => by rw [List.mem_singleton.1 hx, hpb]; omega)
  rw [← hw4]
  clear hw4 hzz
  have zq := HQ.out.2.2.size
  have z1' := H1.out.2.2.2.size
  have hzq : w.heap.size + 2 = wq.heap.size := by rw [WQ.out]; simp
  have hA4 := HH.out.1.keep0 kw4
  obtain ⟨ap, cap, q1, q2, q3⟩ := hA4.wp.st
  have W4 := Lib.hid (And.intro hA4 (And.intro q1 (And.intro q2 (And.intro q3 (And.intro kw4 (And.intro k24 (And.intro kw2 b4)))))))
  have PB := Lib.hid (And.intro hpb hzq)
  have c6 : w4.cell? ⟨wd, 6, none⟩ = some (.slice ap ms.length cap) := (cell_of q1 6).trans rfl
  have n6 := World.new_ne w4 _ c6
  have za : ∀ o : Obj, (w4.alloc o).drew.frozen? ⟨wd, 6, none⟩ = false := fun o => free_of (show (w4.alloc o).drew.heap[wd]? = _ from alloc_some o q1) 6
  have zc : ∀ o : Obj, (w4.alloc o).drew.cell? ⟨wd, 6, none⟩ = some (.slice ap ms.length cap) := fun o => (cell_of (show (w4.alloc o).drew.heap[wd]? = _ from alloc_some o q1) 6).trans rfl
  have v0 : w4.cell? ⟨pb, 0, none⟩ = some (.int .i64 2) := (cell_of b4 0).trans rfl
  have v1 : w4.cell? ⟨pb, 1, none⟩ = some (.pointer none) := (cell_of b4 1).trans rfl
  have v2 : w4.cell? ⟨pb, 2, none⟩ = some (.pointer (some ⟨mb, 0, none⟩)) := (cell_of b4 2).trans rfl
  have v3 : w4.cell? ⟨pb, 3, none⟩ = some (.pointer none) := (cell_of b4 3).trans rfl
  have v4 : w4.cell? ⟨pb, 4, none⟩ = some (.pointer none) := (cell_of b4 4).trans rfl
  have v5 : w4.cell? ⟨pb, 5, none⟩ = some (.pointer (some ⟨rb, 0, none⟩)) := (cell_of b4 5).trans rfl
  have v6 : w4.cell? ⟨pb, 6, none⟩ = some (.pointer none) := (cell_of b4 6).trans rfl
  have hwl : Hid (wd < w4.heap.size) := Lib.hid (lt_of q1)
  have hvo : Hid (some wd ≠ (Value.slice ap ms.length cap).ownBlock) := Lib.hid (fun e => by have := q3 wd e.symm; rw [hA4.wp.lw] at this; cases this)
  have e1 := Lib.hid (show ms.length + 1 ≤ maxLen by unfold maxLen; omega)
  have e2 := Lib.hid (show (ms.length + 1) * 56 ≤ 140737488355328 by omega)
  have e7 : Hid (∀ u ∈ [Value.int .i64 2, Value.pointer none, Value.pointer (some ⟨mb, 0, none⟩), Value.pointer none, Value.pointer none, Value.pointer (some ⟨rb, 0, none⟩), Value.pointer none], u.oneCell' = true) := Lib.hid (by simp [Value.oneCell'])
  obtain ⟨i0, hi0, hz0, hz1, hz2⟩ := info_parts infoPair
  have I0 := Lib.hid hi0
  have Z0 := Lib.hid (And.intro hz0 (And.intro hz1 hz2))
  clear hA4 q1 q2 q3 kw4 k24 kw2 b4 hpb hzq zq z1' hi0 hz0 hz1 hz2 s0 s1 s2 s3 s4 s5 o0 o2 o3 n1 n2 z0 z1 z2 z3 z4 z5 z6 zf t0 u0 t1 u1 t2 u2
  go_wp2_with fail
  go_region_law
    (first
      | (refine step_append_lies _ (by rfl) _ _ _ (by rfl) w0.heap.size 159 i0 _ 7 56 Tryz.underlying145 I0.out Z0.out.1 Z0.out.2.1 Z0.out.2.2 rfl (by decide) (.slice ap ms.length cap) ms.length (rowsO ms) (by rfl) (W4.out.2.2.1.alloc _).drew ⟨w4.heap.size, 0, none⟩ 1 1 [Value.int .i64 2, Value.pointer none, Value.pointer (some ⟨mb, 0, none⟩), Value.pointer none, Value.pointer none, Value.pointer (some ⟨rb, 0, none⟩), Value.pointer none] (by rfl) (by rfl) (World.news_of_block (cs := #[.int .i64 2, .pointer none, .pointer (some ⟨mb, 0, none⟩), .pointer none, .pointer none, .pointer (some ⟨rb, 0, none⟩), .pointer none]) (fr := (0, 0)) (alloc_new w4 _)) e7.out (by decide) e1.out e2.out (by have := W4.out.1.wp.keep.size; simp; omega) _ rfl ?_; intro gq capq w7 hown7 hgrow7 hat7 hlt7; have HO7 := Lib.hid hown7; have G7 := Lib.hid hgrow7; have A7 := Lib.hid hat7; have y1 : w7.cell? ⟨wd, 6, none⟩ = some (.slice ap ms.length cap) := (hgrow7.cell_far _ (by have := hwl.out; simp; omega) hvo.out).trans (zc _); have y2 : w7.frozen? ⟨wd, 6, none⟩ = false := (hgrow7.frozen_far _ (by have := hwl.out; simp; omega) hvo.out).trans (za _); clear hown7 hgrow7 hat7))
  all_goals
    go_wp2_with fail
    refine bodyPost_end (results_none rfl _ _ _) rfl ?_
    refine ⟨rfl, ?_⟩
    obtain ⟨hA4, q1, q2, q3, kw4, k24, kw2, b4⟩ := W4.out
    obtain ⟨hpb, hzq⟩ := PB.out
    obtain ⟨⟨g1, g1v, g1s⟩, ⟨l1, l1v, l1s⟩, hb1, k1⟩ := H1.out
    obtain ⟨g2, l2, hb2, k2⟩ := H2.out
    have zd : wq.drew.heap.size = wq.heap.size := rfl
    have zz1 := k1.size
    have zz2 := k2.size
    have zz4 := k24.size
    have zw := W4.out.1.wp.keep.size
    have zw0 : w0.heap.size ≤ w.heap.size := HH.out.1.wp.keep.size
    have fr : ∀ y, w.heap.size ≤ y → f y = none := fun y hy => HH.out.1.wp.fresh hy
    have ho : okM (X 0) (.wlk (newW a)) := okW_new a
    obtain ⟨f'', hf⟩ := All.born (i := 0) (m := .wlk (newW a)) (mb := mb) (vb := vb) (sb := sb) (rb := rb) (w3 := w7) hA4 (HH.out.2.keep kw4 (by simp)) (by omega) ho ((hb1.keep k2 (by simp) (by simp) (by simp)).keep k24 (by simp; omega) (by simp; omega) (by simp; omega)) (hb2.keep k24 (by simp; omega))
      ⟨fr mb (by omega), fr vb (by omega), fr sb (by omega), fr rb (by omega)⟩ ⟨by omega, by omega, by omega⟩ ⟨by omega, by omega, by omega, by omega⟩ ⟨by omega, by omega, by omega, by omega⟩ q1 q3 HO7.out ⟨G7.out.os, G7.out.tape, G7.out.output, G7.out.size, G7.out.block⟩ (A7.out.imp (fun e => e.symm) (fun e => congrArg some e))
    exact ⟨f'', _, hf⟩
set_option maxHeartbeats 8000000 in
theorem begin_wlk1 (h : All w0 w f g wd hold X A Q ms) (hms : ms.length ≤ 1400000000000) (of a b : Int) :
    Calls Tryz.prog 82 #[.pointer (some ⟨wd, 0, none⟩), .agg #[.int .i64 4, .int .i64 of, .int .i64 a, .int .i64 b], .int .i64 1] w fun r w' => r = .returned (.tuple #[]) ∧ ∃ f' o, All w0 w' f' g wd hold X A Q (ms ++ [o]) := by
  obtain ⟨wq, hwq⟩ : ∃ wq, wq = (w.alloc (.cells #[.int .i64 4, .int .i64 of, .int .i64 a, .int .i64 b] 102 (0, 0))).alloc (.cells zrow.toArray 159 (0, 0)) := ⟨_, rfl⟩
  have kq : Keep [] w wq := by rw [hwq]; exact ((Keep.refl _ _).alloc _).alloc _
  have ho : wq.heap[w.heap.size]? = some (.cells #[.int .i64 4, .int .i64 of, .int .i64 a, .int .i64 b] 102 (0, 0)) := by rw [hwq]; exact alloc_some _ (alloc_new _ _)
  have hz : wq.heap[w.heap.size + 1]? = some (.cells zrow.toArray 159 (0, 0)) := by
    rw [hwq]
    have := alloc_new (w.alloc (.cells #[.int .i64 4, .int .i64 of, .int .i64 a, .int .i64 b] 102 (0, 0))) (.cells zrow.toArray 159 (0, 0))
    rw [World.size_alloc] at this
    exact this
  have hq := h.keep0 kq
  have hwd := (h.wp.dom wd 0 h.wp.lw).2
  have F1 := Lib.hid (And.intro (h.wp.fresh (Nat.le_refl _)) (And.intro (h.wp.fresh (Nat.le_succ _)) hwd))
  obtain ⟨s0, s1, s2, s3, s4, s5⟩ := hq.wp.cs
  unfold pt at s0 s1 s2 s3 s4 s5
  have o0 : wq.cell? ⟨w.heap.size, 0, none⟩ = some (.int .i64 4) := (cell_of ho 0).trans rfl
  have o2 : wq.cell? ⟨w.heap.size, 2, none⟩ = some (.int .i64 a) := (cell_of ho 2).trans rfl
  have o3 : wq.cell? ⟨w.heap.size, 3, none⟩ = some (.int .i64 b) := (cell_of ho 3).trans rfl
  have n1 : wd ≠ w.heap.size + 1 := by omega
  have n2 : w.heap.size ≠ w.heap.size + 1 := by omega
  have HQ := Lib.hid (And.intro hq (And.intro hz kq))
  have WQ := Lib.hid hwq
  obtain ⟨qv, bs, hr⟩ := h.r
  have CP : Hid (∀ wx, Keep [] w wx → Calls Tryz.prog 22 #[.pointer (some ⟨g.xb 1, 0, none⟩), .int .i64 a] wx (MadeP wx g 1 (.wlk (newW a)))) := Lib.hid fun wx kx => made_wlk (h.p.keep kx (by simp)) (by omega) a
  have CR : Hid (∀ wx, Keep [] w wx → Calls Tryz.prog 110 #[.pointer (some ⟨g.rx 1, 0, none⟩), .int .i64 a] wx (MadeR wx g (rBlocks g.b g.sg qv bs) 1 (.wlk (newW a)))) := Lib.hid fun wx kx => maderWlk (hr.keep kx (by simp)) (by omega) a
  have HH := Lib.hid (And.intro h hr)
  clear h hr hwq kq ho hz hq hwd
  go_enter Tryz.func82, Tryz.ntmps82
  go_wp2_with fail
  rw [show (w.alloc (.cells #[.int .i64 4, .int .i64 of, .int .i64 a, .int .i64 b] 102 (0, 0))).alloc (.cells #[.int .i64 0, .pointer none, .pointer none, .pointer none, .pointer none, .pointer none, .pointer none] 159 (0, 0)) = wq from WQ.out.symm]
  go_region_held3 (fun w' => w'.cell? ⟨wd, 2, none⟩ = some (.pointer (some ⟨g.xb 1, 0, none⟩)) ∧ w'.cell? ⟨wd, 5, none⟩ = some (.pointer (some ⟨g.rx 1, 0, none⟩)) ∧ w'.cell? ⟨w.heap.size, 2, none⟩ = some (.int .i64 a))
    (first | (refine ⟨?_, ?_, ?_⟩ <;> (repeat (refine aside ?_ (by assumption))) <;> assumption) | go_keep)
    (first
      | (go_at_call 22; refine (CP.out wq.drew (HQ.out.2.2.drew)).mono ?_; rintro e w1 ⟨mb, vb, sb, rfl, g1, l1, b1, k1⟩; have t0 := k1.cell (show wq.drew.cell? _ = _ from s2) (by simp); have t1 := k1.cell (show wq.drew.cell? _ = _ from s5) (by simp); have t2 := k1.cell (show wq.drew.cell? _ = _ from o2) (by simp); have H1 := Lib.hid (And.intro g1 (And.intro l1 (And.intro b1 k1))); clear g1 l1 b1 k1)
      | (go_at_call 110; refine (CR.out w1 (HQ.out.2.2.drew.trans H1.out.2.2.2)).mono ?_; rintro e w2 ⟨rb, rfl, g2, l2, b2, k2⟩; have u0 := k2.cell (t0) (by simp); have u1 := k2.cell (t1) (by simp); have u2 := k2.cell (t2) (by simp); have H2 := Lib.hid (And.intro g2 (And.intro l2 (And.intro b2 k2))); have hz2 := k2.old (H1.out.2.2.2.old (show wq.drew.heap[w.heap.size + 1]? = _ from HQ.out.2.1) (by simp)) (by simp); have z0 : w2.cell? ⟨w.heap.size + 1, 0, none⟩ = some (.int .i64 0) := (cell_of hz2 0).trans rfl; have z1 : w2.cell? ⟨w.heap.size + 1, 1, none⟩ = some (.pointer none) := (cell_of hz2 1).trans rfl; have z2 : w2.cell? ⟨w.heap.size + 1, 2, none⟩ = some (.pointer none) := (cell_of hz2 2).trans rfl; have z3 : w2.cell? ⟨w.heap.size + 1, 3, none⟩ = some (.pointer none) := (cell_of hz2 3).trans rfl; have z4 : w2.cell? ⟨w.heap.size + 1, 4, none⟩ = some (.pointer none) := (cell_of hz2 4).trans rfl; have z5 : w2.cell? ⟨w.heap.size + 1, 5, none⟩ = some (.pointer none) := (cell_of hz2 5).trans rfl; have z6 : w2.cell? ⟨w.heap.size + 1, 6, none⟩ = some (.pointer none) := (cell_of hz2 6).trans rfl; have zf := free_of hz2; have HZ := Lib.hid hz2; clear g2 l2 b2 k2 hz2))
  obtain ⟨pb, hpb⟩ : ∃ pb, pb = w.heap.size + 1 := ⟨_, rfl⟩
  rw [← hpb]
  obtain ⟨w4, hw4⟩ : ∃ w4, w4 = ((((((w2.setCell ⟨pb, 0, none⟩ (.int .i64 2)).setCell ⟨pb, 1, none⟩ (.pointer none)).setCell ⟨pb, 2, none⟩ (.pointer (some ⟨mb, 0, none⟩))).setCell ⟨pb, 3, none⟩ (.pointer none)).setCell ⟨pb, 4, none⟩ (.pointer none)).setCell ⟨pb, 5, none⟩ (.pointer (some ⟨rb, 0, none⟩))).setCell ⟨pb, 6, none⟩ (.pointer none) := ⟨_, rfl⟩
  have hzz := HZ.out
  rw [← hpb] at hzz
  have b4 : w4.heap[pb]? = some (.cells #[.int .i64 2, .pointer none, .pointer (some ⟨mb, 0, none⟩), .pointer none, .pointer none, .pointer (some ⟨rb, 0, none⟩), .pointer none] 159 (0, 0)) := by
    rw [hw4]
    exact (set_same (set_same (set_same (set_same (set_same (set_same (set_same hzz 0 _) 1 _) 2 _) 3 _) 4 _) 5 _) 6 _).trans rfl
  have k24 : Keep [pb] w2 w4 := by rw [hw4]; exact keep_set (keep_set (keep_set (keep_set (keep_set (keep_set (keep_set (Keep.refl [pb] w2) (List.mem_singleton.2 rfl) _ _) (List.mem_singleton.2 rfl) _ _) (List.mem_singleton.2 rfl) _ _) (List.mem_singleton.2 rfl) _ _) (List.mem_singleton.2 rfl) _ _) (List.mem_singleton.2 rfl) _ _) (List.mem_singleton.2 rfl) _ _
  have kw2 : Keep [] w w2 := (HQ.out.2.2.drew.trans H1.out.2.2.2).trans H2.out.2.2.2
  have kw4 : Keep [] w w4 := keep_base kw2 k24 (fun x hx => by rw [List.mem_singleton.1 hx, hpb]; omega)
  rw [← hw4]
  clear hw4 hzz
  have zq := HQ.out.2.2.size
  have z1' := H1.out.2.2.2.size
  have hzq : w.heap.size + 2 = wq.heap.size := by rw [WQ.out]; simp
  have hA4 := HH.out.1.keep0 kw4
  obtain ⟨ap, cap, q1, q2, q3⟩ := hA4.wp.st
  have W4 := Lib.hid (And.intro hA4 (And.intro q1 (And.intro q2 (And.intro q3 (And.intro kw4 (And.intro k24 (And.intro kw2 b4)))))))
  have PB := Lib.hid (And.intro hpb hzq)
  have c6 : w4.cell? ⟨wd, 6, none⟩ = some (.slice ap ms.length cap) := (cell_of q1 6).trans rfl
  have n6 := World.new_ne w4 _ c6
  have za : ∀ o : Obj, (w4.alloc o).drew.frozen? ⟨wd, 6, none⟩ = false := fun o => free_of (show (w4.alloc o).drew.heap[wd]? = _ from alloc_some o q1) 6
  have zc : ∀ o : Obj, (w4.alloc o).drew.cell? ⟨wd, 6, none⟩ = some (.slice ap ms.length cap) := fun o => (cell_of (show (w4.alloc o).drew.heap[wd]? = _ from alloc_some o q1) 6).trans rfl
  have v0 : w4.cell? ⟨pb, 0, none⟩ = some (.int .i64 2) := (cell_of b4 0).trans rfl
  have v1 : w4.cell? ⟨pb, 1, none⟩ = some (.pointer none) := (cell_of b4 1).trans rfl
  have v2 : w4.cell? ⟨pb, 2, none⟩ = some (.pointer (some ⟨mb, 0, none⟩)) := (cell_of b4 2).trans rfl
  have v3 : w4.cell? ⟨pb, 3, none⟩ = some (.pointer none) := (cell_of b4 3).trans rfl
  have v4 : w4.cell? ⟨pb, 4, none⟩ = some (.pointer none) := (cell_of b4 4).trans rfl
  have v5 : w4.cell? ⟨pb, 5, none⟩ = some (.pointer (some ⟨rb, 0, none⟩)) := (cell_of b4 5).trans rfl
  have v6 : w4.cell? ⟨pb, 6, none⟩ = some (.pointer none) := (cell_of b4 6).trans rfl
  have hwl : Hid (wd < w4.heap.size) := Lib.hid (lt_of q1)
  have hvo : Hid (some wd ≠ (Value.slice ap ms.length cap).ownBlock) := Lib.hid (fun e => by have := q3 wd e.symm; rw [hA4.wp.lw] at this; cases this)
  have e1 := Lib.hid (show ms.length + 1 ≤ maxLen by unfold maxLen; omega)
  have e2 := Lib.hid (show (ms.length + 1) * 56 ≤ 140737488355328 by omega)
  have e7 : Hid (∀ u ∈ [Value.int .i64 2, Value.pointer none, Value.pointer (some ⟨mb, 0, none⟩), Value.pointer none, Value.pointer none, Value.pointer (some ⟨rb, 0, none⟩), Value.pointer none], u.oneCell' = true) := Lib.hid (by simp [Value.oneCell'])
  obtain ⟨i0, hi0, hz0, hz1, hz2⟩ := info_parts infoPair
  have I0 := Lib.hid hi0
  have Z0 := Lib.hid (And.intro hz0 (And.intro hz1 hz2))
  clear hA4 q1 q2 q3 kw4 k24 kw2 b4 hpb hzq zq z1' hi0 hz0 hz1 hz2 s0 s1 s2 s3 s4 s5 o0 o2 o3 n1 n2 z0 z1 z2 z3 z4 z5 z6 zf t0 u0 t1 u1 t2 u2
  go_wp2_with fail
  go_region_law
    (first
      | (refine step_append_lies _ (by rfl) _ _ _ (by rfl) w0.heap.size 159 i0 _ 7 56 Tryz.underlying145 I0.out Z0.out.1 Z0.out.2.1 Z0.out.2.2 rfl (by decide) (.slice ap ms.length cap) ms.length (rowsO ms) (by rfl) (W4.out.2.2.1.alloc _).drew ⟨w4.heap.size, 0, none⟩ 1 1 [Value.int .i64 2, Value.pointer none, Value.pointer (some ⟨mb, 0, none⟩), Value.pointer none, Value.pointer none, Value.pointer (some ⟨rb, 0, none⟩), Value.pointer none] (by rfl) (by rfl) (World.news_of_block (cs := #[.int .i64 2, .pointer none, .pointer (some ⟨mb, 0, none⟩), .pointer none, .pointer none, .pointer (some ⟨rb, 0, none⟩), .pointer none]) (fr := (0, 0)) (alloc_new w4 _)) e7.out (by decide) e1.out e2.out (by have := W4.out.1.wp.keep.size; simp; omega) _ rfl ?_; intro gq capq w7 hown7 hgrow7 hat7 hlt7; have HO7 := Lib.hid hown7; have G7 := Lib.hid hgrow7; have A7 := Lib.hid hat7; have y1 : w7.cell? ⟨wd, 6, none⟩ = some (.slice ap ms.length cap) := (hgrow7.cell_far _ (by have := hwl.out; simp; omega) hvo.out).trans (zc _); have y2 : w7.frozen? ⟨wd, 6, none⟩ = false := (hgrow7.frozen_far _ (by have := hwl.out; simp; omega) hvo.out).trans (za _); clear hown7 hgrow7 hat7))
  all_goals
    go_wp2_with fail
    refine bodyPost_end (results_none rfl _ _ _) rfl ?_
    refine ⟨rfl, ?_⟩
    obtain ⟨hA4, q1, q2, q3, kw4, k24, kw2, b4⟩ := W4.out
    obtain ⟨hpb, hzq⟩ := PB.out
    obtain ⟨⟨g1, g1v, g1s⟩, ⟨l1, l1v, l1s⟩, hb1, k1⟩ := H1.out
    obtain ⟨g2, l2, hb2, k2⟩ := H2.out
    have zd : wq.drew.heap.size = wq.heap.size := rfl
    have zz1 := k1.size
    have zz2 := k2.size
    have zz4 := k24.size
    have zw := W4.out.1.wp.keep.size
    have zw0 : w0.heap.size ≤ w.heap.size := HH.out.1.wp.keep.size
    have fr : ∀ y, w.heap.size ≤ y → f y = none := fun y hy => HH.out.1.wp.fresh hy
    have ho : okM (X 1) (.wlk (newW a)) := okW_new a
    obtain ⟨f'', hf⟩ := All.born (i := 1) (m := .wlk (newW a)) (mb := mb) (vb := vb) (sb := sb) (rb := rb) (w3 := w7) hA4 (HH.out.2.keep kw4 (by simp)) (by omega) ho ((hb1.keep k2 (by simp) (by simp) (by simp)).keep k24 (by simp; omega) (by simp; omega) (by simp; omega)) (hb2.keep k24 (by simp; omega))
      ⟨fr mb (by omega), fr vb (by omega), fr sb (by omega), fr rb (by omega)⟩ ⟨by omega, by omega, by omega⟩ ⟨by omega, by omega, by omega, by omega⟩ ⟨by omega, by omega, by omega, by omega⟩ q1 q3 HO7.out ⟨G7.out.os, G7.out.tape, G7.out.output, G7.out.size, G7.out.block⟩ (A7.out.imp (fun e => e.symm) (fun e => congrArg some e))
    exact ⟨f'', _, hf⟩
end
end Go.Proofs.YtgagiggljlikbaaGreat.Lw
