/- Layer 4's scripts: world.play. -/
import Derived.Test.YtgagiggljlikbaaGreatLwI
import Derived.Test.YtgagiggljlikbaaGreatLwJ
import Derived.Test.YtgagiggljlikbaaGreatLwH
namespace Go.Proofs.YtgagiggljlikbaaGreat.Lw
open Go.RowKit Go.Proofs.YtgagiggljlikbaaGreat.Mem Go.Proofs.YtgagiggljlikbaaGreat.Ar Go.Proofs.YtgagiggljlikbaaGreat.En Go.Proofs.YtgagiggljlikbaaGreat.Ch Go.Proofs.YtgagiggljlikbaaGreat.Rc
open Go.Proofs.YtgagiggljlikbaaGreat.Ra (owns_block RAt rBlocks)
set_option linter.unusedVariables false
set_option linter.unusedSimpArgs false
set_option maxRecDepth 100000
theorem bit1 (x : Int) : bits BinOp.and IntKind.i64 x 1 = 0 ∨ bits BinOp.and IntKind.i64 x 1 = 1 := by
  have h : (BitVec.ofInt 64 x &&& BitVec.ofInt 64 1).toNat = (BitVec.ofInt 64 x).toNat % 2 := by
    rw [BitVec.toNat_and, show (BitVec.ofInt 64 1).toNat = 1 from rfl, Nat.and_one_is_mod]
  have e : bits BinOp.and IntKind.i64 x 1 = IntKind.i64.wrap (((BitVec.ofInt 64 x).toNat % 2 : Nat) : Int) := by rw [← h]; rfl
  rw [e]
  rcases Nat.mod_two_eq_zero_or_one (BitVec.ofInt 64 x).toNat with q | q <;> rw [q]
  · exact .inl rfl
  · exact .inr rfl
section
variable {w w' w2 w3 w0 : World} {f f' : Lab} {g : Lay} {X : Nat → CI} {A A' : Ars} {Q Q' : List Nat} {ms : List One} {qv qv' : Value} {bs bs' : List (Option Nat)} {S : List Nat} {Y : CI} {k wd : Nat} {o : One} {m' : Mach} {hold : Int}
/-- some state of both sides, with so many machines at most -/
def Some_ (w0 : World) (g : Lay) (wd : Nat) (hold : Int) (n : Nat) (r : Ending) (w : World) : Prop :=
  r = .returned (.bool true) ∧ ∃ f X A Q ms, All w0 w f g wd hold X A Q ms ∧ ms.length ≤ n
theorem stepAny (h : All w0 w f g wd hold X A Q ms) (hk : ms[k]? = some o) :
    Calls Tryz.prog 84 #[.pointer (some ⟨wd, 0, none⟩), .agg o.row.toArray] w (Some_ w0 g wd hold ms.length) := by
  cases o with
  | mk i m mb vb sb rb =>
    cases m with
    | ins m =>
      refine (step_insL h hk).mono ?_
      rintro r w' ⟨rfl, h'⟩
      exact ⟨rfl, _, _, _, _, _, h', by simp⟩
    | wlk m =>
      refine (step_wlkL h hk).mono ?_
      rintro r w' ⟨rfl, h'⟩
      exact ⟨rfl, _, _, _, _, _, h', by simp⟩
    | rem m =>
      refine (step_remL h hk).mono ?_
      rintro r w' ⟨rfl, h'⟩
      exact ⟨rfl, _, _, _, _, _, h', by simp⟩
theorem askAny (h : All w0 w f g wd hold X A Q ms) (hk : ms[k]? = some o) :
    Calls Tryz.prog 85 #[.pointer (some ⟨wd, 0, none⟩), .agg o.row.toArray] w fun r w' => r = .returned (.bool true) ∧ All w0 w' f g wd hold X A Q ms := by
  cases o with
  | mk i m mb vb sb rb =>
    cases m with
    | ins m => exact ask_insL h hk
    | wlk m => exact ask_wlkL h hk
    | rem m => exact ask_remL h hk
theorem Some_.of (h : All w0 w f g wd hold X A Q ms) {n : Nat} (hn : ms.length ≤ n) : Some_ w0 g wd hold n (.returned (.bool true)) w := ⟨rfl, _, _, _, _, _, h, hn⟩
set_option maxHeartbeats 4000000 in
theorem play_alloc (h : All w0 w f g wd hold X A Q ms) (hms : ms.length ≤ 1400000000000) (of a b : Int) :
    Calls Tryz.prog 50 #[.pointer (some ⟨wd, 0, none⟩), .agg #[.int .i64 1, .int .i64 of, .int .i64 a, .int .i64 b]] w (Some_ w0 g wd hold (ms.length + 1)) := by
  obtain ⟨wq, hwq⟩ : ∃ wq, wq = w.alloc (.cells #[.int .i64 1, .int .i64 of, .int .i64 a, .int .i64 b] 102 (0, 0)) := ⟨_, rfl⟩
  have kq : Keep [] w wq := by rw [hwq]; exact (Keep.refl _ _).alloc _
  have ho : wq.heap[w.heap.size]? = some (.cells #[.int .i64 1, .int .i64 of, .int .i64 a, .int .i64 b] 102 (0, 0)) := by rw [hwq]; exact alloc_new _ _
  have hq := h.keep0 kq
  have hfr := h.wp.fresh (Nat.le_refl _)
  obtain ⟨s0, s1, s2, s3, s4, s5⟩ := hq.wp.cs
  unfold pt at s0 s1 s2 s3 s4 s5
  have o0 : wq.cell? ⟨w.heap.size, 0, none⟩ = some (.int .i64 1) := (cell_of ho 0).trans rfl
  have o1 : wq.cell? ⟨w.heap.size, 1, none⟩ = some (.int .i64 of) := (cell_of ho 1).trans rfl
  have o2 : wq.cell? ⟨w.heap.size, 2, none⟩ = some (.int .i64 a) := (cell_of ho 2).trans rfl
  have o3 : wq.cell? ⟨w.heap.size, 3, none⟩ = some (.int .i64 b) := (cell_of ho 3).trans rfl
  have HQ := Lib.hid (And.intro hq (And.intro ho hfr))
  have WQ := Lib.hid hwq
  clear h hwq kq ho hq hfr
  obtain ⟨e1, e2, C⟩ := allocL HQ.out.1
  have C1 := Lib.hid C
  obtain ⟨v, hv⟩ : ∃ v, v = (allocS A Q).2.2 := ⟨_, rfl⟩
  rw [← hv] at C1
  have HV := Lib.hid hv
  clear C hv
  go_enter Tryz.func50, Tryz.ntmps50
  go_upto_region 1 with fail
  rw [show w.alloc (.cells #[.int .i64 1, .int .i64 of, .int .i64 a, .int .i64 b] 102 (0, 0)) = wq from WQ.out.symm]
  go_wp2_with fail
  refine C1.out.mono ?_
  rintro e w2 ⟨rfl, hc, C⟩
  have C2 := Lib.hid C
  have t3 := (hc 3).trans s3
  clear C C1 hc s0 s1 s2 s3 s4 s5 o0 o1 o2 o3
  go_wp2_with fail
  refine C2.out.mono ?_
  rintro e w3 ⟨rfl, f', hA⟩
  have HA := Lib.hid hA
  clear hA C2 t3
  go_wp2_with fail
  go_ret
  first
    | exact Some_.of HA.out (Nat.le_succ _)
    | (rw [show (v == v) = true from by simp]; exact Some_.of HA.out (Nat.le_succ _))
set_option maxHeartbeats 4000000 in
theorem play_free (h : All w0 w f g wd hold X A Q ms) (hms : ms.length ≤ 1400000000000) (of a b : Int) :
    Calls Tryz.prog 50 #[.pointer (some ⟨wd, 0, none⟩), .agg #[.int .i64 2, .int .i64 of, .int .i64 a, .int .i64 b]] w (Some_ w0 g wd hold (ms.length + 1)) := by
  obtain ⟨wq, hwq⟩ : ∃ wq, wq = w.alloc (.cells #[.int .i64 2, .int .i64 of, .int .i64 a, .int .i64 b] 102 (0, 0)) := ⟨_, rfl⟩
  have kq : Keep [] w wq := by rw [hwq]; exact (Keep.refl _ _).alloc _
  have ho : wq.heap[w.heap.size]? = some (.cells #[.int .i64 2, .int .i64 of, .int .i64 a, .int .i64 b] 102 (0, 0)) := by rw [hwq]; exact alloc_new _ _
  have hq := h.keep0 kq
  have hfr := h.wp.fresh (Nat.le_refl _)
  obtain ⟨s0, s1, s2, s3, s4, s5⟩ := hq.wp.cs
  unfold pt at s0 s1 s2 s3 s4 s5
  have o0 : wq.cell? ⟨w.heap.size, 0, none⟩ = some (.int .i64 2) := (cell_of ho 0).trans rfl
  have o1 : wq.cell? ⟨w.heap.size, 1, none⟩ = some (.int .i64 of) := (cell_of ho 1).trans rfl
  have o2 : wq.cell? ⟨w.heap.size, 2, none⟩ = some (.int .i64 a) := (cell_of ho 2).trans rfl
  have o3 : wq.cell? ⟨w.heap.size, 3, none⟩ = some (.int .i64 b) := (cell_of ho 3).trans rfl
  have HQ := Lib.hid (And.intro hq (And.intro ho hfr))
  have WQ := Lib.hid hwq
  clear h hwq kq ho hq hfr
  have C1 := Lib.hid (freeL (HQ.out.1.keep0 ((Keep.refl [] wq).drew)) a)
  obtain ⟨v, hv⟩ : ∃ v, v = (freeS A Q a).2.2 := ⟨_, rfl⟩
  rw [← hv] at C1
  clear hv
  go_enter Tryz.func50, Tryz.ntmps50
  go_upto_region 1 with fail
  rw [show w.alloc (.cells #[.int .i64 2, .int .i64 of, .int .i64 a, .int .i64 b] 102 (0, 0)) = wq from WQ.out.symm]
  go_wp2_with fail
  go_region_held3 (fun w' => w'.cell? ⟨wd, 0, none⟩ = some (.pointer (some ⟨g.L.b, 0, none⟩)) ∧ w'.cell? ⟨w.heap.size, 2, none⟩ = some (.int .i64 a)) (go_keep)
    (first
      | (go_at_call 80; refine C1.out.mono ?_; rintro e w2 ⟨rfl, hO, hc, C⟩; have C2 := Lib.hid C; have t0 := (hc 0).trans (show wq.drew.cell? _ = _ from s0); have t3 := (hc 3).trans (show wq.drew.cell? _ = _ from s3); have HP2 := Lib.hid (show w2.drew.heap[w.heap.size]? = _ from hO _ _ HQ.out.2.2 (show wq.drew.heap[w.heap.size]? = _ from HQ.out.2.1)); have p2 : w2.cell? ⟨w.heap.size, 2, none⟩ = some (.int .i64 a) := (cell_of (show w2.heap[w.heap.size]? = _ from HP2.out) 2).trans rfl; clear C hO hc))
  clear s0 s1 s2 s3 s4 s5 o0 o1 o2 o3 C1
  go_wp2_with fail
  go_region_held3 (fun w' => w'.cell? ⟨wd, 3, none⟩ = some (.pointer (some ⟨g.b, 0, none⟩)) ∧ w'.cell? ⟨w.heap.size, 2, none⟩ = some (.int .i64 a)) (go_keep)
    (first
      | (go_at_call 81; refine (C2.out w2.drew ((Keep.refl [] w2).drew)).mono ?_; rintro e w3 ⟨rfl, hO3, f', hA⟩; have HA := Lib.hid hA; have u3 : w3.cell? ⟨wd, 3, none⟩ = some (.pointer (some ⟨g.b, 0, none⟩)) := hA.wp.cs.2.2.2.1; have u2 : w3.cell? ⟨w.heap.size, 2, none⟩ = some (.int .i64 a) := (cell_of (hO3 _ _ HQ.out.2.2 HP2.out) 2).trans rfl; clear hA hO3))
  clear t0 t3 p2 C2
  go_wp2_with fail
  refine (num_ v w3).mono ?_
  rintro e wx ⟨rfl, hx⟩
  obtain rfl := hx
  go_wp2_with fail
  go_ret
  first
    | exact Some_.of HA.out (Nat.le_succ _)
    | (rw [show (v == v) = true from by simp]; exact Some_.of HA.out (Nat.le_succ _))
set_option maxHeartbeats 4000000 in
theorem play_begin_ins (h : All w0 w f g wd hold X A Q ms) (hms : ms.length ≤ 1400000000000) (of a b : Int) :
    Calls Tryz.prog 50 #[.pointer (some ⟨wd, 0, none⟩), .agg #[.int .i64 3, .int .i64 of, .int .i64 a, .int .i64 b]] w (Some_ w0 g wd hold (ms.length + 1)) := by
  obtain ⟨wq, hwq⟩ : ∃ wq, wq = w.alloc (.cells #[.int .i64 3, .int .i64 of, .int .i64 a, .int .i64 b] 102 (0, 0)) := ⟨_, rfl⟩
  have kq : Keep [] w wq := by rw [hwq]; exact (Keep.refl _ _).alloc _
  have ho : wq.heap[w.heap.size]? = some (.cells #[.int .i64 3, .int .i64 of, .int .i64 a, .int .i64 b] 102 (0, 0)) := by rw [hwq]; exact alloc_new _ _
  have hq := h.keep0 kq
  have hfr := h.wp.fresh (Nat.le_refl _)
  obtain ⟨s0, s1, s2, s3, s4, s5⟩ := hq.wp.cs
  unfold pt at s0 s1 s2 s3 s4 s5
  have o0 : wq.cell? ⟨w.heap.size, 0, none⟩ = some (.int .i64 3) := (cell_of ho 0).trans rfl
  have o1 : wq.cell? ⟨w.heap.size, 1, none⟩ = some (.int .i64 of) := (cell_of ho 1).trans rfl
  have o2 : wq.cell? ⟨w.heap.size, 2, none⟩ = some (.int .i64 a) := (cell_of ho 2).trans rfl
  have o3 : wq.cell? ⟨w.heap.size, 3, none⟩ = some (.int .i64 b) := (cell_of ho 3).trans rfl
  have HQ := Lib.hid (And.intro hq (And.intro ho hfr))
  have WQ := Lib.hid hwq
  clear h hwq kq ho hq hfr
  have hb := bit1 of
  rcases hb with hb | hb
  · have C := Lib.hid (begin_ins0 HQ.out.1 hms of a b)
    go_enter Tryz.func50, Tryz.ntmps50
    go_upto_region 1 with fail
    rw [show w.alloc (.cells #[.int .i64 3, .int .i64 of, .int .i64 a, .int .i64 b] 102 (0, 0)) = wq from WQ.out.symm]
    go_wp2_with fail
    refine C.out.mono ?_
    rintro e w2 ⟨rfl, f', o, hA⟩
    have HA := Lib.hid hA
    clear hA C s0 s1 s2 s3 s4 s5 o0 o1 o2 o3
    go_wp2_with fail
    go_ret
    exact Some_.of HA.out (by simp)
  · have C := Lib.hid (begin_ins1 HQ.out.1 hms of a b)
    go_enter Tryz.func50, Tryz.ntmps50
    go_upto_region 1 with fail
    rw [show w.alloc (.cells #[.int .i64 3, .int .i64 of, .int .i64 a, .int .i64 b] 102 (0, 0)) = wq from WQ.out.symm]
    go_wp2_with fail
    refine C.out.mono ?_
    rintro e w2 ⟨rfl, f', o, hA⟩
    have HA := Lib.hid hA
    clear hA C s0 s1 s2 s3 s4 s5 o0 o1 o2 o3
    go_wp2_with fail
    go_ret
    exact Some_.of HA.out (by simp)
set_option maxHeartbeats 4000000 in
theorem play_begin_wlk (h : All w0 w f g wd hold X A Q ms) (hms : ms.length ≤ 1400000000000) (of a b : Int) :
    Calls Tryz.prog 50 #[.pointer (some ⟨wd, 0, none⟩), .agg #[.int .i64 4, .int .i64 of, .int .i64 a, .int .i64 b]] w (Some_ w0 g wd hold (ms.length + 1)) := by
  obtain ⟨wq, hwq⟩ : ∃ wq, wq = w.alloc (.cells #[.int .i64 4, .int .i64 of, .int .i64 a, .int .i64 b] 102 (0, 0)) := ⟨_, rfl⟩
  have kq : Keep [] w wq := by rw [hwq]; exact (Keep.refl _ _).alloc _
  have ho : wq.heap[w.heap.size]? = some (.cells #[.int .i64 4, .int .i64 of, .int .i64 a, .int .i64 b] 102 (0, 0)) := by rw [hwq]; exact alloc_new _ _
  have hq := h.keep0 kq
  have hfr := h.wp.fresh (Nat.le_refl _)
  obtain ⟨s0, s1, s2, s3, s4, s5⟩ := hq.wp.cs
  unfold pt at s0 s1 s2 s3 s4 s5
  have o0 : wq.cell? ⟨w.heap.size, 0, none⟩ = some (.int .i64 4) := (cell_of ho 0).trans rfl
  have o1 : wq.cell? ⟨w.heap.size, 1, none⟩ = some (.int .i64 of) := (cell_of ho 1).trans rfl
  have o2 : wq.cell? ⟨w.heap.size, 2, none⟩ = some (.int .i64 a) := (cell_of ho 2).trans rfl
  have o3 : wq.cell? ⟨w.heap.size, 3, none⟩ = some (.int .i64 b) := (cell_of ho 3).trans rfl
  have HQ := Lib.hid (And.intro hq (And.intro ho hfr))
  have WQ := Lib.hid hwq
  clear h hwq kq ho hq hfr
  have hb := bit1 of
  rcases hb with hb | hb
  · have C := Lib.hid (begin_wlk0 HQ.out.1 hms of a b)
    go_enter Tryz.func50, Tryz.ntmps50
    go_upto_region 1 with fail
    rw [show w.alloc (.cells #[.int .i64 4, .int .i64 of, .int .i64 a, .int .i64 b] 102 (0, 0)) = wq from WQ.out.symm]
    go_wp2_with fail
    refine C.out.mono ?_
    rintro e w2 ⟨rfl, f', o, hA⟩
    have HA := Lib.hid hA
    clear hA C s0 s1 s2 s3 s4 s5 o0 o1 o2 o3
    go_wp2_with fail
    go_ret
    exact Some_.of HA.out (by simp)
  · have C := Lib.hid (begin_wlk1 HQ.out.1 hms of a b)
    go_enter Tryz.func50, Tryz.ntmps50
    go_upto_region 1 with fail
    rw [show w.alloc (.cells #[.int .i64 4, .int .i64 of, .int .i64 a, .int .i64 b] 102 (0, 0)) = wq from WQ.out.symm]
    go_wp2_with fail
    refine C.out.mono ?_
    rintro e w2 ⟨rfl, f', o, hA⟩
    have HA := Lib.hid hA
    clear hA C s0 s1 s2 s3 s4 s5 o0 o1 o2 o3
    go_wp2_with fail
    go_ret
    exact Some_.of HA.out (by simp)
set_option maxHeartbeats 4000000 in
theorem play_begin_beh (h : All w0 w f g wd hold X A Q ms) (hms : ms.length ≤ 1400000000000) (of a b : Int) :
    Calls Tryz.prog 50 #[.pointer (some ⟨wd, 0, none⟩), .agg #[.int .i64 5, .int .i64 of, .int .i64 a, .int .i64 b]] w (Some_ w0 g wd hold (ms.length + 1)) := by
  obtain ⟨wq, hwq⟩ : ∃ wq, wq = w.alloc (.cells #[.int .i64 5, .int .i64 of, .int .i64 a, .int .i64 b] 102 (0, 0)) := ⟨_, rfl⟩
  have kq : Keep [] w wq := by rw [hwq]; exact (Keep.refl _ _).alloc _
  have ho : wq.heap[w.heap.size]? = some (.cells #[.int .i64 5, .int .i64 of, .int .i64 a, .int .i64 b] 102 (0, 0)) := by rw [hwq]; exact alloc_new _ _
  have hq := h.keep0 kq
  have hfr := h.wp.fresh (Nat.le_refl _)
  obtain ⟨s0, s1, s2, s3, s4, s5⟩ := hq.wp.cs
  unfold pt at s0 s1 s2 s3 s4 s5
  have o0 : wq.cell? ⟨w.heap.size, 0, none⟩ = some (.int .i64 5) := (cell_of ho 0).trans rfl
  have o1 : wq.cell? ⟨w.heap.size, 1, none⟩ = some (.int .i64 of) := (cell_of ho 1).trans rfl
  have o2 : wq.cell? ⟨w.heap.size, 2, none⟩ = some (.int .i64 a) := (cell_of ho 2).trans rfl
  have o3 : wq.cell? ⟨w.heap.size, 3, none⟩ = some (.int .i64 b) := (cell_of ho 3).trans rfl
  have HQ := Lib.hid (And.intro hq (And.intro ho hfr))
  have WQ := Lib.hid hwq
  clear h hwq kq ho hq hfr
  have hb := bit1 of
  rcases hb with hb | hb
  · have C := Lib.hid (begin_beh0 HQ.out.1 hms of a b)
    go_enter Tryz.func50, Tryz.ntmps50
    go_upto_region 1 with fail
    rw [show w.alloc (.cells #[.int .i64 5, .int .i64 of, .int .i64 a, .int .i64 b] 102 (0, 0)) = wq from WQ.out.symm]
    go_wp2_with fail
    refine C.out.mono ?_
    rintro e w2 ⟨rfl, f', o, hA⟩
    have HA := Lib.hid hA
    clear hA C s0 s1 s2 s3 s4 s5 o0 o1 o2 o3
    go_wp2_with fail
    go_ret
    exact Some_.of HA.out (by simp)
  · have C := Lib.hid (begin_beh1 HQ.out.1 hms of a b)
    go_enter Tryz.func50, Tryz.ntmps50
    go_upto_region 1 with fail
    rw [show w.alloc (.cells #[.int .i64 5, .int .i64 of, .int .i64 a, .int .i64 b] 102 (0, 0)) = wq from WQ.out.symm]
    go_wp2_with fail
    refine C.out.mono ?_
    rintro e w2 ⟨rfl, f', o, hA⟩
    have HA := Lib.hid hA
    clear hA C s0 s1 s2 s3 s4 s5 o0 o1 o2 o3
    go_wp2_with fail
    go_ret
    exact Some_.of HA.out (by simp)
set_option maxHeartbeats 4000000 in
theorem play_begin_rem (h : All w0 w f g wd hold X A Q ms) (hms : ms.length ≤ 1400000000000) (of a b : Int) :
    Calls Tryz.prog 50 #[.pointer (some ⟨wd, 0, none⟩), .agg #[.int .i64 6, .int .i64 of, .int .i64 a, .int .i64 b]] w (Some_ w0 g wd hold (ms.length + 1)) := by
  obtain ⟨wq, hwq⟩ : ∃ wq, wq = w.alloc (.cells #[.int .i64 6, .int .i64 of, .int .i64 a, .int .i64 b] 102 (0, 0)) := ⟨_, rfl⟩
  have kq : Keep [] w wq := by rw [hwq]; exact (Keep.refl _ _).alloc _
  have ho : wq.heap[w.heap.size]? = some (.cells #[.int .i64 6, .int .i64 of, .int .i64 a, .int .i64 b] 102 (0, 0)) := by rw [hwq]; exact alloc_new _ _
  have hq := h.keep0 kq
  have hfr := h.wp.fresh (Nat.le_refl _)
  obtain ⟨s0, s1, s2, s3, s4, s5⟩ := hq.wp.cs
  unfold pt at s0 s1 s2 s3 s4 s5
  have o0 : wq.cell? ⟨w.heap.size, 0, none⟩ = some (.int .i64 6) := (cell_of ho 0).trans rfl
  have o1 : wq.cell? ⟨w.heap.size, 1, none⟩ = some (.int .i64 of) := (cell_of ho 1).trans rfl
  have o2 : wq.cell? ⟨w.heap.size, 2, none⟩ = some (.int .i64 a) := (cell_of ho 2).trans rfl
  have o3 : wq.cell? ⟨w.heap.size, 3, none⟩ = some (.int .i64 b) := (cell_of ho 3).trans rfl
  have HQ := Lib.hid (And.intro hq (And.intro ho hfr))
  have WQ := Lib.hid hwq
  clear h hwq kq ho hq hfr
  have hb := bit1 of
  rcases hb with hb | hb
  · have C := Lib.hid (begin_rem0 HQ.out.1 hms of a b)
    go_enter Tryz.func50, Tryz.ntmps50
    go_upto_region 1 with fail
    rw [show w.alloc (.cells #[.int .i64 6, .int .i64 of, .int .i64 a, .int .i64 b] 102 (0, 0)) = wq from WQ.out.symm]
    go_wp2_with fail
    refine C.out.mono ?_
    rintro e w2 ⟨rfl, f', o, hA⟩
    have HA := Lib.hid hA
    clear hA C s0 s1 s2 s3 s4 s5 o0 o1 o2 o3
    go_wp2_with fail
    go_ret
    exact Some_.of HA.out (by simp)
  · have C := Lib.hid (begin_rem1 HQ.out.1 hms of a b)
    go_enter Tryz.func50, Tryz.ntmps50
    go_upto_region 1 with fail
    rw [show w.alloc (.cells #[.int .i64 6, .int .i64 of, .int .i64 a, .int .i64 b] 102 (0, 0)) = wq from WQ.out.symm]
    go_wp2_with fail
    refine C.out.mono ?_
    rintro e w2 ⟨rfl, f', o, hA⟩
    have HA := Lib.hid hA
    clear hA C s0 s1 s2 s3 s4 s5 o0 o1 o2 o3
    go_wp2_with fail
    go_ret
    exact Some_.of HA.out (by simp)
set_option maxHeartbeats 4000000 in
theorem play_look (h : All w0 w f g wd hold X A Q ms) (hms : ms.length ≤ 1400000000000) (of a b : Int) :
    Calls Tryz.prog 50 #[.pointer (some ⟨wd, 0, none⟩), .agg #[.int .i64 9, .int .i64 of, .int .i64 a, .int .i64 b]] w (Some_ w0 g wd hold (ms.length + 1)) := by
  obtain ⟨wq, hwq⟩ : ∃ wq, wq = w.alloc (.cells #[.int .i64 9, .int .i64 of, .int .i64 a, .int .i64 b] 102 (0, 0)) := ⟨_, rfl⟩
  have kq : Keep [] w wq := by rw [hwq]; exact (Keep.refl _ _).alloc _
  have ho : wq.heap[w.heap.size]? = some (.cells #[.int .i64 9, .int .i64 of, .int .i64 a, .int .i64 b] 102 (0, 0)) := by rw [hwq]; exact alloc_new _ _
  have hq := h.keep0 kq
  have hfr := h.wp.fresh (Nat.le_refl _)
  obtain ⟨s0, s1, s2, s3, s4, s5⟩ := hq.wp.cs
  unfold pt at s0 s1 s2 s3 s4 s5
  have o0 : wq.cell? ⟨w.heap.size, 0, none⟩ = some (.int .i64 9) := (cell_of ho 0).trans rfl
  have o1 : wq.cell? ⟨w.heap.size, 1, none⟩ = some (.int .i64 of) := (cell_of ho 1).trans rfl
  have o2 : wq.cell? ⟨w.heap.size, 2, none⟩ = some (.int .i64 a) := (cell_of ho 2).trans rfl
  have o3 : wq.cell? ⟨w.heap.size, 3, none⟩ = some (.int .i64 b) := (cell_of ho 3).trans rfl
  have HQ := Lib.hid (And.intro hq (And.intro ho hfr))
  have WQ := Lib.hid hwq
  clear h hwq kq ho hq hfr
  have hb := bit1 of
  rcases hb with hb | hb
  · have C := Lib.hid (look0 HQ.out.1 a)
    go_enter Tryz.func50, Tryz.ntmps50
    go_upto_region 1 with fail
    rw [show w.alloc (.cells #[.int .i64 9, .int .i64 of, .int .i64 a, .int .i64 b] 102 (0, 0)) = wq from WQ.out.symm]
    go_wp2_with fail
    refine C.out.mono ?_
    rintro e w2 ⟨rfl, k2⟩
    have HA := Lib.hid (HQ.out.1.keep0 k2)
    clear k2 C s0 s1 s2 s3 s4 s5 o0 o1 o2 o3
    go_wp2_with fail
    go_ret
    exact Some_.of HA.out (Nat.le_succ _)
  · have C := Lib.hid (look1 HQ.out.1 a)
    go_enter Tryz.func50, Tryz.ntmps50
    go_upto_region 1 with fail
    rw [show w.alloc (.cells #[.int .i64 9, .int .i64 of, .int .i64 a, .int .i64 b] 102 (0, 0)) = wq from WQ.out.symm]
    go_wp2_with fail
    refine C.out.mono ?_
    rintro e w2 ⟨rfl, k2⟩
    have HA := Lib.hid (HQ.out.1.keep0 k2)
    clear k2 C s0 s1 s2 s3 s4 s5 o0 o1 o2 o3
    go_wp2_with fail
    go_ret
    exact Some_.of HA.out (Nat.le_succ _)
set_option maxHeartbeats 4000000 in
theorem play_count (h : All w0 w f g wd hold X A Q ms) (hms : ms.length ≤ 1400000000000) (of a b : Int) :
    Calls Tryz.prog 50 #[.pointer (some ⟨wd, 0, none⟩), .agg #[.int .i64 10, .int .i64 of, .int .i64 a, .int .i64 b]] w (Some_ w0 g wd hold (ms.length + 1)) := by
  obtain ⟨wq, hwq⟩ : ∃ wq, wq = w.alloc (.cells #[.int .i64 10, .int .i64 of, .int .i64 a, .int .i64 b] 102 (0, 0)) := ⟨_, rfl⟩
  have kq : Keep [] w wq := by rw [hwq]; exact (Keep.refl _ _).alloc _
  have ho : wq.heap[w.heap.size]? = some (.cells #[.int .i64 10, .int .i64 of, .int .i64 a, .int .i64 b] 102 (0, 0)) := by rw [hwq]; exact alloc_new _ _
  have hq := h.keep0 kq
  have hfr := h.wp.fresh (Nat.le_refl _)
  obtain ⟨s0, s1, s2, s3, s4, s5⟩ := hq.wp.cs
  unfold pt at s0 s1 s2 s3 s4 s5
  have o0 : wq.cell? ⟨w.heap.size, 0, none⟩ = some (.int .i64 10) := (cell_of ho 0).trans rfl
  have o1 : wq.cell? ⟨w.heap.size, 1, none⟩ = some (.int .i64 of) := (cell_of ho 1).trans rfl
  have o2 : wq.cell? ⟨w.heap.size, 2, none⟩ = some (.int .i64 a) := (cell_of ho 2).trans rfl
  have o3 : wq.cell? ⟨w.heap.size, 3, none⟩ = some (.int .i64 b) := (cell_of ho 3).trans rfl
  have HQ := Lib.hid (And.intro hq (And.intro ho hfr))
  have WQ := Lib.hid hwq
  clear h hwq kq ho hq hfr
  have C := Lib.hid (countsL HQ.out.1)
  go_enter Tryz.func50, Tryz.ntmps50
  go_upto_region 1 with fail
  rw [show w.alloc (.cells #[.int .i64 10, .int .i64 of, .int .i64 a, .int .i64 b] 102 (0, 0)) = wq from WQ.out.symm]
  go_wp2_with fail
  refine C.out.mono ?_
  rintro e w2 ⟨rfl, k2⟩
  have HA := Lib.hid (HQ.out.1.keep0 k2)
  clear k2 C s0 s1 s2 s3 s4 s5 o0 o1 o2 o3
  go_wp2_with fail
  go_ret
  exact Some_.of HA.out (Nat.le_succ _)
set_option maxHeartbeats 4000000 in
theorem play_peek (h : All w0 w f g wd hold X A Q ms) (hms : ms.length ≤ 1400000000000) (of a b : Int) :
    Calls Tryz.prog 50 #[.pointer (some ⟨wd, 0, none⟩), .agg #[.int .i64 11, .int .i64 of, .int .i64 a, .int .i64 b]] w (Some_ w0 g wd hold (ms.length + 1)) := by
  obtain ⟨wq, hwq⟩ : ∃ wq, wq = w.alloc (.cells #[.int .i64 11, .int .i64 of, .int .i64 a, .int .i64 b] 102 (0, 0)) := ⟨_, rfl⟩
  have kq : Keep [] w wq := by rw [hwq]; exact (Keep.refl _ _).alloc _
  have ho : wq.heap[w.heap.size]? = some (.cells #[.int .i64 11, .int .i64 of, .int .i64 a, .int .i64 b] 102 (0, 0)) := by rw [hwq]; exact alloc_new _ _
  have hq := h.keep0 kq
  have hfr := h.wp.fresh (Nat.le_refl _)
  obtain ⟨s0, s1, s2, s3, s4, s5⟩ := hq.wp.cs
  unfold pt at s0 s1 s2 s3 s4 s5
  have o0 : wq.cell? ⟨w.heap.size, 0, none⟩ = some (.int .i64 11) := (cell_of ho 0).trans rfl
  have o1 : wq.cell? ⟨w.heap.size, 1, none⟩ = some (.int .i64 of) := (cell_of ho 1).trans rfl
  have o2 : wq.cell? ⟨w.heap.size, 2, none⟩ = some (.int .i64 a) := (cell_of ho 2).trans rfl
  have o3 : wq.cell? ⟨w.heap.size, 3, none⟩ = some (.int .i64 b) := (cell_of ho 3).trans rfl
  have HQ := Lib.hid (And.intro hq (And.intro ho hfr))
  have WQ := Lib.hid hwq
  clear h hwq kq ho hq hfr
  have C := Lib.hid (peekL HQ.out.1 a)
  go_enter Tryz.func50, Tryz.ntmps50
  go_upto_region 1 with fail
  rw [show w.alloc (.cells #[.int .i64 11, .int .i64 of, .int .i64 a, .int .i64 b] 102 (0, 0)) = wq from WQ.out.symm]
  go_wp2_with fail
  refine C.out.mono ?_
  rintro e w2 ⟨rfl, k2⟩
  have HA := Lib.hid (HQ.out.1.keep0 k2)
  clear k2 C s0 s1 s2 s3 s4 s5 o0 o1 o2 o3
  go_wp2_with fail
  go_ret
  exact Some_.of HA.out (Nat.le_succ _)
set_option maxHeartbeats 4000000 in
theorem play_step (h : All w0 w f g wd hold X A Q ms) (hms : ms.length ≤ 1400000000000) (of a b : Int) :
    Calls Tryz.prog 50 #[.pointer (some ⟨wd, 0, none⟩), .agg #[.int .i64 7, .int .i64 of, .int .i64 a, .int .i64 b]] w (Some_ w0 g wd hold (ms.length + 1)) := by
  obtain ⟨wq, hwq⟩ : ∃ wq, wq = w.alloc (.cells #[.int .i64 7, .int .i64 of, .int .i64 a, .int .i64 b] 102 (0, 0)) := ⟨_, rfl⟩
  have kq : Keep [] w wq := by rw [hwq]; exact (Keep.refl _ _).alloc _
  have ho : wq.heap[w.heap.size]? = some (.cells #[.int .i64 7, .int .i64 of, .int .i64 a, .int .i64 b] 102 (0, 0)) := by rw [hwq]; exact alloc_new _ _
  have hq := h.keep0 kq
  have hfr := h.wp.fresh (Nat.le_refl _)
  obtain ⟨s0, s1, s2, s3, s4, s5⟩ := hq.wp.cs
  unfold pt at s0 s1 s2 s3 s4 s5
  have o0 : wq.cell? ⟨w.heap.size, 0, none⟩ = some (.int .i64 7) := (cell_of ho 0).trans rfl
  have o1 : wq.cell? ⟨w.heap.size, 1, none⟩ = some (.int .i64 of) := (cell_of ho 1).trans rfl
  have o2 : wq.cell? ⟨w.heap.size, 2, none⟩ = some (.int .i64 a) := (cell_of ho 2).trans rfl
  have o3 : wq.cell? ⟨w.heap.size, 3, none⟩ = some (.int .i64 b) := (cell_of ho 3).trans rfl
  have HQ := Lib.hid (And.intro hq (And.intro ho hfr))
  have WQ := Lib.hid hwq
  clear h hwq kq ho hq hfr
  have C := Lib.hid (machineL HQ.out.1 (by omega) a)
  by_cases hin : 0 ≤ a ∧ a < ms.length
  · obtain ⟨k, hka⟩ : ∃ k : Nat, a = k := ⟨a.toNat, by omega⟩
    obtain ⟨o, hk⟩ : ∃ o, ms[k]? = some o := ⟨_, List.getElem?_eq_getElem (by omega)⟩
    obtain ⟨a0, a1, a2, a3, a4, a5, a6, hr⟩ : ∃ a0 a1 a2 a3 a4 a5 a6, o.row = [.int .i64 a0, .pointer a1, .pointer a2, .pointer a3, .pointer a4, .pointer a5, .pointer a6] := by
      unfold One.row pairRow pt
      split <;> exact ⟨_, _, _, _, _, _, _, rfl⟩
    have HK := Lib.hid (And.intro hk (And.intro hr hka))
    clear hk hr hka hin
    go_enter Tryz.func50, Tryz.ntmps50
    go_upto_region 1 with fail
    rw [show w.alloc (.cells #[.int .i64 7, .int .i64 of, .int .i64 a, .int .i64 b] 102 (0, 0)) = wq from WQ.out.symm]
    go_wp2_with fail
    refine C.out.mono ?_
    rintro e w2 ⟨h1, -, k2⟩
    obtain rfl : e = .returned (.tuple #[.agg #[.int .i64 a0, .pointer a1, .pointer a2, .pointer a3, .pointer a4, .pointer a5, .pointer a6], .bool true]) := by
      rw [h1 o k HK.out.2.2 HK.out.1, HK.out.2.1]
    have HA := Lib.hid (HQ.out.1.keep0 k2)
    have p0 : w2.cell? ⟨w.heap.size, 0, none⟩ = some (.int .i64 7) := (cell_of (k2.old HQ.out.2.1 (by simp)) 0).trans rfl
    have n0 : ∀ ob : Obj, (w2.alloc ob).cell? ⟨w.heap.size, 0, none⟩ = some (.int .i64 7) := fun ob => (cell_of (alloc_some ob (k2.old HQ.out.2.1 (by simp))) 0).trans rfl
    clear h1 k2 C s0 s1 s2 s3 s4 s5 o0 o1 o2 o3
    go_wp2_with fail
    have q := fun ob => stepAny (HA.out.keep0 ((Keep.refl [] w2).alloc ob)) HK.out.1
    rw [HK.out.2.1] at q
    refine (q _).mono ?_
    rintro e w3 ⟨rfl, f', X', A', Q', ms', hA, hl⟩
    have HB := Lib.hid (And.intro hA hl)
    clear hA hl p0 n0 q
    go_wp2_with fail
    go_ret
    exact Some_.of HB.out.1 (Nat.le_succ_of_le HB.out.2)
  · have hout : a < 0 ∨ (ms.length : Int) ≤ a := by omega
    clear hin
    go_enter Tryz.func50, Tryz.ntmps50
    go_upto_region 1 with fail
    rw [show w.alloc (.cells #[.int .i64 7, .int .i64 of, .int .i64 a, .int .i64 b] 102 (0, 0)) = wq from WQ.out.symm]
    go_wp2_with fail
    refine C.out.mono ?_
    rintro e w2 ⟨-, h2, k2⟩
    obtain rfl : e = .returned (.tuple #[.agg #[.int .i64 0, .pointer none, .pointer none, .pointer none, .pointer none, .pointer none, .pointer none], .bool false]) := h2 hout
    have HA := Lib.hid (HQ.out.1.keep0 k2)
    clear h2 hout k2 C s0 s1 s2 s3 s4 s5 o0 o1 o2 o3
    go_wp2_with fail
    go_ret
    exact Some_.of (HA.out.keep0 ((Keep.refl _ _).alloc _)) (Nat.le_succ _)
set_option maxHeartbeats 4000000 in
theorem play_ask (h : All w0 w f g wd hold X A Q ms) (hms : ms.length ≤ 1400000000000) (of a b : Int) :
    Calls Tryz.prog 50 #[.pointer (some ⟨wd, 0, none⟩), .agg #[.int .i64 8, .int .i64 of, .int .i64 a, .int .i64 b]] w (Some_ w0 g wd hold (ms.length + 1)) := by
  obtain ⟨wq, hwq⟩ : ∃ wq, wq = w.alloc (.cells #[.int .i64 8, .int .i64 of, .int .i64 a, .int .i64 b] 102 (0, 0)) := ⟨_, rfl⟩
  have kq : Keep [] w wq := by rw [hwq]; exact (Keep.refl _ _).alloc _
  have ho : wq.heap[w.heap.size]? = some (.cells #[.int .i64 8, .int .i64 of, .int .i64 a, .int .i64 b] 102 (0, 0)) := by rw [hwq]; exact alloc_new _ _
  have hq := h.keep0 kq
  have hfr := h.wp.fresh (Nat.le_refl _)
  obtain ⟨s0, s1, s2, s3, s4, s5⟩ := hq.wp.cs
  unfold pt at s0 s1 s2 s3 s4 s5
  have o0 : wq.cell? ⟨w.heap.size, 0, none⟩ = some (.int .i64 8) := (cell_of ho 0).trans rfl
  have o1 : wq.cell? ⟨w.heap.size, 1, none⟩ = some (.int .i64 of) := (cell_of ho 1).trans rfl
  have o2 : wq.cell? ⟨w.heap.size, 2, none⟩ = some (.int .i64 a) := (cell_of ho 2).trans rfl
  have o3 : wq.cell? ⟨w.heap.size, 3, none⟩ = some (.int .i64 b) := (cell_of ho 3).trans rfl
  have HQ := Lib.hid (And.intro hq (And.intro ho hfr))
  have WQ := Lib.hid hwq
  clear h hwq kq ho hq hfr
  have C := Lib.hid (machineL HQ.out.1 (by omega) a)
  by_cases hin : 0 ≤ a ∧ a < ms.length
  · obtain ⟨k, hka⟩ : ∃ k : Nat, a = k := ⟨a.toNat, by omega⟩
    obtain ⟨o, hk⟩ : ∃ o, ms[k]? = some o := ⟨_, List.getElem?_eq_getElem (by omega)⟩
    obtain ⟨a0, a1, a2, a3, a4, a5, a6, hr⟩ : ∃ a0 a1 a2 a3 a4 a5 a6, o.row = [.int .i64 a0, .pointer a1, .pointer a2, .pointer a3, .pointer a4, .pointer a5, .pointer a6] := by
      unfold One.row pairRow pt
      split <;> exact ⟨_, _, _, _, _, _, _, rfl⟩
    have HK := Lib.hid (And.intro hk (And.intro hr hka))
    clear hk hr hka hin
    go_enter Tryz.func50, Tryz.ntmps50
    go_upto_region 1 with fail
    rw [show w.alloc (.cells #[.int .i64 8, .int .i64 of, .int .i64 a, .int .i64 b] 102 (0, 0)) = wq from WQ.out.symm]
    go_wp2_with fail
    refine C.out.mono ?_
    rintro e w2 ⟨h1, -, k2⟩
    obtain rfl : e = .returned (.tuple #[.agg #[.int .i64 a0, .pointer a1, .pointer a2, .pointer a3, .pointer a4, .pointer a5, .pointer a6], .bool true]) := by
      rw [h1 o k HK.out.2.2 HK.out.1, HK.out.2.1]
    have HA := Lib.hid (HQ.out.1.keep0 k2)
    have p0 : w2.cell? ⟨w.heap.size, 0, none⟩ = some (.int .i64 8) := (cell_of (k2.old HQ.out.2.1 (by simp)) 0).trans rfl
    have n0 : ∀ ob : Obj, (w2.alloc ob).cell? ⟨w.heap.size, 0, none⟩ = some (.int .i64 8) := fun ob => (cell_of (alloc_some ob (k2.old HQ.out.2.1 (by simp))) 0).trans rfl
    clear h1 k2 C s0 s1 s2 s3 s4 s5 o0 o1 o2 o3
    go_wp2_with fail
    have q := fun ob => askAny (HA.out.keep0 ((Keep.refl [] w2).alloc ob)) HK.out.1
    rw [HK.out.2.1] at q
    refine (q _).mono ?_
    rintro e w3 ⟨rfl, hA⟩
    have HB := Lib.hid hA
    clear hA p0 n0 q
    go_wp2_with fail
    go_ret
    exact Some_.of HB.out (Nat.le_succ _)
  · have hout : a < 0 ∨ (ms.length : Int) ≤ a := by omega
    clear hin
    go_enter Tryz.func50, Tryz.ntmps50
    go_upto_region 1 with fail
    rw [show w.alloc (.cells #[.int .i64 8, .int .i64 of, .int .i64 a, .int .i64 b] 102 (0, 0)) = wq from WQ.out.symm]
    go_wp2_with fail
    refine C.out.mono ?_
    rintro e w2 ⟨-, h2, k2⟩
    obtain rfl : e = .returned (.tuple #[.agg #[.int .i64 0, .pointer none, .pointer none, .pointer none, .pointer none, .pointer none, .pointer none], .bool false]) := h2 hout
    have HA := Lib.hid (HQ.out.1.keep0 k2)
    clear h2 hout k2 C s0 s1 s2 s3 s4 s5 o0 o1 o2 o3
    go_wp2_with fail
    go_ret
    exact Some_.of (HA.out.keep0 ((Keep.refl _ _).alloc _)) (Nat.le_succ _)
set_option maxHeartbeats 4000000 in
theorem play_other (h : All w0 w f g wd hold X A Q ms) (hms : ms.length ≤ 1400000000000) (kd : Int) (of a b : Int) (h1 : (kd == 1) = false) (h2 : (kd == 2) = false) (h3 : (kd == 3) = false) (h4 : (kd == 4) = false) (h5 : (kd == 5) = false) (h6 : (kd == 6) = false) (h7 : (kd == 7) = false) (h8 : (kd == 8) = false) (h9 : (kd == 9) = false) (h10 : (kd == 10) = false) (h11 : (kd == 11) = false) :
    Calls Tryz.prog 50 #[.pointer (some ⟨wd, 0, none⟩), .agg #[.int .i64 kd, .int .i64 of, .int .i64 a, .int .i64 b]] w (Some_ w0 g wd hold (ms.length + 1)) := by
  obtain ⟨wq, hwq⟩ : ∃ wq, wq = w.alloc (.cells #[.int .i64 kd, .int .i64 of, .int .i64 a, .int .i64 b] 102 (0, 0)) := ⟨_, rfl⟩
  have kq : Keep [] w wq := by rw [hwq]; exact (Keep.refl _ _).alloc _
  have ho : wq.heap[w.heap.size]? = some (.cells #[.int .i64 kd, .int .i64 of, .int .i64 a, .int .i64 b] 102 (0, 0)) := by rw [hwq]; exact alloc_new _ _
  have hq := h.keep0 kq
  have hfr := h.wp.fresh (Nat.le_refl _)
  obtain ⟨s0, s1, s2, s3, s4, s5⟩ := hq.wp.cs
  unfold pt at s0 s1 s2 s3 s4 s5
  have o0 : wq.cell? ⟨w.heap.size, 0, none⟩ = some (.int .i64 kd) := (cell_of ho 0).trans rfl
  have o1 : wq.cell? ⟨w.heap.size, 1, none⟩ = some (.int .i64 of) := (cell_of ho 1).trans rfl
  have o2 : wq.cell? ⟨w.heap.size, 2, none⟩ = some (.int .i64 a) := (cell_of ho 2).trans rfl
  have o3 : wq.cell? ⟨w.heap.size, 3, none⟩ = some (.int .i64 b) := (cell_of ho 3).trans rfl
  have HQ := Lib.hid (And.intro hq (And.intro ho hfr))
  have WQ := Lib.hid hwq
  clear h hwq kq ho hq hfr
  go_enter Tryz.func50, Tryz.ntmps50
  go_upto_region 1 with fail
  rw [show w.alloc (.cells #[.int .i64 kd, .int .i64 of, .int .i64 a, .int .i64 b] 102 (0, 0)) = wq from WQ.out.symm]
  go_wp2_with fail
  go_ret
  exact Some_.of HQ.out.1 (Nat.le_succ _)
theorem playL (h : All w0 w f g wd hold X A Q ms) (hms : ms.length ≤ 1400000000000) (kd of a b : Int) :
    Calls Tryz.prog 50 #[.pointer (some ⟨wd, 0, none⟩), .agg #[.int .i64 kd, .int .i64 of, .int .i64 a, .int .i64 b]] w (Some_ w0 g wd hold (ms.length + 1)) := by
  by_cases e1 : kd = 1
  · subst e1; exact play_alloc h hms of a b
  by_cases e2 : kd = 2
  · subst e2; exact play_free h hms of a b
  by_cases e3 : kd = 3
  · subst e3; exact play_begin_ins h hms of a b
  by_cases e4 : kd = 4
  · subst e4; exact play_begin_wlk h hms of a b
  by_cases e5 : kd = 5
  · subst e5; exact play_begin_beh h hms of a b
  by_cases e6 : kd = 6
  · subst e6; exact play_begin_rem h hms of a b
  by_cases e7 : kd = 7
  · subst e7; exact play_step h hms of a b
  by_cases e8 : kd = 8
  · subst e8; exact play_ask h hms of a b
  by_cases e9 : kd = 9
  · subst e9; exact play_look h hms of a b
  by_cases e10 : kd = 10
  · subst e10; exact play_count h hms of a b
  by_cases e11 : kd = 11
  · subst e11; exact play_peek h hms of a b
  exact play_other h hms kd of a b (by simpa using e1) (by simpa using e2) (by simpa using e3) (by simpa using e4) (by simpa using e5) (by simpa using e6) (by simpa using e7) (by simpa using e8) (by simpa using e9) (by simpa using e10) (by simpa using e11)
end
end Go.Proofs.YtgagiggljlikbaaGreat.Lw
