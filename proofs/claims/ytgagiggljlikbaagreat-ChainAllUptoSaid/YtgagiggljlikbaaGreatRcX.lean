/- The document's Walk.Step, whole. -/
import Derived.Test.YtgagiggljlikbaaGreatRcW
namespace Go.Proofs.YtgagiggljlikbaaGreat.Rc
open Go.RowKit Go.Proofs.YtgagiggljlikbaaGreat.Mem Go.Proofs.YtgagiggljlikbaaGreat.Ar Go.Proofs.YtgagiggljlikbaaGreat.En Go.Proofs.YtgagiggljlikbaaGreat.Ch
open Go.Proofs.YtgagiggljlikbaaGreat.Ra (owns_block RAt rBlocks)
set_option linter.unusedVariables false
set_option linter.unusedSimpArgs false
set_option maxRecDepth 100000
section
variable {w w' w2 : World} {b sg sc : Nat} {qv : Value} {bs : List (Option Nat)} {A A' : Ars} {Q : List Nat} {xb hb hc mb : Nat} {X X' : CI} {m m' : MW} {Bl : List Nat} {bk fr nx sl co : Int} {wh ld ov : Bool} {wv er : Int}

set_option maxHeartbeats 4000000 in
theorem stepV_head (h : EnvR w b sg sc qv bs xb hb hc X A Q) (hi : WlkV w (rBlocks b sg qv bs) xb hb mb m) (hw : m.whole = true) (he : m.ended = false) (hsr : m.src = true) (hH : okH X) :
    Calls Tryz.prog 115 #[.pointer (some ⟨mb, 0, none⟩)] w (StepsV w b sg sc qv bs xb hb hc mb X A Q m) := by
  obtain ⟨ld, nx, R, hld⟩ := hi.hm
  obtain ⟨rfl, -⟩ := hld he
  have R0 : RecV w xb mb m.bucket m.from_ true false nx m.slot false m.code := by
    have e : bkV m = m.bucket := by simp [bkV, hw]
    rw [← e]
    rw [hw, he, hsr] at R
    exact R
  have f0 : w.cell? ⟨mb, 0, none⟩ = some (.pointer (some ⟨xb, 0, none⟩)) := (cell_of R0 0).trans rfl
  have f6 : w.cell? ⟨mb, 6, none⟩ = some (.int .i64 m.slot) := (cell_of R0 6).trans rfl
  have g6 := free_of R0 6
  obtain ⟨W1, hW1⟩ : ∃ W1, W1 = w.setCell ⟨mb, 6, none⟩ (.int .i64 0) := ⟨_, rfl⟩
  have R1 : RecV W1 xb mb m.bucket m.from_ true false nx 0 false m.code := by rw [hW1]; exact (set_same R0 6 (.int .i64 0)).trans rfl
  have k1 : Keep [mb] w W1 := by rw [hW1]; exact keep_set (Keep.refl _ _) (by simp) _ _
  have R2 : RecV (W1.setCell ⟨mb, 4, none⟩ (.bool true)) xb mb m.bucket m.from_ true true nx 0 false m.code := (set_same R1 4 (.bool true)).trans rfl
  have k2 : Keep [mb] w (W1.setCell ⟨mb, 4, none⟩ (.bool true)) := keep_set k1 (by simp) _ _
  have hoff : ∀ x ∈ [mb], x ∉ rBlocks b sg qv bs ∧ x ≠ xb ∧ x ≠ hb := fun x hx => by rw [List.mem_singleton.1 hx]; exact hi.off
  have h1 := h.keep k1 hoff
  have h2 := h.keep k2 hoff
  have HH : Hid (Calls Tryz.prog 141 #[.pointer (some ⟨xb, 0, none⟩), .int .i64 m.bucket] W1 fun e w' => e = .returned (.bool (X.has m.bucket)) ∧ W1 = w') := Lib.hid (hasR h1.ix m.bucket)
  have d1 : W1.cell? ⟨mb, 1, none⟩ = some (.int .i64 m.bucket) := (cell_of R1 1).trans rfl
  have d3 : W1.cell? ⟨mb, 3, none⟩ = some (.bool true) := (cell_of R1 3).trans rfl
  have d4 : W1.cell? ⟨mb, 4, none⟩ = some (.bool false) := (cell_of R1 4).trans rfl
  have d7 : W1.cell? ⟨mb, 7, none⟩ = some (.bool false) := (cell_of R1 7).trans rfl
  have z4 := free_of R1 4
  have q1 : (W1.setCell ⟨mb, 4, none⟩ (.bool true)).cell? ⟨mb, 1, none⟩ = some (.int .i64 m.bucket) := (cell_of R2 1).trans rfl
  have HI := Lib.hid hi
  have HE := Lib.hid (And.intro h1 h2)
  have RR := Lib.hid (And.intro R1 R2)
  have KK := Lib.hid (And.intro k1 k2)
  obtain ⟨t, ht⟩ : ∃ t, t = stepW X A m := ⟨_, rfl⟩
  have HT := Lib.hid ht
  unfold StepsV
  rw [← ht]
  have HQ := Lib.hid (And.intro hw (And.intro he (And.intro hsr hH)))
  obtain ⟨hv, hhv⟩ : ∃ v, v = X.has m.bucket := ⟨_, rfl⟩
  rw [← hhv] at HH
  have HV := Lib.hid hhv
  clear h hi R hld R0 R1 R2 k1 k2 hoff h1 h2 ht hw he hsr hH hhv
  go_enter Tryz.func115, Tryz.ntmps115
  go_upto_region 3 with fail
  rw [← hW1]
  clear hW1
  go_wp2_with fail
  refine HH.out.mono ?_
  rintro e w' ⟨rfl, rfl⟩
  cases hv
  · go_wp2_with fail
    refine (stopV RR.out.1 40).mono ?_
    rintro e w3 ⟨rfl, r3, k3⟩
    have H3 := Lib.hid (And.intro r3 k3)
    clear r3 k3 q1 d1 d3 d4 d7 z4 f0 f6 g6
    go_wp2_with fail
    go_ret
    have T := stepW_tail (X := X) (A := A) (m := m) (X' := X) (A' := A) (wv := 0) (er := 40) HQ.out.2.1 (by unfold srcW; rw [HQ.out.1, HQ.out.2.2.1, ← HV.out]; rfl)
    rw [HT.out, T]
    have e : bkV m = m.bucket := by simp [bkV, HQ.out.1]
    obtain ⟨a1, a2, a3, a4⟩ := tail_stop (wv := 0) (er := 40) HI.out HE.out.1 (KK.out.1.mono (by simp)) (by omega) H3.out.2 (by rw [e, HQ.out.1]; exact H3.out.1)
    exact ⟨by rw [a4]; rfl, a1, a2, a3⟩
  · go_wp2_with fail
    refine (loadedR HE.out.2.ix m.bucket HV.out.symm).mono ?_
    rintro e w2 ⟨rfl, hx, k3⟩
    have KB : Hid (Keep (mb :: xb :: hb :: rBlocks b sg qv bs) w w2) := Lib.hid ((KK.out.2.mono (by simp)).trans (k3.mono (by simp)))
    have R3 : RecV w2 xb mb m.bucket m.from_ true true nx 0 false m.code := k3.old RR.out.2 (by simpa using HI.out.off.2.1)
    have henv : EnvR w2 b sg sc qv bs xb hb hc X.tick A Q := ⟨HE.out.2.ar.keep k3 (fun x hx => by rw [List.mem_singleton.1 hx]; exact HE.out.2.offx), hx, HE.out.2.offx, HE.out.2.offh, HE.out.2.cell⟩
    have H3 := Lib.hid (And.intro henv R3)
    have hok := HQ.out.2.2.2.head m.bucket
    obtain ⟨v, hvv⟩ : ∃ v, v = X.head m.bucket := ⟨_, rfl⟩
    rw [← hvv] at hok ⊢
    have VV := Lib.hid hvv
    have CN : Hid (∀ wx, Calls Tryz.prog 149 #[.int .u64 v] wx fun e w' => e = .returned (.int .i64 (numL v)) ∧ wx = w') := Lib.hid fun wx => number_ v wx hok
    clear hx k3 R3 henv hok hvv q1 d1 d3 d4 d7 z4 f0 f6 g6
    go_wp2_with fail
    refine (CN.out _).mono ?_
    rintro e wx ⟨rfl, rfl⟩
    go_wp2_with fail
    have e : bkV m = m.bucket := by simp [bkV, HQ.out.1]
    have hbk := has_range HE.out.1.ix.few HV.out.symm
    refine (aheadV H3.out.2 (numL v) (fun _ => hbk)).mono ?_
    rintro r w4 ha
    have HA := Lib.hid ha
    have T := stepW_tail (X := X) (A := A) (m := m) (X' := X.tick) (A' := A) (wv := v) (er := 0) HQ.out.2.1 (by unfold srcW; rw [HQ.out.1, HQ.out.2.2.1, VV.out]; simp only [Bool.and_self, if_true]; rw [if_pos HV.out.symm])
    obtain ⟨a1, a2, a3, a4⟩ := tail_ahead (wv := v) (sl := 0) HI.out H3.out.1 KB.out (by rw [HQ.out.2.2.1]; rfl) (by rw [e, HQ.out.1]; exact HA.out)
    have HF := Lib.hid (And.intro a2 (And.intro a3 a4))
    subst a1
    have T2 := Lib.hid (HT.out.trans T)
    obtain ⟨rr, hrr⟩ : ∃ rr, rr = (tailW X.tick A m v 0).2.2.2 := ⟨_, rfl⟩
    rw [← hrr]
    clear ha a2 a3 a4 T hbk e
    have HR := Lib.hid hrr
    clear hrr
    go_wp2_with fail
    go_ret
    rw [T2.out]
    exact ⟨by rw [← HR.out]; rfl, HF.out⟩

theorem sees_xr (h : EnvR w b sg sc qv bs xb hb hc X A Q) : w.cell? ⟨xb, 0, none⟩ = some (.pointer (some ⟨b, 0, none⟩)) ∧ w.cell? ⟨xb, 1, none⟩ = some (.int .i64 X.cell) := ⟨(cell_of h.ix.hx 0).trans rfl, (cell_of h.ix.hx 1).trans rfl⟩
set_option maxHeartbeats 4000000 in
theorem stepV_load (h : EnvR w b sg sc qv bs xb hb hc X A Q) (hi : WlkV w (rBlocks b sg qv bs) xb hb mb m) (hk : (m.whole && m.src) = false) (he : m.ended = false) (hA : okA A) (ho : okW X m) (src : Bool) (whole : Bool) (hsrc : m.src = src) (hwh : m.whole = whole) :
    Calls Tryz.prog 115 #[.pointer (some ⟨mb, 0, none⟩)] w (StepsV w b sg sc qv bs xb hb hc mb X A Q m) := by
  obtain ⟨ld, nx, R, hld⟩ := hi.hm
  obtain ⟨rfl, hnx⟩ := hld he
  obtain ⟨fr, hfr⟩ : ∃ fr, fr = m.from_ := ⟨_, rfl⟩
  obtain ⟨ls, hls⟩ : ∃ ls, ls = if src then fr else nx := ⟨_, rfl⟩
  have R0 : RecV w xb mb (bkV m) fr whole (!src) nx m.slot false m.code := by
    rw [hfr, ← hsrc, ← hwh, ← he]
    exact R
  have f0 : w.cell? ⟨mb, 0, none⟩ = some (.pointer (some ⟨xb, 0, none⟩)) := (cell_of R0 0).trans rfl
  have f6 : w.cell? ⟨mb, 6, none⟩ = some (.int .i64 m.slot) := (cell_of R0 6).trans rfl
  have g6 := free_of R0 6
  obtain ⟨W1, hW1⟩ : ∃ W1, W1 = w.setCell ⟨mb, 6, none⟩ (.int .i64 0) := ⟨_, rfl⟩
  have R1 : RecV W1 xb mb (bkV m) fr whole (!src) nx 0 false m.code := by rw [hW1]; exact (set_same R0 6 (.int .i64 0)).trans rfl
  have k1 : Keep [mb] w W1 := by rw [hW1]; exact keep_set (Keep.refl _ _) (by simp) _ _
  have hoff : ∀ x ∈ [mb], x ∉ rBlocks b sg qv bs ∧ x ≠ xb ∧ x ≠ hb := fun x hx => by rw [List.mem_singleton.1 hx]; exact hi.off
  have h1 := h.keep k1 hoff
  have d2 : W1.cell? ⟨mb, 2, none⟩ = some (.int .i64 fr) := (cell_of R1 2).trans rfl
  have d3 : W1.cell? ⟨mb, 3, none⟩ = some (.bool whole) := (cell_of R1 3).trans rfl
  have d4 : W1.cell? ⟨mb, 4, none⟩ = some (.bool (!src)) := (cell_of R1 4).trans rfl
  have d5 : W1.cell? ⟨mb, 5, none⟩ = some (.int .i64 nx) := (cell_of R1 5).trans rfl
  have d7 : W1.cell? ⟨mb, 7, none⟩ = some (.bool false) := (cell_of R1 7).trans rfl
  have x0 : W1.cell? ⟨xb, 0, none⟩ = some (.pointer (some ⟨b, 0, none⟩)) := (cell_of h1.ix.hx 0).trans rfl
  have x1 : W1.cell? ⟨xb, 1, none⟩ = some (.int .i64 X.cell) := (cell_of h1.ix.hx 1).trans rfl
  have hcell := h1.cell
  have C : Hid (∀ wx, Keep [] W1 wx → Calls Tryz.prog 143 #[.pointer (some ⟨b, 0, none⟩), .int .i64 ls, .int .i64 X.cell] wx fun e w' => e = .returned (.tuple #[.int .u64 (ldA A ls X.cell).2.1, .int .i64 (ldA A ls X.cell).2.2]) ∧ EnvR w' b sg sc qv bs xb hb hc X (ldA A ls X.cell).1 Q ∧ Keep (rBlocks b sg qv bs) wx w') := Lib.hid fun wx k => by
    have q := Ra.ldR (h1.ar.keep k (by simp)) ls X.cell h1.cell
    refine q.mono ?_
    rintro e w' ⟨rfl, ha, k'⟩
    exact ⟨rfl, ⟨ha, (h1.ix.keep k (by simp)).keep k' (fun x hx => ⟨fun e => h1.offx (e ▸ hx), fun e => h1.offh (e ▸ hx)⟩), h1.offx, h1.offh, by rw [ld_width]; exact h1.cell⟩, k'⟩
  have hsW : srcW X A m = (X, (ldA A ls X.cell).1, (ldA A ls X.cell).2.1, (ldA A ls X.cell).2.2) := by
    unfold srcW
    rw [Bool.and_comm, hk]
    have e : (if m.src = true then m.from_ else m.next) = ls := by
      rw [hls, ← hsrc]
      cases hs : m.src with
      | true => simp [hfr]
      | false => simp [hnx hs]
    simp only [Bool.false_eq_true, if_false]
    rw [e]
  have hok : okL (ldA A ls X.cell).2.1 := hA.ld _ _
  obtain ⟨A', wv, er, hl⟩ : ∃ A' wv er, ldA A ls X.cell = (A', wv, er) := ⟨_, _, _, rfl⟩
  rw [hl] at C hsW hok
  have hbk : whole = true → 0 ≤ bkV m ∧ bkV m ≤ 1000000 := by
    intro e
    rw [e] at hwh
    have e1 : bkV m = m.bucket := by simp [bkV, hwh]
    rw [e1]
    rw [hwh, Bool.true_and] at hk
    exact has_range h.ix.few (ho hwh hk he)
  have hnx' : src = false → nx = m.next := fun e => hnx (by rw [hsrc, e])
  have HI := Lib.hid hi
  have RR := Lib.hid R1
  have KK := Lib.hid k1
  have HO := Lib.hid hok
  have HB := Lib.hid hbk
  have HQ := Lib.hid (And.intro hwh (And.intro hsrc (And.intro hfr hnx')))
  obtain ⟨t, ht⟩ : ∃ t, t = stepW X A m := ⟨_, rfl⟩
  have HT : Hid (t = tailW X A' m wv er) := Lib.hid (ht.trans (stepW_tail he hsW))
  unfold StepsV
  rw [← ht]
  have HLS := Lib.hid hls
  have HKK := Lib.hid hk
  clear h hi hk he hA ho hsrc hwh hnx hfr R hld R0 R1 k1 hoff h1 hcell hsW hok hl hbk hnx' ht
  have main : Calls Tryz.prog 115 #[.pointer (some ⟨mb, 0, none⟩)] w (fun r w' => r = .returned (.bool t.2.2.2) ∧ EnvR w' b sg sc qv bs xb hb hc t.1 t.2.1 Q ∧ WlkV w' (rBlocks b sg qv bs) xb hb mb t.2.2.1 ∧ Keep (mb :: xb :: hb :: rBlocks b sg qv bs) w w') := by
    cases src <;> cases whole
    all_goals first
      | exact absurd HKK.out (by rw [HQ.out.1, HQ.out.2.1]; decide)
      | skip
    · simp only [Bool.not_false, Bool.not_true, if_true, if_false, Bool.false_eq_true] at d4 hls
      subst hls
      go_enter Tryz.func115, Tryz.ntmps115
      go_upto_region 3 with fail
      rw [← hW1]
      clear hW1
      go_wp2_with fail
      go_region_held3 (fun w' => w'.cell? ⟨xb, 0, none⟩ = some (.pointer (some ⟨b, 0, none⟩)) ∧ w'.cell? ⟨xb, 1, none⟩ = some (.int .i64 X.cell)) (go_keep)
        (first
          | (go_at_call 143; refine (C.out W1.drew ((Keep.refl [] W1).drew)).mono ?_; rintro e w2 ⟨rfl, h2, k2⟩; obtain ⟨y0, y1⟩ := sees_xr h2; have H2 := Lib.hid (And.intro h2 k2); clear h2 k2))
      have R2 : RecV w2 xb mb (bkV m) _ _ _ _ 0 false m.code := H2.out.2.old (show W1.drew.heap[mb]? = _ from RR.out) HI.out.off.1
      have KB : Hid (Keep (mb :: xb :: hb :: rBlocks b sg qv bs) w w2) := Lib.hid ((KK.out.drew.mono (by simp)).trans (H2.out.2.mono (fun x hx => by simp [hx])))
      have e4 := (cell_of R2 4).trans rfl
      have e6 : w2.cell? ⟨mb, 6, none⟩ = some (.int .i64 0) := (cell_of R2 6).trans rfl
      have z4 := free_of R2 4
      have z6 := free_of R2 6
      have RR2 := Lib.hid R2
      clear R2 d2 d3 d4 d5 d7 x0 x1 y0 y1 f0 f6 g6
      by_cases h0 : er = 0
      · subst h0
        have CM : Hid (∀ wx, Calls Tryz.prog 150 #[.int .u64 wv] wx fun e w' => e = .returned (.bool (mkL wv)) ∧ wx = w') := Lib.hid fun wx => marked_ wv wx HO.out
        have CN : Hid (∀ wx, Calls Tryz.prog 149 #[.int .u64 wv] wx fun e w' => e = .returned (.int .i64 (numL wv)) ∧ wx = w') := Lib.hid fun wx => number_ wv wx HO.out
        obtain ⟨mk, hmk⟩ : ∃ mk, mk = mkL wv := ⟨_, rfl⟩
        rw [← hmk] at CM
        have HM := Lib.hid hmk
        clear hmk
        go_wp2_with fail
        refine (CM.out _).mono ?_
        rintro e wx ⟨rfl, rfl⟩
        cases mk
        · go_wp2_with fail
          refine (CN.out _).mono ?_
          rintro e wx ⟨rfl, rfl⟩
          go_wp2_with fail
          refine (aheadV (sl := ls) ((set_same (set_same RR2.out 6 (.int .i64 ls)) 4 (.bool true)).trans rfl) (numL wv) (fun e => HB.out (by simp [e]))).mono ?_
          rintro r w4 ha
          have k4 : Keep [mb] w2 w4 := (keep_set (keep_set (Keep.refl [mb] w2) (List.mem_singleton.2 rfl) _ _) (List.mem_singleton.2 rfl) _ _).trans ha.1
          obtain ⟨a1, a2, a3, a4⟩ := tail_ahead (wv := wv) (sl := ls) HI.out (H2.out.1.keep (keep_set (keep_set (Keep.refl [mb] w2) (List.mem_singleton.2 rfl) _ _) (List.mem_singleton.2 rfl) _ _) (fun x hx => by rw [List.mem_singleton.1 hx]; exact HI.out.off)) (KB.out.trans ((keep_set (keep_set (Keep.refl [mb] w2) (List.mem_singleton.2 rfl) _ _) (List.mem_singleton.2 rfl) _ _).mono (by simp) : Keep (mb :: xb :: hb :: rBlocks b sg qv bs) w2 _)) (r := r) (w3 := w4) (by rw [HQ.out.2.1, ← HM.out]; exact HQ.out.2.2.2 (by simp)) (by rw [← HQ.out.2.2.1, HQ.out.1]; exact ha)
          have HF := Lib.hid (And.intro a2 (And.intro a3 a4))
          subst a1
          obtain ⟨rr, hrr⟩ : ∃ rr, rr = (tailW X A' m wv 0).2.2.2 := ⟨_, rfl⟩
          rw [← hrr]
          have HR := Lib.hid hrr
          clear ha k4 a2 a3 a4 hrr e4 e6 z4 z6
          go_wp2_with fail
          go_ret
          rw [HT.out]
          exact ⟨by rw [← HR.out]; rfl, HF.out⟩
        · go_wp2_with fail
          refine (CN.out _).mono ?_
          rintro e wx ⟨rfl, rfl⟩
          go_wp2_with fail
          refine (aheadV (sl := 0) ((set_same RR2.out 4 (.bool true)).trans rfl) (numL wv) (fun e => HB.out (by simp [e]))).mono ?_
          rintro r w4 ha
          have k4 : Keep [mb] w2 w4 := (keep_set (Keep.refl [mb] w2) (List.mem_singleton.2 rfl) _ _).trans ha.1
          obtain ⟨a1, a2, a3, a4⟩ := tail_ahead (wv := wv) (sl := 0) HI.out (H2.out.1.keep (keep_set (Keep.refl [mb] w2) (List.mem_singleton.2 rfl) _ _) (fun x hx => by rw [List.mem_singleton.1 hx]; exact HI.out.off)) (KB.out.trans ((keep_set (Keep.refl [mb] w2) (List.mem_singleton.2 rfl) _ _).mono (by simp) : Keep (mb :: xb :: hb :: rBlocks b sg qv bs) w2 _)) (r := r) (w3 := w4) (by rw [← HM.out]; simp) (by rw [← HQ.out.2.2.1, HQ.out.1]; exact ha)
          have HF := Lib.hid (And.intro a2 (And.intro a3 a4))
          subst a1
          obtain ⟨rr, hrr⟩ : ∃ rr, rr = (tailW X A' m wv 0).2.2.2 := ⟨_, rfl⟩
          rw [← hrr]
          have HR := Lib.hid hrr
          clear ha k4 a2 a3 a4 hrr e4 e6 z4 z6
          go_wp2_with fail
          go_ret
          rw [HT.out]
          exact ⟨by rw [← HR.out]; rfl, HF.out⟩
      · have he' : (er != 0) = true := by simpa using h0
        go_wp2_with fail
        refine (stopV RR2.out er).mono ?_
        rintro e w3 ⟨rfl, r3, k3⟩
        obtain ⟨a1, a2, a3, a4⟩ := tail_stop (X' := X) (A' := A') (wv := wv) (er := er) HI.out H2.out.1 KB.out h0 k3 (by rw [← HQ.out.2.2.1, HQ.out.1]; exact r3)
        have HF := Lib.hid (And.intro a1 (And.intro a2 (And.intro a3 a4)))
        clear r3 k3 e4 e6 z4 z6 a1 a2 a3 a4
        go_wp2_with fail
        go_ret
        rw [HT.out]
        exact ⟨by rw [HF.out.2.2.2]; rfl, HF.out.1, HF.out.2.1, HF.out.2.2.1⟩
    · simp only [Bool.not_false, Bool.not_true, if_true, if_false, Bool.false_eq_true] at d4 hls
      subst hls
      go_enter Tryz.func115, Tryz.ntmps115
      go_upto_region 3 with fail
      rw [← hW1]
      clear hW1
      go_wp2_with fail
      go_region_held3 (fun w' => w'.cell? ⟨xb, 0, none⟩ = some (.pointer (some ⟨b, 0, none⟩)) ∧ w'.cell? ⟨xb, 1, none⟩ = some (.int .i64 X.cell)) (go_keep)
        (first
          | (go_at_call 143; refine (C.out W1.drew ((Keep.refl [] W1).drew)).mono ?_; rintro e w2 ⟨rfl, h2, k2⟩; obtain ⟨y0, y1⟩ := sees_xr h2; have H2 := Lib.hid (And.intro h2 k2); clear h2 k2))
      have R2 : RecV w2 xb mb (bkV m) _ _ _ _ 0 false m.code := H2.out.2.old (show W1.drew.heap[mb]? = _ from RR.out) HI.out.off.1
      have KB : Hid (Keep (mb :: xb :: hb :: rBlocks b sg qv bs) w w2) := Lib.hid ((KK.out.drew.mono (by simp)).trans (H2.out.2.mono (fun x hx => by simp [hx])))
      have e4 := (cell_of R2 4).trans rfl
      have e6 : w2.cell? ⟨mb, 6, none⟩ = some (.int .i64 0) := (cell_of R2 6).trans rfl
      have z4 := free_of R2 4
      have z6 := free_of R2 6
      have RR2 := Lib.hid R2
      clear R2 d2 d3 d4 d5 d7 x0 x1 y0 y1 f0 f6 g6
      by_cases h0 : er = 0
      · subst h0
        have CM : Hid (∀ wx, Calls Tryz.prog 150 #[.int .u64 wv] wx fun e w' => e = .returned (.bool (mkL wv)) ∧ wx = w') := Lib.hid fun wx => marked_ wv wx HO.out
        have CN : Hid (∀ wx, Calls Tryz.prog 149 #[.int .u64 wv] wx fun e w' => e = .returned (.int .i64 (numL wv)) ∧ wx = w') := Lib.hid fun wx => number_ wv wx HO.out
        obtain ⟨mk, hmk⟩ : ∃ mk, mk = mkL wv := ⟨_, rfl⟩
        rw [← hmk] at CM
        have HM := Lib.hid hmk
        clear hmk
        go_wp2_with fail
        refine (CM.out _).mono ?_
        rintro e wx ⟨rfl, rfl⟩
        cases mk
        · go_wp2_with fail
          refine (CN.out _).mono ?_
          rintro e wx ⟨rfl, rfl⟩
          go_wp2_with fail
          refine (aheadV (sl := ls) ((set_same (set_same RR2.out 6 (.int .i64 ls)) 4 (.bool true)).trans rfl) (numL wv) (fun e => HB.out (by simp [e]))).mono ?_
          rintro r w4 ha
          have k4 : Keep [mb] w2 w4 := (keep_set (keep_set (Keep.refl [mb] w2) (List.mem_singleton.2 rfl) _ _) (List.mem_singleton.2 rfl) _ _).trans ha.1
          obtain ⟨a1, a2, a3, a4⟩ := tail_ahead (wv := wv) (sl := ls) HI.out (H2.out.1.keep (keep_set (keep_set (Keep.refl [mb] w2) (List.mem_singleton.2 rfl) _ _) (List.mem_singleton.2 rfl) _ _) (fun x hx => by rw [List.mem_singleton.1 hx]; exact HI.out.off)) (KB.out.trans ((keep_set (keep_set (Keep.refl [mb] w2) (List.mem_singleton.2 rfl) _ _) (List.mem_singleton.2 rfl) _ _).mono (by simp) : Keep (mb :: xb :: hb :: rBlocks b sg qv bs) w2 _)) (r := r) (w3 := w4) (by rw [HQ.out.2.1, ← HM.out]; exact HQ.out.2.2.2 (by simp)) (by rw [← HQ.out.2.2.1, HQ.out.1]; exact ha)
          have HF := Lib.hid (And.intro a2 (And.intro a3 a4))
          subst a1
          obtain ⟨rr, hrr⟩ : ∃ rr, rr = (tailW X A' m wv 0).2.2.2 := ⟨_, rfl⟩
          rw [← hrr]
          have HR := Lib.hid hrr
          clear ha k4 a2 a3 a4 hrr e4 e6 z4 z6
          go_wp2_with fail
          go_ret
          rw [HT.out]
          exact ⟨by rw [← HR.out]; rfl, HF.out⟩
        · go_wp2_with fail
          refine (CN.out _).mono ?_
          rintro e wx ⟨rfl, rfl⟩
          go_wp2_with fail
          refine (aheadV (sl := 0) ((set_same RR2.out 4 (.bool true)).trans rfl) (numL wv) (fun e => HB.out (by simp [e]))).mono ?_
          rintro r w4 ha
          have k4 : Keep [mb] w2 w4 := (keep_set (Keep.refl [mb] w2) (List.mem_singleton.2 rfl) _ _).trans ha.1
          obtain ⟨a1, a2, a3, a4⟩ := tail_ahead (wv := wv) (sl := 0) HI.out (H2.out.1.keep (keep_set (Keep.refl [mb] w2) (List.mem_singleton.2 rfl) _ _) (fun x hx => by rw [List.mem_singleton.1 hx]; exact HI.out.off)) (KB.out.trans ((keep_set (Keep.refl [mb] w2) (List.mem_singleton.2 rfl) _ _).mono (by simp) : Keep (mb :: xb :: hb :: rBlocks b sg qv bs) w2 _)) (r := r) (w3 := w4) (by rw [← HM.out]; simp) (by rw [← HQ.out.2.2.1, HQ.out.1]; exact ha)
          have HF := Lib.hid (And.intro a2 (And.intro a3 a4))
          subst a1
          obtain ⟨rr, hrr⟩ : ∃ rr, rr = (tailW X A' m wv 0).2.2.2 := ⟨_, rfl⟩
          rw [← hrr]
          have HR := Lib.hid hrr
          clear ha k4 a2 a3 a4 hrr e4 e6 z4 z6
          go_wp2_with fail
          go_ret
          rw [HT.out]
          exact ⟨by rw [← HR.out]; rfl, HF.out⟩
      · have he' : (er != 0) = true := by simpa using h0
        go_wp2_with fail
        refine (stopV RR2.out er).mono ?_
        rintro e w3 ⟨rfl, r3, k3⟩
        obtain ⟨a1, a2, a3, a4⟩ := tail_stop (X' := X) (A' := A') (wv := wv) (er := er) HI.out H2.out.1 KB.out h0 k3 (by rw [← HQ.out.2.2.1, HQ.out.1]; exact r3)
        have HF := Lib.hid (And.intro a1 (And.intro a2 (And.intro a3 a4)))
        clear r3 k3 e4 e6 z4 z6 a1 a2 a3 a4
        go_wp2_with fail
        go_ret
        rw [HT.out]
        exact ⟨by rw [HF.out.2.2.2]; rfl, HF.out.1, HF.out.2.1, HF.out.2.2.1⟩
    · simp only [Bool.not_false, Bool.not_true, if_true, if_false, Bool.false_eq_true] at d4 hls
      subst hls
      go_enter Tryz.func115, Tryz.ntmps115
      go_upto_region 3 with fail
      rw [← hW1]
      clear hW1
      go_wp2_with fail
      go_region_held3 (fun w' => w'.cell? ⟨xb, 0, none⟩ = some (.pointer (some ⟨b, 0, none⟩)) ∧ w'.cell? ⟨xb, 1, none⟩ = some (.int .i64 X.cell)) (go_keep)
        (first
          | (go_at_call 143; refine (C.out W1.drew ((Keep.refl [] W1).drew)).mono ?_; rintro e w2 ⟨rfl, h2, k2⟩; obtain ⟨y0, y1⟩ := sees_xr h2; have H2 := Lib.hid (And.intro h2 k2); clear h2 k2))
      have R2 : RecV w2 xb mb (bkV m) _ _ _ _ 0 false m.code := H2.out.2.old (show W1.drew.heap[mb]? = _ from RR.out) HI.out.off.1
      have KB : Hid (Keep (mb :: xb :: hb :: rBlocks b sg qv bs) w w2) := Lib.hid ((KK.out.drew.mono (by simp)).trans (H2.out.2.mono (fun x hx => by simp [hx])))
      have e4 := (cell_of R2 4).trans rfl
      have e6 : w2.cell? ⟨mb, 6, none⟩ = some (.int .i64 0) := (cell_of R2 6).trans rfl
      have z4 := free_of R2 4
      have z6 := free_of R2 6
      have RR2 := Lib.hid R2
      clear R2 d2 d3 d4 d5 d7 x0 x1 y0 y1 f0 f6 g6
      by_cases h0 : er = 0
      · subst h0
        have CM : Hid (∀ wx, Calls Tryz.prog 150 #[.int .u64 wv] wx fun e w' => e = .returned (.bool (mkL wv)) ∧ wx = w') := Lib.hid fun wx => marked_ wv wx HO.out
        have CN : Hid (∀ wx, Calls Tryz.prog 149 #[.int .u64 wv] wx fun e w' => e = .returned (.int .i64 (numL wv)) ∧ wx = w') := Lib.hid fun wx => number_ wv wx HO.out
        go_wp2_with fail
        refine (CN.out _).mono ?_
        rintro e wx ⟨rfl, rfl⟩
        go_wp2_with fail
        refine (aheadV (sl := 0) ((set_same RR2.out 4 (.bool true)).trans rfl) (numL wv) (fun e => HB.out (by simp [e]))).mono ?_
        rintro r w4 ha
        have k4 : Keep [mb] w2 w4 := (keep_set (Keep.refl [mb] w2) (List.mem_singleton.2 rfl) _ _).trans ha.1
        obtain ⟨a1, a2, a3, a4⟩ := tail_ahead (wv := wv) (sl := 0) HI.out (H2.out.1.keep (keep_set (Keep.refl [mb] w2) (List.mem_singleton.2 rfl) _ _) (fun x hx => by rw [List.mem_singleton.1 hx]; exact HI.out.off)) (KB.out.trans ((keep_set (Keep.refl [mb] w2) (List.mem_singleton.2 rfl) _ _).mono (by simp) : Keep (mb :: xb :: hb :: rBlocks b sg qv bs) w2 _)) (r := r) (w3 := w4) (by rw [HQ.out.2.1]; rfl) (by rw [← HQ.out.2.2.1, HQ.out.1]; exact ha)
        have HF := Lib.hid (And.intro a2 (And.intro a3 a4))
        subst a1
        obtain ⟨rr, hrr⟩ : ∃ rr, rr = (tailW X A' m wv 0).2.2.2 := ⟨_, rfl⟩
        rw [← hrr]
        have HR := Lib.hid hrr
        clear ha k4 a2 a3 a4 hrr e4 e6 z4 z6
        go_wp2_with fail
        go_ret
        rw [HT.out]
        exact ⟨by rw [← HR.out]; rfl, HF.out⟩
      · have he' : (er != 0) = true := by simpa using h0
        go_wp2_with fail
        refine (stopV RR2.out er).mono ?_
        rintro e w3 ⟨rfl, r3, k3⟩
        obtain ⟨a1, a2, a3, a4⟩ := tail_stop (X' := X) (A' := A') (wv := wv) (er := er) HI.out H2.out.1 KB.out h0 k3 (by rw [← HQ.out.2.2.1, HQ.out.1]; exact r3)
        have HF := Lib.hid (And.intro a1 (And.intro a2 (And.intro a3 a4)))
        clear r3 k3 e4 e6 z4 z6 a1 a2 a3 a4
        go_wp2_with fail
        go_ret
        rw [HT.out]
        exact ⟨by rw [HF.out.2.2.2]; rfl, HF.out.1, HF.out.2.1, HF.out.2.2.1⟩
  exact main
theorem step_wlkV (h : EnvR w b sg sc qv bs xb hb hc X A Q) (hi : WlkV w (rBlocks b sg qv bs) xb hb mb m) (ho : okW X m) (hA : okA A) (hH : okH X) :
    Calls Tryz.prog 115 #[.pointer (some ⟨mb, 0, none⟩)] w (StepsV w b sg sc qv bs xb hb hc mb X A Q m) := by
  cases he : m.ended with
  | true => exact stepV0 h hi he
  | false =>
    cases hk : m.whole && m.src with
    | true =>
      rw [Bool.and_eq_true] at hk
      exact stepV_head h hi hk.1 he hk.2 hH
    | false => exact stepV_load h hi hk he hA ho m.src m.whole rfl rfl
theorem new_wlkV (h : EnvR w b sg sc qv bs xb hb hc X A Q) (k : Int) :
    Calls Tryz.prog 110 #[.pointer (some ⟨xb, 0, none⟩), .int .i64 k] w fun r w' => r = .returned (.pointer (some ⟨w.heap.size, 0, none⟩)) ∧ WlkV w' (rBlocks b sg qv bs) xb hb w.heap.size (newW k) ∧ Keep [] w w' := by
  obtain ⟨l1, l2, l3⟩ := h.lt
  have OFF : Hid (w.heap.size ∉ rBlocks b sg qv bs ∧ w.heap.size ≠ xb ∧ w.heap.size ≠ hb) := Lib.hid ⟨fun hm => by have := l1 _ hm; omega, by omega, by omega⟩
  clear h l1 l2 l3
  go_enter Tryz.func110, Tryz.ntmps110
  go_wp2_with fail
  go_ret
  exact ⟨rfl, ⟨⟨false, 0, (alloc_new w _).trans rfl, fun _ => ⟨rfl, fun e => by cases e⟩⟩, OFF.out⟩, (Keep.refl _ _).alloc _⟩
theorem new_behV (h : EnvR w b sg sc qv bs xb hb hc X A Q) (k : Int) :
    Calls Tryz.prog 112 #[.pointer (some ⟨xb, 0, none⟩), .int .i64 k] w fun r w' => r = .returned (.pointer (some ⟨w.heap.size, 0, none⟩)) ∧ WlkV w' (rBlocks b sg qv bs) xb hb w.heap.size (newB k) ∧ Keep [] w w' := by
  obtain ⟨l1, l2, l3⟩ := h.lt
  have OFF : Hid (w.heap.size ∉ rBlocks b sg qv bs ∧ w.heap.size ≠ xb ∧ w.heap.size ≠ hb) := Lib.hid ⟨fun hm => by have := l1 _ hm; omega, by omega, by omega⟩
  clear h l1 l2 l3
  go_enter Tryz.func112, Tryz.ntmps112
  go_wp2_with fail
  go_ret
  exact ⟨rfl, ⟨⟨false, 0, (alloc_new w _).trans rfl, fun _ => ⟨rfl, fun e => by cases e⟩⟩, OFF.out⟩, (Keep.refl _ _).alloc _⟩
end
end Go.Proofs.YtgagiggljlikbaaGreat.Rc
