/- The document's Remove: Step whole, the making of one. -/
import Derived.Test.YtgagiggljlikbaaGreatRcR
namespace Go.Proofs.YtgagiggljlikbaaGreat.Rc
open Go.RowKit Go.Proofs.YtgagiggljlikbaaGreat.Mem Go.Proofs.YtgagiggljlikbaaGreat.Ar Go.Proofs.YtgagiggljlikbaaGreat.En Go.Proofs.YtgagiggljlikbaaGreat.Ch
open Go.Proofs.YtgagiggljlikbaaGreat.Ra (owns_block RAt rBlocks)
set_option linter.unusedVariables false
set_option linter.unusedSimpArgs false
set_option maxRecDepth 100000
section
variable {w w' w2 : World} {b sg sc : Nat} {qv : Value} {bs : List (Option Nat)} {A A' : Ars} {Q : List Nat} {xb hb hc mb : Nat} {X X' : CI} {m m' : MR} {Bl : List Nat} {bk sl av wd ah nw co hp : Int} {dn mk : Bool} {wv er : Int}
theorem stepQ_0 (h : EnvR w b sg sc qv bs xb hb hc X A Q) (hi : RemQ w (rBlocks b sg qv bs) xb hb mb m) (hat : m.at_ = 0) :
    Calls Tryz.prog 116 #[.pointer (some ⟨mb, 0, none⟩)] w (StepsQ w b sg sc qv bs xb hb hc mb X A Q m) := by
  obtain ⟨av, wd, R, hav, hwd⟩ := hi.hm
  have c0 : w.cell? ⟨mb, 0, none⟩ = some (.pointer (some ⟨xb, 0, none⟩)) := (cell_of R 0).trans rfl
  have c7 : w.cell? ⟨mb, 7, none⟩ = some (.bool (decide (m.at_ = 0))) := (cell_of R 7).trans rfl
  rw [decide_eq_true hat] at c7
  have hs : stepR X A m = (X, A, m, true) := by simp only [stepR, hat]
  have HH := Lib.hid (And.intro h hi)
  unfold StepsQ
  rw [hs]
  clear h hi hat hs R hav hwd
  go_enter Tryz.func116, Tryz.ntmps116
  go_wp2_with fail
  go_ret
  exact ⟨rfl, HH.out.1, HH.out.2, Keep.refl _ _⟩
theorem stepQ_no (h : EnvR w b sg sc qv bs xb hb hc X A Q) (hi : RemQ w (rBlocks b sg qv bs) xb hb mb m) (hat : m.at_ = 1) (hh : X.has m.bucket = false) :
    Calls Tryz.prog 116 #[.pointer (some ⟨mb, 0, none⟩)] w (StepsQ w b sg sc qv bs xb hb hc mb X A Q m) := by
  obtain ⟨av, wd, R, hav, hwd⟩ := hi.hm
  rw [decide_eq_false (by omega)] at R
  have c0 : w.cell? ⟨mb, 0, none⟩ = some (.pointer (some ⟨xb, 0, none⟩)) := (cell_of R 0).trans rfl
  have c1 : w.cell? ⟨mb, 1, none⟩ = some (.int .i64 m.bucket) := (cell_of R 1).trans rfl
  have c7 : w.cell? ⟨mb, 7, none⟩ = some (.bool false) := (cell_of R 7).trans rfl
  have hs : stepR X A m = (X, A, m.over 40, true) := by simp [stepR, hat, hh]
  have HH : Hid (Calls Tryz.prog 141 #[.pointer (some ⟨xb, 0, none⟩), .int .i64 m.bucket] w fun e w' => e = .returned (.bool false) ∧ w = w') := Lib.hid (by rw [← hh]; exact hasR h.ix m.bucket)
  have HI := Lib.hid (And.intro hi h)
  have RR := Lib.hid R
  unfold StepsQ
  rw [hs]
  clear h hi hat hs R hav hwd hh
  go_enter Tryz.func116, Tryz.ntmps116
  go_wp2_with fail
  refine HH.out.mono ?_
  rintro e w' ⟨rfl, rfl⟩
  go_wp2_with fail
  refine (overQ RR.out 40).mono ?_
  rintro e w4 ⟨rfl, r4, k4⟩
  have H4 := Lib.hid (And.intro r4 k4)
  clear r4 k4 c0 c1 c7
  go_wp2_with fail
  go_ret
  exact ⟨rfl, over_end HI.out.1 HI.out.2 (Keep.refl _ _) H4.out.2 H4.out.1⟩
theorem stepQ_1 (h : EnvR w b sg sc qv bs xb hb hc X A Q) (hi : RemQ w (rBlocks b sg qv bs) xb hb mb m) (hat : m.at_ = 1) (hh : X.has m.bucket = true)
    (C0 : Calls Tryz.prog 152 #[.pointer (some ⟨mb, 0, none⟩)] w (StepsQ w b sg sc qv bs xb hb hc mb X A Q m)) :
    Calls Tryz.prog 116 #[.pointer (some ⟨mb, 0, none⟩)] w (StepsQ w b sg sc qv bs xb hb hc mb X A Q m) := by
  obtain ⟨av, wd, R, hav, hwd⟩ := hi.hm
  obtain rfl : av = 1 := (hav (by omega)).trans (by rw [hat]; rfl)
  rw [decide_eq_false (by omega)] at R
  have c0 : w.cell? ⟨mb, 0, none⟩ = some (.pointer (some ⟨xb, 0, none⟩)) := (cell_of R 0).trans rfl
  have c1 : w.cell? ⟨mb, 1, none⟩ = some (.int .i64 m.bucket) := (cell_of R 1).trans rfl
  have c3 : w.cell? ⟨mb, 3, none⟩ = some (.int .i64 1) := (cell_of R 3).trans rfl
  have c7 : w.cell? ⟨mb, 7, none⟩ = some (.bool false) := (cell_of R 7).trans rfl
  have HH : Hid (Calls Tryz.prog 141 #[.pointer (some ⟨xb, 0, none⟩), .int .i64 m.bucket] w fun e w' => e = .returned (.bool true) ∧ w = w') := Lib.hid (by rw [← hh]; exact hasR h.ix m.bucket)
  have C := Lib.hid C0
  clear h hi hat R hav hwd hh C0
  go_enter Tryz.func116, Tryz.ntmps116
  go_wp2_with fail
  refine HH.out.mono ?_
  rintro e w' ⟨rfl, rfl⟩
  go_wp2_with fail
  refine C.out.mono ?_
  rintro e w4 ⟨rfl, h2, i2, k2⟩
  have R := Lib.hid (And.intro h2 (And.intro i2 k2))
  obtain ⟨d, hd⟩ : ∃ d, d = (stepR X A m).2.2.2 := ⟨_, rfl⟩
  rw [← hd]
  have HD := Lib.hid hd
  clear h2 i2 k2 hd C c0 c1 c3 c7
  go_wp2_with fail
  go_ret
  exact ⟨by rw [← HD.out]; rfl, R.out⟩
theorem stepQ_4 (h : EnvR w b sg sc qv bs xb hb hc X A Q) (hi : RemQ w (rBlocks b sg qv bs) xb hb mb m) (hat : m.at_ = 4) (hh : X.has m.bucket = true)
    (C0 : Calls Tryz.prog 155 #[.pointer (some ⟨mb, 0, none⟩)] w (StepsQ w b sg sc qv bs xb hb hc mb X A Q m)) :
    Calls Tryz.prog 116 #[.pointer (some ⟨mb, 0, none⟩)] w (StepsQ w b sg sc qv bs xb hb hc mb X A Q m) := by
  obtain ⟨av, wd, R, hav, hwd⟩ := hi.hm
  obtain rfl : av = 4 := (hav (by omega)).trans (by rw [hat]; rfl)
  rw [decide_eq_false (by omega)] at R
  have c0 : w.cell? ⟨mb, 0, none⟩ = some (.pointer (some ⟨xb, 0, none⟩)) := (cell_of R 0).trans rfl
  have c1 : w.cell? ⟨mb, 1, none⟩ = some (.int .i64 m.bucket) := (cell_of R 1).trans rfl
  have c3 : w.cell? ⟨mb, 3, none⟩ = some (.int .i64 4) := (cell_of R 3).trans rfl
  have c7 : w.cell? ⟨mb, 7, none⟩ = some (.bool false) := (cell_of R 7).trans rfl
  have HH : Hid (Calls Tryz.prog 141 #[.pointer (some ⟨xb, 0, none⟩), .int .i64 m.bucket] w fun e w' => e = .returned (.bool true) ∧ w = w') := Lib.hid (by rw [← hh]; exact hasR h.ix m.bucket)
  have C := Lib.hid C0
  clear h hi hat R hav hwd hh C0
  go_enter Tryz.func116, Tryz.ntmps116
  go_wp2_with fail
  refine HH.out.mono ?_
  rintro e w' ⟨rfl, rfl⟩
  go_wp2_with fail
  refine C.out.mono ?_
  rintro e w4 ⟨rfl, h2, i2, k2⟩
  have R := Lib.hid (And.intro h2 (And.intro i2 k2))
  obtain ⟨d, hd⟩ : ∃ d, d = (stepR X A m).2.2.2 := ⟨_, rfl⟩
  rw [← hd]
  have HD := Lib.hid hd
  clear h2 i2 k2 hd C c0 c1 c3 c7
  go_wp2_with fail
  go_ret
  exact ⟨by rw [← HD.out]; rfl, R.out⟩
theorem stepQ_5 (h : EnvR w b sg sc qv bs xb hb hc X A Q) (hi : RemQ w (rBlocks b sg qv bs) xb hb mb m) (hat : m.at_ = 5) (hh : X.has m.bucket = true)
    (C0 : Calls Tryz.prog 156 #[.pointer (some ⟨mb, 0, none⟩)] w (StepsQ w b sg sc qv bs xb hb hc mb X A Q m)) :
    Calls Tryz.prog 116 #[.pointer (some ⟨mb, 0, none⟩)] w (StepsQ w b sg sc qv bs xb hb hc mb X A Q m) := by
  obtain ⟨av, wd, R, hav, hwd⟩ := hi.hm
  obtain rfl : av = 5 := (hav (by omega)).trans (by rw [hat]; rfl)
  rw [decide_eq_false (by omega)] at R
  have c0 : w.cell? ⟨mb, 0, none⟩ = some (.pointer (some ⟨xb, 0, none⟩)) := (cell_of R 0).trans rfl
  have c1 : w.cell? ⟨mb, 1, none⟩ = some (.int .i64 m.bucket) := (cell_of R 1).trans rfl
  have c3 : w.cell? ⟨mb, 3, none⟩ = some (.int .i64 5) := (cell_of R 3).trans rfl
  have c7 : w.cell? ⟨mb, 7, none⟩ = some (.bool false) := (cell_of R 7).trans rfl
  have HH : Hid (Calls Tryz.prog 141 #[.pointer (some ⟨xb, 0, none⟩), .int .i64 m.bucket] w fun e w' => e = .returned (.bool true) ∧ w = w') := Lib.hid (by rw [← hh]; exact hasR h.ix m.bucket)
  have C := Lib.hid C0
  clear h hi hat R hav hwd hh C0
  go_enter Tryz.func116, Tryz.ntmps116
  go_wp2_with fail
  refine HH.out.mono ?_
  rintro e w' ⟨rfl, rfl⟩
  go_wp2_with fail
  refine C.out.mono ?_
  rintro e w4 ⟨rfl, h2, i2, k2⟩
  have R := Lib.hid (And.intro h2 (And.intro i2 k2))
  obtain ⟨d, hd⟩ : ∃ d, d = (stepR X A m).2.2.2 := ⟨_, rfl⟩
  rw [← hd]
  have HD := Lib.hid hd
  clear h2 i2 k2 hd C c0 c1 c3 c7
  go_wp2_with fail
  go_ret
  exact ⟨by rw [← HD.out]; rfl, R.out⟩
set_option maxHeartbeats 4000000 in
theorem stepQ_3 (h : EnvR w b sg sc qv bs xb hb hc X A Q) (hi : RemQ w (rBlocks b sg qv bs) xb hb mb m) (hat : m.at_ = 3) (hh : X.has m.bucket = true) (hH : okH X) :
    Calls Tryz.prog 116 #[.pointer (some ⟨mb, 0, none⟩)] w (StepsQ w b sg sc qv bs xb hb hc mb X A Q m) := by
  obtain ⟨av, wd, R, hav, hwd⟩ := hi.hm
  obtain rfl : av = 3 := (hav (by omega)).trans (by rw [hat]; rfl)
  obtain ⟨x0, x1⟩ := sees_xr h
  have c0 : w.cell? ⟨mb, 0, none⟩ = some (.pointer (some ⟨xb, 0, none⟩)) := (cell_of R 0).trans rfl
  rw [decide_eq_false (by omega)] at R
  have c1 : w.cell? ⟨mb, 1, none⟩ = some (.int .i64 m.bucket) := (cell_of R 1).trans rfl
  have c3 : w.cell? ⟨mb, 3, none⟩ = some (.int .i64 3) := (cell_of R 3).trans rfl
  have c7 : w.cell? ⟨mb, 7, none⟩ = some (.bool false) := (cell_of R 7).trans rfl
  have HH : Hid (Calls Tryz.prog 141 #[.pointer (some ⟨xb, 0, none⟩), .int .i64 m.bucket] w fun e w' => e = .returned (.bool true) ∧ w = w') := Lib.hid (by rw [← hh]; exact hasR h.ix m.bucket)
  have c5 : w.cell? ⟨mb, 5, none⟩ = some (.int .i64 m.ahead) := (cell_of R 5).trans rfl
  have z5 := free_of R 5
  obtain ⟨v, hv⟩ : ∃ v, v = X.head m.bucket := ⟨_, rfl⟩
  have hok : okL v := by rw [hv]; exact hH.head _
  obtain ⟨nn, hnn⟩ : ∃ nn, nn = numL v := ⟨_, rfl⟩
  have hs : stepR X A m = (X.tick, A, (({ m with ahead := 0 } : MR).come nn).1, (({ m with ahead := 0 } : MR).come nn).2) := by
    unfold stepR
    rw [hat, hnn, hv]
    rfl
  have R1 : RecQ (w.setCell ⟨mb, 5, none⟩ (.int .i64 0)) xb mb m.bucket m.slot 3 wd 0 m.now false m.code m.marked m.helped := (set_same R 5 (.int .i64 0)).trans rfl
  have k1 : Keep [mb] w (w.setCell ⟨mb, 5, none⟩ (.int .i64 0)) := keep_set (Keep.refl [mb] w) (List.mem_singleton.2 rfl) _ _
  have h1 := h.keep k1 (fun x hx => by rw [List.mem_singleton.1 hx]; exact hi.off)
  have q1 : (w.setCell ⟨mb, 5, none⟩ (.int .i64 0)).cell? ⟨mb, 1, none⟩ = some (.int .i64 m.bucket) := (cell_of R1 1).trans rfl
  have CL : Hid (Calls Tryz.prog 144 #[.pointer (some ⟨xb, 0, none⟩), .int .i64 m.bucket] (w.setCell ⟨mb, 5, none⟩ (.int .i64 0)) fun e w' => e = .returned (.int .u64 v) ∧ EnvR w' b sg sc qv bs xb hb hc X.tick A Q ∧ Keep [xb] (w.setCell ⟨mb, 5, none⟩ (.int .i64 0)) w') := Lib.hid (by
    rw [hv]
    refine (loadedR h1.ix m.bucket hh).mono ?_
    rintro e w' ⟨rfl, hx, k'⟩
    exact ⟨rfl, ⟨h1.ar.keep k' (fun x hx => by rw [List.mem_singleton.1 hx]; exact h.offx), hx, h.offx, h.offh, h.cell⟩, k'⟩)
  have CN : Hid (∀ wx, Calls Tryz.prog 149 #[.int .u64 v] wx fun e w' => e = .returned (.int .i64 nn) ∧ wx = w') := Lib.hid fun wx => by rw [hnn]; exact number_ v wx hok
  have HI := Lib.hid hi
  obtain ⟨t, ht⟩ : ∃ t, t = stepR X A m := ⟨_, rfl⟩
  have HS := Lib.hid (ht.trans hs)
  unfold StepsQ
  rw [← ht]
  have RR := Lib.hid (And.intro R1 k1)
  clear h hi hat hh hH R hav hwd hs ht hnn hv hok R1 k1 h1
  go_enter Tryz.func116, Tryz.ntmps116
  go_wp2_with fail
  refine HH.out.mono ?_
  rintro e w' ⟨rfl, rfl⟩
  go_wp2_with fail
  refine CL.out.mono ?_
  rintro e w2 ⟨rfl, h2, k2⟩
  have R2 : RecQ w2 xb mb m.bucket m.slot 3 wd 0 m.now false m.code m.marked m.helped := k2.old RR.out.1 (by simpa using HI.out.off.2.1)
  have KK : Hid (Keep (mb :: xb :: hb :: rBlocks b sg qv bs) w w2) := Lib.hid ((RR.out.2.mono (by simp)).trans (k2.mono (by simp)))
  have H2 := Lib.hid (And.intro h2 k2)
  have RR2 := Lib.hid R2
  clear h2 k2 R2 q1 c0 c1 c3 c5 c7 z5 x0 x1 CL
  go_wp2_with fail
  refine (CN.out _).mono ?_
  rintro e wx ⟨rfl, rfl⟩
  have T := Lib.hid (HS.out.trans (by rfl : _ = (X.tick, A, (({ m with ahead := 0 } : MR).come nn).1, (({ m with ahead := 0 } : MR).come nn).2)))
  go_wp2_with fail
  refine (presentQ RR2.out nn).mono ?_
  rintro e w4 ⟨rfl, r4, k4⟩
  have H4 := Lib.hid (And.intro r4 k4)
  obtain ⟨bb, hbb⟩ : ∃ bb, bb = beyond nn := ⟨_, rfl⟩
  rw [← hbb]
  have HB := Lib.hid hbb
  clear r4 k4 hbb
  go_wp2_with fail
  go_ret
  rw [T.out]
  exact ⟨by rw [come_done, ← HB.out]; rfl, present_end HI.out H2.out.1 KK.out H4.out.2 (m' := { m with ahead := 0 }) H4.out.1⟩
set_option maxHeartbeats 4000000 in
theorem stepQ_2 (h : EnvR w b sg sc qv bs xb hb hc X A Q) (hi : RemQ w (rBlocks b sg qv bs) xb hb mb m) (hat : m.at_ = 2) (hh : X.has m.bucket = true) (hwv : okL m.word) :
    Calls Tryz.prog 116 #[.pointer (some ⟨mb, 0, none⟩)] w (StepsQ w b sg sc qv bs xb hb hc mb X A Q m) := by
  obtain ⟨av, wd, R, hav, hwd⟩ := hi.hm
  obtain rfl : av = 2 := (hav (by omega)).trans (by rw [hat]; rfl)
  obtain ⟨x0, x1⟩ := sees_xr h
  have c0 : w.cell? ⟨mb, 0, none⟩ = some (.pointer (some ⟨xb, 0, none⟩)) := (cell_of R 0).trans rfl
  rw [decide_eq_false (by omega)] at R
  have c1 : w.cell? ⟨mb, 1, none⟩ = some (.int .i64 m.bucket) := (cell_of R 1).trans rfl
  have c3 : w.cell? ⟨mb, 3, none⟩ = some (.int .i64 2) := (cell_of R 3).trans rfl
  have c7 : w.cell? ⟨mb, 7, none⟩ = some (.bool false) := (cell_of R 7).trans rfl
  have HH : Hid (Calls Tryz.prog 141 #[.pointer (some ⟨xb, 0, none⟩), .int .i64 m.bucket] w fun e w' => e = .returned (.bool true) ∧ w = w') := Lib.hid (by rw [← hh]; exact hasR h.ix m.bucket)
  obtain rfl : wd = m.word := hwd (.inl hat)
  have c2 : w.cell? ⟨mb, 2, none⟩ = some (.int .i64 m.slot) := (cell_of R 2).trans rfl
  have c4 : w.cell? ⟨mb, 4, none⟩ = some (.int .u64 m.word) := (cell_of R 4).trans rfl
  have hwr : IntKind.u64.wrap (m.word + 1) = m.word + 1 := by
    obtain ⟨b1, b2⟩ := hwv
    rw [IntKind.wrap_u64]
    omega
  obtain ⟨A', ok, er, hld⟩ : ∃ A' ok er, casA A m.slot X.cell m.word (m.word + 1) = (A', ok, er) := ⟨_, _, _, rfl⟩
  have hs : stepR X A m = if er = 0 then (if ok then (X, A', { m with at_ := 3, marked := true }, false) else (X, A', { m with at_ := 1 }, false)) else (X, A', m.over er, true) := by
    unfold stepR
    rw [hat]
    simp only [hld]
  have C : Hid (∀ wx, Keep [] w wx → Calls Tryz.prog 153 #[.pointer (some ⟨b, 0, none⟩), .int .i64 m.slot, .int .i64 X.cell, .int .u64 m.word, .int .u64 (m.word + 1)] wx fun e w' => e = .returned (.tuple #[.bool ok, .int .i64 er]) ∧ EnvR w' b sg sc qv bs xb hb hc X A' Q ∧ Keep (rBlocks b sg qv bs) wx w') := Lib.hid fun wx k => by
    have q := Ra.casR (h.ar.keep k (by simp)) m.slot X.cell h.cell m.word (m.word + 1)
    rw [hld] at q
    refine q.mono ?_
    rintro e w' ⟨rfl, ha, k'⟩
    have hw : A'.width = A.width := by have := cas_width A m.slot X.cell m.word (m.word + 1); rw [hld] at this; exact this
    exact ⟨rfl, ⟨ha, (h.ix.keep k (by simp)).keep k' (fun x hx => ⟨fun e => h.offx (e ▸ hx), fun e => h.offh (e ▸ hx)⟩), h.offx, h.offh, by rw [hw]; exact h.cell⟩, k'⟩
  have HI := Lib.hid hi
  obtain ⟨t, ht⟩ : ∃ t, t = stepR X A m := ⟨_, rfl⟩
  have HS := Lib.hid (ht.trans hs)
  unfold StepsQ
  rw [← ht]
  have RR := Lib.hid R
  clear h hi hat hh hwv R hav hwd hld hs ht
  go_enter Tryz.func116, Tryz.ntmps116
  go_wp2_with fail
  refine HH.out.mono ?_
  rintro e w' ⟨rfl, rfl⟩
  go_wp2_with fail
  go_region_held3 (fun w' => w'.cell? ⟨mb, 0, none⟩ = some (.pointer (some ⟨xb, 0, none⟩)) ∧ w'.cell? ⟨mb, 2, none⟩ = some (.int .i64 m.slot) ∧ w'.cell? ⟨mb, 4, none⟩ = some (.int .u64 m.word) ∧ w'.cell? ⟨xb, 0, none⟩ = some (.pointer (some ⟨b, 0, none⟩)) ∧ w'.cell? ⟨xb, 1, none⟩ = some (.int .i64 X.cell)) (go_keep)
    (first
      | (go_at_call 153; refine (C.out w.drew ((Keep.refl [] w).drew)).mono ?_; rintro e w2 ⟨rfl, h2, k2⟩; obtain ⟨y0, y1⟩ := sees_xr h2; have d0 := k2.cell (show w.drew.cell? ⟨mb, 0, none⟩ = _ from c0) HI.out.off.1; have d2 := k2.cell (show w.drew.cell? ⟨mb, 2, none⟩ = _ from c2) HI.out.off.1; have d4 := k2.cell (show w.drew.cell? ⟨mb, 4, none⟩ = _ from c4) HI.out.off.1; have H2 := Lib.hid (And.intro h2 k2); clear h2 k2))
  have R2 : RecQ w2 xb mb m.bucket m.slot 2 m.word m.ahead m.now false m.code m.marked m.helped := H2.out.2.old (show w.drew.heap[mb]? = _ from RR.out) HI.out.off.1
  have KK := Lib.hid (((Keep.refl [] w).drew.mono (by simp)).trans (H2.out.2.mono (fun x hx => by simp [hx])) : Keep (mb :: xb :: hb :: rBlocks b sg qv bs) w w2)
  have e3 : w2.cell? ⟨mb, 3, none⟩ = some (.int .i64 2) := (cell_of R2 3).trans rfl
  have e9 : w2.cell? ⟨mb, 9, none⟩ = some (.bool m.marked) := (cell_of R2 9).trans rfl
  have z3 := free_of R2 3
  have z9 := free_of R2 9
  have RR2 := Lib.hid R2
  clear R2 d0 d2 d4 y0 y1 c0 c1 c2 c3 c4 c7 x0 x1 hwr
  by_cases he : er = 0
  · subst he
    cases ok
    · skip
      have T := Lib.hid (HS.out.trans (by simp : _ = (X, A', { m with at_ := 1 }, false)))
      go_wp2_with fail
      go_ret
      rw [T.out]
      exact ⟨rfl, rq_end HI.out rfl H2.out.1 KK.out (keep_set (Keep.refl [mb] w2) (List.mem_singleton.2 rfl) _ _) (m' := { m with at_ := 1 }) ((set_same RR2.out 3 (.int .i64 1)).trans rfl) (fun _ => rfl) (fun h => by simp at h)⟩
    · skip
      have T := Lib.hid (HS.out.trans (by simp : _ = (X, A', { m with at_ := 3, marked := true }, false)))
      go_wp2_with fail
      go_ret
      rw [T.out]
      exact ⟨rfl, rq_end HI.out rfl H2.out.1 KK.out (keep_set (keep_set (keep_set (Keep.refl [mb] w2) (List.mem_singleton.2 rfl) _ _) (List.mem_singleton.2 rfl) _ _) (List.mem_singleton.2 rfl) _ _) (m' := { m with at_ := 3, marked := true }) ((set_same (set_same (set_same RR2.out 3 (.int .i64 1)) 9 (.bool true)) 3 (.int .i64 3)).trans rfl) (fun _ => rfl) (fun h => by simp at h)⟩
  · have he' : (er != 0) = true := by simpa using he
    have T := Lib.hid (HS.out.trans (by rw [if_neg he] : _ = (X, A', m.over er, true)))
    go_wp2_with fail
    refine (overQ RR2.out er).mono ?_
    rintro e w4 ⟨rfl, r4, k4⟩
    have H4 := Lib.hid (And.intro r4 k4)
    clear r4 k4
    go_wp2_with fail
    go_ret
    rw [T.out]
    exact ⟨rfl, over_end HI.out H2.out.1 KK.out H4.out.2 H4.out.1⟩
theorem step_remQ (h : EnvR w b sg sc qv bs xb hb hc X A Q) (hi : RemQ w (rBlocks b sg qv bs) xb hb mb m) (ho : okR X m) (hA : okA A) (hH : okH X) :
    Calls Tryz.prog 116 #[.pointer (some ⟨mb, 0, none⟩)] w (StepsQ w b sg sc qv bs xb hb hc mb X A Q m) := by
  have h5 : m.at_ = 0 ∨ m.at_ = 1 ∨ m.at_ = 2 ∨ m.at_ = 3 ∨ m.at_ = 4 ∨ m.at_ = 5 := by have := ho.at_le; omega
  rcases h5 with e | e | e | e | e | e
  · exact stepQ_0 h hi e
  · cases hh : X.has m.bucket with
    | false => exact stepQ_no h hi e hh
    | true => exact stepQ_1 h hi e hh (firstQ h hi e hh hA)
  · exact stepQ_2 h hi e (ho.has (by omega)) (ho.even e).1
  · exact stepQ_3 h hi e (ho.has (by omega)) hH
  · exact stepQ_4 h hi e (ho.has (by omega)) (lookQ h hi e hA)
  · have hh := ho.has (by omega)
    have hn := ho.now e
    by_cases hah : m.ahead = 0
    · exact stepQ_5 h hi e hh (swapQ0 h hi e hh (ho.word e) ⟨hn.1, by omega⟩ hah)
    · exact stepQ_5 h hi e hh (swapQ1 h hi e hh (ho.word e) ⟨hn.1, by omega⟩ hah)
theorem new_remQ (h : EnvR w b sg sc qv bs xb hb hc X A Q) (k s : Int) :
    Calls Tryz.prog 113 #[.pointer (some ⟨xb, 0, none⟩), .int .i64 k, .int .i64 s] w fun r w' => r = .returned (.pointer (some ⟨w.heap.size, 0, none⟩)) ∧ RemQ w' (rBlocks b sg qv bs) xb hb w.heap.size (newR k s) ∧ Keep [] w w' := by
  obtain ⟨l1, l2, l3⟩ := h.lt
  have OFF : Hid (w.heap.size ∉ rBlocks b sg qv bs ∧ w.heap.size ≠ xb ∧ w.heap.size ≠ hb) := Lib.hid ⟨fun hm => by have := l1 _ hm; omega, by omega, by omega⟩
  clear h l1 l2 l3
  go_enter Tryz.func113, Tryz.ntmps113
  go_wp2_with fail
  go_ret
  exact ⟨rfl, ⟨⟨1, 0, (alloc_new w _).trans rfl, fun _ => rfl, fun h => by simp [newR] at h⟩, OFF.out⟩, (Keep.refl _ _).alloc _⟩
end
end Go.Proofs.YtgagiggljlikbaaGreat.Rc
