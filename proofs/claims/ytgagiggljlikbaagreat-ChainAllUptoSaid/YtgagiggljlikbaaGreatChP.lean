/- The chain's Remove: its steps. -/
import Derived.Test.YtgagiggljlikbaaGreatChO
namespace Go.Proofs.YtgagiggljlikbaaGreat.Ch
open Go.RowKit Go.Proofs.YtgagiggljlikbaaGreat.Mem Go.Proofs.YtgagiggljlikbaaGreat.Ar Go.Proofs.YtgagiggljlikbaaGreat.En
set_option linter.unusedVariables false
set_option linter.unusedSimpArgs false
set_option maxRecDepth 100000

/-- what a Remove does next; n: how many buckets there are -/
def NextR (mb n : Nat) (m : MR) (nv : Value) : Prop :=
  match m.at_ with
  | 0 => nv = .nilFunc
  | 1 => nv = fnR 64 mb ∨ (nv = fnR 101 mb ∧ 0 ≤ m.bucket ∧ m.bucket < n)
  | 2 => nv = fnR 137 mb
  | 3 => nv = fnR 136 mb
  | 4 => nv = fnR 174 mb
  | _ => nv = fnR 176 mb
structure RemP (w : World) (L : Bk) (xb hb mb n : Nat) (m : MR) : Prop where
  hm : ∃ nv, RemM w xb mb m.bucket m.slot nv m.word m.ahead m.now m.code m.marked m.helped ∧ NextR mb n m nv
  off : mb ∉ L.blocks ∧ mb ≠ xb ∧ mb ≠ hb
section
variable {w w' w2 : World} {L : Bk} {A A' : Ars} {xb hb mb n : Nat} {X X' : CI} {m m' : MR} {wv er : Int} {nv : Value}
theorem RemP.keep (h : RemP w L xb hb mb n m) {S : List Nat} (k : Keep S w w') (hS : mb ∉ S) : RemP w' L xb hb mb n m := by
  obtain ⟨nv, h1, h2⟩ := h.hm
  exact ⟨⟨nv, k.old h1 hS, h2⟩, h.off⟩
def StepsM (w : World) (L : Bk) (xb hb mb n : Nat) (X : CI) (A : Ars) (m : MR) (r : Ending) (w' : World) : Prop :=
  r = .returned (.bool (stepR X A m).2.2.2) ∧ Env w' L xb hb (stepR X A m).1 (stepR X A m).2.1 ∧ RemP w' L xb hb mb n (stepR X A m).2.2.1 ∧ Keep (mb :: xb :: hb :: L.blocks) w w'
theorem rm_end (hi : RemP w L xb hb mb n m) (h2 : Env w2 L xb hb X' A') (k2 : Keep (mb :: xb :: hb :: L.blocks) w w2) (k : Keep [mb] w2 w') (hr : RemM w' xb mb m'.bucket m'.slot nv m'.word m'.ahead m'.now m'.code m'.marked m'.helped) (hn : NextR mb n m' nv) :
    Env w' L xb hb X' A' ∧ RemP w' L xb hb mb n m' ∧ Keep (mb :: xb :: hb :: L.blocks) w w' :=
  ⟨h2.keep k (fun x hx => by rw [List.mem_singleton.1 hx]; exact hi.off), ⟨⟨nv, hr, hn⟩, hi.off⟩, k2.trans (k.mono (by simp))⟩
/-- behind `at` -/
theorem at_end (hi : RemP w L xb hb mb n m) (h2 : Env w2 L xb hb X' A') (k2 : Keep (mb :: xb :: hb :: L.blocks) w w2) (k : Keep [mb] w2 w') {s : Int} (hat : m'.at_ ≠ 0) (hr : RemM w' xb mb m'.bucket m'.slot (atNv mb s) m'.word m'.ahead s (if beyond s then 0 else m'.code) m'.marked m'.helped) :
    Env w' L xb hb X' A' ∧ RemP w' L xb hb mb n (m'.come s).1 ∧ Keep (mb :: xb :: hb :: L.blocks) w w' := by
  refine rm_end hi h2 k2 k (nv := atNv mb s) ?_ ?_
  · unfold MR.come
    cases hb' : beyond s with
    | true => rw [hb'] at hr; exact hr
    | false => rw [hb'] at hr; exact hr
  · unfold MR.come atNv
    cases hb' : beyond s with
    | true => rfl
    | false => rfl
theorem come_done (m : MR) (s : Int) : (m.come s).2 = beyond s := by
  unfold MR.come
  cases hb' : beyond s <;> rfl
theorem mem_off (hi : RemP w L xb hb mb n m) : mb ∉ mb :: [] → False := fun h => h (by simp)

set_option maxHeartbeats 4000000 in
theorem ownM (h : Env w L xb hb X A) (hi : RemP w L xb hb mb n m) (hat : m.at_ = 1) (hh : X.has m.bucket = true) (hA : okA A) :
    Calls Tryz.prog 101 #[.pointer (some ⟨mb, 0, none⟩)] w (StepsM w L xb hb mb n X A m) := by
  obtain ⟨nv, R, hn⟩ := hi.hm
  obtain ⟨x0, x1⟩ := sees_x h
  have c0 : w.cell? ⟨mb, 0, none⟩ = some (.pointer (some ⟨xb, 0, none⟩)) := (cell_of R 0).trans rfl
  have c2 : w.cell? ⟨mb, 2, none⟩ = some (.int .i64 m.slot) := (cell_of R 2).trans rfl
  obtain ⟨A', wv, er, hld⟩ : ∃ A' wv er, ldA A m.slot X.cell = (A', wv, er) := ⟨_, _, _, rfl⟩
  have hok : okL wv := by have := hA.ld m.slot X.cell; rw [hld] at this; exact this
  have hs : stepR X A m = if er = 0 then (if wv = 0 then (X, A', m.over 42, true) else if mkL wv then (X, A', { m with at_ := 3 }, false) else (X, A', { m with at_ := 2, word := wv }, false)) else (X, A', m.over er, true) := by
    unfold stepR
    rw [hat]
    simp only [hh, if_true, hld]
  have C : Hid (∀ wx, Keep [] w wx → Calls Tryz.prog 44 #[.pointer (some ⟨L.b, 0, none⟩), .int .i64 m.slot, .int .i64 X.cell] wx fun e w' => e = .returned (.tuple #[.int .u64 wv, .int .i64 er]) ∧ Env w' L xb hb X A' ∧ Keep L.blocks wx w') := Lib.hid fun wx k => by
    have q := ldP (h.ar.keep k (by simp)) m.slot X.cell h.cell
    rw [hld] at q
    refine q.mono ?_
    rintro e w' ⟨rfl, ha, k'⟩
    have hw : A'.width = A.width := by have := ld_width A m.slot X.cell; rw [hld] at this; exact this
    exact ⟨rfl, ⟨ha, (h.ix.keep k (by simp)).keep k' (fun x hx => ⟨fun e => h.offx (e ▸ hx), fun e => h.offh (e ▸ hx)⟩), h.offx, h.offh, by rw [hw]; exact h.cell⟩, k'⟩
  have HI := Lib.hid hi
  have RR := Lib.hid R
  have HO := Lib.hid hok
  obtain ⟨t, ht⟩ : ∃ t, t = stepR X A m := ⟨_, rfl⟩
  have HS := Lib.hid (ht.trans hs)
  unfold StepsM
  rw [← ht]
  clear h hi hat hh hA R hn hld hok hs ht
  have hmf : ∀ (fn : Fn) (first cap : Array Value) (w : World), (Instr.makeFunc fn first cap).run Tryz.prog w = .ok (.func fn first cap) w := fun _ _ _ _ => rfl
  go_enter Tryz.func101, Tryz.ntmps101
  go_wp2_with fail
  go_region_held3 (fun w' => w'.cell? ⟨mb, 0, none⟩ = some (.pointer (some ⟨xb, 0, none⟩)) ∧ w'.cell? ⟨mb, 2, none⟩ = some (.int .i64 m.slot) ∧ w'.cell? ⟨xb, 0, none⟩ = some (.pointer (some ⟨L.b, 0, none⟩)) ∧ w'.cell? ⟨xb, 1, none⟩ = some (.int .i64 X.cell)) (go_keep)
    (first
      | (go_at_call 44; refine (C.out w.drew ((Keep.refl [] w).drew)).mono ?_; rintro e w2 ⟨rfl, h2, k2⟩; obtain ⟨y0, y1⟩ := sees_x h2; have d0 := k2.cell (show w.drew.cell? ⟨mb, 0, none⟩ = _ from c0) HI.out.off.1; have d2 := k2.cell (show w.drew.cell? ⟨mb, 2, none⟩ = _ from c2) HI.out.off.1; have H2 := Lib.hid (And.intro h2 k2); clear h2 k2))
  have R2 : RemM w2 xb mb m.bucket m.slot nv m.word m.ahead m.now m.code m.marked m.helped := H2.out.2.old (show w.drew.heap[mb]? = _ from RR.out) HI.out.off.1
  have KK : Hid (Keep (mb :: xb :: hb :: L.blocks) w w2) := Lib.hid (((Keep.refl [] w).drew.mono (by simp)).trans (kk_of H2.out.2))
  have e4 : w2.cell? ⟨mb, 4, none⟩ = some (.int .u64 m.word) := (cell_of R2 4).trans rfl
  have z4 := free_of R2 4
  have RR2 := Lib.hid R2
  clear R2 d0 d2 y0 y1 c0 c2 x0 x1
  by_cases he : er = 0
  · subst he
    by_cases hw : wv = 0
    · subst hw
      have T := Lib.hid (HS.out.trans (by rw [if_pos rfl, if_pos rfl] : _ = (X, A', m.over 42, true)))
      go_wp2_with fail
      refine (doneM RR2.out 42).mono ?_
      rintro e w4 ⟨rfl, r4, k4⟩
      have H4 := Lib.hid (And.intro r4 k4)
      clear r4 k4
      go_wp2_with fail
      go_ret
      rw [T.out]
      exact ⟨rfl, rm_end HI.out H2.out.1 KK.out H4.out.2 (m' := m.over 42) H4.out.1 rfl⟩
    · have hw' : (wv == 0) = false := by simpa using hw
      obtain ⟨mk, hmk⟩ : ∃ mk, mk = mkL wv := ⟨_, rfl⟩
      have CA : Hid (∀ wx, Calls Tryz.prog 45 #[.int .u64 wv] wx fun e w' => e = .returned (.tuple #[.int .i64 (numL wv), .bool mk]) ∧ wx = w') := Lib.hid fun wx => by rw [hmk]; exact apart_ wv wx HO.out
      have HM := Lib.hid hmk
      clear hmk
      go_wp2_with fail
      refine (CA.out _).mono ?_
      rintro e wx ⟨rfl, rfl⟩
      cases mk
      · skip
        have T := Lib.hid (HS.out.trans (by simp [hw, HM.out.symm] : _ = (X, A', { m with at_ := 2, word := wv }, false)))
        go_wp2_with fail
        refine (thenM (wd := wv) ((set_same RR2.out 4 (.int .u64 wv)).trans rfl) 137).mono ?_
        rintro e w4 ⟨rfl, r4, k4⟩
        have H4 := Lib.hid (And.intro r4 k4)
        clear r4 k4
        go_wp2_with fail
        go_ret
        rw [T.out]
        exact ⟨rfl, rm_end HI.out H2.out.1 KK.out ((keep_set (Keep.refl [mb] w2) (List.mem_singleton.2 rfl) _ _).trans H4.out.2) (m' := { m with at_ := 2, word := wv }) H4.out.1 rfl⟩
      · skip
        have T := Lib.hid (HS.out.trans (by simp [hw, HM.out.symm] : _ = (X, A', { m with at_ := 3 }, false)))
        go_wp2_with fail
        refine (thenM RR2.out 136).mono ?_
        rintro e w4 ⟨rfl, r4, k4⟩
        have H4 := Lib.hid (And.intro r4 k4)
        clear r4 k4
        go_wp2_with fail
        go_ret
        rw [T.out]
        exact ⟨rfl, rm_end HI.out H2.out.1 KK.out H4.out.2 (m' := { m with at_ := 3 }) H4.out.1 rfl⟩
  · have he' : (er == 0) = false := by simpa using he
    have T := Lib.hid (HS.out.trans (by rw [if_neg he] : _ = (X, A', m.over er, true)))
    go_wp2_with fail
    refine (doneM RR2.out er).mono ?_
    rintro e w4 ⟨rfl, r4, k4⟩
    have H4 := Lib.hid (And.intro r4 k4)
    clear r4 k4
    go_wp2_with fail
    go_ret
    rw [T.out]
    exact ⟨rfl, rm_end HI.out H2.out.1 KK.out H4.out.2 (m' := m.over er) H4.out.1 rfl⟩
set_option maxHeartbeats 4000000 in
theorem beginM (h : Env w L xb hb X A) (hi : RemP w L xb hb mb n m) (hat : m.at_ = 1) (hA : okA A) :
    Calls Tryz.prog 64 #[.pointer (some ⟨mb, 0, none⟩)] w (StepsM w L xb hb mb n X A m) := by
  obtain ⟨nv, R, hn⟩ := hi.hm
  have c0 : w.cell? ⟨mb, 0, none⟩ = some (.pointer (some ⟨xb, 0, none⟩)) := (cell_of R 0).trans rfl
  have c1 : w.cell? ⟨mb, 1, none⟩ = some (.int .i64 m.bucket) := (cell_of R 1).trans rfl
  have HH : Hid (∀ wx, Keep [] w wx → Calls Tryz.prog 40 #[.pointer (some ⟨xb, 0, none⟩), .int .i64 m.bucket] wx fun e w' => e = .returned (.bool (X.has m.bucket)) ∧ w' = wx) := Lib.hid fun wx k => (has (h.ix.keep k (by simp)) m.bucket).mono fun e w' ⟨he, hw⟩ => ⟨he, hw.symm⟩
  obtain ⟨hv, hhv⟩ : ∃ v, v = X.has m.bucket := ⟨_, rfl⟩
  rw [← hhv] at HH
  have hs : hv = false → stepR X A m = (X, A, m.over 40, true) := by
    intro e
    unfold stepR
    rw [hat, ← hhv, e]
    rfl
  have HI := Lib.hid hi
  have HE := Lib.hid h
  have RR := Lib.hid R
  have HQ := Lib.hid (And.intro hat (And.intro hA (And.intro hhv hs)))
  obtain ⟨t, ht⟩ : ∃ t, t = stepR X A m := ⟨_, rfl⟩
  have HS := Lib.hid ht
  unfold StepsM
  rw [← ht]
  clear h hi hat hA R hn hhv hs ht
  go_enter Tryz.func64, Tryz.ntmps64
  go_wp2_with fail
  go_quiet ((go_at_call 40; exact Calls.quiet_of_same (HH.out _ ((Keep.refl _ _).drewN _))))
  obtain ⟨wy, hwy⟩ : ∃ wy, wy = w.drewN nq := ⟨_, rfl⟩
  have ky : Keep [] w wy := by rw [hwy]; exact (Keep.refl _ _).drewN _
  rw [← hwy]
  clear hwy
  have HY := Lib.hid (And.intro (HE.out.keep ky (by simp)) (And.intro (HI.out.keep ky (by simp)) ky))
  have R2 := Lib.hid (show RemM wy xb mb m.bucket m.slot nv m.word m.ahead m.now m.code m.marked m.helped from ky.old RR.out (by simp))
  clear ky c0 c1
  cases hv
  · have T := Lib.hid (HS.out.trans (HQ.out.2.2.2 rfl))
    go_wp2_with fail
    refine (doneM R2.out 40).mono ?_
    rintro e w4 ⟨rfl, r4, k4⟩
    have H4 := Lib.hid (And.intro r4 k4)
    clear r4 k4
    go_wp2_with fail
    go_ret
    rw [T.out]
    exact ⟨rfl, rm_end HI.out HY.out.1 (HY.out.2.2.mono (by simp)) H4.out.2 (m' := m.over 40) H4.out.1 rfl⟩
  · go_wp2_with fail
    refine (ownM HY.out.1 HY.out.2.1 HQ.out.1 HQ.out.2.2.1.symm HQ.out.2.1).mono ?_
    rintro e w4 ⟨rfl, r1, r2, r3⟩
    have H4 := Lib.hid (And.intro r1 (And.intro r2 r3))
    obtain ⟨rr, hrr⟩ : ∃ rr, rr = (stepR X A m).2.2.2 := ⟨_, rfl⟩
    rw [← hrr]
    have HR := Lib.hid hrr
    clear r1 r2 r3 hrr
    go_wp2_with fail
    go_ret
    rw [HS.out]
    exact ⟨by rw [← HR.out]; rfl, H4.out.1, H4.out.2.1, (HY.out.2.2.mono (by simp)).trans H4.out.2.2⟩
set_option maxHeartbeats 4000000 in
theorem markM (h : Env w L xb hb X A) (hi : RemP w L xb hb mb n m) (hat : m.at_ = 2) (hrg : 0 ≤ m.bucket ∧ m.bucket < n) (hwd : okL m.word ∧ m.word % 2 = 0) :
    Calls Tryz.prog 137 #[.pointer (some ⟨mb, 0, none⟩)] w (StepsM w L xb hb mb n X A m) := by
  obtain ⟨nv, R, hn⟩ := hi.hm
  obtain ⟨x0, x1⟩ := sees_x h
  have c0 : w.cell? ⟨mb, 0, none⟩ = some (.pointer (some ⟨xb, 0, none⟩)) := (cell_of R 0).trans rfl
  have c2 : w.cell? ⟨mb, 2, none⟩ = some (.int .i64 m.slot) := (cell_of R 2).trans rfl
  have c4 : w.cell? ⟨mb, 4, none⟩ = some (.int .u64 m.word) := (cell_of R 4).trans rfl
  have hor := or_one m.word hwd.1 hwd.2
  obtain ⟨A', ok, er, hld⟩ : ∃ A' ok er, casA A m.slot X.cell m.word (m.word + 1) = (A', ok, er) := ⟨_, _, _, rfl⟩
  have hs : stepR X A m = if er = 0 then (if ok then (X, A', { m with at_ := 3, marked := true }, false) else (X, A', { m with at_ := 1 }, false)) else (X, A', m.over er, true) := by
    unfold stepR
    rw [hat]
    simp only [hld]
  have C : Hid (∀ wx, Keep [] w wx → Calls Tryz.prog 168 #[.pointer (some ⟨L.b, 0, none⟩), .int .i64 m.slot, .int .i64 X.cell, .int .u64 m.word, .int .u64 (m.word + 1)] wx fun e w' => e = .returned (.tuple #[.bool ok, .int .i64 er]) ∧ Env w' L xb hb X A' ∧ Keep L.blocks wx w') := Lib.hid fun wx k => by
    have q := casP (h.ar.keep k (by simp)) m.slot X.cell h.cell m.word (m.word + 1)
    rw [hld] at q
    refine q.mono ?_
    rintro e w' ⟨rfl, ha, k'⟩
    have hw : A'.width = A.width := by have := cas_width A m.slot X.cell m.word (m.word + 1); rw [hld] at this; exact this
    exact ⟨rfl, ⟨ha, (h.ix.keep k (by simp)).keep k' (fun x hx => ⟨fun e => h.offx (e ▸ hx), fun e => h.offh (e ▸ hx)⟩), h.offx, h.offh, by rw [hw]; exact h.cell⟩, k'⟩
  have HI := Lib.hid hi
  have RR := Lib.hid R
  have HRG := Lib.hid hrg
  obtain ⟨t, ht⟩ : ∃ t, t = stepR X A m := ⟨_, rfl⟩
  have HS := Lib.hid (ht.trans hs)
  unfold StepsM
  rw [← ht]
  clear h hi hat hrg hwd R hn hld hs ht
  have hmf : ∀ (fn : Fn) (first cap : Array Value) (w : World), (Instr.makeFunc fn first cap).run Tryz.prog w = .ok (.func fn first cap) w := fun _ _ _ _ => rfl
  go_enter Tryz.func137, Tryz.ntmps137
  go_wp2_with fail
  go_region_held3 (fun w' => w'.cell? ⟨mb, 0, none⟩ = some (.pointer (some ⟨xb, 0, none⟩)) ∧ w'.cell? ⟨mb, 2, none⟩ = some (.int .i64 m.slot) ∧ w'.cell? ⟨mb, 4, none⟩ = some (.int .u64 m.word) ∧ w'.cell? ⟨xb, 0, none⟩ = some (.pointer (some ⟨L.b, 0, none⟩)) ∧ w'.cell? ⟨xb, 1, none⟩ = some (.int .i64 X.cell)) (go_keep)
    (first
      | (go_at_call 168; refine (C.out w.drew ((Keep.refl [] w).drew)).mono ?_; rintro e w2 ⟨rfl, h2, k2⟩; obtain ⟨y0, y1⟩ := sees_x h2; have d0 := k2.cell (show w.drew.cell? ⟨mb, 0, none⟩ = _ from c0) HI.out.off.1; have d2 := k2.cell (show w.drew.cell? ⟨mb, 2, none⟩ = _ from c2) HI.out.off.1; have d4 := k2.cell (show w.drew.cell? ⟨mb, 4, none⟩ = _ from c4) HI.out.off.1; have H2 := Lib.hid (And.intro h2 k2); clear h2 k2))
  have R2 : RemM w2 xb mb m.bucket m.slot nv m.word m.ahead m.now m.code m.marked m.helped := H2.out.2.old (show w.drew.heap[mb]? = _ from RR.out) HI.out.off.1
  have KK : Hid (Keep (mb :: xb :: hb :: L.blocks) w w2) := Lib.hid (((Keep.refl [] w).drew.mono (by simp)).trans (kk_of H2.out.2))
  have e8 : w2.cell? ⟨mb, 8, none⟩ = some (.bool m.marked) := (cell_of R2 8).trans rfl
  have z8 := free_of R2 8
  have RR2 := Lib.hid R2
  clear R2 d0 d2 d4 y0 y1 c0 c2 c4 x0 x1 hor
  by_cases he : er = 0
  · subst he
    cases ok
    · skip
      have T := Lib.hid (HS.out.trans (by simp : _ = (X, A', { m with at_ := 1 }, false)))
      go_wp2_with fail
      refine (thenM RR2.out 101).mono ?_
      rintro e w4 ⟨rfl, r4, k4⟩
      have H4 := Lib.hid (And.intro r4 k4)
      clear r4 k4
      go_wp2_with fail
      go_ret
      rw [T.out]
      exact ⟨rfl, rm_end HI.out H2.out.1 KK.out H4.out.2 (m' := { m with at_ := 1 }) H4.out.1 (.inr ⟨rfl, HRG.out⟩)⟩
    · skip
      have T := Lib.hid (HS.out.trans (by simp : _ = (X, A', { m with at_ := 3, marked := true }, false)))
      go_wp2_with fail
      refine (thenM (mk := true) ((set_same RR2.out 8 (.bool true)).trans rfl) 136).mono ?_
      rintro e w4 ⟨rfl, r4, k4⟩
      have H4 := Lib.hid (And.intro r4 k4)
      clear r4 k4
      go_wp2_with fail
      go_ret
      rw [T.out]
      exact ⟨rfl, rm_end HI.out H2.out.1 KK.out ((keep_set (Keep.refl [mb] w2) (List.mem_singleton.2 rfl) _ _).trans H4.out.2) (m' := { m with at_ := 3, marked := true }) H4.out.1 rfl⟩
  · have he' : (er != 0) = true := by simpa using he
    have T := Lib.hid (HS.out.trans (by rw [if_neg he] : _ = (X, A', m.over er, true)))
    go_wp2_with fail
    refine (doneM RR2.out er).mono ?_
    rintro e w4 ⟨rfl, r4, k4⟩
    have H4 := Lib.hid (And.intro r4 k4)
    clear r4 k4
    go_wp2_with fail
    go_ret
    rw [T.out]
    exact ⟨rfl, rm_end HI.out H2.out.1 KK.out H4.out.2 (m' := m.over er) H4.out.1 rfl⟩
set_option maxHeartbeats 4000000 in
theorem searchM (h : Env w L xb hb X A) (hi : RemP w L xb hb mb n m) (hat : m.at_ = 3) (hh : X.has m.bucket = true) (hH : okH X) :
    Calls Tryz.prog 136 #[.pointer (some ⟨mb, 0, none⟩)] w (StepsM w L xb hb mb n X A m) := by
  obtain ⟨nv, R, hn⟩ := hi.hm
  have c0 : w.cell? ⟨mb, 0, none⟩ = some (.pointer (some ⟨xb, 0, none⟩)) := (cell_of R 0).trans rfl
  have c1 : w.cell? ⟨mb, 1, none⟩ = some (.int .i64 m.bucket) := (cell_of R 1).trans rfl
  obtain ⟨v, hv⟩ : ∃ v, v = X.head m.bucket := ⟨_, rfl⟩
  have hok : okL v := by rw [hv]; exact hH.head _
  have hs : stepR X A m = (X.tick, A, (({ m with ahead := 0 } : MR).come (numL v)).1, (({ m with ahead := 0 } : MR).come (numL v)).2) := by
    unfold stepR
    rw [hat, hv]
    rfl
  have C : Hid (∀ wx, Keep [] w wx → Calls Tryz.prog 75 #[.pointer (some ⟨xb, 0, none⟩), .int .i64 m.bucket] wx fun e w' => e = .returned (.int .u64 v) ∧ Env w' L xb hb X.tick A ∧ Keep [xb] wx w') := Lib.hid fun wx k => by
    rw [hv]
    refine (first (h.ix.keep k (by simp)) m.bucket hh).mono ?_
    rintro e w' ⟨rfl, hx, k'⟩
    exact ⟨rfl, ⟨(h.ar.keep k (by simp)).keep k' (fun x hx => by rw [List.mem_singleton.1 hx]; exact h.offx), hx, h.offx, h.offh, h.cell⟩, k'⟩
  have CA : Hid (∀ wx, Calls Tryz.prog 45 #[.int .u64 v] wx fun e w' => e = .returned (.tuple #[.int .i64 (numL v), .bool (mkL v)]) ∧ wx = w') := Lib.hid fun wx => apart_ v wx hok
  have HI := Lib.hid hi
  have RR := Lib.hid R
  have HAT : Hid (m.at_ ≠ 0) := Lib.hid (by omega)
  obtain ⟨t, ht⟩ : ∃ t, t = stepR X A m := ⟨_, rfl⟩
  have HS := Lib.hid (ht.trans hs)
  unfold StepsM
  rw [← ht]
  clear h hi hat hh hH R hn hs ht hok hv
  go_enter Tryz.func136, Tryz.ntmps136
  go_wp2_with fail
  go_region_held3 (fun w' => w'.cell? ⟨mb, 0, none⟩ = some (.pointer (some ⟨xb, 0, none⟩)) ∧ w'.cell? ⟨mb, 1, none⟩ = some (.int .i64 m.bucket)) (go_keep)
    (first
      | (go_at_call 75; refine (C.out w.drew ((Keep.refl [] w).drew)).mono ?_; rintro e w2 ⟨rfl, h2, k2⟩; have d0 := k2.cell (show w.drew.cell? ⟨mb, 0, none⟩ = _ from c0) (by simpa using HI.out.off.2.1); have d1 := k2.cell (show w.drew.cell? ⟨mb, 1, none⟩ = _ from c1) (by simpa using HI.out.off.2.1); have H2 := Lib.hid (And.intro h2 k2); clear h2 k2)
      | (go_at_call 45; refine (CA.out _).mono ?_; rintro e wx ⟨rfl, rfl⟩))
  have R2 : RemM w2 xb mb m.bucket m.slot nv m.word m.ahead m.now m.code m.marked m.helped := H2.out.2.old (show w.drew.heap[mb]? = _ from RR.out) (by simpa using HI.out.off.2.1)
  have KK : Hid (Keep (mb :: xb :: hb :: L.blocks) w w2) := Lib.hid (((Keep.refl [] w).drew.mono (by simp)).trans (H2.out.2.mono (by simp)))
  have e5 : w2.cell? ⟨mb, 5, none⟩ = some (.int .i64 m.ahead) := (cell_of R2 5).trans rfl
  have z5 := free_of R2 5
  have RR2 := Lib.hid R2
  clear R2 d0 d1 c0 c1
  have T := Lib.hid (HS.out.trans (by rfl : _ = (X.tick, A, (({ m with ahead := 0 } : MR).come (numL v)).1, (({ m with ahead := 0 } : MR).come (numL v)).2)))
  go_wp2_with fail
  refine (atM (ah := 0) ((set_same RR2.out 5 (.int .i64 0)).trans rfl) (numL v)).mono ?_
  rintro e w4 ⟨rfl, r4, k4⟩
  have H4 := Lib.hid (And.intro r4 k4)
  obtain ⟨bb, hbb⟩ : ∃ bb, bb = beyond (numL v) := ⟨_, rfl⟩
  rw [← hbb]
  have HB := Lib.hid hbb
  clear r4 k4 hbb
  go_wp2_with fail
  go_ret
  rw [T.out]
  exact ⟨by rw [come_done, ← HB.out]; rfl, at_end HI.out H2.out.1 KK.out ((keep_set (Keep.refl [mb] w2) (List.mem_singleton.2 rfl) _ _).trans H4.out.2) (m' := { m with ahead := 0 }) HAT.out H4.out.1⟩
set_option maxHeartbeats 4000000 in
theorem lookM (h : Env w L xb hb X A) (hi : RemP w L xb hb mb n m) (hat : m.at_ = 4) (hA : okA A) :
    Calls Tryz.prog 174 #[.pointer (some ⟨mb, 0, none⟩)] w (StepsM w L xb hb mb n X A m) := by
  obtain ⟨nv, R, hn⟩ := hi.hm
  obtain ⟨x0, x1⟩ := sees_x h
  have c0 : w.cell? ⟨mb, 0, none⟩ = some (.pointer (some ⟨xb, 0, none⟩)) := (cell_of R 0).trans rfl
  have c6 : w.cell? ⟨mb, 6, none⟩ = some (.int .i64 m.now) := (cell_of R 6).trans rfl
  obtain ⟨A', wv, er, hld⟩ : ∃ A' wv er, ldA A m.now X.cell = (A', wv, er) := ⟨_, _, _, rfl⟩
  have hok : okL wv := by have := hA.ld m.now X.cell; rw [hld] at this; exact this
  have hs : stepR X A m = if er = 0 then (if numL wv = 0 then (X, A', m.over 42, true) else if mkL wv then (X, A', { m with at_ := 5, word := wv }, false) else (X, A', (({ m with ahead := m.now } : MR).come (numL wv)).1, (({ m with ahead := m.now } : MR).come (numL wv)).2)) else (X, A', m.over er, true) := by
    unfold stepR
    rw [hat]
    simp only [hld]
  have C : Hid (∀ wx, Keep [] w wx → Calls Tryz.prog 44 #[.pointer (some ⟨L.b, 0, none⟩), .int .i64 m.now, .int .i64 X.cell] wx fun e w' => e = .returned (.tuple #[.int .u64 wv, .int .i64 er]) ∧ Env w' L xb hb X A' ∧ Keep L.blocks wx w') := Lib.hid fun wx k => by
    have q := ldP (h.ar.keep k (by simp)) m.now X.cell h.cell
    rw [hld] at q
    refine q.mono ?_
    rintro e w' ⟨rfl, ha, k'⟩
    have hw : A'.width = A.width := by have := ld_width A m.now X.cell; rw [hld] at this; exact this
    exact ⟨rfl, ⟨ha, (h.ix.keep k (by simp)).keep k' (fun x hx => ⟨fun e => h.offx (e ▸ hx), fun e => h.offh (e ▸ hx)⟩), h.offx, h.offh, by rw [hw]; exact h.cell⟩, k'⟩
  obtain ⟨mk, hmk⟩ : ∃ mk, mk = mkL wv := ⟨_, rfl⟩
  obtain ⟨nn, hnn⟩ : ∃ nn, nn = numL wv := ⟨_, rfl⟩
  have CA : Hid (∀ wx, Calls Tryz.prog 45 #[.int .u64 wv] wx fun e w' => e = .returned (.tuple #[.int .i64 nn, .bool mk]) ∧ wx = w') := Lib.hid fun wx => by rw [hmk, hnn]; exact apart_ wv wx hok
  rw [← hmk, ← hnn] at hs
  have HI := Lib.hid hi
  have RR := Lib.hid R
  have HAT : Hid (m.at_ ≠ 0) := Lib.hid (by omega)
  obtain ⟨t, ht⟩ : ∃ t, t = stepR X A m := ⟨_, rfl⟩
  have HS := Lib.hid (ht.trans hs)
  unfold StepsM
  rw [← ht]
  clear h hi hat hA R hn hld hok hs ht hmk hnn
  have hmf : ∀ (fn : Fn) (first cap : Array Value) (w : World), (Instr.makeFunc fn first cap).run Tryz.prog w = .ok (.func fn first cap) w := fun _ _ _ _ => rfl
  go_enter Tryz.func174, Tryz.ntmps174
  go_wp2_with fail
  go_region_held3 (fun w' => w'.cell? ⟨mb, 0, none⟩ = some (.pointer (some ⟨xb, 0, none⟩)) ∧ w'.cell? ⟨mb, 6, none⟩ = some (.int .i64 m.now) ∧ w'.cell? ⟨xb, 0, none⟩ = some (.pointer (some ⟨L.b, 0, none⟩)) ∧ w'.cell? ⟨xb, 1, none⟩ = some (.int .i64 X.cell)) (go_keep)
    (first
      | (go_at_call 44; refine (C.out w.drew ((Keep.refl [] w).drew)).mono ?_; rintro e w2 ⟨rfl, h2, k2⟩; obtain ⟨y0, y1⟩ := sees_x h2; have d0 := k2.cell (show w.drew.cell? ⟨mb, 0, none⟩ = _ from c0) HI.out.off.1; have d6 := k2.cell (show w.drew.cell? ⟨mb, 6, none⟩ = _ from c6) HI.out.off.1; have H2 := Lib.hid (And.intro h2 k2); clear h2 k2))
  have R2 : RemM w2 xb mb m.bucket m.slot nv m.word m.ahead m.now m.code m.marked m.helped := H2.out.2.old (show w.drew.heap[mb]? = _ from RR.out) HI.out.off.1
  have KK : Hid (Keep (mb :: xb :: hb :: L.blocks) w w2) := Lib.hid (((Keep.refl [] w).drew.mono (by simp)).trans (kk_of H2.out.2))
  have e4 : w2.cell? ⟨mb, 4, none⟩ = some (.int .u64 m.word) := (cell_of R2 4).trans rfl
  have z4 := free_of R2 4
  have e5 : w2.cell? ⟨mb, 5, none⟩ = some (.int .i64 m.ahead) := (cell_of R2 5).trans rfl
  have z5 := free_of R2 5
  have e6 : w2.cell? ⟨mb, 6, none⟩ = some (.int .i64 m.now) := (cell_of R2 6).trans rfl
  have RR2 := Lib.hid R2
  clear R2 d0 d6 y0 y1 c0 c6 x0 x1
  go_wp2_with fail
  refine (CA.out _).mono ?_
  rintro e wx ⟨rfl, rfl⟩
  by_cases he : er = 0
  · subst he
    by_cases hw : nn = 0
    · subst hw
      have T := Lib.hid (HS.out.trans (by simp : _ = (X, A', m.over 42, true)))
      go_wp2_with fail
      refine (doneM RR2.out 42).mono ?_
      rintro e w4 ⟨rfl, r4, k4⟩
      have H4 := Lib.hid (And.intro r4 k4)
      clear r4 k4
      go_wp2_with fail
      go_ret
      rw [T.out]
      exact ⟨rfl, rm_end HI.out H2.out.1 KK.out H4.out.2 (m' := m.over 42) H4.out.1 rfl⟩
    · have hw' : (nn == 0) = false := by simpa using hw
      cases mk
      · skip
        have T := Lib.hid (HS.out.trans (by simp [hw] : _ = (X, A', (({ m with ahead := m.now } : MR).come nn).1, (({ m with ahead := m.now } : MR).come nn).2)))
        go_wp2_with fail
        refine (atM (ah := m.now) ((set_same RR2.out 5 (.int .i64 m.now)).trans rfl) nn).mono ?_
        rintro e w4 ⟨rfl, r4, k4⟩
        have H4 := Lib.hid (And.intro r4 k4)
        obtain ⟨bb, hbb⟩ : ∃ bb, bb = beyond nn := ⟨_, rfl⟩
        rw [← hbb]
        have HB := Lib.hid hbb
        clear r4 k4 hbb
        go_wp2_with fail
        go_ret
        rw [T.out]
        exact ⟨by rw [come_done, ← HB.out]; rfl, at_end HI.out H2.out.1 KK.out ((keep_set (Keep.refl [mb] w2) (List.mem_singleton.2 rfl) _ _).trans H4.out.2) (m' := { m with ahead := m.now }) HAT.out H4.out.1⟩
      · skip
        have T := Lib.hid (HS.out.trans (by simp [hw] : _ = (X, A', { m with at_ := 5, word := wv }, false)))
        go_wp2_with fail
        refine (thenM (wd := wv) ((set_same RR2.out 4 (.int .u64 wv)).trans rfl) 176).mono ?_
        rintro e w4 ⟨rfl, r4, k4⟩
        have H4 := Lib.hid (And.intro r4 k4)
        clear r4 k4
        go_wp2_with fail
        go_ret
        rw [T.out]
        exact ⟨rfl, rm_end HI.out H2.out.1 KK.out ((keep_set (Keep.refl [mb] w2) (List.mem_singleton.2 rfl) _ _).trans H4.out.2) (m' := { m with at_ := 5, word := wv }) H4.out.1 rfl⟩
  · have he' : (er != 0) = true := by simpa using he
    have T := Lib.hid (HS.out.trans (by rw [if_neg he] : _ = (X, A', m.over er, true)))
    go_wp2_with fail
    refine (doneM RR2.out er).mono ?_
    rintro e w4 ⟨rfl, r4, k4⟩
    have H4 := Lib.hid (And.intro r4 k4)
    clear r4 k4
    go_wp2_with fail
    go_ret
    rw [T.out]
    exact ⟨rfl, rm_end HI.out H2.out.1 KK.out H4.out.2 (m' := m.over er) H4.out.1 rfl⟩
theorem swP (h : Env w L xb hb X A) (b f : Int) (hh : X.has b = true) (x y : Int) :
    Calls Tryz.prog 173 #[.pointer (some ⟨xb, 0, none⟩), .int .i64 b, .int .i64 f, .int .u64 x, .int .u64 y] w fun e w' => e = .returned (.tuple #[.bool (swA X A b f x y).2.2.1, .int .i64 (swA X A b f x y).2.2.2]) ∧ Env w' L xb hb (swA X A b f x y).1 (swA X A b f x y).2.1 ∧ Keep (xb :: hb :: L.blocks) w w' := by
  by_cases hf : f = 0
  · subst hf
    refine (swapH h.ix b hh x y).mono ?_
    rintro e w' ⟨rfl, hx, k⟩
    have hoff : ∀ z ∈ [xb, hb], z ∉ L.blocks := fun z hz => by
      simp only [List.mem_cons, List.not_mem_nil, or_false] at hz
      rcases hz with rfl | rfl
      · exact h.offx
      · exact h.offh
    have km : Keep (xb :: hb :: L.blocks) w w' := k.mono (fun z hz => by
      simp only [List.mem_cons, List.not_mem_nil, or_false] at hz ⊢
      rcases hz with rfl | rfl <;> simp)
    unfold swA
    rw [if_pos rfl]
    by_cases hx' : X.head b = x
    · rw [if_pos hx'] at hx
      simp only [hx', if_true, decide_true]
      exact ⟨by simp, ⟨h.ar.keep k hoff, hx, h.offx, h.offh, h.cell⟩, km⟩
    · rw [if_neg hx'] at hx
      simp only [hx', if_false, decide_false]
      exact ⟨by simp, ⟨h.ar.keep k hoff, hx, h.offx, h.offh, h.cell⟩, km⟩
  · refine (swapS h b f hf x y).mono ?_
    rintro e w' ⟨rfl, he, k⟩
    unfold swA
    rw [if_neg hf]
    exact ⟨rfl, he, k.mono (fun z hz => by simp [hz])⟩
set_option maxHeartbeats 8000000 in
theorem unlinkM (h : Env w L xb hb X A) (hi : RemP w L xb hb mb n m) (hat : m.at_ = 5) (hh : X.has m.bucket = true) (hwd : okL m.word) (hnw : 0 ≤ m.now ∧ m.now ≤ 4352) :
    Calls Tryz.prog 176 #[.pointer (some ⟨mb, 0, none⟩)] w (StepsM w L xb hb mb n X A m) := by
  obtain ⟨nv, R, hn⟩ := hi.hm
  have c0 : w.cell? ⟨mb, 0, none⟩ = some (.pointer (some ⟨xb, 0, none⟩)) := (cell_of R 0).trans rfl
  have c1 : w.cell? ⟨mb, 1, none⟩ = some (.int .i64 m.bucket) := (cell_of R 1).trans rfl
  have c4 : w.cell? ⟨mb, 4, none⟩ = some (.int .u64 m.word) := (cell_of R 4).trans rfl
  have c5 : w.cell? ⟨mb, 5, none⟩ = some (.int .i64 m.ahead) := (cell_of R 5).trans rfl
  have c6 : w.cell? ⟨mb, 6, none⟩ = some (.int .i64 m.now) := (cell_of R 6).trans rfl
  obtain ⟨y, hy⟩ : ∃ y, y = lk (numL m.word) := ⟨_, rfl⟩
  have hor : bits BinOp.andNot IntKind.u64 m.word 1 = y := (andNot_one m.word hwd).trans hy.symm
  obtain ⟨nn, hnn⟩ : ∃ nn, nn = numL m.word := ⟨_, rfl⟩
  obtain ⟨X', A', ok, er, hsw⟩ : ∃ X' A' ok er, swA X A m.bucket m.ahead (lk m.now) y = (X', A', ok, er) := ⟨_, _, _, _, rfl⟩
  have hs : stepR X A m = if er = 0 then (if ok then (if m.now = m.slot then (X', A', m.over 0, true) else (X', A', (({ m with helped := wrap64 (m.helped + 1) } : MR).come nn).1, (({ m with helped := wrap64 (m.helped + 1) } : MR).come nn).2)) else (X', A', { m with at_ := 3 }, false)) else (X', A', m.over er, true) := by
    unfold stepR
    rw [hat, ← hnn]
    rw [← hnn] at hy
    simp only [← hy, hsw]
  have C : Hid (∀ wx, Keep [] w wx → Calls Tryz.prog 173 #[.pointer (some ⟨xb, 0, none⟩), .int .i64 m.bucket, .int .i64 m.ahead, .int .u64 (lk m.now), .int .u64 y] wx fun e w' => e = .returned (.tuple #[.bool ok, .int .i64 er]) ∧ Env w' L xb hb X' A' ∧ Keep (xb :: hb :: L.blocks) wx w') := Lib.hid fun wx k => by
    have q := swP (h.keep k (by simp)) m.bucket m.ahead hh (lk m.now) y
    rw [hsw] at q
    exact q
  have HL : Hid (∀ wx : World, Calls Tryz.prog 54 #[.int .i64 m.now] wx fun e w' => e = .returned (.int .u64 (lk m.now)) ∧ wx = w') := Lib.hid fun wx => link_ m.now wx hnw.1 hnw.2
  have CA : Hid (∀ wx, Calls Tryz.prog 45 #[.int .u64 m.word] wx fun e w' => e = .returned (.tuple #[.int .i64 nn, .bool (mkL m.word)]) ∧ wx = w') := Lib.hid fun wx => by rw [hnn]; exact apart_ m.word wx hwd
  have HI := Lib.hid hi
  have RR := Lib.hid R
  have HAT : Hid (m.at_ ≠ 0) := Lib.hid (by omega)
  have OFF : Hid (mb ∉ xb :: hb :: L.blocks) := Lib.hid (by simp [hi.off])
  obtain ⟨t, ht⟩ : ∃ t, t = stepR X A m := ⟨_, rfl⟩
  have HS := Lib.hid (ht.trans hs)
  unfold StepsM
  rw [← ht]
  clear h hi hat hh hwd hnw R hn hsw hs ht hnn hy
  have hmf : ∀ (fn : Fn) (first cap : Array Value) (w : World), (Instr.makeFunc fn first cap).run Tryz.prog w = .ok (.func fn first cap) w := fun _ _ _ _ => rfl
  go_enter Tryz.func176, Tryz.ntmps176
  go_wp2_with fail
  go_region_held3 (fun w' => w'.cell? ⟨mb, 0, none⟩ = some (.pointer (some ⟨xb, 0, none⟩)) ∧ w'.cell? ⟨mb, 1, none⟩ = some (.int .i64 m.bucket) ∧ w'.cell? ⟨mb, 4, none⟩ = some (.int .u64 m.word) ∧ w'.cell? ⟨mb, 5, none⟩ = some (.int .i64 m.ahead) ∧ w'.cell? ⟨mb, 6, none⟩ = some (.int .i64 m.now)) (go_keep)
    (first
      | (go_at_call 54; refine (HL.out _).mono ?_; rintro e wl ⟨rfl, rfl⟩)
      | (go_at_call 173; refine (C.out w.drew ((Keep.refl [] w).drew)).mono ?_; rintro e w2 ⟨rfl, h2, k2⟩; have d0 := k2.cell (show w.drew.cell? ⟨mb, 0, none⟩ = _ from c0) OFF.out; have d1 := k2.cell (show w.drew.cell? ⟨mb, 1, none⟩ = _ from c1) OFF.out; have d4 := k2.cell (show w.drew.cell? ⟨mb, 4, none⟩ = _ from c4) OFF.out; have d5 := k2.cell (show w.drew.cell? ⟨mb, 5, none⟩ = _ from c5) OFF.out; have d6 := k2.cell (show w.drew.cell? ⟨mb, 6, none⟩ = _ from c6) OFF.out; have H2 := Lib.hid (And.intro h2 k2); clear h2 k2))
  have R2 : RemM w2 xb mb m.bucket m.slot nv m.word m.ahead m.now m.code m.marked m.helped := H2.out.2.old (show w.drew.heap[mb]? = _ from RR.out) OFF.out
  have KK : Hid (Keep (mb :: xb :: hb :: L.blocks) w w2) := Lib.hid (((Keep.refl [] w).drew.mono (by simp)).trans (H2.out.2.mono (fun x hx => List.mem_cons_of_mem _ hx)))
  have e2 : w2.cell? ⟨mb, 2, none⟩ = some (.int .i64 m.slot) := (cell_of R2 2).trans rfl
  have e9 : w2.cell? ⟨mb, 9, none⟩ = some (.int .i64 m.helped) := (cell_of R2 9).trans rfl
  have z9 := free_of R2 9
  have RR2 := Lib.hid R2
  clear R2 d0 d1 d5 c0 c1 c4 c5 c6 hor
  by_cases he : er = 0
  · subst he
    cases ok
    · skip
      have T := Lib.hid (HS.out.trans (by simp : _ = (X', A', { m with at_ := 3 }, false)))
      go_wp2_with fail
      refine (thenM RR2.out 136).mono ?_
      rintro e w4 ⟨rfl, r4, k4⟩
      have H4 := Lib.hid (And.intro r4 k4)
      clear r4 k4
      go_wp2_with fail
      go_ret
      rw [T.out]
      exact ⟨rfl, rm_end HI.out H2.out.1 KK.out H4.out.2 (m' := { m with at_ := 3 }) H4.out.1 rfl⟩
    · go_wp2_with fail
      go_quiet (fail)
      obtain ⟨wy, hwy⟩ : ∃ wy, wy = w2.drewN nq := ⟨_, rfl⟩
      have ky : Keep [] w2 wy := by rw [hwy]; exact (Keep.refl _ _).drewN _
      rw [← hwy]
      clear hwy e2 e9 z9 d4 d6
      have H3 := Lib.hid (And.intro (H2.out.1.keep ky (by simp)) (KK.out.trans (ky.mono (by simp))))
      have R3 : RemM wy xb mb m.bucket m.slot nv m.word m.ahead m.now m.code m.marked m.helped := ky.old RR2.out (by simp)
      have e9 : wy.cell? ⟨mb, 9, none⟩ = some (.int .i64 m.helped) := (cell_of R3 9).trans rfl
      have z9 := free_of R3 9
      have RR3 := Lib.hid R3
      clear R3 ky
      by_cases hw : m.now = m.slot
      · have hw' : (m.now == m.slot) = true := by simpa using hw
        have HW := Lib.hid hw
        clear hw
        have T := Lib.hid (HS.out.trans (by simp [HW.out] : _ = (X', A', m.over 0, true)))
        go_wp2_with fail
        refine (doneM RR3.out 0).mono ?_
        rintro e w4 ⟨rfl, r4, k4⟩
        have H4 := Lib.hid (And.intro r4 k4)
        clear r4 k4
        go_wp2_with fail
        go_ret
        rw [T.out]
        exact ⟨rfl, rm_end HI.out H3.out.1 H3.out.2 H4.out.2 (m' := m.over 0) H4.out.1 rfl⟩
      · have hw' : (m.now == m.slot) = false := by simpa using hw
        have W3 := Lib.hid (set_same RR3.out 9 (.int .i64 (wrap64 (m.helped + 1))))
        have f4 : (wy.setCell ⟨mb, 9, none⟩ (.int .i64 (wrap64 (m.helped + 1)))).cell? ⟨mb, 4, none⟩ = some (.int .u64 m.word) := (cell_of W3.out 4).trans rfl
        have T := Lib.hid (HS.out.trans (by simp [hw] : _ = (X', A', (({ m with helped := wrap64 (m.helped + 1) } : MR).come nn).1, (({ m with helped := wrap64 (m.helped + 1) } : MR).come nn).2)))
        go_wp2_with fail
        refine (CA.out _).mono ?_
        rintro e wx ⟨rfl, rfl⟩
        go_wp2_with fail
        refine (atM (hp := wrap64 (m.helped + 1)) (W3.out.trans rfl) nn).mono ?_
        rintro e w4 ⟨rfl, r4, k4⟩
        have H4 := Lib.hid (And.intro r4 k4)
        obtain ⟨bb, hbb⟩ : ∃ bb, bb = beyond nn := ⟨_, rfl⟩
        rw [← hbb]
        have HB := Lib.hid hbb
        clear r4 k4 hbb
        go_wp2_with fail
        go_ret
        rw [T.out]
        exact ⟨by rw [come_done, ← HB.out]; rfl, at_end HI.out H3.out.1 H3.out.2 ((keep_set (Keep.refl [mb] wy) (List.mem_singleton.2 rfl) _ _).trans H4.out.2) (m' := { m with helped := wrap64 (m.helped + 1) }) HAT.out H4.out.1⟩
  · have he' : (er != 0) = true := by simpa using he
    have T := Lib.hid (HS.out.trans (by rw [if_neg he] : _ = (X', A', m.over er, true)))
    go_wp2_with fail
    refine (doneM RR2.out er).mono ?_
    rintro e w4 ⟨rfl, r4, k4⟩
    have H4 := Lib.hid (And.intro r4 k4)
    clear r4 k4
    go_wp2_with fail
    go_ret
    rw [T.out]
    exact ⟨rfl, rm_end HI.out H2.out.1 KK.out H4.out.2 (m' := m.over er) H4.out.1 rfl⟩
end
end Go.Proofs.YtgagiggljlikbaaGreat.Ch
