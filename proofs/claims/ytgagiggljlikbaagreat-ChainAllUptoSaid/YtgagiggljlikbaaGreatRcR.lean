/- The document's Remove in memory: over, present, first, look, swap, Step. -/
import Derived.Test.YtgagiggljlikbaaGreatRcX
import Derived.Test.YtgagiggljlikbaaGreatChQ
namespace Go.Proofs.YtgagiggljlikbaaGreat.Rc
open Go.RowKit Go.Proofs.YtgagiggljlikbaaGreat.Mem Go.Proofs.YtgagiggljlikbaaGreat.Ar Go.Proofs.YtgagiggljlikbaaGreat.En Go.Proofs.YtgagiggljlikbaaGreat.Ch
open Go.Proofs.YtgagiggljlikbaaGreat.Ra (owns_block RAt rBlocks)
set_option linter.unusedVariables false
set_option linter.unusedSimpArgs false
set_option maxRecDepth 100000

/-- the document's Remove's record -/
def RecQ (w : World) (xb mb : Nat) (bk sl av wd ah nw : Int) (dn : Bool) (co : Int) (mk : Bool) (hp : Int) : Prop :=
  w.heap[mb]? = some (.cells #[.pointer (some ⟨xb, 0, none⟩), .int .i64 bk, .int .i64 sl, .int .i64 av, .int .u64 wd, .int .i64 ah, .int .i64 nw, .bool dn, .int .i64 co, .bool mk, .int .i64 hp] 193 (0, 0))
structure RemQ (w : World) (Bl : List Nat) (xb hb mb : Nat) (m : MR) : Prop where
  hm : ∃ av wd, RecQ w xb mb m.bucket m.slot av wd m.ahead m.now (decide (m.at_ = 0)) m.code m.marked m.helped ∧ (m.at_ ≠ 0 → av = m.at_) ∧ (m.at_ = 2 ∨ m.at_ = 5 → wd = m.word)
  off : mb ∉ Bl ∧ mb ≠ xb ∧ mb ≠ hb
section
variable {w w' w2 : World} {b sg sc : Nat} {qv : Value} {bs : List (Option Nat)} {A A' : Ars} {Q : List Nat} {xb hb hc mb : Nat} {X X' : CI} {m m' : MR} {Bl : List Nat} {bk sl av wd ah nw co hp : Int} {dn mk : Bool} {wv er : Int}
theorem RemQ.keep (h : RemQ w Bl xb hb mb m) {S : List Nat} (k : Keep S w w') (hS : mb ∉ S) : RemQ w' Bl xb hb mb m := by
  obtain ⟨av, wd, h1, h2⟩ := h.hm
  exact ⟨⟨av, wd, k.old h1 hS, h2⟩, h.off⟩
theorem overQ (R : RecQ w xb mb bk sl av wd ah nw dn co mk hp) (e : Int) :
    Calls Tryz.prog 151 #[.pointer (some ⟨mb, 0, none⟩), .int .i64 e] w fun r w' => r = .returned (.bool true) ∧ RecQ w' xb mb bk sl av wd ah nw true e mk hp ∧ Keep [mb] w w' := by
  have f7 : w.cell? ⟨mb, 7, none⟩ = some (.bool dn) := (cell_of R 7).trans rfl
  have f8 : w.cell? ⟨mb, 8, none⟩ = some (.int .i64 co) := (cell_of R 8).trans rfl
  have g7 := free_of R 7
  have g8 := free_of R 8
  have RR := Lib.hid R
  clear R
  go_enter Tryz.func151, Tryz.ntmps151
  go_wp2_with fail
  go_ret
  exact ⟨rfl, (set_same (set_same RR.out 7 (.bool true)) 8 (.int .i64 e)).trans rfl, keep_set (keep_set (Keep.refl [mb] w) (List.mem_singleton.2 rfl) _ _) (List.mem_singleton.2 rfl) _ _⟩
theorem presentQ (R : RecQ w xb mb bk sl av wd ah nw dn co mk hp) (n : Int) :
    Calls Tryz.prog 154 #[.pointer (some ⟨mb, 0, none⟩), .int .i64 n] w fun r w' => r = .returned (.bool (beyond n)) ∧ RecQ w' xb mb bk sl 4 wd ah n (if beyond n then true else dn) (if beyond n then 0 else co) mk hp ∧ Keep [mb] w w' := by
  have f3 : w.cell? ⟨mb, 3, none⟩ = some (.int .i64 av) := (cell_of R 3).trans rfl
  have f6 : w.cell? ⟨mb, 6, none⟩ = some (.int .i64 nw) := (cell_of R 6).trans rfl
  have g3 := free_of R 3
  have g6 := free_of R 6
  obtain ⟨by_, hby⟩ : ∃ by_, by_ = beyond n := ⟨_, rfl⟩
  have CB : Hid (∀ wx, Calls Tryz.prog 171 #[.int .i64 n] wx fun e w' => e = .returned (.bool by_) ∧ wx = w') := Lib.hid fun wx => by rw [hby]; exact end_ n wx
  rw [← hby]
  have R1 : RecQ ((w.setCell ⟨mb, 6, none⟩ (.int .i64 n)).setCell ⟨mb, 3, none⟩ (.int .i64 4)) xb mb bk sl 4 wd ah n dn co mk hp := (set_same (set_same R 6 (.int .i64 n)) 3 (.int .i64 4)).trans rfl
  have k1 : Keep [mb] w ((w.setCell ⟨mb, 6, none⟩ (.int .i64 n)).setCell ⟨mb, 3, none⟩ (.int .i64 4)) := keep_set (keep_set (Keep.refl [mb] w) (List.mem_singleton.2 rfl) _ _) (List.mem_singleton.2 rfl) _ _
  have RR := Lib.hid (And.intro R1 k1)
  clear R R1 k1 hby
  go_enter Tryz.func154, Tryz.ntmps154
  go_wp2_with fail
  refine (CB.out _).mono ?_
  rintro e wx ⟨rfl, rfl⟩
  cases by_
  · go_wp2_with fail
    go_ret
    exact ⟨rfl, RR.out⟩
  · go_wp2_with fail
    refine (overQ RR.out.1 0).mono ?_
    rintro e w3 ⟨rfl, r3, k3⟩
    have H3 := Lib.hid (And.intro r3 k3)
    clear r3 k3 f3 f6 g3 g6
    go_wp2_with fail
    go_ret
    exact ⟨rfl, H3.out.1, RR.out.2.trans H3.out.2⟩
def StepsQ (w : World) (b sg sc : Nat) (qv : Value) (bs : List (Option Nat)) (xb hb hc mb : Nat) (X : CI) (A : Ars) (Q : List Nat) (m : MR) (r : Ending) (w' : World) : Prop :=
  r = .returned (.bool (stepR X A m).2.2.2) ∧ EnvR w' b sg sc qv bs xb hb hc (stepR X A m).1 (stepR X A m).2.1 Q ∧ RemQ w' (rBlocks b sg qv bs) xb hb mb (stepR X A m).2.2.1 ∧ Keep (mb :: xb :: hb :: rBlocks b sg qv bs) w w'
theorem rq_end (hi : RemQ w Bl xb hb mb m) (hB : Bl = rBlocks b sg qv bs) (h2 : EnvR w2 b sg sc qv bs xb hb hc X' A' Q) (k2 : Keep (mb :: xb :: hb :: Bl) w w2) (k : Keep [mb] w2 w') {av wd : Int} (hr : RecQ w' xb mb m'.bucket m'.slot av wd m'.ahead m'.now (decide (m'.at_ = 0)) m'.code m'.marked m'.helped)
    (ha : m'.at_ ≠ 0 → av = m'.at_) (hw : m'.at_ = 2 ∨ m'.at_ = 5 → wd = m'.word) :
    EnvR w' b sg sc qv bs xb hb hc X' A' Q ∧ RemQ w' Bl xb hb mb m' ∧ Keep (mb :: xb :: hb :: Bl) w w' := by
  subst hB
  exact ⟨h2.keep k (fun x hx => by rw [List.mem_singleton.1 hx]; exact hi.off), ⟨⟨av, wd, hr, ha, hw⟩, hi.off⟩, k2.trans (k.mono (by simp))⟩
theorem over_end (hi : RemQ w (rBlocks b sg qv bs) xb hb mb m) (h2 : EnvR w2 b sg sc qv bs xb hb hc X' A' Q) (k2 : Keep (mb :: xb :: hb :: rBlocks b sg qv bs) w w2) (k : Keep [mb] w2 w') {e : Int} (hr : RecQ w' xb mb m.bucket m.slot av wd m.ahead m.now true e m.marked m.helped) :
    EnvR w' b sg sc qv bs xb hb hc X' A' Q ∧ RemQ w' (rBlocks b sg qv bs) xb hb mb (m.over e) ∧ Keep (mb :: xb :: hb :: rBlocks b sg qv bs) w w' :=
  rq_end hi rfl h2 k2 k (m' := m.over e) hr (fun h => absurd rfl h) (fun h => by simp [MR.over] at h)
theorem present_end (hi : RemQ w (rBlocks b sg qv bs) xb hb mb m) (h2 : EnvR w2 b sg sc qv bs xb hb hc X' A' Q) (k2 : Keep (mb :: xb :: hb :: rBlocks b sg qv bs) w w2) (k : Keep [mb] w2 w') {s : Int} (hr : RecQ w' xb mb m'.bucket m'.slot 4 wd m'.ahead s (if beyond s then true else false) (if beyond s then 0 else m'.code) m'.marked m'.helped) :
    EnvR w' b sg sc qv bs xb hb hc X' A' Q ∧ RemQ w' (rBlocks b sg qv bs) xb hb mb (m'.come s).1 ∧ Keep (mb :: xb :: hb :: rBlocks b sg qv bs) w w' := by
  unfold MR.come
  cases hb' : beyond s with
  | true =>
    rw [hb'] at hr
    exact rq_end hi rfl h2 k2 k (m' := ({ m' with now := s } : MR).over 0) hr (fun h => absurd rfl h) (fun h => by simp [MR.over] at h)
  | false =>
    rw [hb'] at hr
    exact rq_end hi rfl h2 k2 k (m' := { m' with now := s, at_ := 4 }) hr (fun _ => rfl) (fun h => by simp at h)
set_option maxHeartbeats 4000000 in
theorem firstQ (h : EnvR w b sg sc qv bs xb hb hc X A Q) (hi : RemQ w (rBlocks b sg qv bs) xb hb mb m) (hat : m.at_ = 1) (hh : X.has m.bucket = true) (hA : okA A) :
    Calls Tryz.prog 152 #[.pointer (some ⟨mb, 0, none⟩)] w (StepsQ w b sg sc qv bs xb hb hc mb X A Q m) := by
  obtain ⟨av, wd, R, hav, hwd⟩ := hi.hm
  obtain rfl : av = 1 := (hav (by omega)).trans (by rw [hat]; rfl)
  obtain ⟨x0, x1⟩ := sees_xr h
  have c0 : w.cell? ⟨mb, 0, none⟩ = some (.pointer (some ⟨xb, 0, none⟩)) := (cell_of R 0).trans rfl
  rw [decide_eq_false (by omega)] at R
  have c2 : w.cell? ⟨mb, 2, none⟩ = some (.int .i64 m.slot) := (cell_of R 2).trans rfl
  obtain ⟨A', wv, er, hld⟩ : ∃ A' wv er, ldA A m.slot X.cell = (A', wv, er) := ⟨_, _, _, rfl⟩
  have hok : okL wv := by have := hA.ld m.slot X.cell; rw [hld] at this; exact this
  have hs : stepR X A m = if er = 0 then (if wv = 0 then (X, A', m.over 42, true) else if mkL wv then (X, A', { m with at_ := 3 }, false) else (X, A', { m with at_ := 2, word := wv }, false)) else (X, A', m.over er, true) := by
    unfold stepR
    rw [hat]
    simp only [hh, if_true, hld]
  have C : Hid (∀ wx, Keep [] w wx → Calls Tryz.prog 143 #[.pointer (some ⟨b, 0, none⟩), .int .i64 m.slot, .int .i64 X.cell] wx fun e w' => e = .returned (.tuple #[.int .u64 wv, .int .i64 er]) ∧ EnvR w' b sg sc qv bs xb hb hc X A' Q ∧ Keep (rBlocks b sg qv bs) wx w') := Lib.hid fun wx k => by
    have q := Ra.ldR (h.ar.keep k (by simp)) m.slot X.cell h.cell
    rw [hld] at q
    refine q.mono ?_
    rintro e w' ⟨rfl, ha, k'⟩
    have hw : A'.width = A.width := by have := ld_width A m.slot X.cell; rw [hld] at this; exact this
    exact ⟨rfl, ⟨ha, (h.ix.keep k (by simp)).keep k' (fun x hx => ⟨fun e => h.offx (e ▸ hx), fun e => h.offh (e ▸ hx)⟩), h.offx, h.offh, by rw [hw]; exact h.cell⟩, k'⟩
  obtain ⟨k, hmk⟩ : ∃ k, k = mkL wv := ⟨_, rfl⟩
  have CA : Hid (∀ wx, Calls Tryz.prog 150 #[.int .u64 wv] wx fun e w' => e = .returned (.bool k) ∧ wx = w') := Lib.hid fun wx => by rw [hmk]; exact marked_ wv wx hok
  rw [← hmk] at hs
  have HI := Lib.hid hi
  obtain ⟨t, ht⟩ : ∃ t, t = stepR X A m := ⟨_, rfl⟩
  have HS := Lib.hid (ht.trans hs)
  unfold StepsQ
  rw [← ht]
  have RR := Lib.hid R
  clear h hi hat hh hA R hav hwd hld hok hs ht hmk
  go_enter Tryz.func152, Tryz.ntmps152
  go_wp2_with fail
  go_region_held3 (fun w' => w'.cell? ⟨mb, 0, none⟩ = some (.pointer (some ⟨xb, 0, none⟩)) ∧ w'.cell? ⟨mb, 2, none⟩ = some (.int .i64 m.slot) ∧ w'.cell? ⟨xb, 0, none⟩ = some (.pointer (some ⟨b, 0, none⟩)) ∧ w'.cell? ⟨xb, 1, none⟩ = some (.int .i64 X.cell)) (go_keep)
    (first
      | (go_at_call 143; refine (C.out w.drew ((Keep.refl [] w).drew)).mono ?_; rintro e w2 ⟨rfl, h2, k2⟩; obtain ⟨y0, y1⟩ := sees_xr h2; have d0 := k2.cell (show w.drew.cell? ⟨mb, 0, none⟩ = _ from c0) HI.out.off.1; have d2 := k2.cell (show w.drew.cell? ⟨mb, 2, none⟩ = _ from c2) HI.out.off.1; have H2 := Lib.hid (And.intro h2 k2); clear h2 k2))
  have R2 : RecQ w2 xb mb m.bucket m.slot 1 wd m.ahead m.now false m.code m.marked m.helped := H2.out.2.old (show w.drew.heap[mb]? = _ from RR.out) HI.out.off.1
  have KK := Lib.hid (((Keep.refl [] w).drew.mono (by simp)).trans (H2.out.2.mono (fun x hx => by simp [hx])) : Keep (mb :: xb :: hb :: rBlocks b sg qv bs) w w2)
  have e3 : w2.cell? ⟨mb, 3, none⟩ = some (.int .i64 1) := (cell_of R2 3).trans rfl
  have e4 : w2.cell? ⟨mb, 4, none⟩ = some (.int .u64 wd) := (cell_of R2 4).trans rfl
  have z3 := free_of R2 3
  have z4 := free_of R2 4
  have RR2 := Lib.hid R2
  clear R2 d0 d2 y0 y1 c0 c2 x0 x1
  by_cases he : er = 0
  · subst he
    by_cases hw : wv = 0
    · subst hw
      have T := Lib.hid (HS.out.trans (by simp : _ = (X, A', m.over 42, true)))
      go_wp2_with fail
      refine (overQ RR2.out 42).mono ?_
      rintro e w4 ⟨rfl, r4, k4⟩
      have H4 := Lib.hid (And.intro r4 k4)
      clear r4 k4
      go_wp2_with fail
      go_ret
      rw [T.out]
      exact ⟨rfl, over_end HI.out H2.out.1 KK.out H4.out.2 H4.out.1⟩
    · have hw' : (wv == 0) = false := by simpa using hw
      have f3 : ((w2.setCell ⟨mb, 4, none⟩ (.int .u64 wv)).setCell ⟨mb, 3, none⟩ (.int .i64 2)).cell? ⟨mb, 3, none⟩ = some (.int .i64 2) := (cell_of (set_same (set_same RR2.out 4 (.int .u64 wv)) 3 (.int .i64 2)) 3).trans rfl
      go_wp2_with fail
      refine (CA.out _).mono ?_
      rintro e wx ⟨rfl, rfl⟩
      cases k
      · skip
        have T := Lib.hid (HS.out.trans (by simp [hw] : _ = (X, A', { m with at_ := 2, word := wv }, false)))
        go_wp2_with fail
        go_ret
        rw [T.out]
        exact ⟨rfl, rq_end HI.out rfl H2.out.1 KK.out (keep_set (keep_set (Keep.refl [mb] w2) (List.mem_singleton.2 rfl) _ _) (List.mem_singleton.2 rfl) _ _) (m' := { m with at_ := 2, word := wv }) ((set_same (set_same RR2.out 4 (.int .u64 wv)) 3 (.int .i64 2)).trans rfl) (fun _ => rfl) (fun _ => rfl)⟩
      · skip
        have T := Lib.hid (HS.out.trans (by simp [hw] : _ = (X, A', { m with at_ := 3 }, false)))
        go_wp2_with fail
        go_ret
        rw [T.out]
        exact ⟨rfl, rq_end HI.out rfl H2.out.1 KK.out (keep_set (keep_set (keep_set (Keep.refl [mb] w2) (List.mem_singleton.2 rfl) _ _) (List.mem_singleton.2 rfl) _ _) (List.mem_singleton.2 rfl) _ _) (m' := { m with at_ := 3 }) ((set_same (set_same (set_same RR2.out 4 (.int .u64 wv)) 3 (.int .i64 2)) 3 (.int .i64 3)).trans rfl) (fun _ => rfl) (fun h => by simp at h)⟩
  · have he' : (er != 0) = true := by simpa using he
    have T := Lib.hid (HS.out.trans (by rw [if_neg he] : _ = (X, A', m.over er, true)))
    go_wp2_with fail
    refine (overQ RR2.out er).mono ?_
    rintro e w4 ⟨rfl, r4, k4⟩
    have H4 := Lib.hid (And.intro r4 k4)
    clear r4 k4
    go_wp2_with fail
    go_ret
    rw [T.out]
    exact ⟨rfl, over_end HI.out H2.out.1 KK.out H4.out.2 H4.out.1⟩
set_option maxHeartbeats 4000000 in
theorem lookQ (h : EnvR w b sg sc qv bs xb hb hc X A Q) (hi : RemQ w (rBlocks b sg qv bs) xb hb mb m) (hat : m.at_ = 4) (hA : okA A) :
    Calls Tryz.prog 155 #[.pointer (some ⟨mb, 0, none⟩)] w (StepsQ w b sg sc qv bs xb hb hc mb X A Q m) := by
  obtain ⟨av, wd, R, hav, hwd⟩ := hi.hm
  obtain rfl : av = 4 := (hav (by omega)).trans (by rw [hat]; rfl)
  obtain ⟨x0, x1⟩ := sees_xr h
  have c0 : w.cell? ⟨mb, 0, none⟩ = some (.pointer (some ⟨xb, 0, none⟩)) := (cell_of R 0).trans rfl
  rw [decide_eq_false (by omega)] at R
  have c6 : w.cell? ⟨mb, 6, none⟩ = some (.int .i64 m.now) := (cell_of R 6).trans rfl
  obtain ⟨A', wv, er, hld⟩ : ∃ A' wv er, ldA A m.now X.cell = (A', wv, er) := ⟨_, _, _, rfl⟩
  have hok : okL wv := by have := hA.ld m.now X.cell; rw [hld] at this; exact this
  have hs : stepR X A m = if er = 0 then (if numL wv = 0 then (X, A', m.over 42, true) else if mkL wv then (X, A', { m with at_ := 5, word := wv }, false) else (X, A', (({ m with ahead := m.now } : MR).come (numL wv)).1, (({ m with ahead := m.now } : MR).come (numL wv)).2)) else (X, A', m.over er, true) := by
    unfold stepR
    rw [hat]
    simp only [hld]
  have C : Hid (∀ wx, Keep [] w wx → Calls Tryz.prog 143 #[.pointer (some ⟨b, 0, none⟩), .int .i64 m.now, .int .i64 X.cell] wx fun e w' => e = .returned (.tuple #[.int .u64 wv, .int .i64 er]) ∧ EnvR w' b sg sc qv bs xb hb hc X A' Q ∧ Keep (rBlocks b sg qv bs) wx w') := Lib.hid fun wx k => by
    have q := Ra.ldR (h.ar.keep k (by simp)) m.now X.cell h.cell
    rw [hld] at q
    refine q.mono ?_
    rintro e w' ⟨rfl, ha, k'⟩
    have hw : A'.width = A.width := by have := ld_width A m.now X.cell; rw [hld] at this; exact this
    exact ⟨rfl, ⟨ha, (h.ix.keep k (by simp)).keep k' (fun x hx => ⟨fun e => h.offx (e ▸ hx), fun e => h.offh (e ▸ hx)⟩), h.offx, h.offh, by rw [hw]; exact h.cell⟩, k'⟩
  obtain ⟨k, hmk⟩ : ∃ k, k = mkL wv := ⟨_, rfl⟩
  obtain ⟨nn, hnn⟩ : ∃ nn, nn = numL wv := ⟨_, rfl⟩
  have CA : Hid (∀ wx, Calls Tryz.prog 150 #[.int .u64 wv] wx fun e w' => e = .returned (.bool k) ∧ wx = w') := Lib.hid fun wx => by rw [hmk]; exact marked_ wv wx hok
  have CN : Hid (∀ wx, Calls Tryz.prog 149 #[.int .u64 wv] wx fun e w' => e = .returned (.int .i64 nn) ∧ wx = w') := Lib.hid fun wx => by rw [hnn]; exact number_ wv wx hok
  rw [← hmk, ← hnn] at hs
  have HI := Lib.hid hi
  obtain ⟨t, ht⟩ : ∃ t, t = stepR X A m := ⟨_, rfl⟩
  have HS := Lib.hid (ht.trans hs)
  unfold StepsQ
  rw [← ht]
  have RR := Lib.hid R
  clear h hi hat hA R hav hwd hld hok hs ht hmk hnn
  go_enter Tryz.func155, Tryz.ntmps155
  go_wp2_with fail
  go_region_held3 (fun w' => w'.cell? ⟨mb, 0, none⟩ = some (.pointer (some ⟨xb, 0, none⟩)) ∧ w'.cell? ⟨mb, 6, none⟩ = some (.int .i64 m.now) ∧ w'.cell? ⟨xb, 0, none⟩ = some (.pointer (some ⟨b, 0, none⟩)) ∧ w'.cell? ⟨xb, 1, none⟩ = some (.int .i64 X.cell)) (go_keep)
    (first
      | (go_at_call 143; refine (C.out w.drew ((Keep.refl [] w).drew)).mono ?_; rintro e w2 ⟨rfl, h2, k2⟩; obtain ⟨y0, y1⟩ := sees_xr h2; have d0 := k2.cell (show w.drew.cell? ⟨mb, 0, none⟩ = _ from c0) HI.out.off.1; have d6 := k2.cell (show w.drew.cell? ⟨mb, 6, none⟩ = _ from c6) HI.out.off.1; have H2 := Lib.hid (And.intro h2 k2); clear h2 k2))
  have R2 : RecQ w2 xb mb m.bucket m.slot 4 wd m.ahead m.now false m.code m.marked m.helped := H2.out.2.old (show w.drew.heap[mb]? = _ from RR.out) HI.out.off.1
  have KK := Lib.hid (((Keep.refl [] w).drew.mono (by simp)).trans (H2.out.2.mono (fun x hx => by simp [hx])) : Keep (mb :: xb :: hb :: rBlocks b sg qv bs) w w2)
  have e3 : w2.cell? ⟨mb, 3, none⟩ = some (.int .i64 4) := (cell_of R2 3).trans rfl
  have e4 : w2.cell? ⟨mb, 4, none⟩ = some (.int .u64 wd) := (cell_of R2 4).trans rfl
  have e5 : w2.cell? ⟨mb, 5, none⟩ = some (.int .i64 m.ahead) := (cell_of R2 5).trans rfl
  have e6 : w2.cell? ⟨mb, 6, none⟩ = some (.int .i64 m.now) := (cell_of R2 6).trans rfl
  have z3 := free_of R2 3
  have z4 := free_of R2 4
  have z5 := free_of R2 5
  have RR2 := Lib.hid R2
  clear R2 d0 d6 y0 y1 c0 c6 x0 x1
  by_cases he : er = 0
  · subst he
    go_wp2_with fail
    refine (CN.out _).mono ?_
    rintro e wx ⟨rfl, rfl⟩
    by_cases hw : nn = 0
    · subst hw
      have T := Lib.hid (HS.out.trans (by simp : _ = (X, A', m.over 42, true)))
      go_wp2_with fail
      refine (overQ RR2.out 42).mono ?_
      rintro e w4 ⟨rfl, r4, k4⟩
      have H4 := Lib.hid (And.intro r4 k4)
      clear r4 k4
      go_wp2_with fail
      go_ret
      rw [T.out]
      exact ⟨rfl, over_end HI.out H2.out.1 KK.out H4.out.2 H4.out.1⟩
    · have hw' : (nn == 0) = false := by simpa using hw
      go_wp2_with fail
      refine (CA.out _).mono ?_
      rintro e wx ⟨rfl, rfl⟩
      cases k
      · go_wp2_with fail
        refine (CN.out _).mono ?_
        rintro e wx ⟨rfl, rfl⟩
        have T := Lib.hid (HS.out.trans (by simp [hw] : _ = (X, A', (({ m with ahead := m.now } : MR).come nn).1, (({ m with ahead := m.now } : MR).come nn).2)))
        go_wp2_with fail
        refine (presentQ (ah := m.now) ((set_same RR2.out 5 (.int .i64 m.now)).trans rfl) nn).mono ?_
        rintro e w4 ⟨rfl, r4, k4⟩
        have H4 := Lib.hid (And.intro r4 k4)
        obtain ⟨bb, hbb⟩ : ∃ bb, bb = beyond nn := ⟨_, rfl⟩
        rw [← hbb]
        have HB := Lib.hid hbb
        clear r4 k4 hbb
        go_wp2_with fail
        go_ret
        rw [T.out]
        exact ⟨by rw [come_done, ← HB.out]; rfl, present_end HI.out H2.out.1 KK.out ((keep_set (Keep.refl [mb] w2) (List.mem_singleton.2 rfl) _ _).trans H4.out.2) (m' := { m with ahead := m.now }) H4.out.1⟩
      · skip
        have T := Lib.hid (HS.out.trans (by simp [hw] : _ = (X, A', { m with at_ := 5, word := wv }, false)))
        go_wp2_with fail
        go_ret
        rw [T.out]
        exact ⟨rfl, rq_end HI.out rfl H2.out.1 KK.out (keep_set (keep_set (Keep.refl [mb] w2) (List.mem_singleton.2 rfl) _ _) (List.mem_singleton.2 rfl) _ _) (m' := { m with at_ := 5, word := wv }) ((set_same (set_same RR2.out 4 (.int .u64 wv)) 3 (.int .i64 5)).trans rfl) (fun _ => rfl) (fun _ => rfl)⟩
  · have he' : (er != 0) = true := by simpa using he
    have T := Lib.hid (HS.out.trans (by rw [if_neg he] : _ = (X, A', m.over er, true)))
    go_wp2_with fail
    refine (overQ RR2.out er).mono ?_
    rintro e w4 ⟨rfl, r4, k4⟩
    have H4 := Lib.hid (And.intro r4 k4)
    clear r4 k4
    go_wp2_with fail
    go_ret
    rw [T.out]
    exact ⟨rfl, over_end HI.out H2.out.1 KK.out H4.out.2 H4.out.1⟩
set_option maxHeartbeats 4000000 in
theorem swapQ0 (h : EnvR w b sg sc qv bs xb hb hc X A Q) (hi : RemQ w (rBlocks b sg qv bs) xb hb mb m) (hat : m.at_ = 5) (hh : X.has m.bucket = true) (hwv : okL m.word) (hnw : 0 ≤ m.now ∧ m.now ≤ 4352) (hah : m.ahead = 0) :
    Calls Tryz.prog 156 #[.pointer (some ⟨mb, 0, none⟩)] w (StepsQ w b sg sc qv bs xb hb hc mb X A Q m) := by
  obtain ⟨av, wd, R, hav, hwd⟩ := hi.hm
  obtain rfl : av = 5 := (hav (by omega)).trans (by rw [hat]; rfl)
  obtain ⟨x0, x1⟩ := sees_xr h
  have c0 : w.cell? ⟨mb, 0, none⟩ = some (.pointer (some ⟨xb, 0, none⟩)) := (cell_of R 0).trans rfl
  rw [decide_eq_false (by omega)] at R
  obtain rfl : wd = m.word := hwd (.inr hat)
  have c1 : w.cell? ⟨mb, 1, none⟩ = some (.int .i64 m.bucket) := (cell_of R 1).trans rfl
  have c2 : w.cell? ⟨mb, 2, none⟩ = some (.int .i64 m.slot) := (cell_of R 2).trans rfl
  have c4 : w.cell? ⟨mb, 4, none⟩ = some (.int .u64 m.word) := (cell_of R 4).trans rfl
  have c5 : w.cell? ⟨mb, 5, none⟩ = some (.int .i64 m.ahead) := (cell_of R 5).trans rfl
  have c6 : w.cell? ⟨mb, 6, none⟩ = some (.int .i64 m.now) := (cell_of R 6).trans rfl
  obtain ⟨nn, hnn⟩ : ∃ nn, nn = numL m.word := ⟨_, rfl⟩
  have hrn := num_ok hwv
  rw [← hnn] at hrn
  have hah' : (m.ahead == 0) = true := by simpa using hah
  obtain ⟨X', hX'⟩ : ∃ X', X' = if X.head m.bucket = lk m.now then X.tick.put m.bucket (lk nn) else X.tick := ⟨_, rfl⟩
  obtain ⟨ok, hok⟩ : ∃ ok, ok = decide (X.head m.bucket = lk m.now) := ⟨_, rfl⟩
  have hs : stepR X A m = if ok then (if m.now = m.slot then (X', A, m.over 0, true) else (X', A, (({ m with helped := wrap64 (m.helped + 1) } : MR).come nn).1, (({ m with helped := wrap64 (m.helped + 1) } : MR).come nn).2)) else (X', A, { m with at_ := 3 }, false) := by
    unfold stepR
    rw [hat, ← hnn, hX', hok]
    simp only [swA, hah, if_true]
    by_cases hx : X.head m.bucket = lk m.now <;> simp [hx]
  have C : Hid (∀ wx, Keep [] w wx → Calls Tryz.prog 146 #[.pointer (some ⟨xb, 0, none⟩), .int .i64 m.bucket, .int .u64 (lk m.now), .int .u64 (lk nn)] wx fun e w' => e = .returned (.bool ok) ∧ EnvR w' b sg sc qv bs xb hb hc X' A Q ∧ Keep (xb :: hb :: rBlocks b sg qv bs) wx w') := Lib.hid fun wx k => by
    have q := swappedR (h.ix.keep k (by simp)) m.bucket hh (lk m.now) (lk nn)
    rw [← hX', ← hok] at q
    refine q.mono ?_
    rintro e w' ⟨rfl, hx, k'⟩
    have hcc : X'.cell = X.cell := by rw [hX']; split <;> rfl
    refine ⟨rfl, ⟨(h.ar.keep k (by simp)).keep k' (fun x hx => ?_), hx, h.offx, h.offh, by rw [hcc]; exact h.cell⟩, k'.mono (fun x hx => ?_)⟩
    · simp only [List.mem_cons, List.not_mem_nil, or_false] at hx
      rcases hx with rfl | rfl
      · exact h.offx
      · exact h.offh
    · simp only [List.mem_cons, List.not_mem_nil, or_false] at hx
      rcases hx with rfl | rfl <;> simp
  have CN : Hid (∀ wx, Calls Tryz.prog 149 #[.int .u64 m.word] wx fun e w' => e = .returned (.int .i64 nn) ∧ wx = w') := Lib.hid fun wx => by rw [hnn]; exact number_ m.word wx hwv
  have CL : Hid (∀ wx : World, Calls Tryz.prog 106 #[.int .i64 m.now] wx fun e w' => e = .returned (.int .u64 (lk m.now)) ∧ wx = w') := Lib.hid fun wx => word_ m.now wx hnw.1 hnw.2
  have CK : Hid (∀ wx : World, Calls Tryz.prog 106 #[.int .i64 nn] wx fun e w' => e = .returned (.int .u64 (lk nn)) ∧ wx = w') := Lib.hid fun wx => word_ nn wx hrn.1 hrn.2
  have HI := Lib.hid hi
  obtain ⟨t, ht⟩ : ∃ t, t = stepR X A m := ⟨_, rfl⟩
  have HS := Lib.hid (ht.trans hs)
  unfold StepsQ
  rw [← ht]
  have RR := Lib.hid R
  have OFF : Hid (mb ∉ xb :: hb :: rBlocks b sg qv bs) := Lib.hid (by simp [hi.off])
  have HNS := Lib.hid (Classical.em (m.now = m.slot))
  clear h hi hat hh hwv hnw hah R hav hwd hs ht hnn hrn hX' hok
  go_enter Tryz.func156, Tryz.ntmps156
  go_wp2_with fail
  refine (CN.out _).mono ?_
  rintro e wx ⟨rfl, rfl⟩
  go_wp2_with fail
  go_region_held3 (fun w' => w'.cell? ⟨mb, 0, none⟩ = some (.pointer (some ⟨xb, 0, none⟩)) ∧ w'.cell? ⟨mb, 1, none⟩ = some (.int .i64 m.bucket) ∧ w'.cell? ⟨mb, 6, none⟩ = some (.int .i64 m.now)) (go_keep)
    (first
      | (go_at_call 106; first | (with_reducible refine (CL.out _).mono ?_; rintro e wl ⟨rfl, rfl⟩) | (with_reducible refine (CK.out _).mono ?_; rintro e wl ⟨rfl, rfl⟩))
      | (go_at_call 146; refine (C.out w.drew ((Keep.refl [] w).drew)).mono ?_; rintro e w2 ⟨rfl, h2, k2⟩; have d0 := k2.cell (show w.drew.cell? ⟨mb, 0, none⟩ = _ from c0) OFF.out; have d1 := k2.cell (show w.drew.cell? ⟨mb, 1, none⟩ = _ from c1) OFF.out; have d6 := k2.cell (show w.drew.cell? ⟨mb, 6, none⟩ = _ from c6) OFF.out; have H2 := Lib.hid (And.intro h2 k2); clear h2 k2))
  have R2 : RecQ w2 xb mb m.bucket m.slot 5 m.word m.ahead m.now false m.code m.marked m.helped := H2.out.2.old (show w.drew.heap[mb]? = _ from RR.out) OFF.out
  have KK := Lib.hid (((Keep.refl [] w).drew.mono (by simp)).trans (H2.out.2.mono (fun x hx => List.mem_cons_of_mem _ hx)) : Keep (mb :: xb :: hb :: rBlocks b sg qv bs) w w2)
  have e3 : w2.cell? ⟨mb, 3, none⟩ = some (.int .i64 5) := (cell_of R2 3).trans rfl
  have e2 : w2.cell? ⟨mb, 2, none⟩ = some (.int .i64 m.slot) := (cell_of R2 2).trans rfl
  have e6 : w2.cell? ⟨mb, 6, none⟩ = some (.int .i64 m.now) := (cell_of R2 6).trans rfl
  have e10 : w2.cell? ⟨mb, 10, none⟩ = some (.int .i64 m.helped) := (cell_of R2 10).trans rfl
  have z3 := free_of R2 3
  have z10 := free_of R2 10
  have RR2 := Lib.hid R2
  clear R2 d0 d1 d6 c0 c1 c2 c4 c5 c6 x0 x1
  cases ok
  · skip
    have T := Lib.hid (HS.out.trans (by simp : _ = (X', A, { m with at_ := 3 }, false)))
    go_wp2_with fail
    go_ret
    rw [T.out]
    exact ⟨rfl, rq_end HI.out rfl H2.out.1 KK.out (keep_set (Keep.refl [mb] w2) (List.mem_singleton.2 rfl) _ _) (m' := { m with at_ := 3 }) ((set_same RR2.out 3 (.int .i64 3)).trans rfl) (fun _ => rfl) (fun h => by simp at h)⟩
  · go_wp2_with fail
    go_quiet (fail)
    obtain ⟨wy, hwy⟩ : ∃ wy, wy = w2.drewN nq := ⟨_, rfl⟩
    have ky : Keep [] w2 wy := by rw [hwy]; exact (Keep.refl _ _).drewN _
    rw [← hwy]
    clear hwy e2 e3 e6 e10 z3 z10
    have H3 := Lib.hid (And.intro (H2.out.1.keep ky (by simp)) (KK.out.trans (ky.mono (by simp))))
    have R3 : RecQ wy xb mb m.bucket m.slot 5 m.word m.ahead m.now false m.code m.marked m.helped := ky.old RR2.out (by simp)
    have e10 : wy.cell? ⟨mb, 10, none⟩ = some (.int .i64 m.helped) := (cell_of R3 10).trans rfl
    have z10 := free_of R3 10
    have RR3 := Lib.hid R3
    clear R3 ky
    by_cases hw : m.now = m.slot
    · have hw' : (m.now == m.slot) = true := by simpa using hw
      have HW := Lib.hid hw
      clear hw
      have T := Lib.hid (HS.out.trans (by simp [HW.out] : _ = (X', A, m.over 0, true)))
      go_wp2_with fail
      refine (overQ RR3.out 0).mono ?_
      rintro e w4 ⟨rfl, r4, k4⟩
      have H4 := Lib.hid (And.intro r4 k4)
      clear r4 k4
      go_wp2_with fail
      go_ret
      rw [T.out]
      exact ⟨rfl, over_end HI.out H3.out.1 H3.out.2 H4.out.2 H4.out.1⟩
    · have hw' : (m.now == m.slot) = false := by simpa using hw
      have W3 := Lib.hid (set_same RR3.out 10 (.int .i64 (wrap64 (m.helped + 1))))
      have T := Lib.hid (HS.out.trans (by simp [hw] : _ = (X', A, (({ m with helped := wrap64 (m.helped + 1) } : MR).come nn).1, (({ m with helped := wrap64 (m.helped + 1) } : MR).come nn).2)))
      go_wp2_with fail
      refine (presentQ (hp := wrap64 (m.helped + 1)) (W3.out.trans rfl) nn).mono ?_
      rintro e w4 ⟨rfl, r4, k4⟩
      have H4 := Lib.hid (And.intro r4 k4)
      obtain ⟨bb, hbb⟩ : ∃ bb, bb = beyond nn := ⟨_, rfl⟩
      rw [← hbb]
      have HB := Lib.hid hbb
      clear r4 k4 hbb
      go_wp2_with fail
      go_ret
      rw [T.out]
      exact ⟨by rw [come_done, ← HB.out]; rfl, present_end HI.out H3.out.1 H3.out.2 ((keep_set (Keep.refl [mb] wy) (List.mem_singleton.2 rfl) _ _).trans H4.out.2) (m' := { m with helped := wrap64 (m.helped + 1) }) H4.out.1⟩
set_option maxHeartbeats 4000000 in
theorem swapQ1 (h : EnvR w b sg sc qv bs xb hb hc X A Q) (hi : RemQ w (rBlocks b sg qv bs) xb hb mb m) (hat : m.at_ = 5) (hh : X.has m.bucket = true) (hwv : okL m.word) (hnw : 0 ≤ m.now ∧ m.now ≤ 4352) (hah : m.ahead ≠ 0) :
    Calls Tryz.prog 156 #[.pointer (some ⟨mb, 0, none⟩)] w (StepsQ w b sg sc qv bs xb hb hc mb X A Q m) := by
  obtain ⟨av, wd, R, hav, hwd⟩ := hi.hm
  obtain rfl : av = 5 := (hav (by omega)).trans (by rw [hat]; rfl)
  obtain ⟨x0, x1⟩ := sees_xr h
  have c0 : w.cell? ⟨mb, 0, none⟩ = some (.pointer (some ⟨xb, 0, none⟩)) := (cell_of R 0).trans rfl
  rw [decide_eq_false (by omega)] at R
  obtain rfl : wd = m.word := hwd (.inr hat)
  have c1 : w.cell? ⟨mb, 1, none⟩ = some (.int .i64 m.bucket) := (cell_of R 1).trans rfl
  have c2 : w.cell? ⟨mb, 2, none⟩ = some (.int .i64 m.slot) := (cell_of R 2).trans rfl
  have c4 : w.cell? ⟨mb, 4, none⟩ = some (.int .u64 m.word) := (cell_of R 4).trans rfl
  have c5 : w.cell? ⟨mb, 5, none⟩ = some (.int .i64 m.ahead) := (cell_of R 5).trans rfl
  have c6 : w.cell? ⟨mb, 6, none⟩ = some (.int .i64 m.now) := (cell_of R 6).trans rfl
  obtain ⟨nn, hnn⟩ : ∃ nn, nn = numL m.word := ⟨_, rfl⟩
  have hrn := num_ok hwv
  rw [← hnn] at hrn
  have hah' : (m.ahead == 0) = false := by simpa using hah
  obtain ⟨A', ok, er, hld⟩ : ∃ A' ok er, casA A m.ahead X.cell (lk m.now) (lk nn) = (A', ok, er) := ⟨_, _, _, rfl⟩
  have hs : stepR X A m = if er = 0 then (if ok then (if m.now = m.slot then (X, A', m.over 0, true) else (X, A', (({ m with helped := wrap64 (m.helped + 1) } : MR).come nn).1, (({ m with helped := wrap64 (m.helped + 1) } : MR).come nn).2)) else (X, A', { m with at_ := 3 }, false)) else (X, A', m.over er, true) := by
    unfold stepR
    rw [hat, ← hnn]
    simp only [swA, hah, if_false, hld]
  have C : Hid (∀ wx, Keep [] w wx → Calls Tryz.prog 153 #[.pointer (some ⟨b, 0, none⟩), .int .i64 m.ahead, .int .i64 X.cell, .int .u64 (lk m.now), .int .u64 (lk nn)] wx fun e w' => e = .returned (.tuple #[.bool ok, .int .i64 er]) ∧ EnvR w' b sg sc qv bs xb hb hc X A' Q ∧ Keep (rBlocks b sg qv bs) wx w') := Lib.hid fun wx k => by
    have q := Ra.casR (h.ar.keep k (by simp)) m.ahead X.cell h.cell (lk m.now) (lk nn)
    rw [hld] at q
    refine q.mono ?_
    rintro e w' ⟨rfl, ha, k'⟩
    have hw : A'.width = A.width := by have := cas_width A m.ahead X.cell (lk m.now) (lk nn); rw [hld] at this; exact this
    exact ⟨rfl, ⟨ha, (h.ix.keep k (by simp)).keep k' (fun x hx => ⟨fun e => h.offx (e ▸ hx), fun e => h.offh (e ▸ hx)⟩), h.offx, h.offh, by rw [hw]; exact h.cell⟩, k'⟩
  have CN : Hid (∀ wx, Calls Tryz.prog 149 #[.int .u64 m.word] wx fun e w' => e = .returned (.int .i64 nn) ∧ wx = w') := Lib.hid fun wx => by rw [hnn]; exact number_ m.word wx hwv
  have CL : Hid (∀ wx : World, Calls Tryz.prog 106 #[.int .i64 m.now] wx fun e w' => e = .returned (.int .u64 (lk m.now)) ∧ wx = w') := Lib.hid fun wx => word_ m.now wx hnw.1 hnw.2
  have CK : Hid (∀ wx : World, Calls Tryz.prog 106 #[.int .i64 nn] wx fun e w' => e = .returned (.int .u64 (lk nn)) ∧ wx = w') := Lib.hid fun wx => word_ nn wx hrn.1 hrn.2
  have HI := Lib.hid hi
  obtain ⟨t, ht⟩ : ∃ t, t = stepR X A m := ⟨_, rfl⟩
  have HS := Lib.hid (ht.trans hs)
  unfold StepsQ
  rw [← ht]
  have RR := Lib.hid R
  have OFF : Hid (mb ∉ xb :: hb :: rBlocks b sg qv bs) := Lib.hid (by simp [hi.off])
  have HNS := Lib.hid (Classical.em (m.now = m.slot))
  clear h hi hat hh hwv hnw hah R hav hwd hs ht hnn hrn hld
  go_enter Tryz.func156, Tryz.ntmps156
  go_wp2_with fail
  refine (CN.out _).mono ?_
  rintro e wx ⟨rfl, rfl⟩
  go_wp2_with fail
  go_region_held3 (fun w' => w'.cell? ⟨mb, 0, none⟩ = some (.pointer (some ⟨xb, 0, none⟩)) ∧ w'.cell? ⟨mb, 5, none⟩ = some (.int .i64 m.ahead) ∧ w'.cell? ⟨mb, 6, none⟩ = some (.int .i64 m.now) ∧ w'.cell? ⟨xb, 0, none⟩ = some (.pointer (some ⟨b, 0, none⟩)) ∧ w'.cell? ⟨xb, 1, none⟩ = some (.int .i64 X.cell)) (go_keep)
    (first
      | (go_at_call 106; first | (with_reducible refine (CL.out _).mono ?_; rintro e wl ⟨rfl, rfl⟩) | (with_reducible refine (CK.out _).mono ?_; rintro e wl ⟨rfl, rfl⟩))
      | (go_at_call 153; refine (C.out w.drew ((Keep.refl [] w).drew)).mono ?_; rintro e w2 ⟨rfl, h2, k2⟩; obtain ⟨y0, y1⟩ := sees_xr h2; have d0 := k2.cell (show w.drew.cell? ⟨mb, 0, none⟩ = _ from c0) HI.out.off.1; have d5 := k2.cell (show w.drew.cell? ⟨mb, 5, none⟩ = _ from c5) HI.out.off.1; have d6 := k2.cell (show w.drew.cell? ⟨mb, 6, none⟩ = _ from c6) HI.out.off.1; have H2 := Lib.hid (And.intro h2 k2); clear h2 k2))
  have R2 : RecQ w2 xb mb m.bucket m.slot 5 m.word m.ahead m.now false m.code m.marked m.helped := H2.out.2.old (show w.drew.heap[mb]? = _ from RR.out) HI.out.off.1
  have KK := Lib.hid (((Keep.refl [] w).drew.mono (by simp)).trans (H2.out.2.mono (fun x hx => by simp [hx])) : Keep (mb :: xb :: hb :: rBlocks b sg qv bs) w w2)
  have e3 : w2.cell? ⟨mb, 3, none⟩ = some (.int .i64 5) := (cell_of R2 3).trans rfl
  have e2 : w2.cell? ⟨mb, 2, none⟩ = some (.int .i64 m.slot) := (cell_of R2 2).trans rfl
  have e6 : w2.cell? ⟨mb, 6, none⟩ = some (.int .i64 m.now) := (cell_of R2 6).trans rfl
  have e10 : w2.cell? ⟨mb, 10, none⟩ = some (.int .i64 m.helped) := (cell_of R2 10).trans rfl
  have z3 := free_of R2 3
  have z10 := free_of R2 10
  have RR2 := Lib.hid R2
  clear R2 d0 d5 d6 y0 y1 c0 c1 c2 c4 c5 c6 x0 x1
  by_cases he : er = 0
  · subst he
    cases ok
    · skip
      have T := Lib.hid (HS.out.trans (by simp : _ = (X, A', { m with at_ := 3 }, false)))
      go_wp2_with fail
      go_ret
      rw [T.out]
      exact ⟨rfl, rq_end HI.out rfl H2.out.1 KK.out (keep_set (Keep.refl [mb] w2) (List.mem_singleton.2 rfl) _ _) (m' := { m with at_ := 3 }) ((set_same RR2.out 3 (.int .i64 3)).trans rfl) (fun _ => rfl) (fun h => by simp at h)⟩
    · go_wp2_with fail
      go_quiet (fail)
      obtain ⟨wy, hwy⟩ : ∃ wy, wy = w2.drewN nq := ⟨_, rfl⟩
      have ky : Keep [] w2 wy := by rw [hwy]; exact (Keep.refl _ _).drewN _
      rw [← hwy]
      clear hwy e2 e3 e6 e10 z3 z10
      have H3 := Lib.hid (And.intro (H2.out.1.keep ky (by simp)) (KK.out.trans (ky.mono (by simp))))
      have R3 : RecQ wy xb mb m.bucket m.slot 5 m.word m.ahead m.now false m.code m.marked m.helped := ky.old RR2.out (by simp)
      have e10 : wy.cell? ⟨mb, 10, none⟩ = some (.int .i64 m.helped) := (cell_of R3 10).trans rfl
      have z10 := free_of R3 10
      have RR3 := Lib.hid R3
      clear R3 ky
      by_cases hw : m.now = m.slot
      · have hw' : (m.now == m.slot) = true := by simpa using hw
        have HW := Lib.hid hw
        clear hw
        have T := Lib.hid (HS.out.trans (by simp [HW.out] : _ = (X, A', m.over 0, true)))
        go_wp2_with fail
        refine (overQ RR3.out 0).mono ?_
        rintro e w4 ⟨rfl, r4, k4⟩
        have H4 := Lib.hid (And.intro r4 k4)
        clear r4 k4
        go_wp2_with fail
        go_ret
        rw [T.out]
        exact ⟨rfl, over_end HI.out H3.out.1 H3.out.2 H4.out.2 H4.out.1⟩
      · have hw' : (m.now == m.slot) = false := by simpa using hw
        have W3 := Lib.hid (set_same RR3.out 10 (.int .i64 (wrap64 (m.helped + 1))))
        have T := Lib.hid (HS.out.trans (by simp [hw] : _ = (X, A', (({ m with helped := wrap64 (m.helped + 1) } : MR).come nn).1, (({ m with helped := wrap64 (m.helped + 1) } : MR).come nn).2)))
        go_wp2_with fail
        refine (presentQ (hp := wrap64 (m.helped + 1)) (W3.out.trans rfl) nn).mono ?_
        rintro e w4 ⟨rfl, r4, k4⟩
        have H4 := Lib.hid (And.intro r4 k4)
        obtain ⟨bb, hbb⟩ : ∃ bb, bb = beyond nn := ⟨_, rfl⟩
        rw [← hbb]
        have HB := Lib.hid hbb
        clear r4 k4 hbb
        go_wp2_with fail
        go_ret
        rw [T.out]
        exact ⟨by rw [come_done, ← HB.out]; rfl, present_end HI.out H3.out.1 H3.out.2 ((keep_set (Keep.refl [mb] wy) (List.mem_singleton.2 rfl) _ _).trans H4.out.2) (m' := { m with helped := wrap64 (m.helped + 1) }) H4.out.1⟩
  · have he' : (er != 0) = true := by simpa using he
    have T := Lib.hid (HS.out.trans (by rw [if_neg he] : _ = (X, A', m.over er, true)))
    go_wp2_with fail
    refine (overQ RR2.out er).mono ?_
    rintro e w4 ⟨rfl, r4, k4⟩
    have H4 := Lib.hid (And.intro r4 k4)
    clear r4 k4
    go_wp2_with fail
    go_ret
    rw [T.out]
    exact ⟨rfl, over_end HI.out H2.out.1 KK.out H4.out.2 H4.out.1⟩
end
end Go.Proofs.YtgagiggljlikbaaGreat.Rc
