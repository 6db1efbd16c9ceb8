/- The document's Walk in memory: stop, ahead, Step. -/
import Derived.Test.YtgagiggljlikbaaGreatRcJ
import Derived.Test.YtgagiggljlikbaaGreatChN
namespace Go.Proofs.YtgagiggljlikbaaGreat.Rc
open Go.RowKit Go.Proofs.YtgagiggljlikbaaGreat.Mem Go.Proofs.YtgagiggljlikbaaGreat.Ar Go.Proofs.YtgagiggljlikbaaGreat.En Go.Proofs.YtgagiggljlikbaaGreat.Ch
open Go.Proofs.YtgagiggljlikbaaGreat.Ra (owns_block RAt rBlocks)
set_option linter.unusedVariables false
set_option linter.unusedSimpArgs false
set_option maxRecDepth 100000

/-- the document's walk's record -/
def RecV (w : World) (xb mb : Nat) (bk fr : Int) (wh ld : Bool) (nx sl : Int) (ov : Bool) (co : Int) : Prop :=
  w.heap[mb]? = some (.cells #[.pointer (some ⟨xb, 0, none⟩), .int .i64 bk, .int .i64 fr, .bool wh, .bool ld, .int .i64 nx, .int .i64 sl, .bool ov, .int .i64 co] 191 (0, 0))
def bkV (m : MW) : Int := if m.whole then m.bucket else 0
structure WlkV (w : World) (Bl : List Nat) (xb hb mb : Nat) (m : MW) : Prop where
  hm : ∃ ld nx, RecV w xb mb (bkV m) m.from_ m.whole ld nx m.slot m.ended m.code ∧ (m.ended = false → ld = !m.src ∧ (m.src = false → nx = m.next))
  off : mb ∉ Bl ∧ mb ≠ xb ∧ mb ≠ hb
section
variable {w w' w2 : World} {b sg sc : Nat} {qv : Value} {bs : List (Option Nat)} {A A' : Ars} {Q : List Nat} {xb hb hc mb : Nat} {X X' : CI} {m m' : MW} {Bl : List Nat} {bk fr nx sl co : Int} {wh ld ov : Bool} {wv er : Int}
theorem WlkV.keep (h : WlkV w Bl xb hb mb m) {S : List Nat} (k : Keep S w w') (hS : mb ∉ S) : WlkV w' Bl xb hb mb m := by
  obtain ⟨ld, nx, h1, h2⟩ := h.hm
  exact ⟨⟨ld, nx, k.old h1 hS, h2⟩, h.off⟩
theorem stopV (R : RecV w xb mb bk fr wh ld nx sl ov co) (e : Int) :
    Calls Tryz.prog 147 #[.pointer (some ⟨mb, 0, none⟩), .int .i64 e] w fun r w' => r = .returned (.bool true) ∧ RecV w' xb mb bk fr wh ld nx 0 true e ∧ Keep [mb] w w' := by
  have f6 : w.cell? ⟨mb, 6, none⟩ = some (.int .i64 sl) := (cell_of R 6).trans rfl
  have f7 : w.cell? ⟨mb, 7, none⟩ = some (.bool ov) := (cell_of R 7).trans rfl
  have f8 : w.cell? ⟨mb, 8, none⟩ = some (.int .i64 co) := (cell_of R 8).trans rfl
  have g6 := free_of R 6
  have g7 := free_of R 7
  have g8 := free_of R 8
  have RR := Lib.hid R
  clear R
  go_enter Tryz.func147, Tryz.ntmps147
  go_wp2_with fail
  go_ret
  exact ⟨rfl, (set_same (set_same (set_same RR.out 6 (.int .i64 0)) 7 (.bool true)) 8 (.int .i64 e)).trans rfl, keep_set (keep_set (keep_set (Keep.refl _ _) (by simp) _ _) (by simp) _ _) (by simp) _ _⟩
/-- ahead: the next number is an error, a slot's, or an end's -/
theorem aheadV0 (R : RecV w xb mb bk fr wh ld nx sl ov co) :
    Calls Tryz.prog 148 #[.pointer (some ⟨mb, 0, none⟩), .int .i64 0] w fun r w' => r = .returned (.bool true) ∧ RecV w' xb mb bk fr wh ld 0 0 true 42 ∧ Keep [mb] w w' := by
  have f5 : w.cell? ⟨mb, 5, none⟩ = some (.int .i64 nx) := (cell_of R 5).trans rfl
  have g5 := free_of R 5
  have R1 : RecV (w.setCell ⟨mb, 5, none⟩ (.int .i64 0)) xb mb bk fr wh ld 0 sl ov co := (set_same R 5 (.int .i64 0)).trans rfl
  have C := Lib.hid (stopV R1 42)
  clear R R1
  go_enter Tryz.func148, Tryz.ntmps148
  go_wp2_with fail
  refine C.out.mono ?_
  rintro e w2 ⟨rfl, h2, k2⟩
  have H2 := Lib.hid (And.intro h2 k2)
  clear h2 k2 C f5 g5
  go_wp2_with fail
  go_ret
  exact ⟨rfl, H2.out.1, (keep_set (Keep.refl _ _) (by simp) _ _).trans H2.out.2⟩
theorem aheadV1 (R : RecV w xb mb bk fr wh ld nx sl false co) {n : Int} (hn : n ≠ 0) (hby : beyond n = false) :
    Calls Tryz.prog 148 #[.pointer (some ⟨mb, 0, none⟩), .int .i64 n] w fun r w' => r = .returned (.bool (decide (sl ≠ 0))) ∧ RecV w' xb mb bk fr wh ld n sl false co ∧ Keep [mb] w w' := by
  have f5 : w.cell? ⟨mb, 5, none⟩ = some (.int .i64 nx) := (cell_of R 5).trans rfl
  have f6 : w.cell? ⟨mb, 6, none⟩ = some (.int .i64 sl) := (cell_of R 6).trans rfl
  have f7 : w.cell? ⟨mb, 7, none⟩ = some (.bool false) := (cell_of R 7).trans rfl
  have g5 := free_of R 5
  have hn' : (n == 0) = false := by simpa using hn
  have CB : Hid (∀ wx, Calls Tryz.prog 171 #[.int .i64 n] wx fun e w' => e = .returned (.bool false) ∧ wx = w') := Lib.hid fun wx => by rw [← hby]; exact end_ n wx
  have RR := Lib.hid R
  clear R hby
  go_enter Tryz.func148, Tryz.ntmps148
  go_wp2_with fail
  refine (CB.out _).mono ?_
  rintro e wx ⟨rfl, rfl⟩
  go_wp2_with fail
  go_ret
  exact ⟨by simp [bne, BEq.beq], (set_same RR.out 5 (.int .i64 n)).trans rfl, keep_set (Keep.refl _ _) (by simp) _ _⟩
theorem aheadV2 (R : RecV w xb mb bk fr wh ld nx sl false co) {n : Int} (hn : n ≠ 0) (hby : beyond n = true) (hbk : wh = true → 0 ≤ bk ∧ bk ≤ 1000000) :
    Calls Tryz.prog 148 #[.pointer (some ⟨mb, 0, none⟩), .int .i64 n] w fun r w' => r = .returned (.bool true) ∧ RecV w' xb mb bk fr wh ld n sl true (if wh && decide (n ≠ last bk) then 43 else co) ∧ Keep [mb] w w' := by
  have f1 : w.cell? ⟨mb, 1, none⟩ = some (.int .i64 bk) := (cell_of R 1).trans rfl
  have f3 : w.cell? ⟨mb, 3, none⟩ = some (.bool wh) := (cell_of R 3).trans rfl
  have f5 : w.cell? ⟨mb, 5, none⟩ = some (.int .i64 nx) := (cell_of R 5).trans rfl
  have f6 : w.cell? ⟨mb, 6, none⟩ = some (.int .i64 sl) := (cell_of R 6).trans rfl
  have f7 : w.cell? ⟨mb, 7, none⟩ = some (.bool false) := (cell_of R 7).trans rfl
  have f8 : w.cell? ⟨mb, 8, none⟩ = some (.int .i64 co) := (cell_of R 8).trans rfl
  have g5 := free_of R 5
  have g7 := free_of R 7
  have g8 := free_of R 8
  have hn' : (n == 0) = false := by simpa using hn
  have CB : Hid (∀ wx, Calls Tryz.prog 171 #[.int .i64 n] wx fun e w' => e = .returned (.bool true) ∧ wx = w') := Lib.hid fun wx => by rw [← hby]; exact end_ n wx
  have RR := Lib.hid R
  clear R hby
  cases wh
  · clear hbk
    go_enter Tryz.func148, Tryz.ntmps148
    go_wp2_with fail
    refine (CB.out _).mono ?_
    rintro e wx ⟨rfl, rfl⟩
    go_wp2_with fail
    go_ret
    exact ⟨rfl, (set_same (set_same RR.out 5 (.int .i64 n)) 7 (.bool true)).trans rfl, keep_set (keep_set (Keep.refl _ _) (by simp) _ _) (by simp) _ _⟩
  · obtain ⟨h1, h2⟩ := hbk rfl
    clear hbk
    by_cases hl : n = last bk
    · rw [show (decide (n ≠ last bk)) = false from by simp [hl]]
      have hl' : (n != 4097 + bk) = false := by have : n = 4097 + bk := hl; simp [this]
      clear hl
      go_enter Tryz.func148, Tryz.ntmps148
      go_wp2_with fail
      refine (CB.out _).mono ?_
      rintro e wx ⟨rfl, rfl⟩
      go_wp2_with fail
      go_ret
      exact ⟨rfl, (set_same (set_same RR.out 5 (.int .i64 n)) 7 (.bool true)).trans rfl, keep_set (keep_set (Keep.refl _ _) (by simp) _ _) (by simp) _ _⟩
    · rw [show (decide (n ≠ last bk)) = true from by simp [hl]]
      have hl' : (n != 4097 + bk) = true := by have : ¬ n = 4097 + bk := hl; simp [this]
      clear hl
      go_enter Tryz.func148, Tryz.ntmps148
      go_wp2_with fail
      refine (CB.out _).mono ?_
      rintro e wx ⟨rfl, rfl⟩
      go_wp2_with fail
      go_ret
      exact ⟨rfl, (set_same (set_same (set_same RR.out 5 (.int .i64 n)) 7 (.bool true)) 8 (.int .i64 43)).trans rfl, keep_set (keep_set (keep_set (Keep.refl _ _) (by simp) _ _) (by simp) _ _) (by simp) _ _⟩
/-- ahead, whole: what the number n makes of a walk that stands at sl -/
def AheadV (w : World) (xb mb : Nat) (bk fr : Int) (wh : Bool) (n sl co : Int) (r : Ending) (w' : World) : Prop :=
  Keep [mb] w w' ∧ ((n = 0 ∧ r = .returned (.bool true) ∧ RecV w' xb mb bk fr wh true 0 0 true 42) ∨
    (n ≠ 0 ∧ r = .returned (.bool (beyond n || decide (sl ≠ 0))) ∧ RecV w' xb mb bk fr wh true n sl (beyond n) (if beyond n && wh && decide (n ≠ last bk) then 43 else co)))
theorem aheadV (R : RecV w xb mb bk fr wh true nx sl false co) (n : Int) (hbk : wh = true → 0 ≤ bk ∧ bk ≤ 1000000) :
    Calls Tryz.prog 148 #[.pointer (some ⟨mb, 0, none⟩), .int .i64 n] w (AheadV w xb mb bk fr wh n sl co) := by
  by_cases hn : n = 0
  · subst hn
    refine (aheadV0 R).mono ?_
    rintro r w' ⟨rfl, h, k⟩
    exact ⟨k, .inl ⟨rfl, rfl, h⟩⟩
  · cases hby : beyond n with
    | false =>
      refine (aheadV1 R hn hby).mono ?_
      rintro r w' ⟨rfl, h, k⟩
      refine ⟨k, .inr ⟨hn, ?_, ?_⟩⟩
      · rw [hby]; rfl
      · rw [hby]; exact h
    | true =>
      refine (aheadV2 R hn hby hbk).mono ?_
      rintro r w' ⟨rfl, h, k⟩
      refine ⟨k, .inr ⟨hn, ?_, ?_⟩⟩
      · rw [hby]; rfl
      · rw [hby, Bool.true_and]; exact h
def StepsV (w : World) (b sg sc : Nat) (qv : Value) (bs : List (Option Nat)) (xb hb hc mb : Nat) (X : CI) (A : Ars) (Q : List Nat) (m : MW) (r : Ending) (w' : World) : Prop :=
  r = .returned (.bool (stepW X A m).2.2.2) ∧ EnvR w' b sg sc qv bs xb hb hc (stepW X A m).1 (stepW X A m).2.1 Q ∧ WlkV w' (rBlocks b sg qv bs) xb hb mb (stepW X A m).2.2.1 ∧ Keep (mb :: xb :: hb :: rBlocks b sg qv bs) w w'
theorem stepV0 (h : EnvR w b sg sc qv bs xb hb hc X A Q) (hi : WlkV w (rBlocks b sg qv bs) xb hb mb m) (he : m.ended = true) :
    Calls Tryz.prog 115 #[.pointer (some ⟨mb, 0, none⟩)] w (StepsV w b sg sc qv bs xb hb hc mb X A Q m) := by
  obtain ⟨ld, nx, R, -⟩ := hi.hm
  have f0 : w.cell? ⟨mb, 0, none⟩ = some (.pointer (some ⟨xb, 0, none⟩)) := (cell_of R 0).trans rfl
  have f6 : w.cell? ⟨mb, 6, none⟩ = some (.int .i64 m.slot) := (cell_of R 6).trans rfl
  have g6 := free_of R 6
  have f7 : (w.setCell ⟨mb, 6, none⟩ (.int .i64 0)).cell? ⟨mb, 7, none⟩ = some (.bool true) := by
    rw [cell_off (by omega), ← he]
    exact (cell_of R 7).trans rfl
  have hs : stepW X A m = (X, A, { m with slot := 0 }, true) := by simp only [stepW, he, if_true]
  have HI := Lib.hid hi
  have HE := Lib.hid h
  have RR := Lib.hid R
  have HD := Lib.hid he
  unfold StepsV
  rw [hs]
  clear h hi hs R he
  go_enter Tryz.func115, Tryz.ntmps115
  go_wp2_with fail
  go_ret
  have k4 : Keep [mb] w (w.setCell ⟨mb, 6, none⟩ (.int .i64 0)) := keep_set (Keep.refl _ _) (by simp) _ _
  refine ⟨rfl, HE.out.keep k4 (fun x hx => by rw [List.mem_singleton.1 hx]; exact HI.out.off), ⟨⟨ld, nx, (set_same RR.out 6 (.int .i64 0)).trans rfl, fun e => ?_⟩, HI.out.off⟩, k4.mono (by simp)⟩
  have : m.ended = false := e
  rw [HD.out] at this
  cases this
/-- behind a step -/
theorem wv_end (hi : WlkV w Bl xb hb mb m) (hB : Bl = rBlocks b sg qv bs) (h2 : EnvR w2 b sg sc qv bs xb hb hc X' A' Q) (k2 : Keep (mb :: xb :: hb :: Bl) w w2) (k : Keep [mb] w2 w') {ld : Bool} {nx : Int} (hr : RecV w' xb mb (bkV m') m'.from_ m'.whole ld nx m'.slot m'.ended m'.code)
    (hs : m'.ended = false → ld = !m'.src ∧ (m'.src = false → nx = m'.next)) :
    EnvR w' b sg sc qv bs xb hb hc X' A' Q ∧ WlkV w' Bl xb hb mb m' ∧ Keep (mb :: xb :: hb :: Bl) w w' := by
  subst hB
  exact ⟨h2.keep k (fun x hx => by rw [List.mem_singleton.1 hx]; exact hi.off), ⟨⟨ld, nx, hr, hs⟩, hi.off⟩, k2.trans (k.mono (by simp))⟩
theorem tail_ahead (hi : WlkV w (rBlocks b sg qv bs) xb hb mb m) (h2 : EnvR w2 b sg sc qv bs xb hb hc X' A' Q) (k2 : Keep (mb :: xb :: hb :: rBlocks b sg qv bs) w w2) {r : Ending} {w3 : World}
    (hsl : sl = if !m.src && !mkL wv then m.next else 0) (ha : AheadV w2 xb mb (bkV m) m.from_ m.whole (numL wv) sl m.code r w3) :
    r = .returned (.bool (tailW X' A' m wv 0).2.2.2) ∧ EnvR w3 b sg sc qv bs xb hb hc (tailW X' A' m wv 0).1 (tailW X' A' m wv 0).2.1 Q ∧ WlkV w3 (rBlocks b sg qv bs) xb hb mb (tailW X' A' m wv 0).2.2.1 ∧ Keep (mb :: xb :: hb :: rBlocks b sg qv bs) w w3 := by
  obtain ⟨k, ⟨h0, rfl, hr⟩ | ⟨h0, rfl, hr⟩⟩ := ha
  · have T : tailW X' A' m wv 0 = (X', A', { m with slot := 0, ended := true, code := 42 }, true) := by unfold tailW; rw [if_pos rfl, if_pos h0]
    rw [T]
    exact ⟨rfl, wv_end hi rfl h2 k2 k hr (fun e => by cases e)⟩
  · have T : tailW X' A' m wv 0 = (X', A', { m with src := false, next := numL wv, slot := sl, ended := beyond (numL wv), code := if beyond (numL wv) && m.whole && decide (numL wv ≠ last m.bucket) then 43 else m.code }, beyond (numL wv) || decide (sl ≠ 0)) := by
      unfold tailW
      rw [if_pos rfl, if_neg h0, ← hsl]
    rw [T]
    refine ⟨rfl, wv_end hi rfl h2 k2 k (nx := numL wv) (ld := true) ?_ (fun e => ⟨rfl, fun _ => rfl⟩)⟩
    have e : (if beyond (numL wv) && m.whole && decide (numL wv ≠ last (bkV m)) then (43 : Int) else m.code) = if beyond (numL wv) && m.whole && decide (numL wv ≠ last m.bucket) then 43 else m.code := by
      cases hw : m.whole
      · simp
      · simp [bkV, hw]
    rw [e] at hr
    exact hr
theorem tail_stop (hi : WlkV w (rBlocks b sg qv bs) xb hb mb m) (h2 : EnvR w2 b sg sc qv bs xb hb hc X' A' Q) (k2 : Keep (mb :: xb :: hb :: rBlocks b sg qv bs) w w2) {w3 : World} (he : er ≠ 0) (k : Keep [mb] w2 w3) {ld : Bool} {nx : Int} (hr : RecV w3 xb mb (bkV m) m.from_ m.whole ld nx 0 true er) :
    EnvR w3 b sg sc qv bs xb hb hc (tailW X' A' m wv er).1 (tailW X' A' m wv er).2.1 Q ∧ WlkV w3 (rBlocks b sg qv bs) xb hb mb (tailW X' A' m wv er).2.2.1 ∧ Keep (mb :: xb :: hb :: rBlocks b sg qv bs) w w3 ∧ (tailW X' A' m wv er).2.2.2 = true := by
  have T : tailW X' A' m wv er = (X', A', { m with slot := 0, ended := true, code := er }, true) := by unfold tailW; rw [if_neg he]
  rw [T]
  obtain ⟨h1, h2, h3⟩ := wv_end hi rfl h2 k2 k (m' := { m with slot := 0, ended := true, code := er }) hr (fun e => by cases e)
  exact ⟨h1, h2, h3, rfl⟩

end
end Go.Proofs.YtgagiggljlikbaaGreat.Rc
