/- The document's Insert in memory: its steps (begun: done, number 3). -/
import Derived.Test.YtgagiggljlikbaaGreatRcA
import Derived.Test.YtgagiggljlikbaaGreatChJ
namespace Go.Proofs.YtgagiggljlikbaaGreat.Rc
open Go.RowKit Go.Proofs.YtgagiggljlikbaaGreat.Mem Go.Proofs.YtgagiggljlikbaaGreat.Ar Go.Proofs.YtgagiggljlikbaaGreat.En Go.Proofs.YtgagiggljlikbaaGreat.Ch
open Go.Proofs.YtgagiggljlikbaaGreat.Ra (owns_block RAt rBlocks)
set_option linter.unusedVariables false
set_option linter.unusedSimpArgs false
set_option maxRecDepth 100000

/-- the document's arena and an index over it -/
structure EnvR (w : World) (b sg sc : Nat) (qv : Value) (bs : List (Option Nat)) (xb hb hc : Nat) (X : CI) (A : Ars) (Q : List Nat) : Prop where
  ar : RAt w b sg sc qv bs A Q
  ix : IdxR w b xb hb hc X
  offx : xb ∉ rBlocks b sg qv bs
  offh : hb ∉ rBlocks b sg qv bs
  cell : X.cell < A.width
def insCellsR (xb : Nat) (m : MI) (av : Int) : Array Value := #[.pointer (some ⟨xb, 0, none⟩), .int .i64 m.bucket, .int .i64 m.slot, .int .i64 av, .int .u64 m.head, .bool (decide (m.at_ = 0)), .int .i64 m.code, .int .i64 m.tries]
structure InsR (w : World) (Bl : List Nat) (xb hb mb : Nat) (m : MI) : Prop where
  hm : ∃ av, w.heap[mb]? = some (.cells (insCellsR xb m av) 189 (0, 0)) ∧ (m.at_ ≠ 0 → av = m.at_)
  off : mb ∉ Bl ∧ mb ≠ xb ∧ mb ≠ hb
section
variable {w w' : World} {b sg sc : Nat} {qv : Value} {bs : List (Option Nat)} {A A' : Ars} {Q : List Nat} {xb hb hc mb : Nat} {X X' : CI} {m : MI} {Bl : List Nat}
theorem InsR.keep (h : InsR w Bl xb hb mb m) {S : List Nat} (k : Keep S w w') (hS : mb ∉ S) : InsR w' Bl xb hb mb m := by
  obtain ⟨av, h1, h2⟩ := h.hm
  exact ⟨⟨av, k.old h1 hS, h2⟩, h.off⟩
theorem EnvR.keep (h : EnvR w b sg sc qv bs xb hb hc X A Q) {S : List Nat} (k : Keep S w w') (hS : ∀ x ∈ S, x ∉ rBlocks b sg qv bs ∧ x ≠ xb ∧ x ≠ hb) : EnvR w' b sg sc qv bs xb hb hc X A Q :=
  ⟨h.ar.keep k fun x hx => (hS x hx).1, h.ix.keep k fun x hx => (hS x hx).2, h.offx, h.offh, h.cell⟩
theorem overR (h : InsR w Bl xb hb mb m) (e : Int) :
    Calls Tryz.prog 142 #[.pointer (some ⟨mb, 0, none⟩), .int .i64 e] w fun r w' => r = .returned (.bool true) ∧ InsR w' Bl xb hb mb (m.over e) ∧ Keep [mb] w w' := by
  obtain ⟨av, hm, -⟩ := h.hm
  have c5 : w.cell? ⟨mb, 5, none⟩ = some (.bool (decide (m.at_ = 0))) := (cell_of hm 5).trans rfl
  have z5 := free_of hm 5
  have b1 := set_same hm 5 (.bool true)
  have c6 : (w.setCell ⟨mb, 5, none⟩ (.bool true)).cell? ⟨mb, 6, none⟩ = some (.int .i64 m.code) := (cell_of b1 6).trans rfl
  have z6 : (w.setCell ⟨mb, 5, none⟩ (.bool true)).frozen? ⟨mb, 6, none⟩ = false := free_of b1 6
  have H1 : InsR ((w.setCell ⟨mb, 5, none⟩ (.bool true)).setCell ⟨mb, 6, none⟩ (.int .i64 e)) Bl xb hb mb (m.over e) := by
    refine ⟨⟨av, ?_, fun h => by simp [MI.over] at h⟩, h.off⟩
    rw [set_same b1 6 (.int .i64 e)]
    rfl
  have K1 : Keep [mb] w ((w.setCell ⟨mb, 5, none⟩ (.bool true)).setCell ⟨mb, 6, none⟩ (.int .i64 e)) := ((Keep.refl _ _).set (.inl (by simp)) _ _).set (.inl (by simp)) _ _
  have HH := Lib.hid (And.intro H1 K1)
  clear h hm H1 K1 b1
  go_enter Tryz.func142, Tryz.ntmps142
  go_wp2_with fail
  go_ret
  exact ⟨rfl, HH.out⟩
def StepsR (w : World) (b sg sc : Nat) (qv : Value) (bs : List (Option Nat)) (xb hb hc mb : Nat) (X : CI) (A : Ars) (Q : List Nat) (m : MI) (r : Ending) (w' : World) : Prop :=
  r = .returned (.bool (stepI X A m).2.2.2) ∧ EnvR w' b sg sc qv bs xb hb hc (stepI X A m).1 (stepI X A m).2.1 Q ∧ InsR w' (rBlocks b sg qv bs) xb hb mb (stepI X A m).2.2.1 ∧ Keep (mb :: xb :: hb :: rBlocks b sg qv bs) w w'
theorem stepR0 (h : EnvR w b sg sc qv bs xb hb hc X A Q) (hi : InsR w (rBlocks b sg qv bs) xb hb mb m) (hat : m.at_ = 0) :
    Calls Tryz.prog 114 #[.pointer (some ⟨mb, 0, none⟩)] w (StepsR w b sg sc qv bs xb hb hc mb X A Q m) := by
  obtain ⟨av, hm, -⟩ := hi.hm
  have c0 : w.cell? ⟨mb, 0, none⟩ = some (.pointer (some ⟨xb, 0, none⟩)) := (cell_of hm 0).trans rfl
  have c5 : w.cell? ⟨mb, 5, none⟩ = some (.bool (decide (m.at_ = 0))) := (cell_of hm 5).trans rfl
  rw [decide_eq_true hat] at c5
  have hs : stepI X A m = (X, A, m, true) := by simp only [stepI, hat]
  have HH := Lib.hid (And.intro h hi)
  unfold StepsR
  rw [hs]
  clear h hi hm hat hs
  go_enter Tryz.func114, Tryz.ntmps114
  go_wp2_with fail
  go_ret
  exact ⟨rfl, HH.out.1, HH.out.2, Keep.refl _ _⟩

/-- what a step reads -/
theorem sees_r (h : EnvR w b sg sc qv bs xb hb hc X A Q) (hi : InsR w (rBlocks b sg qv bs) xb hb mb m) (hat : m.at_ ≠ 0) :
    w.cell? ⟨mb, 0, none⟩ = some (.pointer (some ⟨xb, 0, none⟩)) ∧ w.cell? ⟨mb, 1, none⟩ = some (.int .i64 m.bucket) ∧ w.cell? ⟨mb, 2, none⟩ = some (.int .i64 m.slot) ∧ w.cell? ⟨mb, 3, none⟩ = some (.int .i64 m.at_) ∧ w.cell? ⟨mb, 4, none⟩ = some (.int .u64 m.head) ∧ w.cell? ⟨mb, 5, none⟩ = some (.bool false) ∧
      w.cell? ⟨xb, 0, none⟩ = some (.pointer (some ⟨b, 0, none⟩)) ∧ w.cell? ⟨xb, 1, none⟩ = some (.int .i64 X.cell) ∧ w.frozen? ⟨mb, 3, none⟩ = false := by
  obtain ⟨av, hm, ha⟩ := hi.hm
  have hav := ha hat
  refine ⟨(cell_of hm 0).trans rfl, (cell_of hm 1).trans rfl, (cell_of hm 2).trans rfl, ?_, (cell_of hm 4).trans rfl, ?_, (cell_of h.ix.hx 0).trans rfl, (cell_of h.ix.hx 1).trans rfl, free_of hm 3⟩
  · have : w.cell? ⟨mb, 3, none⟩ = some (.int .i64 av) := (cell_of hm 3).trans rfl
    rw [this, hav]
  · have : w.cell? ⟨mb, 5, none⟩ = some (.bool (decide (m.at_ = 0))) := (cell_of hm 5).trans rfl
    rw [this, decide_eq_false hat]
theorem InsR.next (h : InsR w Bl xb hb mb m) (k : Nat) (hk : k ≠ 0) (hat : m.at_ ≠ 0) : InsR (w.setCell ⟨mb, 3, none⟩ (.int .i64 k)) Bl xb hb mb { m with at_ := k } := by
  obtain ⟨av, hm, -⟩ := h.hm
  refine ⟨⟨k, ?_, fun _ => rfl⟩, h.off⟩
  rw [set_same hm]
  unfold insCellsR
  simp [hk, hat]
set_option maxHeartbeats 4000000 in
theorem stepR1 (h : EnvR w b sg sc qv bs xb hb hc X A Q) (hi : InsR w (rBlocks b sg qv bs) xb hb mb m) (hat : m.at_ = 1) :
    Calls Tryz.prog 114 #[.pointer (some ⟨mb, 0, none⟩)] w (StepsR w b sg sc qv bs xb hb hc mb X A Q m) := by
  obtain ⟨c0, c1, c2, c3, c4, c5, x0, x1, z3⟩ := sees_r h hi (by omega)
  rw [hat] at c3
  have c3' : w.cell? ⟨mb, 3, none⟩ = some (.int .i64 1) := c3
  clear c3
  have HI := Lib.hid hi
  have HH : Hid (Calls Tryz.prog 141 #[.pointer (some ⟨xb, 0, none⟩), .int .i64 m.bucket] w fun e w' => e = .returned (.bool (X.has m.bucket)) ∧ w = w') := Lib.hid (hasR h.ix m.bucket)
  obtain ⟨hv, hhv⟩ : ∃ v, v = X.has m.bucket := ⟨_, rfl⟩
  rw [← hhv] at HH
  obtain ⟨A', wv, er, hld⟩ : ∃ A' wv er, ldA A m.slot X.cell = (A', wv, er) := ⟨_, _, _, rfl⟩
  have hs : stepI X A m = if hv = true then (if er = 0 then (if wv = 0 then (X, A', { m with at_ := 2 }, false) else (X, A', m.over 41, true)) else (X, A', m.over er, true)) else (X, A, m.over 40, true) := by
    simp only [stepI, hat, hhv, hld]
  have C : Hid (∀ wx, Keep [] w wx → Calls Tryz.prog 143 #[.pointer (some ⟨b, 0, none⟩), .int .i64 m.slot, .int .i64 X.cell] wx fun e w' => e = .returned (.tuple #[.int .u64 wv, .int .i64 er]) ∧ EnvR w' b sg sc qv bs xb hb hc X A' Q ∧ InsR w' (rBlocks b sg qv bs) xb hb mb m ∧ Keep (rBlocks b sg qv bs) wx w') := Lib.hid fun wx k => by
    have q := Ra.ldR (h.ar.keep k (by simp)) m.slot X.cell h.cell
    rw [hld] at q
    refine q.mono ?_
    rintro e w' ⟨rfl, ha, k'⟩
    have hw : A'.width = A.width := by
      have : A' = (ldA A m.slot X.cell).1 := by rw [hld]
      rw [this]
      unfold ldA
      split <;> rfl
    exact ⟨rfl, ⟨ha, (h.ix.keep k (by simp)).keep k' (fun x hx => ⟨fun e => h.offx (e ▸ hx), fun e => h.offh (e ▸ hx)⟩), h.offx, h.offh, by rw [hw]; exact h.cell⟩, (hi.keep k (by simp)).keep k' hi.off.1, k'⟩
  have HE := Lib.hid h
  have HAT := Lib.hid hat
  unfold StepsR
  rw [hs]
  clear h hi hld hs hat hhv
  go_enter Tryz.func114, Tryz.ntmps114
  go_wp2_with fail
  refine HH.out.mono ?_
  rintro e w' ⟨rfl, rfl⟩
  cases hv
  · go_wp2_with fail
    refine (overR HI.out 40).mono ?_
    rintro e w4 ⟨rfl, i4, k4⟩
    have H4 := Lib.hid (And.intro i4 k4)
    clear i4 k4 c0 c1 c2 c3' c4 c5 x0 x1 z3
    go_wp2_with fail
    go_ret
    exact ⟨rfl, HE.out.keep H4.out.2 (fun x hx => by rw [List.mem_singleton.1 hx]; exact HI.out.off), H4.out.1, H4.out.2.mono (by simp)⟩
  · go_wp2_with fail
    go_region_held3 (fun w' => w'.cell? ⟨mb, 0, none⟩ = some (.pointer (some ⟨xb, 0, none⟩)) ∧ w'.cell? ⟨mb, 2, none⟩ = some (.int .i64 m.slot) ∧ w'.cell? ⟨xb, 0, none⟩ = some (.pointer (some ⟨b, 0, none⟩)) ∧ w'.cell? ⟨xb, 1, none⟩ = some (.int .i64 X.cell)) (go_keep)
      (first
        | (go_at_call 143; refine (C.out w.drew ((Keep.refl [] w).drew)).mono ?_; rintro e w2 ⟨rfl, h2, i2, k2⟩; obtain ⟨d0, d1, d2, d3, d4, d5, y0, y1, zz3⟩ := sees_r h2 i2 (by have := HAT.out; omega); have H2 := Lib.hid (And.intro h2 (And.intro i2 k2)); clear h2 i2 k2))
    have KK := Lib.hid (((Keep.refl [] w).drew.mono (by simp)).trans (H2.out.2.2.mono (fun x hx => by simp [hx])) : Keep (mb :: xb :: hb :: rBlocks b sg qv bs) w w2)
    clear d0 d1 d2 d4 d5 y0 y1 c0 c1 c2 c3' c4 c5 x0 x1 z3
    by_cases he : er = 0
    · subst he
      by_cases hw : wv = 0
      · subst hw
        go_wp2_with fail
        go_ret
        have k4 : Keep [mb] w2 (w2.setCell ⟨mb, 3, none⟩ (.int .i64 (2 : Nat))) := (Keep.refl _ _).set (.inl (by simp)) 3 _
        exact ⟨rfl, H2.out.1.keep k4 (fun x hx => by rw [List.mem_singleton.1 hx]; exact HI.out.off), H2.out.2.1.next 2 (by omega) (by have := HAT.out; omega), KK.out.trans (k4.mono (by simp))⟩
      · have hw' : (wv == 0) = false := by simpa using hw
        go_wp2_with fail
        refine (overR H2.out.2.1 41).mono ?_
        rintro e w4 ⟨rfl, i4, k4⟩
        have H4 := Lib.hid (And.intro i4 k4)
        clear i4 k4 d3 zz3
        go_wp2_with fail
        go_ret
        exact ⟨rfl, H2.out.1.keep H4.out.2 (fun x hx => by rw [List.mem_singleton.1 hx]; exact HI.out.off), H4.out.1, KK.out.trans (H4.out.2.mono (by simp))⟩
    · have he' : (er == 0) = false := by simpa using he
      go_wp2_with fail
      refine (overR H2.out.2.1 er).mono ?_
      rintro e w4 ⟨rfl, i4, k4⟩
      have H4 := Lib.hid (And.intro i4 k4)
      clear i4 k4 d3 zz3
      go_wp2_with fail
      go_ret
      exact ⟨rfl, H2.out.1.keep H4.out.2 (fun x hx => by rw [List.mem_singleton.1 hx]; exact HI.out.off), H4.out.1, KK.out.trans (H4.out.2.mono (by simp))⟩

set_option maxHeartbeats 4000000 in
theorem stepR3 (h : EnvR w b sg sc qv bs xb hb hc X A Q) (hi : InsR w (rBlocks b sg qv bs) xb hb mb m) (hat : m.at_ = 3) (hb' : X.has m.bucket = true) :
    Calls Tryz.prog 114 #[.pointer (some ⟨mb, 0, none⟩)] w (StepsR w b sg sc qv bs xb hb hc mb X A Q m) := by
  obtain ⟨c0, c1, c2, c3, c4, c5, x0, x1, z3⟩ := sees_r h hi (by omega)
  rw [hat] at c3
  have c3' : w.cell? ⟨mb, 3, none⟩ = some (.int .i64 3) := c3
  clear c3
  have HI := Lib.hid hi
  have HH : Hid (Calls Tryz.prog 141 #[.pointer (some ⟨xb, 0, none⟩), .int .i64 m.bucket] w fun e w' => e = .returned (.bool true) ∧ w = w') := Lib.hid (by rw [← hb']; exact hasR h.ix m.bucket)
  obtain ⟨A', er, hst⟩ : ∃ A' er, stA A m.slot X.cell m.head = (A', er) := ⟨_, _, rfl⟩
  have hs : stepI X A m = if er = 0 then (X, A', { m with at_ := 4 }, false) else (X, A', m.over er, true) := by
    simp only [stepI, hat, hst]
  have C : Hid (∀ wx, Keep [] w wx → Calls Tryz.prog 145 #[.pointer (some ⟨b, 0, none⟩), .int .i64 m.slot, .int .i64 X.cell, .int .u64 m.head] wx fun e w' => e = .returned (.int .i64 er) ∧ EnvR w' b sg sc qv bs xb hb hc X A' Q ∧ InsR w' (rBlocks b sg qv bs) xb hb mb m ∧ Keep (rBlocks b sg qv bs) wx w') := Lib.hid fun wx k => by
    have q := Ra.stR (h.ar.keep k (by simp)) m.slot X.cell h.cell m.head
    rw [hst] at q
    refine q.mono ?_
    rintro e w' ⟨rfl, ha, k'⟩
    have hw : A'.width = A.width := by
      have : A' = (stA A m.slot X.cell m.head).1 := by rw [hst]
      rw [this]
      unfold stA
      split <;> rfl
    exact ⟨rfl, ⟨ha, (h.ix.keep k (by simp)).keep k' (fun x hx => ⟨fun e => h.offx (e ▸ hx), fun e => h.offh (e ▸ hx)⟩), h.offx, h.offh, by rw [hw]; exact h.cell⟩, (hi.keep k (by simp)).keep k' hi.off.1, k'⟩
  have HAT := Lib.hid hat
  unfold StepsR
  rw [hs]
  clear h hi hst hs hat hb'
  go_enter Tryz.func114, Tryz.ntmps114
  go_wp2_with fail
  refine HH.out.mono ?_
  rintro e w' ⟨rfl, rfl⟩
  go_wp2_with fail
  go_region_held3 (fun w' => w'.cell? ⟨mb, 0, none⟩ = some (.pointer (some ⟨xb, 0, none⟩)) ∧ w'.cell? ⟨mb, 2, none⟩ = some (.int .i64 m.slot) ∧ w'.cell? ⟨mb, 4, none⟩ = some (.int .u64 m.head) ∧ w'.cell? ⟨xb, 0, none⟩ = some (.pointer (some ⟨b, 0, none⟩)) ∧ w'.cell? ⟨xb, 1, none⟩ = some (.int .i64 X.cell)) (go_keep)
    (first
      | (go_at_call 145; refine (C.out w.drew ((Keep.refl [] w).drew)).mono ?_; rintro e w2 ⟨rfl, h2, i2, k2⟩; obtain ⟨d0, d1, d2, d3, d4, d5, y0, y1, zz3⟩ := sees_r h2 i2 (by have := HAT.out; omega); have H2 := Lib.hid (And.intro h2 (And.intro i2 k2)); clear h2 i2 k2))
  have KK := Lib.hid (((Keep.refl [] w).drew.mono (by simp)).trans (H2.out.2.2.mono (fun x hx => by simp [hx])) : Keep (mb :: xb :: hb :: rBlocks b sg qv bs) w w2)
  clear d0 d1 d2 d4 d5 y0 y1 c0 c1 c2 c3' c4 c5 x0 x1 z3
  by_cases he : er = 0
  · subst he
    go_wp2_with fail
    go_ret
    have k4 : Keep [mb] w2 (w2.setCell ⟨mb, 3, none⟩ (.int .i64 (4 : Nat))) := (Keep.refl _ _).set (.inl (by simp)) 3 _
    exact ⟨rfl, H2.out.1.keep k4 (fun x hx => by rw [List.mem_singleton.1 hx]; exact HI.out.off), H2.out.2.1.next 4 (by omega) (by have := HAT.out; omega), KK.out.trans (k4.mono (by simp))⟩
  · have he' : (er == 0) = false := by simpa using he
    go_wp2_with fail
    refine (overR H2.out.2.1 er).mono ?_
    rintro e w4 ⟨rfl, i4, k4⟩
    have H4 := Lib.hid (And.intro i4 k4)
    clear i4 k4 d3 zz3
    go_wp2_with fail
    go_ret
    exact ⟨rfl, H2.out.1.keep H4.out.2 (fun x hx => by rw [List.mem_singleton.1 hx]; exact HI.out.off), H4.out.1, KK.out.trans (H4.out.2.mono (by simp))⟩

set_option maxHeartbeats 4000000 in
theorem stepR4 (h : EnvR w b sg sc qv bs xb hb hc X A Q) (hi : InsR w (rBlocks b sg qv bs) xb hb mb m) (hat : m.at_ = 4) (hb' : X.has m.bucket = true) (hsl : 0 ≤ m.slot ∧ m.slot ≤ 4352) :
    Calls Tryz.prog 114 #[.pointer (some ⟨mb, 0, none⟩)] w (StepsR w b sg sc qv bs xb hb hc mb X A Q m) := by
  obtain ⟨c0, c1, c2, c3, c4, c5, x0, x1, z3⟩ := sees_r h hi (by omega)
  rw [hat] at c3
  have c3' : w.cell? ⟨mb, 3, none⟩ = some (.int .i64 4) := c3
  clear c3
  have HI := Lib.hid hi
  have HH : Hid (Calls Tryz.prog 141 #[.pointer (some ⟨xb, 0, none⟩), .int .i64 m.bucket] w fun e w' => e = .returned (.bool true) ∧ w = w') := Lib.hid (by rw [← hb']; exact hasR h.ix m.bucket)
  obtain ⟨X', hX'⟩ : ∃ X', X' = if X.head m.bucket = m.head then X.tick.put m.bucket (lk m.slot) else X.tick := ⟨_, rfl⟩
  obtain ⟨ok, hok⟩ : ∃ ok, ok = decide (X.head m.bucket = m.head) := ⟨_, rfl⟩
  have hs : stepI X A m = if ok = true then (X', A, m.over 0, true) else (X', A, { m with at_ := 2, tries := wrap64 (m.tries + 1) }, false) := by
    unfold stepI
    rw [hat, hX', hok]
    by_cases hx : X.head m.bucket = m.head <;> simp [hx]
  have C : Hid (∀ wx, Keep [] w wx → Calls Tryz.prog 146 #[.pointer (some ⟨xb, 0, none⟩), .int .i64 m.bucket, .int .u64 m.head, .int .u64 (lk m.slot)] wx fun e w' => e = .returned (.bool ok) ∧ EnvR w' b sg sc qv bs xb hb hc X' A Q ∧ InsR w' (rBlocks b sg qv bs) xb hb mb m ∧ Keep (mb :: xb :: hb :: rBlocks b sg qv bs) wx w') := Lib.hid fun wx k => by
    have q := swappedR (h.ix.keep k (by simp)) m.bucket hb' m.head (lk m.slot)
    rw [← hX', ← hok] at q
    refine q.mono ?_
    rintro e w' ⟨rfl, hx, k'⟩
    have hcc : X'.cell = X.cell := by rw [hX']; split <;> rfl
    refine ⟨rfl, ⟨(h.ar.keep k (by simp)).keep k' (fun x hx => ?_), hx, h.offx, h.offh, by rw [hcc]; exact h.cell⟩, (hi.keep k (by simp)).keep k' (by simpa using ⟨hi.off.2.1, hi.off.2.2⟩), k'.mono (fun x hx => ?_)⟩
    · simp only [List.mem_cons, List.not_mem_nil, or_false] at hx
      rcases hx with rfl | rfl
      · exact h.offx
      · exact h.offh
    · simp only [List.mem_cons, List.not_mem_nil, or_false] at hx
      rcases hx with rfl | rfl <;> simp
  have HL : Hid (∀ wx : World, Calls Tryz.prog 106 #[.int .i64 m.slot] wx fun e w' => e = .returned (.int .u64 (lk m.slot)) ∧ wx = w') := Lib.hid fun wx => word_ m.slot wx hsl.1 hsl.2
  have HAT := Lib.hid hat
  unfold StepsR
  rw [hs]
  clear h hi hs hat hX' hok hb' hsl
  go_enter Tryz.func114, Tryz.ntmps114
  go_wp2_with fail
  refine HH.out.mono ?_
  rintro e w' ⟨rfl, rfl⟩
  go_wp2_with fail
  go_region_held3 (fun w' => w'.cell? ⟨mb, 1, none⟩ = some (.int .i64 m.bucket) ∧ w'.cell? ⟨mb, 2, none⟩ = some (.int .i64 m.slot) ∧ w'.cell? ⟨mb, 4, none⟩ = some (.int .u64 m.head)) (go_keep)
    (first
      | (go_at_call 106; refine (HL.out _).mono ?_; rintro e wl ⟨rfl, rfl⟩)
      | (go_at_call 146; refine (C.out w.drew ((Keep.refl [] w).drew)).mono ?_; rintro e w2 ⟨rfl, h2, i2, k2⟩; obtain ⟨d0, d1, d2, d3, d4, d5, y0, y1, zz3⟩ := sees_r h2 i2 (by have := HAT.out; omega); have H2 := Lib.hid (And.intro h2 (And.intro i2 k2)); clear h2 i2 k2))
  have KK := Lib.hid (((Keep.refl [] w).drew.mono (by simp)).trans H2.out.2.2 : Keep (mb :: xb :: hb :: rBlocks b sg qv bs) w w2)
  obtain ⟨av, b2, hav⟩ := H2.out.2.1.hm
  have e7 : w2.cell? ⟨mb, 7, none⟩ = some (.int .i64 m.tries) := (cell_of b2 7).trans rfl
  have z7 := free_of b2 7
  clear d0 d1 d2 d4 d5 y0 y1 c0 c1 c2 c3' c4 c5 x0 x1 z3
  cases ok
  · have b3 := set_same b2 7 (.int .i64 (wrap64 (m.tries + 1)))
    have f3 : (w2.setCell ⟨mb, 7, none⟩ (.int .i64 (wrap64 (m.tries + 1)))).cell? ⟨mb, 3, none⟩ = _ := (cell_off (by omega)).trans d3
    have g3 : (w2.setCell ⟨mb, 7, none⟩ (.int .i64 (wrap64 (m.tries + 1)))).frozen? ⟨mb, 3, none⟩ = false := free_of b3 3
    have B2 := Lib.hid b2
    clear b2 b3 hav
    go_wp2_with fail
    go_ret
    have k4 : Keep [mb] w2 ((w2.setCell ⟨mb, 7, none⟩ (.int .i64 (wrap64 (m.tries + 1)))).setCell ⟨mb, 3, none⟩ (.int .i64 2)) := ((Keep.refl _ _).set (.inl (by simp)) _ _).set (.inl (by simp)) 3 _
    refine ⟨rfl, H2.out.1.keep k4 (fun x hx => by rw [List.mem_singleton.1 hx]; exact HI.out.off), ⟨⟨2, ?_, fun _ => rfl⟩, HI.out.off⟩, KK.out.trans (k4.mono (by simp))⟩
    have := set_same (set_same B2.out 7 (.int .i64 (wrap64 (m.tries + 1)))) 3 (.int .i64 2)
    refine this.trans ?_
    have h4 := HAT.out
    unfold insCellsR
    simp [h4]
  · clear b2 e7 z7 hav
    go_wp2_with fail
    refine (overR H2.out.2.1 0).mono ?_
    rintro e w4 ⟨rfl, i4, k4⟩
    have H4 := Lib.hid (And.intro i4 k4)
    clear i4 k4 d3 zz3
    go_wp2_with fail
    go_ret
    exact ⟨rfl, H2.out.1.keep H4.out.2 (fun x hx => by rw [List.mem_singleton.1 hx]; exact HI.out.off), H4.out.1, KK.out.trans (H4.out.2.mono (by simp))⟩

set_option maxHeartbeats 4000000 in
theorem stepR2 (h : EnvR w b sg sc qv bs xb hb hc X A Q) (hi : InsR w (rBlocks b sg qv bs) xb hb mb m) (hat : m.at_ = 2) (hb' : X.has m.bucket = true) :
    Calls Tryz.prog 114 #[.pointer (some ⟨mb, 0, none⟩)] w (StepsR w b sg sc qv bs xb hb hc mb X A Q m) := by
  obtain ⟨c0, c1, c2, c3, c4, c5, x0, x1, z3⟩ := sees_r h hi (by omega)
  rw [hat] at c3
  have c3' : w.cell? ⟨mb, 3, none⟩ = some (.int .i64 2) := c3
  clear c3
  have HI := Lib.hid hi
  have HE := Lib.hid h
  have HH : Hid (Calls Tryz.prog 141 #[.pointer (some ⟨xb, 0, none⟩), .int .i64 m.bucket] w fun e w' => e = .returned (.bool true) ∧ w = w') := Lib.hid (by rw [← hb']; exact hasR h.ix m.bucket)
  have C := Lib.hid (loadedR h.ix m.bucket hb')
  have hs : stepI X A m = (X.tick, A, { m with at_ := 3, head := X.head m.bucket }, false) := by simp only [stepI, hat]
  have HAT := Lib.hid hat
  unfold StepsR
  rw [hs]
  clear h hi hs hat hb'
  go_enter Tryz.func114, Tryz.ntmps114
  go_wp2_with fail
  refine HH.out.mono ?_
  rintro e w' ⟨rfl, rfl⟩
  go_wp2_with fail
  refine C.out.mono ?_
  rintro e w2 ⟨rfl, hx, k2⟩
  obtain ⟨av, hm, ha⟩ := HI.out.hm
  have b2 := k2.old hm (by simpa using HI.out.off.2.1)
  have d4 : w2.cell? ⟨mb, 4, none⟩ = some (.int .u64 m.head) := (cell_of b2 4).trans rfl
  have z4 := free_of b2 4
  have b3 := set_same b2 4 (.int .u64 (X.head m.bucket))
  have f3 : (w2.setCell ⟨mb, 4, none⟩ (.int .u64 (X.head m.bucket))).cell? ⟨mb, 3, none⟩ = some (.int .i64 av) := (cell_of b3 3).trans rfl
  have g3 : (w2.setCell ⟨mb, 4, none⟩ (.int .u64 (X.head m.bucket))).frozen? ⟨mb, 3, none⟩ = false := free_of b3 3
  have B2 := Lib.hid b2
  have HX := Lib.hid (And.intro hx k2)
  clear hx k2 hm ha b2 b3 c0 c1 c2 c3' c4 c5 x0 x1 z3 C
  go_wp2_with fail
  go_ret
  have k4 : Keep [mb] w2 ((w2.setCell ⟨mb, 4, none⟩ (.int .u64 (X.head m.bucket))).setCell ⟨mb, 3, none⟩ (.int .i64 3)) := ((Keep.refl _ _).set (.inl (by simp)) _ _).set (.inl (by simp)) 3 _
  have henv : EnvR w2 b sg sc qv bs xb hb hc X.tick A Q := ⟨HE.out.ar.keep HX.out.2 (fun x hx => by rw [List.mem_singleton.1 hx]; exact HE.out.offx), HX.out.1, HE.out.offx, HE.out.offh, HE.out.cell⟩
  refine ⟨rfl, henv.keep k4 (fun x hx => by rw [List.mem_singleton.1 hx]; exact HI.out.off), ⟨⟨3, ?_, fun _ => rfl⟩, HI.out.off⟩, (HX.out.2.mono (by simp)).trans (k4.mono (by simp))⟩
  have := set_same (set_same B2.out 4 (.int .u64 (X.head m.bucket))) 3 (.int .i64 3)
  refine this.trans ?_
  have h4 := HAT.out
  unfold insCellsR
  simp [h4]
/-- the document's Insert.Step, whole -/
theorem step_insR (h : EnvR w b sg sc qv bs xb hb hc X A Q) (hi : InsR w (rBlocks b sg qv bs) xb hb mb m) (ho : okI X m) :
    Calls Tryz.prog 114 #[.pointer (some ⟨mb, 0, none⟩)] w (StepsR w b sg sc qv bs xb hb hc mb X A Q m) := by
  obtain ⟨o1, o2⟩ := ho
  have h5 : m.at_ = 0 ∨ m.at_ = 1 ∨ m.at_ = 2 ∨ m.at_ = 3 ∨ m.at_ = 4 := by omega
  rcases h5 with e | e | e | e | e
  · exact stepR0 h hi e
  · exact stepR1 h hi e
  · exact stepR2 h hi e (o2 (by omega)).1
  · exact stepR3 h hi e (o2 (by omega)).1
  · obtain ⟨b1, b2, b3⟩ := o2 (by omega)
    exact stepR4 h hi e b1 ⟨by omega, by omega⟩
end
end Go.Proofs.YtgagiggljlikbaaGreat.Rc
