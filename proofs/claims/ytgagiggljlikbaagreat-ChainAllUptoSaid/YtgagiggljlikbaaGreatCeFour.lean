/- The arena's methods at entries: Load, Store, CompareAndSwap. -/
import Derived.Test.YtgagiggljlikbaaGreatCeThree
namespace Go.Proofs.YtgagiggljlikbaaGreat.En
open Go.RowKit Go.Proofs.YtgagiggljlikbaaGreat.Mem Go.Proofs.YtgagiggljlikbaaGreat.Ar Go.MuLone
set_option linter.unusedVariables false

variable {mu : Int} {w : World} {L : Bk} {A : Arena Ent}

theorem At.of0 (h : At mu w L A) {w' : World} (k : Keep [] w w') : At mu w' L A := h.keep k (by simp)
theorem k0 {w w' : World} {S : List Nat} (k : Keep [] w w') : Keep S w w' := k.mono (by simp)

def missed {α : Type} (A : Arena α) : Arena α := { A with miss := wrap64 (A.miss + 1) }
def counted {α : Type} (A : Arena α) : Arena α := { A with acc := wrap64 (A.acc + 1) }

theorem load_ok (h : At mu w L A) (slot cell : Int) (hin : inUseB A slot = true) (hc0 : 0 ≤ cell) (hc : cell < A.width) :
    Calls Tryz.prog 44 #[.pointer (some ⟨L.b, 0, none⟩), .int .i64 slot, .int .i64 cell] w fun e w' => e = .returned (.tuple #[.int .u64 (nth A.words (wordAt A slot.toNat cell.toNat) 0), .int .i64 0]) ∧ At mu w' L (counted A) ∧ Keep L.blocks w w' := by
  obtain ⟨s, hs, hs1, hs2, _⟩ := fits_lt hin
  have hw := wordAt_lt h.fits hs1 hs2 (c := cell.toNat) (by omega)
  have Hs := Lib.hid hs; clear hs
  have Hw := Lib.hid hw; clear hw
  have H := Lib.hid hin; clear hin
  have HA := Lib.hid h; clear h
  go_enter Tryz.func44, Tryz.ntmps44
  go_wp2_with fail
  refine (cell_ok HA.out slot cell H.out hc0 hc).mono ?_
  rintro e w1 ⟨rfl, k1⟩
  have H1 := Lib.hid (At.of0 HA.out k1)
  go_wp2_with fail
  refine (Atom.add64 L.b 4 A.acc 1 _ (c4 H1.out) (fz H1.out 4)).mono ?_
  rintro e w2 ⟨rfl, hw2⟩
  have H2 := Lib.hid (H1.out.setAcc (wrap64 (A.acc + 1)))
  have K2 := Lib.hid ((k0 (S := L.blocks) k1).set (.inl (inB L)) 4 (.int .i64 (wrap64 (A.acc + 1))))
  subst hw2
  go_wp2_with fail
  refine (Atom.load64 L.bw (wordAt A slot.toNat cell.toNat) _ _ (cw (A := counted A) H2.out (by have e := Hs.out; have := Hw.out; simp only [e, Int.toNat_natCast, counted] at *; exact this))).mono ?_
  rintro e w3 ⟨rfl, rfl⟩
  go_wp2_with fail
  go_ret2
  exact ⟨rfl, H2.out, K2.out⟩

/-- what a call on a cell is refused with (0: it is not) -/
def cellErr {α : Type} (A : Arena α) (slot cell : Int) : Int := if inUseB A slot then (if 0 ≤ cell ∧ cell < A.width then 0 else 23) else 22

theorem cellErr_ok {α : Type} {A : Arena α} {slot cell : Int} (h : cellErr A slot cell = 0) : inUseB A slot = true ∧ 0 ≤ cell ∧ cell < A.width := by
  unfold cellErr at h
  split at h
  · split at h
    · rename_i h1 h2; exact ⟨h1, h2⟩
    · cases h
  · cases h

theorem cell_err (h : At mu w L A) (slot cell : Int) (hne : ¬ cellErr A slot cell = 0) :
    Calls Tryz.prog 76 #[.pointer (some ⟨L.b, 0, none⟩), .int .i64 slot, .int .i64 cell] w fun e w' => e = .returned (.tuple #[.pointer none, .int .i64 (cellErr A slot cell)]) ∧ At mu w' L (held A slot) ∧ Keep L.blocks w w' := by
  cases hin : inUseB A slot with
  | false =>
    refine (cell_no h slot cell hin).mono fun e w' ⟨he, h1, k1⟩ => ?_
    subst he
    simp only [cellErr, held, hin, Bool.false_eq_true, if_false]
    exact ⟨trivial, h1, k1⟩
  | true =>
    have hc : cell < 0 ∨ A.width ≤ cell := by
      apply Decidable.byContradiction
      intro hh
      apply hne
      simp only [cellErr, hin, if_true]
      rw [if_pos (by omega)]
    refine (cell_bad h slot cell hin hc).mono fun e w' ⟨he, hw⟩ => ?_
    subst he; subst hw
    simp only [cellErr, held, hin, if_true]
    rw [if_neg (by omega)]
    exact ⟨rfl, h, Keep.refl _ _⟩

theorem load_err (h : At mu w L A) (slot cell : Int) (hne : ¬ cellErr A slot cell = 0) :
    Calls Tryz.prog 44 #[.pointer (some ⟨L.b, 0, none⟩), .int .i64 slot, .int .i64 cell] w fun e w' => e = .returned (.tuple #[.int .u64 0, .int .i64 (cellErr A slot cell)]) ∧ At mu w' L (held A slot) ∧ Keep L.blocks w w' := by
  have H := cell_err h slot cell hne
  have hb : (cellErr A slot cell != 0) = true := by simpa using hne
  generalize cellErr A slot cell = x at *
  have HC := Lib.hid H; clear H hne h
  go_enter Tryz.func44, Tryz.ntmps44
  go_wp2_with fail
  refine HC.out.mono ?_
  rintro e w1 ⟨rfl, h1, k1⟩
  have H1 := Lib.hid h1; clear h1
  go_wp2_with fail
  go_ret2
  exact ⟨rfl, H1.out, k1⟩

theorem store_ok (h : At mu w L A) (slot cell x : Int) (hin : inUseB A slot = true) (hc0 : 0 ≤ cell) (hc : cell < A.width) :
    Calls Tryz.prog 165 #[.pointer (some ⟨L.b, 0, none⟩), .int .i64 slot, .int .i64 cell, .int .u64 x] w fun e w' => e = .returned (.int .i64 0) ∧ At mu w' L { counted A with words := A.words.set (wordAt A slot.toNat cell.toNat) x } ∧ Keep L.blocks w w' := by
  obtain ⟨s, hs, hs1, hs2, _⟩ := fits_lt hin
  have hw := wordAt_lt h.fits hs1 hs2 (c := cell.toNat) (by omega)
  have Hs := Lib.hid hs; clear hs
  have Hw := Lib.hid hw; clear hw
  have H := Lib.hid hin; clear hin
  have HA := Lib.hid h; clear h
  go_enter Tryz.func165, Tryz.ntmps165
  go_wp2_with fail
  refine (cell_ok HA.out slot cell H.out hc0 hc).mono ?_
  rintro e w1 ⟨rfl, k1⟩
  have H1 := Lib.hid (At.of0 HA.out k1)
  go_wp2_with fail
  refine (Atom.add64 L.b 4 A.acc 1 _ (c4 H1.out) (fz H1.out 4)).mono ?_
  rintro e w2 ⟨rfl, hw2⟩
  have H2 := Lib.hid (H1.out.setAcc (wrap64 (A.acc + 1)))
  have K2 := Lib.hid ((k0 (S := L.blocks) k1).set (.inl (inB L)) 4 (.int .i64 (wrap64 (A.acc + 1))))
  subst hw2
  go_wp2_with fail
  refine (Atom.store64 L.bw (wordAt A slot.toNat cell.toNat) _ x _ (cw (A := counted A) H2.out (by have e := Hs.out; have := Hw.out; simp only [e, Int.toNat_natCast, counted] at *; exact this)) (fw H2.out _)).mono ?_
  rintro e w3 ⟨rfl, hw3⟩
  have H3 := Lib.hid (H2.out.setWord (wordAt A slot.toNat cell.toNat) x)
  have K3 := Lib.hid (K2.out.set (.inl (inW L)) (wordAt A slot.toNat cell.toNat) (.int .u64 x))
  subst hw3
  go_wp2_with fail
  go_ret
  exact ⟨rfl, H3.out, K3.out⟩

theorem store_err (h : At mu w L A) (slot cell x : Int) (hne : ¬ cellErr A slot cell = 0) :
    Calls Tryz.prog 165 #[.pointer (some ⟨L.b, 0, none⟩), .int .i64 slot, .int .i64 cell, .int .u64 x] w fun e w' => e = .returned (.int .i64 (cellErr A slot cell)) ∧ At mu w' L (held A slot) ∧ Keep L.blocks w w' := by
  have H := cell_err h slot cell hne
  have hb : (cellErr A slot cell != 0) = true := by simpa using hne
  generalize cellErr A slot cell = x at *
  have HC := Lib.hid H; clear H hne h
  go_enter Tryz.func165, Tryz.ntmps165
  go_wp2_with fail
  refine HC.out.mono ?_
  rintro e w1 ⟨rfl, h1, k1⟩
  have H1 := Lib.hid h1; clear h1
  go_wp2_with fail
  go_ret
  exact ⟨rfl, H1.out, k1⟩

theorem cas_hit (h : At mu w L A) (slot cell x y : Int) (hin : inUseB A slot = true) (hc0 : 0 ≤ cell) (hc : cell < A.width) (hx : nth A.words (wordAt A slot.toNat cell.toNat) 0 = x) :
    Calls Tryz.prog 168 #[.pointer (some ⟨L.b, 0, none⟩), .int .i64 slot, .int .i64 cell, .int .u64 x, .int .u64 y] w fun e w' => e = .returned (.tuple #[.bool true, .int .i64 0]) ∧ At mu w' L { counted A with words := A.words.set (wordAt A slot.toNat cell.toNat) y } ∧ Keep L.blocks w w' := by
  obtain ⟨s, hs, hs1, hs2, _⟩ := fits_lt hin
  have hw := wordAt_lt h.fits hs1 hs2 (c := cell.toNat) (by omega)
  have Hs := Lib.hid hs; clear hs
  have Hw := Lib.hid hw; clear hw
  have H := Lib.hid hin; clear hin
  have HA := Lib.hid h; clear h
  have HX := Lib.hid hx; clear hx
  go_enter Tryz.func168, Tryz.ntmps168
  go_wp2_with fail
  refine (cell_ok HA.out slot cell H.out hc0 hc).mono ?_
  rintro e w1 ⟨rfl, k1⟩
  have H1 := Lib.hid (At.of0 HA.out k1)
  go_wp2_with fail
  refine (Atom.add64 L.b 4 A.acc 1 _ (c4 H1.out) (fz H1.out 4)).mono ?_
  rintro e w2 ⟨rfl, hw2⟩
  have H2 := Lib.hid (H1.out.setAcc (wrap64 (A.acc + 1)))
  have K2 := Lib.hid ((k0 (S := L.blocks) k1).set (.inl (inB L)) 4 (.int .i64 (wrap64 (A.acc + 1))))
  subst hw2
  have hcell := cw (A := counted A) H2.out (i := wordAt A slot.toNat cell.toNat) (by have e := Hs.out; have := Hw.out; simp only [e, Int.toNat_natCast, counted] at *; exact this)
  have HC := Lib.hid hcell; clear hcell
  go_wp2_with fail
  refine (Atom.casHit L.bw (wordAt A slot.toNat cell.toNat) x y _ (by rw [← HX.out]; exact HC.out) (fw H2.out _)).mono ?_
  rintro e w3 ⟨rfl, hw3⟩
  have H3 := Lib.hid (H2.out.setWord (wordAt A slot.toNat cell.toNat) y)
  have K3 := Lib.hid (K2.out.set (.inl (inW L)) (wordAt A slot.toNat cell.toNat) (.int .u64 y))
  subst hw3
  go_wp2_with fail
  go_ret2
  exact ⟨rfl, H3.out, K3.out⟩

theorem cas_miss (h : At mu w L A) (slot cell x y : Int) (hin : inUseB A slot = true) (hc0 : 0 ≤ cell) (hc : cell < A.width) (hx : ¬ nth A.words (wordAt A slot.toNat cell.toNat) 0 = x) :
    Calls Tryz.prog 168 #[.pointer (some ⟨L.b, 0, none⟩), .int .i64 slot, .int .i64 cell, .int .u64 x, .int .u64 y] w fun e w' => e = .returned (.tuple #[.bool false, .int .i64 0]) ∧ At mu w' L (counted A) ∧ Keep L.blocks w w' := by
  obtain ⟨s, hs, hs1, hs2, _⟩ := fits_lt hin
  have hw := wordAt_lt h.fits hs1 hs2 (c := cell.toNat) (by omega)
  have Hs := Lib.hid hs; clear hs
  have Hw := Lib.hid hw; clear hw
  have H := Lib.hid hin; clear hin
  have HA := Lib.hid h; clear h
  have HX := Lib.hid hx; clear hx
  go_enter Tryz.func168, Tryz.ntmps168
  go_wp2_with fail
  refine (cell_ok HA.out slot cell H.out hc0 hc).mono ?_
  rintro e w1 ⟨rfl, k1⟩
  have H1 := Lib.hid (At.of0 HA.out k1)
  go_wp2_with fail
  refine (Atom.add64 L.b 4 A.acc 1 _ (c4 H1.out) (fz H1.out 4)).mono ?_
  rintro e w2 ⟨rfl, hw2⟩
  have H2 := Lib.hid (H1.out.setAcc (wrap64 (A.acc + 1)))
  have K2 := Lib.hid ((k0 (S := L.blocks) k1).set (.inl (inB L)) 4 (.int .i64 (wrap64 (A.acc + 1))))
  subst hw2
  have hcell := cw (A := counted A) H2.out (i := wordAt A slot.toNat cell.toNat) (by have e := Hs.out; have := Hw.out; simp only [e, Int.toNat_natCast, counted] at *; exact this)
  have HC := Lib.hid hcell; clear hcell
  go_wp2_with fail
  refine (Atom.casMiss L.bw (wordAt A slot.toNat cell.toNat) _ x y _ HC.out (fw H2.out _) HX.out).mono ?_
  rintro e w3 ⟨rfl, rfl⟩
  go_wp2_with fail
  go_ret2
  exact ⟨rfl, H2.out, K2.out⟩

theorem cas_err (h : At mu w L A) (slot cell x y : Int) (hne : ¬ cellErr A slot cell = 0) :
    Calls Tryz.prog 168 #[.pointer (some ⟨L.b, 0, none⟩), .int .i64 slot, .int .i64 cell, .int .u64 x, .int .u64 y] w fun e w' => e = .returned (.tuple #[.bool false, .int .i64 (cellErr A slot cell)]) ∧ At mu w' L (held A slot) ∧ Keep L.blocks w w' := by
  have H := cell_err h slot cell hne
  have hb : (cellErr A slot cell != 0) = true := by simpa using hne
  generalize cellErr A slot cell = x at *
  have HC := Lib.hid H; clear H hne h
  go_enter Tryz.func168, Tryz.ntmps168
  go_wp2_with fail
  refine HC.out.mono ?_
  rintro e w1 ⟨rfl, h1, k1⟩
  have H1 := Lib.hid h1; clear h1
  go_wp2_with fail
  go_ret2
  exact ⟨rfl, H1.out, k1⟩
end Go.Proofs.YtgagiggljlikbaaGreat.En
