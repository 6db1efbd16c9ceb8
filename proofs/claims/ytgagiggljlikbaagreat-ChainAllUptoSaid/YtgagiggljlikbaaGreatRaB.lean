/- The document's arena: Used, reach, Load, Store, CAS, Accesses: what each makes of it. -/
import Derived.Test.YtgagiggljlikbaaGreatRaA
import Derived.Test.YtgagiggljlikbaaGreatChA
namespace Go.Proofs.YtgagiggljlikbaaGreat.Ra
open Go.RowKit Go.Proofs.YtgagiggljlikbaaGreat.Mem Go.Proofs.YtgagiggljlikbaaGreat.Ar Go.Proofs.YtgagiggljlikbaaGreat.En
open Go.Proofs.YtgagiggljlikbaaGreat.Ch (ldA stA casA wordA putA)
set_option linter.unusedVariables false
set_option linter.unusedSimpArgs false
set_option maxRecDepth 100000

section
variable {w w' : World} {b sg sc : Nat} {qv : Value} {bs : List (Option Nat)} {A : Ars} {Q : List Nat}

theorem RAt.c0 (h : RAt w b sg sc qv bs A Q) : w.cell? ⟨b, 0, none⟩ = some (.int .i64 A.width) := (cell_of h.hb 0).trans rfl
theorem RAt.c1 (h : RAt w b sg sc qv bs A Q) : w.cell? ⟨b, 1, none⟩ = some (.slice (some ⟨sg, 0, none⟩) (A.slots + 1) sc) := (cell_of h.hb 1).trans rfl
theorem RAt.c2 (h : RAt w b sg sc qv bs A Q) : w.cell? ⟨b, 2, none⟩ = some qv := (cell_of h.hb 2).trans rfl
theorem RAt.c3 (h : RAt w b sg sc qv bs A Q) : w.cell? ⟨b, 3, none⟩ = some (.int .i64 A.acc) := (cell_of h.hb 3).trans rfl
theorem RAt.c4 (h : RAt w b sg sc qv bs A Q) : w.cell? ⟨b, 4, none⟩ = some (.int .i64 A.miss) := (cell_of h.hb 4).trans rfl
theorem RAt.fz (h : RAt w b sg sc qv bs A Q) (o : Nat) : w.frozen? ⟨b, o, none⟩ = false := free_of h.hb o
theorem RAt.sl (h : RAt w b sg sc qv bs A Q) {i : Nat} (hi : i ≤ A.slots) {j : Nat} (hj : j < 6) : w.cell? ⟨sg, i * 6 + j, none⟩ = (sRow A bs i)[j]? := by
  rw [h.hs.cellAt (i * 6 + j) (by omega), rows_at _ _ _ (by omega) hj]
theorem RAt.wd (h : RAt w b sg sc qv bs A Q) {s g c : Nat} (hg : nth bs s none = some g) (hc : c < A.width) : w.cell? ⟨g, c, none⟩ = some (.int .u64 (nth A.words (wordAt A s c) 0)) ∧ w.frozen? ⟨g, c, none⟩ = false := by
  refine ⟨?_, free_of (h.words s g hg) c⟩
  rw [cell_of (h.words s g hg)]
  simp [slotWords, hc]

theorem used (h : RAt w b sg sc qv bs A Q) (slot : Int) :
    Calls Tryz.prog 107 #[.pointer (some ⟨b, 0, none⟩), .int .i64 slot] w fun e w' => e = .returned (.bool (inUseB A slot)) ∧ w = w' := by
  have e1 := h.c1
  have hsl := h.fits.s2
  by_cases h1 : 1 ≤ slot
  · obtain ⟨s, rfl⟩ : ∃ s : Nat, slot = s := ⟨slot.toNat, by omega⟩
    by_cases h2 : s ≤ A.slots
    · have c0 : w.cell? ⟨sg, s * 6, none⟩ = some (.bool (nth A.used s false)) := (h.sl h2 (j := 0) (by omega)).trans rfl
      obtain ⟨u, hu⟩ : ∃ u, u = nth A.used s false := ⟨_, rfl⟩
      rw [← hu] at c0
      have hin : inUseB A (s : Int) = u := by
        rw [hu]
        unfold inUseB
        rw [Int.toNat_natCast]
        simp [h1, h2]
      have HA := Lib.hid h
      clear h hu
      go_enter Tryz.func107, Tryz.ntmps107
      go_wp2_with fail
      go_ret
      first | exact ⟨rfl, rfl⟩ | exact ⟨by rw [hin]; rfl, rfl⟩
    · have hin : inUseB A (s : Int) = false := by
        unfold inUseB
        simp [h2]
      clear h
      go_enter Tryz.func107, Tryz.ntmps107
      go_wp2_with fail
      go_ret
      first | exact ⟨rfl, rfl⟩ | exact ⟨by rw [hin]; rfl, rfl⟩
  · have hin : inUseB A slot = false := by
      unfold inUseB
      simp [h1]
    clear h
    go_enter Tryz.func107, Tryz.ntmps107
    go_wp2_with fail
    go_ret
    first | exact ⟨rfl, rfl⟩ | exact ⟨by rw [hin]; rfl, rfl⟩

theorem in_slot {slot : Int} (hin : inUseB A slot = true) : ∃ s : Nat, slot = s ∧ 1 ≤ s ∧ s ≤ A.slots ∧ nth A.used s false = true := by
  simp only [inUseB, Bool.and_eq_true, decide_eq_true_eq] at hin
  obtain ⟨⟨h1, h2⟩, h3⟩ := hin
  exact ⟨slot.toNat, by omega, by omega, by omega, h3⟩
theorem inB : b ∈ rBlocks b sg qv bs := by simp [rBlocks]

theorem missed_ (h : RAt w b sg sc qv bs A Q) :
    Calls Tryz.prog 108 #[.pointer (some ⟨b, 0, none⟩)] w fun e w' => e = .returned (.int .i64 22) ∧ RAt w' b sg sc qv bs (missed A) Q ∧ Keep (rBlocks b sg qv bs) w w' := by
  have e4 := h.c4
  have f4 := h.fz 4
  have HA := Lib.hid h
  clear h
  go_enter Tryz.func108, Tryz.ntmps108
  go_wp2_with fail
  go_ret
  exact ⟨rfl, HA.out.setMiss, (Keep.refl _ _).set (.inl inB) _ _⟩
theorem reach_in (h : RAt w b sg sc qv bs A Q) (slot : Int) (hin : inUseB A slot = true) (c : Nat) (hc : c < A.width) :
    Calls Tryz.prog 170 #[.pointer (some ⟨b, 0, none⟩), .int .i64 slot, .int .i64 c] w fun e w' => e = .returned (.int .i64 0) ∧ w = w' := by
  have e0 := h.c0
  have hw := h.fits.w2
  have HI := Lib.hid hin
  have HA := Lib.hid h
  clear h hin
  go_enter Tryz.func170, Tryz.ntmps170
  go_wp2_with fail
  refine (used HA.out slot).mono ?_
  rw [HI.out]
  rintro e w' ⟨rfl, rfl⟩
  go_wp2_with fail
  go_ret
  exact ⟨rfl, rfl⟩
theorem reach_no (h : RAt w b sg sc qv bs A Q) (slot : Int) (hin : inUseB A slot = false) (c : Nat) :
    Calls Tryz.prog 170 #[.pointer (some ⟨b, 0, none⟩), .int .i64 slot, .int .i64 c] w fun e w' => e = .returned (.int .i64 22) ∧ RAt w' b sg sc qv bs (missed A) Q ∧ Keep (rBlocks b sg qv bs) w w' := by
  have HI := Lib.hid hin
  have HA := Lib.hid h
  clear h hin
  go_enter Tryz.func170, Tryz.ntmps170
  go_wp2_with fail
  refine (used HA.out slot).mono ?_
  rw [HI.out]
  rintro e w' ⟨rfl, rfl⟩
  go_wp2_with fail
  refine (missed_ HA.out).mono ?_
  rintro e w' ⟨rfl, h', k⟩
  have HR := Lib.hid (And.intro h' k)
  clear h' k
  go_wp2_with fail
  go_ret
  exact ⟨rfl, HR.out⟩

/-- the facts that a word's read wants -/
theorem RAt.wordFacts (h : RAt w b sg sc qv bs A Q) {s : Nat} (h1 : 1 ≤ s) (h2 : s ≤ A.slots) (hu : nth A.used s false = true) : ∃ g, nth bs s none = some g ∧ w.cell? ⟨sg, s * 6 + 4, none⟩ = some (.slice (some ⟨g, 0, none⟩) A.width A.width) ∧ g ≠ b := by
  obtain ⟨g, hg⟩ := h.use s h1 h2 hu
  refine ⟨g, hg, ?_, fun e => ?_⟩
  · have := h.sl h2 (j := 4) (by omega)
    rw [this]
    simp [sRow, sCells, hg, wv]
  · exact ((h.sep.2.2.1 s g hg).1 e.symm)

theorem ldR (h : RAt w b sg sc qv bs A Q) (slot : Int) (c : Nat) (hc : c < A.width) :
    Calls Tryz.prog 143 #[.pointer (some ⟨b, 0, none⟩), .int .i64 slot, .int .i64 c] w fun e w' => e = .returned (.tuple #[.int .u64 (ldA A slot c).2.1, .int .i64 (ldA A slot c).2.2]) ∧ RAt w' b sg sc qv bs (ldA A slot c).1 Q ∧ Keep (rBlocks b sg qv bs) w w' := by
  cases hin : inUseB A slot with
  | true =>
    obtain ⟨s, rfl, h1, h2, hu⟩ := in_slot hin
    have hl : ldA A (s : Int) c = (counted A, nth A.words (wordAt A s c) 0, 0) := by simp [ldA, hin, wordA]
    have hr := reach_in h s hin c hc
    have HA := Lib.hid h
    have H3 := Lib.hid h.setAcc
    have e3 := h.c3
    have f3 := h.fz 3
    obtain ⟨wa, hwa⟩ : ∃ wa, wa = w.setCell ⟨b, 3, none⟩ (.int .i64 (wrap64 (A.acc + 1))) := ⟨_, rfl⟩
    have K3 : Hid (Keep (rBlocks b sg qv bs) w wa) := Lib.hid (by rw [hwa]; exact (Keep.refl _ _).set (.inl inB) _ _)
    rw [← hwa] at H3
    obtain ⟨g, hg, c4, -⟩ := H3.out.wordFacts h1 h2 hu
    have c5 : wa.cell? ⟨g, c, none⟩ = some (.int .u64 (nth A.words (wordAt A s c) 0)) := (H3.out.wd hg hc).1
    have c1 : wa.cell? ⟨b, 1, none⟩ = some (.slice (some ⟨sg, 0, none⟩) (A.slots + 1) sc) := (H3.out.c1 :)
    have hsl := h.fits.s2
    have hw := h.fits.w2
    have c4' : wa.cell? ⟨sg, s * 6 + 4, none⟩ = some (.slice (some ⟨g, 0, none⟩) A.width A.width) := c4
    rw [hl]
    clear c4 h hg hu hin hl
    have HR := Lib.hid hr
    clear hr
    go_enter Tryz.func143, Tryz.ntmps143
    go_wp2_with fail
    refine HR.out.mono ?_
    clear HR
    rintro e w' ⟨rfl, rfl⟩
    go_upto_region 5 with fail
    rw [← hwa]
    clear hwa e3 f3
    go_wp2_with fail
    go_ret2
    exact ⟨rfl, H3.out, K3.out⟩
  | false =>
    have hl : ldA A slot c = (missed A, 0, 22) := by simp [ldA, hin]
    have HR := Lib.hid (reach_no h slot hin c)
    rw [hl]
    clear h hin hl
    go_enter Tryz.func143, Tryz.ntmps143
    go_wp2_with fail
    refine HR.out.mono ?_
    clear HR
    rintro e w' ⟨rfl, h', k⟩
    have HR := Lib.hid (And.intro h' k)
    clear h' k
    go_wp2_with fail
    go_ret2
    exact ⟨rfl, HR.out⟩
end
end Go.Proofs.YtgagiggljlikbaaGreat.Ra
