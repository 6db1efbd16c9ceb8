/- The document's arena: Store, CAS, Accesses. -/
import Derived.Test.YtgagiggljlikbaaGreatRaB
namespace Go.Proofs.YtgagiggljlikbaaGreat.Ra
open Go.RowKit Go.Proofs.YtgagiggljlikbaaGreat.Mem Go.Proofs.YtgagiggljlikbaaGreat.Ar Go.Proofs.YtgagiggljlikbaaGreat.En
open Go.Proofs.YtgagiggljlikbaaGreat.Ch (ldA stA casA wordA putA)
set_option linter.unusedVariables false
set_option linter.unusedSimpArgs false
set_option maxRecDepth 100000

section
variable {w w' : World} {b sg sc : Nat} {qv : Value} {bs : List (Option Nat)} {A A' : Ars} {Q : List Nat}
theorem inW {s g : Nat} (h : nth bs s none = some g) : g ∈ rBlocks b sg qv bs := by
  have := nth_block h
  simp only [rBlocks, List.mem_cons, List.mem_append]
  exact .inr (.inr (.inr this))

theorem stR (h : RAt w b sg sc qv bs A Q) (slot : Int) (c : Nat) (hc : c < A.width) (v : Int) :
    Calls Tryz.prog 145 #[.pointer (some ⟨b, 0, none⟩), .int .i64 slot, .int .i64 c, .int .u64 v] w fun e w' => e = .returned (.int .i64 (stA A slot c v).2) ∧ RAt w' b sg sc qv bs (stA A slot c v).1 Q ∧ Keep (rBlocks b sg qv bs) w w' := by
  cases hin : inUseB A slot with
  | true =>
    obtain ⟨s, rfl, h1, h2, hu⟩ := in_slot hin
    have hl : stA A (s : Int) c v = (putA A s c v, 0) := by simp [stA, hin]
    have hr := reach_in h s hin c hc
    have HA := Lib.hid h
    have H3 := Lib.hid h.setAcc
    have e3 := h.c3
    have f3 := h.fz 3
    obtain ⟨wa, hwa⟩ : ∃ wa, wa = w.setCell ⟨b, 3, none⟩ (.int .i64 (wrap64 (A.acc + 1))) := ⟨_, rfl⟩
    have K3 : Hid (Keep (rBlocks b sg qv bs) w wa) := Lib.hid (by rw [hwa]; exact (Keep.refl _ _).set (.inl inB) _ _)
    rw [← hwa] at H3
    obtain ⟨g, hg, c4, -⟩ := H3.out.wordFacts h1 h2 hu
    obtain ⟨c5, f5⟩ := H3.out.wd hg hc
    have c1 : wa.cell? ⟨b, 1, none⟩ = some (.slice (some ⟨sg, 0, none⟩) (A.slots + 1) sc) := (H3.out.c1 :)
    have hsl := h.fits.s2
    have hw := h.fits.w2
    have c4' : wa.cell? ⟨sg, s * 6 + 4, none⟩ = some (.slice (some ⟨g, 0, none⟩) A.width A.width) := c4
    have H5 : Hid (RAt (wa.setCell ⟨g, c, none⟩ (.int .u64 v)) b sg sc qv bs (putA A s c v) Q) := Lib.hid (H3.out.setWord hg h1 h2 hc v)
    have K5 : Hid (Keep (rBlocks b sg qv bs) w (wa.setCell ⟨g, c, none⟩ (.int .u64 v))) := Lib.hid (K3.out.set (.inl (inW hg)) _ _)
    rw [hl]
    clear c4 h hg hu hin hl
    have HR := Lib.hid hr
    clear hr
    go_enter Tryz.func145, Tryz.ntmps145
    go_wp2_with fail
    refine HR.out.mono ?_
    clear HR
    rintro e w' ⟨rfl, rfl⟩
    go_upto_region 5 with fail
    rw [← hwa]
    clear hwa e3 f3
    go_wp2_with fail
    go_ret
    exact ⟨rfl, H5.out, K5.out⟩
  | false =>
    have hl : stA A slot c v = (missed A, 22) := by simp [stA, hin]
    have HR := Lib.hid (reach_no h slot hin c)
    rw [hl]
    clear h hin hl
    go_enter Tryz.func145, Tryz.ntmps145
    go_wp2_with fail
    refine HR.out.mono ?_
    clear HR
    rintro e w' ⟨rfl, h', k⟩
    have HR := Lib.hid (And.intro h' k)
    clear h' k
    go_wp2_with fail
    go_ret
    exact ⟨rfl, HR.out⟩

theorem casR (h : RAt w b sg sc qv bs A Q) (slot : Int) (c : Nat) (hc : c < A.width) (x y : Int) :
    Calls Tryz.prog 153 #[.pointer (some ⟨b, 0, none⟩), .int .i64 slot, .int .i64 c, .int .u64 x, .int .u64 y] w fun e w' => e = .returned (.tuple #[.bool (casA A slot c x y).2.1, .int .i64 (casA A slot c x y).2.2]) ∧ RAt w' b sg sc qv bs (casA A slot c x y).1 Q ∧ Keep (rBlocks b sg qv bs) w w' := by
  cases hin : inUseB A slot with
  | true =>
    obtain ⟨s, rfl, h1, h2, hu⟩ := in_slot hin
    have hr := reach_in h s hin c hc
    have HA := Lib.hid h
    have H3 := Lib.hid h.setAcc
    have e3 := h.c3
    have f3 := h.fz 3
    obtain ⟨wa, hwa⟩ : ∃ wa, wa = w.setCell ⟨b, 3, none⟩ (.int .i64 (wrap64 (A.acc + 1))) := ⟨_, rfl⟩
    have K3 : Hid (Keep (rBlocks b sg qv bs) w wa) := Lib.hid (by rw [hwa]; exact (Keep.refl _ _).set (.inl inB) _ _)
    rw [← hwa] at H3
    obtain ⟨g, hg, c4, -⟩ := H3.out.wordFacts h1 h2 hu
    obtain ⟨c5', f5⟩ := H3.out.wd hg hc
    obtain ⟨v, hv⟩ : ∃ v, v = nth A.words (wordAt A s c) 0 := ⟨_, rfl⟩
    have c5 : wa.cell? ⟨g, c, none⟩ = some (.int .u64 v) := by rw [hv]; exact c5'
    have c1 : wa.cell? ⟨b, 1, none⟩ = some (.slice (some ⟨sg, 0, none⟩) (A.slots + 1) sc) := (H3.out.c1 :)
    have hsl := h.fits.s2
    have hw := h.fits.w2
    have c4' : wa.cell? ⟨sg, s * 6 + 4, none⟩ = some (.slice (some ⟨g, 0, none⟩) A.width A.width) := c4
    have H5 : Hid (RAt (wa.setCell ⟨g, c, none⟩ (.int .u64 y)) b sg sc qv bs (putA A s c y) Q) := Lib.hid (H3.out.setWord hg h1 h2 hc y)
    have K5 : Hid (Keep (rBlocks b sg qv bs) w (wa.setCell ⟨g, c, none⟩ (.int .u64 y))) := Lib.hid (K3.out.set (.inl (inW hg)) _ _)
    by_cases hx : v = x
    · have hl : casA A (s : Int) c x y = (putA A s c y, true, 0) := by
        unfold casA wordA
        rw [if_pos hin, Int.toNat_natCast, ← hv, if_pos hx]
      rw [hl]
      subst hx
      clear c4 c5' h hg hu hin hl hv
      have HR := Lib.hid hr
      clear hr
      go_enter Tryz.func153, Tryz.ntmps153
      go_wp2_with fail
      refine HR.out.mono ?_
      clear HR
      rintro e w' ⟨rfl, rfl⟩
      go_upto_region 5 with fail
      rw [← hwa]
      clear hwa e3 f3
      go_wp2_with fail
      go_ret2
      exact ⟨rfl, H5.out, K5.out⟩
    · have hl : casA A (s : Int) c x y = (counted A, false, 0) := by
        unfold casA wordA
        rw [if_pos hin, Int.toNat_natCast, ← hv, if_neg hx]
      rw [hl]
      have hx' : (v == x) = false := by simpa using hx
      clear c4 c5' h hg hu hin hl hv hx
      have HR := Lib.hid hr
      clear hr
      go_enter Tryz.func153, Tryz.ntmps153
      go_wp2_with fail
      refine HR.out.mono ?_
      clear HR
      rintro e w' ⟨rfl, rfl⟩
      go_upto_region 5 with fail
      rw [← hwa]
      clear hwa e3 f3
      go_wp2_with fail
      go_ret2
      exact ⟨rfl, H3.out, K3.out⟩
  | false =>
    have hl : casA A slot c x y = (missed A, false, 22) := by simp [casA, hin]
    have HR := Lib.hid (reach_no h slot hin c)
    rw [hl]
    clear h hin hl
    go_enter Tryz.func153, Tryz.ntmps153
    go_wp2_with fail
    refine HR.out.mono ?_
    clear HR
    rintro e w' ⟨rfl, h', k⟩
    have HR := Lib.hid (And.intro h' k)
    clear h' k
    go_wp2_with fail
    go_ret2
    exact ⟨rfl, HR.out⟩

theorem accR (h : RAt w b sg sc qv bs A Q) :
    Calls Tryz.prog 123 #[.pointer (some ⟨b, 0, none⟩)] w fun e w' => e = .returned (.int .i64 A.acc) ∧ w = w' := by
  have e3 := h.c3
  clear h
  go_enter Tryz.func123, Tryz.ntmps123
  go_wp2_with fail
  go_ret
  exact ⟨rfl, rfl⟩
end
end Go.Proofs.YtgagiggljlikbaaGreat.Ra
