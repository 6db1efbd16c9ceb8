/- The arena's methods at entries: cell, Load, Store, CAS, Free. -/
import Derived.Test.YtgagiggljlikbaaGreatCeTwo
namespace Go.Proofs.YtgagiggljlikbaaGreat.En
open Go.RowKit Go.Proofs.YtgagiggljlikbaaGreat.Mem Go.Proofs.YtgagiggljlikbaaGreat.Ar Go.MuLone
set_option linter.unusedVariables false

variable {mu : Int} {w : World} {L : Bk} {A : Arena Ent}

/-- the place of a cell among the words -/
def wordAt {α : Type} (A : Arena α) (s c : Nat) : Nat := (s - 1) * A.width + c

theorem wordAt_lt {α : Type} {A : Arena α} (h : Fits A) {s c : Nat} (h1 : 1 ≤ s) (h2 : s ≤ A.slots) (hc : c < A.width) : wordAt A s c < A.slots * A.width := by
  unfold wordAt
  have : s * A.width ≤ A.slots * A.width := Nat.mul_le_mul_right _ h2
  have e : s * A.width = (s - 1) * A.width + A.width := by
    obtain ⟨k, rfl⟩ : ∃ k, s = k + 1 := ⟨s - 1, by omega⟩
    rw [Nat.add_sub_cancel, Nat.succ_mul]
  omega

theorem size_le {α : Type} {A : Arena α} (h : Fits A) : A.slots * A.width ≤ 65536 := by
  have := Nat.mul_le_mul h.s2 h.w2
  omega

theorem wordAt_int {α : Type} {A : Arena α} (h : Fits A) {s c : Nat} (h1 : 1 ≤ s) (h2 : s ≤ A.slots) (hc : c < A.width) : ((s : Int) - 1) * (A.width : Int) + c = (wordAt A s c : Nat) ∧ 0 ≤ ((s : Int) - 1) * (A.width : Int) ∧ ((s : Int) - 1) * (A.width : Int) ≤ 65536 := by
  have hs := size_le h
  have hl := wordAt_lt h h1 h2 hc
  unfold wordAt at *
  have e : ((s : Int) - 1) * (A.width : Int) = (((s - 1) * A.width : Nat) : Int) := by
    rw [Int.natCast_mul]
    congr 1
    omega
  rw [e]
  omega

theorem cw (h : At mu w L A) {i : Nat} (hi : i < A.slots * A.width) : w.cell? ⟨L.bw, i, none⟩ = some (.int .u64 (nth A.words i 0)) := by
  rw [list_cell h.hw (by have := h.fits.words; omega)]
  simp [nth, List.getD_eq_getElem?_getD, show i < A.words.length by have := h.fits.words; omega]
theorem fw (h : At mu w L A) (o : Nat) : w.frozen? ⟨L.bw, o, none⟩ = false := free_of h.hw o
theorem fu (h : At mu w L A) (o : Nat) : w.frozen? ⟨L.bu, o, none⟩ = false := free_of h.hu o
theorem fq (h : At mu w L A) (o : Nat) : w.frozen? ⟨L.bq, o, none⟩ = false := free_of h.hq o
theorem fi (h : At mu w L A) (o : Nat) : w.frozen? ⟨L.bi, o, none⟩ = false := free_of h.hi o
theorem ft (h : At mu w L A) (o : Nat) : w.frozen? ⟨L.bt, o, none⟩ = false := free_of h.ht o

theorem cell_ok (h : At mu w L A) (slot cell : Int) (hin : inUseB A slot = true) (hc0 : 0 ≤ cell) (hc : cell < A.width) :
    Calls Tryz.prog 76 #[.pointer (some ⟨L.b, 0, none⟩), .int .i64 slot, .int .i64 cell] w fun e w' => e = .returned (.tuple #[.pointer (some ⟨L.bw, wordAt A slot.toNat cell.toNat, none⟩), .int .i64 0]) ∧ Keep [] w w' := by
  obtain ⟨s, rfl, hs1, hs2, _⟩ := fits_lt hin
  obtain ⟨c, rfl⟩ : ∃ c : Nat, cell = c := ⟨cell.toNat, by omega⟩
  rw [Int.toNat_natCast, Int.toNat_natCast]
  have e1 := c1 h
  have e2 := c2 h
  have hw := wordAt_lt h.fits hs1 hs2 (c := c) (by omega)
  have hz := size_le h.fits
  obtain ⟨hi, hi0, hi1⟩ := wordAt_int h.fits hs1 hs2 (c := c) (by omega)
  have hwd := h.fits.w2
  have hsl := h.fits.s2
  have hm : IntKind.i64.wrap (((s : Int) - 1) * (A.width : Int)) = ((s : Int) - 1) * (A.width : Int) := IntWalk.i64_in _ (by omega)
  have ha : IntKind.i64.wrap (((s : Int) - 1) * (A.width : Int) + c) = (wordAt A s c : Nat) := by rw [hi]; exact IntWalk.i64_in _ (by omega)
  have hwI : ((wordAt A s c : Nat) : Int) < ((A.slots * A.width : Nat) : Int) := by omega
  have H := Lib.hid hin; clear hin
  have HI := Lib.hid hi; clear hi
  have HA := Lib.hid h; clear h
  go_enter Tryz.func76, Tryz.ntmps76
  go_wp2_with fail
  refine (missing HA.out).mono ?_
  rintro e w' ⟨rfl, rfl⟩
  go_wp2_with fail
  refine (holds_yes HA.out s H.out).mono ?_
  rintro e w' ⟨rfl, rfl⟩
  go_wp2_with fail
  go_quiet (fail)
  go_wp2_with fail
  go_ret2
  exact ⟨rfl, (Keep.refl _ _).drewN _⟩

theorem cell_bad (h : At mu w L A) (slot cell : Int) (hin : inUseB A slot = true) (hc : cell < 0 ∨ A.width ≤ cell) :
    Calls Tryz.prog 76 #[.pointer (some ⟨L.b, 0, none⟩), .int .i64 slot, .int .i64 cell] w fun e w' => e = .returned (.tuple #[.pointer none, .int .i64 23]) ∧ w = w' := by
  have e1 := c1 h
  have hwd := h.fits.w2
  have H := Lib.hid hin; clear hin
  have HA := Lib.hid h; clear h
  rcases hc with hc | hc
  all_goals
    go_enter Tryz.func76, Tryz.ntmps76
    go_wp2_with fail
    refine (missing HA.out).mono ?_
    rintro e w' ⟨rfl, rfl⟩
    go_wp2_with fail
    refine (holds_yes HA.out slot H.out).mono ?_
    rintro e w' ⟨rfl, rfl⟩
    go_wp2_with fail
    all_goals go_ret2
    all_goals exact ⟨rfl, rfl⟩

theorem cell_no (h : At mu w L A) (slot cell : Int) (hin : inUseB A slot = false) :
    Calls Tryz.prog 76 #[.pointer (some ⟨L.b, 0, none⟩), .int .i64 slot, .int .i64 cell] w fun e w' => e = .returned (.tuple #[.pointer none, .int .i64 22]) ∧ At mu w' L { A with miss := wrap64 (A.miss + 1) } ∧ Keep L.blocks w w' := by
  have H := Lib.hid hin; clear hin
  have HA := Lib.hid h; clear h
  go_enter Tryz.func76, Tryz.ntmps76
  go_wp2_with fail
  refine (missing HA.out).mono ?_
  rintro e w' ⟨rfl, rfl⟩
  go_wp2_with fail
  refine (holds_no HA.out slot H.out).mono ?_
  rintro e w1 ⟨rfl, h1, k1⟩
  have H1 := Lib.hid h1; clear h1
  go_wp2_with fail
  go_ret2
  exact ⟨rfl, H1.out, k1⟩
end Go.Proofs.YtgagiggljlikbaaGreat.En
