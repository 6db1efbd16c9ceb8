import Derived.Test.YtdkdeiofjoccnaaGreatAr
import Derived.Test.YtdkdeiofjoccnaaGreatAtom
import Derived.Test.YtdkdeiofjoccnaaGreatLocks
import Derived.Conc.MuLone
import Derived.Lib.Hide
import Derived.Outline
import Derived.BigQuiet
/- The arena's small methods at struct{}: missing, inUse, holds, Shape, Payload. -/
namespace Go.Proofs.YtdkdeiofjoccnaaGreat.Un
open Go.RowKit Go.Proofs.YtdkdeiofjoccnaaGreat.Mem Go.Proofs.YtdkdeiofjoccnaaGreat.Ar Go.MuLone

instance : Lies Unit := ⟨0, fun _ => [], fun _ => rfl, ()⟩

abbrev At (mu : Int) (w : World) (L : Bk) (A : Arena Unit) : Prop :=
  Ar.At 172 175 178 3 90 mu w L A

theorem missing_nil (w : World) :
    Calls Tryz.prog 72 #[.pointer none] w fun e w' => e = .returned (.bool true) ∧ w = w' := by
  go_enter Tryz.func72, Tryz.ntmps72
  go_wp2
  go_ret
  exact ⟨rfl, rfl⟩

theorem missing_at (b : Nat) (n : Nat) (w : World) (h0 : w.cell? ⟨b, 0, none⟩ = some (.int .i64 n)) (hn : ((n : Int) == 0) = false) :
    Calls Tryz.prog 72 #[.pointer (some ⟨b, 0, none⟩)] w fun e w' => e = .returned (.bool false) ∧ w = w' := by
  go_enter Tryz.func72, Tryz.ntmps72
  go_wp2
  go_ret
  exact ⟨rfl, rfl⟩

variable {mu : Int} {w : World} {L : Bk} {A : Arena Unit}

theorem c0 (h : At mu w L A) : w.cell? ⟨L.b, 0, none⟩ = some (.int .i64 A.slots) := by rw [cell_of h.hb]; rfl
theorem c1 (h : At mu w L A) : w.cell? ⟨L.b, 1, none⟩ = some (.int .i64 A.width) := by rw [cell_of h.hb]; rfl
theorem c2 (h : At mu w L A) : w.cell? ⟨L.b, 2, none⟩ = some (.slice (some ⟨L.bw, 0, none⟩) (A.slots * A.width) (A.slots * A.width)) := by rw [cell_of h.hb]; rfl
theorem c3 (h : At mu w L A) : w.cell? ⟨L.b, 3, none⟩ = some (.slice (some ⟨L.bu, 0, none⟩) (A.slots + 1) (A.slots + 1)) := by rw [cell_of h.hb]; rfl
theorem c4 (h : At mu w L A) : w.cell? ⟨L.b, 4, none⟩ = some (.int .i64 A.acc) := by rw [cell_of h.hb]; rfl
theorem c5 (h : At mu w L A) : w.cell? ⟨L.b, 5, none⟩ = some (.int .i64 A.miss) := by rw [cell_of h.hb]; rfl
theorem c6 (h : At mu w L A) : w.cell? ⟨L.b, 6, none⟩ = some (.int .i32 mu) := by rw [cell_of h.hb]; rfl
theorem c8 (h : At mu w L A) : w.cell? ⟨L.b, 8, none⟩ = some (.slice (some ⟨L.bq, 0, none⟩) A.slots A.slots) := by rw [cell_of h.hb]; rfl
theorem c9 (h : At mu w L A) : w.cell? ⟨L.b, 9, none⟩ = some (.int .i64 A.front) := by rw [cell_of h.hb]; rfl
theorem c10 (h : At mu w L A) : w.cell? ⟨L.b, 10, none⟩ = some (.int .i64 A.free) := by rw [cell_of h.hb]; rfl
theorem c11 (h : At mu w L A) : w.cell? ⟨L.b, 11, none⟩ = some (.slice (some ⟨L.bi, 0, none⟩) (A.slots + 1) (A.slots + 1)) := by rw [cell_of h.hb]; rfl
theorem c12 (h : At mu w L A) : w.cell? ⟨L.b, 12, none⟩ = some (.slice (some ⟨L.bt, 0, none⟩) (A.slots + 1) (A.slots + 1)) := by rw [cell_of h.hb]; rfl
theorem fz (h : At mu w L A) (o : Nat) : w.frozen? ⟨L.b, o, none⟩ = false := free_of h.hb o
theorem cu (h : At mu w L A) {s : Nat} (hs : s ≤ A.slots) : w.cell? ⟨L.bu, s, none⟩ = some (.int .u32 (bit (nth A.used s false))) := by
  rw [list_cell h.hu (by have := h.fits.used; omega)]
  simp [nth, List.getD_eq_getElem?_getD, show s < A.used.length by have := h.fits.used; omega]

theorem slots_pos (h : At mu w L A) : ((A.slots : Int) == 0) = false := by have := h.fits.s1; simp; omega

theorem missing (h : At mu w L A) :
    Calls Tryz.prog 72 #[.pointer (some ⟨L.b, 0, none⟩)] w fun e w' => e = .returned (.bool false) ∧ w = w' :=
  missing_at L.b A.slots w (c0 h) (slots_pos h)

/-- is the slot in use? -/
def inUseB {α : Type} (A : Arena α) (slot : Int) : Bool := decide (1 ≤ slot) && decide (slot ≤ A.slots) && nth A.used slot.toNat false

theorem inUse (h : At mu w L A) (slot : Int) :
    Calls Tryz.prog 108 #[.pointer (some ⟨L.b, 0, none⟩), .int .i64 slot] w fun e w' => e = .returned (.bool (inUseB A slot)) ∧ w = w' := by
  have e0 := c0 h
  by_cases h1 : 1 ≤ slot
  · by_cases h2 : slot ≤ A.slots
    · obtain ⟨s, rfl⟩ : ∃ s : Nat, slot = s := ⟨slot.toNat, by omega⟩
      have e3 := c3 h
      have hs : s ≤ A.slots := by omega
      have hcu := cu h hs
      have hf : inUseB A s = nth A.used s false := by simp only [inUseB, decide_eq_true h1, decide_eq_true h2, Int.toNat_natCast, Bool.true_and]
      have hbit : (bit (nth A.used s false) != 0) = nth A.used s false := by generalize nth A.used s false = x; cases x <;> rfl
      have H := Lib.hid hf; clear hf
      have H2 := Lib.hid hbit; clear hbit
      have H3 := Lib.hid h; clear h
      go_enter Tryz.func108, Tryz.ntmps108
      go_wp2_with (go_at_call 131; refine (Atom.loadB L.bu s _ _ hcu).mono ?_; rintro e w' ⟨rfl, rfl⟩)
      go_ret
      exact ⟨by rw [H.out]; exact congrArg (fun b => Ending.returned (.bool b)) H2.out, rfl⟩
    · have hf : inUseB A slot = false := by simp [inUseB, h2]
      rw [hf]
      clear h hf
      go_enter Tryz.func108, Tryz.ntmps108
      go_wp2
      go_ret
      exact ⟨rfl, rfl⟩
  · have hf : inUseB A slot = false := by simp [inUseB, h1]
    rw [hf]
    clear h hf
    go_enter Tryz.func108, Tryz.ntmps108
    go_wp2
    go_ret
    exact ⟨rfl, rfl⟩
end Go.Proofs.YtdkdeiofjoccnaaGreat.Un

/- The arena's methods at struct{}: the lock, holds, Shape, Payload, the cells. -/
namespace Go.Proofs.YtdkdeiofjoccnaaGreat.Un
open Go.RowKit Go.Proofs.YtdkdeiofjoccnaaGreat.Mem Go.Proofs.YtdkdeiofjoccnaaGreat.Ar Go.MuLone

variable {mu : Int} {w : World} {L : Bk} {A : Arena Unit}

theorem inB (L : Bk) : L.b ∈ L.blocks := by simp [Bk.blocks]
theorem inW (L : Bk) : L.bw ∈ L.blocks := by simp [Bk.blocks]
theorem inU (L : Bk) : L.bu ∈ L.blocks := by simp [Bk.blocks]
theorem inQ (L : Bk) : L.bq ∈ L.blocks := by simp [Bk.blocks]
theorem inI (L : Bk) : L.bi ∈ L.blocks := by simp [Bk.blocks]
theorem inT (L : Bk) : L.bt ∈ L.blocks := by simp [Bk.blocks]

theorem lock (h : At 0 w L A) :
    Calls Tryz.prog 74 #[.pointer (some ⟨L.b, 6, none⟩)] w fun e w' => e = .returned (.tuple #[]) ∧ At 1 w' L A ∧ Keep L.blocks w w' :=
  (lock_free muLib ⟨L.b, 6, none⟩ w (c6 h) (fz h 6)).mono fun e w' ⟨he, hw⟩ => ⟨he, by subst hw; exact h.setLock 1, by subst hw; exact (Keep.refl _ _).set (.inl (inB L)) _ _⟩

theorem unlock (h : At 1 w L A) (u : FrameMode) :
    CallsD Tryz.prog 75 #[.pointer (some ⟨L.b, 6, none⟩)] u w fun e u' w' => u' = u ∧ (e = .returned (.tuple #[]) ∧ (At 0 w' L A ∧ Keep L.blocks w w')) :=
  (unlock_deferred muLib ⟨L.b, 6, none⟩ u w (c6 h) (fz h 6)).mono fun e u' w' ⟨hu, he, hw⟩ => ⟨hu, he, by subst hw; exact h.setLock 0, by subst hw; exact (Keep.refl _ _).set (.inl (inB L)) _ _⟩

theorem holds_yes (h : At mu w L A) (slot : Int) (hin : inUseB A slot = true) :
    Calls Tryz.prog 175 #[.pointer (some ⟨L.b, 0, none⟩), .int .i64 slot] w fun e w' => e = .returned (.bool true) ∧ w = w' := by
  have H := Lib.hid hin; clear hin
  have HA := Lib.hid h; clear h
  go_enter Tryz.func175, Tryz.ntmps175
  go_wp2_with fail
  refine (inUse HA.out slot).mono ?_
  rw [H.out]
  rintro e w' ⟨rfl, rfl⟩
  go_wp2
  go_ret
  exact ⟨rfl, rfl⟩

theorem holds_no (h : At mu w L A) (slot : Int) (hin : inUseB A slot = false) :
    Calls Tryz.prog 175 #[.pointer (some ⟨L.b, 0, none⟩), .int .i64 slot] w fun e w' => e = .returned (.bool false) ∧ At mu w' L { A with miss := wrap64 (A.miss + 1) } ∧ Keep L.blocks w w' := by
  have H := Lib.hid hin; clear hin
  have HA := Lib.hid h; clear h
  go_enter Tryz.func175, Tryz.ntmps175
  go_wp2_with fail
  refine (inUse HA.out slot).mono ?_
  rw [H.out]
  rintro e w' ⟨rfl, rfl⟩
  go_wp2_with fail
  refine (Atom.add64 L.b 5 A.miss 1 _ (c5 HA.out) (fz HA.out 5)).mono ?_
  rintro e w' ⟨rfl, rfl⟩
  go_wp2_with fail
  go_ret
  exact ⟨rfl, HA.out.setMiss _, (Keep.refl _ _).set (.inl (inB L)) _ _⟩

/-- what holds has counted -/
def held {α : Type} (A : Arena α) (slot : Int) : Arena α := if inUseB A slot then A else { A with miss := wrap64 (A.miss + 1) }

theorem fits_lt {α : Type} {A : Arena α} {slot : Int} (h : inUseB A slot = true) : ∃ s : Nat, slot = s ∧ 1 ≤ s ∧ s ≤ A.slots ∧ nth A.used s false = true := by
  simp only [inUseB, Bool.and_eq_true, decide_eq_true_eq] at h
  obtain ⟨⟨h1, h2⟩, h3⟩ := h
  exact ⟨slot.toNat, by omega, by omega, by omega, h3⟩

end Go.Proofs.YtdkdeiofjoccnaaGreat.Un

/- The arena's methods at struct{}: cell, Load, Store, CAS, Free. -/
namespace Go.Proofs.YtdkdeiofjoccnaaGreat.Un
open Go.RowKit Go.Proofs.YtdkdeiofjoccnaaGreat.Mem Go.Proofs.YtdkdeiofjoccnaaGreat.Ar Go.MuLone
set_option linter.unusedVariables false

variable {mu : Int} {w : World} {L : Bk} {A : Arena Unit}

/-- the place of a cell among the words -/
def wordAt {α : Type} (A : Arena α) (s c : Nat) : Nat := (s - 1) * A.width + c

theorem wordAt_lt {α : Type} {A : Arena α} (h : Fits A) {s c : Nat} (h1 : 1 ≤ s) (h2 : s ≤ A.slots) (hc : c < A.width) : wordAt A s c < A.slots * A.width := by
  unfold wordAt
  have : s * A.width ≤ A.slots * A.width := Nat.mul_le_mul_right _ h2
  have e : s * A.width = (s - 1) * A.width + A.width := by
    obtain ⟨k, rfl⟩ : ∃ k, s = k + 1 := ⟨s - 1, by omega⟩
    rw [Nat.add_sub_cancel, Nat.succ_mul]
  omega

theorem size_le {α : Type} {A : Arena α} (h : Fits A) : A.slots * A.width ≤ 65536 := by
  have := Nat.mul_le_mul h.s2 h.w2
  omega

theorem wordAt_int {α : Type} {A : Arena α} (h : Fits A) {s c : Nat} (h1 : 1 ≤ s) (h2 : s ≤ A.slots) (hc : c < A.width) : ((s : Int) - 1) * (A.width : Int) + c = (wordAt A s c : Nat) ∧ 0 ≤ ((s : Int) - 1) * (A.width : Int) ∧ ((s : Int) - 1) * (A.width : Int) ≤ 65536 := by
  have hs := size_le h
  have hl := wordAt_lt h h1 h2 hc
  unfold wordAt at *
  have e : ((s : Int) - 1) * (A.width : Int) = (((s - 1) * A.width : Nat) : Int) := by
    rw [Int.natCast_mul]
    congr 1
    omega
  rw [e]
  omega

theorem cw (h : At mu w L A) {i : Nat} (hi : i < A.slots * A.width) : w.cell? ⟨L.bw, i, none⟩ = some (.int .u64 (nth A.words i 0)) := by
  rw [list_cell h.hw (by have := h.fits.words; omega)]
  simp [nth, List.getD_eq_getElem?_getD, show i < A.words.length by have := h.fits.words; omega]
theorem fw (h : At mu w L A) (o : Nat) : w.frozen? ⟨L.bw, o, none⟩ = false := free_of h.hw o
theorem fu (h : At mu w L A) (o : Nat) : w.frozen? ⟨L.bu, o, none⟩ = false := free_of h.hu o
theorem fq (h : At mu w L A) (o : Nat) : w.frozen? ⟨L.bq, o, none⟩ = false := free_of h.hq o
theorem fi (h : At mu w L A) (o : Nat) : w.frozen? ⟨L.bi, o, none⟩ = false := free_of h.hi o
theorem ft (h : At mu w L A) (o : Nat) : w.frozen? ⟨L.bt, o, none⟩ = false := free_of h.ht o

theorem cell_ok (h : At mu w L A) (slot cell : Int) (hin : inUseB A slot = true) (hc0 : 0 ≤ cell) (hc : cell < A.width) :
    Calls Tryz.prog 172 #[.pointer (some ⟨L.b, 0, none⟩), .int .i64 slot, .int .i64 cell] w fun e w' => e = .returned (.tuple #[.pointer (some ⟨L.bw, wordAt A slot.toNat cell.toNat, none⟩), .int .i64 0]) ∧ Keep [] w w' := by
  obtain ⟨s, rfl, hs1, hs2, _⟩ := fits_lt hin
  obtain ⟨c, rfl⟩ : ∃ c : Nat, cell = c := ⟨cell.toNat, by omega⟩
  rw [Int.toNat_natCast, Int.toNat_natCast]
  have e1 := c1 h
  have e2 := c2 h
  have hw := wordAt_lt h.fits hs1 hs2 (c := c) (by omega)
  have hz := size_le h.fits
  obtain ⟨hi, hi0, hi1⟩ := wordAt_int h.fits hs1 hs2 (c := c) (by omega)
  have hwd := h.fits.w2
  have hsl := h.fits.s2
  have hm : IntKind.i64.wrap (((s : Int) - 1) * (A.width : Int)) = ((s : Int) - 1) * (A.width : Int) := IntWalk.i64_in _ (by omega)
  have ha : IntKind.i64.wrap (((s : Int) - 1) * (A.width : Int) + c) = (wordAt A s c : Nat) := by rw [hi]; exact IntWalk.i64_in _ (by omega)
  have hwI : ((wordAt A s c : Nat) : Int) < ((A.slots * A.width : Nat) : Int) := by omega
  have H := Lib.hid hin; clear hin
  have HI := Lib.hid hi; clear hi
  have HA := Lib.hid h; clear h
  go_enter Tryz.func172, Tryz.ntmps172
  go_wp2_with fail
  refine (missing HA.out).mono ?_
  rintro e w' ⟨rfl, rfl⟩
  go_wp2_with fail
  refine (holds_yes HA.out s H.out).mono ?_
  rintro e w' ⟨rfl, rfl⟩
  go_wp2_with fail
  go_quiet (fail)
  go_wp2_with fail
  go_ret2
  exact ⟨rfl, (Keep.refl _ _).drewN _⟩

theorem cell_bad (h : At mu w L A) (slot cell : Int) (hin : inUseB A slot = true) (hc : cell < 0 ∨ A.width ≤ cell) :
    Calls Tryz.prog 172 #[.pointer (some ⟨L.b, 0, none⟩), .int .i64 slot, .int .i64 cell] w fun e w' => e = .returned (.tuple #[.pointer none, .int .i64 23]) ∧ w = w' := by
  have e1 := c1 h
  have hwd := h.fits.w2
  have H := Lib.hid hin; clear hin
  have HA := Lib.hid h; clear h
  rcases hc with hc | hc
  all_goals
    go_enter Tryz.func172, Tryz.ntmps172
    go_wp2_with fail
    refine (missing HA.out).mono ?_
    rintro e w' ⟨rfl, rfl⟩
    go_wp2_with fail
    refine (holds_yes HA.out slot H.out).mono ?_
    rintro e w' ⟨rfl, rfl⟩
    go_wp2_with fail
    all_goals go_ret2
    all_goals exact ⟨rfl, rfl⟩

theorem cell_no (h : At mu w L A) (slot cell : Int) (hin : inUseB A slot = false) :
    Calls Tryz.prog 172 #[.pointer (some ⟨L.b, 0, none⟩), .int .i64 slot, .int .i64 cell] w fun e w' => e = .returned (.tuple #[.pointer none, .int .i64 22]) ∧ At mu w' L { A with miss := wrap64 (A.miss + 1) } ∧ Keep L.blocks w w' := by
  have H := Lib.hid hin; clear hin
  have HA := Lib.hid h; clear h
  go_enter Tryz.func172, Tryz.ntmps172
  go_wp2_with fail
  refine (missing HA.out).mono ?_
  rintro e w' ⟨rfl, rfl⟩
  go_wp2_with fail
  refine (holds_no HA.out slot H.out).mono ?_
  rintro e w1 ⟨rfl, h1, k1⟩
  have H1 := Lib.hid h1; clear h1
  go_wp2_with fail
  go_ret2
  exact ⟨rfl, H1.out, k1⟩
end Go.Proofs.YtdkdeiofjoccnaaGreat.Un

/- The arena's methods at struct{}: Load, Store, CompareAndSwap. -/
namespace Go.Proofs.YtdkdeiofjoccnaaGreat.Un
open Go.RowKit Go.Proofs.YtdkdeiofjoccnaaGreat.Mem Go.Proofs.YtdkdeiofjoccnaaGreat.Ar Go.MuLone
set_option linter.unusedVariables false

variable {mu : Int} {w : World} {L : Bk} {A : Arena Unit}

theorem At.of0 (h : At mu w L A) {w' : World} (k : Keep [] w w') : At mu w' L A := h.keep k (by simp)
theorem k0 {w w' : World} {S : List Nat} (k : Keep [] w w') : Keep S w w' := k.mono (by simp)

def missed {α : Type} (A : Arena α) : Arena α := { A with miss := wrap64 (A.miss + 1) }
def counted {α : Type} (A : Arena α) : Arena α := { A with acc := wrap64 (A.acc + 1) }

theorem load_ok (h : At mu w L A) (slot cell : Int) (hin : inUseB A slot = true) (hc0 : 0 ≤ cell) (hc : cell < A.width) :
    Calls Tryz.prog 169 #[.pointer (some ⟨L.b, 0, none⟩), .int .i64 slot, .int .i64 cell] w fun e w' => e = .returned (.tuple #[.int .u64 (nth A.words (wordAt A slot.toNat cell.toNat) 0), .int .i64 0]) ∧ At mu w' L (counted A) ∧ Keep L.blocks w w' := by
  obtain ⟨s, hs, hs1, hs2, _⟩ := fits_lt hin
  have hw := wordAt_lt h.fits hs1 hs2 (c := cell.toNat) (by omega)
  have Hs := Lib.hid hs; clear hs
  have Hw := Lib.hid hw; clear hw
  have H := Lib.hid hin; clear hin
  have HA := Lib.hid h; clear h
  go_enter Tryz.func169, Tryz.ntmps169
  go_wp2_with fail
  refine (cell_ok HA.out slot cell H.out hc0 hc).mono ?_
  rintro e w1 ⟨rfl, k1⟩
  have H1 := Lib.hid (At.of0 HA.out k1)
  go_wp2_with fail
  refine (Atom.add64 L.b 4 A.acc 1 _ (c4 H1.out) (fz H1.out 4)).mono ?_
  rintro e w2 ⟨rfl, hw2⟩
  have H2 := Lib.hid (H1.out.setAcc (wrap64 (A.acc + 1)))
  have K2 := Lib.hid ((k0 (S := L.blocks) k1).set (.inl (inB L)) 4 (.int .i64 (wrap64 (A.acc + 1))))
  subst hw2
  go_wp2_with fail
  refine (Atom.load64 L.bw (wordAt A slot.toNat cell.toNat) _ _ (cw (A := counted A) H2.out (by have e := Hs.out; have := Hw.out; simp only [e, Int.toNat_natCast, counted] at *; exact this))).mono ?_
  rintro e w3 ⟨rfl, rfl⟩
  go_wp2_with fail
  go_ret2
  exact ⟨rfl, H2.out, K2.out⟩

/-- what a call on a cell is refused with (0: it is not) -/
def cellErr {α : Type} (A : Arena α) (slot cell : Int) : Int := if inUseB A slot then (if 0 ≤ cell ∧ cell < A.width then 0 else 23) else 22

theorem cellErr_ok {α : Type} {A : Arena α} {slot cell : Int} (h : cellErr A slot cell = 0) : inUseB A slot = true ∧ 0 ≤ cell ∧ cell < A.width := by
  unfold cellErr at h
  split at h
  · split at h
    · rename_i h1 h2; exact ⟨h1, h2⟩
    · cases h
  · cases h

theorem cell_err (h : At mu w L A) (slot cell : Int) (hne : ¬ cellErr A slot cell = 0) :
    Calls Tryz.prog 172 #[.pointer (some ⟨L.b, 0, none⟩), .int .i64 slot, .int .i64 cell] w fun e w' => e = .returned (.tuple #[.pointer none, .int .i64 (cellErr A slot cell)]) ∧ At mu w' L (held A slot) ∧ Keep L.blocks w w' := by
  cases hin : inUseB A slot with
  | false =>
    refine (cell_no h slot cell hin).mono fun e w' ⟨he, h1, k1⟩ => ?_
    subst he
    simp only [cellErr, held, hin, Bool.false_eq_true, if_false]
    exact ⟨trivial, h1, k1⟩
  | true =>
    have hc : cell < 0 ∨ A.width ≤ cell := by
      apply Decidable.byContradiction
      intro hh
      apply hne
      simp only [cellErr, hin, if_true]
      rw [if_pos (by omega)]
    refine (cell_bad h slot cell hin hc).mono fun e w' ⟨he, hw⟩ => ?_
    subst he; subst hw
    simp only [cellErr, held, hin, if_true]
    rw [if_neg (by omega)]
    exact ⟨rfl, h, Keep.refl _ _⟩

theorem load_err (h : At mu w L A) (slot cell : Int) (hne : ¬ cellErr A slot cell = 0) :
    Calls Tryz.prog 169 #[.pointer (some ⟨L.b, 0, none⟩), .int .i64 slot, .int .i64 cell] w fun e w' => e = .returned (.tuple #[.int .u64 0, .int .i64 (cellErr A slot cell)]) ∧ At mu w' L (held A slot) ∧ Keep L.blocks w w' := by
  have H := cell_err h slot cell hne
  have hb : (cellErr A slot cell != 0) = true := by simpa using hne
  generalize cellErr A slot cell = x at *
  have HC := Lib.hid H; clear H hne h
  go_enter Tryz.func169, Tryz.ntmps169
  go_wp2_with fail
  refine HC.out.mono ?_
  rintro e w1 ⟨rfl, h1, k1⟩
  have H1 := Lib.hid h1; clear h1
  go_wp2_with fail
  go_ret2
  exact ⟨rfl, H1.out, k1⟩

theorem store_ok (h : At mu w L A) (slot cell x : Int) (hin : inUseB A slot = true) (hc0 : 0 ≤ cell) (hc : cell < A.width) :
    Calls Tryz.prog 170 #[.pointer (some ⟨L.b, 0, none⟩), .int .i64 slot, .int .i64 cell, .int .u64 x] w fun e w' => e = .returned (.int .i64 0) ∧ At mu w' L { counted A with words := A.words.set (wordAt A slot.toNat cell.toNat) x } ∧ Keep L.blocks w w' := by
  obtain ⟨s, hs, hs1, hs2, _⟩ := fits_lt hin
  have hw := wordAt_lt h.fits hs1 hs2 (c := cell.toNat) (by omega)
  have Hs := Lib.hid hs; clear hs
  have Hw := Lib.hid hw; clear hw
  have H := Lib.hid hin; clear hin
  have HA := Lib.hid h; clear h
  go_enter Tryz.func170, Tryz.ntmps170
  go_wp2_with fail
  refine (cell_ok HA.out slot cell H.out hc0 hc).mono ?_
  rintro e w1 ⟨rfl, k1⟩
  have H1 := Lib.hid (At.of0 HA.out k1)
  go_wp2_with fail
  refine (Atom.add64 L.b 4 A.acc 1 _ (c4 H1.out) (fz H1.out 4)).mono ?_
  rintro e w2 ⟨rfl, hw2⟩
  have H2 := Lib.hid (H1.out.setAcc (wrap64 (A.acc + 1)))
  have K2 := Lib.hid ((k0 (S := L.blocks) k1).set (.inl (inB L)) 4 (.int .i64 (wrap64 (A.acc + 1))))
  subst hw2
  go_wp2_with fail
  refine (Atom.store64 L.bw (wordAt A slot.toNat cell.toNat) _ x _ (cw (A := counted A) H2.out (by have e := Hs.out; have := Hw.out; simp only [e, Int.toNat_natCast, counted] at *; exact this)) (fw H2.out _)).mono ?_
  rintro e w3 ⟨rfl, hw3⟩
  have H3 := Lib.hid (H2.out.setWord (wordAt A slot.toNat cell.toNat) x)
  have K3 := Lib.hid (K2.out.set (.inl (inW L)) (wordAt A slot.toNat cell.toNat) (.int .u64 x))
  subst hw3
  go_wp2_with fail
  go_ret
  exact ⟨rfl, H3.out, K3.out⟩

theorem store_err (h : At mu w L A) (slot cell x : Int) (hne : ¬ cellErr A slot cell = 0) :
    Calls Tryz.prog 170 #[.pointer (some ⟨L.b, 0, none⟩), .int .i64 slot, .int .i64 cell, .int .u64 x] w fun e w' => e = .returned (.int .i64 (cellErr A slot cell)) ∧ At mu w' L (held A slot) ∧ Keep L.blocks w w' := by
  have H := cell_err h slot cell hne
  have hb : (cellErr A slot cell != 0) = true := by simpa using hne
  generalize cellErr A slot cell = x at *
  have HC := Lib.hid H; clear H hne h
  go_enter Tryz.func170, Tryz.ntmps170
  go_wp2_with fail
  refine HC.out.mono ?_
  rintro e w1 ⟨rfl, h1, k1⟩
  have H1 := Lib.hid h1; clear h1
  go_wp2_with fail
  go_ret
  exact ⟨rfl, H1.out, k1⟩

theorem cas_hit (h : At mu w L A) (slot cell x y : Int) (hin : inUseB A slot = true) (hc0 : 0 ≤ cell) (hc : cell < A.width) (hx : nth A.words (wordAt A slot.toNat cell.toNat) 0 = x) :
    Calls Tryz.prog 171 #[.pointer (some ⟨L.b, 0, none⟩), .int .i64 slot, .int .i64 cell, .int .u64 x, .int .u64 y] w fun e w' => e = .returned (.tuple #[.bool true, .int .i64 0]) ∧ At mu w' L { counted A with words := A.words.set (wordAt A slot.toNat cell.toNat) y } ∧ Keep L.blocks w w' := by
  obtain ⟨s, hs, hs1, hs2, _⟩ := fits_lt hin
  have hw := wordAt_lt h.fits hs1 hs2 (c := cell.toNat) (by omega)
  have Hs := Lib.hid hs; clear hs
  have Hw := Lib.hid hw; clear hw
  have H := Lib.hid hin; clear hin
  have HA := Lib.hid h; clear h
  have HX := Lib.hid hx; clear hx
  go_enter Tryz.func171, Tryz.ntmps171
  go_wp2_with fail
  refine (cell_ok HA.out slot cell H.out hc0 hc).mono ?_
  rintro e w1 ⟨rfl, k1⟩
  have H1 := Lib.hid (At.of0 HA.out k1)
  go_wp2_with fail
  refine (Atom.add64 L.b 4 A.acc 1 _ (c4 H1.out) (fz H1.out 4)).mono ?_
  rintro e w2 ⟨rfl, hw2⟩
  have H2 := Lib.hid (H1.out.setAcc (wrap64 (A.acc + 1)))
  have K2 := Lib.hid ((k0 (S := L.blocks) k1).set (.inl (inB L)) 4 (.int .i64 (wrap64 (A.acc + 1))))
  subst hw2
  have hcell := cw (A := counted A) H2.out (i := wordAt A slot.toNat cell.toNat) (by have e := Hs.out; have := Hw.out; simp only [e, Int.toNat_natCast, counted] at *; exact this)
  have HC := Lib.hid hcell; clear hcell
  go_wp2_with fail
  refine (Atom.casHit L.bw (wordAt A slot.toNat cell.toNat) x y _ (by rw [← HX.out]; exact HC.out) (fw H2.out _)).mono ?_
  rintro e w3 ⟨rfl, hw3⟩
  have H3 := Lib.hid (H2.out.setWord (wordAt A slot.toNat cell.toNat) y)
  have K3 := Lib.hid (K2.out.set (.inl (inW L)) (wordAt A slot.toNat cell.toNat) (.int .u64 y))
  subst hw3
  go_wp2_with fail
  go_ret2
  exact ⟨rfl, H3.out, K3.out⟩

theorem cas_miss (h : At mu w L A) (slot cell x y : Int) (hin : inUseB A slot = true) (hc0 : 0 ≤ cell) (hc : cell < A.width) (hx : ¬ nth A.words (wordAt A slot.toNat cell.toNat) 0 = x) :
    Calls Tryz.prog 171 #[.pointer (some ⟨L.b, 0, none⟩), .int .i64 slot, .int .i64 cell, .int .u64 x, .int .u64 y] w fun e w' => e = .returned (.tuple #[.bool false, .int .i64 0]) ∧ At mu w' L (counted A) ∧ Keep L.blocks w w' := by
  obtain ⟨s, hs, hs1, hs2, _⟩ := fits_lt hin
  have hw := wordAt_lt h.fits hs1 hs2 (c := cell.toNat) (by omega)
  have Hs := Lib.hid hs; clear hs
  have Hw := Lib.hid hw; clear hw
  have H := Lib.hid hin; clear hin
  have HA := Lib.hid h; clear h
  have HX := Lib.hid hx; clear hx
  go_enter Tryz.func171, Tryz.ntmps171
  go_wp2_with fail
  refine (cell_ok HA.out slot cell H.out hc0 hc).mono ?_
  rintro e w1 ⟨rfl, k1⟩
  have H1 := Lib.hid (At.of0 HA.out k1)
  go_wp2_with fail
  refine (Atom.add64 L.b 4 A.acc 1 _ (c4 H1.out) (fz H1.out 4)).mono ?_
  rintro e w2 ⟨rfl, hw2⟩
  have H2 := Lib.hid (H1.out.setAcc (wrap64 (A.acc + 1)))
  have K2 := Lib.hid ((k0 (S := L.blocks) k1).set (.inl (inB L)) 4 (.int .i64 (wrap64 (A.acc + 1))))
  subst hw2
  have hcell := cw (A := counted A) H2.out (i := wordAt A slot.toNat cell.toNat) (by have e := Hs.out; have := Hw.out; simp only [e, Int.toNat_natCast, counted] at *; exact this)
  have HC := Lib.hid hcell; clear hcell
  go_wp2_with fail
  refine (Atom.casMiss L.bw (wordAt A slot.toNat cell.toNat) _ x y _ HC.out (fw H2.out _) HX.out).mono ?_
  rintro e w3 ⟨rfl, rfl⟩
  go_wp2_with fail
  go_ret2
  exact ⟨rfl, H2.out, K2.out⟩

theorem cas_err (h : At mu w L A) (slot cell x y : Int) (hne : ¬ cellErr A slot cell = 0) :
    Calls Tryz.prog 171 #[.pointer (some ⟨L.b, 0, none⟩), .int .i64 slot, .int .i64 cell, .int .u64 x, .int .u64 y] w fun e w' => e = .returned (.tuple #[.bool false, .int .i64 (cellErr A slot cell)]) ∧ At mu w' L (held A slot) ∧ Keep L.blocks w w' := by
  have H := cell_err h slot cell hne
  have hb : (cellErr A slot cell != 0) = true := by simpa using hne
  generalize cellErr A slot cell = x at *
  have HC := Lib.hid H; clear H hne h
  go_enter Tryz.func171, Tryz.ntmps171
  go_wp2_with fail
  refine HC.out.mono ?_
  rintro e w1 ⟨rfl, h1, k1⟩
  have H1 := Lib.hid h1; clear h1
  go_wp2_with fail
  go_ret2
  exact ⟨rfl, H1.out, k1⟩
end Go.Proofs.YtdkdeiofjoccnaaGreat.Un
