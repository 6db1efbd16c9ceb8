/- The arena's methods at strings: the lock, holds, Shape, Payload, the cells. -/
import Derived.Test.YtmdboahjikngeaaAsOne
namespace Go.Proofs.Ytmdboahjikngeaa.As
open Go.RowKit Go.Proofs.Ytmdboahjikngeaa.Mem Go.Proofs.Ytmdboahjikngeaa.Ar Go.MuLone

variable {mu : Int} {w : World} {L : Bk} {A : Arena ByteArray}

theorem inB (L : Bk) : L.b ∈ L.blocks := by simp [Bk.blocks]
theorem inW (L : Bk) : L.bw ∈ L.blocks := by simp [Bk.blocks]
theorem inU (L : Bk) : L.bu ∈ L.blocks := by simp [Bk.blocks]
theorem inQ (L : Bk) : L.bq ∈ L.blocks := by simp [Bk.blocks]
theorem inI (L : Bk) : L.bi ∈ L.blocks := by simp [Bk.blocks]
theorem inT (L : Bk) : L.bt ∈ L.blocks := by simp [Bk.blocks]

theorem lock (h : At 0 w L A) :
    Calls Try.prog 40 #[.pointer (some ⟨L.b, 6, none⟩)] w fun e w' => e = .returned (.tuple #[]) ∧ At 1 w' L A ∧ Keep L.blocks w w' :=
  (lock_free muLib ⟨L.b, 6, none⟩ w (c6 h) (fz h 6)).mono fun e w' ⟨he, hw⟩ => ⟨he, by subst hw; exact h.setLock 1, by subst hw; exact (Keep.refl _ _).set (.inl (inB L)) _ _⟩

theorem unlock (h : At 1 w L A) (u : FrameMode) :
    CallsD Try.prog 41 #[.pointer (some ⟨L.b, 6, none⟩)] u w fun e u' w' => u' = u ∧ (e = .returned (.tuple #[]) ∧ (At 0 w' L A ∧ Keep L.blocks w w')) :=
  (unlock_deferred muLib ⟨L.b, 6, none⟩ u w (c6 h) (fz h 6)).mono fun e u' w' ⟨hu, he, hw⟩ => ⟨hu, he, by subst hw; exact h.setLock 0, by subst hw; exact (Keep.refl _ _).set (.inl (inB L)) _ _⟩

theorem holds_yes (h : At mu w L A) (slot : Int) (hin : inUseB A slot = true) :
    Calls Try.prog 44 #[.pointer (some ⟨L.b, 0, none⟩), .int .i64 slot] w fun e w' => e = .returned (.bool true) ∧ w = w' := by
  have H := Lib.hid hin; clear hin
  have HA := Lib.hid h; clear h
  go_enter Try.func44, Try.ntmps44
  go_wp2_with fail
  refine (inUse HA.out slot).mono ?_
  rw [H.out]
  rintro e w' ⟨rfl, rfl⟩
  go_wp2
  go_ret
  exact ⟨rfl, rfl⟩

theorem holds_no (h : At mu w L A) (slot : Int) (hin : inUseB A slot = false) :
    Calls Try.prog 44 #[.pointer (some ⟨L.b, 0, none⟩), .int .i64 slot] w fun e w' => e = .returned (.bool false) ∧ At mu w' L { A with miss := wrap64 (A.miss + 1) } ∧ Keep L.blocks w w' := by
  have H := Lib.hid hin; clear hin
  have HA := Lib.hid h; clear h
  go_enter Try.func44, Try.ntmps44
  go_wp2_with fail
  refine (inUse HA.out slot).mono ?_
  rw [H.out]
  rintro e w' ⟨rfl, rfl⟩
  go_wp2_with fail
  refine (Atom.add64 L.b 5 A.miss 1 _ (c5 HA.out) (fz HA.out 5)).mono ?_
  rintro e w' ⟨rfl, rfl⟩
  go_wp2_with fail
  go_ret
  exact ⟨rfl, HA.out.setMiss _, (Keep.refl _ _).set (.inl (inB L)) _ _⟩

theorem shape (h : At mu w L A) :
    Calls Try.prog 13 #[.pointer (some ⟨L.b, 0, none⟩)] w fun e w' => e = .returned (.tuple #[.int .i64 A.slots, .int .i64 A.width]) ∧ Keep [] w w' := by
  have e0 := c0 h
  have e1 := c1 h
  have HA := Lib.hid h; clear h
  go_enter Try.func13, Try.ntmps13
  go_wp2_with fail
  refine (missing HA.out).mono ?_
  rintro e w' ⟨rfl, rfl⟩
  go_wp2_with fail
  go_quiet (fail)
  go_wp2_with fail
  go_ret2
  exact ⟨rfl, (Keep.refl _ _).drewN _⟩

/-- what holds has counted -/
def held {α : Type} (A : Arena α) (slot : Int) : Arena α := if inUseB A slot then A else { A with miss := wrap64 (A.miss + 1) }

theorem fits_lt {α : Type} {A : Arena α} {slot : Int} (h : inUseB A slot = true) : ∃ s : Nat, slot = s ∧ 1 ≤ s ∧ s ≤ A.slots ∧ nth A.used s false = true := by
  simp only [inUseB, Bool.and_eq_true, decide_eq_true_eq] at h
  obtain ⟨⟨h1, h2⟩, h3⟩ := h
  exact ⟨slot.toNat, by omega, by omega, by omega, h3⟩

theorem flat_str (l : List ByteArray) : l.flatMap Lies.cells = l.map Value.string := by
  induction l with
  | nil => rfl
  | cons x l ih => simp only [List.flatMap_cons, List.map_cons, ih]; rfl
theorem ci (h : At mu w L A) {s : Nat} (hs : s ≤ A.slots) : w.cell? ⟨L.bi, s, none⟩ = some (.string (nth A.items s ByteArray.empty)) := by
  have hh := h.hi
  rw [flat_str] at hh
  rw [list_cell hh (by have := h.fits.items; omega)]
  simp [nth, List.getD_eq_getElem?_getD, show s < A.items.length by have := h.fits.items; omega]

theorem payload_yes (h : At 0 w L A) (slot : Int) (hin : inUseB A slot = true) :
    Calls Try.prog 21 #[.pointer (some ⟨L.b, 0, none⟩), .int .i64 slot] w fun e w' => e = .returned (.tuple #[.string (nth A.items slot.toNat ByteArray.empty), .int .i64 0]) ∧ At 0 w' L A ∧ Keep L.blocks w w' := by
  obtain ⟨s, rfl, hs1, hs2, _⟩ := fits_lt hin
  have H := Lib.hid hin; clear hin
  have HA := Lib.hid h; clear h
  rw [Int.toNat_natCast]
  go_enter_defers Try.func21, Try.ntmps21
  go_wp2_with fail
  refine (missing HA.out).mono ?_
  rintro e w' ⟨rfl, rfl⟩
  go_wp2_with fail
  refine (lock HA.out).mono ?_
  rintro e w1 ⟨rfl, h1, k1⟩
  have H1 := Lib.hid h1; clear h1
  go_wp2_with fail
  refine (holds_yes H1.out s H.out).mono ?_
  rintro e w' ⟨rfl, rfl⟩
  have e11 := c11 H1.out
  have eci := ci H1.out hs2
  go_wp2_with fail
  refine leaves_cons (f := 41) (args := #[.pointer (some ⟨L.b, 6, none⟩)]) (by simp) (by simp [go_sem]) ?_
  refine (unlock H1.out .returning).mono ?_
  rintro e u' w'' ⟨rfl, rfl, h2, k2⟩
  exact ⟨_, results_tmp2 rfl _ _ _, rfl, h2, k1.trans k2⟩

theorem payload_no (h : At 0 w L A) (slot : Int) (hin : inUseB A slot = false) :
    Calls Try.prog 21 #[.pointer (some ⟨L.b, 0, none⟩), .int .i64 slot] w fun e w' => e = .returned (.tuple #[.string ByteArray.empty, .int .i64 22]) ∧ At 0 w' L { A with miss := wrap64 (A.miss + 1) } ∧ Keep L.blocks w w' := by
  have H := Lib.hid hin; clear hin
  have HA := Lib.hid h; clear h
  go_enter_defers Try.func21, Try.ntmps21
  go_wp2_with fail
  refine (missing HA.out).mono ?_
  rintro e w' ⟨rfl, rfl⟩
  go_wp2_with fail
  refine (lock HA.out).mono ?_
  rintro e w1 ⟨rfl, h1, k1⟩
  have H1 := Lib.hid h1; clear h1
  go_wp2_with fail
  refine (holds_no H1.out slot H.out).mono ?_
  rintro e w2 ⟨rfl, h2, k2⟩
  have H2 := Lib.hid h2; clear h2
  go_wp2_with fail
  refine leaves_cons (f := 41) (args := #[.pointer (some ⟨L.b, 6, none⟩)]) (by simp) (by simp [go_sem]) ?_
  refine (unlock H2.out .returning).mono ?_
  rintro e u' w'' ⟨rfl, rfl, h3, k3⟩
  exact ⟨_, results_tmp2 rfl _ _ _, rfl, h3, (k1.trans k2).trans k3⟩
end Go.Proofs.Ytmdboahjikngeaa.As
