/- The arena's methods at entries: the lock, holds, Shape, Payload, the cells. -/
import Derived.Test.YtgagiggljlikbaaGreatCeOne
namespace Go.Proofs.YtgagiggljlikbaaGreat.En
open Go.RowKit Go.Proofs.YtgagiggljlikbaaGreat.Mem Go.Proofs.YtgagiggljlikbaaGreat.Ar Go.MuLone

variable {mu : Int} {w : World} {L : Bk} {A : Arena Ent}

theorem inB (L : Bk) : L.b ∈ L.blocks := by simp [Bk.blocks]
theorem inW (L : Bk) : L.bw ∈ L.blocks := by simp [Bk.blocks]
theorem inU (L : Bk) : L.bu ∈ L.blocks := by simp [Bk.blocks]
theorem inQ (L : Bk) : L.bq ∈ L.blocks := by simp [Bk.blocks]
theorem inI (L : Bk) : L.bi ∈ L.blocks := by simp [Bk.blocks]
theorem inT (L : Bk) : L.bt ∈ L.blocks := by simp [Bk.blocks]

theorem lock (h : At 0 w L A) :
    Calls Tryz.prog 57 #[.pointer (some ⟨L.b, 6, none⟩)] w fun e w' => e = .returned (.tuple #[]) ∧ At 1 w' L A ∧ Keep L.blocks w w' :=
  (lock_free muLib ⟨L.b, 6, none⟩ w (c6 h) (fz h 6)).mono fun e w' ⟨he, hw⟩ => ⟨he, by subst hw; exact h.setLock 1, by subst hw; exact (Keep.refl _ _).set (.inl (inB L)) _ _⟩

theorem unlock (h : At 1 w L A) (u : FrameMode) :
    CallsD Tryz.prog 58 #[.pointer (some ⟨L.b, 6, none⟩)] u w fun e u' w' => u' = u ∧ (e = .returned (.tuple #[]) ∧ (At 0 w' L A ∧ Keep L.blocks w w')) :=
  (unlock_deferred muLib ⟨L.b, 6, none⟩ u w (c6 h) (fz h 6)).mono fun e u' w' ⟨hu, he, hw⟩ => ⟨hu, he, by subst hw; exact h.setLock 0, by subst hw; exact (Keep.refl _ _).set (.inl (inB L)) _ _⟩

theorem holds_yes (h : At mu w L A) (slot : Int) (hin : inUseB A slot = true) :
    Calls Tryz.prog 104 #[.pointer (some ⟨L.b, 0, none⟩), .int .i64 slot] w fun e w' => e = .returned (.bool true) ∧ w = w' := by
  have H := Lib.hid hin; clear hin
  have HA := Lib.hid h; clear h
  go_enter Tryz.func104, Tryz.ntmps104
  go_wp2_with fail
  refine (inUse HA.out slot).mono ?_
  rw [H.out]
  rintro e w' ⟨rfl, rfl⟩
  go_wp2
  go_ret
  exact ⟨rfl, rfl⟩

theorem holds_no (h : At mu w L A) (slot : Int) (hin : inUseB A slot = false) :
    Calls Tryz.prog 104 #[.pointer (some ⟨L.b, 0, none⟩), .int .i64 slot] w fun e w' => e = .returned (.bool false) ∧ At mu w' L { A with miss := wrap64 (A.miss + 1) } ∧ Keep L.blocks w w' := by
  have H := Lib.hid hin; clear hin
  have HA := Lib.hid h; clear h
  go_enter Tryz.func104, Tryz.ntmps104
  go_wp2_with fail
  refine (inUse HA.out slot).mono ?_
  rw [H.out]
  rintro e w' ⟨rfl, rfl⟩
  go_wp2_with fail
  refine (Atom.add64 L.b 5 A.miss 1 _ (c5 HA.out) (fz HA.out 5)).mono ?_
  rintro e w' ⟨rfl, rfl⟩
  go_wp2_with fail
  go_ret
  exact ⟨rfl, HA.out.setMiss _, (Keep.refl _ _).set (.inl (inB L)) _ _⟩

theorem shape (h : At mu w L A) :
    Calls Tryz.prog 52 #[.pointer (some ⟨L.b, 0, none⟩)] w fun e w' => e = .returned (.tuple #[.int .i64 A.slots, .int .i64 A.width]) ∧ Keep [] w w' := by
  have e0 := c0 h
  have e1 := c1 h
  have HA := Lib.hid h; clear h
  go_enter Tryz.func52, Tryz.ntmps52
  go_wp2_with fail
  refine (missing HA.out).mono ?_
  rintro e w' ⟨rfl, rfl⟩
  go_wp2_with fail
  go_quiet (fail)
  go_wp2_with fail
  go_ret2
  exact ⟨rfl, (Keep.refl _ _).drewN _⟩

/-- what holds has counted -/
def held {α : Type} (A : Arena α) (slot : Int) : Arena α := if inUseB A slot then A else { A with miss := wrap64 (A.miss + 1) }

theorem fits_lt {α : Type} {A : Arena α} {slot : Int} (h : inUseB A slot = true) : ∃ s : Nat, slot = s ∧ 1 ≤ s ∧ s ≤ A.slots ∧ nth A.used s false = true := by
  simp only [inUseB, Bool.and_eq_true, decide_eq_true_eq] at h
  obtain ⟨⟨h1, h2⟩, h3⟩ := h
  exact ⟨slot.toNat, by omega, by omega, by omega, h3⟩

theorem flat_ent (l : List Ent) (i j : Nat) (hi : i < l.length) (hj : j < 3) : (l.flatMap Lies.cells)[i * 3 + j]? = l[i].cells[j]? := by
  induction l generalizing i with
  | nil => simp at hi
  | cons x l ih =>
    rw [List.flatMap_cons]
    cases i with
    | zero =>
      rw [Nat.zero_mul, Nat.zero_add, List.getElem?_append_left (by show j < 3; exact hj)]
      rfl
    | succ i =>
      rw [List.getElem?_append_right (by show 3 ≤ _; omega)]
      have e : (i + 1) * 3 + j - (Lies.cells x).length = i * 3 + j := by show (i + 1) * 3 + j - 3 = _; omega
      rw [e, ih i (by simpa using hi)]
      rfl
theorem flat_len (l : List Ent) : (l.flatMap Lies.cells).length = l.length * 3 := by
  induction l with
  | nil => rfl
  | cons x l ih =>
    rw [List.flatMap_cons, List.length_append, ih, List.length_cons]
    show 3 + _ = _
    omega
theorem ciE (h : At mu w L A) {s j : Nat} (hs : s ≤ A.slots) (hj : j < 3) : w.cell? ⟨L.bi, s * 3 + j, none⟩ = (nth A.items s Ent.empty).cells[j]? := by
  have hl : s < A.items.length := by have := h.fits.items; omega
  rw [cell_of h.hi, List.getElem?_toArray, flat_ent _ _ _ hl hj]
  simp [nth, List.getD_eq_getElem?_getD, hl]
end Go.Proofs.YtgagiggljlikbaaGreat.En
