/- The arena's methods at strings: Free. -/
import Derived.Test.YtmdboahjikngeaaAsFour
import Derived.StillTailTactics
namespace Go.Proofs.Ytmdboahjikngeaa.As
open Go.RowKit Go.Proofs.Ytmdboahjikngeaa.Mem Go.Proofs.Ytmdboahjikngeaa.Ar Go.MuLone
set_option linter.unusedVariables false

variable {mu : Int} {w : World} {L : Bk} {A : Arena ByteArray}

/-- what Free of a slot in use leaves -/
def freed {α : Type} [Lies α] (A : Arena α) (s : Nat) : Arena α :=
  { A with acc := wrap64 (A.acc + 1), used := A.used.set s false, items := A.items.set s Lies.zero, queue := A.queue.set ((A.front + A.free) % A.slots) s, free := A.free + 1 }

theorem At.setItem (h : At mu w L A) (s : Nat) (x : ByteArray) : At mu (w.setCell ⟨L.bi, s, none⟩ (.string x)) L { A with items := A.items.set s x } := by
  refine h.setItems (by simpa using h.fits.items) ((Keep.refl _ _).set (.inl (by simp)) _ _) ?_
  have hh := h.hi
  rw [flat_str] at hh ⊢
  exact list_set (g := Value.string) hh s x

theorem cq (h : At mu w L A) {i : Nat} (hi : i < A.slots) : w.cell? ⟨L.bq, i, none⟩ = some (.int .i64 ((nth A.queue i 0 : Nat) : Int)) := by
  rw [list_cell h.hq (by have := h.fits.queue; omega)]
  simp [nth, List.getD_eq_getElem?_getD, show i < A.queue.length by have := h.fits.queue; omega]

theorem free_no (h : At 0 w L A) (slot : Int) (hin : inUseB A slot = false) :
    Calls Try.prog 19 #[.pointer (some ⟨L.b, 0, none⟩), .int .i64 slot] w fun e w' => e = .returned (.int .i64 22) ∧ At 0 w' L (missed A) ∧ Keep L.blocks w w' := by
  have H := Lib.hid hin; clear hin
  have HA := Lib.hid h; clear h
  go_enter_defers Try.func19, Try.ntmps19
  go_wp2_with fail
  refine (missing HA.out).mono ?_
  rintro e w' ⟨rfl, rfl⟩
  go_wp2_with fail
  refine (lock HA.out).mono ?_
  rintro e w1 ⟨rfl, h1, k1⟩
  have H1 := Lib.hid h1; clear h1
  go_wp2_with fail
  refine (holds_no H1.out slot H.out).mono ?_
  rintro e w2 ⟨rfl, h2, k2⟩
  have H2 := Lib.hid h2; clear h2
  go_wp2_with fail
  refine leaves_cons (f := 41) (args := #[.pointer (some ⟨L.b, 6, none⟩)]) (by simp) (by simp [go_sem]) ?_
  refine (unlock H2.out .returning).mono ?_
  rintro e u' w'' ⟨rfl, rfl, h3, k3⟩
  exact ⟨_, results_tmp rfl _ _ _, rfl, h3, (k1.trans k2).trans k3⟩

set_option maxRecDepth 100000 in
theorem free_yes (h : At 0 w L A) (slot : Int) (hin : inUseB A slot = true) (hfree : A.free < A.slots) :
    Calls Try.prog 19 #[.pointer (some ⟨L.b, 0, none⟩), .int .i64 slot] w fun e w' => e = .returned (.int .i64 0) ∧ At 0 w' L (freed A slot.toNat) ∧ Keep L.blocks w w' := by
  obtain ⟨s, rfl, hs1, hs2, _⟩ := fits_lt hin
  rw [Int.toNat_natCast]
  have hsl := h.fits.s2
  have hfr := h.fits.front
  have H := Lib.hid hin; clear hin
  have HA := Lib.hid h; clear h
  go_enter_defers Try.func19, Try.ntmps19
  go_wp2_with fail
  refine (missing HA.out).mono ?_
  rintro e w' ⟨rfl, rfl⟩
  go_wp2_with fail
  refine (lock HA.out).mono ?_
  rintro e w1 ⟨rfl, h1, k1⟩
  have H1 := Lib.hid h1; clear h1
  go_wp2_with fail
  refine (holds_yes H1.out s H.out).mono ?_
  rintro e w' ⟨rfl, rfl⟩
  go_wp2_with fail
  refine (Atom.add64 L.b 4 A.acc 1 _ (c4 H1.out) (fz H1.out 4)).mono ?_
  rintro e w2 ⟨rfl, hw2⟩
  have H2 := Lib.hid (H1.out.setAcc (wrap64 (A.acc + 1)))
  have K2 := Lib.hid (k1.set (.inl (inB L)) 4 (.int .i64 (wrap64 (A.acc + 1))))
  rw [← hw2] at H2 K2
  clear hw2
  have e3 := c3 H2.out
  go_wp2_with fail
  refine (Atom.storeB_f L.bu s _ _ (cu H2.out hs2) (fu H2.out s)).mono ?_
  rintro e w3 ⟨rfl, hw3⟩
  have H3 := Lib.hid ((H2.out.setUsed s false).drew)
  have K3 := Lib.hid ((K2.out.set (.inl (inU L)) s (.int .u32 0)).drew)
  have hw3' : w3 = ((w2.setCell ⟨L.bu, s, none⟩ (.int .u32 (bit false))).drew) := hw3
  rw [← hw3] at K3
  rw [← hw3'] at H3
  clear hw3 hw3'
  have e11 := c11 H3.out
  have eci := ci H3.out hs2
  have efi := fi H3.out s
  go_wp2_with fail
  obtain ⟨w4, hw4⟩ : ∃ w4, w4 = w3.setCell ⟨L.bi, s, none⟩ (.string ByteArray.empty) := ⟨_, rfl⟩
  have H4 := Lib.hid (At.setItem H3.out s ByteArray.empty)
  have K4 := Lib.hid (K3.out.set (.inl (inI L)) s (.string ByteArray.empty))
  rw [← hw4] at H4 K4
  have hw4' : w3.setCell ⟨L.bi, s, none⟩ (.string { data := #[] }) = w4 := hw4.symm
  rw [hw4']
  clear hw4 hw4' e11 eci efi
  obtain ⟨m, hm⟩ : ∃ m, m = (A.front + A.free) % A.slots := ⟨_, rfl⟩
  have HM := Lib.hid hm
  have a2 : (IntKind.i64.wrap ((A.front : Int) + (A.free : Int))).tmod (A.slots : Int) = (m : Int) := by rw [IntWalk.i64_in _ (by omega), Int.tmod_eq_emod_of_nonneg (by omega), hm, Int.natCast_emod, Int.natCast_add]
  have a3 : ¬ A.slots = 0 := by omega
  have a4 : m < A.slots := by rw [hm]; exact Nat.mod_lt _ (by omega)
  clear hm
  refine wp_region_still_tail 20 (by kernel_rfl) (by kernel_rfl) ?_
  obtain ⟨w5, hw5⟩ : ∃ w5, w5 = w4.drew := ⟨_, rfl⟩
  have H5 := Lib.hid (H4.out.drew)
  have K5 := Lib.hid (K4.out.drew)
  rw [← hw5] at H5 K5
  have hw5' : { heap := w4.heap, tape := w4.tape, drawn := w4.drawn + 1, os := w4.os, output := w4.output : World } = w5 := hw5.symm
  rw [hw5']
  clear hw5 hw5'
  have e8 : w5.cell? ⟨L.b, 8, none⟩ = some (.slice (some ⟨L.bq, 0, none⟩) A.slots A.slots) := (c8 H5.out :)
  have e9 : w5.cell? ⟨L.b, 9, none⟩ = some (.int .i64 A.front) := (c9 H5.out :)
  have e10 : w5.cell? ⟨L.b, 10, none⟩ = some (.int .i64 A.free) := (c10 H5.out :)
  have e0 : w5.cell? ⟨L.b, 0, none⟩ = some (.int .i64 A.slots) := (c0 H5.out :)
  simp only [List.take_succ_cons, List.take_zero, List.drop_succ_cons, List.drop_zero]
  repeat still_step
  refine wpStill_nil ?_
  clear a2
  have e5 := fq H5.out m
  have e6 : w5.cell? ⟨L.bq, m, none⟩ = some (.int .i64 ((nth A.queue m 0 : Nat) : Int)) := (cq H5.out a4 :)
  have e7 := fz H5.out 10
  obtain ⟨_, _, n3, _⟩ := H5.out.ne
  have n3' := n3.symm
  go_wp2_with fail
  refine leaves_cons (f := 41) (args := #[.pointer (some ⟨L.b, 6, none⟩)]) (by simp) (by simp [go_sem]) ?_
  have H6 := (H5.out.setQueue m hs1 hs2).setFree (x := A.free + 1) hfree
  have K6 := ((K5.out.set (.inl (inQ L)) m (.int .i64 s)).set (.inl (inB L)) 10 (.int .i64 ((A.free + 1 : Nat) : Int)))
  rw [show ((A.free + 1 : Nat) : Int) = (A.free : Int) + 1 from by omega] at H6 K6
  refine (unlock H6 .returning).mono ?_
  rintro e u' w'' ⟨rfl, rfl, h7, k7⟩
  refine ⟨_, results_tmp rfl _ _ _, rfl, ?_, K6.trans k7⟩
  unfold freed
  rw [← HM.out]
  exact h7
end Go.Proofs.Ytmdboahjikngeaa.As
