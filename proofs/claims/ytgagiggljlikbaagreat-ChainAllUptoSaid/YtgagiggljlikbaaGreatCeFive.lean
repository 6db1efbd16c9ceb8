/- The arena's methods at entries: Free. -/
import Derived.Test.YtgagiggljlikbaaGreatCeFour
import Derived.StillTailTactics
import Derived.Deep.Cut
import Derived.Deep.MidRow
namespace Go.Proofs.YtgagiggljlikbaaGreat.En
open Go.RowKit Go.Proofs.YtgagiggljlikbaaGreat.Mem Go.Proofs.YtgagiggljlikbaaGreat.Ar Go.MuLone
set_option linter.unusedVariables false

variable {mu : Int} {w : World} {L : Bk} {A : Arena Ent}

/-- what Free of a slot in use leaves -/
def freed {α : Type} [Lies α] (A : Arena α) (s : Nat) : Arena α :=
  { A with acc := wrap64 (A.acc + 1), used := A.used.set s false, items := A.items.set s Lies.zero, queue := A.queue.set ((A.front + A.free) % A.slots) s, free := A.free + 1 }

theorem thereI (h : At mu w L A) {s : Nat} (hs : s ≤ A.slots) : w.there L.bi (s * 3) 3 := by
  intro j hj
  refine ⟨?_, fi h _⟩
  rw [ciE h hs hj]
  have h3 : j = 0 ∨ j = 1 ∨ j = 2 := by omega
  rcases h3 with rfl | rfl | rfl <;> rfl
theorem flat_set (l : List Ent) (i : Nat) (x : Ent) (hi : i < l.length) : ((((l.flatMap Lies.cells).set (i * 3) (.string x.name)).set (i * 3 + 1) (.string x.data)).set (i * 3 + 2) (.int .i64 x.tall)) = (l.set i x).flatMap Lies.cells := by
  apply List.ext_getElem?
  intro q
  have hl := flat_len l
  have hl2 := flat_len (l.set i x)
  rw [List.length_set] at hl2
  by_cases hq : q < l.length * 3
  · have e : q = q / 3 * 3 + q % 3 := by omega
    have hd : q / 3 < l.length := by omega
    rw [e, flat_ent (l.set i x) (q / 3) (q % 3) (by simpa using hd) (by omega)]
    by_cases his : q / 3 = i
    · have h3 : q % 3 = 0 ∨ q % 3 = 1 ∨ q % 3 = 2 := by omega
      subst his
      rw [List.getElem_set_self]
      rcases h3 with h3 | h3 | h3 <;> rw [h3] <;> simp [List.getElem?_set, hl, Ent.cells] <;> omega
    · rw [List.getElem_set_ne (fun e => his e.symm), ← flat_ent l (q / 3) (q % 3) hd (by omega)]
      simp only [List.getElem?_set]
      rw [if_neg (by omega), if_neg (by omega), if_neg (by omega)]
  · rw [List.getElem?_eq_none (by simp [hl]; omega), List.getElem?_eq_none (by omega)]
theorem At.setItemE (h : At mu w L A) {s : Nat} (hs : s ≤ A.slots) (x : Ent) : At mu (((w.setCell ⟨L.bi, s * 3, none⟩ (.string x.name)).setCell ⟨L.bi, s * 3 + 1, none⟩ (.string x.data)).setCell ⟨L.bi, s * 3 + 2, none⟩ (.int .i64 x.tall)) L { A with items := A.items.set s x } := by
  refine h.setItems (by simpa using h.fits.items) ((((Keep.refl _ _).set (.inl (by simp)) _ _).set (.inl (by simp)) _ _).set (.inl (by simp)) _ _) ?_
  rw [set_same (set_same (set_same h.hi (s * 3) _) (s * 3 + 1) _) (s * 3 + 2) _]
  congr 2
  rw [← flat_set _ _ _ (by have := h.fits.items; omega)]
  simp

theorem cq (h : At mu w L A) {i : Nat} (hi : i < A.slots) : w.cell? ⟨L.bq, i, none⟩ = some (.int .i64 ((nth A.queue i 0 : Nat) : Int)) := by
  rw [list_cell h.hq (by have := h.fits.queue; omega)]
  simp [nth, List.getD_eq_getElem?_getD, show i < A.queue.length by have := h.fits.queue; omega]

theorem free_no (h : At 0 w L A) (slot : Int) (hin : inUseB A slot = false) :
    Calls Tryz.prog 80 #[.pointer (some ⟨L.b, 0, none⟩), .int .i64 slot] w fun e w' => e = .returned (.int .i64 22) ∧ At 0 w' L (missed A) ∧ Keep L.blocks w w' := by
  have H := Lib.hid hin; clear hin
  have HA := Lib.hid h; clear h
  go_enter_defers Tryz.func80, Tryz.ntmps80
  go_wp2_with fail
  refine (missing HA.out).mono ?_
  rintro e w' ⟨rfl, rfl⟩
  go_wp2_with fail
  refine (lock HA.out).mono ?_
  rintro e w1 ⟨rfl, h1, k1⟩
  have H1 := Lib.hid h1; clear h1
  go_wp2_with fail
  refine (holds_no H1.out slot H.out).mono ?_
  rintro e w2 ⟨rfl, h2, k2⟩
  have H2 := Lib.hid h2; clear h2
  go_wp2_with fail
  refine leaves_cons (f := 58) (args := #[.pointer (some ⟨L.b, 6, none⟩)]) (by simp) (by simp [go_sem]) ?_
  refine (unlock H2.out .returning).mono ?_
  rintro e u' w'' ⟨rfl, rfl, h3, k3⟩
  exact ⟨_, results_tmp rfl _ _ _, rfl, h3, (k1.trans k2).trans k3⟩

set_option maxRecDepth 100000 in
theorem free_yes (h : At 0 w L A) (slot : Int) (hin : inUseB A slot = true) (hfree : A.free < A.slots) :
    Calls Tryz.prog 80 #[.pointer (some ⟨L.b, 0, none⟩), .int .i64 slot] w fun e w' => e = .returned (.int .i64 0) ∧ At 0 w' L (freed A slot.toNat) ∧ Keep L.blocks w w' := by
  obtain ⟨s, rfl, hs1, hs2, _⟩ := fits_lt hin
  rw [Int.toNat_natCast]
  have hsl := h.fits.s2
  have hfr := h.fits.front
  have H := Lib.hid hin; clear hin
  have HA := Lib.hid h; clear h
  go_enter_defers Tryz.func80, Tryz.ntmps80
  go_wp2_with fail
  refine (missing HA.out).mono ?_
  rintro e w' ⟨rfl, rfl⟩
  go_wp2_with fail
  refine (lock HA.out).mono ?_
  rintro e w1 ⟨rfl, h1, k1⟩
  have H1 := Lib.hid h1; clear h1
  go_wp2_with fail
  refine (holds_yes H1.out s H.out).mono ?_
  rintro e w' ⟨rfl, rfl⟩
  go_wp2_with fail
  refine (Atom.add64 L.b 4 A.acc 1 _ (c4 H1.out) (fz H1.out 4)).mono ?_
  rintro e w2 ⟨rfl, hw2⟩
  have H2 := Lib.hid (H1.out.setAcc (wrap64 (A.acc + 1)))
  have K2 := Lib.hid (k1.set (.inl (inB L)) 4 (.int .i64 (wrap64 (A.acc + 1))))
  rw [← hw2] at H2 K2
  clear hw2
  have e3 := c3 H2.out
  go_wp2_with fail
  refine (Atom.storeB_f L.bu s _ _ (cu H2.out hs2) (fu H2.out s)).mono ?_
  rintro e w3 ⟨rfl, hw3⟩
  have H3 := Lib.hid ((H2.out.setUsed s false).drew)
  have K3 := Lib.hid ((K2.out.set (.inl (inU L)) s (.int .u32 0)).drew)
  have hw3' : w3 = ((w2.setCell ⟨L.bu, s, none⟩ (.int .u32 (bit false))).drew) := hw3
  rw [← hw3] at K3
  rw [← hw3'] at H3
  clear hw3 hw3'
  go_wp2_with fail
  obtain ⟨wn, hwn⟩ : ∃ wn, wn = w3.alloc (.cells #[.string ⟨#[]⟩, .string ⟨#[]⟩, .int .i64 0] 55) := ⟨_, rfl⟩
  have kn : Keep [] w3 wn := by rw [hwn]; exact (Keep.refl _ _).alloc _
  have bn : wn.heap[w3.heap.size]? = some (.cells #[.string ⟨#[]⟩, .string ⟨#[]⟩, .int .i64 0] 55 (0, 0)) := by rw [hwn]; exact alloc_new _ _
  have HN := Lib.hid (H3.out.keep kn (by simp))
  have KN := Lib.hid (K3.out.trans (k0 (S := L.blocks) kn))
  rw [show w3.alloc (.cells #[.string ⟨#[]⟩, .string ⟨#[]⟩, .int .i64 0] 55 (0, 0)) = wn from hwn.symm]
  have z0 := (cell_of bn 0).trans rfl
  have z1 := (cell_of bn 1).trans rfl
  have z2 := (cell_of bn 2).trans rfl
  clear hwn kn bn
  refine wp_region_still_tail 7 (by kernel_rfl) (by kernel_rfl) ?_
  obtain ⟨wm, hwm⟩ : ∃ wm, wm = wn.drew := ⟨_, rfl⟩
  have HM := Lib.hid (HN.out.drew)
  have KM := Lib.hid (KN.out.drew)
  have y0 : wm.cell? ⟨w3.heap.size, 0, none⟩ = some (.string ⟨#[]⟩) := by rw [hwm]; exact z0
  have y1 : wm.cell? ⟨w3.heap.size, 1, none⟩ = some (.string ⟨#[]⟩) := by rw [hwm]; exact z1
  have y2 : wm.cell? ⟨w3.heap.size, 2, none⟩ = some (.int .i64 0) := by rw [hwm]; exact z2
  rw [← hwm] at HM KM
  rw [show ({ heap := wn.heap, tape := wn.tape, drawn := wn.drawn + 1, os := wn.os, output := wn.output } : World) = wm from hwm.symm]
  clear hwm z0 z1 z2
  have e11 : wm.cell? ⟨L.b, 11, none⟩ = some (.slice (some ⟨L.bi, 0, none⟩) (A.slots + 1) (A.slots + 1)) := (c11 HM.out :)
  have ht := thereI HM.out hs2
  have hsb : s < A.slots + 1 := by omega
  have hsb' : (s : Int) < (A.slots : Int) + 1 := by omega
  simp only [List.take_succ_cons, List.take_zero, List.drop_succ_cons, List.drop_zero]
  repeat still_step
  refine wpStill_nil ?_
  refine wpList_store_mid rfl 55 (.tmp 36) (.tmp 35) rfl L.bi (s * 3) #[.string ⟨#[]⟩, .string ⟨#[]⟩, .int .i64 0] rfl rfl ht (by kernel_rfl) (by simp [Value.oneCell']) ?_
  obtain ⟨w4, hw4⟩ : ∃ w4, w4 = ((wm.setCell ⟨L.bi, s * 3, none⟩ (.string Ent.empty.name)).setCell ⟨L.bi, s * 3 + 1, none⟩ (.string Ent.empty.data)).setCell ⟨L.bi, s * 3 + 2, none⟩ (.int .i64 Ent.empty.tall) := ⟨_, rfl⟩
  have H4 := Lib.hid (At.setItemE HM.out hs2 Ent.empty)
  have K4 := Lib.hid (((KM.out.set (.inl (inI L)) (s * 3) (.string Ent.empty.name)).set (.inl (inI L)) (s * 3 + 1) (.string Ent.empty.data)).set (.inl (inI L)) (s * 3 + 2) (.int .i64 Ent.empty.tall))
  rw [← hw4] at H4 K4
  rw [show wm.setCells L.bi (s * 3) (#[.string ⟨#[]⟩, .string ⟨#[]⟩, .int .i64 0] : Array Value).toList = w4 from hw4.symm]
  clear hw4 y0 y1 y2 e11 ht
  go_wp2_with fail
  obtain ⟨m, hm⟩ : ∃ m, m = (A.front + A.free) % A.slots := ⟨_, rfl⟩
  have HM := Lib.hid hm
  have a2 : (IntKind.i64.wrap ((A.front : Int) + (A.free : Int))).tmod (A.slots : Int) = (m : Int) := by rw [IntWalk.i64_in _ (by omega), Int.tmod_eq_emod_of_nonneg (by omega), hm, Int.natCast_emod, Int.natCast_add]
  have a3 : ¬ A.slots = 0 := by omega
  have a4 : m < A.slots := by rw [hm]; exact Nat.mod_lt _ (by omega)
  clear hm
  refine wp_region_still_tail 20 (by kernel_rfl) (by kernel_rfl) ?_
  obtain ⟨w5, hw5⟩ : ∃ w5, w5 = w4.drew := ⟨_, rfl⟩
  have H5 := Lib.hid (H4.out.drew)
  have K5 := Lib.hid (K4.out.drew)
  rw [← hw5] at H5 K5
  have hw5' : { heap := w4.heap, tape := w4.tape, drawn := w4.drawn + 1, os := w4.os, output := w4.output : World } = w5 := hw5.symm
  rw [hw5']
  clear hw5 hw5'
  have e8 : w5.cell? ⟨L.b, 8, none⟩ = some (.slice (some ⟨L.bq, 0, none⟩) A.slots A.slots) := (c8 H5.out :)
  have e9 : w5.cell? ⟨L.b, 9, none⟩ = some (.int .i64 A.front) := (c9 H5.out :)
  have e10 : w5.cell? ⟨L.b, 10, none⟩ = some (.int .i64 A.free) := (c10 H5.out :)
  have e0 : w5.cell? ⟨L.b, 0, none⟩ = some (.int .i64 A.slots) := (c0 H5.out :)
  simp only [List.take_succ_cons, List.take_zero, List.drop_succ_cons, List.drop_zero]
  repeat still_step
  refine wpStill_nil ?_
  clear a2
  have e5 := fq H5.out m
  have e6 : w5.cell? ⟨L.bq, m, none⟩ = some (.int .i64 ((nth A.queue m 0 : Nat) : Int)) := (cq H5.out a4 :)
  have e7 := fz H5.out 10
  obtain ⟨_, _, n3, _⟩ := H5.out.ne
  have n3' := n3.symm
  go_wp2_with fail
  refine leaves_cons (f := 58) (args := #[.pointer (some ⟨L.b, 6, none⟩)]) (by simp) (by simp [go_sem]) ?_
  have H6 := (H5.out.setQueue m hs1 hs2).setFree (x := A.free + 1) hfree
  have K6 := ((K5.out.set (.inl (inQ L)) m (.int .i64 s)).set (.inl (inB L)) 10 (.int .i64 ((A.free + 1 : Nat) : Int)))
  rw [show ((A.free + 1 : Nat) : Int) = (A.free : Int) + 1 from by omega] at H6 K6
  refine (unlock H6 .returning).mono ?_
  rintro e u' w'' ⟨rfl, rfl, h7, k7⟩
  refine ⟨_, results_tmp rfl _ _ _, rfl, ?_, K6.trans k7⟩
  unfold freed
  rw [← HM.out]
  exact h7
end Go.Proofs.YtgagiggljlikbaaGreat.En
