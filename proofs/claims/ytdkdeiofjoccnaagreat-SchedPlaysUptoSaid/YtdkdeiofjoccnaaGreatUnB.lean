import Derived.Test.YtdkdeiofjoccnaaGreatUnA
import Derived.StillTailTactics
/- The arena's methods at struct{}: Free. -/
namespace Go.Proofs.YtdkdeiofjoccnaaGreat.Un
open Go.RowKit Go.Proofs.YtdkdeiofjoccnaaGreat.Mem Go.Proofs.YtdkdeiofjoccnaaGreat.Ar Go.MuLone
set_option linter.unusedVariables false

variable {mu : Int} {w : World} {L : Bk} {A : Arena Unit}

theorem cq (h : At mu w L A) {i : Nat} (hi : i < A.slots) : w.cell? ⟨L.bq, i, none⟩ = some (.int .i64 ((nth A.queue i 0 : Nat) : Int)) := by
  rw [list_cell h.hq (by have := h.fits.queue; omega)]
  simp [nth, List.getD_eq_getElem?_getD, show i < A.queue.length by have := h.fits.queue; omega]

end Go.Proofs.YtdkdeiofjoccnaaGreat.Un

/- The arena's methods at struct{}: Alloc. -/
namespace Go.Proofs.YtdkdeiofjoccnaaGreat.Un
open Go.RowKit Go.Proofs.YtdkdeiofjoccnaaGreat.Mem Go.Proofs.YtdkdeiofjoccnaaGreat.Ar Go.MuLone
set_option linter.unusedVariables false

variable {mu : Int} {w : World} {L : Bk} {A : Arena Unit}

/-- the words of a slot, laid one by one -/
def fill (l : List Int) (base : Nat) (ws : List Int) : Nat → List Int
  | 0 => l
  | k + 1 => (fill l base ws k).set (base + k) (nth ws k 0)

/-- the slot that Alloc gives -/
def nextSlot {α : Type} (A : Arena α) : Nat := nth A.queue A.front 0

/-- what Alloc leaves where a slot is free -/
def allocd {α : Type} (A : Arena α) (p : α) (ws : List Int) : Arena α :=
  { A with
    acc := wrap64 (A.acc + 1), front := (A.front + 1) % A.slots, free := A.free - 1, items := A.items.set (nextSlot A) p
    turns := A.turns.set (nextSlot A) (wrap64 (nth A.turns (nextSlot A) 0 + 1))
    words := fill A.words ((nextSlot A - 1) * A.width) ws A.width, used := A.used.set (nextSlot A) true }

/-- .. and on the way there, k words laid -/
def mid {α : Type} (A : Arena α) (p : α) (ws : List Int) (k : Nat) : Arena α :=
  { A with
    acc := wrap64 (A.acc + 1), front := (A.front + 1) % A.slots, free := A.free - 1, items := A.items.set (nextSlot A) p
    turns := A.turns.set (nextSlot A) (wrap64 (nth A.turns (nextSlot A) 0 + 1))
    words := fill A.words ((nextSlot A - 1) * A.width) ws k }

theorem next_range {α : Type} {A : Arena α} (h : Fits A) : 1 ≤ nextSlot A ∧ nextSlot A ≤ A.slots := by
  have hl : A.front < A.queue.length := by have := h.queue; have := h.front; omega
  have := h.queued (A.queue[A.front]) (List.getElem_mem hl)
  unfold nextSlot
  rw [nth, List.getD_eq_getElem?_getD, List.getElem?_eq_getElem hl]
  exact this

theorem ct (h : At mu w L A) {s : Nat} (hs : s ≤ A.slots) : w.cell? ⟨L.bt, s, none⟩ = some (.int .i64 (nth A.turns s 0)) := by
  rw [list_cell h.ht (by have := h.fits.turns; omega)]
  simp [nth, List.getD_eq_getElem?_getD, show s < A.turns.length by have := h.fits.turns; omega]

/-- A slice of words in memory that is none of the arena's. -/
structure Given (w : World) (L : Bk) (a : Option Addr) (ws : List Int) : Prop where
  cell : ∀ i, i < ws.length → ∃ b o, a = some ⟨b, o, none⟩ ∧ b ∉ L.blocks ∧ w.cell? ⟨b, o + i, none⟩ = some (.int .u64 (nth ws i 0))

theorem Given.keep {w w' : World} {L : Bk} {a : Option Addr} {ws : List Int} (h : Given w L a ws) (k : Keep L.blocks w w') : Given w' L a ws :=
  ⟨fun i hi => let ⟨b, o, e, hn, hc⟩ := h.cell i hi; ⟨b, o, e, hn, k.cell hc hn⟩⟩

theorem At.setItemU (h : At mu w L A) (s : Nat) (x : Unit) : At mu w L { A with items := A.items.set s x } := by
  refine h.setItems (by simpa using h.fits.items) (Keep.refl _ _) ?_
  have hh := h.hi
  have e : ∀ l : List Unit, l.flatMap Lies.cells = [] := by
    intro l
    rw [List.flatMap_eq_nil_iff]
    exact fun _ _ => rfl
  rw [e] at hh ⊢
  exact hh

set_option maxRecDepth 100000 in
set_option maxHeartbeats 1000000 in
theorem alloc_ok (h : At 0 w L A) (p : Unit) (a : Option Addr) (cap : Nat) (ws : List Int) (hws : Given w L a ws) (hl : ws.length ≤ A.width) (hf : 1 ≤ A.free) :
    Calls Tryz.prog 27 #[.pointer (some ⟨L.b, 0, none⟩), .agg #[], .slice a ws.length cap] w fun e w' => e = .returned (.tuple #[.int .i64 (nextSlot A), .int .i64 0]) ∧ At 0 w' L (allocd A p ws) ∧ Keep L.blocks w w' := by
  have hw2 := h.fits.w2
  have hsl := h.fits.s2
  have hfr := h.fits.front
  have hfe := h.fits.free
  obtain ⟨hn1, hn2⟩ := next_range h.fits
  have HA := Lib.hid h; clear h
  have HW := Lib.hid hws; clear hws
  go_enter_defers Tryz.func27, Tryz.ntmps27
  go_wp2_with fail
  have kA : Keep [] w (w.alloc (.cells #[] 90 (0, 0))) := (Keep.refl _ _).alloc _
  obtain ⟨wA, hwA⟩ : ∃ wA, wA = w.alloc (.cells #[] 90 (0, 0)) := ⟨_, rfl⟩
  have hwA' : w.alloc (.cells #[] 90 (0, 0)) = wA := hwA.symm
  rw [← hwA] at kA
  rw [hwA']
  have HAA := Lib.hid (HA.out.of0 kA)
  have KA := Lib.hid kA
  have e1 := c1 HAA.out
  clear hwA hwA' kA
  refine (missing HAA.out).mono ?_
  rintro e w' ⟨rfl, rfl⟩
  go_wp2_with fail
  refine (Atom.add64 L.b 4 A.acc 1 _ (c4 HAA.out) (fz HAA.out 4)).mono ?_
  rintro e w1 ⟨rfl, hw1⟩
  have H1 := Lib.hid (HAA.out.setAcc (wrap64 (A.acc + 1)))
  have K1 := Lib.hid ((k0 (S := L.blocks) KA.out).set (.inl (inB L)) 4 (.int .i64 (wrap64 (A.acc + 1))))
  rw [← hw1] at H1 K1
  clear hw1
  go_wp2_with fail
  refine (lock H1.out).mono ?_
  rintro e w2 ⟨rfl, h2, k2⟩
  have H2 := Lib.hid h2; clear h2
  have K2 := Lib.hid (K1.out.trans k2); clear K1 k2 e1 H1
  have hf0 : ((A.free : Int) == 0) = false := by simp; omega
  have e10 : w2.cell? ⟨L.b, 10, none⟩ = some (.int .i64 A.free) := (c10 H2.out :)
  have e8 : w2.cell? ⟨L.b, 8, none⟩ = some (.slice (some ⟨L.bq, 0, none⟩) A.slots A.slots) := (c8 H2.out :)
  have e9 : w2.cell? ⟨L.b, 9, none⟩ = some (.int .i64 A.front) := (c9 H2.out :)
  have eq : w2.cell? ⟨L.bq, A.front, none⟩ = some (.int .i64 (nextSlot A)) := (cq H2.out hfr :)
  go_wp2_with fail
  go_quiet (fail)
  obtain ⟨w3, hw3⟩ : ∃ w3, w3 = w2.drewN nq := ⟨_, rfl⟩
  have H3 := Lib.hid (H2.out.drewN nq)
  have K3 := Lib.hid (K2.out.drewN nq)
  rw [← hw3] at H3 K3 ⊢
  clear hw3 e10 e8 e9 eq H2 K2
  -- the front goes on
  obtain ⟨w4, hw4⟩ : ∃ w4, w4 = w3.drew := ⟨_, rfl⟩
  have H4 := Lib.hid (H3.out.drew)
  have K4 := Lib.hid (K3.out.drew)
  rw [← hw4] at H4 K4
  obtain ⟨m, hm⟩ : ∃ m, m = (A.front + 1) % A.slots := ⟨_, rfl⟩
  have HM := Lib.hid hm
  have a2 : (IntKind.i64.wrap ((A.front : Int) + 1)).tmod (A.slots : Int) = (m : Int) := by rw [IntWalk.i64_in _ (by omega), Int.tmod_eq_emod_of_nonneg (by omega), hm, Int.natCast_emod, Int.natCast_add]; rfl
  have a3 : ¬ A.slots = 0 := by omega
  have a4 : m < A.slots := by rw [hm]; exact Nat.mod_lt _ (by omega)
  clear hm
  go_wp2_with fail
  refine wp_region_still_tail 13 (by kernel_rfl) (by kernel_rfl) ?_
  have hw4' : { heap := w3.heap, tape := w3.tape, drawn := w3.drawn + 1, os := w3.os, output := w3.output : World } = w4 := hw4.symm
  rw [hw4']
  clear hw4 hw4' H3 K3
  have e9 : w4.cell? ⟨L.b, 9, none⟩ = some (.int .i64 A.front) := (c9 H4.out :)
  have e0 : w4.cell? ⟨L.b, 0, none⟩ = some (.int .i64 A.slots) := (c0 H4.out :)
  simp only [List.take_succ_cons, List.take_zero, List.drop_succ_cons, List.drop_zero]
  repeat still_step
  refine wpStill_nil ?_
  clear a2
  have f0 := fz H4.out
  have e10 : w4.cell? ⟨L.b, 10, none⟩ = some (.int .i64 A.free) := (c10 H4.out :)
  have e11 : w4.cell? ⟨L.b, 11, none⟩ = some (.slice (some ⟨L.bi, 0, none⟩) (A.slots + 1) (A.slots + 1)) := (c11 H4.out :)
  have e12 : w4.cell? ⟨L.b, 12, none⟩ = some (.slice (some ⟨L.bt, 0, none⟩) (A.slots + 1) (A.slots + 1)) := (c12 H4.out :)
  have e1 : w4.cell? ⟨L.b, 1, none⟩ = some (.int .i64 A.width) := (c1 H4.out :)
  have et : w4.cell? ⟨L.bt, nextSlot A, none⟩ = some (.int .i64 (nth A.turns (nextSlot A) 0)) := (ct H4.out hn2 :)
  have gt := ft H4.out (nextSlot A)
  obtain ⟨_, _, _, n4, n5, _, _, _, _, _, _, _, _, _, n6⟩ := H4.out.ne
  have n4' := n4.symm
  have n5' := n5.symm
  have n6' := n6.symm
  go_wp2_with fail
  -- the payload: nothing is written
  have H4b := Lib.hid ((H4.out.setFront a4).setFree (x := A.free - 1) (by show A.free - 1 ≤ A.slots; omega))
  have K4b := Lib.hid ((K4.out.set (.inl (inB L)) 9 (.int .i64 m)).set (.inl (inB L)) 10 (.int .i64 ((A.free - 1 : Nat) : Int)))
  rw [show ((A.free - 1 : Nat) : Int) = (A.free : Int) - 1 from by omega] at H4b K4b
  obtain ⟨X, hX⟩ : ∃ X, X = (w4.setCell ⟨L.b, 9, none⟩ (.int .i64 m)).setCell ⟨L.b, 10, none⟩ (.int .i64 ((A.free : Int) - 1)) := ⟨_, rfl⟩
  rw [← hX] at H4b K4b ⊢
  obtain ⟨w5, hw5⟩ : ∃ w5, w5 = X.drew := ⟨_, rfl⟩
  have H5b := Lib.hid (H4b.out.drew)
  have K5b := Lib.hid (K4b.out.drew)
  rw [← hw5] at H5b K5b
  clear e9 e0 f0 e10 e11 e12 e1 et gt n4' n5' n6' n4 n5 n6 H4 K4 H4b K4b hX
  have e11 : w5.cell? ⟨L.b, 11, none⟩ = some (.slice (some ⟨L.bi, 0, none⟩) (A.slots + 1) (A.slots + 1)) := (c11 H5b.out :)
  have hnx : ((nextSlot A : Nat) : Int) < (A.slots : Int) + 1 := by omega
  have hld : ∀ (a : Addr) (w : World), (loadVar 90 a).run Tryz.prog w = .ok (.agg #[]) w := fun a w => by kernel_rfl
  have hst : ∀ (a : Addr) (w : World), (storeVar 90 a (.agg #[])).run Tryz.prog w = .ok () w := fun a w => by kernel_rfl
  refine wp_region_still_tail 7 (by kernel_rfl) (by kernel_rfl) ?_
  have hw5' : { heap := X.heap, tape := X.tape, drawn := X.drawn + 1, os := X.os, output := X.output : World } = w5 := hw5.symm
  rw [hw5']
  clear hw5 hw5'
  simp only [List.take_succ_cons, List.take_zero, List.drop_succ_cons, List.drop_zero]
  repeat still_step
  refine wpStill_nil ?_
  have e12 : w5.cell? ⟨L.b, 12, none⟩ = some (.slice (some ⟨L.bt, 0, none⟩) (A.slots + 1) (A.slots + 1)) := (c12 H5b.out :)
  have e1 : w5.cell? ⟨L.b, 1, none⟩ = some (.int .i64 A.width) := (c1 H5b.out :)
  have et : w5.cell? ⟨L.bt, nextSlot A, none⟩ = some (.int .i64 (nth A.turns (nextSlot A) 0)) := (ct H5b.out hn2 :)
  have gt := ft H5b.out (nextSlot A)
  obtain ⟨_, _, _, n4, n5, _⟩ := H5b.out.ne
  have n5' := n5.symm
  go_wp2_with fail
  have H5 := Lib.hid ((At.setItemU H5b.out (nextSlot A) p).setTurn (nextSlot A) (wrap64 (nth A.turns (nextSlot A) 0 + 1)))
  have K5 := Lib.hid (K5b.out.set (.inl (inT L)) (nextSlot A) (.int .i64 (wrap64 (nth A.turns (nextSlot A) 0 + 1))))
  -- the words
  go_loopw [86] (fun i wr => ∃ k : Nat, k ≤ A.width ∧ i = .int .i64 k ∧ At 1 wr L (mid A p ws k) ∧ Keep L.blocks w wr) (fun i _ => A.width - (intOf i).toNat)
  case atStart =>
    refine ⟨0, Nat.zero_le _, rfl, ?_, K5.out⟩
    unfold mid
    rw [← HM.out]
    exact H5.out
  case round =>
    obtain ⟨k, hk, rfl, hA, hK⟩ := hrel
    have HR := Lib.hid hA; clear hA
    have KR := Lib.hid hK; clear hK
    clear e1 e11 e12 et gt H5 K5 HM H5b K5b
    by_cases hlt : k < A.width
    · have hz := size_le HR.out.fits
      have hwl := wordAt_lt HR.out.fits hn1 hn2 (c := k) hlt
      obtain ⟨hi, hi0, hi1⟩ := wordAt_int HR.out.fits hn1 hn2 (c := k) hlt
      have hwl' : wordAt A (nextSlot A) k < A.slots * A.width := hwl
      have hz' : A.slots * A.width ≤ 65536 := hz
      have r1 : IntKind.i64.wrap (((nextSlot A : Nat) : Int) - 1) = ((nextSlot A : Nat) : Int) - 1 := IntWalk.i64_in _ (by omega)
      have r2 : IntKind.i64.wrap ((((nextSlot A : Nat) : Int) - 1) * (A.width : Int)) = (((nextSlot A : Nat) : Int) - 1) * (A.width : Int) := by
        have h1 : (mid A p ws k).width = A.width := rfl
        rw [h1] at hi0 hi1
        exact IntWalk.i64_in _ (by omega)
      have r3 : IntKind.i64.wrap ((((nextSlot A : Nat) : Int) - 1) * (A.width : Int) + (k : Int)) = ((wordAt A (nextSlot A) k : Nat) : Int) := by
        have h1 : (((nextSlot A : Nat) : Int) - 1) * (A.width : Int) + (k : Int) = ((wordAt A (nextSlot A) k : Nat) : Int) := hi
        rw [h1]
        exact IntWalk.i64_in _ (by omega)
      have r4 : ((wordAt A (nextSlot A) k : Nat) : Int) < (A.slots : Int) * (A.width : Int) := by rw [← Int.natCast_mul]; omega
      clear hi hi0 hi1 hwl hz
      obtain ⟨w7, hw7⟩ : ∃ w7, w7 = wr.drew := ⟨_, rfl⟩
      have H7 := Lib.hid (HR.out.drew)
      have K7 := Lib.hid (KR.out.drew)
      rw [← hw7] at H7 K7
      have e0 : w7.cell? ⟨L.b, 1, none⟩ = some (.int .i64 A.width) := (c1 H7.out :)
      have e2 : w7.cell? ⟨L.b, 2, none⟩ = some (.slice (some ⟨L.bw, 0, none⟩) (A.slots * A.width) (A.slots * A.width)) := (c2 H7.out :)
      by_cases hl2 : k < ws.length
      · obtain ⟨b, o, rfl, hb, hc⟩ := HW.out.cell k hl2
        have hc' := KR.out.cell hc hb
        go_wp2_with fail
        refine wp_region_still_tail 15 (by kernel_rfl) (by kernel_rfl) ?_
        have hw7' : { heap := wr.heap, tape := wr.tape, drawn := wr.drawn + 1, os := wr.os, output := wr.output : World } = w7 := hw7.symm
        rw [hw7']
        clear hw7 hw7'
        simp only [List.take_succ_cons, List.take_zero, List.drop_succ_cons, List.drop_zero]
        repeat still_step
        refine wpStill_nil ?_
        clear r1 r2 r3 r4
        go_wp2_with fail
        refine (Atom.store64 L.bw (wordAt A (nextSlot A) k) _ _ _ (cw H7.out hwl') (fw H7.out _)).mono ?_
        rintro e w8 ⟨rfl, hw8⟩
        have H8 := Lib.hid (H7.out.setWord (wordAt A (nextSlot A) k) (nth ws k 0))
        have K8 := Lib.hid (K7.out.set (.inl (inW L)) (wordAt A (nextSlot A) k) (.int .u64 (nth ws k 0)))
        rw [← hw8] at H8 K8
        clear hw8
        go_wp2_with fail
        go_roundw
        case rel => exact ⟨k + 1, hlt, by go_num, H8.out, K8.out⟩
        case measure => simp [intOf]; omega
      · have hz : nth ws k 0 = 0 := by simp [nth, List.getD_eq_getElem?_getD, List.getElem?_eq_none (Nat.le_of_not_lt hl2)]
        have HZ := Lib.hid hz; clear hz
        go_wp2_with fail
        refine wp_region_still_tail 15 (by kernel_rfl) (by kernel_rfl) ?_
        have hw7' : { heap := wr.heap, tape := wr.tape, drawn := wr.drawn + 1, os := wr.os, output := wr.output : World } = w7 := hw7.symm
        rw [hw7']
        clear hw7 hw7'
        simp only [List.take_succ_cons, List.take_zero, List.drop_succ_cons, List.drop_zero]
        repeat still_step
        refine wpStill_nil ?_
        clear r1 r2 r3 r4
        go_wp2_with fail
        refine (Atom.store64 L.bw (wordAt A (nextSlot A) k) _ _ _ (cw H7.out hwl') (fw H7.out _)).mono ?_
        rintro e w8 ⟨rfl, hw8⟩
        have H8 := Lib.hid (H7.out.setWord (wordAt A (nextSlot A) k) (nth ws k 0))
        have K8 := Lib.hid (K7.out.set (.inl (inW L)) (wordAt A (nextSlot A) k) (.int .u64 (nth ws k 0)))
        rw [HZ.out] at H8 K8
        rw [← hw8] at H8 K8
        clear hw8
        go_wp2_with fail
        go_roundw
        case rel => exact ⟨k + 1, hlt, by go_num, by have q := H8.out; rw [← HZ.out] at q; exact q, K8.out⟩
        case measure => simp [intOf]; omega
    · have hke : k = A.width := by omega
      have HKE := Lib.hid hke; clear hke
      have e3 : wr.cell? ⟨L.b, 3, none⟩ = some (.slice (some ⟨L.bu, 0, none⟩) (A.slots + 1) (A.slots + 1)) := (c3 HR.out :)
      go_wp2_with fail
      refine (Atom.storeB_t L.bu (nextSlot A) _ _ (cu HR.out hn2) (fu HR.out _)).mono ?_
      rintro e w8 ⟨rfl, hw8⟩
      have H8 := Lib.hid ((HR.out.setUsed (nextSlot A) true).drew)
      have K8 := Lib.hid ((KR.out.set (.inl (inU L)) (nextSlot A) (.int .u32 1)).drew)
      have hw8' : w8 = ((wr.setCell ⟨L.bu, nextSlot A, none⟩ (.int .u32 (bit true))).drew) := hw8
      rw [← hw8] at K8
      rw [← hw8'] at H8
      clear hw8 hw8'
      go_wp2_with fail
      refine leaves_cons (f := 75) (args := #[.pointer (some ⟨L.b, 6, none⟩)]) (by simp) (by simp [go_sem]) ?_
      refine (unlock H8.out .returning).mono ?_
      rintro e u' w'' ⟨rfl, rfl, h9, k9⟩
      refine ⟨_, results_tmp2 rfl _ _ _, rfl, ?_, K8.out.trans k9⟩
      rw [HKE.out] at h9
      exact h9
end Go.Proofs.YtdkdeiofjoccnaaGreat.Un

/- The arena at struct{}: New. -/
namespace Go.Proofs.YtdkdeiofjoccnaaGreat.Un
open Go.RowKit Go.Proofs.YtdkdeiofjoccnaaGreat.Mem Go.Proofs.YtdkdeiofjoccnaaGreat.Ar
set_option linter.unusedVariables false

variable {w : World}

theorem infoW : (Tryz.prog.info? 175).map (fun i => (i.zero, i.size, i.bytes)) = some (some (.agg #[.int .u64 0]), 1, 8) := by kernel_rfl
theorem infoU : (Tryz.prog.info? 178).map (fun i => (i.zero, i.size, i.bytes)) = some (some (.agg #[.int .u32 0]), 1, 4) := by kernel_rfl
theorem infoI : (Tryz.prog.info? 3).map (fun i => (i.zero, i.size, i.bytes)) = some (some (.int .i64 0), 1, 8) := by kernel_rfl
theorem infoP : (Tryz.prog.info? 90).map (fun i => (i.zero, i.size, i.bytes)) = some (some (.agg #[]), 0, 0) := by kernel_rfl

theorem make_row (t e : TypeId) (z zc : Value) (bytes : Nat) (ht : Tryz.prog.underlying t = some (.slice e)) (hinfo : (Tryz.prog.info? e).map (fun i => (i.zero, i.size, i.bytes)) = some (some z, 1, bytes)) (hzc : z.cells = #[zc])
    (n : Nat) (hbytes : bytes * n ≤ 281474976710656) (h63 : n ≤ 9223372036854775807) (w : World) :
    (Instr.makeSlice t (.int .i64 (n : Int)) (.int .i64 (n : Int))).run Tryz.prog w = .ok (.slice (some ⟨w.heap.size, 0, none⟩) n n) (w.alloc (.cells (madeCells #[zc] n) e)) := by
  obtain ⟨i, hi, hzz⟩ := Option.map_eq_some_iff.1 hinfo
  simp only [Prod.mk.injEq] at hzz
  obtain ⟨hz, hs, hb⟩ := hzz
  have h := run_make (P := Tryz.prog) w t e i z ht hi hz .i64 .i64 (n : Int) (n : Int) (by omega) (Int.le_refl _) (by rw [hb]; omega) (by omega)
  rw [hs, hzc, Nat.mul_one, Int.toNat_natCast] at h
  exact h

/-- a row of nothings -/
theorem make_rowU (n : Nat) (hn : n ≤ 100000) (w : World) :
    (Instr.makeSlice 170 (.int .i64 (n : Int)) (.int .i64 (n : Int))).run Tryz.prog w = .ok (.slice (some ⟨w.heap.size, 0, none⟩) n n) (w.alloc (.cells #[] 90)) := by
  obtain ⟨i, hi, hzz⟩ := Option.map_eq_some_iff.1 infoP
  simp only [Prod.mk.injEq] at hzz
  obtain ⟨hz, hs, hb⟩ := hzz
  have h := run_make (P := Tryz.prog) w 170 90 i _ Tryz.underlying170 hi hz .i64 .i64 (n : Int) (n : Int) (by omega) (Int.le_refl _) (by rw [hb]; omega) (by omega)
  have e : madeCells (Value.agg #[]).cells 0 = #[] := by simp [madeCells]
  rw [hs, Int.toNat_natCast, Nat.mul_zero, e] at h
  exact h

theorem made_list (z : Value) (n : Nat) : madeCells #[z] n = (List.replicate n z).toArray := by
  rw [← toList_madeCells_one, Array.toArray_toList]

theorem new_bad (slots width : Int) (hs : ¬ (1 ≤ slots ∧ slots ≤ 4096 ∧ 1 ≤ width ∧ width ≤ 16)) :
    Calls Tryz.prog 26 #[.int .i64 slots, .int .i64 width] w fun e w' => e = .returned (.tuple #[.pointer none, .int .i64 20]) ∧ w = w' := by
  by_cases h1 : slots < 1
  · clear hs
    go_enter Tryz.func26, Tryz.ntmps26
    go_wp2
    go_ret2
    exact ⟨rfl, rfl⟩
  · by_cases h2 : 4096 < slots
    · clear hs
      go_enter Tryz.func26, Tryz.ntmps26
      go_wp2
      go_ret2
      exact ⟨rfl, rfl⟩
    · by_cases h3 : width < 1
      · clear hs
        go_enter Tryz.func26, Tryz.ntmps26
        go_wp2
        go_ret2
        exact ⟨rfl, rfl⟩
      · have h4 : 16 < width := by omega
        clear hs
        go_enter Tryz.func26, Tryz.ntmps26
        go_wp2
        go_ret2
        exact ⟨rfl, rfl⟩

/-- a new arena -/
def fresh (α : Type) [Lies α] (slots width : Nat) : Arena α :=
  { slots, width, words := List.replicate (slots * width) 0, used := List.replicate (slots + 1) false, acc := 0, miss := 0, queue := List.range' 1 slots, front := 0, free := slots
    items := List.replicate (slots + 1) Lies.zero, turns := List.replicate (slots + 1) 0 }

theorem fresh_fits (α : Type) [Lies α] (slots width : Nat) (h1 : 1 ≤ slots) (h2 : slots ≤ 4096) (h3 : 1 ≤ width) (h4 : width ≤ 16) : Fits (fresh α slots width) where
  s1 := h1
  s2 := h2
  w1 := h3
  w2 := h4
  words := by simp [fresh]
  used := by simp [fresh]
  queue := by simp [fresh]
  items := by simp [fresh]
  turns := by simp [fresh]
  front := by simp [fresh]; omega
  free := by simp [fresh]
  queued := by
    intro x hx
    simp only [fresh, List.mem_range'_1] at hx
    simp only [fresh]
    omega

/-- the header while the queue is filled -/
def hd (N slots width : Nat) : Array Value :=
  #[.int .i64 slots, .int .i64 width, .slice (some ⟨N + 1, 0, none⟩) (slots * width) (slots * width), .slice (some ⟨N + 1 + 1, 0, none⟩) (slots + 1) (slots + 1), .int .i64 0, .int .i64 0, .int .i32 0, .int .u32 0,
    .slice (some ⟨N + 1 + 1 + 1, 0, none⟩) slots slots, .int .i64 0, .int .i64 slots, .slice none 0 0, .slice none 0 0]
/-- the queue with k places filled -/
def qd (slots k : Nat) : List Nat := List.range' 1 k ++ List.replicate (slots - k) 0
theorem qd_length {slots k : Nat} (h : k ≤ slots) : (qd slots k).length = slots := by simp [qd]; omega
theorem qd_set {slots k : Nat} (h : k < slots) : (qd slots k).set k (k + 1) = qd slots (k + 1) := by
  unfold qd
  rw [List.set_append_right _ _ (by simp), List.length_range', Nat.sub_self]
  obtain ⟨n, hn⟩ : ∃ n, slots - k = n + 1 := ⟨slots - k - 1, by omega⟩
  rw [hn, List.replicate_succ, List.set_cons_zero, show slots - (k + 1) = n from by omega, List.range'_1_concat, List.append_assoc]
  simp [Nat.add_comm]

/-- what stands while the queue is filled -/
structure Filling (w wr : World) (slots width k : Nat) : Prop where
  size : wr.heap.size = w.heap.size + 1 + 1 + 1 + 1
  keep : Keep [] w wr
  h0 : wr.heap[w.heap.size]? = some (.cells (hd w.heap.size slots width) 172 (0, 0))
  h1 : wr.heap[w.heap.size + 1]? = some (.cells ((List.replicate (slots * width) (0 : Int)).map (.int .u64)).toArray 175 (0, 0))
  h2 : wr.heap[w.heap.size + 1 + 1]? = some (.cells ((List.replicate (slots + 1) false).map fun x => .int .u32 (bit x)).toArray 178 (0, 0))
  h3 : wr.heap[w.heap.size + 1 + 1 + 1]? = some (.cells ((qd slots k).map fun x : Nat => .int .i64 x).toArray 3 (0, 0))

theorem Filling.set {w wr : World} {slots width k : Nat} (h : Filling w wr slots width k) (hk : k < slots) : Filling w (wr.setCell ⟨w.heap.size + 1 + 1 + 1, k, none⟩ (.int .i64 ((k : Int) + 1))) slots width (k + 1) := by
  have e : (Value.int .i64 ((k : Int) + 1)) = .int .i64 ((k + 1 : Nat) : Int) := by rw [Int.natCast_add]; rfl
  refine ⟨by simp [h.size], h.keep.set (.inr (by omega)) _ _, (set_other (by omega) _ _).trans h.h0, (set_other (by omega) _ _).trans h.h1, (set_other (by omega) _ _).trans h.h2, ?_⟩
  rw [e, list_set (g := fun x : Nat => .int .i64 x) h.h3 k (k + 1), qd_set hk]

theorem replicate_made (z : Value) (n : Nat) {α : Type} (x : α) (g : α → Value) (hg : g x = z) : madeCells #[z] n = ((List.replicate n x).map g).toArray := by
  rw [made_list, List.map_replicate, hg]

/-- where the new arena lies -/
def newBk (N : Nat) : Bk := ⟨N, N + 1, N + 1 + 1, N + 1 + 1 + 1, N + 1 + 1 + 1 + 1, N + 1 + 1 + 1 + 1 + 1⟩

theorem Filling.done {w wr : World} {slots width : Nat} (h : Filling w wr slots width slots) (h1 : 1 ≤ slots) (h2 : slots ≤ 4096) (h3 : 1 ≤ width) (h4 : width ≤ 16) {w' : World}
    (hw : w' = ((((wr.setCell ⟨w.heap.size, 11, none⟩ (.slice (some ⟨w.heap.size + 1 + 1 + 1 + 1, 0, none⟩) (slots + 1) (slots + 1))).setCell ⟨w.heap.size, 12, none⟩ (.slice (some ⟨w.heap.size + 1 + 1 + 1 + 1 + 1, 0, none⟩) (slots + 1) (slots + 1))).alloc
      (.cells #[] 90)).alloc (.cells (madeCells #[.int .i64 0] (slots + 1)) 3))) :
    At 0 w' (newBk w.heap.size) (fresh Unit slots width) ∧ Keep [] w w' := by
  have hs := h.size
  have hq : qd slots slots = List.range' 1 slots := by simp [qd]
  rw [replicate_made (.int .i64 0) _ (0 : Int) (.int .i64) rfl] at hw
  subst hw
  refine ⟨⟨fresh_fits _ slots width h1 h2 h3 h4, ?_, ?_, ?_, ?_, ?_, ?_, ?_⟩, ((((h.keep.set (.inr (Nat.le_refl _)) _ _).set (.inr (Nat.le_refl _)) _ _).alloc _).alloc _)⟩
  · simp only [newBk, Bk.blocks, List.nodup_cons, List.mem_cons, List.not_mem_nil, or_false, not_or, List.nodup_nil, not_false_eq_true, and_true]
    omega
  · exact alloc_some _ (alloc_some _ ((set_same (set_same h.h0 11 _) 12 _)))
  · exact alloc_some _ (alloc_some _ ((set_other (by show w.heap.size + 1 ≠ _; omega) _ _).trans ((set_other (by show w.heap.size + 1 ≠ _; omega) _ _).trans h.h1)))
  · exact alloc_some _ (alloc_some _ ((set_other (by show w.heap.size + 1 + 1 ≠ _; omega) _ _).trans ((set_other (by show w.heap.size + 1 + 1 ≠ _; omega) _ _).trans h.h2)))
  · refine alloc_some _ (alloc_some _ ((set_other (by show w.heap.size + 1 + 1 + 1 ≠ _; omega) _ _).trans ((set_other (by show w.heap.size + 1 + 1 + 1 ≠ _; omega) _ _).trans ?_)))
    rw [show (newBk w.heap.size).bq = w.heap.size + 1 + 1 + 1 from rfl, h.h3, hq]
    rfl
  · refine alloc_some _ ?_
    have q := alloc_new ((wr.setCell ⟨w.heap.size, 11, none⟩ (.slice (some ⟨w.heap.size + 1 + 1 + 1 + 1, 0, none⟩) (slots + 1) (slots + 1))).setCell ⟨w.heap.size, 12, none⟩ (.slice (some ⟨w.heap.size + 1 + 1 + 1 + 1 + 1, 0, none⟩) (slots + 1) (slots + 1))) (.cells #[] 90)
    simp only [size_set, hs] at q
    refine q.trans ?_
    have e : (fresh Unit slots width).items.flatMap Lies.cells = [] := by
      rw [List.flatMap_eq_nil_iff]
      exact fun _ _ => rfl
    rw [e]
  · have q := alloc_new (((wr.setCell ⟨w.heap.size, 11, none⟩ (.slice (some ⟨w.heap.size + 1 + 1 + 1 + 1, 0, none⟩) (slots + 1) (slots + 1))).setCell ⟨w.heap.size, 12, none⟩ (.slice (some ⟨w.heap.size + 1 + 1 + 1 + 1 + 1, 0, none⟩) (slots + 1) (slots + 1))).alloc (.cells #[] 90)) (.cells ((List.replicate (slots + 1) (0 : Int)).map (.int .i64)).toArray 3)
    simp only [size_set, hs, World.size_alloc] at q
    exact q

set_option maxRecDepth 100000 in
set_option maxHeartbeats 1000000 in
theorem new_ok (slots width : Nat) (h1 : 1 ≤ slots) (h2 : slots ≤ 4096) (h3 : 1 ≤ width) (h4 : width ≤ 16) :
    Calls Tryz.prog 26 #[.int .i64 slots, .int .i64 width] w fun e w' => ∃ L : Bk, e = .returned (.tuple #[.pointer (some ⟨L.b, 0, none⟩), .int .i64 0]) ∧ (∀ x ∈ L.blocks, w.heap.size ≤ x) ∧ At 0 w' L (fresh Unit slots width) ∧ Keep [] w w' := by
  have hsz : slots * width ≤ 65536 := by have := Nat.mul_le_mul h2 h4; omega
  have m0 : 0 ≤ (slots : Int) * (width : Int) ∧ (slots : Int) * (width : Int) ≤ 65536 := by rw [← Int.natCast_mul]; omega
  obtain ⟨m1, m2⟩ := m0
  have k1 := make_row 158 175 _ (.int .u64 0) 8 Tryz.underlying158 infoW rfl (slots * width) (by omega) (by omega)
  have k2 := make_row 159 178 _ (.int .u32 0) 4 Tryz.underlying159 infoU rfl (slots + 1) (by omega) (by omega)
  have k3 := make_row 52 3 _ (.int .i64 0) 8 Tryz.underlying52 infoI rfl slots (by omega) (by omega)
  have k4 := make_row 52 3 _ (.int .i64 0) 8 Tryz.underlying52 infoI rfl (slots + 1) (by omega) (by omega)
  have k5 := make_rowU (slots + 1) (by omega)
  have e1 : ((slots + 1 : Nat) : Int) = (slots : Int) + 1 := by omega
  rw [e1] at k2 k4 k5
  clear e1
  rw [Int.natCast_mul] at k1
  go_enter Tryz.func26, Tryz.ntmps26
  go_wp2_with fail
  have hstart : Filling w ((((w.alloc (.cells (hd w.heap.size slots width) 172)).alloc (.cells (madeCells #[.int .u64 0] (slots * width)) 175)).alloc (.cells (madeCells #[.int .u32 0] (slots + 1)) 178)).alloc (.cells (madeCells #[.int .i64 0] slots) 3)) slots width 0 := by
    rw [replicate_made (.int .u64 0) _ (0 : Int) (.int .u64) rfl, replicate_made (.int .u32 0) _ false (fun x => .int .u32 (bit x)) rfl, replicate_made (.int .i64 0) _ (0 : Nat) (fun x : Nat => .int .i64 x) rfl]
    refine ⟨by simp, (((((Keep.refl _ _).alloc _).alloc _).alloc _).alloc _), ?_, ?_, ?_, ?_⟩
    · exact alloc_some _ (alloc_some _ (alloc_some _ (alloc_new _ _)))
    · refine alloc_some _ (alloc_some _ ?_)
      have := alloc_new (w.alloc (.cells (hd w.heap.size slots width) 172)) (.cells ((List.replicate (slots * width) (0 : Int)).map (.int .u64)).toArray 175)
      simpa using this
    · refine alloc_some _ ?_
      have := alloc_new ((w.alloc (.cells (hd w.heap.size slots width) 172)).alloc (.cells ((List.replicate (slots * width) (0 : Int)).map (.int .u64)).toArray 175)) (.cells ((List.replicate (slots + 1) false).map fun x => .int .u32 (bit x)).toArray 178)
      simpa using this
    · have := alloc_new (((w.alloc (.cells (hd w.heap.size slots width) 172)).alloc (.cells ((List.replicate (slots * width) (0 : Int)).map (.int .u64)).toArray 175)).alloc (.cells ((List.replicate (slots + 1) false).map fun x => .int .u32 (bit x)).toArray 178)) (.cells ((List.replicate slots 0).map fun x : Nat => .int .i64 x).toArray 3)
      simpa [qd] using this
  have HS := Lib.hid hstart; clear hstart
  clear k1 k2 k3
  go_loopw [46] (fun i wr => ∃ k : Nat, k ≤ slots ∧ i = .int .i64 k ∧ Filling w wr slots width k) (fun i _ => slots - (intOf i).toNat)
  case atStart => exact ⟨0, Nat.zero_le _, rfl, HS.out⟩
  case round =>
    obtain ⟨k, hk, rfl, hF⟩ := hrel
    clear HS
    have HF := Lib.hid hF; clear hF
    by_cases hlt : k < slots
    · have e8 : wr.cell? ⟨w.heap.size, 8, none⟩ = some (.slice (some ⟨w.heap.size + 1 + 1 + 1, 0, none⟩) slots slots) := by rw [cell_of HF.out.h0]; rfl
      have eq : wr.cell? ⟨w.heap.size + 1 + 1 + 1, k, none⟩ = some (.int .i64 (((qd slots k)[k]'(by rw [qd_length hk]; exact hlt) : Nat) : Int)) := list_cell HF.out.h3 (by rw [qd_length hk]; exact hlt)
      have ef := free_of HF.out.h3 k
      clear k4 k5
      go_wp2_with fail
      go_roundw
      case rel => exact ⟨k + 1, hlt, by go_num, HF.out.set hlt⟩
      case measure => simp [intOf]; omega
    · have hke : k = slots := by omega
      have HKE := Lib.hid hke; clear hke
      have es := HF.out.size
      have f0 := free_of HF.out.h0
      have e11 : wr.cell? ⟨w.heap.size, 11, none⟩ = some (.slice none 0 0) := by rw [cell_of HF.out.h0]; rfl
      have e12 : wr.cell? ⟨w.heap.size, 12, none⟩ = some (.slice none 0 0) := by rw [cell_of HF.out.h0]; rfl
      go_wp2_with fail
      go_ret2
      have hF := HF.out
      rw [HKE.out] at hF
      obtain ⟨hA, hK⟩ := hF.done h1 h2 h3 h4 rfl
      refine ⟨newBk w.heap.size, rfl, ?_, hA, hK⟩
      intro x hx
      simp only [newBk, Bk.blocks, List.mem_cons, List.not_mem_nil, or_false] at hx
      omega
end Go.Proofs.YtdkdeiofjoccnaaGreat.Un

/- The arena at struct{}: Peek. -/
namespace Go.Proofs.YtdkdeiofjoccnaaGreat.Un
open Go.RowKit Go.Proofs.YtdkdeiofjoccnaaGreat.Mem Go.Proofs.YtdkdeiofjoccnaaGreat.Ar Go.MuLone
set_option linter.unusedVariables false

variable {mu : Int} {w : World} {L : Bk} {A : Arena Unit}

/-- the words of a slot -/
def slotWords {α : Type} (A : Arena α) (s : Nat) : List Int := (List.range A.width).map fun i => nth A.words (wordAt A s i) 0
def pk {α : Type} (A : Arena α) (s k : Nat) : List Int := (slotWords A s).take k ++ List.replicate (A.width - k) 0

theorem slotWords_length {α : Type} (A : Arena α) (s : Nat) : (slotWords A s).length = A.width := by simp [slotWords]
theorem pk_length {α : Type} (A : Arena α) (s k : Nat) (h : k ≤ A.width) : (pk A s k).length = A.width := by simp [pk, slotWords_length]; omega
theorem pk_set {α : Type} (A : Arena α) (s k : Nat) (h : k < A.width) : (pk A s k).set k (nth A.words (wordAt A s k) 0) = pk A s (k + 1) := by
  unfold pk
  have hl : ((slotWords A s).take k).length = k := by rw [List.length_take, slotWords_length]; omega
  rw [List.set_append_right _ _ (by omega), hl, Nat.sub_self]
  obtain ⟨n, hn⟩ : ∃ n, A.width - k = n + 1 := ⟨A.width - k - 1, by omega⟩
  rw [hn, List.replicate_succ, List.set_cons_zero, show A.width - (k + 1) = n from by omega, List.take_succ_eq_append_getElem (by rw [slotWords_length]; exact h), List.append_assoc]
  simp [slotWords]
theorem pk_done {α : Type} (A : Arena α) (s : Nat) : pk A s A.width = slotWords A s := by
  unfold pk
  rw [List.take_of_length_le (by rw [slotWords_length]; omega), Nat.sub_self]
  simp

theorem load64' (b o : Nat) (x : Int) (w : World) (hc : w.cell? ⟨b, o, none⟩ = some (.int .u64 x)) :
    Calls Tryz.prog 109 #[.pointer (some ⟨b, o, none⟩)] w fun e w' => e = .returned (.int .u64 x) ∧ w' = w :=
  (Atom.load64 b o x w hc).mono fun _ _ ⟨h1, h2⟩ => ⟨h1, h2.symm⟩

theorem infoW64 : (Tryz.prog.info? 75).map (fun i => (i.zero, i.size, i.bytes)) = some (some (.int .u64 0), 1, 8) := by kernel_rfl

theorem peek_no (h : At mu w L A) (slot : Int) (hin : inUseB A slot = false) :
    Calls Tryz.prog 85 #[.pointer (some ⟨L.b, 0, none⟩), .int .i64 slot] w fun e w' => e = .returned (.tuple #[.slice none 0 0, .int .i64 22]) ∧ w = w' := by
  have H := Lib.hid hin; clear hin
  have HA := Lib.hid h; clear h
  go_enter Tryz.func85, Tryz.ntmps85
  go_wp2_with fail
  refine (missing HA.out).mono ?_
  rintro e w' ⟨rfl, rfl⟩
  go_wp2_with fail
  refine (inUse HA.out slot).mono ?_
  rw [H.out]
  rintro e w' ⟨rfl, rfl⟩
  go_wp2_with fail
  go_ret2
  exact ⟨rfl, rfl⟩

set_option maxRecDepth 100000 in
set_option maxHeartbeats 1000000 in
theorem peek_ok (h : At mu w L A) (slot : Int) (hin : inUseB A slot = true) :
    Calls Tryz.prog 85 #[.pointer (some ⟨L.b, 0, none⟩), .int .i64 slot] w fun e w' => e = .returned (.tuple #[.slice (some ⟨w.heap.size, 0, none⟩) A.width A.width, .int .i64 0]) ∧ w'.heap[w.heap.size]? = some (.cells ((slotWords A slot.toNat).map (.int .u64)).toArray 75 (0, 0)) ∧ Keep [] w w' := by
  obtain ⟨s, rfl, hs1, hs2, _⟩ := fits_lt hin
  rw [Int.toNat_natCast]
  have hw2 := h.fits.w2
  have hs3 := h.fits.s2
  have e1 := c1 h
  have H := Lib.hid hin; clear hin
  have HA := Lib.hid h; clear h
  have k1 := make_row 22 75 _ (.int .u64 0) 8 Tryz.underlying22 infoW64 rfl A.width (by omega) (by omega)
  go_enter Tryz.func85, Tryz.ntmps85
  go_wp2_with fail
  refine (missing HA.out).mono ?_
  rintro e w' ⟨rfl, rfl⟩
  go_wp2_with fail
  refine (inUse HA.out s).mono ?_
  rw [H.out]
  rintro e w' ⟨rfl, rfl⟩
  go_wp2_with fail
  clear k1
  go_loopw [21] (fun i wr => ∃ k : Nat, k ≤ A.width ∧ i = .int .i64 k ∧ wr.heap[w.heap.size]? = some (.cells ((pk A s k).map (.int .u64)).toArray 75 (0, 0)) ∧ Keep [] w wr) (fun i _ => A.width - (intOf i).toNat)
  case atStart =>
    refine ⟨0, Nat.zero_le _, rfl, ?_, (Keep.refl _ _).alloc _⟩
    rw [replicate_made (.int .u64 0) _ (0 : Int) (.int .u64) rfl, show pk A s 0 = List.replicate A.width 0 from by simp [pk]]
    exact alloc_new _ _
  case round =>
    obtain ⟨k, hk, rfl, hb, hK⟩ := hrel
    have HB := Lib.hid hb; clear hb
    have KR := Lib.hid hK; clear hK
    have HR := Lib.hid (At.of0 HA.out KR.out)
    clear e1
    by_cases hlt : k < A.width
    · have hz := size_le HR.out.fits
      have hwl := wordAt_lt HR.out.fits hs1 hs2 (c := k) hlt
      obtain ⟨hi, hi0, hi1⟩ := wordAt_int HR.out.fits hs1 hs2 (c := k) hlt
      have r1 : IntKind.i64.wrap ((s : Int) - 1) = (s : Int) - 1 := IntWalk.i64_in _ (by omega)
      have r2 : IntKind.i64.wrap (((s : Int) - 1) * (A.width : Int)) = ((s : Int) - 1) * (A.width : Int) := IntWalk.i64_in _ (by omega)
      have r3 : IntKind.i64.wrap (((s : Int) - 1) * (A.width : Int) + (k : Int)) = ((wordAt A s k : Nat) : Int) := by rw [hi]; exact IntWalk.i64_in _ (by omega)
      have r4 : ((wordAt A s k : Nat) : Int) < (A.slots : Int) * (A.width : Int) := by rw [← Int.natCast_mul]; omega
      clear hi hi0 hi1
      have HWL := Lib.hid hwl; clear hwl hz
      obtain ⟨w7, hw7⟩ : ∃ w7, w7 = wr.drew := ⟨_, rfl⟩
      have H7 := Lib.hid (HR.out.drew)
      have K7 := Lib.hid (KR.out.drew)
      have B7 := Lib.hid (show wr.drew.heap[w.heap.size]? = _ from HB.out)
      rw [← hw7] at H7 K7 B7
      have e0 : w7.cell? ⟨L.b, 1, none⟩ = some (.int .i64 A.width) := (c1 H7.out :)
      have e2 : w7.cell? ⟨L.b, 2, none⟩ = some (.slice (some ⟨L.bw, 0, none⟩) (A.slots * A.width) (A.slots * A.width)) := (c2 H7.out :)
      go_wp2_with fail
      refine wp_region_still_tail 18 (by kernel_rfl) (by kernel_rfl) ?_
      have hw7' : { heap := wr.heap, tape := wr.tape, drawn := wr.drawn + 1, os := wr.os, output := wr.output : World } = w7 := hw7.symm
      rw [hw7']
      clear hw7 hw7'
      simp only [List.take_succ_cons, List.take_zero, List.drop_succ_cons, List.drop_zero]
      repeat still_step
      still_call (load64' L.bw (wordAt A s k) _ _ (cw H7.out HWL.out))
      repeat still_step
      refine wpStill_nil ?_
      clear r1 r2 r3 r4
      have eb : w7.cell? ⟨w.heap.size, k, none⟩ = some (.int .u64 ((pk A s k)[k]'(by rw [pk_length A s k hk]; exact hlt))) := list_cell B7.out (by rw [pk_length A s k hk]; exact hlt)
      have ef := free_of B7.out k
      go_wp2_with fail
      go_roundw
      case rel =>
        refine ⟨k + 1, hlt, by go_num, ?_, K7.out.set (.inr (Nat.le_refl _)) _ _⟩
        rw [list_set (g := Value.int .u64) B7.out k (nth A.words (wordAt A s k) 0), pk_set A s k hlt]
      case measure => simp [intOf]; omega
    · have hke : k = A.width := by omega
      have HKE := Lib.hid hke; clear hke
      go_wp2_with fail
      go_ret2
      refine ⟨rfl, ?_, KR.out⟩
      have := HB.out
      rw [HKE.out, pk_done] at this
      exact this
end Go.Proofs.YtdkdeiofjoccnaaGreat.Un

/- The arena at struct{}: Add. -/
namespace Go.Proofs.YtdkdeiofjoccnaaGreat.Atom
open Go.RowKit
theorem addU (b o : Nat) (x y : Int) (w : World) (hc : w.cell? ⟨b, o, none⟩ = some (.int .u64 x)) (hz : w.frozen? ⟨b, o, none⟩ = false) :
    Calls Tryz.prog 173 #[.pointer (some ⟨b, o, none⟩), .int .u64 y] w fun e w' => e = .returned (.int .u64 (IntKind.u64.wrap (x + y))) ∧ w' = w.setCell ⟨b, o, none⟩ (.int .u64 (IntKind.u64.wrap (x + y))) := by
  have hl := run_call_add (P := Tryz.prog) Tryz.func176 (by kernel_rfl) (by kernel_rfl) (by kernel_rfl) .u64 (by kernel_rfl) (y := y) (s := IntKind.u64.wrap (x + y)) hc hz (by simp [go_sem])
  go_enter Tryz.func173, Tryz.ntmps173
  go_wp2
  go_ret
  exact ⟨rfl, rfl⟩
end Go.Proofs.YtdkdeiofjoccnaaGreat.Atom
namespace Go.Proofs.YtdkdeiofjoccnaaGreat.Un
open Go.RowKit Go.Proofs.YtdkdeiofjoccnaaGreat.Mem Go.Proofs.YtdkdeiofjoccnaaGreat.Ar Go.MuLone
set_option linter.unusedVariables false
variable {mu : Int} {w : World} {L : Bk} {A : Arena Unit}

theorem add_ok (h : At mu w L A) (slot cell x : Int) (hin : inUseB A slot = true) (hc0 : 0 ≤ cell) (hc : cell < A.width) :
    Calls Tryz.prog 168 #[.pointer (some ⟨L.b, 0, none⟩), .int .i64 slot, .int .i64 cell, .int .u64 x] w fun e w' =>
      e = .returned (.tuple #[.int .u64 (IntKind.u64.wrap (IntKind.u64.wrap (nth A.words (wordAt A slot.toNat cell.toNat) 0 + x) - x)), .int .i64 0]) ∧
      At mu w' L { counted A with words := A.words.set (wordAt A slot.toNat cell.toNat) (IntKind.u64.wrap (nth A.words (wordAt A slot.toNat cell.toNat) 0 + x)) } ∧ Keep L.blocks w w' := by
  obtain ⟨v, hv⟩ : ∃ v, v = IntKind.u64.wrap (nth A.words (wordAt A slot.toNat cell.toNat) 0 + x) := ⟨_, rfl⟩
  rw [← hv]
  have HV := Lib.hid hv
  clear hv
  obtain ⟨s, hs, hs1, hs2, _⟩ := fits_lt hin
  have hw := wordAt_lt h.fits hs1 hs2 (c := cell.toNat) (by omega)
  have Hs := Lib.hid hs; clear hs
  have Hw := Lib.hid hw; clear hw
  have H := Lib.hid hin; clear hin
  have HA := Lib.hid h; clear h
  go_enter Tryz.func168, Tryz.ntmps168
  go_wp2_with fail
  refine (cell_ok HA.out slot cell H.out hc0 hc).mono ?_
  rintro e w1 ⟨rfl, k1⟩
  have H1 := Lib.hid (At.of0 HA.out k1)
  go_wp2_with fail
  refine (Atom.add64 L.b 4 A.acc 1 _ (c4 H1.out) (fz H1.out 4)).mono ?_
  rintro e w2 ⟨rfl, hw2⟩
  have H2 := Lib.hid (H1.out.setAcc (wrap64 (A.acc + 1)))
  have K2 := Lib.hid ((k0 (S := L.blocks) k1).set (.inl (inB L)) 4 (.int .i64 (wrap64 (A.acc + 1))))
  rw [← hw2] at H2 K2
  clear hw2
  go_wp2_with fail
  refine (Atom.addU L.bw (wordAt A slot.toNat cell.toNat) _ x _ (cw (A := counted A) H2.out (by have e := Hs.out; have := Hw.out; simp only [e, Int.toNat_natCast, counted] at *; exact this)) (fw H2.out _)).mono ?_
  rintro e w3 ⟨rfl, hw3⟩
  have e1 : IntKind.u64.wrap (nth (counted A).words (wordAt A slot.toNat cell.toNat) 0 + x) = v := HV.out.symm
  rw [e1] at hw3 ⊢
  have H3 := Lib.hid (H2.out.setWord (wordAt A slot.toNat cell.toNat) v)
  have K3 := Lib.hid (K2.out.set (.inl (inW L)) (wordAt A slot.toNat cell.toNat) (.int .u64 v))
  rw [← hw3] at H3 K3
  clear hw3 e1
  go_wp2_with fail
  go_ret2
  exact ⟨rfl, H3.out, K3.out⟩
end Go.Proofs.YtdkdeiofjoccnaaGreat.Un
