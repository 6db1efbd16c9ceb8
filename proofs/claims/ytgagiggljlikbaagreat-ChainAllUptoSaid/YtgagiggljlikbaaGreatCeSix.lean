/- The arena's methods at entries: Alloc. -/
import Derived.Test.YtgagiggljlikbaaGreatCeFive
namespace Go.Proofs.YtgagiggljlikbaaGreat.En
open Go.RowKit Go.Proofs.YtgagiggljlikbaaGreat.Mem Go.Proofs.YtgagiggljlikbaaGreat.Ar Go.MuLone
set_option linter.unusedVariables false

variable {mu : Int} {w : World} {L : Bk} {A : Arena Ent}

/-- the words of a slot, laid one by one -/
def fill (l : List Int) (base : Nat) (ws : List Int) : Nat → List Int
  | 0 => l
  | k + 1 => (fill l base ws k).set (base + k) (nth ws k 0)

/-- the slot that Alloc gives -/
def nextSlot {α : Type} (A : Arena α) : Nat := nth A.queue A.front 0

/-- what Alloc leaves where a slot is free -/
def allocd {α : Type} (A : Arena α) (p : α) (ws : List Int) : Arena α :=
  { A with
    acc := wrap64 (A.acc + 1), front := (A.front + 1) % A.slots, free := A.free - 1, items := A.items.set (nextSlot A) p
    turns := A.turns.set (nextSlot A) (wrap64 (nth A.turns (nextSlot A) 0 + 1))
    words := fill A.words ((nextSlot A - 1) * A.width) ws A.width, used := A.used.set (nextSlot A) true }

/-- .. and on the way there, k words laid -/
def mid {α : Type} (A : Arena α) (p : α) (ws : List Int) (k : Nat) : Arena α :=
  { A with
    acc := wrap64 (A.acc + 1), front := (A.front + 1) % A.slots, free := A.free - 1, items := A.items.set (nextSlot A) p
    turns := A.turns.set (nextSlot A) (wrap64 (nth A.turns (nextSlot A) 0 + 1))
    words := fill A.words ((nextSlot A - 1) * A.width) ws k }

theorem next_range {α : Type} {A : Arena α} (h : Fits A) : 1 ≤ nextSlot A ∧ nextSlot A ≤ A.slots := by
  have hl : A.front < A.queue.length := by have := h.queue; have := h.front; omega
  have := h.queued (A.queue[A.front]) (List.getElem_mem hl)
  unfold nextSlot
  rw [nth, List.getD_eq_getElem?_getD, List.getElem?_eq_getElem hl]
  exact this

theorem ct (h : At mu w L A) {s : Nat} (hs : s ≤ A.slots) : w.cell? ⟨L.bt, s, none⟩ = some (.int .i64 (nth A.turns s 0)) := by
  rw [list_cell h.ht (by have := h.fits.turns; omega)]
  simp [nth, List.getD_eq_getElem?_getD, show s < A.turns.length by have := h.fits.turns; omega]

/-- A slice of words in memory that is none of the arena's. -/
structure Given (w : World) (L : Bk) (a : Option Addr) (ws : List Int) : Prop where
  cell : ∀ i, i < ws.length → ∃ b o, a = some ⟨b, o, none⟩ ∧ b ∉ L.blocks ∧ w.cell? ⟨b, o + i, none⟩ = some (.int .u64 (nth ws i 0))

theorem Given.keep {w w' : World} {L : Bk} {a : Option Addr} {ws : List Int} (h : Given w L a ws) (k : Keep L.blocks w w') : Given w' L a ws :=
  ⟨fun i hi => let ⟨b, o, e, hn, hc⟩ := h.cell i hi; ⟨b, o, e, hn, k.cell hc hn⟩⟩

theorem _root_.Go.Proofs.YtgagiggljlikbaaGreat.Ar.At.blk_lt (h : At mu w L A) : ∀ x ∈ L.blocks, x < w.heap.size := by
  intro x hx
  simp only [Bk.blocks, List.mem_cons, List.not_mem_nil, or_false] at hx
  rcases hx with rfl | rfl | rfl | rfl | rfl | rfl
  · exact lt_of h.hb
  · exact lt_of h.hw
  · exact lt_of h.hu
  · exact lt_of h.hq
  · exact lt_of h.hi
  · exact lt_of h.ht

theorem alloc_full (h : At 0 w L A) (p : Ent) (a : Option Addr) (cap : Nat) (ws : List Int) (hl : ws.length ≤ A.width) (hf : A.free = 0) :
    Calls Tryz.prog 29 #[.pointer (some ⟨L.b, 0, none⟩), .agg #[.string p.name, .string p.data, .int .i64 p.tall], .slice a ws.length cap] w fun e w' => e = .returned (.tuple #[.int .i64 0, .int .i64 21]) ∧ At 0 w' L (counted A) ∧ Keep L.blocks w w' := by
  have hw2 := h.fits.w2
  have HF := Lib.hid hf; clear hf
  have HA := Lib.hid h; clear h
  go_enter_defers Tryz.func29, Tryz.ntmps29
  go_wp2_with fail
  obtain ⟨wA, hwA⟩ : ∃ wA, wA = w.alloc (.cells #[.string p.name, .string p.data, .int .i64 p.tall] 55) := ⟨_, rfl⟩
  have kA : Keep [] w wA := by rw [hwA]; exact (Keep.refl _ _).alloc _
  have bA : wA.heap[w.heap.size]? = some (.cells #[.string p.name, .string p.data, .int .i64 p.tall] 55 (0, 0)) := by rw [hwA]; exact alloc_new _ _
  rw [show w.alloc (.cells #[.string p.name, .string p.data, .int .i64 p.tall] 55 (0, 0)) = wA from hwA.symm]
  have HAA := Lib.hid (HA.out.keep kA (by simp))
  have KA := Lib.hid kA
  have BA := Lib.hid bA
  have e1 : wA.cell? ⟨L.b, 1, none⟩ = some (.int .i64 A.width) := (c1 HAA.out :)
  clear hwA kA bA
  refine (missing HAA.out).mono ?_
  rintro e w' ⟨rfl, rfl⟩
  go_wp2_with fail
  refine (Atom.add64 L.b 4 A.acc 1 _ (c4 HAA.out) (fz HAA.out 4)).mono ?_
  rintro e w1 ⟨rfl, hw1⟩
  have H1 := Lib.hid (HAA.out.setAcc (wrap64 (A.acc + 1)))
  have K1 := Lib.hid ((Keep.refl L.blocks wA).set (.inl (inB L)) 4 (.int .i64 (wrap64 (A.acc + 1))))
  rw [← hw1] at H1 K1
  clear hw1
  go_wp2_with fail
  refine (lock H1.out).mono ?_
  rintro e w2 ⟨rfl, h2, k2⟩
  have H2 := Lib.hid h2; clear h2
  have e10 : w2.cell? ⟨L.b, 10, none⟩ = some (.int .i64 0) := by
    have q : w2.cell? ⟨L.b, 10, none⟩ = some (.int .i64 (A.free : Int)) := (c10 H2.out :)
    rw [q, HF.out]; rfl
  go_wp2_with fail
  refine leaves_cons (f := 58) (args := #[.pointer (some ⟨L.b, 6, none⟩)]) (by simp) (by simp [go_sem]) ?_
  refine (unlock H2.out .returning).mono ?_
  rintro e u' w'' ⟨rfl, rfl, h3, k3⟩
  exact ⟨_, results_tmp2 rfl _ _ _, rfl, h3, (((k0 KA.out).trans K1.out).trans k2).trans k3⟩

set_option maxRecDepth 100000 in
set_option maxHeartbeats 1000000 in
theorem alloc_ok (h : At 0 w L A) (p : Ent) (a : Option Addr) (cap : Nat) (ws : List Int) (hws : Given w L a ws) (hl : ws.length ≤ A.width) (hf : 1 ≤ A.free) :
    Calls Tryz.prog 29 #[.pointer (some ⟨L.b, 0, none⟩), .agg #[.string p.name, .string p.data, .int .i64 p.tall], .slice a ws.length cap] w fun e w' => e = .returned (.tuple #[.int .i64 (nextSlot A), .int .i64 0]) ∧ At 0 w' L (allocd A p ws) ∧ Keep L.blocks w w' := by
  have hw2 := h.fits.w2
  have hsl := h.fits.s2
  have hfr := h.fits.front
  have hfe := h.fits.free
  obtain ⟨hn1, hn2⟩ := next_range h.fits
  have HA := Lib.hid h; clear h
  have HW0 := Lib.hid hws; clear hws
  have HLT := Lib.hid (fun hm => Nat.lt_irrefl _ (HA.out.blk_lt _ hm) : w.heap.size ∉ L.blocks)
  go_enter_defers Tryz.func29, Tryz.ntmps29
  go_wp2_with fail
  obtain ⟨wA, hwA⟩ : ∃ wA, wA = w.alloc (.cells #[.string p.name, .string p.data, .int .i64 p.tall] 55) := ⟨_, rfl⟩
  have kA : Keep [] w wA := by rw [hwA]; exact (Keep.refl _ _).alloc _
  have bA : wA.heap[w.heap.size]? = some (.cells #[.string p.name, .string p.data, .int .i64 p.tall] 55 (0, 0)) := by rw [hwA]; exact alloc_new _ _
  rw [show w.alloc (.cells #[.string p.name, .string p.data, .int .i64 p.tall] 55 (0, 0)) = wA from hwA.symm]
  have HAA := Lib.hid (HA.out.keep kA (by simp))
  have KA := Lib.hid kA
  have BA := Lib.hid bA
  have HW := Lib.hid (HW0.out.keep (k0 kA))
  have e1 : wA.cell? ⟨L.b, 1, none⟩ = some (.int .i64 A.width) := (c1 HAA.out :)
  clear hwA kA bA
  refine (missing HAA.out).mono ?_
  rintro e w' ⟨rfl, rfl⟩
  go_wp2_with fail
  refine (Atom.add64 L.b 4 A.acc 1 _ (c4 HAA.out) (fz HAA.out 4)).mono ?_
  rintro e w1 ⟨rfl, hw1⟩
  have H1 := Lib.hid (HAA.out.setAcc (wrap64 (A.acc + 1)))
  have K1 := Lib.hid ((Keep.refl L.blocks wA).set (.inl (inB L)) 4 (.int .i64 (wrap64 (A.acc + 1))))
  rw [← hw1] at H1 K1
  clear hw1
  go_wp2_with fail
  refine (lock H1.out).mono ?_
  rintro e w2 ⟨rfl, h2, k2⟩
  have H2 := Lib.hid h2; clear h2
  have K2 := Lib.hid (K1.out.trans k2); clear K1 k2 e1 H1
  have hf0 : ((A.free : Int) == 0) = false := by simp; omega
  have e10 : w2.cell? ⟨L.b, 10, none⟩ = some (.int .i64 A.free) := (c10 H2.out :)
  have e8 : w2.cell? ⟨L.b, 8, none⟩ = some (.slice (some ⟨L.bq, 0, none⟩) A.slots A.slots) := (c8 H2.out :)
  have e9 : w2.cell? ⟨L.b, 9, none⟩ = some (.int .i64 A.front) := (c9 H2.out :)
  have eq : w2.cell? ⟨L.bq, A.front, none⟩ = some (.int .i64 (nextSlot A)) := (cq H2.out hfr :)
  go_wp2_with fail
  go_quiet (fail)
  obtain ⟨w3, hw3⟩ : ∃ w3, w3 = w2.drewN nq := ⟨_, rfl⟩
  have H3 := Lib.hid (H2.out.drewN nq)
  have K3 := Lib.hid (K2.out.drewN nq)
  rw [← hw3] at H3 K3 ⊢
  clear hw3 e10 e8 e9 eq H2 K2
  -- the front goes on
  obtain ⟨w4, hw4⟩ : ∃ w4, w4 = w3.drew := ⟨_, rfl⟩
  have H4 := Lib.hid (H3.out.drew)
  have K4 := Lib.hid (K3.out.drew)
  rw [← hw4] at H4 K4
  obtain ⟨m, hm⟩ : ∃ m, m = (A.front + 1) % A.slots := ⟨_, rfl⟩
  have HM := Lib.hid hm
  have a2 : (IntKind.i64.wrap ((A.front : Int) + 1)).tmod (A.slots : Int) = (m : Int) := by rw [IntWalk.i64_in _ (by omega), Int.tmod_eq_emod_of_nonneg (by omega), hm, Int.natCast_emod, Int.natCast_add]; rfl
  have a3 : ¬ A.slots = 0 := by omega
  have a4 : m < A.slots := by rw [hm]; exact Nat.mod_lt _ (by omega)
  clear hm
  go_wp2_with fail
  refine wp_region_still_tail 13 (by kernel_rfl) (by kernel_rfl) ?_
  have hw4' : { heap := w3.heap, tape := w3.tape, drawn := w3.drawn + 1, os := w3.os, output := w3.output : World } = w4 := hw4.symm
  rw [hw4']
  clear hw4 hw4' H3 K3
  have e9 : w4.cell? ⟨L.b, 9, none⟩ = some (.int .i64 A.front) := (c9 H4.out :)
  have e0 : w4.cell? ⟨L.b, 0, none⟩ = some (.int .i64 A.slots) := (c0 H4.out :)
  simp only [List.take_succ_cons, List.take_zero, List.drop_succ_cons, List.drop_zero]
  repeat still_step
  refine wpStill_nil ?_
  clear a2
  have f0 := fz H4.out
  have e10 : w4.cell? ⟨L.b, 10, none⟩ = some (.int .i64 A.free) := (c10 H4.out :)
  have e11 : w4.cell? ⟨L.b, 11, none⟩ = some (.slice (some ⟨L.bi, 0, none⟩) (A.slots + 1) (A.slots + 1)) := (c11 H4.out :)
  have e12 : w4.cell? ⟨L.b, 12, none⟩ = some (.slice (some ⟨L.bt, 0, none⟩) (A.slots + 1) (A.slots + 1)) := (c12 H4.out :)
  have e1 : w4.cell? ⟨L.b, 1, none⟩ = some (.int .i64 A.width) := (c1 H4.out :)
  have et : w4.cell? ⟨L.bt, nextSlot A, none⟩ = some (.int .i64 (nth A.turns (nextSlot A) 0)) := (ct H4.out hn2 :)
  have gt := ft H4.out (nextSlot A)
  obtain ⟨_, _, _, n4, n5, _, _, _, _, _, _, _, _, _, n6⟩ := H4.out.ne
  have n4' := n4.symm
  have n5' := n5.symm
  have n6' := n6.symm
  go_wp2_with fail
  -- the payload
  have H4b := Lib.hid ((H4.out.setFront a4).setFree (x := A.free - 1) (by show A.free - 1 ≤ A.slots; omega))
  have K4b := Lib.hid ((K4.out.set (.inl (inB L)) 9 (.int .i64 m)).set (.inl (inB L)) 10 (.int .i64 ((A.free - 1 : Nat) : Int)))
  rw [show ((A.free - 1 : Nat) : Int) = (A.free : Int) - 1 from by omega] at H4b K4b
  obtain ⟨X, hX⟩ : ∃ X, X = (w4.setCell ⟨L.b, 9, none⟩ (.int .i64 m)).setCell ⟨L.b, 10, none⟩ (.int .i64 ((A.free : Int) - 1)) := ⟨_, rfl⟩
  rw [← hX] at H4b K4b ⊢
  obtain ⟨w5, hw5⟩ : ∃ w5, w5 = X.drew := ⟨_, rfl⟩
  have H5b := Lib.hid (H4b.out.drew)
  have K5b := Lib.hid (K4b.out.drew)
  rw [← hw5] at H5b K5b
  clear e9 e0 f0 e10 e11 e12 e1 et gt n4' n5' n6' n4 n5 n6 H4 K4 H4b K4b hX
  have e11 : w5.cell? ⟨L.b, 11, none⟩ = some (.slice (some ⟨L.bi, 0, none⟩) (A.slots + 1) (A.slots + 1)) := (c11 H5b.out :)
  have hnx : ((nextSlot A : Nat) : Int) < (A.slots : Int) + 1 := by omega
  have z0 := K5b.out.cell ((cell_of BA.out 0).trans rfl) HLT.out
  have z1 := K5b.out.cell ((cell_of BA.out 1).trans rfl) HLT.out
  have z2 := K5b.out.cell ((cell_of BA.out 2).trans rfl) HLT.out
  refine wp_region_still_tail 7 (by kernel_rfl) (by kernel_rfl) ?_
  have hw5' : { heap := X.heap, tape := X.tape, drawn := X.drawn + 1, os := X.os, output := X.output : World } = w5 := hw5.symm
  rw [hw5']
  clear hw5 hw5'
  simp only [List.take_succ_cons, List.take_zero, List.drop_succ_cons, List.drop_zero]
  repeat still_step
  refine wpStill_nil ?_
  have ht := thereI H5b.out hn2
  refine wpList_store_mid rfl 55 (.tmp 72) (.tmp 71) rfl L.bi (nextSlot A * 3) #[.string p.name, .string p.data, .int .i64 p.tall] rfl rfl ht (by kernel_rfl) (by simp [Value.oneCell']) ?_
  have H5c := Lib.hid (At.setItemE H5b.out hn2 p)
  have K5c := Lib.hid (((K5b.out.set (.inl (inI L)) (nextSlot A * 3) (.string p.name)).set (.inl (inI L)) (nextSlot A * 3 + 1) (.string p.data)).set (.inl (inI L)) (nextSlot A * 3 + 2) (.int .i64 p.tall))
  obtain ⟨w6, hw6⟩ : ∃ w6, w6 = ((w5.setCell ⟨L.bi, nextSlot A * 3, none⟩ (.string p.name)).setCell ⟨L.bi, nextSlot A * 3 + 1, none⟩ (.string p.data)).setCell ⟨L.bi, nextSlot A * 3 + 2, none⟩ (.int .i64 p.tall) := ⟨_, rfl⟩
  rw [← hw6] at H5c K5c
  rw [show w5.setCells L.bi (nextSlot A * 3) (#[.string p.name, .string p.data, .int .i64 p.tall] : Array Value).toList = w6 from hw6.symm]
  clear hw6 e11 hnx z0 z1 z2 ht H5b K5b
  have e12 : w6.cell? ⟨L.b, 12, none⟩ = some (.slice (some ⟨L.bt, 0, none⟩) (A.slots + 1) (A.slots + 1)) := (c12 H5c.out :)
  have e1 : w6.cell? ⟨L.b, 1, none⟩ = some (.int .i64 A.width) := (c1 H5c.out :)
  have et : w6.cell? ⟨L.bt, nextSlot A, none⟩ = some (.int .i64 (nth A.turns (nextSlot A) 0)) := (ct H5c.out hn2 :)
  have gt := ft H5c.out (nextSlot A)
  obtain ⟨_, _, _, n4, n5, _⟩ := H5c.out.ne
  have n5' := n5.symm
  go_wp2_with fail
  have H5 := Lib.hid (H5c.out.setTurn (nextSlot A) (wrap64 (nth A.turns (nextSlot A) 0 + 1)))
  have K5 := Lib.hid (K5c.out.set (.inl (inT L)) (nextSlot A) (.int .i64 (wrap64 (nth A.turns (nextSlot A) 0 + 1))))
  -- the words
  go_loopw [86] (fun i wr => ∃ k : Nat, k ≤ A.width ∧ i = .int .i64 k ∧ At 1 wr L (mid A p ws k) ∧ Keep L.blocks wA wr) (fun i _ => A.width - (intOf i).toNat)
  case atStart =>
    refine ⟨0, Nat.zero_le _, rfl, ?_, K5.out⟩
    unfold mid
    rw [← HM.out]
    exact H5.out
  case round =>
    obtain ⟨k, hk, rfl, hA, hK⟩ := hrel
    have HR := Lib.hid hA; clear hA
    have KR := Lib.hid hK; clear hK
    clear e1 e12 et gt H5 K5 HM H5c K5c
    by_cases hlt : k < A.width
    · have hz := size_le HR.out.fits
      have hwl := wordAt_lt HR.out.fits hn1 hn2 (c := k) hlt
      obtain ⟨hi, hi0, hi1⟩ := wordAt_int HR.out.fits hn1 hn2 (c := k) hlt
      have hwl' : wordAt A (nextSlot A) k < A.slots * A.width := hwl
      have hz' : A.slots * A.width ≤ 65536 := hz
      have r1 : IntKind.i64.wrap (((nextSlot A : Nat) : Int) - 1) = ((nextSlot A : Nat) : Int) - 1 := IntWalk.i64_in _ (by omega)
      have r2 : IntKind.i64.wrap ((((nextSlot A : Nat) : Int) - 1) * (A.width : Int)) = (((nextSlot A : Nat) : Int) - 1) * (A.width : Int) := by
        have h1 : (mid A p ws k).width = A.width := rfl
        rw [h1] at hi0 hi1
        exact IntWalk.i64_in _ (by omega)
      have r3 : IntKind.i64.wrap ((((nextSlot A : Nat) : Int) - 1) * (A.width : Int) + (k : Int)) = ((wordAt A (nextSlot A) k : Nat) : Int) := by
        have h1 : (((nextSlot A : Nat) : Int) - 1) * (A.width : Int) + (k : Int) = ((wordAt A (nextSlot A) k : Nat) : Int) := hi
        rw [h1]
        exact IntWalk.i64_in _ (by omega)
      have r4 : ((wordAt A (nextSlot A) k : Nat) : Int) < (A.slots : Int) * (A.width : Int) := by rw [← Int.natCast_mul]; omega
      clear hi hi0 hi1 hwl hz
      obtain ⟨w7, hw7⟩ : ∃ w7, w7 = wr.drew := ⟨_, rfl⟩
      have H7 := Lib.hid (HR.out.drew)
      have K7 := Lib.hid (KR.out.drew)
      rw [← hw7] at H7 K7
      have e0 : w7.cell? ⟨L.b, 1, none⟩ = some (.int .i64 A.width) := (c1 H7.out :)
      have e2 : w7.cell? ⟨L.b, 2, none⟩ = some (.slice (some ⟨L.bw, 0, none⟩) (A.slots * A.width) (A.slots * A.width)) := (c2 H7.out :)
      by_cases hl2 : k < ws.length
      · obtain ⟨b, o, rfl, hb, hc⟩ := HW.out.cell k hl2
        have hc' := KR.out.cell hc hb
        go_wp2_with fail
        refine wp_region_still_tail 15 (by kernel_rfl) (by kernel_rfl) ?_
        have hw7' : { heap := wr.heap, tape := wr.tape, drawn := wr.drawn + 1, os := wr.os, output := wr.output : World } = w7 := hw7.symm
        rw [hw7']
        clear hw7 hw7'
        simp only [List.take_succ_cons, List.take_zero, List.drop_succ_cons, List.drop_zero]
        repeat still_step
        refine wpStill_nil ?_
        clear r1 r2 r3 r4
        go_wp2_with fail
        refine (Atom.store64 L.bw (wordAt A (nextSlot A) k) _ _ _ (cw H7.out hwl') (fw H7.out _)).mono ?_
        rintro e w8 ⟨rfl, hw8⟩
        have H8 := Lib.hid (H7.out.setWord (wordAt A (nextSlot A) k) (nth ws k 0))
        have K8 := Lib.hid (K7.out.set (.inl (inW L)) (wordAt A (nextSlot A) k) (.int .u64 (nth ws k 0)))
        rw [← hw8] at H8 K8
        clear hw8
        go_wp2_with fail
        go_roundw
        case rel => exact ⟨k + 1, hlt, by go_num, H8.out, K8.out⟩
        case measure => simp [intOf]; omega
      · have hz : nth ws k 0 = 0 := by simp [nth, List.getD_eq_getElem?_getD, List.getElem?_eq_none (Nat.le_of_not_lt hl2)]
        have HZ := Lib.hid hz; clear hz
        go_wp2_with fail
        refine wp_region_still_tail 15 (by kernel_rfl) (by kernel_rfl) ?_
        have hw7' : { heap := wr.heap, tape := wr.tape, drawn := wr.drawn + 1, os := wr.os, output := wr.output : World } = w7 := hw7.symm
        rw [hw7']
        clear hw7 hw7'
        simp only [List.take_succ_cons, List.take_zero, List.drop_succ_cons, List.drop_zero]
        repeat still_step
        refine wpStill_nil ?_
        clear r1 r2 r3 r4
        go_wp2_with fail
        refine (Atom.store64 L.bw (wordAt A (nextSlot A) k) _ _ _ (cw H7.out hwl') (fw H7.out _)).mono ?_
        rintro e w8 ⟨rfl, hw8⟩
        have H8 := Lib.hid (H7.out.setWord (wordAt A (nextSlot A) k) (nth ws k 0))
        have K8 := Lib.hid (K7.out.set (.inl (inW L)) (wordAt A (nextSlot A) k) (.int .u64 (nth ws k 0)))
        rw [HZ.out] at H8 K8
        rw [← hw8] at H8 K8
        clear hw8
        go_wp2_with fail
        go_roundw
        case rel => exact ⟨k + 1, hlt, by go_num, by have q := H8.out; rw [← HZ.out] at q; exact q, K8.out⟩
        case measure => simp [intOf]; omega
    · have hke : k = A.width := by omega
      have HKE := Lib.hid hke; clear hke
      have e3 : wr.cell? ⟨L.b, 3, none⟩ = some (.slice (some ⟨L.bu, 0, none⟩) (A.slots + 1) (A.slots + 1)) := (c3 HR.out :)
      go_wp2_with fail
      refine (Atom.storeB_t L.bu (nextSlot A) _ _ (cu HR.out hn2) (fu HR.out _)).mono ?_
      rintro e w8 ⟨rfl, hw8⟩
      have H8 := Lib.hid ((HR.out.setUsed (nextSlot A) true).drew)
      have K8 := Lib.hid ((KR.out.set (.inl (inU L)) (nextSlot A) (.int .u32 1)).drew)
      have hw8' : w8 = ((wr.setCell ⟨L.bu, nextSlot A, none⟩ (.int .u32 (bit true))).drew) := hw8
      rw [← hw8] at K8
      rw [← hw8'] at H8
      clear hw8 hw8'
      go_wp2_with fail
      refine leaves_cons (f := 58) (args := #[.pointer (some ⟨L.b, 6, none⟩)]) (by simp) (by simp [go_sem]) ?_
      refine (unlock H8.out .returning).mono ?_
      rintro e u' w'' ⟨rfl, rfl, h9, k9⟩
      refine ⟨_, results_tmp2 rfl _ _ _, rfl, ?_, ((k0 KA.out).trans K8.out).trans k9⟩
      rw [HKE.out] at h9
      exact h9
end Go.Proofs.YtgagiggljlikbaaGreat.En
