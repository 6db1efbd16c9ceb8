/- CellsOwned: a call of the kind 1: the walk. -/
import Derived.Test.YtmdboahjikngeaaOwnSt
namespace Go.Proofs.Ytmdboahjikngeaa.Owned
open Go.RowKit Go.Proofs.Ytmdboahjikngeaa.Mem Go.Proofs.Ytmdboahjikngeaa.Ar Go.Proofs.Ytmdboahjikngeaa.As Go.Proofs.Ytmdboahjikngeaa.Fifo Go.MuLone
set_option linter.unusedVariables false

variable {w0 w w' : World} {L : Bk} {P : Pl} {N : List ByteArray} {V : List Value} {A A' : Arena ByteArray} {R : List Nat}

set_option maxRecDepth 100000 in
set_option maxHeartbeats 4000000 in
theorem owned1_low_ok (h : St w0 w L P N V A R) (slot cell a b : Int) (ad : Option Addr) (cap : Nat) (ws : List Int) (p : ByteArray) (hws : Came .u64 w0 ad ws.length ws) (hwl : ws.length ≤ 17592186043904) (h1 : ¬ 1 ≤ slot) (hl : ws.length ≤ A.width) (hf : 1 ≤ A.free) :
    Calls Try.prog 20 #[.pointer (some ⟨P.b, 0, none⟩), .pointer (some ⟨L.b, 0, none⟩), opV 1 slot cell a b (.slice ad ws.length cap) p, .int .i64 A.slots, .int .i64 A.width] w fun e w' => e = .returned (.bool true) ∧ Goes w0 w' L P A := by
  have HS := Lib.hid h
  have HW := Lib.hid hws; clear hws
  have HG := Lib.hid (blocks_lt HS.out.hA)
  have HP := Lib.hid HS.out.book.lts
  have HR := Lib.hid HS.out.book.rlts
  obtain ⟨gb, hgb⟩ : ∃ gb, gb = w.heap.size := ⟨_, rfl⟩
  have HGB := Lib.hid hgb
  rw [← hgb] at HG HP HR
  have hin := Lib.hid (inUse_low (A := A) h1)
  have hne := Lib.hid (cell_bad0 (cell := cell) hin.out)
  clear h
  unfold opV
  go_enter Try.func20, Try.ntmps20
  go_wp2_with fail
  rw [← hgb]
  clear hgb
  obtain ⟨w1, hw1⟩ : ∃ w1, w1 = w.alloc (.cells #[.int .i64 1, .int .i64 slot, .int .i64 cell, .int .u64 a, .int .u64 b, .slice ad ws.length cap, .string p] 54) := ⟨_, rfl⟩
  have K1 := Lib.hid (show Keep [] w w1 by rw [hw1]; exact (Keep.refl [] w).alloc _)
  have B1 : Hid (w1.heap[gb]? = some (.cells #[.int .i64 1, .int .i64 slot, .int .i64 cell, .int .u64 a, .int .u64 b, .slice ad ws.length cap, .string p] 54 (0, 0))) := Lib.hid (by rw [hw1, HGB.out]; exact alloc_new _ _)
  rw [← hw1]
  clear hw1
  have g1 : w1.cell? ⟨gb, 1, none⟩ = some (.int .i64 slot) := by rw [cell_of B1.out]; rfl
  have HB := Lib.hid (HS.out.keep0 K1.out)
  have hd : decide (1 ≤ slot) = false := decide_eq_false (by omega)
  go_quiet (fail)
  obtain ⟨wc, hwc⟩ : ∃ wc, wc = w1.drewN nq := ⟨_, rfl⟩
  have KC := Lib.hid (K1.out.drewN nq)
  have H1 := Lib.hid (HB.out.keep0 ((Keep.refl [] w1).drewN nq))
  have B2 : Hid ((w1.drewN nq).heap[gb]? = some (.cells #[.int .i64 1, .int .i64 slot, .int .i64 cell, .int .u64 a, .int .u64 b, .slice ad ws.length cap, .string p] 54 (0, 0))) := Lib.hid B1.out
  rw [← hwc] at KC H1 B2 ⊢
  clear hd
  clear hwc g1 B1 HB K1
  have g := fun i => cell_of B2.out i
  have g0 := g 0
  have g1 := g 1
  have g2 := g 2
  have g3 := g 3
  have g4 := g 4
  have g5 := g 5
  have g6 := g 6
  clear g
  simp at g0 g1 g2 g3 g4 g5 g6
  have HWC := Lib.hid ((HW.out.keep (HS.out.keep.trans KC.out)).keep ((Keep.refl [] wc).drew))
  have HBS := Lib.hid (fun x (hx : x ∈ L.blocks) => Nat.lt_of_lt_of_le (HG.out x hx) (show gb ≤ wc.drew.heap.size by rw [HGB.out]; exact KC.out.size))
  have HHL := Lib.hid (show ws.length ≤ 17592186043904 by omega)
  have HA1 := Lib.hid ((H1.out.keep0 ((Keep.refl [] wc).drew)))
  have HG6 := Lib.hid (show wc.drew.cell? ⟨gb, 6, none⟩ = some (.string p) from g6)
  have HG5 := Lib.hid (show wc.drew.cell? ⟨gb, 5, none⟩ = some (.slice ad ws.length cap) from g5)
  have HGL := Lib.hid (show gb ∉ L.blocks from fun hx => by have := HG.out _ hx; omega)
  go_wp2_with fail
  go_region_held3 (fun w' => w'.cell? ⟨gb, 6, none⟩ = some (.string p) ∧ w'.cell? ⟨gb, 5, none⟩ = some (.slice ad ws.length cap)) (go_keep)
    (first
      | (go_at_call 28; refine (words HWC.out HHL.out).mono ?_; rintro e w2 ⟨v, rfl, o2, k2⟩; obtain ⟨a2, cap2, rfl, gv2⟩ := given_of o2 HBS.out; have K2 := Lib.hid k2; have GV := Lib.hid gv2; have H2 := Lib.hid (HA1.out.keep0 k2); have x6 := k2.cell HG6.out (by simp); have x5 := k2.cell HG5.out (by simp); clear o2 k2 gv2)
      | (go_at_call 18; have H2 : Hid (St w0 _ L P N V A R) := (by assumption); have GV : Hid (Given _ L _ ws) := (by assumption); refine (alloc_ok H2.out.hA p _ _ ws GV.out hl hf).mono ?_; rintro e w3 ⟨rfl, h3, k3⟩; have HA3 := Lib.hid h3; clear h3; have x6 := k3.cell (show World.cell? _ ⟨gb, 6, none⟩ = some (.string p) by assumption) HGL.out; have x5 := k3.cell (show World.cell? _ ⟨gb, 5, none⟩ = some (.slice ad ws.length cap) by assumption) HGL.out; have K3 := Lib.hid k3; clear k3))
  obtain ⟨t, ht⟩ : ∃ t, t = nextSlot A := ⟨_, rfl⟩
  have HT := Lib.hid ht
  obtain ⟨ht1, ht2, htu⟩ := H1.out.inv.next_free H1.out.hA.fits hf
  rw [← ht] at ht1 ht2 htu ⊢
  have hbl := H1.out.book.off P.b (by simp [Pl.blocks])
  have hhl := H1.out.book.off P.h (by simp [Pl.blocks])
  have hnl := H1.out.book.off P.n (by simp [Pl.blocks])
  have hvl := H1.out.book.off P.v (by simp [Pl.blocks])
  have HB2 := Lib.hid H2.out.book
  have e0 := K3.out.cell HB2.out.p0 hbl
  have e1 := K3.out.cell HB2.out.p1 hbl
  have e2 := K3.out.cell HB2.out.p2 hbl
  have ef := K3.out.cell (HB2.out.flag H2.out.hA.fits ht2) hhl
  rw [htu] at ef
  have hbh := K3.out.old HB2.out.hh hhl
  have hbn := K3.out.old HB2.out.hn hnl
  have hbv := K3.out.old HB2.out.hv hvl
  have hbb := K3.out.old HB2.out.hb hbl
  have fz0 := free_of hbh t
  have HBH := Lib.hid hbh
  have HBN := Lib.hid hbn
  have HBV := Lib.hid hbv
  have HBB := Lib.hid hbb
  have j1 : ¬ (t : Int) < 1 := by omega
  have j2 : ¬ (A.slots : Int) < t := by omega
  have j3 : (t : Int) < (A.slots : Int) + 1 := by omega
  have j4 : ¬ (A.width : Int) < (ws.length : Int) := by omega
  have z6 := x6
  have z5 := x5
  clear ht hbh hbn hbv hbb g0 g1 g2 g3 g4 g5 g6 x6 x5
  have HHF := Lib.hid hf; clear hf htu
  go_wp2_with fail
  refine (num_any _ _).mono ?_
  rintro e w3 ⟨rfl, rfl⟩
  go_wp2_with fail
  refine wp_region_still_tail 8 (by kernel_rfl) (by kernel_rfl) ?_
  obtain ⟨w4, hw4⟩ : ∃ w4, w4 = (w3.setCell ⟨P.h, t, none⟩ (.bool true)).drew := ⟨_, rfl⟩
  have hnd := H1.out.book.nodup
  simp only [Pl.blocks, List.nodup_cons, List.mem_cons, List.not_mem_nil, or_false, not_or] at hnd
  obtain ⟨⟨nd1, nd2, nd3⟩, ⟨nd4, nd5⟩, nd6, -⟩ := hnd
  have hgP : ∀ x ∈ P.blocks, gb ≠ x := fun x hx e => by have := HP.out x hx; omega
  have hgh := hgP P.h (by simp [Pl.blocks])
  have hgn := hgP P.n (by simp [Pl.blocks])
  have K4 : Hid (Keep [P.h] w3 w4) := Lib.hid (by rw [hw4]; exact ((Keep.refl [P.h] w3).set (.inl (by simp)) t _).drew)
  have HH4 : Hid (w4.heap[P.h]? = some (.cells ((A.used.set t true).map Value.bool).toArray 4 (0, 0))) := Lib.hid (by rw [hw4]; exact list_set (g := Value.bool) HBH.out t true)
  have hw4' : { heap := (w3.setCell ⟨P.h, t, none⟩ (.bool true)).heap, tape := (w3.setCell ⟨P.h, t, none⟩ (.bool true)).tape, drawn := (w3.setCell ⟨P.h, t, none⟩ (.bool true)).drawn + 1, os := (w3.setCell ⟨P.h, t, none⟩ (.bool true)).os, output := (w3.setCell ⟨P.h, t, none⟩ (.bool true)).output : World } = w4 := hw4.symm
  rw [hw4']
  have t1 := K4.out.cell z6 (by simpa using hgh)
  have t2 := K4.out.cell z5 (by simpa using hgh)
  have t3 := K4.out.cell e1 (by simpa using nd1)
  have t4 := K4.out.cell e2 (by simpa using nd1)
  have HN4 := Lib.hid (K4.out.old HBN.out (by simpa using Ne.symm nd4))
  have HV4 := Lib.hid (K4.out.old HBV.out (by simpa using Ne.symm nd5))
  have t5 := list_cell HN4.out (i := t) (by have := H1.out.book.nlen; omega)
  have t6 := free_of HN4.out t
  have HZ4 := Lib.hid (K4.out.size)
  clear hw4 hw4' z6 z5 e0 e1 e2 ef fz0
  simp only [List.take_succ_cons, List.take_zero, List.drop_succ_cons, List.drop_zero]
  have i3 : t < A.slots + 1 := by omega
  repeat still_step
  refine wpStill_nil ?_
  have hwd := H1.out.hA.fits.w2
  have mk := make_row 52 51 _ (.int .u64 0) 8 Try.underlying52 infoW64 rfl A.width (by omega) (by omega)
  go_wp2_with fail
  clear mk
  obtain ⟨w5, hw5⟩ : ∃ w5, w5 = w4.setCell ⟨P.n, t, none⟩ (.string p) := ⟨_, rfl⟩
  have K5 : Hid (Keep [P.n] w4 w5) := Lib.hid (by rw [hw5]; exact (Keep.refl [P.n] w4).set (.inl (by simp)) t _)
  have HN5 : Hid (w5.heap[P.n]? = some (.cells ((N.set t p).map Value.string).toArray 9 (0, 0))) := Lib.hid (by rw [hw5]; exact list_set (g := Value.string) HN4.out t p)
  have HH5 := Lib.hid (K5.out.old HH4.out (by simpa using nd4))
  have HV5 := Lib.hid (K5.out.old HV4.out (by simpa using Ne.symm nd6))
  have y5 := K5.out.cell t2 (by simpa using hgn)
  have y2 := K5.out.cell t4 (by simpa using nd2)
  have HK35 : Hid (Keep [P.h, P.n] w3 w5) := Lib.hid ((K4.out.mono (by simp)).trans (K5.out.mono (by simp)))
  have K03 : Hid (Keep [] w0 w3) := Lib.hid (Keep.new H2.out.keep K3.out H1.out.lo1)
  have K05 : Hid (Keep [] w0 w5) := Lib.hid (Keep.new K03.out HK35.out (by intro x hx; simp at hx; rcases hx with rfl | rfl <;> exact H1.out.lo2 _ (by simp [Pl.blocks])))
  try rw [size_set]
  rw [← hw5]
  have hsz : w4.heap.size = w5.heap.size := by rw [hw5, size_set]
  try rw [hsz]
  clear hw5 hsz t1 t2 t3 t4 t5 t6
  obtain ⟨r, hr⟩ : ∃ r, r = w5.heap.size := ⟨_, rfl⟩
  rw [← hr]
  have HRS := Lib.hid hr; clear hr
  have HLW := Lib.hid hl
  go_loopw [16] (fun i wr => ∃ k : Nat, k ≤ ws.length ∧ i = .int .i64 k ∧ wr.heap[r]? = some (.cells ((laidTo ws A.width k).map (.int .u64)).toArray 51 (0, 0)) ∧ Keep [] w5 wr) (fun i _ => ws.length - (intOf i).toNat)
  case atStart =>
    refine ⟨0, Nat.zero_le _, rfl, ?_, (Keep.refl _ _).alloc _⟩
    rw [replicate_made (.int .u64 0) _ (0 : Int) (.int .u64) rfl, laidTo_zero, HRS.out]
    exact alloc_new _ _
  case round =>
    obtain ⟨k, hk, rfl, hb, hK⟩ := hrel
    have KR := Lib.hid hK
    have HB := Lib.hid hb
    have v5 := hK.cell y5 (by simp)
    by_cases hlt : k < ws.length
    · obtain ⟨bb, oo, rfl, hc⟩ := (HW.out.keep (K05.out.trans hK)).cell k hlt
      have eb : wr.cell? ⟨r, k, none⟩ = some (.int .u64 (nth (laidTo ws A.width k) k 0)) := by
        rw [list_cell hb (by rw [laidTo_length ws (by omega) hk]; omega)]
        simp [nth, List.getD_eq_getElem?_getD, show k < (laidTo ws A.width k).length by rw [laidTo_length ws (by omega) hk]; omega]
      have eff := free_of hb k
      have kw : k < A.width := by omega
      clear hb hK
      go_wp2_with fail
      go_roundw
      case rel =>
        refine ⟨k + 1, hlt, by go_num, ?_, KR.out.set (.inr (Nat.le_of_eq HRS.out.symm)) _ _⟩
        rw [list_set (g := Value.int .u64) HB.out k (nth ws k 0), laidTo_set ws (by omega) hlt]
      case measure => simp [intOf]; omega
    · obtain rfl : k = ws.length := by omega
      have y2' := KR.out.cell y2 (by simp)
      have HV6 := Lib.hid (KR.out.old HV5.out (by simp))
      have hvt : V[t]? = some (V[t]'(by have := H1.out.book.vlen; omega)) := List.getElem?_eq_getElem _
      have e6 : wr.cell? ⟨P.v, t, none⟩ = some (V[t]'(by have := H1.out.book.vlen; omega)) := by rw [cell_of HV6.out, List.getElem?_toArray]; exact hvt
      generalize V[t]'(by have := H1.out.book.vlen; omega) = vt at e6
      have e7 := free_of HV6.out t
      clear hb hK hvt
      have hdone := HB.out
      rw [laidTo_done ws HLW.out] at hdone
      have HD := Lib.hid hdone
      clear hdone
      go_wp2_with fail
      go_ret
      obtain ⟨R', hst⟩ := H2.out.put K3.out HA3.out HK35.out KR.out HT.out HHF.out HRS.out HH5.out HN5.out HV5.out HD.out
      exact ⟨rfl, _, _, _, _, _, hst, rfl, rfl, rfl⟩

set_option maxRecDepth 100000 in
set_option maxHeartbeats 4000000 in
theorem owned1_high_ok (h : St w0 w L P N V A R) (slot cell a b : Int) (ad : Option Addr) (cap : Nat) (ws : List Int) (p : ByteArray) (hws : Came .u64 w0 ad ws.length ws) (hwl : ws.length ≤ 17592186043904) (h1 : 1 ≤ slot) (h2 : ¬ slot ≤ A.slots) (hl : ws.length ≤ A.width) (hf : 1 ≤ A.free) :
    Calls Try.prog 20 #[.pointer (some ⟨P.b, 0, none⟩), .pointer (some ⟨L.b, 0, none⟩), opV 1 slot cell a b (.slice ad ws.length cap) p, .int .i64 A.slots, .int .i64 A.width] w fun e w' => e = .returned (.bool true) ∧ Goes w0 w' L P A := by
  have HS := Lib.hid h
  have HW := Lib.hid hws; clear hws
  have HG := Lib.hid (blocks_lt HS.out.hA)
  have HP := Lib.hid HS.out.book.lts
  have HR := Lib.hid HS.out.book.rlts
  obtain ⟨gb, hgb⟩ : ∃ gb, gb = w.heap.size := ⟨_, rfl⟩
  have HGB := Lib.hid hgb
  rw [← hgb] at HG HP HR
  have hin := Lib.hid (inUse_high (A := A) h2)
  have hne := Lib.hid (cell_bad0 (cell := cell) hin.out)
  clear h
  unfold opV
  go_enter Try.func20, Try.ntmps20
  go_wp2_with fail
  rw [← hgb]
  clear hgb
  obtain ⟨w1, hw1⟩ : ∃ w1, w1 = w.alloc (.cells #[.int .i64 1, .int .i64 slot, .int .i64 cell, .int .u64 a, .int .u64 b, .slice ad ws.length cap, .string p] 54) := ⟨_, rfl⟩
  have K1 := Lib.hid (show Keep [] w w1 by rw [hw1]; exact (Keep.refl [] w).alloc _)
  have B1 : Hid (w1.heap[gb]? = some (.cells #[.int .i64 1, .int .i64 slot, .int .i64 cell, .int .u64 a, .int .u64 b, .slice ad ws.length cap, .string p] 54 (0, 0))) := Lib.hid (by rw [hw1, HGB.out]; exact alloc_new _ _)
  rw [← hw1]
  clear hw1
  have g1 : w1.cell? ⟨gb, 1, none⟩ = some (.int .i64 slot) := by rw [cell_of B1.out]; rfl
  have HB := Lib.hid (HS.out.keep0 K1.out)
  have hd : decide (slot ≤ (A.slots : Int)) = false := decide_eq_false (by omega)
  go_quiet (fail)
  obtain ⟨wc, hwc⟩ : ∃ wc, wc = w1.drewN nq := ⟨_, rfl⟩
  have KC := Lib.hid (K1.out.drewN nq)
  have H1 := Lib.hid (HB.out.keep0 ((Keep.refl [] w1).drewN nq))
  have B2 : Hid ((w1.drewN nq).heap[gb]? = some (.cells #[.int .i64 1, .int .i64 slot, .int .i64 cell, .int .u64 a, .int .u64 b, .slice ad ws.length cap, .string p] 54 (0, 0))) := Lib.hid B1.out
  rw [← hwc] at KC H1 B2 ⊢
  clear hd
  clear hwc g1 B1 HB K1
  have g := fun i => cell_of B2.out i
  have g0 := g 0
  have g1 := g 1
  have g2 := g 2
  have g3 := g 3
  have g4 := g 4
  have g5 := g 5
  have g6 := g 6
  clear g
  simp at g0 g1 g2 g3 g4 g5 g6
  have HWC := Lib.hid ((HW.out.keep (HS.out.keep.trans KC.out)).keep ((Keep.refl [] wc).drew))
  have HBS := Lib.hid (fun x (hx : x ∈ L.blocks) => Nat.lt_of_lt_of_le (HG.out x hx) (show gb ≤ wc.drew.heap.size by rw [HGB.out]; exact KC.out.size))
  have HHL := Lib.hid (show ws.length ≤ 17592186043904 by omega)
  have HA1 := Lib.hid ((H1.out.keep0 ((Keep.refl [] wc).drew)))
  have HG6 := Lib.hid (show wc.drew.cell? ⟨gb, 6, none⟩ = some (.string p) from g6)
  have HG5 := Lib.hid (show wc.drew.cell? ⟨gb, 5, none⟩ = some (.slice ad ws.length cap) from g5)
  have HGL := Lib.hid (show gb ∉ L.blocks from fun hx => by have := HG.out _ hx; omega)
  go_wp2_with fail
  go_region_held3 (fun w' => w'.cell? ⟨gb, 6, none⟩ = some (.string p) ∧ w'.cell? ⟨gb, 5, none⟩ = some (.slice ad ws.length cap)) (go_keep)
    (first
      | (go_at_call 28; refine (words HWC.out HHL.out).mono ?_; rintro e w2 ⟨v, rfl, o2, k2⟩; obtain ⟨a2, cap2, rfl, gv2⟩ := given_of o2 HBS.out; have K2 := Lib.hid k2; have GV := Lib.hid gv2; have H2 := Lib.hid (HA1.out.keep0 k2); have x6 := k2.cell HG6.out (by simp); have x5 := k2.cell HG5.out (by simp); clear o2 k2 gv2)
      | (go_at_call 18; have H2 : Hid (St w0 _ L P N V A R) := (by assumption); have GV : Hid (Given _ L _ ws) := (by assumption); refine (alloc_ok H2.out.hA p _ _ ws GV.out hl hf).mono ?_; rintro e w3 ⟨rfl, h3, k3⟩; have HA3 := Lib.hid h3; clear h3; have x6 := k3.cell (show World.cell? _ ⟨gb, 6, none⟩ = some (.string p) by assumption) HGL.out; have x5 := k3.cell (show World.cell? _ ⟨gb, 5, none⟩ = some (.slice ad ws.length cap) by assumption) HGL.out; have K3 := Lib.hid k3; clear k3))
  obtain ⟨t, ht⟩ : ∃ t, t = nextSlot A := ⟨_, rfl⟩
  have HT := Lib.hid ht
  obtain ⟨ht1, ht2, htu⟩ := H1.out.inv.next_free H1.out.hA.fits hf
  rw [← ht] at ht1 ht2 htu ⊢
  have hbl := H1.out.book.off P.b (by simp [Pl.blocks])
  have hhl := H1.out.book.off P.h (by simp [Pl.blocks])
  have hnl := H1.out.book.off P.n (by simp [Pl.blocks])
  have hvl := H1.out.book.off P.v (by simp [Pl.blocks])
  have HB2 := Lib.hid H2.out.book
  have e0 := K3.out.cell HB2.out.p0 hbl
  have e1 := K3.out.cell HB2.out.p1 hbl
  have e2 := K3.out.cell HB2.out.p2 hbl
  have ef := K3.out.cell (HB2.out.flag H2.out.hA.fits ht2) hhl
  rw [htu] at ef
  have hbh := K3.out.old HB2.out.hh hhl
  have hbn := K3.out.old HB2.out.hn hnl
  have hbv := K3.out.old HB2.out.hv hvl
  have hbb := K3.out.old HB2.out.hb hbl
  have fz0 := free_of hbh t
  have HBH := Lib.hid hbh
  have HBN := Lib.hid hbn
  have HBV := Lib.hid hbv
  have HBB := Lib.hid hbb
  have j1 : ¬ (t : Int) < 1 := by omega
  have j2 : ¬ (A.slots : Int) < t := by omega
  have j3 : (t : Int) < (A.slots : Int) + 1 := by omega
  have j4 : ¬ (A.width : Int) < (ws.length : Int) := by omega
  have z6 := x6
  have z5 := x5
  clear ht hbh hbn hbv hbb g0 g1 g2 g3 g4 g5 g6 x6 x5
  have HHF := Lib.hid hf; clear hf htu
  go_wp2_with fail
  refine (num_any _ _).mono ?_
  rintro e w3 ⟨rfl, rfl⟩
  go_wp2_with fail
  refine wp_region_still_tail 8 (by kernel_rfl) (by kernel_rfl) ?_
  obtain ⟨w4, hw4⟩ : ∃ w4, w4 = (w3.setCell ⟨P.h, t, none⟩ (.bool true)).drew := ⟨_, rfl⟩
  have hnd := H1.out.book.nodup
  simp only [Pl.blocks, List.nodup_cons, List.mem_cons, List.not_mem_nil, or_false, not_or] at hnd
  obtain ⟨⟨nd1, nd2, nd3⟩, ⟨nd4, nd5⟩, nd6, -⟩ := hnd
  have hgP : ∀ x ∈ P.blocks, gb ≠ x := fun x hx e => by have := HP.out x hx; omega
  have hgh := hgP P.h (by simp [Pl.blocks])
  have hgn := hgP P.n (by simp [Pl.blocks])
  have K4 : Hid (Keep [P.h] w3 w4) := Lib.hid (by rw [hw4]; exact ((Keep.refl [P.h] w3).set (.inl (by simp)) t _).drew)
  have HH4 : Hid (w4.heap[P.h]? = some (.cells ((A.used.set t true).map Value.bool).toArray 4 (0, 0))) := Lib.hid (by rw [hw4]; exact list_set (g := Value.bool) HBH.out t true)
  have hw4' : { heap := (w3.setCell ⟨P.h, t, none⟩ (.bool true)).heap, tape := (w3.setCell ⟨P.h, t, none⟩ (.bool true)).tape, drawn := (w3.setCell ⟨P.h, t, none⟩ (.bool true)).drawn + 1, os := (w3.setCell ⟨P.h, t, none⟩ (.bool true)).os, output := (w3.setCell ⟨P.h, t, none⟩ (.bool true)).output : World } = w4 := hw4.symm
  rw [hw4']
  have t1 := K4.out.cell z6 (by simpa using hgh)
  have t2 := K4.out.cell z5 (by simpa using hgh)
  have t3 := K4.out.cell e1 (by simpa using nd1)
  have t4 := K4.out.cell e2 (by simpa using nd1)
  have HN4 := Lib.hid (K4.out.old HBN.out (by simpa using Ne.symm nd4))
  have HV4 := Lib.hid (K4.out.old HBV.out (by simpa using Ne.symm nd5))
  have t5 := list_cell HN4.out (i := t) (by have := H1.out.book.nlen; omega)
  have t6 := free_of HN4.out t
  have HZ4 := Lib.hid (K4.out.size)
  clear hw4 hw4' z6 z5 e0 e1 e2 ef fz0
  simp only [List.take_succ_cons, List.take_zero, List.drop_succ_cons, List.drop_zero]
  have i3 : t < A.slots + 1 := by omega
  repeat still_step
  refine wpStill_nil ?_
  have hwd := H1.out.hA.fits.w2
  have mk := make_row 52 51 _ (.int .u64 0) 8 Try.underlying52 infoW64 rfl A.width (by omega) (by omega)
  go_wp2_with fail
  clear mk
  obtain ⟨w5, hw5⟩ : ∃ w5, w5 = w4.setCell ⟨P.n, t, none⟩ (.string p) := ⟨_, rfl⟩
  have K5 : Hid (Keep [P.n] w4 w5) := Lib.hid (by rw [hw5]; exact (Keep.refl [P.n] w4).set (.inl (by simp)) t _)
  have HN5 : Hid (w5.heap[P.n]? = some (.cells ((N.set t p).map Value.string).toArray 9 (0, 0))) := Lib.hid (by rw [hw5]; exact list_set (g := Value.string) HN4.out t p)
  have HH5 := Lib.hid (K5.out.old HH4.out (by simpa using nd4))
  have HV5 := Lib.hid (K5.out.old HV4.out (by simpa using Ne.symm nd6))
  have y5 := K5.out.cell t2 (by simpa using hgn)
  have y2 := K5.out.cell t4 (by simpa using nd2)
  have HK35 : Hid (Keep [P.h, P.n] w3 w5) := Lib.hid ((K4.out.mono (by simp)).trans (K5.out.mono (by simp)))
  have K03 : Hid (Keep [] w0 w3) := Lib.hid (Keep.new H2.out.keep K3.out H1.out.lo1)
  have K05 : Hid (Keep [] w0 w5) := Lib.hid (Keep.new K03.out HK35.out (by intro x hx; simp at hx; rcases hx with rfl | rfl <;> exact H1.out.lo2 _ (by simp [Pl.blocks])))
  try rw [size_set]
  rw [← hw5]
  have hsz : w4.heap.size = w5.heap.size := by rw [hw5, size_set]
  try rw [hsz]
  clear hw5 hsz t1 t2 t3 t4 t5 t6
  obtain ⟨r, hr⟩ : ∃ r, r = w5.heap.size := ⟨_, rfl⟩
  rw [← hr]
  have HRS := Lib.hid hr; clear hr
  have HLW := Lib.hid hl
  go_loopw [16] (fun i wr => ∃ k : Nat, k ≤ ws.length ∧ i = .int .i64 k ∧ wr.heap[r]? = some (.cells ((laidTo ws A.width k).map (.int .u64)).toArray 51 (0, 0)) ∧ Keep [] w5 wr) (fun i _ => ws.length - (intOf i).toNat)
  case atStart =>
    refine ⟨0, Nat.zero_le _, rfl, ?_, (Keep.refl _ _).alloc _⟩
    rw [replicate_made (.int .u64 0) _ (0 : Int) (.int .u64) rfl, laidTo_zero, HRS.out]
    exact alloc_new _ _
  case round =>
    obtain ⟨k, hk, rfl, hb, hK⟩ := hrel
    have KR := Lib.hid hK
    have HB := Lib.hid hb
    have v5 := hK.cell y5 (by simp)
    by_cases hlt : k < ws.length
    · obtain ⟨bb, oo, rfl, hc⟩ := (HW.out.keep (K05.out.trans hK)).cell k hlt
      have eb : wr.cell? ⟨r, k, none⟩ = some (.int .u64 (nth (laidTo ws A.width k) k 0)) := by
        rw [list_cell hb (by rw [laidTo_length ws (by omega) hk]; omega)]
        simp [nth, List.getD_eq_getElem?_getD, show k < (laidTo ws A.width k).length by rw [laidTo_length ws (by omega) hk]; omega]
      have eff := free_of hb k
      have kw : k < A.width := by omega
      clear hb hK
      go_wp2_with fail
      go_roundw
      case rel =>
        refine ⟨k + 1, hlt, by go_num, ?_, KR.out.set (.inr (Nat.le_of_eq HRS.out.symm)) _ _⟩
        rw [list_set (g := Value.int .u64) HB.out k (nth ws k 0), laidTo_set ws (by omega) hlt]
      case measure => simp [intOf]; omega
    · obtain rfl : k = ws.length := by omega
      have y2' := KR.out.cell y2 (by simp)
      have HV6 := Lib.hid (KR.out.old HV5.out (by simp))
      have hvt : V[t]? = some (V[t]'(by have := H1.out.book.vlen; omega)) := List.getElem?_eq_getElem _
      have e6 : wr.cell? ⟨P.v, t, none⟩ = some (V[t]'(by have := H1.out.book.vlen; omega)) := by rw [cell_of HV6.out, List.getElem?_toArray]; exact hvt
      generalize V[t]'(by have := H1.out.book.vlen; omega) = vt at e6
      have e7 := free_of HV6.out t
      clear hb hK hvt
      have hdone := HB.out
      rw [laidTo_done ws HLW.out] at hdone
      have HD := Lib.hid hdone
      clear hdone
      go_wp2_with fail
      go_ret
      obtain ⟨R', hst⟩ := H2.out.put K3.out HA3.out HK35.out KR.out HT.out HHF.out HRS.out HH5.out HN5.out HV5.out HD.out
      exact ⟨rfl, _, _, _, _, _, hst, rfl, rfl, rfl⟩

set_option maxRecDepth 100000 in
set_option maxHeartbeats 4000000 in
theorem owned1_off_ok (h : St w0 w L P N V A R) (cell a b : Int) (ad : Option Addr) (cap : Nat) (ws : List Int) (p : ByteArray) (hws : Came .u64 w0 ad ws.length ws) (hwl : ws.length ≤ 17592186043904) (s : Nat) (hs1 : 1 ≤ s) (hs2 : s ≤ A.slots) (hu : nth A.used s false = false) (hl : ws.length ≤ A.width) (hf : 1 ≤ A.free) :
    Calls Try.prog 20 #[.pointer (some ⟨P.b, 0, none⟩), .pointer (some ⟨L.b, 0, none⟩), opV 1 s cell a b (.slice ad ws.length cap) p, .int .i64 A.slots, .int .i64 A.width] w fun e w' => e = .returned (.bool true) ∧ Goes w0 w' L P A := by
  have HS := Lib.hid h
  have HW := Lib.hid hws; clear hws
  have HG := Lib.hid (blocks_lt HS.out.hA)
  have HP := Lib.hid HS.out.book.lts
  have HR := Lib.hid HS.out.book.rlts
  obtain ⟨gb, hgb⟩ : ∃ gb, gb = w.heap.size := ⟨_, rfl⟩
  have HGB := Lib.hid hgb
  rw [← hgb] at HG HP HR
  have hin := Lib.hid ((inUse_mid (A := A) hs1 hs2).trans hu)
  have hne := Lib.hid (cell_bad0 (cell := cell) hin.out)
  have HU := Lib.hid hu; clear hu
  clear h
  unfold opV
  go_enter Try.func20, Try.ntmps20
  go_wp2_with fail
  rw [← hgb]
  clear hgb
  obtain ⟨w1, hw1⟩ : ∃ w1, w1 = w.alloc (.cells #[.int .i64 1, .int .i64 s, .int .i64 cell, .int .u64 a, .int .u64 b, .slice ad ws.length cap, .string p] 54) := ⟨_, rfl⟩
  have K1 := Lib.hid (show Keep [] w w1 by rw [hw1]; exact (Keep.refl [] w).alloc _)
  have B1 : Hid (w1.heap[gb]? = some (.cells #[.int .i64 1, .int .i64 s, .int .i64 cell, .int .u64 a, .int .u64 b, .slice ad ws.length cap, .string p] 54 (0, 0))) := Lib.hid (by rw [hw1, HGB.out]; exact alloc_new _ _)
  rw [← hw1]
  clear hw1
  have g1 : w1.cell? ⟨gb, 1, none⟩ = some (.int .i64 s) := by rw [cell_of B1.out]; rfl
  have HB := Lib.hid (HS.out.keep0 K1.out)
  have i1 : (1 : Int) ≤ s := by omega
  have i2 : (s : Int) ≤ A.slots := by omega
  have e0 := HB.out.book.p0
  have ef := HB.out.book.flag HB.out.hA.fits (s := s) hs2
  rw [HU.out] at ef
  go_quiet (fail)
  obtain ⟨wc, hwc⟩ : ∃ wc, wc = w1.drewN nq := ⟨_, rfl⟩
  have KC := Lib.hid (K1.out.drewN nq)
  have H1 := Lib.hid (HB.out.keep0 ((Keep.refl [] w1).drewN nq))
  have B2 : Hid ((w1.drewN nq).heap[gb]? = some (.cells #[.int .i64 1, .int .i64 s, .int .i64 cell, .int .u64 a, .int .u64 b, .slice ad ws.length cap, .string p] 54 (0, 0))) := Lib.hid B1.out
  rw [← hwc] at KC H1 B2 ⊢
  clear e0 ef
  clear hwc g1 B1 HB K1
  have g := fun i => cell_of B2.out i
  have g0 := g 0
  have g1 := g 1
  have g2 := g 2
  have g3 := g 3
  have g4 := g 4
  have g5 := g 5
  have g6 := g 6
  clear g
  simp at g0 g1 g2 g3 g4 g5 g6
  have HWC := Lib.hid ((HW.out.keep (HS.out.keep.trans KC.out)).keep ((Keep.refl [] wc).drew))
  have HBS := Lib.hid (fun x (hx : x ∈ L.blocks) => Nat.lt_of_lt_of_le (HG.out x hx) (show gb ≤ wc.drew.heap.size by rw [HGB.out]; exact KC.out.size))
  have HHL := Lib.hid (show ws.length ≤ 17592186043904 by omega)
  have HA1 := Lib.hid ((H1.out.keep0 ((Keep.refl [] wc).drew)))
  have HG6 := Lib.hid (show wc.drew.cell? ⟨gb, 6, none⟩ = some (.string p) from g6)
  have HG5 := Lib.hid (show wc.drew.cell? ⟨gb, 5, none⟩ = some (.slice ad ws.length cap) from g5)
  have HGL := Lib.hid (show gb ∉ L.blocks from fun hx => by have := HG.out _ hx; omega)
  go_wp2_with fail
  go_region_held3 (fun w' => w'.cell? ⟨gb, 6, none⟩ = some (.string p) ∧ w'.cell? ⟨gb, 5, none⟩ = some (.slice ad ws.length cap)) (go_keep)
    (first
      | (go_at_call 28; refine (words HWC.out HHL.out).mono ?_; rintro e w2 ⟨v, rfl, o2, k2⟩; obtain ⟨a2, cap2, rfl, gv2⟩ := given_of o2 HBS.out; have K2 := Lib.hid k2; have GV := Lib.hid gv2; have H2 := Lib.hid (HA1.out.keep0 k2); have x6 := k2.cell HG6.out (by simp); have x5 := k2.cell HG5.out (by simp); clear o2 k2 gv2)
      | (go_at_call 18; have H2 : Hid (St w0 _ L P N V A R) := (by assumption); have GV : Hid (Given _ L _ ws) := (by assumption); refine (alloc_ok H2.out.hA p _ _ ws GV.out hl hf).mono ?_; rintro e w3 ⟨rfl, h3, k3⟩; have HA3 := Lib.hid h3; clear h3; have x6 := k3.cell (show World.cell? _ ⟨gb, 6, none⟩ = some (.string p) by assumption) HGL.out; have x5 := k3.cell (show World.cell? _ ⟨gb, 5, none⟩ = some (.slice ad ws.length cap) by assumption) HGL.out; have K3 := Lib.hid k3; clear k3))
  obtain ⟨t, ht⟩ : ∃ t, t = nextSlot A := ⟨_, rfl⟩
  have HT := Lib.hid ht
  obtain ⟨ht1, ht2, htu⟩ := H1.out.inv.next_free H1.out.hA.fits hf
  rw [← ht] at ht1 ht2 htu ⊢
  have hbl := H1.out.book.off P.b (by simp [Pl.blocks])
  have hhl := H1.out.book.off P.h (by simp [Pl.blocks])
  have hnl := H1.out.book.off P.n (by simp [Pl.blocks])
  have hvl := H1.out.book.off P.v (by simp [Pl.blocks])
  have HB2 := Lib.hid H2.out.book
  have e0 := K3.out.cell HB2.out.p0 hbl
  have e1 := K3.out.cell HB2.out.p1 hbl
  have e2 := K3.out.cell HB2.out.p2 hbl
  have ef := K3.out.cell (HB2.out.flag H2.out.hA.fits ht2) hhl
  rw [htu] at ef
  have hbh := K3.out.old HB2.out.hh hhl
  have hbn := K3.out.old HB2.out.hn hnl
  have hbv := K3.out.old HB2.out.hv hvl
  have hbb := K3.out.old HB2.out.hb hbl
  have fz0 := free_of hbh t
  have HBH := Lib.hid hbh
  have HBN := Lib.hid hbn
  have HBV := Lib.hid hbv
  have HBB := Lib.hid hbb
  have j1 : ¬ (t : Int) < 1 := by omega
  have j2 : ¬ (A.slots : Int) < t := by omega
  have j3 : (t : Int) < (A.slots : Int) + 1 := by omega
  have j4 : ¬ (A.width : Int) < (ws.length : Int) := by omega
  have z6 := x6
  have z5 := x5
  clear ht hbh hbn hbv hbb g0 g1 g2 g3 g4 g5 g6 x6 x5
  have HHF := Lib.hid hf; clear hf htu
  go_wp2_with fail
  refine (num_any _ _).mono ?_
  rintro e w3 ⟨rfl, rfl⟩
  go_wp2_with fail
  refine wp_region_still_tail 8 (by kernel_rfl) (by kernel_rfl) ?_
  obtain ⟨w4, hw4⟩ : ∃ w4, w4 = (w3.setCell ⟨P.h, t, none⟩ (.bool true)).drew := ⟨_, rfl⟩
  have hnd := H1.out.book.nodup
  simp only [Pl.blocks, List.nodup_cons, List.mem_cons, List.not_mem_nil, or_false, not_or] at hnd
  obtain ⟨⟨nd1, nd2, nd3⟩, ⟨nd4, nd5⟩, nd6, -⟩ := hnd
  have hgP : ∀ x ∈ P.blocks, gb ≠ x := fun x hx e => by have := HP.out x hx; omega
  have hgh := hgP P.h (by simp [Pl.blocks])
  have hgn := hgP P.n (by simp [Pl.blocks])
  have K4 : Hid (Keep [P.h] w3 w4) := Lib.hid (by rw [hw4]; exact ((Keep.refl [P.h] w3).set (.inl (by simp)) t _).drew)
  have HH4 : Hid (w4.heap[P.h]? = some (.cells ((A.used.set t true).map Value.bool).toArray 4 (0, 0))) := Lib.hid (by rw [hw4]; exact list_set (g := Value.bool) HBH.out t true)
  have hw4' : { heap := (w3.setCell ⟨P.h, t, none⟩ (.bool true)).heap, tape := (w3.setCell ⟨P.h, t, none⟩ (.bool true)).tape, drawn := (w3.setCell ⟨P.h, t, none⟩ (.bool true)).drawn + 1, os := (w3.setCell ⟨P.h, t, none⟩ (.bool true)).os, output := (w3.setCell ⟨P.h, t, none⟩ (.bool true)).output : World } = w4 := hw4.symm
  rw [hw4']
  have t1 := K4.out.cell z6 (by simpa using hgh)
  have t2 := K4.out.cell z5 (by simpa using hgh)
  have t3 := K4.out.cell e1 (by simpa using nd1)
  have t4 := K4.out.cell e2 (by simpa using nd1)
  have HN4 := Lib.hid (K4.out.old HBN.out (by simpa using Ne.symm nd4))
  have HV4 := Lib.hid (K4.out.old HBV.out (by simpa using Ne.symm nd5))
  have t5 := list_cell HN4.out (i := t) (by have := H1.out.book.nlen; omega)
  have t6 := free_of HN4.out t
  have HZ4 := Lib.hid (K4.out.size)
  clear hw4 hw4' z6 z5 e0 e1 e2 ef fz0
  simp only [List.take_succ_cons, List.take_zero, List.drop_succ_cons, List.drop_zero]
  have i3 : t < A.slots + 1 := by omega
  repeat still_step
  refine wpStill_nil ?_
  have hwd := H1.out.hA.fits.w2
  have mk := make_row 52 51 _ (.int .u64 0) 8 Try.underlying52 infoW64 rfl A.width (by omega) (by omega)
  go_wp2_with fail
  clear mk
  obtain ⟨w5, hw5⟩ : ∃ w5, w5 = w4.setCell ⟨P.n, t, none⟩ (.string p) := ⟨_, rfl⟩
  have K5 : Hid (Keep [P.n] w4 w5) := Lib.hid (by rw [hw5]; exact (Keep.refl [P.n] w4).set (.inl (by simp)) t _)
  have HN5 : Hid (w5.heap[P.n]? = some (.cells ((N.set t p).map Value.string).toArray 9 (0, 0))) := Lib.hid (by rw [hw5]; exact list_set (g := Value.string) HN4.out t p)
  have HH5 := Lib.hid (K5.out.old HH4.out (by simpa using nd4))
  have HV5 := Lib.hid (K5.out.old HV4.out (by simpa using Ne.symm nd6))
  have y5 := K5.out.cell t2 (by simpa using hgn)
  have y2 := K5.out.cell t4 (by simpa using nd2)
  have HK35 : Hid (Keep [P.h, P.n] w3 w5) := Lib.hid ((K4.out.mono (by simp)).trans (K5.out.mono (by simp)))
  have K03 : Hid (Keep [] w0 w3) := Lib.hid (Keep.new H2.out.keep K3.out H1.out.lo1)
  have K05 : Hid (Keep [] w0 w5) := Lib.hid (Keep.new K03.out HK35.out (by intro x hx; simp at hx; rcases hx with rfl | rfl <;> exact H1.out.lo2 _ (by simp [Pl.blocks])))
  try rw [size_set]
  rw [← hw5]
  have hsz : w4.heap.size = w5.heap.size := by rw [hw5, size_set]
  try rw [hsz]
  clear hw5 hsz t1 t2 t3 t4 t5 t6
  obtain ⟨r, hr⟩ : ∃ r, r = w5.heap.size := ⟨_, rfl⟩
  rw [← hr]
  have HRS := Lib.hid hr; clear hr
  have HLW := Lib.hid hl
  go_loopw [16] (fun i wr => ∃ k : Nat, k ≤ ws.length ∧ i = .int .i64 k ∧ wr.heap[r]? = some (.cells ((laidTo ws A.width k).map (.int .u64)).toArray 51 (0, 0)) ∧ Keep [] w5 wr) (fun i _ => ws.length - (intOf i).toNat)
  case atStart =>
    refine ⟨0, Nat.zero_le _, rfl, ?_, (Keep.refl _ _).alloc _⟩
    rw [replicate_made (.int .u64 0) _ (0 : Int) (.int .u64) rfl, laidTo_zero, HRS.out]
    exact alloc_new _ _
  case round =>
    obtain ⟨k, hk, rfl, hb, hK⟩ := hrel
    have KR := Lib.hid hK
    have HB := Lib.hid hb
    have v5 := hK.cell y5 (by simp)
    by_cases hlt : k < ws.length
    · obtain ⟨bb, oo, rfl, hc⟩ := (HW.out.keep (K05.out.trans hK)).cell k hlt
      have eb : wr.cell? ⟨r, k, none⟩ = some (.int .u64 (nth (laidTo ws A.width k) k 0)) := by
        rw [list_cell hb (by rw [laidTo_length ws (by omega) hk]; omega)]
        simp [nth, List.getD_eq_getElem?_getD, show k < (laidTo ws A.width k).length by rw [laidTo_length ws (by omega) hk]; omega]
      have eff := free_of hb k
      have kw : k < A.width := by omega
      clear hb hK
      go_wp2_with fail
      go_roundw
      case rel =>
        refine ⟨k + 1, hlt, by go_num, ?_, KR.out.set (.inr (Nat.le_of_eq HRS.out.symm)) _ _⟩
        rw [list_set (g := Value.int .u64) HB.out k (nth ws k 0), laidTo_set ws (by omega) hlt]
      case measure => simp [intOf]; omega
    · obtain rfl : k = ws.length := by omega
      have y2' := KR.out.cell y2 (by simp)
      have HV6 := Lib.hid (KR.out.old HV5.out (by simp))
      have hvt : V[t]? = some (V[t]'(by have := H1.out.book.vlen; omega)) := List.getElem?_eq_getElem _
      have e6 : wr.cell? ⟨P.v, t, none⟩ = some (V[t]'(by have := H1.out.book.vlen; omega)) := by rw [cell_of HV6.out, List.getElem?_toArray]; exact hvt
      generalize V[t]'(by have := H1.out.book.vlen; omega) = vt at e6
      have e7 := free_of HV6.out t
      clear hb hK hvt
      have hdone := HB.out
      rw [laidTo_done ws HLW.out] at hdone
      have HD := Lib.hid hdone
      clear hdone
      go_wp2_with fail
      go_ret
      obtain ⟨R', hst⟩ := H2.out.put K3.out HA3.out HK35.out KR.out HT.out HHF.out HRS.out HH5.out HN5.out HV5.out HD.out
      exact ⟨rfl, _, _, _, _, _, hst, rfl, rfl, rfl⟩
end Go.Proofs.Ytmdboahjikngeaa.Owned
