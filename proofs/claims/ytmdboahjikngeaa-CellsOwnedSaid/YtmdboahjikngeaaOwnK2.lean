/- CellsOwned: a call of the kind 2: the walk. -/
import Derived.Test.YtmdboahjikngeaaOwnSt
namespace Go.Proofs.Ytmdboahjikngeaa.Owned
open Go.RowKit Go.Proofs.Ytmdboahjikngeaa.Mem Go.Proofs.Ytmdboahjikngeaa.Ar Go.Proofs.Ytmdboahjikngeaa.As Go.Proofs.Ytmdboahjikngeaa.Fifo Go.MuLone
set_option linter.unusedVariables false

variable {w0 w w' : World} {L : Bk} {P : Pl} {N : List ByteArray} {V : List Value} {A A' : Arena ByteArray} {R : List Nat}

set_option maxRecDepth 100000 in
set_option maxHeartbeats 4000000 in
theorem owned2_low (h : St w0 w L P N V A R) (slot cell a b : Int) (ad : Option Addr) (cap : Nat) (ws : List Int) (p : ByteArray) (hws : Came .u64 w0 ad ws.length ws) (hwl : ws.length ≤ 17592186043904) (h1 : ¬ 1 ≤ slot) :
    Calls Try.prog 20 #[.pointer (some ⟨P.b, 0, none⟩), .pointer (some ⟨L.b, 0, none⟩), opV 2 slot cell a b (.slice ad ws.length cap) p, .int .i64 A.slots, .int .i64 A.width] w fun e w' => e = .returned (.bool true) ∧ Goes w0 w' L P A := by
  have HS := Lib.hid h
  have HW := Lib.hid hws; clear hws
  have HG := Lib.hid (blocks_lt HS.out.hA)
  have HP := Lib.hid HS.out.book.lts
  have HR := Lib.hid HS.out.book.rlts
  obtain ⟨gb, hgb⟩ : ∃ gb, gb = w.heap.size := ⟨_, rfl⟩
  have HGB := Lib.hid hgb
  rw [← hgb] at HG HP HR
  have hin := Lib.hid (inUse_low (A := A) h1)
  have hne := Lib.hid (cell_bad0 (cell := cell) hin.out)
  clear h
  unfold opV
  go_enter Try.func20, Try.ntmps20
  go_wp2_with fail
  rw [← hgb]
  clear hgb
  obtain ⟨w1, hw1⟩ : ∃ w1, w1 = w.alloc (.cells #[.int .i64 2, .int .i64 slot, .int .i64 cell, .int .u64 a, .int .u64 b, .slice ad ws.length cap, .string p] 54) := ⟨_, rfl⟩
  have K1 := Lib.hid (show Keep [] w w1 by rw [hw1]; exact (Keep.refl [] w).alloc _)
  have B1 : Hid (w1.heap[gb]? = some (.cells #[.int .i64 2, .int .i64 slot, .int .i64 cell, .int .u64 a, .int .u64 b, .slice ad ws.length cap, .string p] 54 (0, 0))) := Lib.hid (by rw [hw1, HGB.out]; exact alloc_new _ _)
  rw [← hw1]
  clear hw1
  have g1 : w1.cell? ⟨gb, 1, none⟩ = some (.int .i64 slot) := by rw [cell_of B1.out]; rfl
  have HB := Lib.hid (HS.out.keep0 K1.out)
  have hd : decide (1 ≤ slot) = false := decide_eq_false (by omega)
  go_quiet (fail)
  obtain ⟨wc, hwc⟩ : ∃ wc, wc = w1.drewN nq := ⟨_, rfl⟩
  have KC := Lib.hid (K1.out.drewN nq)
  have H1 := Lib.hid (HB.out.keep0 ((Keep.refl [] w1).drewN nq))
  have B2 : Hid ((w1.drewN nq).heap[gb]? = some (.cells #[.int .i64 2, .int .i64 slot, .int .i64 cell, .int .u64 a, .int .u64 b, .slice ad ws.length cap, .string p] 54 (0, 0))) := Lib.hid B1.out
  rw [← hwc] at KC H1 B2 ⊢
  clear hd
  clear hwc g1 B1 HB K1
  have g := fun i => cell_of B2.out i
  have g0 := g 0
  have g1 := g 1
  have g2 := g 2
  have g3 := g 3
  have g4 := g 4
  have g5 := g 5
  have g6 := g 6
  clear g
  simp at g0 g1 g2 g3 g4 g5 g6
  go_wp2_with fail
  refine (free_no H1.out.hA slot hin.out).mono ?_
  rintro e w2 ⟨rfl, h2, k2⟩
  have H2 := Lib.hid (H1.out.count k2 h2 rfl rfl rfl rfl rfl rfl rfl rfl)
  clear h2 k2 g0 g1 g2 g3 g4 g5 g6
  go_wp2_with fail
  refine (num_any _ _).mono ?_
  rintro e w3 ⟨rfl, rfl⟩
  go_wp2_with fail
  go_ret
  exact ⟨rfl, _, _, _, _, _, H2.out, rfl, rfl, rfl⟩

set_option maxRecDepth 100000 in
set_option maxHeartbeats 4000000 in
theorem owned2_high (h : St w0 w L P N V A R) (slot cell a b : Int) (ad : Option Addr) (cap : Nat) (ws : List Int) (p : ByteArray) (hws : Came .u64 w0 ad ws.length ws) (hwl : ws.length ≤ 17592186043904) (h1 : 1 ≤ slot) (h2 : ¬ slot ≤ A.slots) :
    Calls Try.prog 20 #[.pointer (some ⟨P.b, 0, none⟩), .pointer (some ⟨L.b, 0, none⟩), opV 2 slot cell a b (.slice ad ws.length cap) p, .int .i64 A.slots, .int .i64 A.width] w fun e w' => e = .returned (.bool true) ∧ Goes w0 w' L P A := by
  have HS := Lib.hid h
  have HW := Lib.hid hws; clear hws
  have HG := Lib.hid (blocks_lt HS.out.hA)
  have HP := Lib.hid HS.out.book.lts
  have HR := Lib.hid HS.out.book.rlts
  obtain ⟨gb, hgb⟩ : ∃ gb, gb = w.heap.size := ⟨_, rfl⟩
  have HGB := Lib.hid hgb
  rw [← hgb] at HG HP HR
  have hin := Lib.hid (inUse_high (A := A) h2)
  have hne := Lib.hid (cell_bad0 (cell := cell) hin.out)
  clear h
  unfold opV
  go_enter Try.func20, Try.ntmps20
  go_wp2_with fail
  rw [← hgb]
  clear hgb
  obtain ⟨w1, hw1⟩ : ∃ w1, w1 = w.alloc (.cells #[.int .i64 2, .int .i64 slot, .int .i64 cell, .int .u64 a, .int .u64 b, .slice ad ws.length cap, .string p] 54) := ⟨_, rfl⟩
  have K1 := Lib.hid (show Keep [] w w1 by rw [hw1]; exact (Keep.refl [] w).alloc _)
  have B1 : Hid (w1.heap[gb]? = some (.cells #[.int .i64 2, .int .i64 slot, .int .i64 cell, .int .u64 a, .int .u64 b, .slice ad ws.length cap, .string p] 54 (0, 0))) := Lib.hid (by rw [hw1, HGB.out]; exact alloc_new _ _)
  rw [← hw1]
  clear hw1
  have g1 : w1.cell? ⟨gb, 1, none⟩ = some (.int .i64 slot) := by rw [cell_of B1.out]; rfl
  have HB := Lib.hid (HS.out.keep0 K1.out)
  have hd : decide (slot ≤ (A.slots : Int)) = false := decide_eq_false (by omega)
  go_quiet (fail)
  obtain ⟨wc, hwc⟩ : ∃ wc, wc = w1.drewN nq := ⟨_, rfl⟩
  have KC := Lib.hid (K1.out.drewN nq)
  have H1 := Lib.hid (HB.out.keep0 ((Keep.refl [] w1).drewN nq))
  have B2 : Hid ((w1.drewN nq).heap[gb]? = some (.cells #[.int .i64 2, .int .i64 slot, .int .i64 cell, .int .u64 a, .int .u64 b, .slice ad ws.length cap, .string p] 54 (0, 0))) := Lib.hid B1.out
  rw [← hwc] at KC H1 B2 ⊢
  clear hd
  clear hwc g1 B1 HB K1
  have g := fun i => cell_of B2.out i
  have g0 := g 0
  have g1 := g 1
  have g2 := g 2
  have g3 := g 3
  have g4 := g 4
  have g5 := g 5
  have g6 := g 6
  clear g
  simp at g0 g1 g2 g3 g4 g5 g6
  go_wp2_with fail
  refine (free_no H1.out.hA slot hin.out).mono ?_
  rintro e w2 ⟨rfl, h2, k2⟩
  have H2 := Lib.hid (H1.out.count k2 h2 rfl rfl rfl rfl rfl rfl rfl rfl)
  clear h2 k2 g0 g1 g2 g3 g4 g5 g6
  go_wp2_with fail
  refine (num_any _ _).mono ?_
  rintro e w3 ⟨rfl, rfl⟩
  go_wp2_with fail
  go_ret
  exact ⟨rfl, _, _, _, _, _, H2.out, rfl, rfl, rfl⟩

set_option maxRecDepth 100000 in
set_option maxHeartbeats 4000000 in
theorem owned2_off (h : St w0 w L P N V A R) (cell a b : Int) (ad : Option Addr) (cap : Nat) (ws : List Int) (p : ByteArray) (hws : Came .u64 w0 ad ws.length ws) (hwl : ws.length ≤ 17592186043904) (s : Nat) (hs1 : 1 ≤ s) (hs2 : s ≤ A.slots) (hu : nth A.used s false = false) :
    Calls Try.prog 20 #[.pointer (some ⟨P.b, 0, none⟩), .pointer (some ⟨L.b, 0, none⟩), opV 2 s cell a b (.slice ad ws.length cap) p, .int .i64 A.slots, .int .i64 A.width] w fun e w' => e = .returned (.bool true) ∧ Goes w0 w' L P A := by
  have HS := Lib.hid h
  have HW := Lib.hid hws; clear hws
  have HG := Lib.hid (blocks_lt HS.out.hA)
  have HP := Lib.hid HS.out.book.lts
  have HR := Lib.hid HS.out.book.rlts
  obtain ⟨gb, hgb⟩ : ∃ gb, gb = w.heap.size := ⟨_, rfl⟩
  have HGB := Lib.hid hgb
  rw [← hgb] at HG HP HR
  have hin := Lib.hid ((inUse_mid (A := A) hs1 hs2).trans hu)
  have hne := Lib.hid (cell_bad0 (cell := cell) hin.out)
  have HU := Lib.hid hu; clear hu
  clear h
  unfold opV
  go_enter Try.func20, Try.ntmps20
  go_wp2_with fail
  rw [← hgb]
  clear hgb
  obtain ⟨w1, hw1⟩ : ∃ w1, w1 = w.alloc (.cells #[.int .i64 2, .int .i64 s, .int .i64 cell, .int .u64 a, .int .u64 b, .slice ad ws.length cap, .string p] 54) := ⟨_, rfl⟩
  have K1 := Lib.hid (show Keep [] w w1 by rw [hw1]; exact (Keep.refl [] w).alloc _)
  have B1 : Hid (w1.heap[gb]? = some (.cells #[.int .i64 2, .int .i64 s, .int .i64 cell, .int .u64 a, .int .u64 b, .slice ad ws.length cap, .string p] 54 (0, 0))) := Lib.hid (by rw [hw1, HGB.out]; exact alloc_new _ _)
  rw [← hw1]
  clear hw1
  have g1 : w1.cell? ⟨gb, 1, none⟩ = some (.int .i64 s) := by rw [cell_of B1.out]; rfl
  have HB := Lib.hid (HS.out.keep0 K1.out)
  have i1 : (1 : Int) ≤ s := by omega
  have i2 : (s : Int) ≤ A.slots := by omega
  have e0 := HB.out.book.p0
  have ef := HB.out.book.flag HB.out.hA.fits (s := s) hs2
  rw [HU.out] at ef
  go_quiet (fail)
  obtain ⟨wc, hwc⟩ : ∃ wc, wc = w1.drewN nq := ⟨_, rfl⟩
  have KC := Lib.hid (K1.out.drewN nq)
  have H1 := Lib.hid (HB.out.keep0 ((Keep.refl [] w1).drewN nq))
  have B2 : Hid ((w1.drewN nq).heap[gb]? = some (.cells #[.int .i64 2, .int .i64 s, .int .i64 cell, .int .u64 a, .int .u64 b, .slice ad ws.length cap, .string p] 54 (0, 0))) := Lib.hid B1.out
  rw [← hwc] at KC H1 B2 ⊢
  clear e0 ef
  clear hwc g1 B1 HB K1
  have g := fun i => cell_of B2.out i
  have g0 := g 0
  have g1 := g 1
  have g2 := g 2
  have g3 := g 3
  have g4 := g 4
  have g5 := g 5
  have g6 := g 6
  clear g
  simp at g0 g1 g2 g3 g4 g5 g6
  go_wp2_with fail
  refine (free_no H1.out.hA s hin.out).mono ?_
  rintro e w2 ⟨rfl, h2, k2⟩
  have H2 := Lib.hid (H1.out.count k2 h2 rfl rfl rfl rfl rfl rfl rfl rfl)
  clear h2 k2 g0 g1 g2 g3 g4 g5 g6
  go_wp2_with fail
  refine (num_any _ _).mono ?_
  rintro e w3 ⟨rfl, rfl⟩
  go_wp2_with fail
  go_ret
  exact ⟨rfl, _, _, _, _, _, H2.out, rfl, rfl, rfl⟩

set_option maxRecDepth 100000 in
set_option maxHeartbeats 4000000 in
theorem owned2_ona (h : St w0 w L P N V A R) (cell a b : Int) (ad : Option Addr) (cap : Nat) (ws : List Int) (p : ByteArray) (hws : Came .u64 w0 ad ws.length ws) (hwl : ws.length ≤ 17592186043904) (s : Nat) (hs1 : 1 ≤ s) (hs2 : s ≤ A.slots) (hu : nth A.used s false = true) (hc0 : ¬ 0 ≤ cell) :
    Calls Try.prog 20 #[.pointer (some ⟨P.b, 0, none⟩), .pointer (some ⟨L.b, 0, none⟩), opV 2 s cell a b (.slice ad ws.length cap) p, .int .i64 A.slots, .int .i64 A.width] w fun e w' => e = .returned (.bool true) ∧ Goes w0 w' L P A := by
  have HS := Lib.hid h
  have HW := Lib.hid hws; clear hws
  have HG := Lib.hid (blocks_lt HS.out.hA)
  have HP := Lib.hid HS.out.book.lts
  have HR := Lib.hid HS.out.book.rlts
  obtain ⟨gb, hgb⟩ : ∃ gb, gb = w.heap.size := ⟨_, rfl⟩
  have HGB := Lib.hid hgb
  rw [← hgb] at HG HP HR
  have hin := Lib.hid ((inUse_mid (A := A) hs1 hs2).trans hu)
  have hne := Lib.hid (cell_bad1 (A := A) (cell := cell) hin.out (by omega))
  have HU := Lib.hid (show used A s from hu); clear hu
  clear h
  unfold opV
  go_enter Try.func20, Try.ntmps20
  go_wp2_with fail
  rw [← hgb]
  clear hgb
  obtain ⟨w1, hw1⟩ : ∃ w1, w1 = w.alloc (.cells #[.int .i64 2, .int .i64 s, .int .i64 cell, .int .u64 a, .int .u64 b, .slice ad ws.length cap, .string p] 54) := ⟨_, rfl⟩
  have K1 := Lib.hid (show Keep [] w w1 by rw [hw1]; exact (Keep.refl [] w).alloc _)
  have B1 : Hid (w1.heap[gb]? = some (.cells #[.int .i64 2, .int .i64 s, .int .i64 cell, .int .u64 a, .int .u64 b, .slice ad ws.length cap, .string p] 54 (0, 0))) := Lib.hid (by rw [hw1, HGB.out]; exact alloc_new _ _)
  rw [← hw1]
  clear hw1
  have g1 : w1.cell? ⟨gb, 1, none⟩ = some (.int .i64 s) := by rw [cell_of B1.out]; rfl
  have HB := Lib.hid (HS.out.keep0 K1.out)
  have i1 : (1 : Int) ≤ s := by omega
  have i2 : (s : Int) ≤ A.slots := by omega
  have e0 := HB.out.book.p0
  have ef := HB.out.book.flag HB.out.hA.fits (s := s) hs2
  rw [show nth A.used s false = true from HU.out] at ef
  go_quiet (fail)
  obtain ⟨wc, hwc⟩ : ∃ wc, wc = w1.drewN nq := ⟨_, rfl⟩
  have KC := Lib.hid (K1.out.drewN nq)
  have H1 := Lib.hid (HB.out.keep0 ((Keep.refl [] w1).drewN nq))
  have B2 : Hid ((w1.drewN nq).heap[gb]? = some (.cells #[.int .i64 2, .int .i64 s, .int .i64 cell, .int .u64 a, .int .u64 b, .slice ad ws.length cap, .string p] 54 (0, 0))) := Lib.hid B1.out
  rw [← hwc] at KC H1 B2 ⊢
  clear e0 ef
  clear hwc g1 B1 HB K1
  have g := fun i => cell_of B2.out i
  have g0 := g 0
  have g1 := g 1
  have g2 := g 2
  have g3 := g 3
  have g4 := g 4
  have g5 := g 5
  have g6 := g 6
  clear g
  simp at g0 g1 g2 g3 g4 g5 g6
  go_wp2_with fail
  refine (free_yes H1.out.hA s hin.out (H1.out.inv.room hs1 hs2 HU.out)).mono ?_
  rintro e w2 ⟨rfl, h2, k2⟩
  rw [Int.toNat_natCast] at h2
  have H2 := Lib.hid h2
  have K2 := Lib.hid k2
  have hbl : P.b ∉ L.blocks := H1.out.book.off _ (by simp [Pl.blocks])
  have hhl : P.h ∉ L.blocks := H1.out.book.off _ (by simp [Pl.blocks])
  have q1 := k2.cell g1 (fun hx => by have := HG.out _ hx; omega)
  have e1 := k2.cell H1.out.book.p0 hbl
  have hfl := k2.old H1.out.book.hh hhl
  have e2 := k2.cell (H1.out.book.flag H1.out.hA.fits hs2) hhl
  have HF := Lib.hid hfl
  clear hfl
  clear h2 k2 g0 g1 g2 g3 g4 g5 g6
  go_wp2_with fail
  refine (num_any _ _).mono ?_
  rintro e w3 ⟨rfl, rfl⟩
  go_wp2_with fail
  refine wp_region_still_tail 7 (by kernel_rfl) (by kernel_rfl) ?_
  obtain ⟨w5, hw5⟩ : ∃ w5, w5 = w2.drew := ⟨_, rfl⟩
  have D5 : Hid (Keep [] w2 w5) := Lib.hid (by rw [hw5]; exact (Keep.refl [] w2).drew)
  have hw5' : { heap := w2.heap, tape := w2.tape, drawn := w2.drawn + 1, os := w2.os, output := w2.output : World } = w5 := hw5.symm
  rw [hw5']
  have t1 := D5.out.cell q1 (by simp)
  have t4 := D5.out.cell e1 (by simp)
  have t5 := D5.out.cell e2 (by simp)
  have t7 : w5.frozen? ⟨P.h, s, none⟩ = false := free_of (D5.out.old HF.out (by simp)) s
  clear hw5 hw5' q1 e1 e2
  simp only [List.take_succ_cons, List.take_zero, List.drop_succ_cons, List.drop_zero]
  have i3 : s < A.slots + 1 := by omega
  have i4 : (s : Int) < (A.slots : Int) + 1 := by omega
  repeat still_step
  refine wpStill_nil ?_
  go_wp2_with fail
  go_ret
  have k5 : Keep (P.h :: L.blocks) wc (w5.setCell ⟨P.h, s, none⟩ (.bool false)) := (((K2.out.trans (k0 D5.out)).mono (by intro x hx; simp [hx])).set (.inl (by simp)) s _)
  have hAr : As.At 0 (w5.setCell ⟨P.h, s, none⟩ (.bool false)) L (freed A s) := (At.of0 H2.out D5.out).keep ((Keep.refl [P.h] w5).set (.inl (by simp)) s _) (by intro x hx; rw [List.mem_singleton.1 hx]; exact hhl)
  have hful := H1.out.hA.fits.used
  refine ⟨rfl, P, N, V, _, _, ⟨hAr, ?_, H1.out.inv.free H1.out.hA.fits hs1 hs2 HU.out, ?_, ?_, H1.out.lo1, H1.out.lo2, ?_⟩, rfl, rfl, rfl⟩
  · refine H1.out.book.drop k5 cons_in hs2 rfl rfl rfl ?_ hful rfl ?_
    · intro t ht
      show nth (A.items.set s Lies.zero) t ByteArray.empty = _
      rw [nth_set _ _ _ _ _ (by have := H1.out.hA.fits.items; omega), if_neg ht]
    · exact list_set (g := Value.bool) (D5.out.old HF.out (by simp)) s false
  · show nth (A.used.set s false) 0 false = false
    rw [nth_set _ _ _ _ _ (by omega)]
    split
    · rfl
    · exact H1.out.zero
  · exact Keep.new H1.out.keep k5 (cons_ge (H1.out.lo2 _ (by simp [Pl.blocks])) H1.out.lo1)
  · intro t ht
    refine H1.out.lo3 t ?_
    have hx : nth (A.used.set s false) t false = true := ht
    rw [nth_set _ _ _ _ _ (by omega)] at hx
    split at hx
    · cases hx
    · exact hx

set_option maxRecDepth 100000 in
set_option maxHeartbeats 4000000 in
theorem owned2_onb (h : St w0 w L P N V A R) (cell a b : Int) (ad : Option Addr) (cap : Nat) (ws : List Int) (p : ByteArray) (hws : Came .u64 w0 ad ws.length ws) (hwl : ws.length ≤ 17592186043904) (s : Nat) (hs1 : 1 ≤ s) (hs2 : s ≤ A.slots) (hu : nth A.used s false = true) (hc0 : 0 ≤ cell) (hc1 : ¬ cell < A.width) :
    Calls Try.prog 20 #[.pointer (some ⟨P.b, 0, none⟩), .pointer (some ⟨L.b, 0, none⟩), opV 2 s cell a b (.slice ad ws.length cap) p, .int .i64 A.slots, .int .i64 A.width] w fun e w' => e = .returned (.bool true) ∧ Goes w0 w' L P A := by
  have HS := Lib.hid h
  have HW := Lib.hid hws; clear hws
  have HG := Lib.hid (blocks_lt HS.out.hA)
  have HP := Lib.hid HS.out.book.lts
  have HR := Lib.hid HS.out.book.rlts
  obtain ⟨gb, hgb⟩ : ∃ gb, gb = w.heap.size := ⟨_, rfl⟩
  have HGB := Lib.hid hgb
  rw [← hgb] at HG HP HR
  have hin := Lib.hid ((inUse_mid (A := A) hs1 hs2).trans hu)
  have hne := Lib.hid (cell_bad1 (A := A) (cell := cell) hin.out (by omega))
  have HU := Lib.hid (show used A s from hu); clear hu
  clear h
  unfold opV
  go_enter Try.func20, Try.ntmps20
  go_wp2_with fail
  rw [← hgb]
  clear hgb
  obtain ⟨w1, hw1⟩ : ∃ w1, w1 = w.alloc (.cells #[.int .i64 2, .int .i64 s, .int .i64 cell, .int .u64 a, .int .u64 b, .slice ad ws.length cap, .string p] 54) := ⟨_, rfl⟩
  have K1 := Lib.hid (show Keep [] w w1 by rw [hw1]; exact (Keep.refl [] w).alloc _)
  have B1 : Hid (w1.heap[gb]? = some (.cells #[.int .i64 2, .int .i64 s, .int .i64 cell, .int .u64 a, .int .u64 b, .slice ad ws.length cap, .string p] 54 (0, 0))) := Lib.hid (by rw [hw1, HGB.out]; exact alloc_new _ _)
  rw [← hw1]
  clear hw1
  have g1 : w1.cell? ⟨gb, 1, none⟩ = some (.int .i64 s) := by rw [cell_of B1.out]; rfl
  have HB := Lib.hid (HS.out.keep0 K1.out)
  have i1 : (1 : Int) ≤ s := by omega
  have i2 : (s : Int) ≤ A.slots := by omega
  have e0 := HB.out.book.p0
  have ef := HB.out.book.flag HB.out.hA.fits (s := s) hs2
  rw [show nth A.used s false = true from HU.out] at ef
  go_quiet (fail)
  obtain ⟨wc, hwc⟩ : ∃ wc, wc = w1.drewN nq := ⟨_, rfl⟩
  have KC := Lib.hid (K1.out.drewN nq)
  have H1 := Lib.hid (HB.out.keep0 ((Keep.refl [] w1).drewN nq))
  have B2 : Hid ((w1.drewN nq).heap[gb]? = some (.cells #[.int .i64 2, .int .i64 s, .int .i64 cell, .int .u64 a, .int .u64 b, .slice ad ws.length cap, .string p] 54 (0, 0))) := Lib.hid B1.out
  rw [← hwc] at KC H1 B2 ⊢
  clear e0 ef
  have hd2 : decide (cell < (A.width : Int)) = false := decide_eq_false (by omega)
  clear hwc g1 B1 HB K1
  have g := fun i => cell_of B2.out i
  have g0 := g 0
  have g1 := g 1
  have g2 := g 2
  have g3 := g 3
  have g4 := g 4
  have g5 := g 5
  have g6 := g 6
  clear g
  simp at g0 g1 g2 g3 g4 g5 g6
  go_wp2_with fail
  refine (free_yes H1.out.hA s hin.out (H1.out.inv.room hs1 hs2 HU.out)).mono ?_
  rintro e w2 ⟨rfl, h2, k2⟩
  rw [Int.toNat_natCast] at h2
  have H2 := Lib.hid h2
  have K2 := Lib.hid k2
  have hbl : P.b ∉ L.blocks := H1.out.book.off _ (by simp [Pl.blocks])
  have hhl : P.h ∉ L.blocks := H1.out.book.off _ (by simp [Pl.blocks])
  have q1 := k2.cell g1 (fun hx => by have := HG.out _ hx; omega)
  have e1 := k2.cell H1.out.book.p0 hbl
  have hfl := k2.old H1.out.book.hh hhl
  have e2 := k2.cell (H1.out.book.flag H1.out.hA.fits hs2) hhl
  have HF := Lib.hid hfl
  clear hfl
  clear h2 k2 g0 g1 g2 g3 g4 g5 g6
  go_wp2_with fail
  refine (num_any _ _).mono ?_
  rintro e w3 ⟨rfl, rfl⟩
  go_wp2_with fail
  refine wp_region_still_tail 7 (by kernel_rfl) (by kernel_rfl) ?_
  obtain ⟨w5, hw5⟩ : ∃ w5, w5 = w2.drew := ⟨_, rfl⟩
  have D5 : Hid (Keep [] w2 w5) := Lib.hid (by rw [hw5]; exact (Keep.refl [] w2).drew)
  have hw5' : { heap := w2.heap, tape := w2.tape, drawn := w2.drawn + 1, os := w2.os, output := w2.output : World } = w5 := hw5.symm
  rw [hw5']
  have t1 := D5.out.cell q1 (by simp)
  have t4 := D5.out.cell e1 (by simp)
  have t5 := D5.out.cell e2 (by simp)
  have t7 : w5.frozen? ⟨P.h, s, none⟩ = false := free_of (D5.out.old HF.out (by simp)) s
  clear hw5 hw5' q1 e1 e2
  simp only [List.take_succ_cons, List.take_zero, List.drop_succ_cons, List.drop_zero]
  have i3 : s < A.slots + 1 := by omega
  have i4 : (s : Int) < (A.slots : Int) + 1 := by omega
  repeat still_step
  refine wpStill_nil ?_
  go_wp2_with fail
  go_ret
  have k5 : Keep (P.h :: L.blocks) wc (w5.setCell ⟨P.h, s, none⟩ (.bool false)) := (((K2.out.trans (k0 D5.out)).mono (by intro x hx; simp [hx])).set (.inl (by simp)) s _)
  have hAr : As.At 0 (w5.setCell ⟨P.h, s, none⟩ (.bool false)) L (freed A s) := (At.of0 H2.out D5.out).keep ((Keep.refl [P.h] w5).set (.inl (by simp)) s _) (by intro x hx; rw [List.mem_singleton.1 hx]; exact hhl)
  have hful := H1.out.hA.fits.used
  refine ⟨rfl, P, N, V, _, _, ⟨hAr, ?_, H1.out.inv.free H1.out.hA.fits hs1 hs2 HU.out, ?_, ?_, H1.out.lo1, H1.out.lo2, ?_⟩, rfl, rfl, rfl⟩
  · refine H1.out.book.drop k5 cons_in hs2 rfl rfl rfl ?_ hful rfl ?_
    · intro t ht
      show nth (A.items.set s Lies.zero) t ByteArray.empty = _
      rw [nth_set _ _ _ _ _ (by have := H1.out.hA.fits.items; omega), if_neg ht]
    · exact list_set (g := Value.bool) (D5.out.old HF.out (by simp)) s false
  · show nth (A.used.set s false) 0 false = false
    rw [nth_set _ _ _ _ _ (by omega)]
    split
    · rfl
    · exact H1.out.zero
  · exact Keep.new H1.out.keep k5 (cons_ge (H1.out.lo2 _ (by simp [Pl.blocks])) H1.out.lo1)
  · intro t ht
    refine H1.out.lo3 t ?_
    have hx : nth (A.used.set s false) t false = true := ht
    rw [nth_set _ _ _ _ _ (by omega)] at hx
    split at hx
    · cases hx
    · exact hx

set_option maxRecDepth 100000 in
set_option maxHeartbeats 4000000 in
theorem owned2_on (h : St w0 w L P N V A R) ( a b : Int) (ad : Option Addr) (cap : Nat) (ws : List Int) (p : ByteArray) (hws : Came .u64 w0 ad ws.length ws) (hwl : ws.length ≤ 17592186043904) (s c : Nat) (hs1 : 1 ≤ s) (hs2 : s ≤ A.slots) (hu : nth A.used s false = true) (hcn : c < A.width) :
    Calls Try.prog 20 #[.pointer (some ⟨P.b, 0, none⟩), .pointer (some ⟨L.b, 0, none⟩), opV 2 s c a b (.slice ad ws.length cap) p, .int .i64 A.slots, .int .i64 A.width] w fun e w' => e = .returned (.bool true) ∧ Goes w0 w' L P A := by
  have HS := Lib.hid h
  have HW := Lib.hid hws; clear hws
  have HG := Lib.hid (blocks_lt HS.out.hA)
  have HP := Lib.hid HS.out.book.lts
  have HR := Lib.hid HS.out.book.rlts
  obtain ⟨gb, hgb⟩ : ∃ gb, gb = w.heap.size := ⟨_, rfl⟩
  have HGB := Lib.hid hgb
  rw [← hgb] at HG HP HR
  have c0 : (0 : Int) ≤ c := by omega
  have c1 : (c : Int) < A.width := by omega
  have hin := Lib.hid ((inUse_mid (A := A) hs1 hs2).trans hu)
  have HU := Lib.hid (show used A s from hu); clear hu
  clear h
  unfold opV
  go_enter Try.func20, Try.ntmps20
  go_wp2_with fail
  rw [← hgb]
  clear hgb
  obtain ⟨w1, hw1⟩ : ∃ w1, w1 = w.alloc (.cells #[.int .i64 2, .int .i64 s, .int .i64 c, .int .u64 a, .int .u64 b, .slice ad ws.length cap, .string p] 54) := ⟨_, rfl⟩
  have K1 := Lib.hid (show Keep [] w w1 by rw [hw1]; exact (Keep.refl [] w).alloc _)
  have B1 : Hid (w1.heap[gb]? = some (.cells #[.int .i64 2, .int .i64 s, .int .i64 c, .int .u64 a, .int .u64 b, .slice ad ws.length cap, .string p] 54 (0, 0))) := Lib.hid (by rw [hw1, HGB.out]; exact alloc_new _ _)
  rw [← hw1]
  clear hw1
  have g1 : w1.cell? ⟨gb, 1, none⟩ = some (.int .i64 s) := by rw [cell_of B1.out]; rfl
  have HB := Lib.hid (HS.out.keep0 K1.out)
  have i1 : (1 : Int) ≤ s := by omega
  have i2 : (s : Int) ≤ A.slots := by omega
  have e0 := HB.out.book.p0
  have ef := HB.out.book.flag HB.out.hA.fits (s := s) hs2
  rw [show nth A.used s false = true from HU.out] at ef
  go_quiet (fail)
  obtain ⟨wc, hwc⟩ : ∃ wc, wc = w1.drewN nq := ⟨_, rfl⟩
  have KC := Lib.hid (K1.out.drewN nq)
  have H1 := Lib.hid (HB.out.keep0 ((Keep.refl [] w1).drewN nq))
  have B2 : Hid ((w1.drewN nq).heap[gb]? = some (.cells #[.int .i64 2, .int .i64 s, .int .i64 c, .int .u64 a, .int .u64 b, .slice ad ws.length cap, .string p] 54 (0, 0))) := Lib.hid B1.out
  rw [← hwc] at KC H1 B2 ⊢
  clear e0 ef
  clear hwc g1 B1 HB K1
  have g := fun i => cell_of B2.out i
  have g0 := g 0
  have g1 := g 1
  have g2 := g 2
  have g3 := g 3
  have g4 := g 4
  have g5 := g 5
  have g6 := g 6
  clear g
  simp at g0 g1 g2 g3 g4 g5 g6
  go_wp2_with fail
  refine (free_yes H1.out.hA s hin.out (H1.out.inv.room hs1 hs2 HU.out)).mono ?_
  rintro e w2 ⟨rfl, h2, k2⟩
  rw [Int.toNat_natCast] at h2
  have H2 := Lib.hid h2
  have K2 := Lib.hid k2
  have hbl : P.b ∉ L.blocks := H1.out.book.off _ (by simp [Pl.blocks])
  have hhl : P.h ∉ L.blocks := H1.out.book.off _ (by simp [Pl.blocks])
  have q1 := k2.cell g1 (fun hx => by have := HG.out _ hx; omega)
  have e1 := k2.cell H1.out.book.p0 hbl
  have hfl := k2.old H1.out.book.hh hhl
  have e2 := k2.cell (H1.out.book.flag H1.out.hA.fits hs2) hhl
  have HF := Lib.hid hfl
  clear hfl
  clear h2 k2 g0 g1 g2 g3 g4 g5 g6
  go_wp2_with fail
  refine (num_any _ _).mono ?_
  rintro e w3 ⟨rfl, rfl⟩
  go_wp2_with fail
  refine wp_region_still_tail 7 (by kernel_rfl) (by kernel_rfl) ?_
  obtain ⟨w5, hw5⟩ : ∃ w5, w5 = w2.drew := ⟨_, rfl⟩
  have D5 : Hid (Keep [] w2 w5) := Lib.hid (by rw [hw5]; exact (Keep.refl [] w2).drew)
  have hw5' : { heap := w2.heap, tape := w2.tape, drawn := w2.drawn + 1, os := w2.os, output := w2.output : World } = w5 := hw5.symm
  rw [hw5']
  have t1 := D5.out.cell q1 (by simp)
  have t4 := D5.out.cell e1 (by simp)
  have t5 := D5.out.cell e2 (by simp)
  have t7 : w5.frozen? ⟨P.h, s, none⟩ = false := free_of (D5.out.old HF.out (by simp)) s
  clear hw5 hw5' q1 e1 e2
  simp only [List.take_succ_cons, List.take_zero, List.drop_succ_cons, List.drop_zero]
  have i3 : s < A.slots + 1 := by omega
  have i4 : (s : Int) < (A.slots : Int) + 1 := by omega
  repeat still_step
  refine wpStill_nil ?_
  go_wp2_with fail
  go_ret
  have k5 : Keep (P.h :: L.blocks) wc (w5.setCell ⟨P.h, s, none⟩ (.bool false)) := (((K2.out.trans (k0 D5.out)).mono (by intro x hx; simp [hx])).set (.inl (by simp)) s _)
  have hAr : As.At 0 (w5.setCell ⟨P.h, s, none⟩ (.bool false)) L (freed A s) := (At.of0 H2.out D5.out).keep ((Keep.refl [P.h] w5).set (.inl (by simp)) s _) (by intro x hx; rw [List.mem_singleton.1 hx]; exact hhl)
  have hful := H1.out.hA.fits.used
  refine ⟨rfl, P, N, V, _, _, ⟨hAr, ?_, H1.out.inv.free H1.out.hA.fits hs1 hs2 HU.out, ?_, ?_, H1.out.lo1, H1.out.lo2, ?_⟩, rfl, rfl, rfl⟩
  · refine H1.out.book.drop k5 cons_in hs2 rfl rfl rfl ?_ hful rfl ?_
    · intro t ht
      show nth (A.items.set s Lies.zero) t ByteArray.empty = _
      rw [nth_set _ _ _ _ _ (by have := H1.out.hA.fits.items; omega), if_neg ht]
    · exact list_set (g := Value.bool) (D5.out.old HF.out (by simp)) s false
  · show nth (A.used.set s false) 0 false = false
    rw [nth_set _ _ _ _ _ (by omega)]
    split
    · rfl
    · exact H1.out.zero
  · exact Keep.new H1.out.keep k5 (cons_ge (H1.out.lo2 _ (by simp [Pl.blocks])) H1.out.lo1)
  · intro t ht
    refine H1.out.lo3 t ?_
    have hx : nth (A.used.set s false) t false = true := ht
    rw [nth_set _ _ _ _ _ (by omega)] at hx
    split at hx
    · cases hx
    · exact hx
end Go.Proofs.Ytmdboahjikngeaa.Owned
