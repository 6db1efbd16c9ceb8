/- CellsOwned: a call of the kind 0: the walk. -/
import Derived.Test.YtmdboahjikngeaaOwnSt
namespace Go.Proofs.Ytmdboahjikngeaa.Owned
open Go.RowKit Go.Proofs.Ytmdboahjikngeaa.Mem Go.Proofs.Ytmdboahjikngeaa.Ar Go.Proofs.Ytmdboahjikngeaa.As Go.Proofs.Ytmdboahjikngeaa.Fifo Go.MuLone
set_option linter.unusedVariables false

variable {w0 w w' : World} {L : Bk} {P : Pl} {N : List ByteArray} {V : List Value} {A A' : Arena ByteArray} {R : List Nat}

set_option maxRecDepth 100000 in
set_option maxHeartbeats 4000000 in
theorem owned0_low (h : St w0 w L P N V A R) (k slot cell a b : Int) (ad : Option Addr) (cap : Nat) (ws : List Int) (p : ByteArray) (hws : Came .u64 w0 ad ws.length ws) (hwl : ws.length ≤ 17592186043904) (h1 : ¬ 1 ≤ slot) (k1 : ¬ k = 1) (k2 : ¬ k = 2) (k3 : ¬ k = 3) (k4 : ¬ k = 4) (k5 : ¬ k = 5) (k6 : ¬ k = 6) :
    Calls Try.prog 20 #[.pointer (some ⟨P.b, 0, none⟩), .pointer (some ⟨L.b, 0, none⟩), opV k slot cell a b (.slice ad ws.length cap) p, .int .i64 A.slots, .int .i64 A.width] w fun e w' => e = .returned (.bool true) ∧ Goes w0 w' L P A := by
  have HS := Lib.hid h
  have HW := Lib.hid hws; clear hws
  have HG := Lib.hid (blocks_lt HS.out.hA)
  have HP := Lib.hid HS.out.book.lts
  have HR := Lib.hid HS.out.book.rlts
  obtain ⟨gb, hgb⟩ : ∃ gb, gb = w.heap.size := ⟨_, rfl⟩
  have HGB := Lib.hid hgb
  rw [← hgb] at HG HP HR
  have hin := Lib.hid (inUse_low (A := A) h1)
  have hne := Lib.hid (cell_bad0 (cell := cell) hin.out)
  clear h
  unfold opV
  go_enter Try.func20, Try.ntmps20
  go_wp2_with fail
  rw [← hgb]
  clear hgb
  obtain ⟨w1, hw1⟩ : ∃ w1, w1 = w.alloc (.cells #[.int .i64 k, .int .i64 slot, .int .i64 cell, .int .u64 a, .int .u64 b, .slice ad ws.length cap, .string p] 54) := ⟨_, rfl⟩
  have K1 := Lib.hid (show Keep [] w w1 by rw [hw1]; exact (Keep.refl [] w).alloc _)
  have B1 : Hid (w1.heap[gb]? = some (.cells #[.int .i64 k, .int .i64 slot, .int .i64 cell, .int .u64 a, .int .u64 b, .slice ad ws.length cap, .string p] 54 (0, 0))) := Lib.hid (by rw [hw1, HGB.out]; exact alloc_new _ _)
  rw [← hw1]
  clear hw1
  have g1 : w1.cell? ⟨gb, 1, none⟩ = some (.int .i64 slot) := by rw [cell_of B1.out]; rfl
  have HB := Lib.hid (HS.out.keep0 K1.out)
  have hd : decide (1 ≤ slot) = false := decide_eq_false (by omega)
  go_quiet (fail)
  obtain ⟨wc, hwc⟩ : ∃ wc, wc = w1.drewN nq := ⟨_, rfl⟩
  have KC := Lib.hid (K1.out.drewN nq)
  have H1 := Lib.hid (HB.out.keep0 ((Keep.refl [] w1).drewN nq))
  have B2 : Hid ((w1.drewN nq).heap[gb]? = some (.cells #[.int .i64 k, .int .i64 slot, .int .i64 cell, .int .u64 a, .int .u64 b, .slice ad ws.length cap, .string p] 54 (0, 0))) := Lib.hid B1.out
  rw [← hwc] at KC H1 B2 ⊢
  clear hd
  clear hwc g1 B1 HB K1
  have g := fun i => cell_of B2.out i
  have g0 := g 0
  have g1 := g 1
  have g2 := g 2
  have g3 := g 3
  have g4 := g 4
  have g5 := g 5
  have g6 := g 6
  clear g
  simp at g0 g1 g2 g3 g4 g5 g6
  go_wp2_with fail
  go_ret
  exact ⟨rfl, _, _, _, _, _, H1.out, rfl, rfl, rfl⟩

set_option maxRecDepth 100000 in
set_option maxHeartbeats 4000000 in
theorem owned0_high (h : St w0 w L P N V A R) (k slot cell a b : Int) (ad : Option Addr) (cap : Nat) (ws : List Int) (p : ByteArray) (hws : Came .u64 w0 ad ws.length ws) (hwl : ws.length ≤ 17592186043904) (h1 : 1 ≤ slot) (h2 : ¬ slot ≤ A.slots) (k1 : ¬ k = 1) (k2 : ¬ k = 2) (k3 : ¬ k = 3) (k4 : ¬ k = 4) (k5 : ¬ k = 5) (k6 : ¬ k = 6) :
    Calls Try.prog 20 #[.pointer (some ⟨P.b, 0, none⟩), .pointer (some ⟨L.b, 0, none⟩), opV k slot cell a b (.slice ad ws.length cap) p, .int .i64 A.slots, .int .i64 A.width] w fun e w' => e = .returned (.bool true) ∧ Goes w0 w' L P A := by
  have HS := Lib.hid h
  have HW := Lib.hid hws; clear hws
  have HG := Lib.hid (blocks_lt HS.out.hA)
  have HP := Lib.hid HS.out.book.lts
  have HR := Lib.hid HS.out.book.rlts
  obtain ⟨gb, hgb⟩ : ∃ gb, gb = w.heap.size := ⟨_, rfl⟩
  have HGB := Lib.hid hgb
  rw [← hgb] at HG HP HR
  have hin := Lib.hid (inUse_high (A := A) h2)
  have hne := Lib.hid (cell_bad0 (cell := cell) hin.out)
  clear h
  unfold opV
  go_enter Try.func20, Try.ntmps20
  go_wp2_with fail
  rw [← hgb]
  clear hgb
  obtain ⟨w1, hw1⟩ : ∃ w1, w1 = w.alloc (.cells #[.int .i64 k, .int .i64 slot, .int .i64 cell, .int .u64 a, .int .u64 b, .slice ad ws.length cap, .string p] 54) := ⟨_, rfl⟩
  have K1 := Lib.hid (show Keep [] w w1 by rw [hw1]; exact (Keep.refl [] w).alloc _)
  have B1 : Hid (w1.heap[gb]? = some (.cells #[.int .i64 k, .int .i64 slot, .int .i64 cell, .int .u64 a, .int .u64 b, .slice ad ws.length cap, .string p] 54 (0, 0))) := Lib.hid (by rw [hw1, HGB.out]; exact alloc_new _ _)
  rw [← hw1]
  clear hw1
  have g1 : w1.cell? ⟨gb, 1, none⟩ = some (.int .i64 slot) := by rw [cell_of B1.out]; rfl
  have HB := Lib.hid (HS.out.keep0 K1.out)
  have hd : decide (slot ≤ (A.slots : Int)) = false := decide_eq_false (by omega)
  go_quiet (fail)
  obtain ⟨wc, hwc⟩ : ∃ wc, wc = w1.drewN nq := ⟨_, rfl⟩
  have KC := Lib.hid (K1.out.drewN nq)
  have H1 := Lib.hid (HB.out.keep0 ((Keep.refl [] w1).drewN nq))
  have B2 : Hid ((w1.drewN nq).heap[gb]? = some (.cells #[.int .i64 k, .int .i64 slot, .int .i64 cell, .int .u64 a, .int .u64 b, .slice ad ws.length cap, .string p] 54 (0, 0))) := Lib.hid B1.out
  rw [← hwc] at KC H1 B2 ⊢
  clear hd
  clear hwc g1 B1 HB K1
  have g := fun i => cell_of B2.out i
  have g0 := g 0
  have g1 := g 1
  have g2 := g 2
  have g3 := g 3
  have g4 := g 4
  have g5 := g 5
  have g6 := g 6
  clear g
  simp at g0 g1 g2 g3 g4 g5 g6
  go_wp2_with fail
  go_ret
  exact ⟨rfl, _, _, _, _, _, H1.out, rfl, rfl, rfl⟩

set_option maxRecDepth 100000 in
set_option maxHeartbeats 4000000 in
theorem owned0_off (h : St w0 w L P N V A R) (k cell a b : Int) (ad : Option Addr) (cap : Nat) (ws : List Int) (p : ByteArray) (hws : Came .u64 w0 ad ws.length ws) (hwl : ws.length ≤ 17592186043904) (s : Nat) (hs1 : 1 ≤ s) (hs2 : s ≤ A.slots) (hu : nth A.used s false = false) (k1 : ¬ k = 1) (k2 : ¬ k = 2) (k3 : ¬ k = 3) (k4 : ¬ k = 4) (k5 : ¬ k = 5) (k6 : ¬ k = 6) :
    Calls Try.prog 20 #[.pointer (some ⟨P.b, 0, none⟩), .pointer (some ⟨L.b, 0, none⟩), opV k s cell a b (.slice ad ws.length cap) p, .int .i64 A.slots, .int .i64 A.width] w fun e w' => e = .returned (.bool true) ∧ Goes w0 w' L P A := by
  have HS := Lib.hid h
  have HW := Lib.hid hws; clear hws
  have HG := Lib.hid (blocks_lt HS.out.hA)
  have HP := Lib.hid HS.out.book.lts
  have HR := Lib.hid HS.out.book.rlts
  obtain ⟨gb, hgb⟩ : ∃ gb, gb = w.heap.size := ⟨_, rfl⟩
  have HGB := Lib.hid hgb
  rw [← hgb] at HG HP HR
  have hin := Lib.hid ((inUse_mid (A := A) hs1 hs2).trans hu)
  have hne := Lib.hid (cell_bad0 (cell := cell) hin.out)
  have HU := Lib.hid hu; clear hu
  clear h
  unfold opV
  go_enter Try.func20, Try.ntmps20
  go_wp2_with fail
  rw [← hgb]
  clear hgb
  obtain ⟨w1, hw1⟩ : ∃ w1, w1 = w.alloc (.cells #[.int .i64 k, .int .i64 s, .int .i64 cell, .int .u64 a, .int .u64 b, .slice ad ws.length cap, .string p] 54) := ⟨_, rfl⟩
  have K1 := Lib.hid (show Keep [] w w1 by rw [hw1]; exact (Keep.refl [] w).alloc _)
  have B1 : Hid (w1.heap[gb]? = some (.cells #[.int .i64 k, .int .i64 s, .int .i64 cell, .int .u64 a, .int .u64 b, .slice ad ws.length cap, .string p] 54 (0, 0))) := Lib.hid (by rw [hw1, HGB.out]; exact alloc_new _ _)
  rw [← hw1]
  clear hw1
  have g1 : w1.cell? ⟨gb, 1, none⟩ = some (.int .i64 s) := by rw [cell_of B1.out]; rfl
  have HB := Lib.hid (HS.out.keep0 K1.out)
  have i1 : (1 : Int) ≤ s := by omega
  have i2 : (s : Int) ≤ A.slots := by omega
  have e0 := HB.out.book.p0
  have ef := HB.out.book.flag HB.out.hA.fits (s := s) hs2
  rw [HU.out] at ef
  go_quiet (fail)
  obtain ⟨wc, hwc⟩ : ∃ wc, wc = w1.drewN nq := ⟨_, rfl⟩
  have KC := Lib.hid (K1.out.drewN nq)
  have H1 := Lib.hid (HB.out.keep0 ((Keep.refl [] w1).drewN nq))
  have B2 : Hid ((w1.drewN nq).heap[gb]? = some (.cells #[.int .i64 k, .int .i64 s, .int .i64 cell, .int .u64 a, .int .u64 b, .slice ad ws.length cap, .string p] 54 (0, 0))) := Lib.hid B1.out
  rw [← hwc] at KC H1 B2 ⊢
  clear e0 ef
  clear hwc g1 B1 HB K1
  have g := fun i => cell_of B2.out i
  have g0 := g 0
  have g1 := g 1
  have g2 := g 2
  have g3 := g 3
  have g4 := g 4
  have g5 := g 5
  have g6 := g 6
  clear g
  simp at g0 g1 g2 g3 g4 g5 g6
  go_wp2_with fail
  go_ret
  exact ⟨rfl, _, _, _, _, _, H1.out, rfl, rfl, rfl⟩

set_option maxRecDepth 100000 in
set_option maxHeartbeats 4000000 in
theorem owned0_ona (h : St w0 w L P N V A R) (k cell a b : Int) (ad : Option Addr) (cap : Nat) (ws : List Int) (p : ByteArray) (hws : Came .u64 w0 ad ws.length ws) (hwl : ws.length ≤ 17592186043904) (s : Nat) (hs1 : 1 ≤ s) (hs2 : s ≤ A.slots) (hu : nth A.used s false = true) (hc0 : ¬ 0 ≤ cell) (k1 : ¬ k = 1) (k2 : ¬ k = 2) (k3 : ¬ k = 3) (k4 : ¬ k = 4) (k5 : ¬ k = 5) (k6 : ¬ k = 6) :
    Calls Try.prog 20 #[.pointer (some ⟨P.b, 0, none⟩), .pointer (some ⟨L.b, 0, none⟩), opV k s cell a b (.slice ad ws.length cap) p, .int .i64 A.slots, .int .i64 A.width] w fun e w' => e = .returned (.bool true) ∧ Goes w0 w' L P A := by
  have HS := Lib.hid h
  have HW := Lib.hid hws; clear hws
  have HG := Lib.hid (blocks_lt HS.out.hA)
  have HP := Lib.hid HS.out.book.lts
  have HR := Lib.hid HS.out.book.rlts
  obtain ⟨gb, hgb⟩ : ∃ gb, gb = w.heap.size := ⟨_, rfl⟩
  have HGB := Lib.hid hgb
  rw [← hgb] at HG HP HR
  have hin := Lib.hid ((inUse_mid (A := A) hs1 hs2).trans hu)
  have hne := Lib.hid (cell_bad1 (A := A) (cell := cell) hin.out (by omega))
  have HU := Lib.hid (show used A s from hu); clear hu
  clear h
  unfold opV
  go_enter Try.func20, Try.ntmps20
  go_wp2_with fail
  rw [← hgb]
  clear hgb
  obtain ⟨w1, hw1⟩ : ∃ w1, w1 = w.alloc (.cells #[.int .i64 k, .int .i64 s, .int .i64 cell, .int .u64 a, .int .u64 b, .slice ad ws.length cap, .string p] 54) := ⟨_, rfl⟩
  have K1 := Lib.hid (show Keep [] w w1 by rw [hw1]; exact (Keep.refl [] w).alloc _)
  have B1 : Hid (w1.heap[gb]? = some (.cells #[.int .i64 k, .int .i64 s, .int .i64 cell, .int .u64 a, .int .u64 b, .slice ad ws.length cap, .string p] 54 (0, 0))) := Lib.hid (by rw [hw1, HGB.out]; exact alloc_new _ _)
  rw [← hw1]
  clear hw1
  have g1 : w1.cell? ⟨gb, 1, none⟩ = some (.int .i64 s) := by rw [cell_of B1.out]; rfl
  have HB := Lib.hid (HS.out.keep0 K1.out)
  have i1 : (1 : Int) ≤ s := by omega
  have i2 : (s : Int) ≤ A.slots := by omega
  have e0 := HB.out.book.p0
  have ef := HB.out.book.flag HB.out.hA.fits (s := s) hs2
  rw [show nth A.used s false = true from HU.out] at ef
  go_quiet (fail)
  obtain ⟨wc, hwc⟩ : ∃ wc, wc = w1.drewN nq := ⟨_, rfl⟩
  have KC := Lib.hid (K1.out.drewN nq)
  have H1 := Lib.hid (HB.out.keep0 ((Keep.refl [] w1).drewN nq))
  have B2 : Hid ((w1.drewN nq).heap[gb]? = some (.cells #[.int .i64 k, .int .i64 s, .int .i64 cell, .int .u64 a, .int .u64 b, .slice ad ws.length cap, .string p] 54 (0, 0))) := Lib.hid B1.out
  rw [← hwc] at KC H1 B2 ⊢
  clear e0 ef
  clear hwc g1 B1 HB K1
  have g := fun i => cell_of B2.out i
  have g0 := g 0
  have g1 := g 1
  have g2 := g 2
  have g3 := g 3
  have g4 := g 4
  have g5 := g 5
  have g6 := g 6
  clear g
  simp at g0 g1 g2 g3 g4 g5 g6
  go_wp2_with fail
  go_ret
  exact ⟨rfl, _, _, _, _, _, H1.out, rfl, rfl, rfl⟩

set_option maxRecDepth 100000 in
set_option maxHeartbeats 4000000 in
theorem owned0_onb (h : St w0 w L P N V A R) (k cell a b : Int) (ad : Option Addr) (cap : Nat) (ws : List Int) (p : ByteArray) (hws : Came .u64 w0 ad ws.length ws) (hwl : ws.length ≤ 17592186043904) (s : Nat) (hs1 : 1 ≤ s) (hs2 : s ≤ A.slots) (hu : nth A.used s false = true) (hc0 : 0 ≤ cell) (hc1 : ¬ cell < A.width) (k1 : ¬ k = 1) (k2 : ¬ k = 2) (k3 : ¬ k = 3) (k4 : ¬ k = 4) (k5 : ¬ k = 5) (k6 : ¬ k = 6) :
    Calls Try.prog 20 #[.pointer (some ⟨P.b, 0, none⟩), .pointer (some ⟨L.b, 0, none⟩), opV k s cell a b (.slice ad ws.length cap) p, .int .i64 A.slots, .int .i64 A.width] w fun e w' => e = .returned (.bool true) ∧ Goes w0 w' L P A := by
  have HS := Lib.hid h
  have HW := Lib.hid hws; clear hws
  have HG := Lib.hid (blocks_lt HS.out.hA)
  have HP := Lib.hid HS.out.book.lts
  have HR := Lib.hid HS.out.book.rlts
  obtain ⟨gb, hgb⟩ : ∃ gb, gb = w.heap.size := ⟨_, rfl⟩
  have HGB := Lib.hid hgb
  rw [← hgb] at HG HP HR
  have hin := Lib.hid ((inUse_mid (A := A) hs1 hs2).trans hu)
  have hne := Lib.hid (cell_bad1 (A := A) (cell := cell) hin.out (by omega))
  have HU := Lib.hid (show used A s from hu); clear hu
  clear h
  unfold opV
  go_enter Try.func20, Try.ntmps20
  go_wp2_with fail
  rw [← hgb]
  clear hgb
  obtain ⟨w1, hw1⟩ : ∃ w1, w1 = w.alloc (.cells #[.int .i64 k, .int .i64 s, .int .i64 cell, .int .u64 a, .int .u64 b, .slice ad ws.length cap, .string p] 54) := ⟨_, rfl⟩
  have K1 := Lib.hid (show Keep [] w w1 by rw [hw1]; exact (Keep.refl [] w).alloc _)
  have B1 : Hid (w1.heap[gb]? = some (.cells #[.int .i64 k, .int .i64 s, .int .i64 cell, .int .u64 a, .int .u64 b, .slice ad ws.length cap, .string p] 54 (0, 0))) := Lib.hid (by rw [hw1, HGB.out]; exact alloc_new _ _)
  rw [← hw1]
  clear hw1
  have g1 : w1.cell? ⟨gb, 1, none⟩ = some (.int .i64 s) := by rw [cell_of B1.out]; rfl
  have HB := Lib.hid (HS.out.keep0 K1.out)
  have i1 : (1 : Int) ≤ s := by omega
  have i2 : (s : Int) ≤ A.slots := by omega
  have e0 := HB.out.book.p0
  have ef := HB.out.book.flag HB.out.hA.fits (s := s) hs2
  rw [show nth A.used s false = true from HU.out] at ef
  go_quiet (fail)
  obtain ⟨wc, hwc⟩ : ∃ wc, wc = w1.drewN nq := ⟨_, rfl⟩
  have KC := Lib.hid (K1.out.drewN nq)
  have H1 := Lib.hid (HB.out.keep0 ((Keep.refl [] w1).drewN nq))
  have B2 : Hid ((w1.drewN nq).heap[gb]? = some (.cells #[.int .i64 k, .int .i64 s, .int .i64 cell, .int .u64 a, .int .u64 b, .slice ad ws.length cap, .string p] 54 (0, 0))) := Lib.hid B1.out
  rw [← hwc] at KC H1 B2 ⊢
  clear e0 ef
  have hd2 : decide (cell < (A.width : Int)) = false := decide_eq_false (by omega)
  clear hwc g1 B1 HB K1
  have g := fun i => cell_of B2.out i
  have g0 := g 0
  have g1 := g 1
  have g2 := g 2
  have g3 := g 3
  have g4 := g 4
  have g5 := g 5
  have g6 := g 6
  clear g
  simp at g0 g1 g2 g3 g4 g5 g6
  go_wp2_with fail
  go_ret
  exact ⟨rfl, _, _, _, _, _, H1.out, rfl, rfl, rfl⟩

set_option maxRecDepth 100000 in
set_option maxHeartbeats 4000000 in
theorem owned0_on (h : St w0 w L P N V A R) (k  a b : Int) (ad : Option Addr) (cap : Nat) (ws : List Int) (p : ByteArray) (hws : Came .u64 w0 ad ws.length ws) (hwl : ws.length ≤ 17592186043904) (s c : Nat) (hs1 : 1 ≤ s) (hs2 : s ≤ A.slots) (hu : nth A.used s false = true) (hcn : c < A.width) (k1 : ¬ k = 1) (k2 : ¬ k = 2) (k3 : ¬ k = 3) (k4 : ¬ k = 4) (k5 : ¬ k = 5) (k6 : ¬ k = 6) :
    Calls Try.prog 20 #[.pointer (some ⟨P.b, 0, none⟩), .pointer (some ⟨L.b, 0, none⟩), opV k s c a b (.slice ad ws.length cap) p, .int .i64 A.slots, .int .i64 A.width] w fun e w' => e = .returned (.bool true) ∧ Goes w0 w' L P A := by
  have HS := Lib.hid h
  have HW := Lib.hid hws; clear hws
  have HG := Lib.hid (blocks_lt HS.out.hA)
  have HP := Lib.hid HS.out.book.lts
  have HR := Lib.hid HS.out.book.rlts
  obtain ⟨gb, hgb⟩ : ∃ gb, gb = w.heap.size := ⟨_, rfl⟩
  have HGB := Lib.hid hgb
  rw [← hgb] at HG HP HR
  have c0 : (0 : Int) ≤ c := by omega
  have c1 : (c : Int) < A.width := by omega
  have hin := Lib.hid ((inUse_mid (A := A) hs1 hs2).trans hu)
  have HU := Lib.hid (show used A s from hu); clear hu
  clear h
  unfold opV
  go_enter Try.func20, Try.ntmps20
  go_wp2_with fail
  rw [← hgb]
  clear hgb
  obtain ⟨w1, hw1⟩ : ∃ w1, w1 = w.alloc (.cells #[.int .i64 k, .int .i64 s, .int .i64 c, .int .u64 a, .int .u64 b, .slice ad ws.length cap, .string p] 54) := ⟨_, rfl⟩
  have K1 := Lib.hid (show Keep [] w w1 by rw [hw1]; exact (Keep.refl [] w).alloc _)
  have B1 : Hid (w1.heap[gb]? = some (.cells #[.int .i64 k, .int .i64 s, .int .i64 c, .int .u64 a, .int .u64 b, .slice ad ws.length cap, .string p] 54 (0, 0))) := Lib.hid (by rw [hw1, HGB.out]; exact alloc_new _ _)
  rw [← hw1]
  clear hw1
  have g1 : w1.cell? ⟨gb, 1, none⟩ = some (.int .i64 s) := by rw [cell_of B1.out]; rfl
  have HB := Lib.hid (HS.out.keep0 K1.out)
  have i1 : (1 : Int) ≤ s := by omega
  have i2 : (s : Int) ≤ A.slots := by omega
  have e0 := HB.out.book.p0
  have ef := HB.out.book.flag HB.out.hA.fits (s := s) hs2
  rw [show nth A.used s false = true from HU.out] at ef
  go_quiet (fail)
  obtain ⟨wc, hwc⟩ : ∃ wc, wc = w1.drewN nq := ⟨_, rfl⟩
  have KC := Lib.hid (K1.out.drewN nq)
  have H1 := Lib.hid (HB.out.keep0 ((Keep.refl [] w1).drewN nq))
  have B2 : Hid ((w1.drewN nq).heap[gb]? = some (.cells #[.int .i64 k, .int .i64 s, .int .i64 c, .int .u64 a, .int .u64 b, .slice ad ws.length cap, .string p] 54 (0, 0))) := Lib.hid B1.out
  rw [← hwc] at KC H1 B2 ⊢
  clear e0 ef
  clear hwc g1 B1 HB K1
  have g := fun i => cell_of B2.out i
  have g0 := g 0
  have g1 := g 1
  have g2 := g 2
  have g3 := g 3
  have g4 := g 4
  have g5 := g 5
  have g6 := g 6
  clear g
  simp at g0 g1 g2 g3 g4 g5 g6
  go_wp2_with fail
  go_ret
  exact ⟨rfl, _, _, _, _, _, H1.out, rfl, rfl, rfl⟩
end Go.Proofs.Ytmdboahjikngeaa.Owned
