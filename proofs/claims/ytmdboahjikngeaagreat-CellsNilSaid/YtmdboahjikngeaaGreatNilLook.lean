/- CellsNil: printed by cellnils.py. -/
import Derived.Test.YtmdboahjikngeaaGreatNilOne
import Derived.Deep.DeepCutAuto
import Derived.BigQuiet
namespace Go.Proofs.YtmdboahjikngeaaGreat.Nil
open Go.RowKit Go.Proofs.YtmdboahjikngeaaGreat.Mem Go.Proofs.YtmdboahjikngeaaGreat.Ar Go.Proofs.YtmdboahjikngeaaGreat.As
set_option linter.unusedVariables false
variable {w : World} {p : Option Addr}

set_option maxRecDepth 100000 in
set_option maxHeartbeats 1000000 in
theorem look9 (h : Bare w p) (s c a b : Int) (ad : Option Addr) (cap : Nat) (ws : List Int) (pp : ByteArray) (hws : Came .u64 w ad ws.length ws) (hwl : ws.length ≤ 17592186043904) :
    Calls Tryz.prog 59 #[.pointer p, opV 9 s c a b (.slice ad ws.length cap) pp] w fun e w' => ∃ v, e = .returned v ∧ AnsIs w w' v 0 1 [0] ∧ Keep [] w w' := by
  have H := Lib.hid h; clear h
  have HW := Lib.hid hws; clear hws
  unfold opV
  go_enter Tryz.func59, Tryz.ntmps59
  go_upto_region 1 with fail
  obtain ⟨w1, hw1⟩ : ∃ w1, w1 = (w.alloc (.cells #[.int .i64 9, .int .i64 s, .int .i64 c, .int .u64 a, .int .u64 b, .slice ad ws.length cap, .string pp] 35)).alloc (.cells #[.int .i64 0, .slice none 0 0, .string ⟨#[]⟩] 38) := ⟨_, rfl⟩
  obtain ⟨gb, hgb⟩ : ∃ gb, gb = w.heap.size := ⟨_, rfl⟩
  have K1 := Lib.hid (show Keep [] w w1 by rw [hw1]; exact ((Keep.refl [] w).alloc _).alloc _)
  have B1 : Hid (w1.heap[gb]? = some (.cells #[.int .i64 9, .int .i64 s, .int .i64 c, .int .u64 a, .int .u64 b, .slice ad ws.length cap, .string pp] 35 (0, 0))) := Lib.hid (by rw [hw1, hgb]; exact alloc_some _ (alloc_new _ _))
  have R1 : Hid (w1.heap[gb + 1]? = some (.cells #[.int .i64 0, .slice none 0 0, .string ⟨#[]⟩] 38 (0, 0))) := Lib.hid (by
    have := alloc_new (w.alloc (.cells #[.int .i64 9, .int .i64 s, .int .i64 c, .int .u64 a, .int .u64 b, .slice ad ws.length cap, .string pp] 35)) (.cells #[.int .i64 0, .slice none 0 0, .string ⟨#[]⟩] 38)
    rw [World.size_alloc] at this
    rw [hw1, hgb]
    exact this)
  have HS1 : Hid (gb + 1 < w1.heap.size) := Lib.hid (lt_of R1.out)
  have HGB := Lib.hid hgb
  rw [← hw1, ← hgb]
  clear hw1 hgb
  have g := fun i => cell_of B1.out i
  have g0 := g 0
  have g1 := g 1
  have g2 := g 2
  have g3 := g 3
  have g4 := g 4
  have g5 := g 5
  have g6 := g 6
  have q := fun i => cell_of R1.out i
  have q0 := q 0
  have q1 := q 1
  have q2 := q 2
  have qf := free_of R1.out
  clear g q
  simp at g0 g1 g2 g3 g4 g5 g6 q0 q1 q2
  have qn := World.new_ne _ _ q0
  go_wp2_with fail
  refine (nAccesses (H.out.keep K1.out)).mono ?_
  rintro e w2 ⟨rfl, k⟩
  clear g0 g1 g2 g3 g4 g5 g6
  have K2 := Lib.hid (K1.out.trans k)
  have R2 := Lib.hid (k.old R1.out (by simp))
  clear q0 q1 q2 qf qn
  have q := fun i => cell_of R2.out i
  have q0 := q 0
  have q1 := q 1
  have q2 := q 2
  have qf := free_of R2.out
  clear q
  simp at q0 q1 q2
  have qn := World.new_ne _ _ q0
  clear k
  go_wp2_with fail
  refine (one _ _).mono ?_
  rintro e w3 ⟨v, rfl, g1, rfl, hg, hc, k⟩
  have HG1 := Lib.hid (Nat.lt_of_lt_of_le (lt_of R2.out) hg)
  have HC1 := Lib.hid hc
  clear hg hc
  have K3 := Lib.hid (K2.out.trans k)
  have R3 := Lib.hid (k.old R2.out (by simp))
  clear q0 q1 q2 qf qn
  have q := fun i => cell_of R3.out i
  have q0 := q 0
  have q1 := q 1
  have q2 := q 2
  have qf := free_of R3.out
  clear q
  simp at q0 q1 q2
  have qn := World.new_ne _ _ q0
  clear k
  go_wp2_with fail
  refine bodyPost_ret (v := .agg #[.int .i64 0, .slice (some ⟨g1, 0, none⟩) 1 1, .string ⟨#[]⟩]) ?_ rfl ?_
  · simp [results]
    go_simp
  have HX : w.heap.size ≤ gb + 1 := by have := HGB.out; omega
  have HK := K3.out.size
  refine ⟨_, rfl, ⟨_, _, rfl, ?_, ?_⟩, (((K3.out.set (.inr HX) 0 _).set (.inr HX) 1 _).set (.inr HX) 2 _)⟩
  · exact came1 (((((Keep.refl [gb + 1] _).set (.inl (by simp)) 0 _).set (.inl (by simp)) 1 _).set (.inl (by simp)) 2 _).cell HC1.out (by have := HG1.out; simp; omega))
  · intro b o e; cases e; have := HG1.out; have := HGB.out; omega

set_option maxRecDepth 100000 in
set_option maxHeartbeats 1000000 in
theorem look10 (h : Bare w p) (s c a b : Int) (ad : Option Addr) (cap : Nat) (ws : List Int) (pp : ByteArray) (hws : Came .u64 w ad ws.length ws) (hwl : ws.length ≤ 17592186043904) :
    Calls Tryz.prog 59 #[.pointer p, opV 10 s c a b (.slice ad ws.length cap) pp] w fun e w' => ∃ v, e = .returned v ∧ AnsIs w w' v 0 1 [0] ∧ Keep [] w w' := by
  have H := Lib.hid h; clear h
  have HW := Lib.hid hws; clear hws
  unfold opV
  go_enter Tryz.func59, Tryz.ntmps59
  go_upto_region 1 with fail
  obtain ⟨w1, hw1⟩ : ∃ w1, w1 = (w.alloc (.cells #[.int .i64 10, .int .i64 s, .int .i64 c, .int .u64 a, .int .u64 b, .slice ad ws.length cap, .string pp] 35)).alloc (.cells #[.int .i64 0, .slice none 0 0, .string ⟨#[]⟩] 38) := ⟨_, rfl⟩
  obtain ⟨gb, hgb⟩ : ∃ gb, gb = w.heap.size := ⟨_, rfl⟩
  have K1 := Lib.hid (show Keep [] w w1 by rw [hw1]; exact ((Keep.refl [] w).alloc _).alloc _)
  have B1 : Hid (w1.heap[gb]? = some (.cells #[.int .i64 10, .int .i64 s, .int .i64 c, .int .u64 a, .int .u64 b, .slice ad ws.length cap, .string pp] 35 (0, 0))) := Lib.hid (by rw [hw1, hgb]; exact alloc_some _ (alloc_new _ _))
  have R1 : Hid (w1.heap[gb + 1]? = some (.cells #[.int .i64 0, .slice none 0 0, .string ⟨#[]⟩] 38 (0, 0))) := Lib.hid (by
    have := alloc_new (w.alloc (.cells #[.int .i64 10, .int .i64 s, .int .i64 c, .int .u64 a, .int .u64 b, .slice ad ws.length cap, .string pp] 35)) (.cells #[.int .i64 0, .slice none 0 0, .string ⟨#[]⟩] 38)
    rw [World.size_alloc] at this
    rw [hw1, hgb]
    exact this)
  have HS1 : Hid (gb + 1 < w1.heap.size) := Lib.hid (lt_of R1.out)
  have HGB := Lib.hid hgb
  rw [← hw1, ← hgb]
  clear hw1 hgb
  have g := fun i => cell_of B1.out i
  have g0 := g 0
  have g1 := g 1
  have g2 := g 2
  have g3 := g 3
  have g4 := g 4
  have g5 := g 5
  have g6 := g 6
  have q := fun i => cell_of R1.out i
  have q0 := q 0
  have q1 := q 1
  have q2 := q 2
  have qf := free_of R1.out
  clear g q
  simp at g0 g1 g2 g3 g4 g5 g6 q0 q1 q2
  have qn := World.new_ne _ _ q0
  go_wp2_with fail
  refine (nMisses (H.out.keep K1.out)).mono ?_
  rintro e w2 ⟨rfl, k⟩
  clear g0 g1 g2 g3 g4 g5 g6
  have K2 := Lib.hid (K1.out.trans k)
  have R2 := Lib.hid (k.old R1.out (by simp))
  clear q0 q1 q2 qf qn
  have q := fun i => cell_of R2.out i
  have q0 := q 0
  have q1 := q 1
  have q2 := q 2
  have qf := free_of R2.out
  clear q
  simp at q0 q1 q2
  have qn := World.new_ne _ _ q0
  clear k
  go_wp2_with fail
  refine (one _ _).mono ?_
  rintro e w3 ⟨v, rfl, g1, rfl, hg, hc, k⟩
  have HG1 := Lib.hid (Nat.lt_of_lt_of_le (lt_of R2.out) hg)
  have HC1 := Lib.hid hc
  clear hg hc
  have K3 := Lib.hid (K2.out.trans k)
  have R3 := Lib.hid (k.old R2.out (by simp))
  clear q0 q1 q2 qf qn
  have q := fun i => cell_of R3.out i
  have q0 := q 0
  have q1 := q 1
  have q2 := q 2
  have qf := free_of R3.out
  clear q
  simp at q0 q1 q2
  have qn := World.new_ne _ _ q0
  clear k
  go_wp2_with fail
  refine bodyPost_ret (v := .agg #[.int .i64 0, .slice (some ⟨g1, 0, none⟩) 1 1, .string ⟨#[]⟩]) ?_ rfl ?_
  · simp [results]
    go_simp
  have HX : w.heap.size ≤ gb + 1 := by have := HGB.out; omega
  have HK := K3.out.size
  refine ⟨_, rfl, ⟨_, _, rfl, ?_, ?_⟩, (((K3.out.set (.inr HX) 0 _).set (.inr HX) 1 _).set (.inr HX) 2 _)⟩
  · exact came1 (((((Keep.refl [gb + 1] _).set (.inl (by simp)) 0 _).set (.inl (by simp)) 1 _).set (.inl (by simp)) 2 _).cell HC1.out (by have := HG1.out; simp; omega))
  · intro b o e; cases e; have := HG1.out; have := HGB.out; omega

set_option maxRecDepth 100000 in
set_option maxHeartbeats 1000000 in
theorem look11 (h : Bare w p) (s c a b : Int) (ad : Option Addr) (cap : Nat) (ws : List Int) (pp : ByteArray) (hws : Came .u64 w ad ws.length ws) (hwl : ws.length ≤ 17592186043904) :
    Calls Tryz.prog 59 #[.pointer p, opV 11 s c a b (.slice ad ws.length cap) pp] w fun e w' => ∃ v, e = .returned v ∧ AnsIs w w' v 1 0 [] ∧ Keep [] w w' := by
  have H := Lib.hid h; clear h
  have HW := Lib.hid hws; clear hws
  unfold opV
  go_enter Tryz.func59, Tryz.ntmps59
  go_upto_region 1 with fail
  obtain ⟨w1, hw1⟩ : ∃ w1, w1 = (w.alloc (.cells #[.int .i64 11, .int .i64 s, .int .i64 c, .int .u64 a, .int .u64 b, .slice ad ws.length cap, .string pp] 35)).alloc (.cells #[.int .i64 0, .slice none 0 0, .string ⟨#[]⟩] 38) := ⟨_, rfl⟩
  obtain ⟨gb, hgb⟩ : ∃ gb, gb = w.heap.size := ⟨_, rfl⟩
  have K1 := Lib.hid (show Keep [] w w1 by rw [hw1]; exact ((Keep.refl [] w).alloc _).alloc _)
  have B1 : Hid (w1.heap[gb]? = some (.cells #[.int .i64 11, .int .i64 s, .int .i64 c, .int .u64 a, .int .u64 b, .slice ad ws.length cap, .string pp] 35 (0, 0))) := Lib.hid (by rw [hw1, hgb]; exact alloc_some _ (alloc_new _ _))
  have R1 : Hid (w1.heap[gb + 1]? = some (.cells #[.int .i64 0, .slice none 0 0, .string ⟨#[]⟩] 38 (0, 0))) := Lib.hid (by
    have := alloc_new (w.alloc (.cells #[.int .i64 11, .int .i64 s, .int .i64 c, .int .u64 a, .int .u64 b, .slice ad ws.length cap, .string pp] 35)) (.cells #[.int .i64 0, .slice none 0 0, .string ⟨#[]⟩] 38)
    rw [World.size_alloc] at this
    rw [hw1, hgb]
    exact this)
  have HS1 : Hid (gb + 1 < w1.heap.size) := Lib.hid (lt_of R1.out)
  have HGB := Lib.hid hgb
  rw [← hw1, ← hgb]
  clear hw1 hgb
  have g := fun i => cell_of B1.out i
  have g0 := g 0
  have g1 := g 1
  have g2 := g 2
  have g3 := g 3
  have g4 := g 4
  have g5 := g 5
  have g6 := g 6
  have q := fun i => cell_of R1.out i
  have q0 := q 0
  have q1 := q 1
  have q2 := q 2
  have qf := free_of R1.out
  clear g q
  simp at g0 g1 g2 g3 g4 g5 g6 q0 q1 q2
  have qn := World.new_ne _ _ q0
  go_wp2_with fail
  refine (nPeek s (H.out.keep K1.out)).mono ?_
  rintro e w2 ⟨rfl, k⟩
  clear g0 g1 g2 g3 g4 g5 g6
  have K2 := Lib.hid (K1.out.trans k)
  have R2 := Lib.hid (k.old R1.out (by simp))
  clear q0 q1 q2 qf qn
  have q := fun i => cell_of R2.out i
  have q0 := q 0
  have q1 := q 1
  have q2 := q 2
  have qf := free_of R2.out
  clear q
  simp at q0 q1 q2
  have qn := World.new_ne _ _ q0
  clear k
  go_wp2_with fail
  refine (num _ _).mono ?_
  rintro e w' ⟨rfl, rfl⟩
  go_wp2_with fail
  refine bodyPost_ret (v := .agg #[.int .i64 1, .slice none 0 0, .string ⟨#[]⟩]) ?_ rfl ?_
  · simp [results]
    go_simp
  have HX : w.heap.size ≤ gb + 1 := by have := HGB.out; omega
  have HK := K2.out.size
  refine ⟨_, rfl, ⟨_, _, rfl, ?_, ?_⟩, (((K2.out.set (.inr HX) 0 _).set (.inr HX) 1 _).set (.inr HX) 2 _)⟩
  · exact cameNil _ _
  · intro b o e; cases e

set_option maxRecDepth 100000 in
set_option maxHeartbeats 1000000 in
theorem look12 (h : Bare w p) (s c a b : Int) (ad : Option Addr) (cap : Nat) (ws : List Int) (pp : ByteArray) (hws : Came .u64 w ad ws.length ws) (hwl : ws.length ≤ 17592186043904) :
    Calls Tryz.prog 59 #[.pointer p, opV 12 s c a b (.slice ad ws.length cap) pp] w fun e w' => ∃ v, e = .returned v ∧ AnsIs w w' v 1 1 [0] ∧ Keep [] w w' := by
  have H := Lib.hid h; clear h
  have HW := Lib.hid hws; clear hws
  unfold opV
  go_enter Tryz.func59, Tryz.ntmps59
  go_upto_region 1 with fail
  obtain ⟨w1, hw1⟩ : ∃ w1, w1 = (w.alloc (.cells #[.int .i64 12, .int .i64 s, .int .i64 c, .int .u64 a, .int .u64 b, .slice ad ws.length cap, .string pp] 35)).alloc (.cells #[.int .i64 0, .slice none 0 0, .string ⟨#[]⟩] 38) := ⟨_, rfl⟩
  obtain ⟨gb, hgb⟩ : ∃ gb, gb = w.heap.size := ⟨_, rfl⟩
  have K1 := Lib.hid (show Keep [] w w1 by rw [hw1]; exact ((Keep.refl [] w).alloc _).alloc _)
  have B1 : Hid (w1.heap[gb]? = some (.cells #[.int .i64 12, .int .i64 s, .int .i64 c, .int .u64 a, .int .u64 b, .slice ad ws.length cap, .string pp] 35 (0, 0))) := Lib.hid (by rw [hw1, hgb]; exact alloc_some _ (alloc_new _ _))
  have R1 : Hid (w1.heap[gb + 1]? = some (.cells #[.int .i64 0, .slice none 0 0, .string ⟨#[]⟩] 38 (0, 0))) := Lib.hid (by
    have := alloc_new (w.alloc (.cells #[.int .i64 12, .int .i64 s, .int .i64 c, .int .u64 a, .int .u64 b, .slice ad ws.length cap, .string pp] 35)) (.cells #[.int .i64 0, .slice none 0 0, .string ⟨#[]⟩] 38)
    rw [World.size_alloc] at this
    rw [hw1, hgb]
    exact this)
  have HS1 : Hid (gb + 1 < w1.heap.size) := Lib.hid (lt_of R1.out)
  have HGB := Lib.hid hgb
  rw [← hw1, ← hgb]
  clear hw1 hgb
  have g := fun i => cell_of B1.out i
  have g0 := g 0
  have g1 := g 1
  have g2 := g 2
  have g3 := g 3
  have g4 := g 4
  have g5 := g 5
  have g6 := g 6
  have q := fun i => cell_of R1.out i
  have q0 := q 0
  have q1 := q 1
  have q2 := q 2
  have qf := free_of R1.out
  clear g q
  simp at g0 g1 g2 g3 g4 g5 g6 q0 q1 q2
  have qn := World.new_ne _ _ q0
  go_wp2_with fail
  refine (nTurn s (H.out.keep K1.out)).mono ?_
  rintro e w2 ⟨rfl, k⟩
  clear g0 g1 g2 g3 g4 g5 g6
  have K2 := Lib.hid (K1.out.trans k)
  have R2 := Lib.hid (k.old R1.out (by simp))
  clear q0 q1 q2 qf qn
  have q := fun i => cell_of R2.out i
  have q0 := q 0
  have q1 := q 1
  have q2 := q 2
  have qf := free_of R2.out
  clear q
  simp at q0 q1 q2
  have qn := World.new_ne _ _ q0
  clear k
  go_wp2_with fail
  refine (num _ _).mono ?_
  rintro e w' ⟨rfl, rfl⟩
  go_wp2_with fail
  refine (one _ _).mono ?_
  rintro e w3 ⟨v, rfl, g1, rfl, hg, hc, k⟩
  have HG1 := Lib.hid (Nat.lt_of_lt_of_le (lt_of R2.out) hg)
  have HC1 := Lib.hid hc
  clear hg hc
  have K3 := Lib.hid (K2.out.trans k)
  have R3 := Lib.hid (k.old R2.out (by simp))
  clear q0 q1 q2 qf qn
  have q := fun i => cell_of R3.out i
  have q0 := q 0
  have q1 := q 1
  have q2 := q 2
  have qf := free_of R3.out
  clear q
  simp at q0 q1 q2
  have qn := World.new_ne _ _ q0
  clear k
  go_wp2_with fail
  refine bodyPost_ret (v := .agg #[.int .i64 1, .slice (some ⟨g1, 0, none⟩) 1 1, .string ⟨#[]⟩]) ?_ rfl ?_
  · simp [results]
    go_simp
  have HX : w.heap.size ≤ gb + 1 := by have := HGB.out; omega
  have HK := K3.out.size
  refine ⟨_, rfl, ⟨_, _, rfl, ?_, ?_⟩, (((K3.out.set (.inr HX) 0 _).set (.inr HX) 1 _).set (.inr HX) 2 _)⟩
  · exact came1 (((((Keep.refl [gb + 1] _).set (.inl (by simp)) 0 _).set (.inl (by simp)) 1 _).set (.inl (by simp)) 2 _).cell HC1.out (by have := HG1.out; simp; omega))
  · intro b o e; cases e; have := HG1.out; have := HGB.out; omega

set_option maxRecDepth 100000 in
set_option maxHeartbeats 1000000 in
theorem look13 (h : Bare w p) (s c a b : Int) (ad : Option Addr) (cap : Nat) (ws : List Int) (pp : ByteArray) (hws : Came .u64 w ad ws.length ws) (hwl : ws.length ≤ 17592186043904) :
    Calls Tryz.prog 59 #[.pointer p, opV 13 s c a b (.slice ad ws.length cap) pp] w fun e w' => ∃ v, e = .returned v ∧ AnsIs w w' v 0 0 [] ∧ Keep [] w w' := by
  have H := Lib.hid h; clear h
  have HW := Lib.hid hws; clear hws
  unfold opV
  go_enter Tryz.func59, Tryz.ntmps59
  go_upto_region 1 with fail
  obtain ⟨w1, hw1⟩ : ∃ w1, w1 = (w.alloc (.cells #[.int .i64 13, .int .i64 s, .int .i64 c, .int .u64 a, .int .u64 b, .slice ad ws.length cap, .string pp] 35)).alloc (.cells #[.int .i64 0, .slice none 0 0, .string ⟨#[]⟩] 38) := ⟨_, rfl⟩
  obtain ⟨gb, hgb⟩ : ∃ gb, gb = w.heap.size := ⟨_, rfl⟩
  have K1 := Lib.hid (show Keep [] w w1 by rw [hw1]; exact ((Keep.refl [] w).alloc _).alloc _)
  have B1 : Hid (w1.heap[gb]? = some (.cells #[.int .i64 13, .int .i64 s, .int .i64 c, .int .u64 a, .int .u64 b, .slice ad ws.length cap, .string pp] 35 (0, 0))) := Lib.hid (by rw [hw1, hgb]; exact alloc_some _ (alloc_new _ _))
  have R1 : Hid (w1.heap[gb + 1]? = some (.cells #[.int .i64 0, .slice none 0 0, .string ⟨#[]⟩] 38 (0, 0))) := Lib.hid (by
    have := alloc_new (w.alloc (.cells #[.int .i64 13, .int .i64 s, .int .i64 c, .int .u64 a, .int .u64 b, .slice ad ws.length cap, .string pp] 35)) (.cells #[.int .i64 0, .slice none 0 0, .string ⟨#[]⟩] 38)
    rw [World.size_alloc] at this
    rw [hw1, hgb]
    exact this)
  have HS1 : Hid (gb + 1 < w1.heap.size) := Lib.hid (lt_of R1.out)
  have HGB := Lib.hid hgb
  rw [← hw1, ← hgb]
  clear hw1 hgb
  have g := fun i => cell_of B1.out i
  have g0 := g 0
  have g1 := g 1
  have g2 := g 2
  have g3 := g 3
  have g4 := g 4
  have g5 := g 5
  have g6 := g 6
  have q := fun i => cell_of R1.out i
  have q0 := q 0
  have q1 := q 1
  have q2 := q 2
  have qf := free_of R1.out
  clear g q
  simp at g0 g1 g2 g3 g4 g5 g6 q0 q1 q2
  have qn := World.new_ne _ _ q0
  go_wp2_with fail
  refine (nLive (H.out.keep K1.out)).mono ?_
  rintro e w2 ⟨rfl, k⟩
  clear g0 g1 g2 g3 g4 g5 g6
  have K2 := Lib.hid (K1.out.trans k)
  have R2 := Lib.hid (k.old R1.out (by simp))
  clear q0 q1 q2 qf qn
  have q := fun i => cell_of R2.out i
  have q0 := q 0
  have q1 := q 1
  have q2 := q 2
  have qf := free_of R2.out
  clear q
  simp at q0 q1 q2
  have qn := World.new_ne _ _ q0
  clear k
  go_wp2_with fail
  refine (intsNil _).mono ?_
  rintro e w' ⟨rfl, rfl⟩
  go_wp2_with fail
  refine bodyPost_ret (v := .agg #[.int .i64 0, .slice none 0 0, .string ⟨#[]⟩]) ?_ rfl ?_
  · simp [results]
    go_simp
  have HX : w.heap.size ≤ gb + 1 := by have := HGB.out; omega
  have HK := K2.out.size
  refine ⟨_, rfl, ⟨_, _, rfl, ?_, ?_⟩, (((K2.out.set (.inr HX) 0 _).set (.inr HX) 1 _).set (.inr HX) 2 _)⟩
  · exact cameNil _ _
  · intro b o e; cases e

set_option maxRecDepth 100000 in
set_option maxHeartbeats 1000000 in
theorem look14 (h : Bare w p) (s c a b : Int) (ad : Option Addr) (cap : Nat) (ws : List Int) (pp : ByteArray) (hws : Came .u64 w ad ws.length ws) (hwl : ws.length ≤ 17592186043904) :
    Calls Tryz.prog 59 #[.pointer p, opV 14 s c a b (.slice ad ws.length cap) pp] w fun e w' => ∃ v, e = .returned v ∧ AnsIs w w' v 0 2 [0, 0] ∧ Keep [] w w' := by
  have H := Lib.hid h; clear h
  have HW := Lib.hid hws; clear hws
  unfold opV
  go_enter Tryz.func59, Tryz.ntmps59
  go_upto_region 1 with fail
  obtain ⟨w1, hw1⟩ : ∃ w1, w1 = (w.alloc (.cells #[.int .i64 14, .int .i64 s, .int .i64 c, .int .u64 a, .int .u64 b, .slice ad ws.length cap, .string pp] 35)).alloc (.cells #[.int .i64 0, .slice none 0 0, .string ⟨#[]⟩] 38) := ⟨_, rfl⟩
  obtain ⟨gb, hgb⟩ : ∃ gb, gb = w.heap.size := ⟨_, rfl⟩
  have K1 := Lib.hid (show Keep [] w w1 by rw [hw1]; exact ((Keep.refl [] w).alloc _).alloc _)
  have B1 : Hid (w1.heap[gb]? = some (.cells #[.int .i64 14, .int .i64 s, .int .i64 c, .int .u64 a, .int .u64 b, .slice ad ws.length cap, .string pp] 35 (0, 0))) := Lib.hid (by rw [hw1, hgb]; exact alloc_some _ (alloc_new _ _))
  have R1 : Hid (w1.heap[gb + 1]? = some (.cells #[.int .i64 0, .slice none 0 0, .string ⟨#[]⟩] 38 (0, 0))) := Lib.hid (by
    have := alloc_new (w.alloc (.cells #[.int .i64 14, .int .i64 s, .int .i64 c, .int .u64 a, .int .u64 b, .slice ad ws.length cap, .string pp] 35)) (.cells #[.int .i64 0, .slice none 0 0, .string ⟨#[]⟩] 38)
    rw [World.size_alloc] at this
    rw [hw1, hgb]
    exact this)
  have HS1 : Hid (gb + 1 < w1.heap.size) := Lib.hid (lt_of R1.out)
  have HGB := Lib.hid hgb
  rw [← hw1, ← hgb]
  clear hw1 hgb
  have g := fun i => cell_of B1.out i
  have g0 := g 0
  have g1 := g 1
  have g2 := g 2
  have g3 := g 3
  have g4 := g 4
  have g5 := g 5
  have g6 := g 6
  have q := fun i => cell_of R1.out i
  have q0 := q 0
  have q1 := q 1
  have q2 := q 2
  have qf := free_of R1.out
  clear g q
  simp at g0 g1 g2 g3 g4 g5 g6 q0 q1 q2
  have qn := World.new_ne _ _ q0
  go_wp2_with fail
  refine (nShape (H.out.keep K1.out)).mono ?_
  rintro e w2 ⟨rfl, k⟩
  clear g0 g1 g2 g3 g4 g5 g6
  have K2 := Lib.hid (K1.out.trans k)
  have R2 := Lib.hid (k.old R1.out (by simp))
  clear q0 q1 q2 qf qn
  have q := fun i => cell_of R2.out i
  have q0 := q 0
  have q1 := q 1
  have q2 := q 2
  have qf := free_of R2.out
  clear q
  simp at q0 q1 q2
  have qn := World.new_ne _ _ q0
  have qa := fun o => cell_of (alloc_some o R2.out)
  have qa0 := fun o => qa o 0
  have qa1 := fun o => qa o 1
  have qa2 := fun o => qa o 2
  have qaf := fun o => free_of (alloc_some o R2.out)
  clear qa
  simp at qa0 qa1 qa2
  clear k
  go_wp2_with fail
  refine bodyPost_ret (v := .agg #[.int .i64 0, .slice (some ⟨w2.heap.size, 0, none⟩) 2 2, .string ⟨#[]⟩]) ?_ rfl ?_
  · simp [results]
    go_simp
  have HX : w.heap.size ≤ gb + 1 := by have := HGB.out; omega
  have HK := K2.out.size
  refine ⟨_, rfl, ⟨_, _, rfl, ?_, ?_⟩, ((((K2.out.alloc _).set (.inr HX) 0 _).set (.inr HX) 1 _).set (.inr HX) 2 _)⟩
  · have hn := lt_of R2.out
    exact came2 (((((Keep.refl [gb + 1] _).set (.inl (by simp)) 0 _).set (.inl (by simp)) 1 _).set (.inl (by simp)) 2 _).cell (by rw [cell_of (alloc_new _ _)]; rfl) (by simp; omega)) (((((Keep.refl [gb + 1] _).set (.inl (by simp)) 0 _).set (.inl (by simp)) 1 _).set (.inl (by simp)) 2 _).cell (by rw [cell_of (alloc_new _ _)]; rfl) (by simp; omega))
  · intro b o e; cases e; omega

set_option maxRecDepth 100000 in
set_option maxHeartbeats 1000000 in
theorem lookk (h : Bare w p) (k : Int) (s c a b : Int) (ad : Option Addr) (cap : Nat) (ws : List Int) (pp : ByteArray) (hws : Came .u64 w ad ws.length ws) (hwl : ws.length ≤ 17592186043904) (k9 : ¬ k = 9) (k10 : ¬ k = 10) (k11 : ¬ k = 11) (k12 : ¬ k = 12) (k13 : ¬ k = 13) (k14 : ¬ k = 14) :
    Calls Tryz.prog 59 #[.pointer p, opV k s c a b (.slice ad ws.length cap) pp] w fun e w' => ∃ v, e = .returned v ∧ AnsIs w w' v 0 0 [] ∧ Keep [] w w' := by
  have H := Lib.hid h; clear h
  have HW := Lib.hid hws; clear hws
  unfold opV
  go_enter Tryz.func59, Tryz.ntmps59
  go_upto_region 1 with fail
  obtain ⟨w1, hw1⟩ : ∃ w1, w1 = (w.alloc (.cells #[.int .i64 k, .int .i64 s, .int .i64 c, .int .u64 a, .int .u64 b, .slice ad ws.length cap, .string pp] 35)).alloc (.cells #[.int .i64 0, .slice none 0 0, .string ⟨#[]⟩] 38) := ⟨_, rfl⟩
  obtain ⟨gb, hgb⟩ : ∃ gb, gb = w.heap.size := ⟨_, rfl⟩
  have K1 := Lib.hid (show Keep [] w w1 by rw [hw1]; exact ((Keep.refl [] w).alloc _).alloc _)
  have B1 : Hid (w1.heap[gb]? = some (.cells #[.int .i64 k, .int .i64 s, .int .i64 c, .int .u64 a, .int .u64 b, .slice ad ws.length cap, .string pp] 35 (0, 0))) := Lib.hid (by rw [hw1, hgb]; exact alloc_some _ (alloc_new _ _))
  have R1 : Hid (w1.heap[gb + 1]? = some (.cells #[.int .i64 0, .slice none 0 0, .string ⟨#[]⟩] 38 (0, 0))) := Lib.hid (by
    have := alloc_new (w.alloc (.cells #[.int .i64 k, .int .i64 s, .int .i64 c, .int .u64 a, .int .u64 b, .slice ad ws.length cap, .string pp] 35)) (.cells #[.int .i64 0, .slice none 0 0, .string ⟨#[]⟩] 38)
    rw [World.size_alloc] at this
    rw [hw1, hgb]
    exact this)
  have HS1 : Hid (gb + 1 < w1.heap.size) := Lib.hid (lt_of R1.out)
  have HGB := Lib.hid hgb
  rw [← hw1, ← hgb]
  clear hw1 hgb
  have g := fun i => cell_of B1.out i
  have g0 := g 0
  have g1 := g 1
  have g2 := g 2
  have g3 := g 3
  have g4 := g 4
  have g5 := g 5
  have g6 := g 6
  have q := fun i => cell_of R1.out i
  have q0 := q 0
  have q1 := q 1
  have q2 := q 2
  have qf := free_of R1.out
  clear g q
  simp at g0 g1 g2 g3 g4 g5 g6 q0 q1 q2
  have qn := World.new_ne _ _ q0
  go_wp2_with fail
  refine bodyPost_ret (v := .agg #[.int .i64 0, .slice none 0 0, .string ⟨#[]⟩]) ?_ rfl ?_
  · simp [results]
    go_simp
  have HX : w.heap.size ≤ gb + 1 := by have := HGB.out; omega
  have HK := K1.out.size
  refine ⟨_, rfl, ⟨_, _, rfl, ?_, ?_⟩, (((K1.out.set (.inr HX) 0 _).set (.inr HX) 1 _).set (.inr HX) 2 _)⟩
  · exact cameNil _ _
  · intro b o e; cases e
end Go.Proofs.YtmdboahjikngeaaGreat.Nil
