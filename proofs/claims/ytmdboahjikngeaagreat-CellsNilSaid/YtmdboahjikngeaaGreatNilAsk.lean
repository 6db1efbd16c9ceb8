/- CellsNil: printed by cellnils.py. -/
import Derived.Test.YtmdboahjikngeaaGreatNilLook
import Derived.Deep.DeepCutAuto
import Derived.BigQuiet
namespace Go.Proofs.YtmdboahjikngeaaGreat.Nil
open Go.RowKit Go.Proofs.YtmdboahjikngeaaGreat.Mem Go.Proofs.YtmdboahjikngeaaGreat.Ar Go.Proofs.YtmdboahjikngeaaGreat.As
set_option linter.unusedVariables false
variable {w : World} {p : Option Addr}

set_option maxRecDepth 100000 in
set_option maxHeartbeats 1000000 in
theorem ask2 (h : Bare w p) (s c a b : Int) (ad : Option Addr) (cap : Nat) (ws : List Int) (pp : ByteArray) (hws : Came .u64 w ad ws.length ws) (hwl : ws.length ≤ 17592186043904) :
    Calls Tryz.prog 21 #[.pointer p, opV 2 s c a b (.slice ad ws.length cap) pp] w fun e w' => ∃ v, e = .returned v ∧ AnsIs w w' v 1 0 [] ∧ Keep [] w w' := by
  have H := Lib.hid h; clear h
  have HW := Lib.hid hws; clear hws
  unfold opV
  go_enter Tryz.func21, Tryz.ntmps21
  go_upto_region 1 with fail
  obtain ⟨w1, hw1⟩ : ∃ w1, w1 = (w.alloc (.cells #[.int .i64 2, .int .i64 s, .int .i64 c, .int .u64 a, .int .u64 b, .slice ad ws.length cap, .string pp] 35)).alloc (.cells #[.int .i64 0, .slice none 0 0, .string ⟨#[]⟩] 38) := ⟨_, rfl⟩
  obtain ⟨gb, hgb⟩ : ∃ gb, gb = w.heap.size := ⟨_, rfl⟩
  have K1 := Lib.hid (show Keep [] w w1 by rw [hw1]; exact ((Keep.refl [] w).alloc _).alloc _)
  have B1 : Hid (w1.heap[gb]? = some (.cells #[.int .i64 2, .int .i64 s, .int .i64 c, .int .u64 a, .int .u64 b, .slice ad ws.length cap, .string pp] 35 (0, 0))) := Lib.hid (by rw [hw1, hgb]; exact alloc_some _ (alloc_new _ _))
  have R1 : Hid (w1.heap[gb + 1]? = some (.cells #[.int .i64 0, .slice none 0 0, .string ⟨#[]⟩] 38 (0, 0))) := Lib.hid (by
    have := alloc_new (w.alloc (.cells #[.int .i64 2, .int .i64 s, .int .i64 c, .int .u64 a, .int .u64 b, .slice ad ws.length cap, .string pp] 35)) (.cells #[.int .i64 0, .slice none 0 0, .string ⟨#[]⟩] 38)
    rw [World.size_alloc] at this
    rw [hw1, hgb]
    exact this)
  have HS1 : Hid (gb + 1 < w1.heap.size) := Lib.hid (lt_of R1.out)
  have HGB := Lib.hid hgb
  rw [← hw1, ← hgb]
  clear hw1 hgb
  have g := fun i => cell_of B1.out i
  have g0 := g 0
  have g1 := g 1
  have g2 := g 2
  have g3 := g 3
  have g4 := g 4
  have g5 := g 5
  have g6 := g 6
  have q := fun i => cell_of R1.out i
  have q0 := q 0
  have q1 := q 1
  have q2 := q 2
  have qf := free_of R1.out
  clear g q
  simp at g0 g1 g2 g3 g4 g5 g6 q0 q1 q2
  have qn := World.new_ne _ _ q0
  go_wp2_with fail
  refine (nFree s (H.out.keep K1.out)).mono ?_
  rintro e w2 ⟨rfl, k⟩
  clear g0 g1 g2 g3 g4 g5 g6
  have K2 := Lib.hid (K1.out.trans k)
  have R2 := Lib.hid (k.old R1.out (by simp))
  clear q0 q1 q2 qf qn
  have q := fun i => cell_of R2.out i
  have q0 := q 0
  have q1 := q 1
  have q2 := q 2
  have qf := free_of R2.out
  clear q
  simp at q0 q1 q2
  have qn := World.new_ne _ _ q0
  clear k
  go_wp2_with fail
  refine (num _ _).mono ?_
  rintro e w' ⟨rfl, rfl⟩
  go_wp2_with fail
  refine bodyPost_ret (v := .agg #[.int .i64 1, .slice none 0 0, .string ⟨#[]⟩]) ?_ rfl ?_
  · simp [results]
    go_simp
  have HX : w.heap.size ≤ gb + 1 := by have := HGB.out; omega
  have HK := K2.out.size
  refine ⟨_, rfl, ⟨_, _, rfl, ?_, ?_⟩, (((K2.out.set (.inr HX) 0 _).set (.inr HX) 1 _).set (.inr HX) 2 _)⟩
  · exact cameNil _ _
  · intro b o e; cases e

set_option maxRecDepth 100000 in
set_option maxHeartbeats 1000000 in
theorem ask3 (h : Bare w p) (s c a b : Int) (ad : Option Addr) (cap : Nat) (ws : List Int) (pp : ByteArray) (hws : Came .u64 w ad ws.length ws) (hwl : ws.length ≤ 17592186043904) :
    Calls Tryz.prog 21 #[.pointer p, opV 3 s c a b (.slice ad ws.length cap) pp] w fun e w' => ∃ v, e = .returned v ∧ AnsIs w w' v 1 0 [] ∧ Keep [] w w' := by
  have H := Lib.hid h; clear h
  have HW := Lib.hid hws; clear hws
  unfold opV
  go_enter Tryz.func21, Tryz.ntmps21
  go_upto_region 1 with fail
  obtain ⟨w1, hw1⟩ : ∃ w1, w1 = (w.alloc (.cells #[.int .i64 3, .int .i64 s, .int .i64 c, .int .u64 a, .int .u64 b, .slice ad ws.length cap, .string pp] 35)).alloc (.cells #[.int .i64 0, .slice none 0 0, .string ⟨#[]⟩] 38) := ⟨_, rfl⟩
  obtain ⟨gb, hgb⟩ : ∃ gb, gb = w.heap.size := ⟨_, rfl⟩
  have K1 := Lib.hid (show Keep [] w w1 by rw [hw1]; exact ((Keep.refl [] w).alloc _).alloc _)
  have B1 : Hid (w1.heap[gb]? = some (.cells #[.int .i64 3, .int .i64 s, .int .i64 c, .int .u64 a, .int .u64 b, .slice ad ws.length cap, .string pp] 35 (0, 0))) := Lib.hid (by rw [hw1, hgb]; exact alloc_some _ (alloc_new _ _))
  have R1 : Hid (w1.heap[gb + 1]? = some (.cells #[.int .i64 0, .slice none 0 0, .string ⟨#[]⟩] 38 (0, 0))) := Lib.hid (by
    have := alloc_new (w.alloc (.cells #[.int .i64 3, .int .i64 s, .int .i64 c, .int .u64 a, .int .u64 b, .slice ad ws.length cap, .string pp] 35)) (.cells #[.int .i64 0, .slice none 0 0, .string ⟨#[]⟩] 38)
    rw [World.size_alloc] at this
    rw [hw1, hgb]
    exact this)
  have HS1 : Hid (gb + 1 < w1.heap.size) := Lib.hid (lt_of R1.out)
  have HGB := Lib.hid hgb
  rw [← hw1, ← hgb]
  clear hw1 hgb
  have g := fun i => cell_of B1.out i
  have g0 := g 0
  have g1 := g 1
  have g2 := g 2
  have g3 := g 3
  have g4 := g 4
  have g5 := g 5
  have g6 := g 6
  have q := fun i => cell_of R1.out i
  have q0 := q 0
  have q1 := q 1
  have q2 := q 2
  have qf := free_of R1.out
  clear g q
  simp at g0 g1 g2 g3 g4 g5 g6 q0 q1 q2
  have qn := World.new_ne _ _ q0
  go_wp2_with fail
  refine (nPayload s (H.out.keep K1.out)).mono ?_
  rintro e w2 ⟨rfl, k⟩
  clear g0 g1 g2 g3 g4 g5 g6
  have K2 := Lib.hid (K1.out.trans k)
  have R2 := Lib.hid (k.old R1.out (by simp))
  clear q0 q1 q2 qf qn
  have q := fun i => cell_of R2.out i
  have q0 := q 0
  have q1 := q 1
  have q2 := q 2
  have qf := free_of R2.out
  clear q
  simp at q0 q1 q2
  have qn := World.new_ne _ _ q0
  clear k
  go_wp2_with fail
  refine (num _ _).mono ?_
  rintro e w' ⟨rfl, rfl⟩
  go_wp2_with fail
  refine bodyPost_ret (v := .agg #[.int .i64 1, .slice none 0 0, .string ⟨#[]⟩]) ?_ rfl ?_
  · simp [results]
    go_simp
  have HX : w.heap.size ≤ gb + 1 := by have := HGB.out; omega
  have HK := K2.out.size
  refine ⟨_, rfl, ⟨_, _, rfl, ?_, ?_⟩, (((K2.out.set (.inr HX) 0 _).set (.inr HX) 1 _).set (.inr HX) 2 _)⟩
  · exact cameNil _ _
  · intro b o e; cases e

set_option maxRecDepth 100000 in
set_option maxHeartbeats 1000000 in
theorem ask4 (h : Bare w p) (s c a b : Int) (ad : Option Addr) (cap : Nat) (ws : List Int) (pp : ByteArray) (hws : Came .u64 w ad ws.length ws) (hwl : ws.length ≤ 17592186043904) :
    Calls Tryz.prog 21 #[.pointer p, opV 4 s c a b (.slice ad ws.length cap) pp] w fun e w' => ∃ v, e = .returned v ∧ AnsIs w w' v 1 1 [0] ∧ Keep [] w w' := by
  have H := Lib.hid h; clear h
  have HW := Lib.hid hws; clear hws
  unfold opV
  go_enter Tryz.func21, Tryz.ntmps21
  go_upto_region 1 with fail
  obtain ⟨w1, hw1⟩ : ∃ w1, w1 = (w.alloc (.cells #[.int .i64 4, .int .i64 s, .int .i64 c, .int .u64 a, .int .u64 b, .slice ad ws.length cap, .string pp] 35)).alloc (.cells #[.int .i64 0, .slice none 0 0, .string ⟨#[]⟩] 38) := ⟨_, rfl⟩
  obtain ⟨gb, hgb⟩ : ∃ gb, gb = w.heap.size := ⟨_, rfl⟩
  have K1 := Lib.hid (show Keep [] w w1 by rw [hw1]; exact ((Keep.refl [] w).alloc _).alloc _)
  have B1 : Hid (w1.heap[gb]? = some (.cells #[.int .i64 4, .int .i64 s, .int .i64 c, .int .u64 a, .int .u64 b, .slice ad ws.length cap, .string pp] 35 (0, 0))) := Lib.hid (by rw [hw1, hgb]; exact alloc_some _ (alloc_new _ _))
  have R1 : Hid (w1.heap[gb + 1]? = some (.cells #[.int .i64 0, .slice none 0 0, .string ⟨#[]⟩] 38 (0, 0))) := Lib.hid (by
    have := alloc_new (w.alloc (.cells #[.int .i64 4, .int .i64 s, .int .i64 c, .int .u64 a, .int .u64 b, .slice ad ws.length cap, .string pp] 35)) (.cells #[.int .i64 0, .slice none 0 0, .string ⟨#[]⟩] 38)
    rw [World.size_alloc] at this
    rw [hw1, hgb]
    exact this)
  have HS1 : Hid (gb + 1 < w1.heap.size) := Lib.hid (lt_of R1.out)
  have HGB := Lib.hid hgb
  rw [← hw1, ← hgb]
  clear hw1 hgb
  have g := fun i => cell_of B1.out i
  have g0 := g 0
  have g1 := g 1
  have g2 := g 2
  have g3 := g 3
  have g4 := g 4
  have g5 := g 5
  have g6 := g 6
  have q := fun i => cell_of R1.out i
  have q0 := q 0
  have q1 := q 1
  have q2 := q 2
  have qf := free_of R1.out
  clear g q
  simp at g0 g1 g2 g3 g4 g5 g6 q0 q1 q2
  have qn := World.new_ne _ _ q0
  go_wp2_with fail
  refine (nLoad s c (H.out.keep K1.out)).mono ?_
  rintro e w2 ⟨rfl, k⟩
  clear g0 g1 g2 g3 g4 g5 g6
  have K2 := Lib.hid (K1.out.trans k)
  have R2 := Lib.hid (k.old R1.out (by simp))
  clear q0 q1 q2 qf qn
  have q := fun i => cell_of R2.out i
  have q0 := q 0
  have q1 := q 1
  have q2 := q 2
  have qf := free_of R2.out
  clear q
  simp at q0 q1 q2
  have qn := World.new_ne _ _ q0
  clear k
  go_wp2_with fail
  refine (num _ _).mono ?_
  rintro e w' ⟨rfl, rfl⟩
  go_wp2_with fail
  refine (one _ _).mono ?_
  rintro e w3 ⟨v, rfl, g1, rfl, hg, hc, k⟩
  have HG1 := Lib.hid (Nat.lt_of_lt_of_le (lt_of R2.out) hg)
  have HC1 := Lib.hid hc
  clear hg hc
  have K3 := Lib.hid (K2.out.trans k)
  have R3 := Lib.hid (k.old R2.out (by simp))
  clear q0 q1 q2 qf qn
  have q := fun i => cell_of R3.out i
  have q0 := q 0
  have q1 := q 1
  have q2 := q 2
  have qf := free_of R3.out
  clear q
  simp at q0 q1 q2
  have qn := World.new_ne _ _ q0
  clear k
  go_wp2_with fail
  refine bodyPost_ret (v := .agg #[.int .i64 1, .slice (some ⟨g1, 0, none⟩) 1 1, .string ⟨#[]⟩]) ?_ rfl ?_
  · simp [results]
    go_simp
  have HX : w.heap.size ≤ gb + 1 := by have := HGB.out; omega
  have HK := K3.out.size
  refine ⟨_, rfl, ⟨_, _, rfl, ?_, ?_⟩, (((K3.out.set (.inr HX) 0 _).set (.inr HX) 1 _).set (.inr HX) 2 _)⟩
  · exact came1 (((((Keep.refl [gb + 1] _).set (.inl (by simp)) 0 _).set (.inl (by simp)) 1 _).set (.inl (by simp)) 2 _).cell HC1.out (by have := HG1.out; simp; omega))
  · intro b o e; cases e; have := HG1.out; have := HGB.out; omega

set_option maxRecDepth 100000 in
set_option maxHeartbeats 1000000 in
theorem ask5 (h : Bare w p) (s c a b : Int) (ad : Option Addr) (cap : Nat) (ws : List Int) (pp : ByteArray) (hws : Came .u64 w ad ws.length ws) (hwl : ws.length ≤ 17592186043904) :
    Calls Tryz.prog 21 #[.pointer p, opV 5 s c a b (.slice ad ws.length cap) pp] w fun e w' => ∃ v, e = .returned v ∧ AnsIs w w' v 1 0 [] ∧ Keep [] w w' := by
  have H := Lib.hid h; clear h
  have HW := Lib.hid hws; clear hws
  unfold opV
  go_enter Tryz.func21, Tryz.ntmps21
  go_upto_region 1 with fail
  obtain ⟨w1, hw1⟩ : ∃ w1, w1 = (w.alloc (.cells #[.int .i64 5, .int .i64 s, .int .i64 c, .int .u64 a, .int .u64 b, .slice ad ws.length cap, .string pp] 35)).alloc (.cells #[.int .i64 0, .slice none 0 0, .string ⟨#[]⟩] 38) := ⟨_, rfl⟩
  obtain ⟨gb, hgb⟩ : ∃ gb, gb = w.heap.size := ⟨_, rfl⟩
  have K1 := Lib.hid (show Keep [] w w1 by rw [hw1]; exact ((Keep.refl [] w).alloc _).alloc _)
  have B1 : Hid (w1.heap[gb]? = some (.cells #[.int .i64 5, .int .i64 s, .int .i64 c, .int .u64 a, .int .u64 b, .slice ad ws.length cap, .string pp] 35 (0, 0))) := Lib.hid (by rw [hw1, hgb]; exact alloc_some _ (alloc_new _ _))
  have R1 : Hid (w1.heap[gb + 1]? = some (.cells #[.int .i64 0, .slice none 0 0, .string ⟨#[]⟩] 38 (0, 0))) := Lib.hid (by
    have := alloc_new (w.alloc (.cells #[.int .i64 5, .int .i64 s, .int .i64 c, .int .u64 a, .int .u64 b, .slice ad ws.length cap, .string pp] 35)) (.cells #[.int .i64 0, .slice none 0 0, .string ⟨#[]⟩] 38)
    rw [World.size_alloc] at this
    rw [hw1, hgb]
    exact this)
  have HS1 : Hid (gb + 1 < w1.heap.size) := Lib.hid (lt_of R1.out)
  have HGB := Lib.hid hgb
  rw [← hw1, ← hgb]
  clear hw1 hgb
  have g := fun i => cell_of B1.out i
  have g0 := g 0
  have g1 := g 1
  have g2 := g 2
  have g3 := g 3
  have g4 := g 4
  have g5 := g 5
  have g6 := g 6
  have q := fun i => cell_of R1.out i
  have q0 := q 0
  have q1 := q 1
  have q2 := q 2
  have qf := free_of R1.out
  clear g q
  simp at g0 g1 g2 g3 g4 g5 g6 q0 q1 q2
  have qn := World.new_ne _ _ q0
  go_wp2_with fail
  refine (nStore s c a (H.out.keep K1.out)).mono ?_
  rintro e w2 ⟨rfl, k⟩
  clear g0 g1 g2 g3 g4 g5 g6
  have K2 := Lib.hid (K1.out.trans k)
  have R2 := Lib.hid (k.old R1.out (by simp))
  clear q0 q1 q2 qf qn
  have q := fun i => cell_of R2.out i
  have q0 := q 0
  have q1 := q 1
  have q2 := q 2
  have qf := free_of R2.out
  clear q
  simp at q0 q1 q2
  have qn := World.new_ne _ _ q0
  clear k
  go_wp2_with fail
  refine (num _ _).mono ?_
  rintro e w' ⟨rfl, rfl⟩
  go_wp2_with fail
  refine bodyPost_ret (v := .agg #[.int .i64 1, .slice none 0 0, .string ⟨#[]⟩]) ?_ rfl ?_
  · simp [results]
    go_simp
  have HX : w.heap.size ≤ gb + 1 := by have := HGB.out; omega
  have HK := K2.out.size
  refine ⟨_, rfl, ⟨_, _, rfl, ?_, ?_⟩, (((K2.out.set (.inr HX) 0 _).set (.inr HX) 1 _).set (.inr HX) 2 _)⟩
  · exact cameNil _ _
  · intro b o e; cases e

set_option maxRecDepth 100000 in
set_option maxHeartbeats 1000000 in
theorem ask6 (h : Bare w p) (s c a b : Int) (ad : Option Addr) (cap : Nat) (ws : List Int) (pp : ByteArray) (hws : Came .u64 w ad ws.length ws) (hwl : ws.length ≤ 17592186043904) :
    Calls Tryz.prog 21 #[.pointer p, opV 6 s c a b (.slice ad ws.length cap) pp] w fun e w' => ∃ v, e = .returned v ∧ AnsIs w w' v 1 1 [0] ∧ Keep [] w w' := by
  have H := Lib.hid h; clear h
  have HW := Lib.hid hws; clear hws
  unfold opV
  go_enter Tryz.func21, Tryz.ntmps21
  go_upto_region 1 with fail
  obtain ⟨w1, hw1⟩ : ∃ w1, w1 = (w.alloc (.cells #[.int .i64 6, .int .i64 s, .int .i64 c, .int .u64 a, .int .u64 b, .slice ad ws.length cap, .string pp] 35)).alloc (.cells #[.int .i64 0, .slice none 0 0, .string ⟨#[]⟩] 38) := ⟨_, rfl⟩
  obtain ⟨gb, hgb⟩ : ∃ gb, gb = w.heap.size := ⟨_, rfl⟩
  have K1 := Lib.hid (show Keep [] w w1 by rw [hw1]; exact ((Keep.refl [] w).alloc _).alloc _)
  have B1 : Hid (w1.heap[gb]? = some (.cells #[.int .i64 6, .int .i64 s, .int .i64 c, .int .u64 a, .int .u64 b, .slice ad ws.length cap, .string pp] 35 (0, 0))) := Lib.hid (by rw [hw1, hgb]; exact alloc_some _ (alloc_new _ _))
  have R1 : Hid (w1.heap[gb + 1]? = some (.cells #[.int .i64 0, .slice none 0 0, .string ⟨#[]⟩] 38 (0, 0))) := Lib.hid (by
    have := alloc_new (w.alloc (.cells #[.int .i64 6, .int .i64 s, .int .i64 c, .int .u64 a, .int .u64 b, .slice ad ws.length cap, .string pp] 35)) (.cells #[.int .i64 0, .slice none 0 0, .string ⟨#[]⟩] 38)
    rw [World.size_alloc] at this
    rw [hw1, hgb]
    exact this)
  have HS1 : Hid (gb + 1 < w1.heap.size) := Lib.hid (lt_of R1.out)
  have HGB := Lib.hid hgb
  rw [← hw1, ← hgb]
  clear hw1 hgb
  have g := fun i => cell_of B1.out i
  have g0 := g 0
  have g1 := g 1
  have g2 := g 2
  have g3 := g 3
  have g4 := g 4
  have g5 := g 5
  have g6 := g 6
  have q := fun i => cell_of R1.out i
  have q0 := q 0
  have q1 := q 1
  have q2 := q 2
  have qf := free_of R1.out
  clear g q
  simp at g0 g1 g2 g3 g4 g5 g6 q0 q1 q2
  have qn := World.new_ne _ _ q0
  go_wp2_with fail
  refine (nCAS s c a b (H.out.keep K1.out)).mono ?_
  rintro e w2 ⟨rfl, k⟩
  clear g0 g1 g2 g3 g4 g5 g6
  have K2 := Lib.hid (K1.out.trans k)
  have R2 := Lib.hid (k.old R1.out (by simp))
  clear q0 q1 q2 qf qn
  have q := fun i => cell_of R2.out i
  have q0 := q 0
  have q1 := q 1
  have q2 := q 2
  have qf := free_of R2.out
  clear q
  simp at q0 q1 q2
  have qn := World.new_ne _ _ q0
  clear k
  go_wp2_with fail
  refine (num _ _).mono ?_
  rintro e w' ⟨rfl, rfl⟩
  go_wp2_with fail
  refine (bitF _).mono ?_
  rintro e w3 ⟨v, rfl, g1, rfl, hg, hc, k⟩
  have HG1 := Lib.hid (Nat.lt_of_lt_of_le (lt_of R2.out) hg)
  have HC1 := Lib.hid hc
  clear hg hc
  have K3 := Lib.hid (K2.out.trans k)
  have R3 := Lib.hid (k.old R2.out (by simp))
  clear q0 q1 q2 qf qn
  have q := fun i => cell_of R3.out i
  have q0 := q 0
  have q1 := q 1
  have q2 := q 2
  have qf := free_of R3.out
  clear q
  simp at q0 q1 q2
  have qn := World.new_ne _ _ q0
  clear k
  go_wp2_with fail
  refine bodyPost_ret (v := .agg #[.int .i64 1, .slice (some ⟨g1, 0, none⟩) 1 1, .string ⟨#[]⟩]) ?_ rfl ?_
  · simp [results]
    go_simp
  have HX : w.heap.size ≤ gb + 1 := by have := HGB.out; omega
  have HK := K3.out.size
  refine ⟨_, rfl, ⟨_, _, rfl, ?_, ?_⟩, (((K3.out.set (.inr HX) 0 _).set (.inr HX) 1 _).set (.inr HX) 2 _)⟩
  · exact came1 (((((Keep.refl [gb + 1] _).set (.inl (by simp)) 0 _).set (.inl (by simp)) 1 _).set (.inl (by simp)) 2 _).cell HC1.out (by have := HG1.out; simp; omega))
  · intro b o e; cases e; have := HG1.out; have := HGB.out; omega

set_option maxRecDepth 100000 in
set_option maxHeartbeats 1000000 in
theorem ask7 (h : Bare w p) (s c a b : Int) (ad : Option Addr) (cap : Nat) (ws : List Int) (pp : ByteArray) (hws : Came .u64 w ad ws.length ws) (hwl : ws.length ≤ 17592186043904) :
    Calls Tryz.prog 21 #[.pointer p, opV 7 s c a b (.slice ad ws.length cap) pp] w fun e w' => ∃ v, e = .returned v ∧ AnsIs w w' v 1 1 [0] ∧ Keep [] w w' := by
  have H := Lib.hid h; clear h
  have HW := Lib.hid hws; clear hws
  unfold opV
  go_enter Tryz.func21, Tryz.ntmps21
  go_upto_region 1 with fail
  obtain ⟨w1, hw1⟩ : ∃ w1, w1 = (w.alloc (.cells #[.int .i64 7, .int .i64 s, .int .i64 c, .int .u64 a, .int .u64 b, .slice ad ws.length cap, .string pp] 35)).alloc (.cells #[.int .i64 0, .slice none 0 0, .string ⟨#[]⟩] 38) := ⟨_, rfl⟩
  obtain ⟨gb, hgb⟩ : ∃ gb, gb = w.heap.size := ⟨_, rfl⟩
  have K1 := Lib.hid (show Keep [] w w1 by rw [hw1]; exact ((Keep.refl [] w).alloc _).alloc _)
  have B1 : Hid (w1.heap[gb]? = some (.cells #[.int .i64 7, .int .i64 s, .int .i64 c, .int .u64 a, .int .u64 b, .slice ad ws.length cap, .string pp] 35 (0, 0))) := Lib.hid (by rw [hw1, hgb]; exact alloc_some _ (alloc_new _ _))
  have R1 : Hid (w1.heap[gb + 1]? = some (.cells #[.int .i64 0, .slice none 0 0, .string ⟨#[]⟩] 38 (0, 0))) := Lib.hid (by
    have := alloc_new (w.alloc (.cells #[.int .i64 7, .int .i64 s, .int .i64 c, .int .u64 a, .int .u64 b, .slice ad ws.length cap, .string pp] 35)) (.cells #[.int .i64 0, .slice none 0 0, .string ⟨#[]⟩] 38)
    rw [World.size_alloc] at this
    rw [hw1, hgb]
    exact this)
  have HS1 : Hid (gb + 1 < w1.heap.size) := Lib.hid (lt_of R1.out)
  have HGB := Lib.hid hgb
  rw [← hw1, ← hgb]
  clear hw1 hgb
  have g := fun i => cell_of B1.out i
  have g0 := g 0
  have g1 := g 1
  have g2 := g 2
  have g3 := g 3
  have g4 := g 4
  have g5 := g 5
  have g6 := g 6
  have q := fun i => cell_of R1.out i
  have q0 := q 0
  have q1 := q 1
  have q2 := q 2
  have qf := free_of R1.out
  clear g q
  simp at g0 g1 g2 g3 g4 g5 g6 q0 q1 q2
  have qn := World.new_ne _ _ q0
  go_wp2_with fail
  refine (nAdd s c a (H.out.keep K1.out)).mono ?_
  rintro e w2 ⟨rfl, k⟩
  clear g0 g1 g2 g3 g4 g5 g6
  have K2 := Lib.hid (K1.out.trans k)
  have R2 := Lib.hid (k.old R1.out (by simp))
  clear q0 q1 q2 qf qn
  have q := fun i => cell_of R2.out i
  have q0 := q 0
  have q1 := q 1
  have q2 := q 2
  have qf := free_of R2.out
  clear q
  simp at q0 q1 q2
  have qn := World.new_ne _ _ q0
  clear k
  go_wp2_with fail
  refine (num _ _).mono ?_
  rintro e w' ⟨rfl, rfl⟩
  go_wp2_with fail
  refine (one _ _).mono ?_
  rintro e w3 ⟨v, rfl, g1, rfl, hg, hc, k⟩
  have HG1 := Lib.hid (Nat.lt_of_lt_of_le (lt_of R2.out) hg)
  have HC1 := Lib.hid hc
  clear hg hc
  have K3 := Lib.hid (K2.out.trans k)
  have R3 := Lib.hid (k.old R2.out (by simp))
  clear q0 q1 q2 qf qn
  have q := fun i => cell_of R3.out i
  have q0 := q 0
  have q1 := q 1
  have q2 := q 2
  have qf := free_of R3.out
  clear q
  simp at q0 q1 q2
  have qn := World.new_ne _ _ q0
  clear k
  go_wp2_with fail
  refine bodyPost_ret (v := .agg #[.int .i64 1, .slice (some ⟨g1, 0, none⟩) 1 1, .string ⟨#[]⟩]) ?_ rfl ?_
  · simp [results]
    go_simp
  have HX : w.heap.size ≤ gb + 1 := by have := HGB.out; omega
  have HK := K3.out.size
  refine ⟨_, rfl, ⟨_, _, rfl, ?_, ?_⟩, (((K3.out.set (.inr HX) 0 _).set (.inr HX) 1 _).set (.inr HX) 2 _)⟩
  · exact came1 (((((Keep.refl [gb + 1] _).set (.inl (by simp)) 0 _).set (.inl (by simp)) 1 _).set (.inl (by simp)) 2 _).cell HC1.out (by have := HG1.out; simp; omega))
  · intro b o e; cases e; have := HG1.out; have := HGB.out; omega

set_option maxRecDepth 100000 in
set_option maxHeartbeats 1000000 in
theorem ask1 (h : Bare w p) (s c a b : Int) (ad : Option Addr) (cap : Nat) (ws : List Int) (pp : ByteArray) (hws : Came .u64 w ad ws.length ws) (hwl : ws.length ≤ 17592186043904) :
    Calls Tryz.prog 21 #[.pointer p, opV 1 s c a b (.slice ad ws.length cap) pp] w fun e w' => ∃ v, e = .returned v ∧ AnsIs w w' v 1 1 [0] ∧ Keep [] w w' := by
  have H := Lib.hid h; clear h
  have HW := Lib.hid hws; clear hws
  unfold opV
  go_enter Tryz.func21, Tryz.ntmps21
  go_upto_region 1 with fail
  obtain ⟨w1, hw1⟩ : ∃ w1, w1 = (w.alloc (.cells #[.int .i64 1, .int .i64 s, .int .i64 c, .int .u64 a, .int .u64 b, .slice ad ws.length cap, .string pp] 35)).alloc (.cells #[.int .i64 0, .slice none 0 0, .string ⟨#[]⟩] 38) := ⟨_, rfl⟩
  obtain ⟨gb, hgb⟩ : ∃ gb, gb = w.heap.size := ⟨_, rfl⟩
  have K1 := Lib.hid (show Keep [] w w1 by rw [hw1]; exact ((Keep.refl [] w).alloc _).alloc _)
  have B1 : Hid (w1.heap[gb]? = some (.cells #[.int .i64 1, .int .i64 s, .int .i64 c, .int .u64 a, .int .u64 b, .slice ad ws.length cap, .string pp] 35 (0, 0))) := Lib.hid (by rw [hw1, hgb]; exact alloc_some _ (alloc_new _ _))
  have R1 : Hid (w1.heap[gb + 1]? = some (.cells #[.int .i64 0, .slice none 0 0, .string ⟨#[]⟩] 38 (0, 0))) := Lib.hid (by
    have := alloc_new (w.alloc (.cells #[.int .i64 1, .int .i64 s, .int .i64 c, .int .u64 a, .int .u64 b, .slice ad ws.length cap, .string pp] 35)) (.cells #[.int .i64 0, .slice none 0 0, .string ⟨#[]⟩] 38)
    rw [World.size_alloc] at this
    rw [hw1, hgb]
    exact this)
  have HS1 : Hid (gb + 1 < w1.heap.size) := Lib.hid (lt_of R1.out)
  have HGB := Lib.hid hgb
  rw [← hw1, ← hgb]
  clear hw1 hgb
  have g := fun i => cell_of B1.out i
  have g0 := g 0
  have g1 := g 1
  have g2 := g 2
  have g3 := g 3
  have g4 := g 4
  have g5 := g 5
  have g6 := g 6
  have q := fun i => cell_of R1.out i
  have q0 := q 0
  have q1 := q 1
  have q2 := q 2
  have qf := free_of R1.out
  clear g q
  simp at g0 g1 g2 g3 g4 g5 g6 q0 q1 q2
  have qn := World.new_ne _ _ q0
  go_wp2_with fail
  have HG := Lib.hid (show w1.drew.cell? ⟨gb, 6, none⟩ = some (.string pp) ∧ w1.drew.cell? ⟨gb, 5, none⟩ = some (.slice ad ws.length cap) from by exact ⟨g6, g5⟩)
  have HHL := Lib.hid (show ws.length ≤ 17592186043904 by omega)
  clear q0 q1 q2 qf qn
  go_region_held3 (fun w' => w'.cell? ⟨gb, 6, none⟩ = some (.string pp) ∧ w'.cell? ⟨gb, 5, none⟩ = some (.slice ad ws.length cap)) (go_keep)
    (first
      | (go_at_call 16; refine (words (HW.out.keep K1.out.drew) HHL.out).mono ?_; rintro e w2 ⟨a2, cap2, rfl, k⟩; have K2 := Lib.hid (K1.out.drew.trans k); have R2 : Hid (w2.heap[gb + 1]? = some (.cells #[.int .i64 0, .slice none 0 0, .string ⟨#[]⟩] 38 (0, 0))) := Lib.hid (k.old (show w1.drew.heap[gb + 1]? = _ from R1.out) (by simp)); have y6 := k.cell HG.out.1 (by simp); have y5 := k.cell HG.out.2 (by simp); clear k)
      | (go_at_call 17; refine (nAlloc pp a2 ws.length cap2 (H.out.keep K2.out)).mono ?_; rintro e w3 ⟨rfl, k⟩; have K3 := Lib.hid (K2.out.trans k); have R3 := Lib.hid (k.old R2.out (by simp)); have z6 := k.cell y6 (by simp); have z5 := k.cell y5 (by simp); clear k))
  clear g0 g1 g2 g3 g4 g5 g6
  have q := fun i => cell_of R3.out i
  have q0 := q 0
  have q1 := q 1
  have q2 := q 2
  have qf := free_of R3.out
  clear q
  simp at q0 q1 q2
  have qn := World.new_ne _ _ q0
  go_wp2_with fail
  refine (num _ _).mono ?_
  rintro e w' ⟨rfl, rfl⟩
  go_wp2_with fail
  refine (one _ _).mono ?_
  rintro e w4 ⟨v, rfl, g1, rfl, hg, hc, k⟩
  have HG1 := Lib.hid (Nat.lt_of_lt_of_le (lt_of R3.out) hg)
  have HC1 := Lib.hid hc
  clear hg hc
  have K4 := Lib.hid (K3.out.trans k)
  have R4 := Lib.hid (k.old R3.out (by simp))
  clear q0 q1 q2 qf qn
  have q := fun i => cell_of R4.out i
  have q0 := q 0
  have q1 := q 1
  have q2 := q 2
  have qf := free_of R4.out
  clear q
  simp at q0 q1 q2
  have qn := World.new_ne _ _ q0
  clear k
  go_wp2_with fail
  refine bodyPost_ret (v := .agg #[.int .i64 1, .slice (some ⟨g1, 0, none⟩) 1 1, .string ⟨#[]⟩]) ?_ rfl ?_
  · simp [results]
    go_simp
  have HX : w.heap.size ≤ gb + 1 := by have := HGB.out; omega
  have HK := K4.out.size
  refine ⟨_, rfl, ⟨_, _, rfl, ?_, ?_⟩, (((K4.out.set (.inr HX) 0 _).set (.inr HX) 1 _).set (.inr HX) 2 _)⟩
  · exact came1 (((((Keep.refl [gb + 1] _).set (.inl (by simp)) 0 _).set (.inl (by simp)) 1 _).set (.inl (by simp)) 2 _).cell HC1.out (by have := HG1.out; simp; omega))
  · intro b o e; cases e; have := HG1.out; have := HGB.out; omega

set_option maxRecDepth 100000 in
set_option maxHeartbeats 1000000 in
theorem ask8 (h : Bare w p) (s c a b : Int) (ad : Option Addr) (cap : Nat) (ws : List Int) (pp : ByteArray) (hws : Came .u64 w ad ws.length ws) (hwl : ws.length ≤ 17592186043904) :
    Calls Tryz.prog 21 #[.pointer p, opV 8 s c a b (.slice ad ws.length cap) pp] w fun e w' => ∃ v, e = .returned v ∧ AnsIs w w' v 1 1 [0] ∧ Keep [] w w' := by
  have H := Lib.hid h; clear h
  have HW := Lib.hid hws; clear hws
  unfold opV
  go_enter Tryz.func21, Tryz.ntmps21
  go_upto_region 1 with fail
  obtain ⟨w1, hw1⟩ : ∃ w1, w1 = (w.alloc (.cells #[.int .i64 8, .int .i64 s, .int .i64 c, .int .u64 a, .int .u64 b, .slice ad ws.length cap, .string pp] 35)).alloc (.cells #[.int .i64 0, .slice none 0 0, .string ⟨#[]⟩] 38) := ⟨_, rfl⟩
  obtain ⟨gb, hgb⟩ : ∃ gb, gb = w.heap.size := ⟨_, rfl⟩
  have K1 := Lib.hid (show Keep [] w w1 by rw [hw1]; exact ((Keep.refl [] w).alloc _).alloc _)
  have B1 : Hid (w1.heap[gb]? = some (.cells #[.int .i64 8, .int .i64 s, .int .i64 c, .int .u64 a, .int .u64 b, .slice ad ws.length cap, .string pp] 35 (0, 0))) := Lib.hid (by rw [hw1, hgb]; exact alloc_some _ (alloc_new _ _))
  have R1 : Hid (w1.heap[gb + 1]? = some (.cells #[.int .i64 0, .slice none 0 0, .string ⟨#[]⟩] 38 (0, 0))) := Lib.hid (by
    have := alloc_new (w.alloc (.cells #[.int .i64 8, .int .i64 s, .int .i64 c, .int .u64 a, .int .u64 b, .slice ad ws.length cap, .string pp] 35)) (.cells #[.int .i64 0, .slice none 0 0, .string ⟨#[]⟩] 38)
    rw [World.size_alloc] at this
    rw [hw1, hgb]
    exact this)
  have HS1 : Hid (gb + 1 < w1.heap.size) := Lib.hid (lt_of R1.out)
  have HGB := Lib.hid hgb
  rw [← hw1, ← hgb]
  clear hw1 hgb
  have g := fun i => cell_of B1.out i
  have g0 := g 0
  have g1 := g 1
  have g2 := g 2
  have g3 := g 3
  have g4 := g 4
  have g5 := g 5
  have g6 := g 6
  have q := fun i => cell_of R1.out i
  have q0 := q 0
  have q1 := q 1
  have q2 := q 2
  have qf := free_of R1.out
  clear g q
  simp at g0 g1 g2 g3 g4 g5 g6 q0 q1 q2
  have qn := World.new_ne _ _ q0
  go_wp2_with fail
  have HG := Lib.hid (show w1.drew.cell? ⟨gb, 1, none⟩ = some (.int .i64 s) ∧ w1.drew.cell? ⟨gb, 2, none⟩ = some (.int .i64 c) ∧ w1.drew.cell? ⟨gb, 5, none⟩ = some (.slice ad ws.length cap) from by exact ⟨g1, g2, g5⟩)
  have HHL := Lib.hid (show ws.length ≤ 17592186043904 by omega)
  clear q0 q1 q2 qf qn
  go_region_held3 (fun w' => w'.cell? ⟨gb, 1, none⟩ = some (.int .i64 s) ∧ w'.cell? ⟨gb, 2, none⟩ = some (.int .i64 c) ∧ w'.cell? ⟨gb, 5, none⟩ = some (.slice ad ws.length cap)) (go_keep)
    (first
      | (go_at_call 16; refine (words (HW.out.keep K1.out.drew) HHL.out).mono ?_; rintro e w2 ⟨a2, cap2, rfl, k⟩; have K2 := Lib.hid (K1.out.drew.trans k); have R2 : Hid (w2.heap[gb + 1]? = some (.cells #[.int .i64 0, .slice none 0 0, .string ⟨#[]⟩] 38 (0, 0))) := Lib.hid (k.old (show w1.drew.heap[gb + 1]? = _ from R1.out) (by simp)); have y1 := k.cell HG.out.1 (by simp); have y2 := k.cell HG.out.2.1 (by simp); have y5 := k.cell HG.out.2.2 (by simp); clear k)
      | (go_at_call 20; refine (nAddAll s c a2 ws.length cap2 (H.out.keep K2.out)).mono ?_; rintro e w3 ⟨rfl, k⟩; have K3 := Lib.hid (K2.out.trans k); have R3 := Lib.hid (k.old R2.out (by simp)); have z1 := k.cell y1 (by simp); have z2 := k.cell y2 (by simp); have z5 := k.cell y5 (by simp); clear k))
  clear g0 g1 g2 g3 g4 g5 g6
  have q := fun i => cell_of R3.out i
  have q0 := q 0
  have q1 := q 1
  have q2 := q 2
  have qf := free_of R3.out
  clear q
  simp at q0 q1 q2
  have qn := World.new_ne _ _ q0
  go_wp2_with fail
  refine (num _ _).mono ?_
  rintro e w' ⟨rfl, rfl⟩
  go_wp2_with fail
  refine (one _ _).mono ?_
  rintro e w4 ⟨v, rfl, g1, rfl, hg, hc, k⟩
  have HG1 := Lib.hid (Nat.lt_of_lt_of_le (lt_of R3.out) hg)
  have HC1 := Lib.hid hc
  clear hg hc
  have K4 := Lib.hid (K3.out.trans k)
  have R4 := Lib.hid (k.old R3.out (by simp))
  clear q0 q1 q2 qf qn
  have q := fun i => cell_of R4.out i
  have q0 := q 0
  have q1 := q 1
  have q2 := q 2
  have qf := free_of R4.out
  clear q
  simp at q0 q1 q2
  have qn := World.new_ne _ _ q0
  clear k
  go_wp2_with fail
  refine bodyPost_ret (v := .agg #[.int .i64 1, .slice (some ⟨g1, 0, none⟩) 1 1, .string ⟨#[]⟩]) ?_ rfl ?_
  · simp [results]
    go_simp
  have HX : w.heap.size ≤ gb + 1 := by have := HGB.out; omega
  have HK := K4.out.size
  refine ⟨_, rfl, ⟨_, _, rfl, ?_, ?_⟩, (((K4.out.set (.inr HX) 0 _).set (.inr HX) 1 _).set (.inr HX) 2 _)⟩
  · exact came1 (((((Keep.refl [gb + 1] _).set (.inl (by simp)) 0 _).set (.inl (by simp)) 1 _).set (.inl (by simp)) 2 _).cell HC1.out (by have := HG1.out; simp; omega))
  · intro b o e; cases e; have := HG1.out; have := HGB.out; omega

set_option maxRecDepth 100000 in
set_option maxHeartbeats 1000000 in
theorem ask9 (h : Bare w p) (s c a b : Int) (ad : Option Addr) (cap : Nat) (ws : List Int) (pp : ByteArray) (hws : Came .u64 w ad ws.length ws) (hwl : ws.length ≤ 17592186043904) :
    Calls Tryz.prog 21 #[.pointer p, opV 9 s c a b (.slice ad ws.length cap) pp] w fun e w' => ∃ v, e = .returned v ∧ AnsIs w w' v 0 1 [0] ∧ Keep [] w w' := by
  have H := Lib.hid h; clear h
  have HW := Lib.hid hws; clear hws
  unfold opV
  go_enter Tryz.func21, Tryz.ntmps21
  go_upto_region 1 with fail
  obtain ⟨w1, hw1⟩ : ∃ w1, w1 = (w.alloc (.cells #[.int .i64 9, .int .i64 s, .int .i64 c, .int .u64 a, .int .u64 b, .slice ad ws.length cap, .string pp] 35)).alloc (.cells #[.int .i64 0, .slice none 0 0, .string ⟨#[]⟩] 38) := ⟨_, rfl⟩
  obtain ⟨gb, hgb⟩ : ∃ gb, gb = w.heap.size := ⟨_, rfl⟩
  have K1 := Lib.hid (show Keep [] w w1 by rw [hw1]; exact ((Keep.refl [] w).alloc _).alloc _)
  have B1 : Hid (w1.heap[gb]? = some (.cells #[.int .i64 9, .int .i64 s, .int .i64 c, .int .u64 a, .int .u64 b, .slice ad ws.length cap, .string pp] 35 (0, 0))) := Lib.hid (by rw [hw1, hgb]; exact alloc_some _ (alloc_new _ _))
  have R1 : Hid (w1.heap[gb + 1]? = some (.cells #[.int .i64 0, .slice none 0 0, .string ⟨#[]⟩] 38 (0, 0))) := Lib.hid (by
    have := alloc_new (w.alloc (.cells #[.int .i64 9, .int .i64 s, .int .i64 c, .int .u64 a, .int .u64 b, .slice ad ws.length cap, .string pp] 35)) (.cells #[.int .i64 0, .slice none 0 0, .string ⟨#[]⟩] 38)
    rw [World.size_alloc] at this
    rw [hw1, hgb]
    exact this)
  have HS1 : Hid (gb + 1 < w1.heap.size) := Lib.hid (lt_of R1.out)
  have HGB := Lib.hid hgb
  rw [← hw1, ← hgb]
  clear hw1 hgb
  have g := fun i => cell_of B1.out i
  have g0 := g 0
  have g1 := g 1
  have g2 := g 2
  have g3 := g 3
  have g4 := g 4
  have g5 := g 5
  have g6 := g 6
  have q := fun i => cell_of R1.out i
  have q0 := q 0
  have q1 := q 1
  have q2 := q 2
  have qf := free_of R1.out
  clear g q
  simp at g0 g1 g2 g3 g4 g5 g6 q0 q1 q2
  have qn := World.new_ne _ _ q0
  go_wp2_with fail
  have C := look9 (H.out.keep K1.out) s c a b ad cap ws pp (HW.out.keep K1.out) hwl
  unfold opV at C
  refine C.mono ?_
  rintro e w2 ⟨v, rfl, ⟨aa, ca, rfl, hcm, hfr⟩, k⟩
  have HCM := Lib.hid hcm
  have HCM2 := Lib.hid hfr
  clear hcm hfr C g0 g1 g2 g3 g4 g5 g6
  have K2 := Lib.hid (K1.out.trans k)
  have R2 := Lib.hid (k.old R1.out (by simp))
  clear q0 q1 q2 qf qn
  have q := fun i => cell_of R2.out i
  have q0 := q 0
  have q1 := q 1
  have q2 := q 2
  have qf := free_of R2.out
  clear q
  simp at q0 q1 q2
  have qn := World.new_ne _ _ q0
  clear k
  go_wp2_with fail
  refine bodyPost_ret (v := .agg #[.int .i64 0, .slice aa 1 ca, .string ⟨#[]⟩]) ?_ rfl ?_
  · simp [results]
    go_simp
  have HX : w.heap.size ≤ gb + 1 := by have := HGB.out; omega
  have HK := K2.out.size
  refine ⟨_, rfl, ⟨_, _, rfl, ?_, ?_⟩, (((K2.out.set (.inr HX) 0 _).set (.inr HX) 1 _).set (.inr HX) 2 _)⟩
  · exact ⟨fun i hi => let ⟨b, o, e, hc⟩ := HCM.out.cell i hi; ⟨b, o, e, ((((Keep.refl [gb + 1] _).set (.inl (by simp)) 0 _).set (.inl (by simp)) 1 _).set (.inl (by simp)) 2 _).cell hc (fun hx => by have := HCM2.out b o e; have := HS1.out; simp at hx; omega)⟩⟩
  · intro b o e; have := HCM2.out b o e; have := K1.out.size; omega

set_option maxRecDepth 100000 in
set_option maxHeartbeats 1000000 in
theorem ask10 (h : Bare w p) (s c a b : Int) (ad : Option Addr) (cap : Nat) (ws : List Int) (pp : ByteArray) (hws : Came .u64 w ad ws.length ws) (hwl : ws.length ≤ 17592186043904) :
    Calls Tryz.prog 21 #[.pointer p, opV 10 s c a b (.slice ad ws.length cap) pp] w fun e w' => ∃ v, e = .returned v ∧ AnsIs w w' v 0 1 [0] ∧ Keep [] w w' := by
  have H := Lib.hid h; clear h
  have HW := Lib.hid hws; clear hws
  unfold opV
  go_enter Tryz.func21, Tryz.ntmps21
  go_upto_region 1 with fail
  obtain ⟨w1, hw1⟩ : ∃ w1, w1 = (w.alloc (.cells #[.int .i64 10, .int .i64 s, .int .i64 c, .int .u64 a, .int .u64 b, .slice ad ws.length cap, .string pp] 35)).alloc (.cells #[.int .i64 0, .slice none 0 0, .string ⟨#[]⟩] 38) := ⟨_, rfl⟩
  obtain ⟨gb, hgb⟩ : ∃ gb, gb = w.heap.size := ⟨_, rfl⟩
  have K1 := Lib.hid (show Keep [] w w1 by rw [hw1]; exact ((Keep.refl [] w).alloc _).alloc _)
  have B1 : Hid (w1.heap[gb]? = some (.cells #[.int .i64 10, .int .i64 s, .int .i64 c, .int .u64 a, .int .u64 b, .slice ad ws.length cap, .string pp] 35 (0, 0))) := Lib.hid (by rw [hw1, hgb]; exact alloc_some _ (alloc_new _ _))
  have R1 : Hid (w1.heap[gb + 1]? = some (.cells #[.int .i64 0, .slice none 0 0, .string ⟨#[]⟩] 38 (0, 0))) := Lib.hid (by
    have := alloc_new (w.alloc (.cells #[.int .i64 10, .int .i64 s, .int .i64 c, .int .u64 a, .int .u64 b, .slice ad ws.length cap, .string pp] 35)) (.cells #[.int .i64 0, .slice none 0 0, .string ⟨#[]⟩] 38)
    rw [World.size_alloc] at this
    rw [hw1, hgb]
    exact this)
  have HS1 : Hid (gb + 1 < w1.heap.size) := Lib.hid (lt_of R1.out)
  have HGB := Lib.hid hgb
  rw [← hw1, ← hgb]
  clear hw1 hgb
  have g := fun i => cell_of B1.out i
  have g0 := g 0
  have g1 := g 1
  have g2 := g 2
  have g3 := g 3
  have g4 := g 4
  have g5 := g 5
  have g6 := g 6
  have q := fun i => cell_of R1.out i
  have q0 := q 0
  have q1 := q 1
  have q2 := q 2
  have qf := free_of R1.out
  clear g q
  simp at g0 g1 g2 g3 g4 g5 g6 q0 q1 q2
  have qn := World.new_ne _ _ q0
  go_wp2_with fail
  have C := look10 (H.out.keep K1.out) s c a b ad cap ws pp (HW.out.keep K1.out) hwl
  unfold opV at C
  refine C.mono ?_
  rintro e w2 ⟨v, rfl, ⟨aa, ca, rfl, hcm, hfr⟩, k⟩
  have HCM := Lib.hid hcm
  have HCM2 := Lib.hid hfr
  clear hcm hfr C g0 g1 g2 g3 g4 g5 g6
  have K2 := Lib.hid (K1.out.trans k)
  have R2 := Lib.hid (k.old R1.out (by simp))
  clear q0 q1 q2 qf qn
  have q := fun i => cell_of R2.out i
  have q0 := q 0
  have q1 := q 1
  have q2 := q 2
  have qf := free_of R2.out
  clear q
  simp at q0 q1 q2
  have qn := World.new_ne _ _ q0
  clear k
  go_wp2_with fail
  refine bodyPost_ret (v := .agg #[.int .i64 0, .slice aa 1 ca, .string ⟨#[]⟩]) ?_ rfl ?_
  · simp [results]
    go_simp
  have HX : w.heap.size ≤ gb + 1 := by have := HGB.out; omega
  have HK := K2.out.size
  refine ⟨_, rfl, ⟨_, _, rfl, ?_, ?_⟩, (((K2.out.set (.inr HX) 0 _).set (.inr HX) 1 _).set (.inr HX) 2 _)⟩
  · exact ⟨fun i hi => let ⟨b, o, e, hc⟩ := HCM.out.cell i hi; ⟨b, o, e, ((((Keep.refl [gb + 1] _).set (.inl (by simp)) 0 _).set (.inl (by simp)) 1 _).set (.inl (by simp)) 2 _).cell hc (fun hx => by have := HCM2.out b o e; have := HS1.out; simp at hx; omega)⟩⟩
  · intro b o e; have := HCM2.out b o e; have := K1.out.size; omega

set_option maxRecDepth 100000 in
set_option maxHeartbeats 1000000 in
theorem ask11 (h : Bare w p) (s c a b : Int) (ad : Option Addr) (cap : Nat) (ws : List Int) (pp : ByteArray) (hws : Came .u64 w ad ws.length ws) (hwl : ws.length ≤ 17592186043904) :
    Calls Tryz.prog 21 #[.pointer p, opV 11 s c a b (.slice ad ws.length cap) pp] w fun e w' => ∃ v, e = .returned v ∧ AnsIs w w' v 1 0 [] ∧ Keep [] w w' := by
  have H := Lib.hid h; clear h
  have HW := Lib.hid hws; clear hws
  unfold opV
  go_enter Tryz.func21, Tryz.ntmps21
  go_upto_region 1 with fail
  obtain ⟨w1, hw1⟩ : ∃ w1, w1 = (w.alloc (.cells #[.int .i64 11, .int .i64 s, .int .i64 c, .int .u64 a, .int .u64 b, .slice ad ws.length cap, .string pp] 35)).alloc (.cells #[.int .i64 0, .slice none 0 0, .string ⟨#[]⟩] 38) := ⟨_, rfl⟩
  obtain ⟨gb, hgb⟩ : ∃ gb, gb = w.heap.size := ⟨_, rfl⟩
  have K1 := Lib.hid (show Keep [] w w1 by rw [hw1]; exact ((Keep.refl [] w).alloc _).alloc _)
  have B1 : Hid (w1.heap[gb]? = some (.cells #[.int .i64 11, .int .i64 s, .int .i64 c, .int .u64 a, .int .u64 b, .slice ad ws.length cap, .string pp] 35 (0, 0))) := Lib.hid (by rw [hw1, hgb]; exact alloc_some _ (alloc_new _ _))
  have R1 : Hid (w1.heap[gb + 1]? = some (.cells #[.int .i64 0, .slice none 0 0, .string ⟨#[]⟩] 38 (0, 0))) := Lib.hid (by
    have := alloc_new (w.alloc (.cells #[.int .i64 11, .int .i64 s, .int .i64 c, .int .u64 a, .int .u64 b, .slice ad ws.length cap, .string pp] 35)) (.cells #[.int .i64 0, .slice none 0 0, .string ⟨#[]⟩] 38)
    rw [World.size_alloc] at this
    rw [hw1, hgb]
    exact this)
  have HS1 : Hid (gb + 1 < w1.heap.size) := Lib.hid (lt_of R1.out)
  have HGB := Lib.hid hgb
  rw [← hw1, ← hgb]
  clear hw1 hgb
  have g := fun i => cell_of B1.out i
  have g0 := g 0
  have g1 := g 1
  have g2 := g 2
  have g3 := g 3
  have g4 := g 4
  have g5 := g 5
  have g6 := g 6
  have q := fun i => cell_of R1.out i
  have q0 := q 0
  have q1 := q 1
  have q2 := q 2
  have qf := free_of R1.out
  clear g q
  simp at g0 g1 g2 g3 g4 g5 g6 q0 q1 q2
  have qn := World.new_ne _ _ q0
  go_wp2_with fail
  have C := look11 (H.out.keep K1.out) s c a b ad cap ws pp (HW.out.keep K1.out) hwl
  unfold opV at C
  refine C.mono ?_
  rintro e w2 ⟨v, rfl, ⟨aa, ca, rfl, hcm, hfr⟩, k⟩
  have HCM := Lib.hid hcm
  have HCM2 := Lib.hid hfr
  clear hcm hfr C g0 g1 g2 g3 g4 g5 g6
  have K2 := Lib.hid (K1.out.trans k)
  have R2 := Lib.hid (k.old R1.out (by simp))
  clear q0 q1 q2 qf qn
  have q := fun i => cell_of R2.out i
  have q0 := q 0
  have q1 := q 1
  have q2 := q 2
  have qf := free_of R2.out
  clear q
  simp at q0 q1 q2
  have qn := World.new_ne _ _ q0
  clear k
  go_wp2_with fail
  refine bodyPost_ret (v := .agg #[.int .i64 1, .slice aa 0 ca, .string ⟨#[]⟩]) ?_ rfl ?_
  · simp [results]
    go_simp
  have HX : w.heap.size ≤ gb + 1 := by have := HGB.out; omega
  have HK := K2.out.size
  refine ⟨_, rfl, ⟨_, _, rfl, ?_, ?_⟩, (((K2.out.set (.inr HX) 0 _).set (.inr HX) 1 _).set (.inr HX) 2 _)⟩
  · exact ⟨fun i hi => let ⟨b, o, e, hc⟩ := HCM.out.cell i hi; ⟨b, o, e, ((((Keep.refl [gb + 1] _).set (.inl (by simp)) 0 _).set (.inl (by simp)) 1 _).set (.inl (by simp)) 2 _).cell hc (fun hx => by have := HCM2.out b o e; have := HS1.out; simp at hx; omega)⟩⟩
  · intro b o e; have := HCM2.out b o e; have := K1.out.size; omega

set_option maxRecDepth 100000 in
set_option maxHeartbeats 1000000 in
theorem ask12 (h : Bare w p) (s c a b : Int) (ad : Option Addr) (cap : Nat) (ws : List Int) (pp : ByteArray) (hws : Came .u64 w ad ws.length ws) (hwl : ws.length ≤ 17592186043904) :
    Calls Tryz.prog 21 #[.pointer p, opV 12 s c a b (.slice ad ws.length cap) pp] w fun e w' => ∃ v, e = .returned v ∧ AnsIs w w' v 1 1 [0] ∧ Keep [] w w' := by
  have H := Lib.hid h; clear h
  have HW := Lib.hid hws; clear hws
  unfold opV
  go_enter Tryz.func21, Tryz.ntmps21
  go_upto_region 1 with fail
  obtain ⟨w1, hw1⟩ : ∃ w1, w1 = (w.alloc (.cells #[.int .i64 12, .int .i64 s, .int .i64 c, .int .u64 a, .int .u64 b, .slice ad ws.length cap, .string pp] 35)).alloc (.cells #[.int .i64 0, .slice none 0 0, .string ⟨#[]⟩] 38) := ⟨_, rfl⟩
  obtain ⟨gb, hgb⟩ : ∃ gb, gb = w.heap.size := ⟨_, rfl⟩
  have K1 := Lib.hid (show Keep [] w w1 by rw [hw1]; exact ((Keep.refl [] w).alloc _).alloc _)
  have B1 : Hid (w1.heap[gb]? = some (.cells #[.int .i64 12, .int .i64 s, .int .i64 c, .int .u64 a, .int .u64 b, .slice ad ws.length cap, .string pp] 35 (0, 0))) := Lib.hid (by rw [hw1, hgb]; exact alloc_some _ (alloc_new _ _))
  have R1 : Hid (w1.heap[gb + 1]? = some (.cells #[.int .i64 0, .slice none 0 0, .string ⟨#[]⟩] 38 (0, 0))) := Lib.hid (by
    have := alloc_new (w.alloc (.cells #[.int .i64 12, .int .i64 s, .int .i64 c, .int .u64 a, .int .u64 b, .slice ad ws.length cap, .string pp] 35)) (.cells #[.int .i64 0, .slice none 0 0, .string ⟨#[]⟩] 38)
    rw [World.size_alloc] at this
    rw [hw1, hgb]
    exact this)
  have HS1 : Hid (gb + 1 < w1.heap.size) := Lib.hid (lt_of R1.out)
  have HGB := Lib.hid hgb
  rw [← hw1, ← hgb]
  clear hw1 hgb
  have g := fun i => cell_of B1.out i
  have g0 := g 0
  have g1 := g 1
  have g2 := g 2
  have g3 := g 3
  have g4 := g 4
  have g5 := g 5
  have g6 := g 6
  have q := fun i => cell_of R1.out i
  have q0 := q 0
  have q1 := q 1
  have q2 := q 2
  have qf := free_of R1.out
  clear g q
  simp at g0 g1 g2 g3 g4 g5 g6 q0 q1 q2
  have qn := World.new_ne _ _ q0
  go_wp2_with fail
  have C := look12 (H.out.keep K1.out) s c a b ad cap ws pp (HW.out.keep K1.out) hwl
  unfold opV at C
  refine C.mono ?_
  rintro e w2 ⟨v, rfl, ⟨aa, ca, rfl, hcm, hfr⟩, k⟩
  have HCM := Lib.hid hcm
  have HCM2 := Lib.hid hfr
  clear hcm hfr C g0 g1 g2 g3 g4 g5 g6
  have K2 := Lib.hid (K1.out.trans k)
  have R2 := Lib.hid (k.old R1.out (by simp))
  clear q0 q1 q2 qf qn
  have q := fun i => cell_of R2.out i
  have q0 := q 0
  have q1 := q 1
  have q2 := q 2
  have qf := free_of R2.out
  clear q
  simp at q0 q1 q2
  have qn := World.new_ne _ _ q0
  clear k
  go_wp2_with fail
  refine bodyPost_ret (v := .agg #[.int .i64 1, .slice aa 1 ca, .string ⟨#[]⟩]) ?_ rfl ?_
  · simp [results]
    go_simp
  have HX : w.heap.size ≤ gb + 1 := by have := HGB.out; omega
  have HK := K2.out.size
  refine ⟨_, rfl, ⟨_, _, rfl, ?_, ?_⟩, (((K2.out.set (.inr HX) 0 _).set (.inr HX) 1 _).set (.inr HX) 2 _)⟩
  · exact ⟨fun i hi => let ⟨b, o, e, hc⟩ := HCM.out.cell i hi; ⟨b, o, e, ((((Keep.refl [gb + 1] _).set (.inl (by simp)) 0 _).set (.inl (by simp)) 1 _).set (.inl (by simp)) 2 _).cell hc (fun hx => by have := HCM2.out b o e; have := HS1.out; simp at hx; omega)⟩⟩
  · intro b o e; have := HCM2.out b o e; have := K1.out.size; omega

set_option maxRecDepth 100000 in
set_option maxHeartbeats 1000000 in
theorem ask13 (h : Bare w p) (s c a b : Int) (ad : Option Addr) (cap : Nat) (ws : List Int) (pp : ByteArray) (hws : Came .u64 w ad ws.length ws) (hwl : ws.length ≤ 17592186043904) :
    Calls Tryz.prog 21 #[.pointer p, opV 13 s c a b (.slice ad ws.length cap) pp] w fun e w' => ∃ v, e = .returned v ∧ AnsIs w w' v 0 0 [] ∧ Keep [] w w' := by
  have H := Lib.hid h; clear h
  have HW := Lib.hid hws; clear hws
  unfold opV
  go_enter Tryz.func21, Tryz.ntmps21
  go_upto_region 1 with fail
  obtain ⟨w1, hw1⟩ : ∃ w1, w1 = (w.alloc (.cells #[.int .i64 13, .int .i64 s, .int .i64 c, .int .u64 a, .int .u64 b, .slice ad ws.length cap, .string pp] 35)).alloc (.cells #[.int .i64 0, .slice none 0 0, .string ⟨#[]⟩] 38) := ⟨_, rfl⟩
  obtain ⟨gb, hgb⟩ : ∃ gb, gb = w.heap.size := ⟨_, rfl⟩
  have K1 := Lib.hid (show Keep [] w w1 by rw [hw1]; exact ((Keep.refl [] w).alloc _).alloc _)
  have B1 : Hid (w1.heap[gb]? = some (.cells #[.int .i64 13, .int .i64 s, .int .i64 c, .int .u64 a, .int .u64 b, .slice ad ws.length cap, .string pp] 35 (0, 0))) := Lib.hid (by rw [hw1, hgb]; exact alloc_some _ (alloc_new _ _))
  have R1 : Hid (w1.heap[gb + 1]? = some (.cells #[.int .i64 0, .slice none 0 0, .string ⟨#[]⟩] 38 (0, 0))) := Lib.hid (by
    have := alloc_new (w.alloc (.cells #[.int .i64 13, .int .i64 s, .int .i64 c, .int .u64 a, .int .u64 b, .slice ad ws.length cap, .string pp] 35)) (.cells #[.int .i64 0, .slice none 0 0, .string ⟨#[]⟩] 38)
    rw [World.size_alloc] at this
    rw [hw1, hgb]
    exact this)
  have HS1 : Hid (gb + 1 < w1.heap.size) := Lib.hid (lt_of R1.out)
  have HGB := Lib.hid hgb
  rw [← hw1, ← hgb]
  clear hw1 hgb
  have g := fun i => cell_of B1.out i
  have g0 := g 0
  have g1 := g 1
  have g2 := g 2
  have g3 := g 3
  have g4 := g 4
  have g5 := g 5
  have g6 := g 6
  have q := fun i => cell_of R1.out i
  have q0 := q 0
  have q1 := q 1
  have q2 := q 2
  have qf := free_of R1.out
  clear g q
  simp at g0 g1 g2 g3 g4 g5 g6 q0 q1 q2
  have qn := World.new_ne _ _ q0
  go_wp2_with fail
  have C := look13 (H.out.keep K1.out) s c a b ad cap ws pp (HW.out.keep K1.out) hwl
  unfold opV at C
  refine C.mono ?_
  rintro e w2 ⟨v, rfl, ⟨aa, ca, rfl, hcm, hfr⟩, k⟩
  have HCM := Lib.hid hcm
  have HCM2 := Lib.hid hfr
  clear hcm hfr C g0 g1 g2 g3 g4 g5 g6
  have K2 := Lib.hid (K1.out.trans k)
  have R2 := Lib.hid (k.old R1.out (by simp))
  clear q0 q1 q2 qf qn
  have q := fun i => cell_of R2.out i
  have q0 := q 0
  have q1 := q 1
  have q2 := q 2
  have qf := free_of R2.out
  clear q
  simp at q0 q1 q2
  have qn := World.new_ne _ _ q0
  clear k
  go_wp2_with fail
  refine bodyPost_ret (v := .agg #[.int .i64 0, .slice aa 0 ca, .string ⟨#[]⟩]) ?_ rfl ?_
  · simp [results]
    go_simp
  have HX : w.heap.size ≤ gb + 1 := by have := HGB.out; omega
  have HK := K2.out.size
  refine ⟨_, rfl, ⟨_, _, rfl, ?_, ?_⟩, (((K2.out.set (.inr HX) 0 _).set (.inr HX) 1 _).set (.inr HX) 2 _)⟩
  · exact ⟨fun i hi => let ⟨b, o, e, hc⟩ := HCM.out.cell i hi; ⟨b, o, e, ((((Keep.refl [gb + 1] _).set (.inl (by simp)) 0 _).set (.inl (by simp)) 1 _).set (.inl (by simp)) 2 _).cell hc (fun hx => by have := HCM2.out b o e; have := HS1.out; simp at hx; omega)⟩⟩
  · intro b o e; have := HCM2.out b o e; have := K1.out.size; omega

set_option maxRecDepth 100000 in
set_option maxHeartbeats 1000000 in
theorem ask14 (h : Bare w p) (s c a b : Int) (ad : Option Addr) (cap : Nat) (ws : List Int) (pp : ByteArray) (hws : Came .u64 w ad ws.length ws) (hwl : ws.length ≤ 17592186043904) :
    Calls Tryz.prog 21 #[.pointer p, opV 14 s c a b (.slice ad ws.length cap) pp] w fun e w' => ∃ v, e = .returned v ∧ AnsIs w w' v 0 2 [0, 0] ∧ Keep [] w w' := by
  have H := Lib.hid h; clear h
  have HW := Lib.hid hws; clear hws
  unfold opV
  go_enter Tryz.func21, Tryz.ntmps21
  go_upto_region 1 with fail
  obtain ⟨w1, hw1⟩ : ∃ w1, w1 = (w.alloc (.cells #[.int .i64 14, .int .i64 s, .int .i64 c, .int .u64 a, .int .u64 b, .slice ad ws.length cap, .string pp] 35)).alloc (.cells #[.int .i64 0, .slice none 0 0, .string ⟨#[]⟩] 38) := ⟨_, rfl⟩
  obtain ⟨gb, hgb⟩ : ∃ gb, gb = w.heap.size := ⟨_, rfl⟩
  have K1 := Lib.hid (show Keep [] w w1 by rw [hw1]; exact ((Keep.refl [] w).alloc _).alloc _)
  have B1 : Hid (w1.heap[gb]? = some (.cells #[.int .i64 14, .int .i64 s, .int .i64 c, .int .u64 a, .int .u64 b, .slice ad ws.length cap, .string pp] 35 (0, 0))) := Lib.hid (by rw [hw1, hgb]; exact alloc_some _ (alloc_new _ _))
  have R1 : Hid (w1.heap[gb + 1]? = some (.cells #[.int .i64 0, .slice none 0 0, .string ⟨#[]⟩] 38 (0, 0))) := Lib.hid (by
    have := alloc_new (w.alloc (.cells #[.int .i64 14, .int .i64 s, .int .i64 c, .int .u64 a, .int .u64 b, .slice ad ws.length cap, .string pp] 35)) (.cells #[.int .i64 0, .slice none 0 0, .string ⟨#[]⟩] 38)
    rw [World.size_alloc] at this
    rw [hw1, hgb]
    exact this)
  have HS1 : Hid (gb + 1 < w1.heap.size) := Lib.hid (lt_of R1.out)
  have HGB := Lib.hid hgb
  rw [← hw1, ← hgb]
  clear hw1 hgb
  have g := fun i => cell_of B1.out i
  have g0 := g 0
  have g1 := g 1
  have g2 := g 2
  have g3 := g 3
  have g4 := g 4
  have g5 := g 5
  have g6 := g 6
  have q := fun i => cell_of R1.out i
  have q0 := q 0
  have q1 := q 1
  have q2 := q 2
  have qf := free_of R1.out
  clear g q
  simp at g0 g1 g2 g3 g4 g5 g6 q0 q1 q2
  have qn := World.new_ne _ _ q0
  go_wp2_with fail
  have C := look14 (H.out.keep K1.out) s c a b ad cap ws pp (HW.out.keep K1.out) hwl
  unfold opV at C
  refine C.mono ?_
  rintro e w2 ⟨v, rfl, ⟨aa, ca, rfl, hcm, hfr⟩, k⟩
  have HCM := Lib.hid hcm
  have HCM2 := Lib.hid hfr
  clear hcm hfr C g0 g1 g2 g3 g4 g5 g6
  have K2 := Lib.hid (K1.out.trans k)
  have R2 := Lib.hid (k.old R1.out (by simp))
  clear q0 q1 q2 qf qn
  have q := fun i => cell_of R2.out i
  have q0 := q 0
  have q1 := q 1
  have q2 := q 2
  have qf := free_of R2.out
  clear q
  simp at q0 q1 q2
  have qn := World.new_ne _ _ q0
  clear k
  go_wp2_with fail
  refine bodyPost_ret (v := .agg #[.int .i64 0, .slice aa 2 ca, .string ⟨#[]⟩]) ?_ rfl ?_
  · simp [results]
    go_simp
  have HX : w.heap.size ≤ gb + 1 := by have := HGB.out; omega
  have HK := K2.out.size
  refine ⟨_, rfl, ⟨_, _, rfl, ?_, ?_⟩, (((K2.out.set (.inr HX) 0 _).set (.inr HX) 1 _).set (.inr HX) 2 _)⟩
  · exact ⟨fun i hi => let ⟨b, o, e, hc⟩ := HCM.out.cell i hi; ⟨b, o, e, ((((Keep.refl [gb + 1] _).set (.inl (by simp)) 0 _).set (.inl (by simp)) 1 _).set (.inl (by simp)) 2 _).cell hc (fun hx => by have := HCM2.out b o e; have := HS1.out; simp at hx; omega)⟩⟩
  · intro b o e; have := HCM2.out b o e; have := K1.out.size; omega

set_option maxRecDepth 100000 in
set_option maxHeartbeats 1000000 in
theorem askk (h : Bare w p) (k : Int) (s c a b : Int) (ad : Option Addr) (cap : Nat) (ws : List Int) (pp : ByteArray) (hws : Came .u64 w ad ws.length ws) (hwl : ws.length ≤ 17592186043904) (k1 : ¬ k = 1) (k2 : ¬ k = 2) (k3 : ¬ k = 3) (k4 : ¬ k = 4) (k5 : ¬ k = 5) (k6 : ¬ k = 6) (k7 : ¬ k = 7) (k8 : ¬ k = 8) (k9 : ¬ k = 9) (k10 : ¬ k = 10) (k11 : ¬ k = 11) (k12 : ¬ k = 12) (k13 : ¬ k = 13) (k14 : ¬ k = 14) :
    Calls Tryz.prog 21 #[.pointer p, opV k s c a b (.slice ad ws.length cap) pp] w fun e w' => ∃ v, e = .returned v ∧ AnsIs w w' v 0 0 [] ∧ Keep [] w w' := by
  have H := Lib.hid h; clear h
  have HW := Lib.hid hws; clear hws
  unfold opV
  go_enter Tryz.func21, Tryz.ntmps21
  go_upto_region 1 with fail
  obtain ⟨w1, hw1⟩ : ∃ w1, w1 = (w.alloc (.cells #[.int .i64 k, .int .i64 s, .int .i64 c, .int .u64 a, .int .u64 b, .slice ad ws.length cap, .string pp] 35)).alloc (.cells #[.int .i64 0, .slice none 0 0, .string ⟨#[]⟩] 38) := ⟨_, rfl⟩
  obtain ⟨gb, hgb⟩ : ∃ gb, gb = w.heap.size := ⟨_, rfl⟩
  have K1 := Lib.hid (show Keep [] w w1 by rw [hw1]; exact ((Keep.refl [] w).alloc _).alloc _)
  have B1 : Hid (w1.heap[gb]? = some (.cells #[.int .i64 k, .int .i64 s, .int .i64 c, .int .u64 a, .int .u64 b, .slice ad ws.length cap, .string pp] 35 (0, 0))) := Lib.hid (by rw [hw1, hgb]; exact alloc_some _ (alloc_new _ _))
  have R1 : Hid (w1.heap[gb + 1]? = some (.cells #[.int .i64 0, .slice none 0 0, .string ⟨#[]⟩] 38 (0, 0))) := Lib.hid (by
    have := alloc_new (w.alloc (.cells #[.int .i64 k, .int .i64 s, .int .i64 c, .int .u64 a, .int .u64 b, .slice ad ws.length cap, .string pp] 35)) (.cells #[.int .i64 0, .slice none 0 0, .string ⟨#[]⟩] 38)
    rw [World.size_alloc] at this
    rw [hw1, hgb]
    exact this)
  have HS1 : Hid (gb + 1 < w1.heap.size) := Lib.hid (lt_of R1.out)
  have HGB := Lib.hid hgb
  rw [← hw1, ← hgb]
  clear hw1 hgb
  have g := fun i => cell_of B1.out i
  have g0 := g 0
  have g1 := g 1
  have g2 := g 2
  have g3 := g 3
  have g4 := g 4
  have g5 := g 5
  have g6 := g 6
  have q := fun i => cell_of R1.out i
  have q0 := q 0
  have q1 := q 1
  have q2 := q 2
  have qf := free_of R1.out
  clear g q
  simp at g0 g1 g2 g3 g4 g5 g6 q0 q1 q2
  have qn := World.new_ne _ _ q0
  go_wp2_with fail
  have C := lookk (H.out.keep K1.out) k s c a b ad cap ws pp (HW.out.keep K1.out) hwl k9 k10 k11 k12 k13 k14
  unfold opV at C
  refine C.mono ?_
  rintro e w2 ⟨v, rfl, ⟨aa, ca, rfl, hcm, hfr⟩, k⟩
  have HCM := Lib.hid hcm
  have HCM2 := Lib.hid hfr
  clear hcm hfr C g0 g1 g2 g3 g4 g5 g6
  have K2 := Lib.hid (K1.out.trans k)
  have R2 := Lib.hid (k.old R1.out (by simp))
  clear q0 q1 q2 qf qn
  have q := fun i => cell_of R2.out i
  have q0 := q 0
  have q1 := q 1
  have q2 := q 2
  have qf := free_of R2.out
  clear q
  simp at q0 q1 q2
  have qn := World.new_ne _ _ q0
  clear k
  go_wp2_with fail
  refine bodyPost_ret (v := .agg #[.int .i64 0, .slice aa 0 ca, .string ⟨#[]⟩]) ?_ rfl ?_
  · simp [results]
    go_simp
  have HX : w.heap.size ≤ gb + 1 := by have := HGB.out; omega
  have HK := K2.out.size
  refine ⟨_, rfl, ⟨_, _, rfl, ?_, ?_⟩, (((K2.out.set (.inr HX) 0 _).set (.inr HX) 1 _).set (.inr HX) 2 _)⟩
  · exact ⟨fun i hi => let ⟨b, o, e, hc⟩ := HCM.out.cell i hi; ⟨b, o, e, ((((Keep.refl [gb + 1] _).set (.inl (by simp)) 0 _).set (.inl (by simp)) 1 _).set (.inl (by simp)) 2 _).cell hc (fun hx => by have := HCM2.out b o e; have := HS1.out; simp at hx; omega)⟩⟩
  · intro b o e; have := HCM2.out b o e; have := K1.out.size; omega
end Go.Proofs.YtmdboahjikngeaaGreat.Nil
