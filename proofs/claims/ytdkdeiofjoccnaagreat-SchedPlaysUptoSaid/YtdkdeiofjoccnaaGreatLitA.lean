import Derived.Test.YtdkdeiofjoccnaaGreatUnB
import Derived.Test.YtdkdeiofjoccnaaGreatHarD
import Derived.RegionTactic
import Derived.Deep.RegionWith
/- A litmus program at work: what it is (plain Lean), how a thread lies in memory. -/
namespace Go.Proofs.YtdkdeiofjoccnaaGreat.Lit
open Go.RowKit Go.Proofs.YtdkdeiofjoccnaaGreat.Mem Go.Proofs.YtdkdeiofjoccnaaGreat.Ar
set_option linter.unusedVariables false

/-- an instruction -/
structure Ins where
  op : Int
  cell : Int
  reg : Int
  newR : Int
  newI : Int
  oldR : Int
  oldI : Int
  n : Int
def Ins.cells (x : Ins) : List Value := [.int .i64 x.op, .int .i64 x.cell, .int .i64 x.reg, .int .i64 x.newR, .int .u64 x.newI, .int .i64 x.oldR, .int .u64 x.oldI, .int .i64 x.n]
def flatI (l : List Ins) : List Value := l.flatMap Ins.cells
theorem flatI_length (l : List Ins) : (flatI l).length = l.length * 8 := by
  induction l with
  | nil => rfl
  | cons x l ih => rw [show flatI (x :: l) = x.cells ++ flatI l from by simp [flatI], List.length_append, ih]; simp [Ins.cells]; omega

/-- is it an instruction over so many cells? -/
def fitB (x : Ins) (n : Nat) : Bool :=
  let cell := decide (0 ≤ x.cell) && decide (x.cell < n)
  let reg := decide (0 ≤ x.reg) && decide (x.reg ≤ 3)
  let fresh := decide (-1 ≤ x.newR) && decide (x.newR ≤ 3)
  let old := decide (-1 ≤ x.oldR) && decide (x.oldR ≤ 3)
  if x.op = 1 then cell && reg else if x.op = 2 then cell && fresh else if x.op = 3 then cell && reg && fresh && old
  else if x.op = 4 then cell && reg && fresh else if x.op = 5 then reg && fresh && (decide (1 ≤ x.n) && decide (x.n ≤ 10)) else false

/-- a thread -/
structure Th where
  prog : List Ins
  regs : List Int
  at_ : Nat

def uw (x : Int) : Int := IntKind.u64.wrap x
def valOf (regs : List Int) (r i : Int) : Int := if r < 0 then i else uw (i + nth regs r.toNat 0)

/-- what an instruction does: registers, words (of the slot), place -/
structure Turn where
  regs : List Int
  words : List Int
  at_ : Nat

/-- the words of the cells 0 .. of a slot, as a list -/
def doIns (x : Ins) (len : Nat) (t : Turn) : Turn :=
  let c := x.cell.toNat
  let r := x.reg.toNat
  if x.op = 1 then { t with regs := t.regs.set r (nth t.words c 0) }
  else if x.op = 2 then { t with words := t.words.set c (valOf t.regs x.newR x.newI) }
  else if x.op = 3 then
    if nth t.words c 0 = valOf t.regs x.oldR x.oldI then { t with words := t.words.set c (valOf t.regs x.newR x.newI), regs := t.regs.set r 1 } else { t with regs := t.regs.set r 0 }
  else if x.op = 4 then { t with regs := t.regs.set r (uw (uw (nth t.words c 0 + valOf t.regs x.newR x.newI) - valOf t.regs x.newR x.newI)), words := t.words.set c (uw (nth t.words c 0 + valOf t.regs x.newR x.newI)) }
  else if x.op = 5 then (if nth t.regs r 0 = valOf t.regs x.newR x.newI then { t with at_ := min (t.at_ + x.n.toNat) len } else t)
  else t

/-- How a thread lies in memory. -/
structure ThAt (w : World) (tb : Nat) (pv : Value) (b slot : Nat) (t : Th) : Prop where
  hb : w.heap[tb]? = some (.cells (pv :: .iface 84 (.agg #[.pointer (some ⟨b, 0, none⟩), .int .i64 slot]) :: (t.regs.map (.int .u64) ++ [.int .i64 t.at_])).toArray 98 (0, 0))
  regs : t.regs.length = 4
  hp : w.ownsRow 0 140 8 pv t.prog.length (flatI t.prog)
  off : pv.ownBlock ≠ some tb

section
variable {w w' : World} {tb b slot : Nat} {pv : Value} {t : Th}

theorem ThAt.keep (h : ThAt w tb pv b slot t) {S : List Nat} (k : Keep S w w') (h1 : tb ∉ S) (h2 : ∀ g, pv.ownBlock = some g → g ∉ S) : ThAt w' tb pv b slot t :=
  ⟨(k.block tb (lt_of h.hb) h1).trans h.hb, h.regs, Har.owns_block h.hp fun g hg => k.block g (h.hp.lt g hg).2 (h2 g hg), h.off⟩
theorem ThAt.cell0 (h : ThAt w tb pv b slot t) : w.cell? ⟨tb, 0, none⟩ = some pv := by rw [cell_of h.hb]; rfl
theorem ThAt.cell1 (h : ThAt w tb pv b slot t) : w.cell? ⟨tb, 1, none⟩ = some (.iface 84 (.agg #[.pointer (some ⟨b, 0, none⟩), .int .i64 slot])) := by rw [cell_of h.hb]; rfl
theorem ThAt.reg (h : ThAt w tb pv b slot t) {r : Nat} (hr : r < 4) : w.cell? ⟨tb, 2 + r, none⟩ = some (.int .u64 (nth t.regs r 0)) := by
  rw [cell_of h.hb, List.getElem?_toArray, show 2 + r = r + 1 + 1 by omega, List.getElem?_cons_succ, List.getElem?_cons_succ, List.getElem?_append_left (by rw [List.length_map, h.regs]; exact hr), List.getElem?_map]
  rw [nth, List.getD_eq_getElem?_getD, List.getElem?_eq_getElem (by rw [h.regs]; exact hr)]
  rfl
theorem ThAt.cell6 (h : ThAt w tb pv b slot t) : w.cell? ⟨tb, 6, none⟩ = some (.int .i64 t.at_) := by
  rw [cell_of h.hb, List.getElem?_toArray, show 6 = 4 + 1 + 1 by omega, List.getElem?_cons_succ, List.getElem?_cons_succ, List.getElem?_append_right (by rw [List.length_map, h.regs]; exact Nat.le_refl _), List.length_map, h.regs]
  rfl
theorem ThAt.free (h : ThAt w tb pv b slot t) (o : Nat) : w.frozen? ⟨tb, o, none⟩ = false := free_of h.hb o
theorem ThAt.setReg (h : ThAt w tb pv b slot t) {r : Nat} (hr : r < 4) (x : Int) : ThAt (w.setCell ⟨tb, 2 + r, none⟩ (.int .u64 x)) tb pv b slot { t with regs := t.regs.set r x } := by
  refine ⟨?_, by simpa using h.regs, Har.owns_block h.hp fun g hg => set_other (fun e => h.off (by rw [hg, e])) _ _, h.off⟩
  rw [set_same h.hb]
  congr 2
  rw [← Array.toList_inj]
  simp only [Array.toList_setIfInBounds]
  rw [show 2 + r = r + 1 + 1 by omega, List.set_cons_succ, List.set_cons_succ, List.map_set, List.set_append_left _ _ (by rw [List.length_map, h.regs]; exact hr)]
theorem ThAt.setAt (h : ThAt w tb pv b slot t) (x : Nat) : ThAt (w.setCell ⟨tb, 6, none⟩ (.int .i64 x)) tb pv b slot { t with at_ := x } := by
  refine ⟨?_, h.regs, Har.owns_block h.hp fun g hg => set_other (fun e => h.off (by rw [hg, e])) _ _, h.off⟩
  rw [set_same h.hb]
  congr 2
  rw [← Array.toList_inj]
  simp only [Array.toList_setIfInBounds]
  rw [show 6 = 4 + 1 + 1 by omega, List.set_cons_succ, List.set_cons_succ, List.set_append_right _ _ (by rw [List.length_map, h.regs]; exact Nat.le_refl _), List.length_map, h.regs]
  rfl
end
end Go.Proofs.YtdkdeiofjoccnaaGreat.Lit

/- A litmus program's memory: the slot of an arena. -/
namespace Go.Proofs.YtdkdeiofjoccnaaGreat.Lit
open Go.RowKit Go.Proofs.YtdkdeiofjoccnaaGreat.Mem Go.Proofs.YtdkdeiofjoccnaaGreat.Ar Go.Proofs.YtdkdeiofjoccnaaGreat.Un
set_option linter.unusedVariables false
set_option maxRecDepth 100000
variable {w : World} {L : Bk} {A : Arena Unit}

/-- the word of a cell -/
def wordOf (A : Arena Unit) (slot cell : Int) : Int := nth A.words (wordAt A slot.toNat cell.toNat) 0
/-- a word written -/
def wrote (A : Arena Unit) (slot cell x : Int) : Arena Unit := { counted A with words := A.words.set (wordAt A slot.toNat cell.toNat) x }

theorem s_load (h : Un.At 0 w L A) (slot cell : Int) (hin : inUseB A slot = true) (hc0 : 0 ≤ cell) (hc : cell < A.width) :
    Calls Tryz.prog 165 #[.agg #[.pointer (some ⟨L.b, 0, none⟩), .int .i64 slot], .int .i64 cell] w fun e w' => e = .returned (.int .u64 (wordOf A slot cell)) ∧ Un.At 0 w' L (counted A) ∧ Keep L.blocks w w' := by
  have HA := Lib.hid h
  have HI := Lib.hid hin
  clear h hin
  go_enter Tryz.func165, Tryz.ntmps165
  go_wp2_with fail
  have hA := HA.out.keep ((Keep.refl [] w).alloc (.cells #[.pointer (some ⟨L.b, 0, none⟩), .int .i64 slot] 84 (0, 0))) (by simp)
  have H1 := Lib.hid hA
  clear hA
  refine (load_ok H1.out slot cell HI.out hc0 hc).mono ?_
  rintro e w2 ⟨rfl, h2, k2⟩
  have H2 := Lib.hid h2
  have K2 := Lib.hid (((Keep.refl L.blocks w).alloc (.cells #[.pointer (some ⟨L.b, 0, none⟩), .int .i64 slot] 84 (0, 0))).trans k2)
  clear h2 k2
  go_wp2_with fail
  go_ret
  exact ⟨rfl, H2.out, K2.out⟩
theorem s_store (h : Un.At 0 w L A) (slot cell x : Int) (hin : inUseB A slot = true) (hc0 : 0 ≤ cell) (hc : cell < A.width) :
    Calls Tryz.prog 166 #[.agg #[.pointer (some ⟨L.b, 0, none⟩), .int .i64 slot], .int .i64 cell, .int .u64 x] w fun e w' => e = .returned (.tuple #[]) ∧ Un.At 0 w' L (wrote A slot cell x) ∧ Keep L.blocks w w' := by
  have HA := Lib.hid h
  have HI := Lib.hid hin
  clear h hin
  go_enter Tryz.func166, Tryz.ntmps166
  go_wp2_with fail
  have hA := HA.out.keep ((Keep.refl [] w).alloc (.cells #[.pointer (some ⟨L.b, 0, none⟩), .int .i64 slot] 84 (0, 0))) (by simp)
  have H1 := Lib.hid hA
  clear hA
  refine (store_ok H1.out slot cell x HI.out hc0 hc).mono ?_
  rintro e w2 ⟨rfl, h2, k2⟩
  have H2 := Lib.hid h2
  have K2 := Lib.hid (((Keep.refl L.blocks w).alloc (.cells #[.pointer (some ⟨L.b, 0, none⟩), .int .i64 slot] 84 (0, 0))).trans k2)
  clear h2 k2
  go_wp2_with fail
  refine bodyPost_end (results_none rfl _ _ _) rfl ?_
  exact ⟨rfl, H2.out, K2.out⟩
theorem s_swap_hit (h : Un.At 0 w L A) (slot cell x y : Int) (hin : inUseB A slot = true) (hc0 : 0 ≤ cell) (hc : cell < A.width) (hx : wordOf A slot cell = x) :
    Calls Tryz.prog 167 #[.agg #[.pointer (some ⟨L.b, 0, none⟩), .int .i64 slot], .int .i64 cell, .int .u64 x, .int .u64 y] w fun e w' => e = .returned (.bool true) ∧ Un.At 0 w' L (wrote A slot cell y) ∧ Keep L.blocks w w' := by
  have HA := Lib.hid h
  have HI := Lib.hid hin
  have HX := Lib.hid hx
  clear h hin hx
  go_enter Tryz.func167, Tryz.ntmps167
  go_wp2_with fail
  have hA := HA.out.keep ((Keep.refl [] w).alloc (.cells #[.pointer (some ⟨L.b, 0, none⟩), .int .i64 slot] 84 (0, 0))) (by simp)
  have H1 := Lib.hid hA
  clear hA
  refine (cas_hit H1.out slot cell x y HI.out hc0 hc HX.out).mono ?_
  rintro e w2 ⟨rfl, h2, k2⟩
  have H2 := Lib.hid h2
  have K2 := Lib.hid (((Keep.refl L.blocks w).alloc (.cells #[.pointer (some ⟨L.b, 0, none⟩), .int .i64 slot] 84 (0, 0))).trans k2)
  clear h2 k2
  go_wp2_with fail
  go_ret
  exact ⟨rfl, H2.out, K2.out⟩
theorem s_swap_miss (h : Un.At 0 w L A) (slot cell x y : Int) (hin : inUseB A slot = true) (hc0 : 0 ≤ cell) (hc : cell < A.width) (hx : ¬ wordOf A slot cell = x) :
    Calls Tryz.prog 167 #[.agg #[.pointer (some ⟨L.b, 0, none⟩), .int .i64 slot], .int .i64 cell, .int .u64 x, .int .u64 y] w fun e w' => e = .returned (.bool false) ∧ Un.At 0 w' L (counted A) ∧ Keep L.blocks w w' := by
  have HA := Lib.hid h
  have HI := Lib.hid hin
  have HX := Lib.hid hx
  clear h hin hx
  go_enter Tryz.func167, Tryz.ntmps167
  go_wp2_with fail
  have hA := HA.out.keep ((Keep.refl [] w).alloc (.cells #[.pointer (some ⟨L.b, 0, none⟩), .int .i64 slot] 84 (0, 0))) (by simp)
  have H1 := Lib.hid hA
  clear hA
  refine (cas_miss H1.out slot cell x y HI.out hc0 hc HX.out).mono ?_
  rintro e w2 ⟨rfl, h2, k2⟩
  have H2 := Lib.hid h2
  have K2 := Lib.hid (((Keep.refl L.blocks w).alloc (.cells #[.pointer (some ⟨L.b, 0, none⟩), .int .i64 slot] 84 (0, 0))).trans k2)
  clear h2 k2
  go_wp2_with fail
  go_ret
  exact ⟨rfl, H2.out, K2.out⟩
theorem s_add (h : Un.At 0 w L A) (slot cell x : Int) (hin : inUseB A slot = true) (hc0 : 0 ≤ cell) (hc : cell < A.width) :
    Calls Tryz.prog 164 #[.agg #[.pointer (some ⟨L.b, 0, none⟩), .int .i64 slot], .int .i64 cell, .int .u64 x] w fun e w' => e = .returned (.int .u64 (uw (uw (wordOf A slot cell + x) - x))) ∧ Un.At 0 w' L (wrote A slot cell (uw (wordOf A slot cell + x))) ∧ Keep L.blocks w w' := by
  have HA := Lib.hid h
  have HI := Lib.hid hin
  clear h hin
  go_enter Tryz.func164, Tryz.ntmps164
  go_wp2_with fail
  have hA := HA.out.keep ((Keep.refl [] w).alloc (.cells #[.pointer (some ⟨L.b, 0, none⟩), .int .i64 slot] 84 (0, 0))) (by simp)
  have H1 := Lib.hid hA
  clear hA
  refine (add_ok H1.out slot cell x HI.out hc0 hc).mono ?_
  rintro e w2 ⟨rfl, h2, k2⟩
  have H2 := Lib.hid h2
  have K2 := Lib.hid (((Keep.refl L.blocks w).alloc (.cells #[.pointer (some ⟨L.b, 0, none⟩), .int .i64 slot] 84 (0, 0))).trans k2)
  clear h2 k2
  go_wp2_with fail
  go_ret
  exact ⟨rfl, H2.out, K2.out⟩
end Go.Proofs.YtdkdeiofjoccnaaGreat.Lit

/- A thread's small functions: val. -/
namespace Go.Proofs.YtdkdeiofjoccnaaGreat.Lit
open Go.RowKit Go.Proofs.YtdkdeiofjoccnaaGreat.Mem Go.Proofs.YtdkdeiofjoccnaaGreat.Ar Go.Proofs.YtdkdeiofjoccnaaGreat.Un
set_option linter.unusedVariables false
set_option maxRecDepth 100000
variable {w : World} {L : Bk} {A : Arena Unit} {tb b slot : Nat} {pv : Value} {t : Th}

theorem val_imm (r i : Int) (h : r < 0) (a : Value) :
    Calls Tryz.prog 130 #[a, .agg #[.int .i64 r, .int .u64 i]] w fun e w' => e = .returned (.int .u64 i) ∧ w' = w.alloc (.cells #[.int .i64 r, .int .u64 i] 138 (0, 0)) := by
  go_enter Tryz.func130, Tryz.ntmps130
  go_wp2_with fail
  go_ret
  exact ⟨rfl, rfl⟩

theorem val_reg (h : ThAt w tb pv b slot t) (r : Nat) (hr : r < 4) (i : Int) :
    Calls Tryz.prog 130 #[.pointer (some ⟨tb, 0, none⟩), .agg #[.int .i64 r, .int .u64 i]] w fun e w' => e = .returned (.int .u64 (uw (i + nth t.regs r 0))) ∧ ∃ n, w' = (w.alloc (.cells #[.int .i64 r, .int .u64 i] 138 (0, 0))).drewN n := by
  have k : Keep [] w (w.alloc (.cells #[.int .i64 r, .int .u64 i] 138 (0, 0))) := (Keep.refl _ _).alloc _
  have hc := k.cell (h.reg hr) (by simp)
  have hr' : ¬ (r : Int) < 0 := by omega
  have hr2 : (r : Int) < 4 := by omega
  have hr3 : 0 ≤ (r : Int) := by omega
  clear h k
  go_enter Tryz.func130, Tryz.ntmps130
  go_wp2_with fail
  go_quiet (fail)
  go_wp2_with fail
  go_ret
  exact ⟨rfl, _, rfl⟩

theorem arena_lt {mu : Int} (h : Un.At mu w L A) : ∀ x ∈ L.blocks, x < w.heap.size := by
  intro x hx
  simp only [Bk.blocks, List.mem_cons, List.not_mem_nil, or_false] at hx
  rcases hx with rfl | rfl | rfl | rfl | rfl | rfl
  · exact lt_of h.hb
  · exact lt_of h.hw
  · exact lt_of h.hu
  · exact lt_of h.hq
  · exact lt_of h.hi
  · exact lt_of h.ht

/-- what a thread's contracts keep apart -/
structure Off (L : Bk) (tb : Nat) (pv : Value) : Prop where
  tb : tb ∉ L.blocks
  pv : ∀ g, pv.ownBlock = some g → g ∉ L.blocks

theorem m_load (v : Value) (w : World) : (method 388 84 v "strata/sched.load").run Tryz.prog w = .ok (165, v) w := by kernel_rfl
theorem n_load (v : Value) (w : World) : (nilAhead 388 84 v "strata/sched.load").run Tryz.prog w = .ok (some false) w := by kernel_rfl

set_option maxHeartbeats 1000000 in
theorem do_load (h : ThAt w tb pv L.b slot t) (hA : Un.At 0 w L A) (hin : inUseB A slot = true) (ho : Off L tb pv) (op cell : Int) (r : Nat) (nr ni or oi n : Int) (hc0 : 0 ≤ cell) (hc : cell < A.width) (hr : r < 4) :
    Calls Tryz.prog 103 #[.pointer (some ⟨tb, 0, none⟩), .agg #[.int .i64 op, .int .i64 cell, .int .i64 r, .int .i64 nr, .int .u64 ni, .int .i64 or, .int .u64 oi, .int .i64 n]] w fun e w' => e = .returned (.tuple #[]) ∧
      ThAt w' tb pv L.b slot { t with regs := t.regs.set r (wordOf A slot cell) } ∧ Un.At 0 w' L (counted A) ∧ Keep (tb :: L.blocks) w w' := by
  obtain ⟨X, hX⟩ : ∃ X : Obj, X = .cells #[.int .i64 op, .int .i64 cell, .int .i64 r, .int .i64 nr, .int .u64 ni, .int .i64 or, .int .u64 oi, .int .i64 n] 140 (0, 0) := ⟨_, rfl⟩
  have kx : Keep [] w (w.alloc X) := (Keep.refl _ _).alloc _
  have hx : (w.alloc X).heap[w.heap.size]? = some X := alloc_new w X
  have hT := h.keep kx (by simp) (by simp)
  have hAA := hA.keep kx (by simp)
  have hxo : w.heap.size ∉ L.blocks := fun hm => by have := arena_lt hA _ hm; omega
  obtain ⟨w1, hw1⟩ : ∃ w1, w1 = w.alloc X := ⟨_, rfl⟩
  rw [← hw1] at kx hx hT hAA
  rw [hX] at hx hw1
  have x1 : w1.cell? ⟨w.heap.size, 1, none⟩ = some (.int .i64 cell) := by rw [cell_of hx]; rfl
  have x2 : w1.cell? ⟨w.heap.size, 2, none⟩ = some (.int .i64 r) := by rw [cell_of hx]; rfl
  have t1 := hT.cell1
  have HT := Lib.hid hT
  have HA := Lib.hid hAA
  have HO := Lib.hid ho
  have HI := Lib.hid hin
  have HX := Lib.hid hxo
  have hm : ∀ w : World, (method 388 84 (.agg #[.pointer (some ⟨L.b, 0, none⟩), .int .i64 slot]) "strata/sched.load").run Tryz.prog w = .ok (165, .agg #[.pointer (some ⟨L.b, 0, none⟩), .int .i64 slot]) w := fun w => m_load _ w
  have hn : ∀ w : World, (nilAhead 388 84 (.agg #[.pointer (some ⟨L.b, 0, none⟩), .int .i64 slot]) "strata/sched.load").run Tryz.prog w = .ok (some false) w := fun w => n_load _ w
  have hr2 : (r : Int) < 4 := by omega
  have hr3 : 0 ≤ (r : Int) := by omega
  clear h hA hin ho hT hAA hX hx hxo
  go_enter Tryz.func103, Tryz.ntmps103
  go_wp2_with fail
  rw [← hw1]
  clear hw1
  go_region_with (go_at_call 165; refine (s_load HA.out.drew slot cell HI.out hc0 hc).mono ?_; rintro e w2 ⟨rfl, h2, k2⟩; have H2 := Lib.hid h2; have K2 := Lib.hid k2; have T2 := Lib.hid ((HT.out.keep ((Keep.refl [] w1).drew) (by simp) (by simp)).keep k2 HO.out.tb HO.out.pv); have y3 := T2.out.reg hr; have y4 := T2.out.free (2 + r); have y1 := k2.cell (show w1.drew.cell? ⟨w.heap.size, 1, none⟩ = _ from x1) HX.out; have y2 := k2.cell (show w1.drew.cell? ⟨w.heap.size, 2, none⟩ = _ from x2) HX.out; clear h2 k2)
  all_goals
    go_wp2_with fail
    refine bodyPost_end (results_none rfl _ _ _) rfl ?_
    refine ⟨rfl, T2.out.setReg hr _, H2.out.keep ((Keep.refl [tb] w2).set (.inl (by simp)) _ _) (by simpa using HO.out.tb), ?_⟩
    exact (((kx.mono (by simp)).drew.trans (K2.out.mono fun x hx => List.mem_cons_of_mem _ hx)).set (.inl (by simp)) _ _)
end Go.Proofs.YtdkdeiofjoccnaaGreat.Lit

/- A thread's store, swap, add, skip. -/
namespace Go.Proofs.YtdkdeiofjoccnaaGreat.Lit
open Go.RowKit Go.Proofs.YtdkdeiofjoccnaaGreat.Mem Go.Proofs.YtdkdeiofjoccnaaGreat.Ar Go.Proofs.YtdkdeiofjoccnaaGreat.Un
set_option linter.unusedVariables false
set_option maxRecDepth 100000
variable {w : World} {L : Bk} {A : Arena Unit} {tb b slot : Nat} {pv : Value} {t : Th}

theorem val_any (h : ThAt w tb pv b slot t) (r i : Int) (h1 : -1 ≤ r) (h2 : r ≤ 3) :
    Calls Tryz.prog 130 #[.pointer (some ⟨tb, 0, none⟩), .agg #[.int .i64 r, .int .u64 i]] w fun e w' => e = .returned (.int .u64 (valOf t.regs r i)) ∧ Keep [] w w' := by
  by_cases hr : r < 0
  · have e1 : valOf t.regs r i = i := by unfold valOf; rw [if_pos hr]
    rw [e1]
    exact (val_imm r i hr _).mono fun e w' ⟨q1, q2⟩ => ⟨q1, q2 ▸ (Keep.refl _ _).alloc _⟩
  · obtain ⟨k, rfl⟩ : ∃ k : Nat, r = k := ⟨r.toNat, by omega⟩
    have e1 : valOf t.regs k i = uw (i + nth t.regs k 0) := by unfold valOf; rw [if_neg hr, Int.toNat_natCast]
    rw [e1]
    exact (val_reg h k (by omega) i).mono fun e w' ⟨q1, n, q2⟩ => ⟨q1, q2 ▸ ((Keep.refl _ _).alloc _).drewN n⟩

theorem m_store (v : Value) (w : World) : (method 388 84 v "strata/sched.store").run Tryz.prog w = .ok (166, v) w := by kernel_rfl
theorem n_store (v : Value) (w : World) : (nilAhead 388 84 v "strata/sched.store").run Tryz.prog w = .ok (some false) w := by kernel_rfl
theorem m_swap (v : Value) (w : World) : (method 388 84 v "strata/sched.swap").run Tryz.prog w = .ok (167, v) w := by kernel_rfl
theorem n_swap (v : Value) (w : World) : (nilAhead 388 84 v "strata/sched.swap").run Tryz.prog w = .ok (some false) w := by kernel_rfl
theorem m_add (v : Value) (w : World) : (method 388 84 v "strata/sched.add").run Tryz.prog w = .ok (164, v) w := by kernel_rfl
theorem n_add (v : Value) (w : World) : (nilAhead 388 84 v "strata/sched.add").run Tryz.prog w = .ok (some false) w := by kernel_rfl

/-- the boxed instruction, in a later world -/
structure XAt (w : World) (xb : Nat) (x : Ins) : Prop where
  c : ∀ (i : Nat) (hi : i < 8), w.cell? ⟨xb, i, none⟩ = some (x.cells[i]'(by simpa [Ins.cells] using hi))
theorem XAt.keep {w w' : World} {xb : Nat} {x : Ins} (h : XAt w xb x) {S : List Nat} (k : Keep S w w') (hn : xb ∉ S) : XAt w' xb x := ⟨fun i hi => k.cell (h.c i hi) hn⟩
theorem XAt.x1 {w : World} {xb : Nat} {x : Ins} (h : XAt w xb x) : w.cell? ⟨xb, 1, none⟩ = some (.int .i64 x.cell) := h.c 1 (by omega)
theorem XAt.x2 {w : World} {xb : Nat} {x : Ins} (h : XAt w xb x) : w.cell? ⟨xb, 2, none⟩ = some (.int .i64 x.reg) := h.c 2 (by omega)
theorem XAt.x3 {w : World} {xb : Nat} {x : Ins} (h : XAt w xb x) : w.cell? ⟨xb, 3, none⟩ = some (.int .i64 x.newR) := h.c 3 (by omega)
theorem XAt.x4 {w : World} {xb : Nat} {x : Ins} (h : XAt w xb x) : w.cell? ⟨xb, 4, none⟩ = some (.int .u64 x.newI) := h.c 4 (by omega)
theorem XAt.x5 {w : World} {xb : Nat} {x : Ins} (h : XAt w xb x) : w.cell? ⟨xb, 5, none⟩ = some (.int .i64 x.oldR) := h.c 5 (by omega)
theorem XAt.x6 {w : World} {xb : Nat} {x : Ins} (h : XAt w xb x) : w.cell? ⟨xb, 6, none⟩ = some (.int .u64 x.oldI) := h.c 6 (by omega)
theorem XAt.x7 {w : World} {xb : Nat} {x : Ins} (h : XAt w xb x) : w.cell? ⟨xb, 7, none⟩ = some (.int .i64 x.n) := h.c 7 (by omega)

/-- an instruction as an argument -/
def Ins.arg (x : Ins) : Value := .agg #[.int .i64 x.op, .int .i64 x.cell, .int .i64 x.reg, .int .i64 x.newR, .int .u64 x.newI, .int .i64 x.oldR, .int .u64 x.oldI, .int .i64 x.n]
def Ins.obj (x : Ins) : Obj := .cells #[.int .i64 x.op, .int .i64 x.cell, .int .i64 x.reg, .int .i64 x.newR, .int .u64 x.newI, .int .i64 x.oldR, .int .u64 x.oldI, .int .i64 x.n] 140 (0, 0)

/-- the beginning of each of a thread's functions: the instruction is boxed -/
theorem enter (h : ThAt w tb pv L.b slot t) (hA : Un.At 0 w L A) (x : Ins) : ∃ w1, w.alloc x.obj = w1 ∧ Keep [] w w1 ∧ ThAt w1 tb pv L.b slot t ∧ Un.At 0 w1 L A ∧ XAt w1 w.heap.size x ∧ w.heap.size ∉ L.blocks ∧ w.heap.size ≠ tb := by
  have kx : Keep [] w (w.alloc x.obj) := (Keep.refl _ _).alloc _
  have hx : (w.alloc x.obj).heap[w.heap.size]? = some x.obj := alloc_new w x.obj
  refine ⟨_, rfl, kx, h.keep kx (by simp) (by simp), hA.keep kx (by simp), ⟨fun i hi => ?_⟩, fun hm => by have := arena_lt hA _ hm; omega, fun e => by have := lt_of h.hb; omega⟩
  rw [cell_of hx, ← Array.getElem?_toList]
  show x.cells[i]? = _
  exact List.getElem?_eq_getElem _

set_option maxHeartbeats 1000000 in
theorem do_store (h : ThAt w tb pv L.b slot t) (hA : Un.At 0 w L A) (hin : inUseB A slot = true) (ho : Off L tb pv) (x : Ins) (hc0 : 0 ≤ x.cell) (hc : x.cell < A.width) (h1 : -1 ≤ x.newR) (h2 : x.newR ≤ 3) :
    Calls Tryz.prog 104 #[.pointer (some ⟨tb, 0, none⟩), .agg #[.int .i64 x.op, .int .i64 x.cell, .int .i64 x.reg, .int .i64 x.newR, .int .u64 x.newI, .int .i64 x.oldR, .int .u64 x.oldI, .int .i64 x.n]] w fun e w' => e = .returned (.tuple #[]) ∧
      ThAt w' tb pv L.b slot t ∧ Un.At 0 w' L (wrote A slot x.cell (valOf t.regs x.newR x.newI)) ∧ Keep (tb :: L.blocks) w w' := by
  obtain ⟨w1, hw1, kx, hT, hAA, hX, hxo, hxt⟩ := enter h hA x
  have x1 := hX.x1
  have x3 := hX.x3
  have x4 := hX.x4
  have t1 := hT.cell1
  have HT := Lib.hid hT
  have HA := Lib.hid hAA
  have HO := Lib.hid ho
  have HI := Lib.hid hin
  have HX := Lib.hid (And.intro hX hxo)
  have hm : ∀ w : World, (method 388 84 (.agg #[.pointer (some ⟨L.b, 0, none⟩), .int .i64 slot]) "strata/sched.store").run Tryz.prog w = .ok (166, .agg #[.pointer (some ⟨L.b, 0, none⟩), .int .i64 slot]) w := fun w => m_store _ w
  have hn : ∀ w : World, (nilAhead 388 84 (.agg #[.pointer (some ⟨L.b, 0, none⟩), .int .i64 slot]) "strata/sched.store").run Tryz.prog w = .ok (some false) w := fun w => n_store _ w
  clear h hA hin ho hT hAA hX hxo hxt
  go_enter Tryz.func104, Tryz.ntmps104
  go_wp2_with fail
  rw [show w.alloc (.cells #[.int .i64 x.op, .int .i64 x.cell, .int .i64 x.reg, .int .i64 x.newR, .int .u64 x.newI, .int .i64 x.oldR, .int .u64 x.oldI, .int .i64 x.n] 140 (0, 0)) = w1 from hw1]
  clear hw1
  go_region_held3 (fun w' => w'.cell? ⟨w.heap.size, 1, none⟩ = some (.int .i64 x.cell) ∧ w'.cell? ⟨w.heap.size, 3, none⟩ = some (.int .i64 x.newR) ∧ w'.cell? ⟨w.heap.size, 4, none⟩ = some (.int .u64 x.newI) ∧ w'.cell? ⟨tb, 1, none⟩ = some (.iface 84 (.agg #[.pointer (some ⟨L.b, 0, none⟩), .int .i64 slot]))) (go_keep)
    (first
      | (go_at_call 130; refine (val_any (HT.out.keep ((Keep.refl [] w1).drew) (by simp) (by simp)) x.newR x.newI h1 h2).mono ?_; rintro e w2 ⟨rfl, k2⟩; have K2 := Lib.hid k2; have T2 := Lib.hid ((HT.out.keep ((Keep.refl [] w1).drew) (by simp) (by simp)).keep k2 (by simp) (by simp)); have A2 := Lib.hid (HA.out.drew.keep k2 (by simp)); have y1 := k2.cell (show w1.drew.cell? ⟨w.heap.size, 1, none⟩ = _ from x1) (by simp); have y3 := k2.cell (show w1.drew.cell? ⟨w.heap.size, 3, none⟩ = _ from x3) (by simp); have y4 := k2.cell (show w1.drew.cell? ⟨w.heap.size, 4, none⟩ = _ from x4) (by simp); have u1 := T2.out.cell1; clear k2)
      | (go_at_call 166; refine (s_store A2.out slot x.cell _ HI.out hc0 hc).mono ?_; rintro e w3 ⟨rfl, h3, k3⟩; have H3 := Lib.hid h3; have K3 := Lib.hid k3; have T3 := Lib.hid (T2.out.keep k3 HO.out.tb HO.out.pv); have z1 := k3.cell y1 HX.out.2; have z3 := k3.cell y3 HX.out.2; have z4 := k3.cell y4 HX.out.2; have v1 := T3.out.cell1; clear h3 k3))
  go_wp2_with fail
  refine bodyPost_end (results_none rfl _ _ _) rfl ?_
  refine ⟨rfl, T3.out, H3.out, ?_⟩
  exact ((kx.mono (by simp)).drew.trans (K2.out.mono (by simp))).trans (K3.out.mono fun x hx => List.mem_cons_of_mem _ hx)
end Go.Proofs.YtdkdeiofjoccnaaGreat.Lit

/- A thread's swap, add, skip. -/
namespace Go.Proofs.YtdkdeiofjoccnaaGreat.Lit
open Go.RowKit Go.Proofs.YtdkdeiofjoccnaaGreat.Mem Go.Proofs.YtdkdeiofjoccnaaGreat.Ar Go.Proofs.YtdkdeiofjoccnaaGreat.Un
set_option linter.unusedVariables false
set_option maxRecDepth 100000
variable {w : World} {L : Bk} {A : Arena Unit} {tb b slot : Nat} {pv : Value} {t : Th}

theorem cell_aside {w : World} {a p : Addr} {v u : Value} (h : w.cell? a = some u) (hne : p ≠ a) : (w.setCell p v).cell? a = some u := (World.cell?_setCell_other w p a v hne).trans h
theorem ne_block {a c o o' : Nat} (h : c ≠ a) : (⟨a, o', none⟩ : Addr) ≠ ⟨c, o, none⟩ := fun e => h (by cases e; rfl)
theorem ne_off {a o o' : Nat} (h : o' ≠ o) : (⟨a, o', none⟩ : Addr) ≠ ⟨a, o, none⟩ := fun e => h (by cases e; rfl)

set_option maxHeartbeats 1000000 in
theorem do_add (h : ThAt w tb pv L.b slot t) (hA : Un.At 0 w L A) (hin : inUseB A slot = true) (ho : Off L tb pv) (x : Ins) (hc0 : 0 ≤ x.cell) (hc : x.cell < A.width) (h1 : -1 ≤ x.newR) (h2 : x.newR ≤ 3) (r : Nat) (hr : r < 4) (hxr : x.reg = r) :
    Calls Tryz.prog 106 #[.pointer (some ⟨tb, 0, none⟩), .agg #[.int .i64 x.op, .int .i64 x.cell, .int .i64 x.reg, .int .i64 x.newR, .int .u64 x.newI, .int .i64 x.oldR, .int .u64 x.oldI, .int .i64 x.n]] w fun e w' => e = .returned (.tuple #[]) ∧
      ThAt w' tb pv L.b slot { t with regs := t.regs.set r (uw (uw (wordOf A slot x.cell + valOf t.regs x.newR x.newI) - valOf t.regs x.newR x.newI)) } ∧ Un.At 0 w' L (wrote A slot x.cell (uw (wordOf A slot x.cell + valOf t.regs x.newR x.newI))) ∧ Keep (tb :: L.blocks) w w' := by
  obtain ⟨w1, hw1, kx, hT, hAA, hX, hxo, hxt⟩ := enter h hA x
  have x1 := hX.x1
  have x2 := hX.x2
  rw [hxr] at x2
  have x3 := hX.x3
  have x4 := hX.x4
  have t1 := hT.cell1
  have HT := Lib.hid hT
  have HA := Lib.hid hAA
  have HO := Lib.hid ho
  have HI := Lib.hid hin
  have HX := Lib.hid (And.intro hX hxo)
  have hm : ∀ w : World, (method 388 84 (.agg #[.pointer (some ⟨L.b, 0, none⟩), .int .i64 slot]) "strata/sched.add").run Tryz.prog w = .ok (164, .agg #[.pointer (some ⟨L.b, 0, none⟩), .int .i64 slot]) w := fun w => m_add _ w
  have hn : ∀ w : World, (nilAhead 388 84 (.agg #[.pointer (some ⟨L.b, 0, none⟩), .int .i64 slot]) "strata/sched.add").run Tryz.prog w = .ok (some false) w := fun w => n_add _ w
  have HR := Lib.hid hxr
  have HXT := Lib.hid hxt
  have hr2 : (r : Int) < 4 := by omega
  have hr3 : 0 ≤ (r : Int) := by omega
  clear h hA hin ho hT hAA hX hxo hxt hxr
  go_enter Tryz.func106, Tryz.ntmps106
  go_wp2_with fail
  rw [show w.alloc (.cells #[.int .i64 x.op, .int .i64 x.cell, .int .i64 x.reg, .int .i64 x.newR, .int .u64 x.newI, .int .i64 x.oldR, .int .u64 x.oldI, .int .i64 x.n] 140 (0, 0)) = w1 from hw1]
  clear hw1
  go_region_held3 (fun w' => w'.cell? ⟨w.heap.size, 1, none⟩ = some (.int .i64 x.cell) ∧ w'.cell? ⟨w.heap.size, 2, none⟩ = some (.int .i64 r) ∧ w'.cell? ⟨w.heap.size, 3, none⟩ = some (.int .i64 x.newR) ∧ w'.cell? ⟨w.heap.size, 4, none⟩ = some (.int .u64 x.newI) ∧ w'.cell? ⟨tb, 1, none⟩ = some (.iface 84 (.agg #[.pointer (some ⟨L.b, 0, none⟩), .int .i64 slot]))) (first | go_keep | exact ⟨cell_aside z1 (ne_block HXT.out), cell_aside z2 (ne_block HXT.out), cell_aside z3 (ne_block HXT.out), cell_aside z4 (ne_block HXT.out), cell_aside v1 (ne_off (by omega))⟩)
    (first
      | (go_at_call 130; refine (val_any (HT.out.keep ((Keep.refl [] w1).drew) (by simp) (by simp)) x.newR x.newI h1 h2).mono ?_; rintro e w2 ⟨rfl, k2⟩; have K2 := Lib.hid k2; have T2 := Lib.hid ((HT.out.keep ((Keep.refl [] w1).drew) (by simp) (by simp)).keep k2 (by simp) (by simp)); have A2 := Lib.hid (HA.out.drew.keep k2 (by simp)); have y1 := k2.cell (show w1.drew.cell? ⟨w.heap.size, 1, none⟩ = _ from x1) (by simp); have y2 := k2.cell (show w1.drew.cell? ⟨w.heap.size, 2, none⟩ = _ from x2) (by simp); have y3 := k2.cell (show w1.drew.cell? ⟨w.heap.size, 3, none⟩ = _ from x3) (by simp); have y4 := k2.cell (show w1.drew.cell? ⟨w.heap.size, 4, none⟩ = _ from x4) (by simp); have u1 := T2.out.cell1; clear k2)
      | (go_at_call 164; refine (s_add A2.out slot x.cell _ HI.out hc0 hc).mono ?_; rintro e w3 ⟨rfl, h3, k3⟩; have H3 := Lib.hid h3; have K3 := Lib.hid k3; have T3 := Lib.hid (T2.out.keep k3 HO.out.tb HO.out.pv); have z1 := k3.cell y1 HX.out.2; have z2 := k3.cell y2 HX.out.2; have z3 := k3.cell y3 HX.out.2; have z5 := T3.out.reg hr; have z6 := T3.out.free (2 + r); have z4 := k3.cell y4 HX.out.2; have v1 := T3.out.cell1; clear h3 k3))
  go_wp2_with fail
  refine bodyPost_end (results_none rfl _ _ _) rfl ?_
  refine ⟨rfl, T3.out.setReg hr _, H3.out.keep ((Keep.refl [tb] w3).set (.inl (by simp)) _ _) (by simpa using HO.out.tb), ?_⟩
  exact (((kx.mono (by simp)).drew.trans (K2.out.mono (by simp))).trans (K3.out.mono fun x hx => List.mem_cons_of_mem _ hx)).set (.inl (by simp)) _ _

end Go.Proofs.YtdkdeiofjoccnaaGreat.Lit
