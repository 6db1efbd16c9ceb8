import Derived.Test.YtdkdeiofjoccnaaGreatHeap
import Derived.Lib.Hide
import Derived.Outline
import Derived.BigQuiet
import Derived.Deep.AppendLies
import Derived.Deep.RegionLaw
import Derived.Test.YtdkdeiofjoccnaaGreatChecked
import Derived.KernelRfl
import Derived.RegionCalls
import Derived.Deep.RegionHeld3
/- The harness: what it is (plain Lean), how it lies in memory; note, Pending, Idle. -/
namespace Go.Proofs.YtdkdeiofjoccnaaGreat.Har
open Go.RowKit Go.Proofs.YtdkdeiofjoccnaaGreat.Mem
set_option linter.unusedVariables false

/-- one place in a queue -/
structure Job where
  mach : Value
  tag : Int
  called : Bool
def Job.cells (j : Job) : List Value := [j.mach, .int .i64 j.tag, .bool j.called]

/-- an event -/
structure Ev where
  kind : Int
  who : Int
  tag : Int
  at_ : Int
def Ev.cells (e : Ev) : List Value := [.int .i64 e.kind, .int .i64 e.who, .int .i64 e.tag, .int .i64 e.at_]
def evs (l : List Ev) : List Value := l.flatMap Ev.cells
theorem evs_length (l : List Ev) : (evs l).length = l.length * 4 := by
  induction l with
  | nil => rfl
  | cons e l ih => simp only [evs, List.flatMap_cons, List.length_append] at ih ⊢; rw [ih]; simp [Ev.cells]; omega
theorem evs_snoc (l : List Ev) (e : Ev) : evs (l ++ [e]) = evs l ++ e.cells := by simp [evs]

/-- a harness -/
structure Har where
  queues : List (List Job)
  steps : Int
  events : List Ev
  ended : List Value

/-- a queue in memory: its slice may begin within its block -/
structure QRow (w : World) (v : Value) (l : List Job) : Prop where
  row : (v = .slice none 0 0 ∧ l = []) ∨ ∃ g d cap cur, v = .slice (some ⟨g, d * 3, none⟩) l.length cap ∧ w.heap[g]? = some (.cells cur 182 (0, 0)) ∧
    l.length ≤ cap ∧ cap ≤ maxLen ∧ (d + cap) * 3 ≤ cur.size ∧ (cur.toList.drop (d * 3)).take (l.length * 3) = l.flatMap Job.cells

/-- all blocks that it has (l: the slices of the events, of the ended ones, of the queues) -/
def blocks (b bq : Nat) (l : List Value) : List Nat := b :: bq :: l.filterMap Value.ownBlock

theorem mem_blocks {b bq : Nat} {l : List Value} {x : Nat} : x ∈ blocks b bq l ↔ x = b ∨ x = bq ∨ ∃ (i : Nat) (hi : i < l.length), l[i].ownBlock = some x := by
  simp only [blocks, List.mem_cons, List.mem_filterMap]
  constructor
  · rintro (h | h | ⟨v, hv, hg⟩)
    · exact .inl h
    · exact .inr (.inl h)
    · obtain ⟨i, hi, rfl⟩ := List.getElem_of_mem hv
      exact .inr (.inr ⟨i, hi, hg⟩)
  · rintro (h | h | ⟨i, hi, hg⟩)
    · exact .inl h
    · exact .inr (.inl h)
    · exact .inr (.inr ⟨l[i], List.getElem_mem hi, hg⟩)

/-- no block is had twice -/
structure Apart (b bq : Nat) (l : List Value) : Prop where
  ne : b ≠ bq
  off : ∀ i (hi : i < l.length) g, l[i].ownBlock = some g → g ≠ b ∧ g ≠ bq
  two : ∀ i j (hi : i < l.length) (hj : j < l.length) g, l[i].ownBlock = some g → l[j].ownBlock = some g → i = j

theorem Apart.set {b bq : Nat} {l : List Value} (h : Apart b bq l) (i : Nat) (v : Value) (hv : ∀ (hi : i < l.length) g, v.ownBlock = some g → l[i].ownBlock = some g ∨ g ∉ blocks b bq l) : Apart b bq (l.set i v) := by
  refine ⟨h.ne, fun k hk g hg => ?_, fun j k hj hk g hg1 hg2 => ?_⟩
  · rw [List.getElem_set] at hg
    simp only [List.length_set] at hk
    split at hg
    · rename_i e
      subst e
      rcases hv hk g hg with h1 | h1
      · exact h.off i hk g h1
      · rw [mem_blocks] at h1
        exact ⟨fun e => h1 (.inl e), fun e => h1 (.inr (.inl e))⟩
    · exact h.off k hk g hg
  · rw [List.getElem_set] at hg1 hg2
    simp only [List.length_set] at hj hk
    split at hg1 <;> split at hg2
    · omega
    · rename_i e1 e2
      subst e1
      rcases hv hj g hg1 with h1 | h1
      · exact h.two i k hj hk g h1 hg2
      · exact absurd (mem_blocks.2 (.inr (.inr ⟨k, hk, hg2⟩))) h1
    · rename_i e1 e2
      subst e2
      rcases hv hk g hg2 with h1 | h1
      · exact h.two j i hj hk g hg1 h1
      · exact absurd (mem_blocks.2 (.inr (.inr ⟨j, hj, hg1⟩))) h1
    · exact h.two j k hj hk g hg1 hg2

/-- The harness H lies at b. vs: the queues' slices; ve, vd: the events' and the ended ones' slice. -/
structure At (w : World) (b bq : Nat) (vs : List Value) (ve vd : Value) (H : Har) : Prop where
  apart : Apart b bq (ve :: vd :: vs)
  hb : w.heap[b]? = some (.cells #[.slice (some ⟨bq, 0, none⟩) vs.length vs.length, .int .i64 H.steps, ve, vd] 105 (0, 0))
  hq : w.heap[bq]? = some (.cells vs.toArray 180 (0, 0))
  len : vs.length = H.queues.length ∧ vs.length ≤ 16
  rows : ∀ i (h1 : i < vs.length) (h2 : i < H.queues.length), QRow w vs[i] H.queues[i]
  he : w.ownsRow 0 190 4 ve H.events.length (evs H.events)
  hd : w.ownsRow 0 38 1 vd H.ended.length H.ended

theorem QRow.block {w w' : World} {v : Value} {l : List Job} (h : QRow w v l) (hb : ∀ g, v.ownBlock = some g → w'.heap[g]? = w.heap[g]?) : QRow w' v l := by
  refine ⟨h.row.imp id ?_⟩
  rintro ⟨g, d, cap, cur, rfl, hg, r⟩
  exact ⟨g, d, cap, cur, rfl, (hb g rfl).trans hg, r⟩
theorem QRow.lt {w : World} {v : Value} {l : List Job} (h : QRow w v l) : ∀ g, v.ownBlock = some g → g < w.heap.size := by
  intro g hg
  rcases h.row with ⟨rfl, -⟩ | ⟨g', d, cap, cur, rfl, hg', -⟩
  · simp [Value.ownBlock] at hg
  · simp [Value.ownBlock] at hg
    subst hg
    exact lt_of hg'
theorem owns_block {w w' : World} {base : Nat} {e : TypeId} {size : Nat} {v : Value} {n : Nat} {xs : List Value} (h : w.ownsRow base e size v n xs) (hb : ∀ g, v.ownBlock = some g → w'.heap[g]? = w.heap[g]?) : w'.ownsRow base e size v n xs := by
  refine ⟨h.1, h.2.imp id ?_⟩
  rintro ⟨g, cap, cur, rfl, h1, hg, r⟩
  exact ⟨g, cap, cur, rfl, h1, (hb g rfl).trans hg, r⟩

section
variable {w w' : World} {b bq : Nat} {vs : List Value} {ve vd : Value} {H : Har}

theorem mem_b {l : List Value} : b ∈ blocks b bq l := by simp [blocks]
theorem mem_bq {l : List Value} : bq ∈ blocks b bq l := by simp [blocks]
theorem mem_ve {g : Nat} (h : ve.ownBlock = some g) : g ∈ blocks b bq (ve :: vd :: vs) := mem_blocks.2 (.inr (.inr ⟨0, by simp, h⟩))
theorem mem_vd {g : Nat} (h : vd.ownBlock = some g) : g ∈ blocks b bq (ve :: vd :: vs) := mem_blocks.2 (.inr (.inr ⟨1, by simp, h⟩))
theorem mem_vs {i g : Nat} (hi : i < vs.length) (h : vs[i].ownBlock = some g) : g ∈ blocks b bq (ve :: vd :: vs) := mem_blocks.2 (.inr (.inr ⟨i + 2, by simpa using hi, h⟩))

theorem At.lt (h : At w b bq vs ve vd H) : ∀ x ∈ blocks b bq (ve :: vd :: vs), x < w.heap.size := by
  intro x hx
  rw [mem_blocks] at hx
  rcases hx with rfl | rfl | ⟨i, hi, hg⟩
  · exact lt_of h.hb
  · exact lt_of h.hq
  · rcases i with _ | _ | i
    · exact (h.he.lt x hg).2
    · exact (h.hd.lt x hg).2
    · have hi' : i < vs.length := by simpa using hi
      exact (h.rows i hi' (by have := h.len; omega)).lt x hg

/-- what leaves its blocks alone leaves the harness alone -/
theorem At.keep (h : At w b bq vs ve vd H) {S : List Nat} (k : Keep S w w') (hS : ∀ x ∈ S, x ∉ blocks b bq (ve :: vd :: vs)) : At w' b bq vs ve vd H := by
  have hb : ∀ x ∈ blocks b bq (ve :: vd :: vs), w'.heap[x]? = w.heap[x]? := fun x hx => k.block x (h.lt x hx) (fun hs => hS x hs hx)
  exact ⟨h.apart, (hb _ mem_b).trans h.hb, (hb _ mem_bq).trans h.hq, h.len, fun i h1 h2 => (h.rows i h1 h2).block fun g hg => hb g (mem_vs h1 hg), owns_block h.he fun g hg => hb g (mem_ve hg), owns_block h.hd fun g hg => hb g (mem_vd hg)⟩

theorem At.ne_b (h : At w b bq vs ve vd H) : b ≠ bq ∧ (∀ g, ve.ownBlock = some g → g ≠ b) ∧ (∀ g, vd.ownBlock = some g → g ≠ b) ∧ ∀ i (hi : i < vs.length) g, vs[i].ownBlock = some g → g ≠ b :=
  ⟨h.apart.ne, fun g hg => (h.apart.off 0 (by simp) g hg).1, fun g hg => (h.apart.off 1 (by simp) g hg).1, fun i hi g hg => (h.apart.off (i + 2) (by simpa using hi) g hg).1⟩

theorem At.setSteps (h : At w b bq vs ve vd H) (x : Int) : At (w.setCell ⟨b, 1, none⟩ (.int .i64 x)) b bq vs ve vd { H with steps := x } := by
  obtain ⟨n1, n2, n3, n4⟩ := h.ne_b
  exact ⟨h.apart, by rw [set_same h.hb]; rfl, (set_other n1.symm _ _).trans h.hq, h.len, fun i h1 h2 => (h.rows i h1 h2).block fun g hg => set_other (n4 i h1 g hg) _ _,
    owns_block h.he fun g hg => set_other (n2 g hg) _ _, owns_block h.hd fun g hg => set_other (n3 g hg) _ _⟩

/-- the events turned: what was appended to them lies in the old row or in a new one -/
theorem At.setEvents (h : At w b bq vs ve vd H) {ve' : Value} {l : List Ev} (hown : w'.ownsRow 0 190 4 ve' l.length (evs l)) (hg : w.grownBy w' ve.ownBlock) (hat : ∀ g, ve'.ownBlock = some g → ve.ownBlock = some g ∨ w.heap.size ≤ g) :
    At (w'.setCell ⟨b, 2, none⟩ ve') b bq vs ve' vd { H with events := l } ∧ Keep (b :: ve.ownBlock.toList) w (w'.setCell ⟨b, 2, none⟩ ve') := by
  obtain ⟨n1, n2, n3, n4⟩ := h.ne_b
  have hb : ∀ x ∈ blocks b bq (ve :: vd :: vs), some x ≠ ve.ownBlock → w'.heap[x]? = w.heap[x]? := fun x hx hn => hg.block x (h.lt x hx) hn
  have ha : Apart b bq (ve' :: vd :: vs) := h.apart.set 0 ve' fun _ g hg' => (hat g hg').imp id fun hs hm => by have := h.lt g hm; omega
  refine ⟨⟨ha, ?_, ?_, h.len, fun i h1 h2 => (h.rows i h1 h2).block fun g hg' => ?_, owns_block hown fun g hg' => set_other ?_ _ _, owns_block h.hd fun g hg' => ?_⟩, ?_⟩
  · rw [set_same ((hb b mem_b fun e => n2 b e.symm rfl).trans h.hb)]; rfl
  · exact (set_other n1.symm _ _).trans ((hb bq mem_bq fun e => (h.apart.off 0 (by simp) bq e.symm).2 rfl).trans h.hq)
  · exact (set_other (n4 i h1 g hg') _ _).trans (hb g (mem_vs h1 hg') fun e => by have := h.apart.two 0 (i + 2) (by simp) (by simpa using h1) g e.symm hg'; omega)
  · exact (ha.off 0 (by simp) g hg').1
  · exact (set_other (n3 g hg') _ _).trans (hb g (mem_vd hg') fun e => by have := h.apart.two 0 1 (by simp) (by simp) g e.symm hg'; omega)
  · have k : Keep (b :: ve.ownBlock.toList) w w' := ⟨hg.os, hg.tape, hg.output, hg.size, fun k hk hn => hg.block k hk fun e => hn (by rw [← e]; simp)⟩
    exact k.set (.inl (by simp)) _ _
theorem At.setEnded (h : At w b bq vs ve vd H) {vd' : Value} {l : List Value} (hown : w'.ownsRow 0 38 1 vd' l.length l) (hg : w.grownBy w' vd.ownBlock) (hat : ∀ g, vd'.ownBlock = some g → vd.ownBlock = some g ∨ w.heap.size ≤ g) :
    At (w'.setCell ⟨b, 3, none⟩ vd') b bq vs ve vd' { H with ended := l } ∧ Keep (b :: vd.ownBlock.toList) w (w'.setCell ⟨b, 3, none⟩ vd') := by
  obtain ⟨n1, n2, n3, n4⟩ := h.ne_b
  have hb : ∀ x ∈ blocks b bq (ve :: vd :: vs), some x ≠ vd.ownBlock → w'.heap[x]? = w.heap[x]? := fun x hx hn => hg.block x (h.lt x hx) hn
  have ha : Apart b bq (ve :: vd' :: vs) := h.apart.set 1 vd' fun _ g hg' => (hat g hg').imp id fun hs hm => by have := h.lt g hm; omega
  refine ⟨⟨ha, ?_, ?_, h.len, fun i h1 h2 => (h.rows i h1 h2).block fun g hg' => ?_, owns_block h.he fun g hg' => ?_, owns_block hown fun g hg' => set_other ?_ _ _⟩, ?_⟩
  · rw [set_same ((hb b mem_b fun e => n3 b e.symm rfl).trans h.hb)]; rfl
  · exact (set_other n1.symm _ _).trans ((hb bq mem_bq fun e => (h.apart.off 1 (by simp) bq e.symm).2 rfl).trans h.hq)
  · exact (set_other (n4 i h1 g hg') _ _).trans (hb g (mem_vs h1 hg') fun e => by have := h.apart.two 1 (i + 2) (by simp) (by simpa using h1) g e.symm hg'; omega)
  · exact (set_other (n2 g hg') _ _).trans (hb g (mem_ve hg') fun e => by have := h.apart.two 1 0 (by simp) (by simp) g e.symm hg'; omega)
  · exact (ha.off 1 (by simp) g hg').1
  · have k : Keep (b :: vd.ownBlock.toList) w w' := ⟨hg.os, hg.tape, hg.output, hg.size, fun k hk hn => hg.block k hk fun e => hn (by rw [← e]; simp)⟩
    exact k.set (.inl (by simp)) _ _
end
end Go.Proofs.YtdkdeiofjoccnaaGreat.Har

/- The harness: note, Pending, Idle. -/
namespace Go.Proofs.YtdkdeiofjoccnaaGreat.Har
open Go.RowKit Go.Proofs.YtdkdeiofjoccnaaGreat.Mem
set_option linter.unusedVariables false
set_option maxRecDepth 100000
variable {w : World} {b bq : Nat} {vs : List Value} {ve vd : Value} {H : Har}

theorem infoE : (Tryz.prog.info? 190).map (fun i => (i.zero, i.size, i.bytes)) = some (some (.agg #[.int .i64 0, .int .i64 0, .int .i64 0, .int .i64 0]), 4, 32) := by kernel_rfl
theorem one_ev (k o t a : Int) : ∀ u ∈ [Value.int .i64 k, .int .i64 o, .int .i64 t, .int .i64 a], u.oneCell' = true := by simp [Value.oneCell']

theorem note (h : At w b bq vs ve vd H) (kind who tag : Int) (hn : H.events.length ≤ 1000000000000) :
    Calls Tryz.prog 80 #[.pointer (some ⟨b, 0, none⟩), .int .i64 kind, .int .i64 who, .int .i64 tag] w fun e w' =>
      e = .returned (.tuple #[]) ∧ ∃ ve', (∀ g, ve'.ownBlock = some g → ve.ownBlock = some g ∨ w.heap.size ≤ g) ∧ At w' b bq vs ve' vd { H with events := H.events ++ [⟨kind, who, tag, H.steps⟩] } ∧ Keep (b :: ve.ownBlock.toList) w w' := by
  obtain ⟨i0, hi, hz0, hz1, hz2⟩ := info_parts infoE
  have HI := Lib.hid hi; clear hi
  have HZ := Lib.hid (And.intro hz0 (And.intro hz1 hz2)); clear hz0 hz1 hz2
  have HA := Lib.hid h
  have c1 : w.cell? ⟨b, 1, none⟩ = some (.int .i64 H.steps) := cell_of h.hb 1
  have c2 : w.cell? ⟨b, 2, none⟩ = some ve := cell_of h.hb 2
  have z2 : w.frozen? ⟨b, 2, none⟩ = false := free_of h.hb 2
  have n2 := World.new_ne w _ c2
  have za : ∀ o : Obj, (w.alloc o).drew.frozen? ⟨b, 2, none⟩ = false := fun o => free_of (show (w.alloc o).drew.heap[b]? = _ from alloc_some o h.hb) 2
  have zc : ∀ o : Obj, (w.alloc o).drew.cell? ⟨b, 2, none⟩ = some ve := fun o => cell_of (show (w.alloc o).drew.heap[b]? = _ from alloc_some o h.hb) 2
  have hsz : Hid (b < w.heap.size) := Lib.hid (lt_of h.hb)
  have hvo : Hid (some b ≠ ve.ownBlock) := Lib.hid (fun e => h.ne_b.2.1 b e.symm rfl)
  have d1 := Lib.hid (one_ev kind who tag H.steps)
  have d2 := Lib.hid (show H.events.length + 1 ≤ maxLen by unfold maxLen; omega)
  have d3 := Lib.hid (show (H.events.length + 1) * 32 ≤ 140737488355328 by omega)
  clear h hn
  go_enter Tryz.func80, Tryz.ntmps80
  go_wp2_with fail
  go_region_law
    (first
      | (refine step_append_lies _ (by rfl) _ _ _ (by rfl) 0 190 i0 _ 4 32 Tryz.underlying103 HI.out HZ.out.1 HZ.out.2.1 HZ.out.2.2 rfl (by decide) ve H.events.length (evs H.events) (by rfl) ((HA.out.he.alloc _).drew) ⟨w.heap.size, 0, none⟩ 1 1 [.int .i64 kind, .int .i64 who, .int .i64 tag, .int .i64 H.steps] (by rfl) (by rfl) (World.news_of_block (cs := #[.int .i64 kind, .int .i64 who, .int .i64 tag, .int .i64 H.steps]) (fr := (0, 0)) (alloc_new w _)) d1.out (by decide) d2.out d3.out (Nat.zero_le _) _ rfl ?_; intro g cap w7 hown7 hgrow7 hat7 hlt7; have HO7 := Lib.hid hown7; have G7 := Lib.hid hgrow7; have A7 := Lib.hid hat7; have y1 : w7.cell? ⟨b, 2, none⟩ = some ve := (hgrow7.cell_far _ (by have := hsz.out; simp; omega) hvo.out).trans (zc _); have y2 : w7.frozen? ⟨b, 2, none⟩ = false := (hgrow7.frozen_far _ (by have := hsz.out; simp; omega) hvo.out).trans (za _); clear hown7 hgrow7 hat7))
  all_goals
    go_wp2_with fail
    refine bodyPost_end (results_none rfl _ _ _) rfl ?_
    have hA := HA.out.keep (((Keep.refl [] w).alloc (.cells #[.int .i64 kind, .int .i64 who, .int .i64 tag, .int .i64 H.steps] 190)).drew) (by simp)
    have hO := HO7.out
    rw [← show evs (H.events ++ [⟨kind, who, tag, H.steps⟩]) = evs H.events ++ [.int .i64 kind, .int .i64 who, .int .i64 tag, .int .i64 H.steps] from evs_snoc _ _, ← show (H.events ++ [Ev.mk kind who tag H.steps]).length = H.events.length + 1 by simp] at hO
    obtain ⟨q1, q2⟩ := hA.setEvents hO G7.out (fun x hx => by
      have hx' : g = x := by simpa [Value.ownBlock] using hx
      subst hx'
      exact A7.out.imp id (fun e => by rw [e]; exact Nat.le_refl _))
    rw [show (H.events ++ [Ev.mk kind who tag H.steps]).length = H.events.length + 1 by simp] at q1 q2
    refine ⟨rfl, _, fun x hx => ?_, q1, ?_⟩
    · have hx' : g = x := by simpa [Value.ownBlock] using hx
      subst hx'
      exact A7.out.imp id (fun e => by rw [e]; simp)
    · exact Keep.trans (((Keep.refl _ w).alloc _).drew) q2

/-- how many stand in a worker's queue -/
def pend (H : Har) (who : Int) : Nat := if 0 ≤ who then (H.queues.getD who.toNat []).length else 0

theorem pending (h : At w b bq vs ve vd H) (who : Int) :
    Calls Tryz.prog 41 #[.pointer (some ⟨b, 0, none⟩), .int .i64 who] w fun e w' => e = .returned (.int .i64 (pend H who)) ∧ w = w' := by
  have c0 : w.cell? ⟨b, 0, none⟩ = some (.slice (some ⟨bq, 0, none⟩) vs.length vs.length) := cell_of h.hb 0
  by_cases h1 : who < 0
  · have HP := Lib.hid (show pend H who = 0 by unfold pend; rw [if_neg (by omega)])
    rw [HP.out]
    clear h
    go_enter Tryz.func41, Tryz.ntmps41
    go_wp2_with fail
    go_ret
    exact ⟨rfl, rfl⟩
  · obtain ⟨k, rfl⟩ : ∃ k : Nat, who = k := ⟨who.toNat, by omega⟩
    by_cases h2 : vs.length ≤ k
    · have HP := Lib.hid (show pend H k = 0 by unfold pend; have := h.len; rw [if_pos (by omega), Int.toNat_natCast, List.getD_eq_getElem?_getD, List.getElem?_eq_none (by omega)]; rfl)
      rw [HP.out]
      clear h
      go_enter Tryz.func41, Tryz.ntmps41
      go_wp2_with fail
      go_ret
      exact ⟨rfl, rfl⟩
    · have hk : k < vs.length := by omega
      obtain ⟨a, c, hv⟩ : ∃ a c, vs[k] = .slice a (pend H k) c := by
        have hl := h.len
        have hp : pend H k = H.queues[k].length := by
          unfold pend
          rw [if_pos (by omega), Int.toNat_natCast, List.getD_eq_getElem?_getD, List.getElem?_eq_getElem (by omega)]
          rfl
        rw [hp]
        rcases (h.rows k hk (by omega)).row with ⟨hv, hl⟩ | ⟨g, d, cap, cur, hv, -⟩
        · exact ⟨none, 0, by rw [hv, hl]; rfl⟩
        · exact ⟨_, _, hv⟩
      have cq : w.cell? ⟨bq, k, none⟩ = some (.slice a (pend H k) c) := by
        rw [cell_of h.hq, List.getElem?_toArray, List.getElem?_eq_getElem hk, hv]
      clear h hv
      go_enter Tryz.func41, Tryz.ntmps41
      go_wp2_with fail
      go_ret
      exact ⟨rfl, rfl⟩
end Go.Proofs.YtdkdeiofjoccnaaGreat.Har

/- The harness: Idle. -/
namespace Go.Proofs.YtdkdeiofjoccnaaGreat.Har
open Go.RowKit Go.Proofs.YtdkdeiofjoccnaaGreat.Mem
set_option linter.unusedVariables false
set_option maxRecDepth 100000
variable {w : World} {b bq : Nat} {vs : List Value} {ve vd : Value} {H : Har}

theorem pend_of {k : Nat} (hk : k < H.queues.length) : pend H k = H.queues[k].length := by
  unfold pend
  rw [if_pos (by omega), Int.toNat_natCast, List.getD_eq_getElem?_getD, List.getElem?_eq_getElem hk]
  rfl

theorem At.queue (h : At w b bq vs ve vd H) {k : Nat} (hk : k < H.queues.length) : ∃ a c, w.cell? ⟨bq, k, none⟩ = some (.slice a (pend H k) c) := by
  have hl := h.len
  have hk' : k < vs.length := by omega
  rw [cell_of h.hq, List.getElem?_toArray, List.getElem?_eq_getElem hk', pend_of hk]
  rcases (h.rows k hk' hk).row with ⟨hv, hl⟩ | ⟨g, d, cap, cur, hv, -⟩
  · exact ⟨none, 0, by rw [hv, hl]; rfl⟩
  · exact ⟨_, _, by rw [hv]⟩

/-- are all queues empty? -/
def idleB (H : Har) : Bool := H.queues.all List.isEmpty

theorem idle (h : At w b bq vs ve vd H) :
    Calls Tryz.prog 43 #[.pointer (some ⟨b, 0, none⟩)] w fun e w' => e = .returned (.bool (idleB H)) ∧ Keep [] w w' := by
  obtain ⟨n, hn⟩ : ∃ n, n = vs.length := ⟨_, rfl⟩
  have c0 : w.cell? ⟨b, 0, none⟩ = some (.slice (some ⟨bq, 0, none⟩) n n) := by rw [hn]; exact cell_of h.hb 0
  have hnq : n = H.queues.length := hn.trans h.len.1
  have HN := Lib.hid hnq
  have hw : n ≤ 16 := by have := h.len.2; omega
  have HA := Lib.hid h
  clear h hn hnq
  go_enter Tryz.func43, Tryz.ntmps43
  go_wp2_with fail
  go_loopw [12] (fun i wr => ∃ k : Nat, k ≤ n ∧ i = .int .i64 k ∧ (∀ j (hj : j < k) (h2 : j < H.queues.length), H.queues[j] = []) ∧ Keep [] w wr) (fun i _ => n - (intOf i).toNat)
  case atStart => exact ⟨0, Nat.zero_le _, rfl, fun j hj => absurd hj (by omega), Keep.refl _ _⟩
  case round =>
    obtain ⟨k, hk, rfl, hall, hK⟩ := hrel
    have HALL := Lib.hid hall
    have HKK := Lib.hid hK
    by_cases hlt : k < n
    · have hkq : k < H.queues.length := by have := HN.out; omega
      obtain ⟨a, c, hc⟩ := HA.out.queue hkq
      have cq := hK.cell hc (by simp)
      have HKQ := Lib.hid hkq
      by_cases hp : 0 < pend H k
      · have hi : idleB H = false := by
          rw [pend_of hkq] at hp
          unfold idleB
          rw [List.all_eq_false]
          refine ⟨H.queues[k], List.getElem_mem hkq, ?_⟩
          intro e
          have e2 := congrArg List.length (List.isEmpty_iff.1 e)
          simp only [List.length_nil] at e2
          omega
        have HI := Lib.hid hi
        clear hi hkq hc hall hK
        go_wp2_with fail
        go_ret
        exact ⟨by rw [HI.out]; rfl, HKK.out⟩
      · have he : H.queues[k] = [] := by
          rw [pend_of hkq] at hp
          exact List.eq_nil_of_length_eq_zero (by omega)
        have HE := Lib.hid he
        clear he hkq hc hall hK
        go_wp2_with fail
        go_roundw
        case rel =>
          refine ⟨k + 1, hlt, by go_num, fun j hj h2 => ?_, HKK.out⟩
          by_cases hjk : j = k
          · subst hjk
            exact HE.out
          · exact HALL.out j (by omega) h2
        case measure => simp [intOf]; omega
    · have hi : idleB H = true := by
        unfold idleB
        rw [List.all_eq_true]
        intro q hq
        obtain ⟨j, hj, rfl⟩ := List.getElem_of_mem hq
        rw [hall j (by have := HN.out; omega) hj]
        rfl
      have HI := Lib.hid hi
      clear hi hall hK
      go_wp2_with fail
      go_ret
      exact ⟨by rw [HI.out]; rfl, HKK.out⟩
end Go.Proofs.YtdkdeiofjoccnaaGreat.Har

/- The harness: Step, over whatever its machines are. -/
namespace Go.Proofs.YtdkdeiofjoccnaaGreat.Har
open Go.RowKit Go.Proofs.YtdkdeiofjoccnaaGreat.Mem
set_option linter.unusedVariables false
set_option maxRecDepth 100000

theorem step_method (a : Addr) (w : World) : (method (Tryz.prog.types.size + Made.depth) 38 (.pointer (some a)) "Step").run Tryz.prog w = .ok (39, .pointer (some a)) w := by kernel_rfl
theorem step_ahead (a : Addr) (w : World) : (nilAhead (Tryz.prog.types.size + Made.depth) 38 (.pointer (some a)) "Step").run Tryz.prog w = .ok (some false) w := by kernel_rfl

/-- The machines: their blocks B; R: they stand so in the world; ok: it is one of them; step: what a step makes of them, and whether the machine is then done. -/
structure Mach (S : Type) where
  B : List Nat
  R : World → S → Prop
  stable : ∀ {w w' : World} {s : S} {T : List Nat}, R w s → Keep T w w' → (∀ x ∈ T, x ∉ B) → R w' s
  lt : ∀ {w : World} {s : S}, R w s → ∀ x ∈ B, x < w.heap.size
  ok : S → Value → Prop
  step : S → Value → S × Bool
  okStep : ∀ {s v u}, ok s u → ok (step s v).1 u
  addr : ∀ {s v}, ok s v → ∃ a, v = .pointer (some a)
  calls : ∀ {w : World} {s : S} {v : Value}, R w s → ok s v → Calls Tryz.prog 39 #[v] w fun e w' => e = .returned (.bool (step s v).2) ∧ R w' (step s v).1 ∧ Keep B w w'

variable {S : Type} {M : Mach S} {s : S} {w : World} {b bq : Nat} {vs : List Value} {ve vd : Value} {H : Har}

/-- nothing due: no step -/
theorem step_none (h : At w b bq vs ve vd H) (who : Int) (hp : pend H who = 0) :
    Calls Tryz.prog 33 #[.pointer (some ⟨b, 0, none⟩), .int .i64 who] w fun e w' => e = .returned (.bool false) ∧ w = w' := by
  have HA := Lib.hid h
  have HP := Lib.hid hp
  clear h hp
  go_enter Tryz.func33, Tryz.ntmps33
  go_wp2_with fail
  refine (pending HA.out who).mono ?_
  rintro e w' ⟨rfl, rfl⟩
  rw [HP.out]
  go_wp2_with fail
  go_ret
  exact ⟨rfl, rfl⟩
end Go.Proofs.YtdkdeiofjoccnaaGreat.Har

/- The harness: its queues turned: the head marked as called, the head let go. -/
namespace Go.Proofs.YtdkdeiofjoccnaaGreat.Har
open Go.RowKit Go.Proofs.YtdkdeiofjoccnaaGreat.Mem
set_option linter.unusedVariables false

theorem jobs_length (l : List Job) : (l.flatMap Job.cells).length = l.length * 3 := by
  induction l with
  | nil => rfl
  | cons e l ih => rw [List.flatMap_cons, List.length_append, ih]; simp [Job.cells]; omega

/-- a queue that is not empty -/
theorem QRow.head {w : World} {v : Value} {j : Job} {l : List Job} (h : QRow w v (j :: l)) : ∃ g d cap, v = .slice (some ⟨g, d * 3, none⟩) (l.length + 1) cap ∧ l.length + 1 ≤ cap ∧ cap ≤ maxLen ∧ g < w.heap.size ∧
    w.cell? ⟨g, d * 3, none⟩ = some j.mach ∧ w.cell? ⟨g, d * 3 + 1, none⟩ = some (.int .i64 j.tag) ∧ w.cell? ⟨g, d * 3 + 2, none⟩ = some (.bool j.called) ∧ (∀ o, w.frozen? ⟨g, o, none⟩ = false) ∧
    QRow (w.setCell ⟨g, d * 3 + 2, none⟩ (.bool true)) v ({ j with called := true } :: l) ∧ QRow w (.slice (some ⟨g, if cap = 1 then d * 3 else d * 3 + 3, none⟩) l.length (cap - 1)) l := by
  rcases h.row with ⟨_, h0⟩ | ⟨g, d, cap, cur, hv, hg, h1, h2, h3, h4⟩
  · cases h0
  have hc : ∀ i, i < (l.length + 1) * 3 → cur[d * 3 + i]? = ((j :: l).flatMap Job.cells)[i]? := by
    intro i hi
    rw [← h4, List.getElem?_take, if_pos (by simpa using hi), List.getElem?_drop, Array.getElem?_toList]
  rw [List.flatMap_cons] at hc
  have h1' : l.length + 1 ≤ cap := h1
  refine ⟨g, d, cap, hv, h1', h2, lt_of hg, ?_, ?_, ?_, fun o => free_of hg o, ⟨.inr ⟨g, d, cap, _, hv, set_same hg _ _, h1, h2, by simpa using h3, ?_⟩⟩, ⟨.inr ?_⟩⟩
  · rw [cell_of hg]; exact (hc 0 (by omega)).trans rfl
  · rw [cell_of hg]; exact (hc 1 (by omega)).trans rfl
  · rw [cell_of hg]; exact (hc 2 (by omega)).trans rfl
  · apply List.ext_getElem?
    intro i
    rw [List.getElem?_take, List.getElem?_drop, Array.getElem?_toList]
    by_cases hi : i < (l.length + 1) * 3
    · rw [if_pos (by simpa using hi), Array.getElem?_setIfInBounds]
      by_cases h2' : i = 2
      · subst h2'
        rw [if_pos rfl, if_pos (by omega)]
        rfl
      · rw [if_neg (by omega), hc i hi]
        simp only [List.flatMap_cons, Job.cells]
        rcases i with _ | _ | _ | i
        · rfl
        · rfl
        · omega
        · rfl
    · rw [if_neg (by simpa using hi)]
      exact (List.getElem?_eq_none (by rw [jobs_length]; simp; omega)).symm
  · by_cases e : cap = 1
    · have hl : l = [] := List.eq_nil_of_length_eq_zero (by omega)
      subst hl
      exact ⟨g, d, 0, cur, by rw [if_pos e, e], hg, by simp, by omega, by omega, by simp⟩
    · refine ⟨g, d + 1, cap - 1, cur, by rw [if_neg e, Nat.add_mul], hg, by omega, by omega, by omega, ?_⟩
      apply List.ext_getElem?
      intro i
      rw [List.getElem?_take, List.getElem?_drop, Array.getElem?_toList]
      by_cases hi : i < l.length * 3
      · rw [if_pos hi, show (d + 1) * 3 + i = d * 3 + (i + 3) by omega, hc (i + 3) (by omega)]
        rfl
      · rw [if_neg hi]
        exact (List.getElem?_eq_none (by rw [jobs_length]; omega)).symm

/-- a queue turned -/
def Har.put (H : Har) (k : Nat) (q : List Job) : Har := { H with queues := H.queues.set k q }

section
variable {w : World} {b bq : Nat} {vs : List Value} {ve vd : Value} {H : Har}

/-- a cell of a queue's block written: only that queue is turned -/
theorem At.setJob (h : At w b bq vs ve vd H) {k g o : Nat} {u : Value} {q : List Job} (hk : k < vs.length) (hg : vs[k].ownBlock = some g) (hr : QRow (w.setCell ⟨g, o, none⟩ u) vs[k] q) :
    At (w.setCell ⟨g, o, none⟩ u) b bq vs ve vd (H.put k q) ∧ g ∈ blocks b bq (ve :: vd :: vs) := by
  have hn : ∀ i (hi : i < (ve :: vd :: vs).length) x, (ve :: vd :: vs)[i].ownBlock = some x → i ≠ k + 2 → x ≠ g := fun i hi x hx hne e => hne (h.apart.two i (k + 2) hi (by simpa using hk) x hx (e ▸ hg))
  have ho := h.apart.off (k + 2) (by simpa using hk) g hg
  refine ⟨⟨h.apart, (set_other ho.1.symm _ _).trans h.hb, (set_other ho.2.symm _ _).trans h.hq, by simpa [Har.put] using h.len, fun i h1 h2 => ?_, owns_block h.he fun x hx => set_other (hn 0 (by simp) x hx (by omega)) _ _, owns_block h.hd fun x hx => set_other (hn 1 (by simp) x hx (by omega)) _ _⟩, mem_vs hk hg⟩
  simp only [Har.put, List.getElem_set]
  split
  · rename_i e
    subst e
    exact hr
  · rename_i e
    have h2' : i < H.queues.length := by simpa [Har.put] using h2
    exact (h.rows i h1 h2').block fun x hx => set_other (hn (i + 2) (by simpa using h1) x hx (by omega)) _ _

/-- a queue's slice written -/
theorem At.setQ (h : At w b bq vs ve vd H) {k : Nat} {v : Value} {q : List Job} (hk : k < vs.length) (hv : ∀ g, v.ownBlock = some g → vs[k].ownBlock = some g ∨ g ∉ blocks b bq (ve :: vd :: vs)) (hr : QRow w v q) :
    At (w.setCell ⟨bq, k, none⟩ v) b bq (vs.set k v) ve vd (H.put k q) := by
  have ha : Apart b bq (ve :: vd :: vs.set k v) := h.apart.set (k + 2) v fun _ g hg => hv g hg
  refine ⟨ha, by rw [List.length_set]; exact (set_other h.apart.ne _ _).trans h.hb, by rw [set_same h.hq]; simp, by simpa [Har.put] using h.len, fun i h1 h2 => ?_, owns_block h.he fun x hx => set_other (h.apart.off 0 (by simp) x hx).2 _ _, owns_block h.hd fun x hx => set_other (h.apart.off 1 (by simp) x hx).2 _ _⟩
  simp only [Har.put, List.getElem_set]
  split
  · rename_i e
    subst e
    refine hr.block fun x hx => set_other (ha.off (k + 2) (by simpa using hk) x (by simpa using hx)).2 _ _
  · rename_i e
    have h1' : i < vs.length := by simpa using h1
    have h2' : i < H.queues.length := by simpa [Har.put] using h2
    exact (h.rows i h1' h2').block fun x hx => set_other (h.apart.off (i + 2) (by simpa using h1') x hx).2 _ _
end
end Go.Proofs.YtdkdeiofjoccnaaGreat.Har

/- The harness as it stands since a world: what every contract speaks of. -/
namespace Go.Proofs.YtdkdeiofjoccnaaGreat.Har
open Go.RowKit Go.Proofs.YtdkdeiofjoccnaaGreat.Mem
set_option linter.unusedVariables false
set_option maxRecDepth 100000

/-- events that a queued machine will yet give -/
def Job.due (j : Job) : Nat := if j.called then 1 else 2
def dueQ (q : List Job) : Nat := (q.map Job.due).sum
def due (H : Har) : Nat := (H.queues.map dueQ).sum

theorem sum_set (l : List Nat) (k : Nat) (x : Nat) (hk : k < l.length) : (l.set k x).sum + l[k] = l.sum + x := by
  induction l generalizing k with
  | nil => simp at hk
  | cons a l ih =>
    cases k with
    | zero => simp; omega
    | succ k =>
      have := ih k (by simpa using hk)
      simp at this ⊢
      omega
theorem due_put (H : Har) {k : Nat} (hk : k < H.queues.length) (q : List Job) : due (H.put k q) + dueQ H.queues[k] = due H + dueQ q := by
  have := sum_set (H.queues.map dueQ) k (dueQ q) (by simpa using hk)
  simp only [List.getElem_map] at this
  unfold due Har.put
  simp only [List.map_set]
  exact this

variable {S : Type}

/-- The harness H at b, its machines in the state s: since w0 only blocks of F, the machines' and new ones were written. -/
structure Since (M : Mach S) (w0 : World) (F : List Nat) (w : World) (b bq : Nat) (vs : List Value) (ve vd : Value) (H : Har) (s : S) : Prop where
  at_ : At w b bq vs ve vd H
  mach : M.R w s
  apart : ∀ x ∈ M.B, x ∉ blocks b bq (ve :: vd :: vs)
  ok : ∀ q ∈ H.queues, ∀ j ∈ q, M.ok s j.mach
  few : H.events.length + due H ≤ 1000000000000 ∧ H.ended.length ≤ H.events.length
  own : ∀ x ∈ blocks b bq (ve :: vd :: vs), x ∈ F ∨ w0.heap.size ≤ x
  keep : Keep (F ++ M.B) w0 w

/-- .. wherever its slices lie -/
def Stands (M : Mach S) (w0 : World) (F : List Nat) (w : World) (b : Nat) (H : Har) (s : S) : Prop := ∃ bq vs ve vd, Since M w0 F w b bq vs ve vd H s

theorem _root_.Go.Proofs.YtdkdeiofjoccnaaGreat.Mem.Keep.chain {S T : List Nat} {a b c : World} (h : Keep S a b) (k : Keep T b c) (hT : ∀ x ∈ T, x ∈ S ∨ a.heap.size ≤ x) : Keep S a c :=
  ⟨k.os.trans h.os, k.tape.trans h.tape, k.output.trans h.output, Nat.le_trans h.size k.size, fun i hi hn =>
    (k.block i (Nat.lt_of_lt_of_le hi h.size) (fun ht => by rcases hT i ht with h1 | h1; exact hn h1; omega)).trans (h.block i hi hn)⟩

section
variable {M : Mach S} {w0 w w' : World} {F T : List Nat} {b bq : Nat} {vs vs' : List Value} {ve ve' vd vd' : Value} {H H' : Har} {s : S}

/-- the harness's own blocks written -/
theorem Since.turn (h : Since M w0 F w b bq vs ve vd H s) (ha : At w' b bq vs' ve' vd' H') (k : Keep T w w') (hT : ∀ x ∈ T, x ∈ blocks b bq (ve :: vd :: vs)) (hn : ∀ x ∈ blocks b bq (ve' :: vd' :: vs'), x ∈ blocks b bq (ve :: vd :: vs) ∨ w.heap.size ≤ x)
    (hok : ∀ q ∈ H'.queues, ∀ j ∈ q, M.ok s j.mach) (hf : H'.events.length + due H' ≤ 1000000000000 ∧ H'.ended.length ≤ H'.events.length) : Since M w0 F w' b bq vs' ve' vd' H' s := by
  refine ⟨ha, M.stable h.mach k fun x hx hm => h.apart x hm (hT x hx), fun x hm hx => ?_, hok, hf, fun x hx => ?_, h.keep.chain k fun x hx => ?_⟩
  · rcases hn x hx with h1 | h1
    · exact h.apart x hm h1
    · have := M.lt h.mach x hm
      omega
  · rcases hn x hx with h1 | h1
    · exact h.own x h1
    · exact .inr (Nat.le_trans h.keep.size h1)
  · rcases h.own x (hT x hx) with h1 | h1
    · exact .inl (List.mem_append_left _ h1)
    · exact .inr h1

/-- a machine's step -/
theorem Since.step (h : Since M w0 F w b bq vs ve vd H s) {v : Value} (hr : M.R w' (M.step s v).1) (k : Keep M.B w w') : Since M w0 F w' b bq vs ve vd H (M.step s v).1 :=
  ⟨h.at_.keep k h.apart, hr, h.apart, fun q hq j hj => M.okStep (h.ok q hq j hj), h.few, h.own, h.keep.chain k fun x hx => .inl (List.mem_append_right _ hx)⟩
end
end Go.Proofs.YtdkdeiofjoccnaaGreat.Har
