/- strataref03: a litmus program at work: how it lies in memory. -/
import Derived.Test.YtdkdeiofjoccnaaGreatPathA
namespace Go.Proofs.YtdkdeiofjoccnaaGreat.Ref
open Go.RowKit Go.Proofs.YtdkdeiofjoccnaaGreat.Mem Go.Proofs.YtdkdeiofjoccnaaGreat.Ar Go.Proofs.YtdkdeiofjoccnaaGreat.Un Go.Proofs.YtdkdeiofjoccnaaGreat.Lit
set_option linter.unusedVariables false
set_option maxRecDepth 100000

/-- the document's program: cells, threads -/
structure RP where
  cells : List Int
  ths : List Th

/-- a thread with other registers; at another place -/
def tR (t : Th) (l : List Int) : Th := ⟨t.prog, l, t.at_⟩
def tP (t : Th) (a : Nat) : Th := ⟨t.prog, t.regs, a⟩
/-- what an instruction does -/
def refAct (cells : List Int) (t : Th) (x : Ins) : List Int × Th :=
  if x.op = 1 then (cells, tR t (t.regs.set x.reg.toNat (nth cells x.cell.toNat 0)))
  else if x.op = 2 then (cells.set x.cell.toNat (Lit.valOf t.regs x.newR x.newI), t)
  else if x.op = 3 then
    if nth cells x.cell.toNat 0 = Lit.valOf t.regs x.oldR x.oldI then (cells.set x.cell.toNat (Lit.valOf t.regs x.newR x.newI), tR t (t.regs.set x.reg.toNat 1)) else (cells, tR t (t.regs.set x.reg.toNat 0))
  else if x.op = 4 then (cells.set x.cell.toNat (uw (nth cells x.cell.toNat 0 + Lit.valOf t.regs x.newR x.newI)), tR t (t.regs.set x.reg.toNat (nth cells x.cell.toNat 0)))
  else if x.op = 5 then (cells, if nth t.regs x.reg.toNat 0 = Lit.valOf t.regs x.newR x.newI then tP t (min (t.at_ + x.n.toNat) t.prog.length) else t)
  else (cells, t)
def refStep (S : RP) (i : Nat) : RP × Bool :=
  match S.ths[i]? with
  | none => (S, true)
  | some t => match t.prog[t.at_]? with
    | none => (S, true)
    | some x => (⟨(refAct S.cells (tP t (t.at_ + 1)) x).1, S.ths.set i (refAct S.cells (tP t (t.at_ + 1)) x).2⟩, decide (t.prog.length ≤ (refAct S.cells (tP t (t.at_ + 1)) x).2.at_))

/-- where a thread lies: its program's slice, its registers' block -/
structure RSeat where
  pv : Value
  rb : Nat
/-- a thread's three cells -/
def tCells (s : RSeat) (t : Th) : List Value := [s.pv, .slice (some ⟨s.rb, 0, none⟩) 4 4, .int .i64 t.at_]
def rows : List RSeat → List Th → List Value
  | s :: ss, t :: ts => tCells s t ++ rows ss ts
  | _, _ => []
theorem rows_len : ∀ (ss : List RSeat) (ts : List Th), ss.length = ts.length → (rows ss ts).length = ts.length * 3
  | [], [], _ => rfl
  | s :: ss, t :: ts, h => by
    have := rows_len ss ts (by simpa using h)
    simp only [rows, List.length_append, List.length_cons, this]
    simp [tCells]
    omega
  | [], _ :: _, h => by simp at h
  | _ :: _, [], h => by simp at h
theorem rows_at : ∀ (ss : List RSeat) (ts : List Th) (i j : Nat) (h1 : i < ss.length) (h2 : i < ts.length), j < 3 → (rows ss ts)[i * 3 + j]? = (tCells ss[i] ts[i])[j]?
  | s :: ss, t :: ts, 0, j, _, _, hj => by
    simp only [rows]
    rw [List.getElem?_append_left (by simp [tCells]; omega)]
    simp
  | s :: ss, t :: ts, i + 1, j, h1, h2, hj => by
    simp only [rows]
    rw [List.getElem?_append_right (by simp [tCells]; omega)]
    have := rows_at ss ts i j (by simpa using h1) (by simpa using h2) hj
    rw [show (i + 1) * 3 + j - (tCells s t).length = i * 3 + j by simp [tCells]; omega, this]
    simp
  | [], _, _, _, h, _, _ => by simp at h
  | _ :: _, [], _, _, _, h, _ => by simp at h
theorem rows_set : ∀ (ss : List RSeat) (ts : List Th) (i : Nat) (h1 : i < ss.length) (h2 : i < ts.length) (t' : Th), (rows ss ts).set (i * 3 + 2) (.int .i64 t'.at_) = rows ss (ts.set i t')
  | s :: ss, t :: ts, 0, _, _, t' => by simp [rows, tCells]
  | s :: ss, t :: ts, i + 1, h1, h2, t' => by
    have := rows_set ss ts i (by simpa using h1) (by simpa using h2) t'
    simp only [rows, List.set_cons_succ]
    rw [List.set_append_right _ _ (by simp [tCells]; omega), show (i + 1) * 3 + 2 - (tCells s t).length = i * 3 + 2 by simp [tCells]; omega, this]
  | [], _, _, h, _, _ => by simp at h
  | _ :: _, [], _, _, h, _ => by simp at h
theorem rows_same : ∀ (ss : List RSeat) (ts : List Th) (i : Nat) (h2 : i < ts.length) (t' : Th), t'.at_ = ts[i].at_ → rows ss (ts.set i t') = rows ss ts
  | s :: ss, t :: ts, 0, _, t', h => by
    simp at h
    simp [rows, tCells, h]
  | s :: ss, t :: ts, i + 1, h2, t', h => by
    have := rows_same ss ts i (by simpa using h2) t' (by simpa using h)
    simp [rows, this]
  | [], ts, i, _, t', h => by cases ts <;> cases i <;> simp [rows]
  | _ :: _, [], _, h2, _, _ => by simp at h2

theorem nodup_inj {l : List Nat} (h : l.Nodup) : ∀ (i j : Nat) (h1 : i < l.length) (h2 : j < l.length), l[i] = l[j] → i = j := by
  have key := List.pairwise_iff_getElem.1 h
  intro i j h1 h2 e
  rcases Nat.lt_trichotomy i j with h3 | h3 | h3
  · exact absurd e (key i j h1 h2 h3)
  · exact h3
  · exact absurd e.symm (key j i h2 h1 h3)

/-- where it all lies -/
structure RB where
  cb : Nat
  cc : Nat
  tg : Nat
  tc : Nat
  ss : List RSeat
/-- the blocks that a step may write -/
def RB.mem (B : RB) : List Nat := B.cb :: B.tg :: B.ss.map RSeat.rb
/-- all of its blocks -/
def RB.all (B : RB) : List Nat := B.mem ++ (B.ss.filterMap fun s => s.pv.ownBlock)

structure PAt (w : World) (pb : Nat) (B : RB) (S : RP) : Prop where
  c0 : w.cell? ⟨pb, 0, none⟩ = some (.slice (some ⟨B.cb, 0, none⟩) S.cells.length B.cc)
  c1 : w.cell? ⟨pb, 1, none⟩ = some (.slice (some ⟨B.tg, 0, none⟩) S.ths.length B.tc)
  cells : w.ownsRow 0 75 1 (.slice (some ⟨B.cb, 0, none⟩) S.cells.length B.cc) S.cells.length (S.cells.map (.int .u64))
  len : B.ss.length = S.ths.length
  ths : w.ownsRow 0 132 3 (.slice (some ⟨B.tg, 0, none⟩) S.ths.length B.tc) S.ths.length (rows B.ss S.ths)
  regs : ∀ i (h1 : i < B.ss.length) (h2 : i < S.ths.length), w.heap[B.ss[i].rb]? = some (.cells (S.ths[i].regs.map (.int .u64)).toArray 75 (0, 0)) ∧ S.ths[i].regs.length = 4
  progs : ∀ i (h1 : i < B.ss.length) (h2 : i < S.ths.length), ∃ a c, B.ss[i].pv = .slice a S.ths[i].prog.length c ∧ w.ownsRow 0 140 8 B.ss[i].pv S.ths[i].prog.length (flatI S.ths[i].prog)
  nd : B.mem.Nodup
  off : pb ∉ B.mem ∧ ∀ s ∈ B.ss, ∀ g, s.pv.ownBlock = some g → g ∉ B.mem
  fit : ∀ t ∈ S.ths, (∀ x ∈ t.prog, fitB x S.cells.length = true) ∧ t.at_ ≤ t.prog.length ∧ t.prog.length ≤ 10
  few : S.ths.length ≤ 4 ∧ S.cells.length ≤ 4

section
variable {w w' : World} {pb : Nat} {B : RB} {S : RP}

theorem RB.mem_rb {i : Nat} (h : i < B.ss.length) : B.ss[i].rb ∈ B.mem := by
  refine List.mem_cons_of_mem _ (List.mem_cons_of_mem _ ?_)
  exact List.mem_map.2 ⟨_, List.getElem_mem h, rfl⟩
theorem PAt.lt (h : PAt w pb B S) : ∀ x ∈ B.mem, x < w.heap.size := by
  intro x hx
  rcases List.mem_cons.1 hx with rfl | hx
  · exact (h.cells.lt _ rfl).2
  rcases List.mem_cons.1 hx with rfl | hx
  · exact (h.ths.lt _ rfl).2
  · obtain ⟨s, hs, rfl⟩ := List.mem_map.1 hx
    obtain ⟨i, hi, rfl⟩ := List.getElem_of_mem hs
    exact lt_of (h.regs i hi (by rw [← h.len]; exact hi)).1
theorem PAt.keep (h : PAt w pb B S) {T : List Nat} (k : Keep T w w') (hT : ∀ x ∈ T, x ≠ pb ∧ x ∉ B.all) : PAt w' pb B S := by
  have hm : ∀ x ∈ B.mem, x ∉ T := fun x hx ht => (hT x ht).2 (List.mem_append_left _ hx)
  have hp : pb ∉ T := fun ht => (hT pb ht).1 rfl
  have cbm : B.cb ∈ B.mem := List.mem_cons_self ..
  have tgm : B.tg ∈ B.mem := List.mem_cons_of_mem _ (List.mem_cons_self ..)
  refine ⟨k.cell h.c0 hp, k.cell h.c1 hp, Har.owns_block h.cells fun g hg => ?_, h.len, Har.owns_block h.ths fun g hg => ?_, fun i h1 h2 => ⟨?_, (h.regs i h1 h2).2⟩, fun i h1 h2 => ?_, h.nd, h.off, h.fit, h.few⟩
  · have : B.cb = g := by simpa [Value.ownBlock] using hg
    subst this
    exact k.block _ (h.cells.lt _ rfl).2 (hm _ cbm)
  · have : B.tg = g := by simpa [Value.ownBlock] using hg
    subst this
    exact k.block _ (h.ths.lt _ rfl).2 (hm _ tgm)
  · exact k.old (h.regs i h1 h2).1 (hm _ (RB.mem_rb h1))
  · obtain ⟨a, c, e, ho⟩ := h.progs i h1 h2
    refine ⟨a, c, e, Har.owns_block ho fun g hg => k.block g (ho.lt g hg).2 fun ht => (hT g ht).2 ?_⟩
    exact List.mem_append_right _ (List.mem_filterMap.2 ⟨_, List.getElem_mem h1, hg⟩)
theorem PAt.keep0 (h : PAt w pb B S) (k : Keep [] w w') : PAt w' pb B S := h.keep k (by simp)

/-- a store into a cell -/
theorem PAt.setCellAt (h : PAt w pb B S) (j : Nat) (hj : j < S.cells.length) (v : Int) : PAt (w.setCell ⟨B.cb, j, none⟩ (.int .u64 v)) pb B ⟨S.cells.set j v, S.ths⟩ := by
  have hnd := h.nd
  have k : Keep [B.cb] w (w.setCell ⟨B.cb, j, none⟩ (.int .u64 v)) := (Keep.refl _ _).set (.inl (by simp)) _ _
  have ne1 : pb ≠ B.cb := fun e => h.off.1 (by rw [e]; exact List.mem_cons_self ..)
  have hc : ∀ x ∈ B.tg :: B.ss.map RSeat.rb, x ≠ B.cb := fun x hx e => (List.nodup_cons.1 hnd).1 (by rw [← e]; exact hx)
  refine ⟨?_, k.cell h.c1 (by simpa using ne1), ?_, h.len, Har.owns_block h.ths fun g hg => ?_, fun i h1 h2 => ⟨?_, (h.regs i h1 h2).2⟩, fun i h1 h2 => ?_, h.nd, h.off, fun t ht => ?_, by simpa using h.few⟩
  · have := k.cell h.c0 (by simpa using ne1)
    simpa using this
  · have := (h.cells.stored j (.int .u64 v)).1
    rw [← List.map_set] at this
    simpa using this
  · have : B.tg = g := by simpa [Value.ownBlock] using hg
    subst this
    exact k.block _ (h.ths.lt _ rfl).2 (by simpa using hc _ (List.mem_cons_self ..))
  · exact k.old (h.regs i h1 h2).1 (by simpa using hc _ (List.mem_cons_of_mem _ (List.mem_map.2 ⟨_, List.getElem_mem h1, rfl⟩)))
  · obtain ⟨a, c, e, ho⟩ := h.progs i h1 h2
    refine ⟨a, c, e, Har.owns_block ho fun g hg => k.block g (ho.lt g hg).2 fun ht => ?_⟩
    exact h.off.2 _ (List.getElem_mem h1) g hg (by rw [List.mem_singleton.1 ht]; exact List.mem_cons_self ..)
  · have := h.fit t ht
    simpa using this

/-- a store into a register -/
theorem PAt.setReg (h : PAt w pb B S) {i : Nat} (h1 : i < B.ss.length) (h2 : i < S.ths.length) (j : Nat) (v : Int) : PAt (w.setCell ⟨B.ss[i].rb, j, none⟩ (.int .u64 v)) pb B ⟨S.cells, S.ths.set i (tR S.ths[i] (S.ths[i].regs.set j v))⟩ := by
  have hnd := h.nd
  have k : Keep [B.ss[i].rb] w (w.setCell ⟨B.ss[i].rb, j, none⟩ (.int .u64 v)) := (Keep.refl _ _).set (.inl (by simp)) _ _
  have ne1 : pb ≠ B.ss[i].rb := fun e => h.off.1 (by rw [e]; exact RB.mem_rb h1)
  have hmr : B.ss[i].rb ∈ B.ss.map RSeat.rb := List.mem_map.2 ⟨_, List.getElem_mem h1, rfl⟩
  have hcb : B.cb ≠ B.ss[i].rb := fun e => (List.nodup_cons.1 hnd).1 (by rw [e]; exact List.mem_cons_of_mem _ hmr)
  have htg : B.tg ≠ B.ss[i].rb := fun e => (List.nodup_cons.1 (List.nodup_cons.1 hnd).2).1 (by rw [e]; exact hmr)
  have hnr : (B.ss.map RSeat.rb).Nodup := (List.nodup_cons.1 (List.nodup_cons.1 hnd).2).2
  refine ⟨k.cell h.c0 (by simpa using ne1), ?_, Har.owns_block h.cells fun g hg => ?_, by simpa using h.len, ?_, fun q q1 q2 => ?_, fun q q1 q2 => ?_, h.nd, h.off, fun t ht => ?_, by simpa using h.few⟩
  · have := k.cell h.c1 (by simpa using ne1)
    simpa using this
  · have : B.cb = g := by simpa [Value.ownBlock] using hg
    subst this
    exact k.block _ (h.cells.lt _ rfl).2 (by simpa using hcb)
  · show World.ownsRow _ _ _ _ _ (S.ths.set i _).length (rows B.ss (S.ths.set i _))
    rw [rows_same B.ss S.ths i h2 (tR S.ths[i] (S.ths[i].regs.set j v)) rfl, List.length_set]
    refine Har.owns_block h.ths fun g hg => ?_
    have : B.tg = g := by simpa [Value.ownBlock] using hg
    subst this
    exact k.block _ (h.ths.lt _ rfl).2 (by simpa using htg)
  · have q3 : q < S.ths.length := by simpa using q2
    by_cases hq : i = q
    · subst hq
      simp only [List.getElem_set_self]
      obtain ⟨r1, r2⟩ := h.regs i h1 h2
      refine ⟨?_, by simpa [tR] using r2⟩
      have := set_same r1 j (.int .u64 v)
      rw [this]
      simp [tR, List.map_set]
    · simp only [List.getElem_set_ne hq]
      refine ⟨k.old (h.regs q q1 q3).1 ?_, (h.regs q q1 q3).2⟩
      simp only [List.mem_singleton]
      intro e
      exact hq (nodup_inj hnr i q (by simpa using h1) (by simpa using q1) (by simpa using e.symm))
  · have q3 : q < S.ths.length := by simpa using q2
    obtain ⟨a, c, e, ho⟩ := h.progs q q1 q3
    have hpr : (S.ths.set i (tR S.ths[i] (S.ths[i].regs.set j v)))[q].prog = S.ths[q].prog := by
      rw [List.getElem_set]
      split
      · rename_i e'; subst e'; rfl
      · rfl
    simp only [hpr]
    refine ⟨a, c, e, Har.owns_block ho fun g hg => k.block g (ho.lt g hg).2 fun ht => ?_⟩
    exact h.off.2 _ (List.getElem_mem q1) g hg (by rw [List.mem_singleton.1 ht]; exact RB.mem_rb h1)
  · rcases List.mem_or_eq_of_mem_set ht with ht | rfl
    · exact h.fit t ht
    · exact h.fit S.ths[i] (List.getElem_mem h2)

/-- a store of a place -/
theorem PAt.setPlace (h : PAt w pb B S) {i : Nat} (h1 : i < B.ss.length) (h2 : i < S.ths.length) (v : Nat) (hv : v ≤ S.ths[i].prog.length) : PAt (w.setCell ⟨B.tg, i * 3 + 2, none⟩ (.int .i64 v)) pb B ⟨S.cells, S.ths.set i (tP S.ths[i] v)⟩ := by
  have hnd := h.nd
  have k : Keep [B.tg] w (w.setCell ⟨B.tg, i * 3 + 2, none⟩ (.int .i64 v)) := (Keep.refl _ _).set (.inl (by simp)) _ _
  have tgm : B.tg ∈ B.mem := List.mem_cons_of_mem _ (List.mem_cons_self ..)
  have ne1 : pb ≠ B.tg := fun e => h.off.1 (by rw [e]; exact tgm)
  have hcb : B.cb ≠ B.tg := fun e => (List.nodup_cons.1 hnd).1 (by rw [e]; exact List.mem_cons_self ..)
  have hnr : B.tg ∉ B.ss.map RSeat.rb := (List.nodup_cons.1 (List.nodup_cons.1 hnd).2).1
  refine ⟨k.cell h.c0 (by simpa using ne1), ?_, Har.owns_block h.cells fun g hg => ?_, by simpa using h.len, ?_, fun q q1 q2 => ?_, fun q q1 q2 => ?_, h.nd, h.off, fun t ht => ?_, by simpa using h.few⟩
  · have := k.cell h.c1 (by simpa using ne1)
    simpa using this
  · have : B.cb = g := by simpa [Value.ownBlock] using hg
    subst this
    exact k.block _ (h.cells.lt _ rfl).2 (by simpa using hcb)
  · have := (h.ths.stored (i * 3 + 2) (.int .i64 v)).1
    have e := rows_set B.ss S.ths i h1 h2 (tP S.ths[i] v)
    rw [show (tP S.ths[i] v).at_ = v from rfl] at e
    rw [e] at this
    simpa using this
  · have q3 : q < S.ths.length := by simpa using q2
    have hrg : (S.ths.set i (tP S.ths[i] v))[q].regs = S.ths[q].regs := by
      rw [List.getElem_set]
      split
      · rename_i e'; subst e'; rfl
      · rfl
    simp only [hrg]
    refine ⟨k.old (h.regs q q1 q3).1 ?_, (h.regs q q1 q3).2⟩
    simp only [List.mem_singleton]
    intro e
    exact hnr (by rw [← e]; exact List.mem_map.2 ⟨_, List.getElem_mem q1, rfl⟩)
  · have q3 : q < S.ths.length := by simpa using q2
    obtain ⟨a, c, e, ho⟩ := h.progs q q1 q3
    have hpr : (S.ths.set i (tP S.ths[i] v))[q].prog = S.ths[q].prog := by
      rw [List.getElem_set]
      split
      · rename_i e'; subst e'; rfl
      · rfl
    simp only [hpr]
    refine ⟨a, c, e, Har.owns_block ho fun g hg => k.block g (ho.lt g hg).2 fun ht => ?_⟩
    exact h.off.2 _ (List.getElem_mem q1) g hg (by rw [List.mem_singleton.1 ht]; exact tgm)
  · rcases List.mem_or_eq_of_mem_set ht with ht | rfl
    · exact h.fit t ht
    · have := h.fit S.ths[i] (List.getElem_mem h2)
      exact ⟨this.1, hv, this.2.2⟩
end
end Go.Proofs.YtdkdeiofjoccnaaGreat.Ref
