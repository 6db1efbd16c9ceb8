/- strataref03.Harness: what turns it (no code): its cells written, its rows appended to, its queues; as it stands since a world. -/
import Derived.Test.YtdkdeiofjoccnaaGreatRefHar
namespace Go.Proofs.YtdkdeiofjoccnaaGreat.Ref
open Go.RowKit Go.Proofs.YtdkdeiofjoccnaaGreat.Mem Go.Proofs.YtdkdeiofjoccnaaGreat.Ar Go.Proofs.YtdkdeiofjoccnaaGreat.Un Go.Proofs.YtdkdeiofjoccnaaGreat.Lit
open Go.Proofs.YtdkdeiofjoccnaaGreat.Har (Job Ev evs Apart mem_blocks mem_b mem_bq mem_ve mem_vd mem_vs owns_block due dueQ due_put)
set_option linter.unusedVariables false

section
variable {w w' : World} {b pb bq : Nat} {vs : List Value} {ve vd : Value} {H : Har.Har}

theorem RAt.lt (h : RAt w b pb bq vs ve vd H) : ∀ x ∈ Har.blocks b bq (ve :: vd :: vs), x < w.heap.size := by
  intro x hx
  rw [mem_blocks] at hx
  rcases hx with rfl | rfl | ⟨i, hi, hg⟩
  · exact lt_of h.hb
  · exact lt_of h.hq
  · rcases i with _ | _ | i
    · exact (h.he.lt x hg).2
    · exact (h.hd.lt x hg).2
    · have hi' : i < vs.length := by simpa using hi
      exact ((h.rows i hi' (by have := h.len; omega)).lt x hg).2

theorem RAt.keep (h : RAt w b pb bq vs ve vd H) {S : List Nat} (k : Keep S w w') (hS : ∀ x ∈ S, x ∉ Har.blocks b bq (ve :: vd :: vs)) : RAt w' b pb bq vs ve vd H := by
  have hb : ∀ x ∈ Har.blocks b bq (ve :: vd :: vs), w'.heap[x]? = w.heap[x]? := fun x hx => k.block x (h.lt x hx) (fun hs => hS x hs hx)
  exact ⟨h.apart, (hb _ mem_b).trans h.hb, (hb _ mem_bq).trans h.hq, h.len, fun i h1 h2 => owns_block (h.rows i h1 h2) fun g hg => hb g (mem_vs h1 hg), owns_block h.he fun g hg => hb g (mem_ve hg), owns_block h.hd fun g hg => hb g (mem_vd hg)⟩

theorem RAt.ne_b (h : RAt w b pb bq vs ve vd H) : b ≠ bq ∧ (∀ g, ve.ownBlock = some g → g ≠ b) ∧ (∀ g, vd.ownBlock = some g → g ≠ b) ∧ ∀ i (hi : i < vs.length) g, vs[i].ownBlock = some g → g ≠ b :=
  ⟨h.apart.ne, fun g hg => (h.apart.off 0 (by simp) g hg).1, fun g hg => (h.apart.off 1 (by simp) g hg).1, fun i hi g hg => (h.apart.off (i + 2) (by simpa using hi) g hg).1⟩

theorem RAt.setSteps (h : RAt w b pb bq vs ve vd H) (x : Int) : RAt (w.setCell ⟨b, 2, none⟩ (.int .i64 x)) b pb bq vs ve vd { H with steps := x } := by
  obtain ⟨n1, n2, n3, n4⟩ := h.ne_b
  exact ⟨h.apart, by rw [set_same h.hb]; rfl, (set_other n1.symm _ _).trans h.hq, h.len, fun i h1 h2 => owns_block (h.rows i h1 h2) fun g hg => set_other (n4 i h1 g hg) _ _,
    owns_block h.he fun g hg => set_other (n2 g hg) _ _, owns_block h.hd fun g hg => set_other (n3 g hg) _ _⟩

theorem RAt.setEvents (h : RAt w b pb bq vs ve vd H) {ve' : Value} {l : List Ev} (hown : w'.ownsRow 0 190 4 ve' l.length (evs l)) (hg : w.grownBy w' ve.ownBlock) (hat : ∀ g, ve'.ownBlock = some g → ve.ownBlock = some g ∨ w.heap.size ≤ g) :
    RAt (w'.setCell ⟨b, 3, none⟩ ve') b pb bq vs ve' vd { H with events := l } ∧ Keep (b :: ve.ownBlock.toList) w (w'.setCell ⟨b, 3, none⟩ ve') := by
  obtain ⟨n1, n2, n3, n4⟩ := h.ne_b
  have hb : ∀ x ∈ Har.blocks b bq (ve :: vd :: vs), some x ≠ ve.ownBlock → w'.heap[x]? = w.heap[x]? := fun x hx hn => hg.block x (h.lt x hx) hn
  have ha : Apart b bq (ve' :: vd :: vs) := h.apart.set 0 ve' fun _ g hg' => (hat g hg').imp id fun hs hm => by have := h.lt g hm; omega
  refine ⟨⟨ha, ?_, ?_, h.len, fun i h1 h2 => owns_block (h.rows i h1 h2) fun g hg' => ?_, owns_block hown fun g hg' => set_other ?_ _ _, owns_block h.hd fun g hg' => ?_⟩, ?_⟩
  · rw [set_same ((hb b mem_b fun e => n2 b e.symm rfl).trans h.hb)]; rfl
  · exact (set_other n1.symm _ _).trans ((hb bq mem_bq fun e => (h.apart.off 0 (by simp) bq e.symm).2 rfl).trans h.hq)
  · exact (set_other (n4 i h1 g hg') _ _).trans (hb g (mem_vs h1 hg') fun e => by have := h.apart.two 0 (i + 2) (by simp) (by simpa using h1) g e.symm hg'; omega)
  · exact (ha.off 0 (by simp) g hg').1
  · exact (set_other (n3 g hg') _ _).trans (hb g (mem_vd hg') fun e => by have := h.apart.two 0 1 (by simp) (by simp) g e.symm hg'; omega)
  · have k : Keep (b :: ve.ownBlock.toList) w w' := ⟨hg.os, hg.tape, hg.output, hg.size, fun k hk hn => hg.block k hk fun e => hn (by rw [← e]; simp)⟩
    exact k.set (.inl (by simp)) _ _
theorem RAt.setEnded (h : RAt w b pb bq vs ve vd H) {vd' : Value} {l : List Value} (hown : w'.ownsRow 0 3 1 vd' l.length l) (hg : w.grownBy w' vd.ownBlock) (hat : ∀ g, vd'.ownBlock = some g → vd.ownBlock = some g ∨ w.heap.size ≤ g) :
    RAt (w'.setCell ⟨b, 4, none⟩ vd') b pb bq vs ve vd' { H with ended := l } ∧ Keep (b :: vd.ownBlock.toList) w (w'.setCell ⟨b, 4, none⟩ vd') := by
  obtain ⟨n1, n2, n3, n4⟩ := h.ne_b
  have hb : ∀ x ∈ Har.blocks b bq (ve :: vd :: vs), some x ≠ vd.ownBlock → w'.heap[x]? = w.heap[x]? := fun x hx hn => hg.block x (h.lt x hx) hn
  have ha : Apart b bq (ve :: vd' :: vs) := h.apart.set 1 vd' fun _ g hg' => (hat g hg').imp id fun hs hm => by have := h.lt g hm; omega
  refine ⟨⟨ha, ?_, ?_, h.len, fun i h1 h2 => owns_block (h.rows i h1 h2) fun g hg' => ?_, owns_block h.he fun g hg' => ?_, owns_block hown fun g hg' => set_other ?_ _ _⟩, ?_⟩
  · rw [set_same ((hb b mem_b fun e => n3 b e.symm rfl).trans h.hb)]; rfl
  · exact (set_other n1.symm _ _).trans ((hb bq mem_bq fun e => (h.apart.off 1 (by simp) bq e.symm).2 rfl).trans h.hq)
  · exact (set_other (n4 i h1 g hg') _ _).trans (hb g (mem_vs h1 hg') fun e => by have := h.apart.two 1 (i + 2) (by simp) (by simpa using h1) g e.symm hg'; omega)
  · exact (set_other (n2 g hg') _ _).trans (hb g (mem_ve hg') fun e => by have := h.apart.two 1 0 (by simp) (by simp) g e.symm hg'; omega)
  · exact (ha.off 1 (by simp) g hg').1
  · have k : Keep (b :: vd.ownBlock.toList) w w' := ⟨hg.os, hg.tape, hg.output, hg.size, fun k hk hn => hg.block k hk fun e => hn (by rw [← e]; simp)⟩
    exact k.set (.inl (by simp)) _ _

/-- a cell of a queue's block written -/
theorem RAt.setJob (h : RAt w b pb bq vs ve vd H) {k g o : Nat} {u : Value} {q : List Job} (hk : k < vs.length) (hg : vs[k].ownBlock = some g) (hr : (w.setCell ⟨g, o, none⟩ u).ownsRow 0 186 3 vs[k] q.length (q.flatMap Job.cells)) :
    RAt (w.setCell ⟨g, o, none⟩ u) b pb bq vs ve vd (H.put k q) ∧ g ∈ Har.blocks b bq (ve :: vd :: vs) := by
  have hn : ∀ i (hi : i < (ve :: vd :: vs).length) x, (ve :: vd :: vs)[i].ownBlock = some x → i ≠ k + 2 → x ≠ g := fun i hi x hx hne e => hne (h.apart.two i (k + 2) hi (by simpa using hk) x hx (e ▸ hg))
  have ho := h.apart.off (k + 2) (by simpa using hk) g hg
  refine ⟨⟨h.apart, (set_other ho.1.symm _ _).trans h.hb, (set_other ho.2.symm _ _).trans h.hq, by simpa [Har.Har.put] using h.len, fun i h1 h2 => ?_, owns_block h.he fun x hx => set_other (hn 0 (by simp) x hx (by omega)) _ _, owns_block h.hd fun x hx => set_other (hn 1 (by simp) x hx (by omega)) _ _⟩, mem_vs hk hg⟩
  simp only [Har.Har.put, List.getElem_set]
  split
  · rename_i e
    subst e
    exact hr
  · rename_i e
    have h2' : i < H.queues.length := by simpa [Har.Har.put] using h2
    exact owns_block (h.rows i h1 h2') fun x hx => set_other (hn (i + 2) (by simpa using h1) x hx (by omega)) _ _

/-- a queue was appended to (or copied) and its slice is stored -/
theorem RAt.pushQ (h : RAt w b pb bq vs ve vd H) {k : Nat} (hk : k < vs.length) {w7 : World} {v : Value} {q : List Job} (hq : w7.ownsRow 0 186 3 v q.length (q.flatMap Job.cells)) (hg : w.grownBy w7 vs[k].ownBlock) (hat : ∀ g, v.ownBlock = some g → vs[k].ownBlock = some g ∨ w.heap.size ≤ g) :
    RAt (w7.setCell ⟨bq, k, none⟩ v) b pb bq (vs.set k v) ve vd (H.put k q) ∧ Keep (bq :: vs[k].ownBlock.toList) w (w7.setCell ⟨bq, k, none⟩ v) := by
  have hb : ∀ x ∈ Har.blocks b bq (ve :: vd :: vs), some x ≠ vs[k].ownBlock → w7.heap[x]? = w.heap[x]? := fun x hx hn => hg.block x (h.lt x hx) hn
  have hbo : ∀ (i : Nat) (hi : i < (ve :: vd :: vs).length), i ≠ k + 2 → ∀ x, (ve :: vd :: vs)[i].ownBlock = some x → w7.heap[x]? = w.heap[x]? := fun i hi hne x hx =>
    hb x (mem_blocks.2 (.inr (.inr ⟨i, hi, hx⟩))) fun e => hne (h.apart.two i (k + 2) hi (by simpa using hk) x hx (by simpa using e.symm))
  have hko := h.apart.off (k + 2) (by simpa using hk)
  have ha : Apart b bq (ve :: vd :: vs.set k v) := h.apart.set (k + 2) v fun _ g hg' => (hat g hg').imp id fun hs hm => by have := h.lt g hm; omega
  refine ⟨⟨ha, ?_, ?_, by simpa [Har.Har.put] using h.len, fun i h1 h2 => ?_, owns_block h.he fun x hx => ?_, owns_block h.hd fun x hx => ?_⟩, ?_⟩
  · rw [List.length_set]
    exact (set_other h.apart.ne _ _).trans ((hb b mem_b fun e => (hko b (by simpa using e.symm)).1 rfl).trans h.hb)
  · rw [set_same ((hb bq mem_bq fun e => (hko bq (by simpa using e.symm)).2 rfl).trans h.hq)]
    simp
  · simp only [Har.Har.put, List.getElem_set]
    split
    · rename_i e
      subst e
      exact owns_block hq fun x hx => set_other (ha.off (k + 2) (by simpa using hk) x (by simpa using hx)).2 _ _
    · rename_i e
      have h1' : i < vs.length := by simpa using h1
      have h2' : i < H.queues.length := by simpa [Har.Har.put] using h2
      exact owns_block (h.rows i h1' h2') fun x hx => (set_other (h.apart.off (i + 2) (by simpa using h1') x hx).2 _ _).trans (hbo (i + 2) (by simpa using h1') (by omega) x hx)
  · exact (set_other (h.apart.off 0 (by simp) x hx).2 _ _).trans (hbo 0 (by simp) (by omega) x hx)
  · exact (set_other (h.apart.off 1 (by simp) x hx).2 _ _).trans (hbo 1 (by simp) (by omega) x hx)
  · have k7 : Keep (bq :: vs[k].ownBlock.toList) w w7 := ⟨hg.os, hg.tape, hg.output, hg.size, fun i hi hn => hg.block i hi fun e => hn (by rw [← e]; simp)⟩
    exact k7.set (.inl (by simp)) _ _

/-- a queue that is not empty -/
theorem RAt.head (h : RAt w b pb bq vs ve vd H) {k : Nat} (hk : k < vs.length) (hk2 : k < H.queues.length) {j : Job} {l : List Job} (hq : H.queues[k] = j :: l) :
    ∃ g cap, vs[k] = .slice (some ⟨g, 0, none⟩) (l.length + 1) cap ∧ l.length + 1 ≤ cap ∧ g < w.heap.size ∧ w.cell? ⟨g, 0, none⟩ = some j.mach ∧ w.cell? ⟨g, 1, none⟩ = some (.int .i64 j.tag) ∧ w.cell? ⟨g, 2, none⟩ = some (.bool j.called) ∧ (∀ o, w.frozen? ⟨g, o, none⟩ = false) ∧
    (w.setCell ⟨g, 2, none⟩ (.bool true)).ownsRow 0 186 3 vs[k] ({ j with called := true } :: l).length (({ j with called := true } :: l).flatMap Job.cells) ∧ Sees w (some ⟨g, if cap = 1 then 0 else 3, none⟩) (l.flatMap Job.cells) := by
  have hr := h.rows k hk hk2
  rw [hq] at hr
  rcases hr.2 with ⟨-, h0⟩ | ⟨g, cap, cur, hv, h1, hg, hle, hmax, hcs, hpre⟩
  · simp at h0
  have hcell : ∀ (i : Nat) (u : Value), ((j :: l).flatMap Job.cells)[i]? = some u → w.cell? ⟨g, i, none⟩ = some u := by
    intro i u hu
    have e2 : (⟨g, 0, none⟩ : Addr).add i = ⟨g, 0 + i, none⟩ := by unfold Addr.add; split <;> simp_all
    have := hr.cells (g := g) (by rw [hv]; rfl) i u hu
    rw [e2, Nat.zero_add] at this
    exact this
  refine ⟨g, cap, by rw [hv]; rfl, hle, lt_of hg, hcell 0 _ rfl, hcell 1 _ rfl, hcell 2 _ rfl, fun o => free_of hg o, ?_, ⟨fun i hi => ⟨g, if cap = 1 then 0 else 3, rfl, ?_⟩⟩⟩
  · rw [hv] at hr ⊢
    exact (hr.stored 2 (.bool true)).1
  · have hl1 : l ≠ [] := fun e => by rw [e] at hi; simp at hi
    have hl2 : 0 < l.length := List.length_pos_iff.2 hl1
    have hc1 : ¬ cap = 1 := by
      have : (j :: l).length = l.length + 1 := rfl
      omega
    rw [if_neg hc1]
    refine hcell (3 + i) _ ?_
    rw [List.flatMap_cons, List.getElem?_append_right (by simp [Job.cells])]
    simp [Job.cells]
end

theorem PAt.ltAll {w : World} {pb : Nat} {B : RB} {S : RP} (h : PAt w pb B S) : ∀ x ∈ pb :: B.all, x < w.heap.size := by
  intro x hx
  rcases List.mem_cons.1 hx with rfl | hx
  · have c := h.c0
    unfold World.cell? at c
    apply Decidable.byContradiction
    intro hn
    simp only [Array.getElem?_eq_none (Nat.le_of_not_lt hn)] at c
    simp at c
  · rcases List.mem_append.1 hx with hx | hx
    · exact h.lt x hx
    · obtain ⟨s, hs, hg⟩ := List.mem_filterMap.1 hx
      obtain ⟨i, hi, rfl⟩ := List.getElem_of_mem hs
      obtain ⟨a, c, -, ho⟩ := h.progs i hi (by rw [← h.len]; exact hi)
      exact (ho.lt x hg).2

/-- a job of the document's -/
def okJ (n : Nat) (j : Job) : Prop := ∃ i : Nat, j.mach = .int .i64 i ∧ i < n

/-- the document's harness at b, its program at pb: since w0 only blocks of F, the program's and new ones were written -/
structure RSince (w0 : World) (F : List Nat) (w : World) (b pb bq : Nat) (vs : List Value) (ve vd : Value) (B : RB) (H : Har.Har) (S : RP) : Prop where
  at_ : RAt w b pb bq vs ve vd H
  prog : PAt w pb B S
  apart : ∀ x ∈ pb :: B.all, x ∉ Har.blocks b bq (ve :: vd :: vs)
  ok : ∀ q ∈ H.queues, ∀ j ∈ q, okJ S.ths.length j
  few : H.events.length + Har.due H ≤ 1000000000001 ∧ H.ended.length ≤ H.events.length
  own : ∀ x ∈ Har.blocks b bq (ve :: vd :: vs), x ∈ F ∨ w0.heap.size ≤ x
  keep : Keep (F ++ B.mem) w0 w

section
variable {w0 w w' : World} {F T : List Nat} {b pb bq : Nat} {vs vs' : List Value} {ve ve' vd vd' : Value} {B : RB} {H H' : Har.Har} {S S' : RP}

theorem RSince.turn (h : RSince w0 F w b pb bq vs ve vd B H S) (ha : RAt w' b pb bq vs' ve' vd' H') (k : Keep T w w') (hT : ∀ x ∈ T, x ∈ Har.blocks b bq (ve :: vd :: vs)) (hn : ∀ x ∈ Har.blocks b bq (ve' :: vd' :: vs'), x ∈ Har.blocks b bq (ve :: vd :: vs) ∨ w.heap.size ≤ x)
    (hok : ∀ q ∈ H'.queues, ∀ j ∈ q, okJ S.ths.length j) (hf : H'.events.length + Har.due H' ≤ 1000000000001 ∧ H'.ended.length ≤ H'.events.length) : RSince w0 F w' b pb bq vs' ve' vd' B H' S := by
  refine ⟨ha, h.prog.keep k fun x hx => ⟨fun e => h.apart pb (by simp) (e ▸ hT x hx), fun hm => h.apart x (by simp [hm]) (hT x hx)⟩, fun x hm hx => ?_, hok, hf, fun x hx => ?_, h.keep.chain k fun x hx => ?_⟩
  · rcases hn x hx with h1 | h1
    · exact h.apart x hm h1
    · have := h.prog.ltAll x hm
      omega
  · rcases hn x hx with h1 | h1
    · exact h.own x h1
    · exact .inr (Nat.le_trans h.keep.size h1)
  · rcases h.own x (hT x hx) with h1 | h1
    · exact .inl (List.mem_append_left _ h1)
    · exact .inr h1

theorem RB.mem_all {x : Nat} (h : x ∈ B.mem) : x ∈ pb :: B.all := List.mem_cons_of_mem _ (List.mem_append_left _ h)

/-- a step of the program's -/
theorem RSince.step (h : RSince w0 F w b pb bq vs ve vd B H S) (i : Nat) (hr : PAt w' pb B (refStep S i).1) (k : Keep B.mem w w') : RSince w0 F w' b pb bq vs ve vd B H (refStep S i).1 :=
  ⟨h.at_.keep k fun x hx => h.apart x (RB.mem_all hx), hr, h.apart, fun q hq j hj => by rw [(refStep_len S i).1]; exact h.ok q hq j hj, h.few, h.own, h.keep.chain k fun x hx => .inl (List.mem_append_right _ hx)⟩

theorem RSince.keep0 (h : RSince w0 F w b pb bq vs ve vd B H S) (k : Keep [] w w') : RSince w0 F w' b pb bq vs ve vd B H S :=
  ⟨h.at_.keep k (by simp), h.prog.keep0 k, h.apart, h.ok, h.few, h.own, h.keep.chain k (by simp)⟩

theorem RSince.count (h : RSince w0 F w b pb bq vs ve vd B H S) (x : Int) : RSince w0 F (w.setCell ⟨b, 2, none⟩ (.int .i64 x)) b pb bq vs ve vd B { H with steps := x } S :=
  h.turn (h.at_.setSteps x) ((Keep.refl [b] w).set (.inl (by simp)) 2 _) (fun x hx => by simp at hx; subst hx; exact mem_b) (fun x hx => .inl hx) h.ok h.few

theorem rput_ok (h : RSince w0 F w b pb bq vs ve vd B H S) {k : Nat} {q : List Job} (hq : ∀ j ∈ q, okJ S.ths.length j) : ∀ q' ∈ (H.put k q).queues, ∀ j ∈ q', okJ S.ths.length j := by
  intro q' hq' j hj
  rcases List.mem_or_eq_of_mem_set hq' with h1 | rfl
  · exact h.ok _ h1 j hj
  · exact hq j hj

/-- an event is noted -/
theorem RSince.event {w7 : World} {g cap : Nat} (h : RSince w0 F w b pb bq vs ve vd B H S) (k : Keep [] w w') (kind who tag : Int) (hown : w7.ownsRow 0 190 4 (.slice (some ⟨g, 0, none⟩) (H.events.length + 1) cap) (H.events.length + 1) (evs H.events ++ [.int .i64 kind, .int .i64 who, .int .i64 tag, .int .i64 H.steps]))
    (hg : w'.grownBy w7 ve.ownBlock) (hat : ve.ownBlock = some g ∨ g = w'.heap.size) (hf : H.events.length + 1 + Har.due H ≤ 1000000000001) :
    RSince w0 F (w7.setCell ⟨b, 3, none⟩ (.slice (some ⟨g, 0, none⟩) (H.events.length + 1) cap)) b pb bq vs (.slice (some ⟨g, 0, none⟩) (H.events.length + 1) cap) vd B (H.event kind who tag) S := by
  have h' := h.keep0 k
  have e1 : (H.events ++ [Ev.mk kind who tag H.steps]).length = H.events.length + 1 := by simp
  have hO := hown
  rw [← show evs (H.events ++ [⟨kind, who, tag, H.steps⟩]) = evs H.events ++ [.int .i64 kind, .int .i64 who, .int .i64 tag, .int .i64 H.steps] from Har.evs_snoc _ _, ← e1] at hO
  have hA : ∀ x, (Value.slice (some ⟨g, 0, none⟩) (H.events ++ [Ev.mk kind who tag H.steps]).length cap).ownBlock = some x → ve.ownBlock = some x ∨ w'.heap.size ≤ x := fun x hx => by
    have hx' : g = x := by simpa [Value.ownBlock] using hx
    subst hx'
    exact hat.imp id (fun e => by rw [e]; exact Nat.le_refl _)
  obtain ⟨q1, q2⟩ := h'.at_.setEvents hO hg hA
  rw [e1] at q1 q2 hA
  refine h'.turn q1 q2 (fun x hx => ?_) (fun x hx => ?_) h'.ok ⟨?_, ?_⟩
  · simp only [List.mem_cons, Option.mem_toList] at hx
    rcases hx with rfl | hx
    · exact mem_b
    · exact mem_ve hx
  · rw [mem_blocks] at hx
    rcases hx with rfl | rfl | ⟨i, hi, hx⟩
    · exact .inl mem_b
    · exact .inl mem_bq
    · rcases i with _ | i
      · exact (hA x hx).imp mem_ve id
      · exact .inl (mem_blocks.2 (.inr (.inr ⟨i + 1, by simpa using hi, hx⟩)))
  · show (H.events ++ _).length + Har.due H ≤ _
    rw [e1]
    exact hf
  · show H.ended.length ≤ (H.events ++ _).length
    rw [e1]
    have := h.few
    omega

/-- a machine is among the ended ones -/
theorem RSince.ended {w7 : World} {g cap : Nat} {u : Value} (h : RSince w0 F w b pb bq vs ve vd B H S) (k : Keep [] w w') (hown : w7.ownsRow 0 3 1 (.slice (some ⟨g, 0, none⟩) (H.ended.length + 1) cap) (H.ended.length + 1) (H.ended ++ [u]))
    (hg : w'.grownBy w7 vd.ownBlock) (hat : vd.ownBlock = some g ∨ g = w'.heap.size) (hf : H.ended.length + 1 ≤ H.events.length) :
    RSince w0 F (w7.setCell ⟨b, 4, none⟩ (.slice (some ⟨g, 0, none⟩) (H.ended.length + 1) cap)) b pb bq vs ve (.slice (some ⟨g, 0, none⟩) (H.ended.length + 1) cap) B { H with ended := H.ended ++ [u] } S := by
  have h' := h.keep0 k
  have e1 : (H.ended ++ [u]).length = H.ended.length + 1 := by simp
  have hO := hown
  rw [← e1] at hO
  have hA : ∀ x, (Value.slice (some ⟨g, 0, none⟩) (H.ended ++ [u]).length cap).ownBlock = some x → vd.ownBlock = some x ∨ w'.heap.size ≤ x := fun x hx => by
    have hx' : g = x := by simpa [Value.ownBlock] using hx
    subst hx'
    exact hat.imp id (fun e => by rw [e]; exact Nat.le_refl _)
  obtain ⟨q1, q2⟩ := h'.at_.setEnded hO hg hA
  rw [e1] at q1 q2 hA
  refine h'.turn q1 q2 (fun x hx => ?_) (fun x hx => ?_) h'.ok ⟨h.few.1, ?_⟩
  · simp only [List.mem_cons, Option.mem_toList] at hx
    rcases hx with rfl | hx
    · exact mem_b
    · exact mem_vd hx
  · rw [mem_blocks] at hx
    rcases hx with rfl | rfl | ⟨i, hi, hx⟩
    · exact .inl mem_b
    · exact .inl mem_bq
    · rcases i with _ | _ | i
      · exact .inl (mem_ve hx)
      · exact (hA x hx).imp mem_vd id
      · exact .inl (mem_blocks.2 (.inr (.inr ⟨i + 2, by simpa using hi, hx⟩)))
  · show (H.ended ++ [u]).length ≤ H.events.length
    rw [e1]
    exact hf

/-- a queue's slice is stored anew -/
theorem RSince.queue {w7 : World} {k : Nat} {v : Value} {q : List Job} (h : RSince w0 F w b pb bq vs ve vd B H S) (kk : Keep [] w w') (hk : k < vs.length) (hq : w7.ownsRow 0 186 3 v q.length (q.flatMap Job.cells)) (hg : w'.grownBy w7 vs[k].ownBlock) (hat : ∀ g, v.ownBlock = some g → vs[k].ownBlock = some g ∨ w'.heap.size ≤ g)
    (hok : ∀ j ∈ q, okJ S.ths.length j) (hf : H.events.length + Har.due (H.put k q) ≤ 1000000000001) :
    RSince w0 F (w7.setCell ⟨bq, k, none⟩ v) b pb bq (vs.set k v) ve vd B (H.put k q) S := by
  have h' := h.keep0 kk
  obtain ⟨q1, q2⟩ := h'.at_.pushQ hk hq hg hat
  refine h'.turn q1 q2 (fun x hx => ?_) (fun x hx => ?_) (rput_ok h' hok) ⟨hf, h.few.2⟩
  · simp only [List.mem_cons, Option.mem_toList] at hx
    rcases hx with rfl | hx
    · exact mem_bq
    · exact mem_vs hk hx
  · rw [mem_blocks] at hx
    rcases hx with rfl | rfl | ⟨i, hi, hx⟩
    · exact .inl mem_b
    · exact .inl mem_bq
    · rcases i with _ | _ | i
      · exact .inl (mem_ve hx)
      · exact .inl (mem_vd hx)
      · simp only [List.getElem_cons_succ, List.getElem_set] at hx
        have hi' : i < vs.length := by simpa using hi
        split at hx
        · rename_i e
          subst e
          exact (hat x hx).imp (mem_vs hi') id
        · exact .inl (mem_vs hi' hx)

/-- the head is called -/
theorem RSince.call (h : RSince w0 F w b pb bq vs ve vd B H S) {k : Nat} (hk : k < vs.length) (hk2 : k < H.queues.length) {j : Job} {l : List Job} (hq : H.queues[k] = j :: l) {g : Nat} (hg : vs[k].ownBlock = some g) (hf : H.events.length + Har.due (H.put k ({ j with called := true } :: l)) ≤ 1000000000001) :
    RSince w0 F (w.setCell ⟨g, 2, none⟩ (.bool true)) b pb bq vs ve vd B (H.put k ({ j with called := true } :: l)) S := by
  obtain ⟨g', cap, hv, -, -, -, -, -, -, hr, -⟩ := h.at_.head hk hk2 hq
  obtain rfl : g' = g := by rw [hv] at hg; simpa [Value.ownBlock] using hg
  obtain ⟨q1, q2⟩ := h.at_.setJob hk hg hr
  refine h.turn q1 ((Keep.refl [g'] w).set (.inl (by simp)) 2 _) (fun x hx => by simp at hx; subst hx; exact q2) (fun x hx => .inl hx) (rput_ok h fun i hi => ?_) ⟨hf, h.few.2⟩
  rcases List.mem_cons.1 hi with rfl | hi
  · exact h.ok _ (List.getElem_mem hk2) j (by rw [hq]; simp)
  · exact h.ok _ (List.getElem_mem hk2) i (by rw [hq]; simp [hi])

/-- the event of a call is noted, and then the head is marked -/
theorem RSince.callEvent {w7 : World} {g cap : Nat} (h : RSince w0 F w b pb bq vs ve vd B H S) (kk : Keep [] w w') {k : Nat} (hk : k < vs.length) (hk2 : k < H.queues.length) {j : Job} {l : List Job} (hq : H.queues[k] = j :: l) (hc : j.called = false) {g2 : Nat} (hg2 : vs[k].ownBlock = some g2)
    (hown : w7.ownsRow 0 190 4 (.slice (some ⟨g, 0, none⟩) (H.events.length + 1) cap) (H.events.length + 1) (evs H.events ++ [.int .i64 1, .int .i64 k, .int .i64 j.tag, .int .i64 H.steps]))
    (hg : w'.grownBy w7 ve.ownBlock) (hat : ve.ownBlock = some g ∨ g = w'.heap.size) :
    RSince w0 F ((w7.setCell ⟨b, 3, none⟩ (.slice (some ⟨g, 0, none⟩) (H.events.length + 1) cap)).setCell ⟨g2, 2, none⟩ (.bool true)) b pb bq vs (.slice (some ⟨g, 0, none⟩) (H.events.length + 1) cap) vd B (H.called k j l) S := by
  have h' := h.keep0 kk
  have e1 : (H.events ++ [Ev.mk 1 k j.tag H.steps]).length = H.events.length + 1 := by simp
  have hO := hown
  rw [← show evs (H.events ++ [⟨1, k, j.tag, H.steps⟩]) = evs H.events ++ [.int .i64 1, .int .i64 k, .int .i64 j.tag, .int .i64 H.steps] from Har.evs_snoc _ _, ← e1] at hO
  have hA : ∀ x, (Value.slice (some ⟨g, 0, none⟩) (H.events ++ [Ev.mk 1 k j.tag H.steps]).length cap).ownBlock = some x → ve.ownBlock = some x ∨ w'.heap.size ≤ x := fun x hx => by
    have hx' : g = x := by simpa [Value.ownBlock] using hx
    subst hx'
    exact hat.imp id (fun e => by rw [e]; exact Nat.le_refl _)
  obtain ⟨q1, q2⟩ := h'.at_.setEvents hO hg hA
  rw [e1] at q1 q2 hA
  have p1 := q1
  have hq' : ({ H with events := H.events ++ [Ev.mk 1 k j.tag H.steps] } : Har.Har).queues[k]'hk2 = j :: l := hq
  obtain ⟨g', cap', hv, -, -, -, -, -, -, hr, -⟩ := p1.head hk hk2 hq'
  obtain rfl : g' = g2 := by rw [hv] at hg2; simpa [Value.ownBlock] using hg2
  obtain ⟨r1, r2⟩ := p1.setJob hk hg2 hr
  rw [H.called_no k j l hc]
  have hmk : g' ∈ Har.blocks b bq (ve :: vd :: vs) := mem_vs hk hg2
  have kT : Keep (g' :: b :: ve.ownBlock.toList) w' ((w7.setCell ⟨b, 3, none⟩ (.slice (some ⟨g, 0, none⟩) (H.events.length + 1) cap)).setCell ⟨g', 2, none⟩ (.bool true)) :=
    (q2.mono fun x hx => List.mem_cons_of_mem _ hx).set (.inl (by simp)) _ _
  refine h'.turn r1 kT (fun x hx => ?_) (fun x hx => ?_) (rput_ok h' fun i hi => ?_) ⟨?_, ?_⟩
  · simp only [List.mem_cons, Option.mem_toList] at hx
    rcases hx with rfl | rfl | hx
    · exact hmk
    · exact mem_b
    · exact mem_ve hx
  · rw [mem_blocks] at hx
    rcases hx with rfl | rfl | ⟨i, hi, hx⟩
    · exact .inl mem_b
    · exact .inl mem_bq
    · rcases i with _ | i
      · exact (hA x hx).imp mem_ve id
      · exact .inl (mem_blocks.2 (.inr (.inr ⟨i + 1, by simpa using hi, hx⟩)))
  · rcases List.mem_cons.1 hi with rfl | hi
    · exact h.ok _ (List.getElem_mem hk2) j (by rw [hq]; simp)
    · exact h.ok _ (List.getElem_mem hk2) i (by rw [hq]; simp [hi])
  · have h1 := due_put H hk2 ({ j with called := true } :: l)
    have h2 := h.few
    rw [hq] at h1
    simp only [dueQ, List.map_cons, List.sum_cons, Har.Job.due, hc, if_true, Bool.false_eq_true, if_false] at h1
    show (H.events ++ [Ev.mk 1 k j.tag H.steps]).length + Har.due (H.put k ({ j with called := true } :: l)) ≤ _
    rw [e1]
    omega
  · show H.ended.length ≤ (H.events ++ [Ev.mk 1 k j.tag H.steps]).length
    rw [e1]
    have := h.few
    omega

/-- the event of a machine's end, the machine among the ended ones, its place given up -/
theorem due_called (H : Har.Har) {k : Nat} (hk : k < H.queues.length) {j : Job} {l : List Job} (hq : H.queues[k] = j :: l) (hc : j.called = true) : Har.due (H.put k l) + 1 = Har.due H := by
  have h1 := due_put H hk l
  rw [hq] at h1
  simp only [dueQ, List.map_cons, List.sum_cons, Har.Job.due, hc, if_true] at h1
  omega

theorem own_zero {w : World} {base : Nat} {e : TypeId} {size : Nat} {v : Value} {n : Nat} {xs : List Value} (h : w.ownsRow base e size v n xs) : w.ownsRow 0 e size v n xs :=
  ⟨h.1, h.2.imp id fun ⟨g, cap, cur, e1, e2, e3⟩ => ⟨g, cap, cur, e1, Nat.zero_le _, e3⟩⟩

/-- a queue's slice is a copy's -/
theorem RSince.queueE {w7 : World} {k : Nat} {v : Value} {q : List Job} (h : RSince w0 F w b pb bq vs ve vd B H S) (kk : Keep [] w w7) (hk : k < vs.length) (hq : w7.ownsRow w.heap.size 186 3 v q.length (q.flatMap Job.cells))
    (hok : ∀ j ∈ q, okJ S.ths.length j) (hf : H.events.length + Har.due (H.put k q) ≤ 1000000000001) :
    RSince w0 F (w7.setCell ⟨bq, k, none⟩ v) b pb bq (vs.set k v) ve vd B (H.put k q) S :=
  h.queue (w' := w) (Keep.refl _ _) hk (own_zero hq) ⟨kk.os, kk.tape, kk.output, kk.size, fun i hi hn => kk.block i hi (by simp)⟩ (fun g hg => .inr (hq.lt g hg).1) hok hf

/-- the cells that a step looks at -/
structure StepCells (w : World) (b pb bq k g cap : Nat) (n : Nat) (ve vd : Value) (steps : Int) (nq : Nat) (j : Job) : Prop where
  c0 : w.cell? ⟨b, 0, none⟩ = some (.pointer (some ⟨pb, 0, none⟩))
  c1 : w.cell? ⟨b, 1, none⟩ = some (.slice (some ⟨bq, 0, none⟩) n n)
  c2 : w.cell? ⟨b, 2, none⟩ = some (.int .i64 steps)
  c3 : w.cell? ⟨b, 3, none⟩ = some ve
  c4 : w.cell? ⟨b, 4, none⟩ = some vd
  cq : w.cell? ⟨bq, k, none⟩ = some (.slice (some ⟨g, 0, none⟩) nq cap)
  q0 : w.cell? ⟨g, 0, none⟩ = some j.mach
  q1 : w.cell? ⟨g, 1, none⟩ = some (.int .i64 j.tag)
  q2 : w.cell? ⟨g, 2, none⟩ = some (.bool j.called)
  zb : ∀ o, w.frozen? ⟨b, o, none⟩ = false
  zq : ∀ o, w.frozen? ⟨bq, o, none⟩ = false
  zg : ∀ o, w.frozen? ⟨g, o, none⟩ = false
  lb : b < w.heap.size
  lq : bq < w.heap.size
  lg : g < w.heap.size
  sees : Sees w (some ⟨g, if cap = 1 then 0 else 3, none⟩) []

theorem RSince.cells (h : RSince w0 F w b pb bq vs ve vd B H S) {k : Nat} (hk : k < vs.length) (hk2 : k < H.queues.length) {j : Job} {l : List Job} (hq : H.queues[k] = j :: l) {g cap nq : Nat} (hv : vs[k] = .slice (some ⟨g, 0, none⟩) nq cap) :
    StepCells w b pb bq k g cap vs.length ve vd H.steps nq j ∧ nq = l.length + 1 ∧ nq ≤ cap ∧ Sees w (some ⟨g, if cap = 1 then 0 else 3, none⟩) (l.flatMap Job.cells) := by
  obtain ⟨g', cap', hv', hcap, hglt, q0, q1, q2, z, -, hsee⟩ := h.at_.head hk hk2 hq
  rw [hv] at hv'
  simp only [Value.slice.injEq, Option.some.injEq, Addr.mk.injEq] at hv'
  obtain ⟨⟨rfl, -⟩, rfl, rfl⟩ := hv'
  refine ⟨⟨cell_of h.at_.hb 0, cell_of h.at_.hb 1, cell_of h.at_.hb 2, cell_of h.at_.hb 3, cell_of h.at_.hb 4, ?_, q0, q1, q2, free_of h.at_.hb, free_of h.at_.hq, z, lt_of h.at_.hb, lt_of h.at_.hq, hglt, ⟨fun i hi => absurd hi (Nat.not_lt_zero _)⟩⟩, rfl, hcap, hsee⟩
  rw [cell_of h.at_.hq, List.getElem?_toArray, List.getElem?_eq_getElem hk, hv]

theorem called_len (H : Har.Har) (k : Nat) (j : Job) (l : List Job) : (H.called k j l).queues.length = H.queues.length := by
  unfold Har.Har.called
  split
  · rfl
  · simp [Har.Har.event, Har.Har.put]
theorem called_head (H : Har.Har) {k : Nat} (hk : k < H.queues.length) {j : Job} {l : List Job} (hq : H.queues[k] = j :: l) : (H.called k j l).queues[k]'(by rw [called_len]; exact hk) = { j with called := true } :: l := by
  by_cases hc : j.called = true
  · have e : ({ j with called := true } : Job) = j := by cases j; simp at hc; simp [hc]
    rw [e]
    simp only [H.called_yes k j l hc]
    exact hq
  · simp only [H.called_no k j l (by simpa using hc), Har.Har.event, Har.Har.put, List.getElem_set_self]
/-- what is noted was due -/
theorem called_few (H : Har.Har) {k : Nat} (hk : k < H.queues.length) {j : Job} {l : List Job} (hq : H.queues[k] = j :: l) : (H.called k j l).events.length + Har.due (H.called k j l) = H.events.length + Har.due H := by
  by_cases hc : j.called = true
  · rw [H.called_yes k j l hc]
  · have hc' : j.called = false := by simpa using hc
    rw [H.called_no k j l hc']
    have h1 := due_put H hk ({ j with called := true } :: l)
    rw [hq] at h1
    simp only [dueQ, List.map_cons, List.sum_cons, Har.Job.due, hc', if_true, Bool.false_eq_true, if_false] at h1
    show (H.events ++ [_]).length + Har.due (H.put k _) = _
    rw [List.length_append, List.length_singleton]
    omega
theorem called_ended (H : Har.Har) (k : Nat) (j : Job) (l : List Job) : (H.called k j l).ended = H.ended := by
  unfold Har.Har.called
  split <;> rfl
theorem stepH_at (H : Har.Har) (S : RP) {k : Nat} (hk : k < H.queues.length) {j : Job} {l : List Job} (hq : H.queues[k] = j :: l) {i : Nat} (hm : j.mach = .int .i64 i) :
    Har.stepH refM H S k = if (refStep S i).2 then ((H.called k j l).count.done k { j with called := true } l, (refStep S i).1) else ((H.called k j l).count, (refStep S i).1) := by
  unfold Har.stepH
  rw [List.getD_eq_getElem?_getD, List.getElem?_eq_getElem hk, hq, Option.getD_some]
  have e : refM.step S j.mach = refStep S i := by rw [hm]; rfl
  simp only [e]
theorem stepH_few (H : Har.Har) (S : RP) {k : Nat} (hk : k < H.queues.length) {j : Job} {l : List Job} (hq : H.queues[k] = j :: l) {i : Nat} (hm : j.mach = .int .i64 i) :
    (Har.stepH refM H S k).1.events.length + Har.due (Har.stepH refM H S k).1 = H.events.length + Har.due H := by
  rw [stepH_at H S hk hq hm]
  split
  · have hk1 : k < (H.called k j l).count.queues.length := by show k < (H.called k j l).queues.length; rw [called_len]; exact hk
    have h1 := due_called (H.called k j l).count hk1 (called_head H hk hq) rfl
    have h2 := called_few H hk hq
    show ((H.called k j l).events ++ [_]).length + Har.due ((H.called k j l).count.put k l) = _
    rw [List.length_append, List.length_singleton]
    have h3 : Har.due (H.called k j l).count = Har.due (H.called k j l) := rfl
    omega
  · exact called_few H hk hq
end
end Go.Proofs.YtdkdeiofjoccnaaGreat.Ref
