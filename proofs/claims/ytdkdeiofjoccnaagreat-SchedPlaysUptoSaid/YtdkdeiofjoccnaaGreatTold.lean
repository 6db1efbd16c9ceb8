/- What the events of a harness that laid made come to (plain Lean). -/
import Derived.Test.YtdkdeiofjoccnaaGreatLaid
namespace Go.Proofs.YtdkdeiofjoccnaaGreat.Lit
open Go.RowKit Go.Proofs.YtdkdeiofjoccnaaGreat.Mem Go.Proofs.YtdkdeiofjoccnaaGreat.Ar Go.Proofs.YtdkdeiofjoccnaaGreat.Un
open Go.Proofs.YtdkdeiofjoccnaaGreat.Har (Rank Job Ev)
set_option linter.unusedVariables false

/-- where threads skip nothing, each step is one less to do -/
theorem good_exact (P : Park) (x y : Har.Har × St) (h : Good P x) (hs : ∀ t ∈ x.2.ths, ∀ i ∈ t.prog, i.op ≠ 5) (hm : Har.Move (machs P) x y) : muP P y + 1 = muP P x := by
  obtain ⟨i, h1, h5, h6, h3, a, b, hx, ha, hb, hy, hq⟩ := h.step hm
  obtain ⟨r1, r2, r3, r4⟩ := stepT_rem x.2.ars[P.seats[i].ar] P.ars[P.seats[i].ar].2 x.2.ths[i] (h.at_ i h5)
  have r5 := stepT_exact x.2.ars[P.seats[i].ar] P.ars[P.seats[i].ar].2 x.2.ths[i] (h.at_ i h5) (hs _ (List.getElem_mem h5))
  have hat := h.at_ i h5
  unfold muP
  rw [hx, hq]
  have hw : ∀ k, k ≠ i → wt y.2 k = wt x.2 k := fun k hk => by rw [hy]; exact wt_other (Ne.symm hk)
  have hwi : wt y.2 i = max 1 (x.2.ths[i].prog.length - (stepT x.2.ars[P.seats[i].ar] P.ars[P.seats[i].ar].2 x.2.ths[i]).1.2.at_) := by rw [hy, wt_self h5, r1]
  have hwx := wt_at h5
  split
  · rename_i hd
    have := r3.1 hd
    rw [List.map_append, List.map_append, List.map_cons, List.sum_append, List.sum_append, List.sum_cons, map_same hw ha, map_same hw hb]
    omega
  · rename_i hd
    have h7 : ¬ x.2.ths[i].prog.length ≤ (stepT x.2.ars[P.seats[i].ar] P.ars[P.seats[i].ar].2 x.2.ths[i]).1.2.at_ := fun e => hd (r3.2 e)
    rw [List.map_append, List.map_append, List.map_cons, List.map_cons, List.sum_append, List.sum_append, List.sum_cons, List.sum_cons, map_same hw ha, map_same hw hb]
    omega

/-- the jobs of a worker, by their numbers -/
def idxs (wk : Nat) (js : List Jb) (k : Nat) : List Nat := (List.range js.length).filter fun i => (js.getD i ⟨0, 0, 0⟩).w wk == k
def tagOf (js : List Jb) (i : Nat) : Int := (js.getD i ⟨0, 0, 0⟩).tag
def costOf (js : List Jb) (i : Nat) : Nat := (js.getD i ⟨0, 0, 0⟩).cost
/-- a job done: its number, when it was called, when it was done -/
structure Fin3 where
  i : Nat
  c : Int
  d : Int
def pairOf (js : List Jb) (k : Nat) (x : Fin3) : List Ev := [⟨1, k, tagOf js x.i, x.c⟩, ⟨2, k, tagOf js x.i, x.d⟩]
/-- a worker's own events -/
def evOf (k : Nat) (es : List Ev) : List Ev := es.filter fun e => e.who == (k : Int)

/-- a job in a queue -/
def jobOf (js : List Jb) (P : Park) (i : Nat) (c : Bool) : Job := ⟨ptr (P.seats.getD i ⟨0, .nilIface, 0⟩).tb, tagOf js i, c⟩
/-- a queue: only its head may be called -/
def qWk (js : List Jb) (P : Park) (c : Bool) : List Nat → List Job
  | [] => []
  | i :: R => jobOf js P i c :: R.map fun i => jobOf js P i false
/-- the event of a head that is called -/
def evWk (js : List Jb) (k : Nat) : Option Int → List Nat → List Ev
  | some c, i :: _ => [⟨1, k, tagOf js i, c⟩]
  | _, _ => []
/-- the jobs that are not begun -/
def unbegun : Option Int → List Nat → List Nat
  | some _, R => R.tail
  | none, R => R

/-- a worker at work -/
structure Wk (wk : Nat) (js : List Jb) (P : Park) (x : Har.Har × St) (k : Nat) (D : List Fin3) (R : List Nat) (cur : Option Int) : Prop where
  all : D.map Fin3.i ++ R = idxs wk js k
  queue : x.1.queues[k]? = some (qWk js P cur.isSome R)
  events : evOf k x.1.events = D.flatMap (pairOf js k) ++ evWk js k cur R
  long : ∀ d ∈ D, (costOf js d.i : Int) ≤ d.d - d.c
  run : ∀ c, cur = some c → ∃ i R', R = i :: R' ∧ ∀ t, x.2.ths[i]? = some t → (t.at_ : Int) ≤ x.1.steps - c
  still : ∀ i ∈ unbegun cur R, ∀ t, x.2.ths[i]? = some t → t.at_ = 0

/-- all of it -/
structure Going (wk : Nat) (js : List Jb) (P : Park) (x : Har.Har × St) : Prop where
  good : Good P x
  seats : P.seats.length = js.length
  idx : ∀ i (h : i < P.seats.length), P.idx (ptr P.seats[i].tb) = i
  prog : ∀ i (h : i < x.2.ths.length), x.2.ths[i].prog = List.replicate (js.getD i ⟨0, 0, 0⟩).n addI
  steps : ∃ t : Nat, x.1.steps = t ∧ t + muP P x = total js
  qlen : x.1.queues.length = wk
  sorted : x.1.events.Pairwise fun a b => a.at_ ≤ b.at_
  range : ∀ e ∈ x.1.events, 0 ≤ e.at_ ∧ e.at_ ≤ x.1.steps ∧ 0 ≤ e.who ∧ e.who < wk
  count : x.1.events.length + Har.due x.1 = 2 * js.length
  ended : x.1.ended.length + (ids P x.1).length = js.length
  wks : ∀ k, k < wk → ∃ D R cur, Wk wk js P x k D R cur


section
variable {wk : Nat} {js : List Jb} {P : Park} {S : St} {H : Har.Har}

theorem zip_range {α β : Type} (A : List α) (B : List β) (a0 : α) (b0 : β) (h : A.length = B.length) : A.zip B = (List.range B.length).map fun i => (A.getD i a0, B.getD i b0) := by
  apply List.ext_getElem (by simp [h])
  intro i h1 h2
  have hb : i < B.length := by simpa using h2
  simp [List.getD_eq_getElem?_getD, List.getElem?_eq_getElem hb, List.getElem?_eq_getElem (show i < A.length by omega)]

/-- a queue, by numbers -/
def qOf (js : List Jb) (P : Park) (l : List Nat) : List Job := l.map fun i => jobOf js P i false
theorem laid_queue (h : LaidH wk js P S H) (k : Nat) (hk : k < wk) : H.queues[k]? = some (qOf js P (idxs wk js k)) := by
  rw [h.qs, List.getElem?_map, List.getElem?_range hk, Option.map_some]
  congr 1
  rw [zip_range P.seats js ⟨0, .nilIface, 0⟩ ⟨0, 0, 0⟩ h.seats, List.filter_map, List.map_map]
  rfl

theorem mem_idxs {k i : Nat} : i ∈ idxs wk js k ↔ i < js.length ∧ (js.getD i ⟨0, 0, 0⟩).w wk = k := by
  simp [idxs, List.mem_filter]
theorem idx_of {w : World} (hs : Stand P w S) {i : Nat} (hi : i < P.seats.length) : P.idx (ptr (P.seats.getD i ⟨0, .nilIface, 0⟩).tb) = i := by
  rw [List.getD_eq_getElem?_getD, List.getElem?_eq_getElem hi]
  exact Park.idx_at hs.apart hi
theorem ids_qOf (hI : ∀ i (h : i < P.seats.length), P.idx (ptr P.seats[i].tb) = i) (l : List Nat) (hl : ∀ i ∈ l, i < P.seats.length) : (qOf js P l).map (fun j => P.idx j.mach) = l := by
  unfold qOf
  rw [List.map_map]
  conv => rhs; rw [← List.map_id l]
  apply List.map_congr_left
  intro i hi
  have h := hl i hi
  simp only [Function.comp, id_eq, jobOf, List.getD_eq_getElem?_getD, List.getElem?_eq_getElem h, Option.getD_some]
  exact hI i h

/-- which threads are queued at first: all of them, worker by worker -/
theorem laid_ids (hI : ∀ i (h : i < P.seats.length), P.idx (ptr P.seats[i].tb) = i) (h : LaidH wk js P S H) : ids P H = (List.range wk).flatMap (idxs wk js) := by
  have e : H.queues = (List.range wk).map fun k => qOf js P (idxs wk js k) := by
    apply List.ext_getElem (by rw [h.qs]; simp)
    intro k h1 h2
    have hk : k < wk := by simpa using h2
    have := laid_queue h k hk
    rw [List.getElem?_eq_getElem h1] at this
    rw [Option.some.inj this]
    simp
  unfold ids
  rw [e, ← List.flatMap_def, List.map_flatMap]
  refine congrArg (fun f => List.flatMap f (List.range wk)) (funext fun k => ?_)
  exact ids_qOf hI _ fun i hi => by rw [h.seats]; exact (mem_idxs.1 hi).1

theorem nodup_flat (K : Nat) : ((List.range K).flatMap (idxs wk js)).Nodup ∧ ∀ i ∈ (List.range K).flatMap (idxs wk js), (js.getD i ⟨0, 0, 0⟩).w wk < K := by
  induction K with
  | zero => simp
  | succ K ih =>
    rw [List.range_succ, List.flatMap_append, List.flatMap_cons, List.flatMap_nil, List.append_nil]
    refine ⟨List.nodup_append.2 ⟨ih.1, List.Nodup.sublist List.filter_sublist List.nodup_range, fun a ha b hb e => ?_⟩, fun i hi => ?_⟩
    · subst e
      have := ih.2 a ha
      have := (mem_idxs.1 hb).2
      omega
    · rcases List.mem_append.1 hi with hi | hi
      · exact Nat.lt_succ_of_lt (ih.2 i hi)
      · have := (mem_idxs.1 hi).2
        omega

theorem costs (h : LaidH wk js P S H) (hw : 1 ≤ wk) (hI : ∀ i (h : i < P.seats.length), P.idx (ptr P.seats[i].tb) = i) : muP P (H, S) = total js := by
  have hw0 : ∀ i, i < js.length → wt S i = costOf js i := by
    intro i hi
    have h1 : S.ths[i]? = some (th0 (List.replicate (js.getD i ⟨0, 0, 0⟩).n addI)) := by
      rw [h.ths, List.getElem?_map, List.getD_eq_getElem?_getD, List.getElem?_eq_getElem hi]; rfl
    unfold wt
    rw [h1]
    simp [th0, costOf, Jb.cost]
  have key : ∀ K, (((List.range K).flatMap (idxs wk js)).map (wt S)).sum = (((List.range js.length).filter fun i => decide ((js.getD i ⟨0, 0, 0⟩).w wk < K)).map (costOf js)).sum := by
    intro K
    induction K with
    | zero =>
      have e0 : ((List.range js.length).filter fun i => decide ((js.getD i ⟨0, 0, 0⟩).w wk < 0)) = [] := List.filter_eq_nil_iff.2 (fun a _ => by simp)
      rw [e0]
      rfl
    | succ K ih =>
      rw [List.range_succ, List.flatMap_append, List.map_append, List.sum_append, ih, List.flatMap_cons, List.flatMap_nil, List.append_nil]
      have e1 : (idxs wk js K).map (wt S) = (idxs wk js K).map (costOf js) := List.map_congr_left fun i hi => hw0 i (mem_idxs.1 hi).1
      rw [e1]
      unfold idxs
      generalize List.range js.length = l
      induction l with
      | nil => rfl
      | cons i l ihl =>
        simp only [List.filter_cons]
        by_cases h1 : (js.getD i ⟨0, 0, 0⟩).w wk < K
        · have h2 : ((js.getD i ⟨0, 0, 0⟩).w wk == K) = false := by rw [beq_eq_false_iff_ne]; omega
          have h3 : (js.getD i ⟨0, 0, 0⟩).w wk < K + 1 := by omega
          simp only [h1, h2, h3, decide_true, if_true, Bool.false_eq_true, if_false, List.map_cons, List.sum_cons]
          omega
        · by_cases h4 : (js.getD i ⟨0, 0, 0⟩).w wk = K
          · have h2 : ((js.getD i ⟨0, 0, 0⟩).w wk == K) = true := by rw [beq_iff_eq]; exact h4
            have h3 : (js.getD i ⟨0, 0, 0⟩).w wk < K + 1 := by omega
            simp only [h1, h2, h3, decide_true, decide_false, if_true, Bool.false_eq_true, if_false, List.map_cons, List.sum_cons]
            omega
          · have h2 : ((js.getD i ⟨0, 0, 0⟩).w wk == K) = false := by rw [beq_eq_false_iff_ne]; exact h4
            have h3 : ¬ (js.getD i ⟨0, 0, 0⟩).w wk < K + 1 := by omega
            simp only [h1, h2, h3, decide_false, Bool.false_eq_true, if_false]
            omega
  unfold muP
  rw [laid_ids hI h]
  show (((List.range wk).flatMap (idxs wk js)).map (wt S)).sum = total js
  rw [key wk]
  have e2 : ((List.range js.length).filter fun i => decide ((js.getD i ⟨0, 0, 0⟩).w wk < wk)) = List.range js.length := by
    rw [List.filter_eq_self]
    intro i _
    have : (js.getD i ⟨0, 0, 0⟩).w wk < wk := Nat.mod_lt _ (by omega)
    simpa using this
  rw [e2]
  unfold total
  congr 1
  apply List.ext_getElem (by simp)
  intro i h1 h2
  have hi : i < js.length := by simpa using h2
  simp [costOf, List.getD_eq_getElem?_getD, List.getElem?_eq_getElem hi]

theorem due_q (l : List Nat) : Har.dueQ (qOf js P l) = 2 * l.length := by
  induction l with
  | nil => rfl
  | cons i l ih =>
    have : Har.dueQ (qOf js P (i :: l)) = 2 + Har.dueQ (qOf js P l) := by simp [Har.dueQ, qOf, jobOf, Har.Job.due]
    rw [this, ih, List.length_cons]
    omega

end
end Go.Proofs.YtdkdeiofjoccnaaGreat.Lit
