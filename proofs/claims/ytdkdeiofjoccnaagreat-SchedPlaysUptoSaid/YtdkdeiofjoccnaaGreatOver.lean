/- A harness that laid made, played to its end (plain Lean). -/
import Derived.Test.YtdkdeiofjoccnaaGreatGoing
namespace Go.Proofs.YtdkdeiofjoccnaaGreat.Lit
open Go.RowKit Go.Proofs.YtdkdeiofjoccnaaGreat.Mem Go.Proofs.YtdkdeiofjoccnaaGreat.Ar Go.Proofs.YtdkdeiofjoccnaaGreat.Un
open Go.Proofs.YtdkdeiofjoccnaaGreat.Har (Rank Job Ev)
set_option linter.unusedVariables false
section
variable {wk : Nat} {js : List Jb} {P : Park} {x y : Har.Har × St}

/-- the events of a harness that is done with all -/
structure ToldOk (wk : Nat) (js : List Jb) (es : List Ev) : Prop where
  len : es.length = 2 * js.length
  sorted : es.Pairwise fun a b => a.at_ ≤ b.at_
  range : ∀ e ∈ es, 0 ≤ e.at_ ∧ e.at_ ≤ 11000 ∧ 0 ≤ e.who ∧ e.who < wk
  own : ∀ k, k < wk → ∃ D : List Fin3, D.map Fin3.i = idxs wk js k ∧ evOf k es = D.flatMap (pairOf js k) ∧ ∀ d ∈ D, (costOf js d.i : Int) ≤ d.d - d.c

theorem Going.over (h : Going wk js P x) (hj : js.length ≤ 1000) (hi : Har.idleB x.1 = true) : ToldOk wk js x.1.events ∧ x.1.steps = total js ∧ x.1.ended.length = js.length ∧ ∀ who, Har.pend x.1 who = 0 := by
  have hids := idle_ids (P := P) hi
  have hall : ∀ q ∈ x.1.queues, q = [] := by
    intro q hq
    unfold Har.idleB at hi
    rw [List.all_eq_true] at hi
    exact List.isEmpty_iff.1 (hi q hq)
  have hdue : Har.due x.1 = 0 := by
    unfold Har.due
    have : x.1.queues.map Har.dueQ = x.1.queues.map fun _ => 0 := List.map_congr_left fun q hq => by rw [hall q hq]; rfl
    rw [this]
    generalize x.1.queues = l
    induction l with
    | nil => rfl
    | cons a l ih => simpa using ih
  obtain ⟨t, ht, hmu⟩ := h.steps
  have hm0 : muP P x = 0 := by unfold muP; rw [hids]; rfl
  have hle := total_le js
  have hc := h.count
  have he := h.ended
  rw [hids] at he
  refine ⟨⟨by omega, h.sorted, fun e he => ?_, fun k hk => ?_⟩, by rw [ht]; omega, by simpa using he, fun who => Har.pend_idle hi who⟩
  · obtain ⟨r1, r2, r3, r4⟩ := h.range e he
    exact ⟨r1, by omega, r3, r4⟩
  · obtain ⟨D, R, cur, W⟩ := h.wks k hk
    have hq := W.queue
    have hk' : k < x.1.queues.length := by rw [h.qlen]; exact hk
    rw [List.getElem?_eq_getElem hk', hall _ (List.getElem_mem hk')] at hq
    have hR : R = [] := by
      cases R with
      | nil => rfl
      | cons i R => simp [qWk] at hq
    subst hR
    have hcur : cur = none := by
      cases cur with
      | none => rfl
      | some c =>
        obtain ⟨i, R', e, -⟩ := W.run c rfl
        cases e
    subst hcur
    have ha := W.all
    have hv := W.events
    rw [List.append_nil] at ha
    rw [show evWk js k none [] = [] from rfl, List.append_nil] at hv
    exact ⟨D, ha, hv, W.long⟩

/-- so many moves, so many steps -/
theorem Going.exact {n : Nat} (p : Har.Path (machs P) n x y) (hj : js.length ≤ 1000) (h : Going wk js P x) : Going wk js P y ∧ y.1.steps = x.1.steps + n ∧ muP P y + n = muP P x := by
  have h2 := h.path p hj
  obtain ⟨t, ht, hmu⟩ := h.steps
  obtain ⟨u, hu, hmu2⟩ := h2.steps
  have key : ∀ {n : Nat} {x y : Har.Har × St}, Har.Path (machs P) n x y → Going wk js P x → muP P y + n = muP P x := by
    intro n x y p
    induction p with
    | nil x => intro _; rfl
    | @cons n x y z hm p ih =>
      intro hg
      have hns : ∀ t ∈ x.2.ths, ∀ z ∈ t.prog, z.op ≠ 5 := fun t ht z hz => by
        obtain ⟨i', hi', rfl⟩ := List.getElem_of_mem ht
        rw [hg.prog i' hi'] at hz
        rw [(List.mem_replicate.1 hz).2]
        decide
      have e1 := good_exact P _ _ hg.good hns hm
      have e2 := ih (hg.move hj hm)
      omega
  have k := key p h
  exact ⟨h2, by omega, k⟩

/-- A play and a drain: all is done, in just so many steps. -/
theorem drained_all {H : Har.Har} {S : St} (h : Going wk js P (H, S)) (h0 : H.steps = 0) (hj : js.length ≤ 1000) (l : List Pick.Pk) :
    let c := Har.playC (machs P) l ⟨H, S, total js, false⟩
    let d := Har.playC (machs P) [Har.drainPick] ⟨c.H, c.s, c.left, false⟩
    c.dry = false ∧ c.left ≤ total js ∧ d.dry = false ∧ d.left = 0 ∧ Har.idleB d.H = true ∧ Going wk js P (d.H, d.s) := by
  intro c d
  obtain ⟨t, ht, hmu⟩ := h.steps
  have hmu0 : muP P (H, S) = total js := by
    have : H.steps = t := ht
    omega
  have hc : Har.Came (machs P) ⟨H, S, total js, false⟩ c := Har.playC_came l _
  obtain ⟨g1, s1, m1⟩ := h.exact hc.path hj
  have hle : c.left ≤ total js := hc.le
  have m1' : muP P (c.H, c.s) = c.left := by
    have : muP P (c.H, c.s) + (total js - c.left) = muP P (H, S) := m1
    omega
  have hdry : c.dry = false := (rank P).playC_wet l ⟨H, S, total js, false⟩ h.good (Nat.le_of_eq hmu0) rfl
  have hd : Har.Came (machs P) ⟨c.H, c.s, c.left, false⟩ d := Har.playC_came _ _
  obtain ⟨g2, s2, m2⟩ := g1.exact hd.path hj
  obtain ⟨d1, d2⟩ := (rank P).drain ⟨c.H, c.s, c.left, false⟩ g1.good (Nat.le_of_eq m1') rfl
  refine ⟨hdry, hle, d2, ?_, d1, g2⟩
  have hdl : d.left ≤ c.left := hd.le
  have m2' : muP P (d.H, d.s) + (c.left - d.left) = muP P (c.H, c.s) := m2
  have hz : muP P (d.H, d.s) = 0 := by
    unfold muP
    rw [idle_ids (P := P) d1]
    rfl
  omega

/-- how many of a worker's jobs lie ahead of the q-th -/
def cnt (wk : Nat) (js : List Jb) (k q : Nat) : Nat := ((List.range q).filter fun i => (js.getD i ⟨0, 0, 0⟩).w wk == k).length
theorem cnt_all (k : Nat) : cnt wk js k js.length = (idxs wk js k).length := rfl
theorem cnt_yes {k q : Nat} (h : (js.getD q ⟨0, 0, 0⟩).w wk = k) : cnt wk js k (q + 1) = cnt wk js k q + 1 := by
  unfold cnt
  rw [List.range_succ, List.filter_append, List.length_append]
  have : ((js.getD q ⟨0, 0, 0⟩).w wk == k) = true := by rw [beq_iff_eq]; exact h
  simp only [List.filter_cons, this, if_true, List.filter_nil, List.length_singleton]
theorem cnt_no {k q : Nat} (h : (js.getD q ⟨0, 0, 0⟩).w wk ≠ k) : cnt wk js k (q + 1) = cnt wk js k q := by
  unfold cnt
  rw [List.range_succ, List.filter_append, List.length_append]
  have : ((js.getD q ⟨0, 0, 0⟩).w wk == k) = false := by rw [beq_eq_false_iff_ne]; exact h
  simp only [List.filter_cons, this, Bool.false_eq_true, if_false, List.filter_nil, List.length_nil, Nat.add_zero]
theorem idxs_at {k q : Nat} (hq : q < js.length) (h : (js.getD q ⟨0, 0, 0⟩).w wk = k) : (idxs wk js k)[cnt wk js k q]? = some q := by
  have e : List.range js.length = List.range q ++ (q :: (List.range js.length).drop (q + 1)) := by
    have h1 := List.take_append_drop q (List.range js.length)
    rw [List.take_range, Nat.min_eq_left (by omega)] at h1
    rw [List.drop_eq_getElem_cons (by simpa using hq), List.getElem_range] at h1
    exact h1.symm
  unfold idxs
  rw [e, List.filter_append]
  have : ((js.getD q ⟨0, 0, 0⟩).w wk == k) = true := by rw [beq_iff_eq]; exact h
  unfold cnt
  rw [List.getElem?_append_right (Nat.le_refl _)]
  rw [Nat.sub_self, List.filter_cons, if_pos this]
  rfl
theorem pairs_len (k : Nat) : ∀ D : List Fin3, (D.flatMap (pairOf js k)).length = 2 * D.length
  | [] => rfl
  | d :: D => by
    rw [List.flatMap_cons, List.length_append, pairs_len k D]
    simp [pairOf]; omega
theorem pairs_at (k : Nat) : ∀ (D : List Fin3) (m : Nat) (h : m < D.length), (D.flatMap (pairOf js k))[2 * m]? = some ⟨1, k, tagOf js D[m].i, D[m].c⟩ ∧ (D.flatMap (pairOf js k))[2 * m + 1]? = some ⟨2, k, tagOf js D[m].i, D[m].d⟩
  | d :: D, 0, _ => ⟨rfl, rfl⟩
  | d :: D, m + 1, h => by
    have := pairs_at k D m (by simpa using h)
    rw [List.flatMap_cons, List.getElem?_append_right (by simp [pairOf]; omega), List.getElem?_append_right (by simp [pairOf]; omega)]
    simpa [pairOf, Nat.mul_add] using this

/-- the two events of a worker's job -/
theorem ToldOk.job {es : List Ev} (h : ToldOk wk js es) {k q : Nat} (hk : k < wk) (hq : q < js.length) (hw : (js.getD q ⟨0, 0, 0⟩).w wk = k) :
    ∃ c d : Int, (evOf k es)[2 * cnt wk js k q]? = some ⟨1, k, tagOf js q, c⟩ ∧ (evOf k es)[2 * cnt wk js k q + 1]? = some ⟨2, k, tagOf js q, d⟩ ∧ (costOf js q : Int) ≤ d - c ∧ c ≤ 11000 ∧ d ≤ 11000 ∧ 0 ≤ c ∧ 0 ≤ d := by
  obtain ⟨D, h1, h2, h3⟩ := h.own k hk
  have h4 := idxs_at (wk := wk) hq hw
  rw [← h1, List.getElem?_map] at h4
  have hm : cnt wk js k q < D.length := by
    apply Decidable.byContradiction
    intro hn
    rw [List.getElem?_eq_none (by omega)] at h4
    cases h4
  rw [List.getElem?_eq_getElem hm] at h4
  have hi : D[cnt wk js k q].i = q := Option.some.inj h4
  obtain ⟨p1, p2⟩ := pairs_at (js := js) k D _ hm
  rw [hi, ← h2] at p1 p2
  have l := h3 _ (List.getElem_mem hm)
  rw [hi] at l
  have m1 := h.range _ ((List.mem_filter.1 (List.mem_of_getElem? p1)).1)
  have m2 := h.range _ ((List.mem_filter.1 (List.mem_of_getElem? p2)).1)
  exact ⟨_, _, p1, p2, l, m1.2.1, m2.2.1, m1.1, m2.1⟩
theorem ToldOk.own_len {es : List Ev} (h : ToldOk wk js es) {k : Nat} (hk : k < wk) : (evOf k es).length = 2 * cnt wk js k js.length := by
  obtain ⟨D, h1, h2, h3⟩ := h.own k hk
  rw [h2, pairs_len, cnt_all, ← h1, List.length_map]
end
end Go.Proofs.YtdkdeiofjoccnaaGreat.Lit
