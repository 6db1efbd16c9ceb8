/- A harness that laid made, at work: what stands all the while (plain Lean). -/
import Derived.Test.YtdkdeiofjoccnaaGreatTold
namespace Go.Proofs.YtdkdeiofjoccnaaGreat.Lit
open Go.RowKit Go.Proofs.YtdkdeiofjoccnaaGreat.Mem Go.Proofs.YtdkdeiofjoccnaaGreat.Ar Go.Proofs.YtdkdeiofjoccnaaGreat.Un
open Go.Proofs.YtdkdeiofjoccnaaGreat.Har (Rank Job Ev)
set_option linter.unusedVariables false
section
variable {wk : Nat} {js : List Jb} {P : Park} {S : St} {H : Har.Har}

theorem flat_len (hI : ∀ i (h : i < P.seats.length), P.idx (ptr P.seats[i].tb) = i) (h : LaidH wk js P S H) (hw : 1 ≤ wk) : (ids P H).length = js.length ∧ Har.due H = 2 * js.length := by
  have key : ∀ K, ((List.range K).flatMap (idxs wk js)).length = ((List.range js.length).filter fun i => decide ((js.getD i ⟨0, 0, 0⟩).w wk < K)).length ∧ (((List.range K).map fun k => Har.dueQ (qOf js P (idxs wk js k))).sum = 2 * ((List.range K).flatMap (idxs wk js)).length) := by
    intro K
    induction K with
    | zero =>
      have e0 : ((List.range js.length).filter fun i => decide ((js.getD i ⟨0, 0, 0⟩).w wk < 0)) = [] := List.filter_eq_nil_iff.2 (fun a _ => by simp)
      rw [e0]
      exact ⟨rfl, rfl⟩
    | succ K ih =>
      refine ⟨?_, ?_⟩
      · rw [List.range_succ, List.flatMap_append, List.length_append, ih.1, List.flatMap_cons, List.flatMap_nil, List.append_nil]
        unfold idxs
        generalize List.range js.length = l
        induction l with
        | nil => rfl
        | cons i l ihl =>
          simp only [List.filter_cons]
          by_cases h1 : (js.getD i ⟨0, 0, 0⟩).w wk < K
          · have h2 : ((js.getD i ⟨0, 0, 0⟩).w wk == K) = false := by rw [beq_eq_false_iff_ne]; omega
            have h3 : (js.getD i ⟨0, 0, 0⟩).w wk < K + 1 := by omega
            simp only [h1, h2, h3, decide_true, if_true, Bool.false_eq_true, if_false, List.length_cons]
            omega
          · by_cases h4 : (js.getD i ⟨0, 0, 0⟩).w wk = K
            · have h2 : ((js.getD i ⟨0, 0, 0⟩).w wk == K) = true := by rw [beq_iff_eq]; exact h4
              have h3 : (js.getD i ⟨0, 0, 0⟩).w wk < K + 1 := by omega
              simp only [h1, h2, h3, decide_true, decide_false, if_true, Bool.false_eq_true, if_false, List.length_cons]
              omega
            · have h2 : ((js.getD i ⟨0, 0, 0⟩).w wk == K) = false := by rw [beq_eq_false_iff_ne]; exact h4
              have h3 : ¬ (js.getD i ⟨0, 0, 0⟩).w wk < K + 1 := by omega
              simp only [h1, h2, h3, decide_false, Bool.false_eq_true, if_false]
              omega
      · rw [List.range_succ, List.flatMap_append, List.length_append, List.map_append, List.sum_append, ih.2, List.flatMap_cons, List.flatMap_nil, List.append_nil]
        simp only [List.map_cons, List.map_nil, List.sum_cons, List.sum_nil, due_q]
        omega
  have e2 : ((List.range js.length).filter fun i => decide ((js.getD i ⟨0, 0, 0⟩).w wk < wk)) = List.range js.length := by
    rw [List.filter_eq_self]
    intro i _
    have : (js.getD i ⟨0, 0, 0⟩).w wk < wk := Nat.mod_lt _ (by omega)
    simpa using this
  obtain ⟨k1, k2⟩ := key wk
  rw [e2, List.length_range] at k1
  refine ⟨by rw [laid_ids hI h]; exact k1, ?_⟩
  have e : H.queues = (List.range wk).map fun k => qOf js P (idxs wk js k) := by
    apply List.ext_getElem (by rw [h.qs]; simp)
    intro k h1 h2
    have hk : k < wk := by simpa using h2
    have := laid_queue h k hk
    rw [List.getElem?_eq_getElem h1] at this
    rw [Option.some.inj this]
    simp
  unfold Har.due
  rw [e, List.map_map]
  rw [show ((Har.dueQ ∘ fun k => qOf js P (idxs wk js k))) = (fun k => Har.dueQ (qOf js P (idxs wk js k))) from rfl, k2, k1]

theorem Going.begin {w wr : World} {hb : Nat} (h : LaidAt w wr hb wk js P S H) (hw : 1 ≤ wk) : Going wk js P (H, S) := by
  obtain ⟨hq, vs, ve, vd, hY, hL, -⟩ := h
  have hI : ∀ i (h : i < P.seats.length), P.idx (ptr P.seats[i].tb) = i := fun i hi => Park.idx_at hY.stand.apart hi
  obtain ⟨hlen, hdue⟩ := flat_len hI hL hw
  have hprog : ∀ i (h : i < S.ths.length), S.ths[i] = th0 (List.replicate (js.getD i ⟨0, 0, 0⟩).n addI) := by
    intro i hi
    have hi' : i < js.length := by rw [hL.ths] at hi; simpa using hi
    simp only [hL.ths, List.getElem_map, List.getD_eq_getElem?_getD, List.getElem?_eq_getElem hi', Option.getD_some]
  refine ⟨⟨hY.stand.lt, hY.stand.la, fun i hi => by rw [hL.ar i hi, hL.pars, ← hL.seats]; exact hi, fun i hi => ?_, fun i hi => ?_, ?_, fun i hi hn => ?_⟩, hL.seats, hI, fun i hi => ?_, ⟨0, hL.steps, by rw [costs hL hw hI]; omega⟩, ?_, ?_, ?_, ?_, ?_, fun k hk => ?_⟩
  · rw [hprog i hi]; exact Nat.zero_le _
  · rw [show ids P ((H, S) : Har.Har × St).1 = ids P H from rfl, laid_ids hI hL] at hi
    obtain ⟨k, -, hi⟩ := List.mem_flatMap.1 hi
    rw [hL.seats]
    exact (mem_idxs.1 hi).1
  · rw [show ids P ((H, S) : Har.Har × St).1 = ids P H from rfl, laid_ids hI hL]
    exact (nodup_flat wk).1
  · refine absurd ?_ hn
    rw [show ids P ((H, S) : Har.Har × St).1 = ids P H from rfl, laid_ids hI hL]
    have hi' : i < js.length := by
      have h1 : i < S.ths.length := hi
      rw [hL.ths] at h1
      simpa using h1
    exact List.mem_flatMap.2 ⟨(js.getD i ⟨0, 0, 0⟩).w wk, List.mem_range.2 (Nat.mod_lt _ (by omega)), mem_idxs.2 ⟨hi', rfl⟩⟩
  · rw [hprog i hi]; rfl
  · show H.queues.length = wk
    rw [hL.qs]; simp
  · show H.events.Pairwise _
    rw [hL.events]
    exact List.Pairwise.nil
  · intro e he
    have : e ∈ H.events := he
    rw [hL.events] at this
    simp at this
  · show H.events.length + Har.due H = 2 * js.length
    rw [hL.events, hdue]
    simp
  · show H.ended.length + (ids P H).length = js.length
    rw [hL.ended, hlen]
    simp
  · refine ⟨[], idxs wk js k, none, ⟨rfl, ?_, ?_, by simp, (fun c e => by cases e), fun i hi t ht => ?_⟩⟩
    · show H.queues[k]? = _
      rw [laid_queue hL k hk]
      cases idxs wk js k <;> rfl
    · show evOf k H.events = _
      rw [hL.events]
      rfl
    · have h1 : S.ths[i]? = some t := ht
      have h2 : i < S.ths.length := by
        apply Decidable.byContradiction
        intro hn
        rw [List.getElem?_eq_none (by omega)] at h1
        cases h1
      rw [List.getElem?_eq_getElem h2, hprog i h2] at h1
      rw [← Option.some.inj h1]
      rfl

variable {x y : Har.Har × St}

theorem due_mid (H : Har.Har) {A B : List (List Job)} {q : List Job} (h : H.queues = A ++ q :: B) : Har.due H = (A.map Har.dueQ).sum + Har.dueQ q + (B.map Har.dueQ).sum := by
  unfold Har.due
  rw [h, List.map_append, List.sum_append, List.map_cons, List.sum_cons]
  omega
theorem ids_mid (P : Park) (H : Har.Har) {A B : List (List Job)} {q : List Job} (h : H.queues = A ++ q :: B) : (ids P H).length = A.flatten.length + q.length + B.flatten.length := by
  unfold ids
  rw [h, List.length_map, List.flatten_append, List.flatten_cons, List.length_append, List.length_append]
  omega
theorem evOf_append (k : Nat) (a b : List Ev) : evOf k (a ++ b) = evOf k a ++ evOf k b := by simp [evOf]
theorem dueQ_cons (j : Job) (l : List Job) : Har.dueQ (j :: l) = (if j.called then 1 else 2) + Har.dueQ l := by
  simp [Har.dueQ, Har.Job.due]

/-- the events that a move makes -/
def newEv (k : Nat) (j : Job) (t : Int) (d : Bool) : List Ev := (if j.called then [] else [⟨1, k, j.tag, t⟩]) ++ (if d then [⟨2, k, j.tag, t + 1⟩] else [])

/-- what a move does, all told -/
structure Told (wk : Nat) (js : List Jb) (P : Park) (x y : Har.Har × St) (k i : Nat) (D : List Fin3) (R : List Nat) (cur : Option Int) (A B : List (List Job)) (t' : Th) (d : Bool) : Prop where
  hk : k < wk
  hw : Wk wk js P x k D (i :: R) cur
  hi : i < js.length
  was : x.1.queues = A ++ (jobOf js P i cur.isSome :: R.map fun i => jobOf js P i false) :: B
  len : A.length = k
  queues : y.1.queues = A ++ (if d then R.map fun i => jobOf js P i false else jobOf js P i true :: R.map fun i => jobOf js P i false) :: B
  steps : y.1.steps = x.1.steps + 1
  events : y.1.events = x.1.events ++ newEv k (jobOf js P i cur.isSome) x.1.steps d
  ended : y.1.ended.length = x.1.ended.length + (if d then 1 else 0)
  ths : y.2.ths = x.2.ths.set i t'
  old : ∃ t, x.2.ths[i]? = some t ∧ t.prog = List.replicate (js.getD i ⟨0, 0, 0⟩).n addI ∧ t'.prog = t.prog ∧ t.at_ ≤ t.prog.length ∧ t'.at_ = min (t.at_ + 1) t.prog.length ∧ (d = true ↔ t.prog.length ≤ t'.at_)

theorem Going.told (h : Going wk js P x) (hj : js.length ≤ 1000) (hm : Har.Move (machs P) x y) : ∃ k i D R cur A B t' d, Told wk js P x y k i D R cur A B t' d := by
  obtain ⟨k, A, j, l, B, t⟩ := turned hm
  have hk : k < wk := by
    have h1 := congrArg List.length t.was
    rw [List.length_append, h.qlen, t.len, List.length_cons] at h1
    omega
  obtain ⟨D, R, cur, W⟩ := h.wks k hk
  have hq := W.queue
  rw [t.was, List.getElem?_append_right (by rw [t.len]; omega), t.len, Nat.sub_self] at hq
  simp only [List.getElem?_cons_zero, Option.some.injEq] at hq
  match R, W, hq with
  | [], W, hq => simp [qWk] at hq
  | i :: R, W, hq =>
    simp only [qWk, List.cons.injEq] at hq
    obtain ⟨rfl, rfl⟩ := hq
    have hi : i < js.length := (mem_idxs.1 (show i ∈ idxs wk js k by rw [← W.all]; simp)).1
    have hi1 : i < P.seats.length := by rw [h.seats]; exact hi
    have hidx : P.idx (jobOf js P i cur.isSome).mach = i := by
      have := h.idx i hi1
      simp only [jobOf, List.getD_eq_getElem?_getD, List.getElem?_eq_getElem hi1, Option.getD_some]
      exact this
    obtain ⟨h5, h6, hs⟩ := stepP_form hi1 h.good.ths (h.good.ar i hi1) h.good.ars
    have hst : (machs P).step x.2 (jobOf js P i cur.isSome).mach = stepP P x.2 i := by
      show stepP P x.2 (P.idx (jobOf js P i cur.isSome).mach) = _
      rw [hidx]
    have hat := h.good.at_ i h5
    have hp := h.prog i h5
    obtain ⟨r1, r2, r3, -⟩ := stepT_rem x.2.ars[P.seats[i].ar] (P.ars[P.seats[i].ar]'(h.good.ar i hi1)).2 x.2.ths[i] hat
    have r5 := stepT_exact x.2.ars[P.seats[i].ar] (P.ars[P.seats[i].ar]'(h.good.ar i hi1)).2 x.2.ths[i] hat (by
      intro z hz
      rw [hp] at hz
      rw [(List.mem_replicate.1 hz).2]
      decide)
    obtain ⟨t0, ht0, hmu⟩ := h.steps
    have hle := total_le js
    have hw : wrap64 (x.1.steps + 1) = x.1.steps + 1 := IntWalk.wrap64_in _ (by omega)
    refine ⟨k, i, D, R, cur, A, B, (stepT x.2.ars[P.seats[i].ar] (P.ars[P.seats[i].ar]'(h.good.ar i hi1)).2 x.2.ths[i]).1.2, (stepT x.2.ars[P.seats[i].ar] (P.ars[P.seats[i].ar]'(h.good.ar i hi1)).2 x.2.ths[i]).2, hk, W, hi, t.was, t.len, ?_, ?_, ?_, ?_, ?_, ⟨x.2.ths[i], List.getElem?_eq_getElem h5, hp, r1, hat, r5, r3⟩⟩
    · rw [t.queues, hst, hs]
      simp only
      split <;> rfl
    · rw [t.steps, hw]
    · rw [t.events, hst, hs, hw]
      simp only [newEv, List.append_assoc]
    · rw [t.ended, hst, hs]
      simp only
      split <;> simp
    · rw [t.st, hst, hs]

theorem newEv_mem {k : Nat} {j : Job} {t : Int} {d : Bool} {e : Ev} (h : e ∈ newEv k j t d) : e.who = k ∧ t ≤ e.at_ ∧ e.at_ ≤ t + 1 := by
  unfold newEv at h
  rcases List.mem_append.1 h with h | h <;> split at h <;> simp at h <;> subst h <;> simp <;> omega
theorem newEv_sorted (k : Nat) (j : Job) (t : Int) (d : Bool) : (newEv k j t d).Pairwise fun a b => a.at_ ≤ b.at_ := by
  unfold newEv
  cases j.called <;> cases d <;> simp <;> omega
theorem evOf_new (k : Nat) (j : Job) (t : Int) (d : Bool) : evOf k (newEv k j t d) = newEv k j t d := by
  unfold evOf
  rw [List.filter_eq_self]
  intro e he
  have := (newEv_mem he).1
  simp [this]
theorem evOf_far {k k' : Nat} (hk : k ≠ k') (j : Job) (t : Int) (d : Bool) : evOf k' (newEv k j t d) = [] := by
  unfold evOf
  rw [List.filter_eq_nil_iff]
  intro e he
  have := (newEv_mem he).1
  simp [this]
  omega

/-- the worker that made the step -/
theorem Told.same {k i : Nat} {D : List Fin3} {R : List Nat} {cur : Option Int} {A B : List (List Job)} {t' : Th} {d : Bool} (h : Told wk js P x y k i D R cur A B t' d) (hg : Going wk js P x) : ∃ D' R' cur', Wk wk js P y k D' R' cur' := by
  obtain ⟨t, ht, hp, hp', hat, hat', hd⟩ := h.old
  have hi5 : i < x.2.ths.length := by
    apply Decidable.byContradiction
    intro hn
    rw [List.getElem?_eq_none (by omega)] at ht
    cases ht
  have hyi : y.2.ths[i]? = some t' := by rw [h.ths, List.getElem?_set_self hi5]
  have hyo : ∀ i', i' ≠ i → y.2.ths[i']? = x.2.ths[i']? := fun i' hne => by rw [h.ths, List.getElem?_set_ne (Ne.symm hne)]
  have hnd : i ∉ R := by
    have h1 : (idxs wk js k).Nodup := List.Nodup.sublist List.filter_sublist List.nodup_range
    rw [← h.hw.all] at h1
    exact (List.nodup_cons.1 (List.nodup_append.1 h1).2.1).1
  have hyq : ∀ q, (A ++ q :: B)[k]? = some q := fun q => by
    rw [List.getElem?_append_right (by rw [h.len]; omega), h.len, Nat.sub_self]
    rfl
  have hcost : costOf js i = max 1 t.prog.length := by rw [hp]; simp [costOf, Jb.cost]
  -- when it was called
  obtain ⟨c, hc⟩ : ∃ c : Int, c = cur.getD x.1.steps := ⟨_, rfl⟩
  have hev : evOf k y.1.events = D.flatMap (pairOf js k) ++ ([⟨1, k, tagOf js i, c⟩] ++ (if d then [⟨2, k, tagOf js i, x.1.steps + 1⟩] else [])) := by
    rw [h.events, evOf_append, h.hw.events, evOf_new, hc]
    unfold newEv jobOf
    cases cur with
    | none => simp [evWk]
    | some c => simp [evWk]
  have hrun : (t.at_ : Int) ≤ x.1.steps - c := by
    rw [hc]
    cases hcur : cur with
    | none =>
      have := h.hw.still i (by rw [hcur]; exact List.mem_cons_self ..) t ht
      simp only [this, Option.getD_none]
      omega
    | some c0 =>
      obtain ⟨i', R', e, hr⟩ := h.hw.run c0 hcur
      obtain ⟨rfl, rfl⟩ := List.cons.inj e
      exact hr t ht
  have hstill : ∀ i' ∈ R, ∀ u, y.2.ths[i']? = some u → u.at_ = 0 := fun i' hi' u hu => by
    have hne : i' ≠ i := fun e => hnd (e ▸ hi')
    rw [hyo i' hne] at hu
    refine h.hw.still i' ?_ u hu
    cases cur with
    | none => exact List.mem_cons_of_mem _ hi'
    | some c0 => exact hi'
  cases hdd : d with
  | true =>
    refine ⟨D ++ [⟨i, c, x.1.steps + 1⟩], R, none, ⟨?_, ?_, ?_, fun z hz => ?_, (fun c e => by cases e), hstill⟩⟩
    · rw [← h.hw.all]; simp
    · rw [h.queues, hyq, hdd, if_pos rfl]
      cases R <;> rfl
    · rw [hev, hdd, if_pos rfl, List.flatMap_append]
      simp [evWk, pairOf]
    · rcases List.mem_append.1 hz with hz | hz
      · exact h.hw.long z hz
      · simp only [List.mem_singleton] at hz
        subst hz
        have h9 := hd.1 hdd
        simp only [hcost]
        omega
  | false =>
    refine ⟨D, i :: R, some c, ⟨h.hw.all, ?_, ?_, h.hw.long, fun c' e => ?_, hstill⟩⟩
    · rw [h.queues, hyq, hdd, if_neg (by simp)]
      rfl
    · rw [hev, hdd, if_neg (by simp), List.append_nil]
      rfl
    · obtain rfl := Option.some.inj e
      refine ⟨i, R, rfl, fun u hu => ?_⟩
      rw [hyi] at hu
      obtain rfl := Option.some.inj hu
      rw [h.steps, hat']
      omega

/-- .. and any other -/
theorem Told.other {k i : Nat} {D : List Fin3} {R : List Nat} {cur : Option Int} {A B : List (List Job)} {t' : Th} {d : Bool} (h : Told wk js P x y k i D R cur A B t' d) (hg : Going wk js P x) {k' : Nat} (hk' : k' < wk) (hne : k ≠ k') : ∃ D' R' cur', Wk wk js P y k' D' R' cur' := by
  obtain ⟨D', R', cur', W⟩ := hg.wks k' hk'
  have hik : (js.getD i ⟨0, 0, 0⟩).w wk = k := (mem_idxs.1 (show i ∈ idxs wk js k by rw [← h.hw.all]; simp)).2
  have hR : ∀ i' ∈ R', i' ≠ i := fun i' hi' e => by
    subst e
    have := (mem_idxs.1 (show i' ∈ idxs wk js k' by rw [← W.all]; exact List.mem_append_right _ hi')).2
    omega
  have hyo : ∀ i', i' ≠ i → y.2.ths[i']? = x.2.ths[i']? := fun i' hne => by rw [h.ths, List.getElem?_set_ne (Ne.symm hne)]
  refine ⟨D', R', cur', ⟨W.all, ?_, ?_, W.long, fun c e => ?_, fun i' hi' u hu => ?_⟩⟩
  · rw [← W.queue, h.was, h.queues]
    by_cases hlt : k' < A.length
    · rw [List.getElem?_append_left hlt, List.getElem?_append_left hlt]
    · rw [List.getElem?_append_right (by omega), List.getElem?_append_right (by omega)]
      obtain ⟨n, hn⟩ : ∃ n, k' - A.length = n + 1 := ⟨k' - A.length - 1, by have := h.len; omega⟩
      rw [hn, List.getElem?_cons_succ, List.getElem?_cons_succ]
  · rw [h.events, evOf_append, evOf_far hne, List.append_nil]
    exact W.events
  · obtain ⟨i', R'', e1, hr⟩ := W.run c e
    refine ⟨i', R'', e1, fun u hu => ?_⟩
    rw [hyo i' (hR i' (by rw [e1]; simp))] at hu
    have := hr u hu
    rw [h.steps]
    omega
  · have hm : i' ∈ R' := by
      cases cur' with
      | none => exact hi'
      | some c => exact List.mem_of_mem_tail hi'
    rw [hyo i' (hR i' hm)] at hu
    exact W.still i' hi' u hu

theorem Going.move (h : Going wk js P x) (hj : js.length ≤ 1000) (hm : Har.Move (machs P) x y) : Going wk js P y := by
  obtain ⟨k, i, D, R, cur, A, B, t', d, T⟩ := h.told hj hm
  obtain ⟨g2, -⟩ := good_move P x y h.good hm
  have hns : ∀ t ∈ x.2.ths, ∀ z ∈ t.prog, z.op ≠ 5 := by
    intro t ht z hz
    obtain ⟨i', hi', rfl⟩ := List.getElem_of_mem ht
    rw [h.prog i' hi'] at hz
    rw [(List.mem_replicate.1 hz).2]
    decide
  have hex := good_exact P x y h.good hns hm
  obtain ⟨t0, ht0, hmu⟩ := h.steps
  obtain ⟨t, ht, hp, hp', -⟩ := T.old
  refine ⟨g2, h.seats, h.idx, fun i' hi' => ?_, ⟨t0 + 1, by rw [T.steps, ht0]; rfl, by omega⟩, ?_, ?_, fun e he => ?_, ?_, ?_, fun k' hk' => ?_⟩
  · have hi2 : i' < x.2.ths.length := by rw [T.ths] at hi'; simpa using hi'
    simp only [T.ths, List.getElem_set]
    split
    · rename_i e
      subst e
      rw [hp', hp]
    · exact h.prog i' hi2
  · have h1 := h.qlen
    rw [T.was] at h1
    rw [T.queues]
    simp only [List.length_append, List.length_cons] at h1 ⊢
    exact h1
  · rw [T.events, List.pairwise_append]
    refine ⟨h.sorted, newEv_sorted _ _ _ _, fun a ha b hb => ?_⟩
    have := (h.range a ha).2.1
    have := (newEv_mem hb).2.1
    omega
  · rw [T.events] at he
    rw [T.steps]
    rcases List.mem_append.1 he with he | he
    · obtain ⟨r1, r2, r3, r4⟩ := h.range e he
      exact ⟨r1, by omega, r3, r4⟩
    · obtain ⟨m1, m2, m3⟩ := newEv_mem he
      have := T.hk
      exact ⟨by omega, m3, by omega, by omega⟩
  · have c := h.count
    rw [due_mid x.1 T.was, dueQ_cons] at c
    rw [T.events, List.length_append, due_mid y.1 T.queues]
    have e1 : (newEv k (jobOf js P i cur.isSome) x.1.steps d).length = (if cur.isSome then 0 else 1) + (if d then 1 else 0) := by
      unfold newEv jobOf
      cases cur <;> cases d <;> rfl
    rw [e1]
    have e2 : (jobOf js P i cur.isSome).called = cur.isSome := rfl
    rw [e2] at c
    cases hc : cur.isSome <;> cases d <;> simp only [hc, Bool.false_eq_true, if_true, if_false, dueQ_cons, jobOf] at c ⊢ <;> omega
  · have c := h.ended
    rw [ids_mid P x.1 T.was] at c
    rw [T.ended, ids_mid P y.1 T.queues]
    cases d <;> simp only [Bool.false_eq_true, if_true, if_false, List.length_cons, List.length_map] at c ⊢ <;> omega
  · by_cases hne : k = k'
    · subst hne
      exact T.same h
    · exact T.other h hk' hne

theorem Going.path {n : Nat} (p : Har.Path (machs P) n x y) (hj : js.length ≤ 1000) (h : Going wk js P x) : Going wk js P y :=
  p.inv (fun a b ha hm => ha.move hj hm) h
end
end Go.Proofs.YtdkdeiofjoccnaaGreat.Lit
