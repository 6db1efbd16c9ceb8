/- A play under a smaller budget is the begin of the play (plain Lean). -/
import Derived.Test.YtdkdeiofjoccnaaGreatOver
namespace Go.Proofs.YtdkdeiofjoccnaaGreat.Har
open Go.RowKit Go.Proofs.YtdkdeiofjoccnaaGreat.Mem
set_option linter.unusedVariables false
variable {S S' : Type} {M : Mach S} {N : Mach S'}

/-- two harnesses that answer alike -/
structure Sim (M : Mach S) (N : Mach S') where
  Rel : Har × S → Har × S' → Prop
  len : ∀ x y, Rel x y → x.1.queues.length = y.1.queues.length
  pend : ∀ x y, Rel x y → ∀ who, pend x.1 who = pend y.1 who
  move : ∀ x y, Rel x y → ∀ who, Har.pend x.1 who ≠ 0 → Rel (stepI M x.1 x.2 who) (stepI N y.1 y.2 who)

variable {R : Sim M N} {δ : Nat} {c c' : Conf S} {d d' : Conf S'}

theorem Sim.idle (R : Sim M N) {x : Har × S} {y : Har × S'} (h : R.Rel x y) : idleB x.1 = idleB y.1 := by
  cases hx : idleB x.1
  · obtain ⟨who, h1, h2⟩ := idle_not hx
    cases hy : idleB y.1
    · rfl
    · have := pend_idle hy (who : Int)
      rw [R.pend _ _ h] at h2
      exact absurd this h2
  · cases hy : idleB y.1
    · obtain ⟨who, h1, h2⟩ := idle_not hy
      have := pend_idle hx (who : Int)
      rw [← R.pend _ _ h] at h2
      exact absurd this h2
    · rfl

/-- they stand alike -/
structure Abreast (R : Sim M N) (δ : Nat) (c : Conf S) (d : Conf S') : Prop where
  wc : c.dry = false
  wd : d.dry = false
  rel : R.Rel (c.H, c.s) (d.H, d.s)
  left : c.left = d.left + δ
/-- one has run out, the other has gone on -/
structure Late (R : Sim M N) (δ : Nat) (c : Conf S) (d : Conf S') : Prop where
  wc : c.dry = false
  wd : d.dry = true
  none : d.left = 0
  gone : ∃ x n, R.Rel x (d.H, d.s) ∧ n ≠ 0 ∧ Path M n x (c.H, c.s) ∧ c.left + n = δ
inductive Tri (R : Sim M N) (δ : Nat) (c : Conf S) (d : Conf S') : Prop where
  | dry (h : c.dry = true)
  | abreast (h : Abreast R δ c d)
  | late (h : Late R δ c d)

theorem Late.on (h : Late R δ c d) (k : Came M c c') : Tri R δ c' d := by
  cases hc : c'.dry
  · obtain ⟨x, n, h1, h2, h3, h4⟩ := h.gone
    have hl := k.le
    exact .late ⟨hc, h.wd, h.none, x, n + (c.left - c'.left), h1, by omega, h3.append k.path, by omega⟩
  · exact .dry hc
theorem Tri.dried (h : c.dry = true) (k : Came M c c') : Tri R δ c' d := by
  rw [k.dryless h]
  exact .dry h

theorem payC_wet (c : Conf S) (who : Int) (h : c.dry = false) : payC M c who = if pend c.H who = 0 then (c, false) else if c.left = 0 then ({ c with dry := true }, false)
    else ({ c with H := (stepI M c.H c.s who).1, s := (stepI M c.H c.s who).2, left := c.left - 1 }, true) := by
  unfold payC
  rw [if_neg (by rw [h]; simp)]
/-- a pay: they stay alike and pay alike, or the poorer one is late -/
theorem pay_tri (h : Abreast R δ c d) (who : Int) : (Abreast R δ (payC M c who).1 (payC N d who).1 ∧ (payC M c who).2 = (payC N d who).2) ∨ (payC M c who).1.dry = true ∨ (Late R δ (payC M c who).1 (payC N d who).1 ∧ (payC N d who).2 = false) := by
  have hp := R.pend _ _ h.rel who
  have hl := h.left
  rw [payC_wet c who h.wc, payC_wet d who h.wd]
  simp only at hp
  rw [← hp]
  by_cases h0 : pend c.H who = 0
  · rw [if_pos h0, if_pos h0]
    exact .inl ⟨h, rfl⟩
  rw [if_neg h0, if_neg h0]
  by_cases h1 : c.left = 0
  · rw [if_pos h1]
    exact .inr (.inl rfl)
  rw [if_neg h1]
  by_cases h2 : d.left = 0
  · rw [if_pos h2]
    obtain ⟨k, j, l, rfl, hk, hq⟩ := pend_pos h0
    refine .inr (.inr ⟨⟨h.wc, rfl, h2, (c.H, c.s), 1, h.rel, by omega, .cons ⟨⟨k, j, l, hk, hq, ?_⟩⟩ (.nil _), by show c.left - 1 + 1 = δ; omega⟩, rfl⟩)
    show ((stepI M c.H c.s (k : Int)).1, (stepI M c.H c.s (k : Int)).2) = _
    unfold stepI
    rw [if_pos (by omega), Int.toNat_natCast]
  · rw [if_neg h2]
    exact .inl ⟨⟨h.wc, h.wd, R.move _ _ h.rel who h0, by show c.left - 1 = d.left - 1 + δ; omega⟩, rfl⟩

theorem sweep_tri : ∀ (k i : Nat) (c : Conf S) (d : Conf S'), Abreast R δ c d → Tri R δ (sweepC M k i c) (sweepC N k i d)
  | 0, i, c, d, h => .abreast h
  | k + 1, i, c, d, h => by
    rcases pay_tri h i with ⟨h1, -⟩ | h1 | ⟨h1, -⟩
    · exact sweep_tri k (i + 1) _ _ h1
    · exact Tri.dried h1 (sweepC_came k (i + 1) _)
    · show Tri R δ (sweepC M k (i + 1) (payC M c i).1) (sweepC N k (i + 1) (payC N d i).1)
      rw [(sweepC_came k (i + 1) (payC N d i).1).dryless h1.wd]
      exact h1.on (sweepC_came k (i + 1) _)
theorem round_tri (h : Abreast R δ c d) : Tri R δ (roundC M c) (roundC N d) := by
  unfold roundC
  rw [R.len _ _ h.rel]
  exact sweep_tri _ _ _ _ h
theorem rounds_tri : ∀ (g f : Nat) (n : Int) (c : Conf S) (d : Conf S'), c.left < f → d.left < g → Abreast R δ c d → Tri R δ (roundsC M f n c) (roundsC N g n d)
  | 0, f, n, c, d, hf, hg, h => by omega
  | g + 1, 0, n, c, d, hf, hg, h => by omega
  | g + 1, f + 1, n, c, d, hf, hg, h => by
    show Tri R δ (if n = 0 ∨ idleB c.H = true ∨ c.dry = true then c else roundsC M f (n - 1) (roundC M c)) (if n = 0 ∨ idleB d.H = true ∨ d.dry = true then d else roundsC N g (n - 1) (roundC N d))
    have hi : idleB c.H = idleB d.H := R.idle h.rel
    by_cases h0 : n = 0 ∨ idleB c.H = true ∨ c.dry = true
    · rw [if_pos h0, if_pos (by rw [h.wd, ← hi]; rw [h.wc] at h0; exact h0)]
      exact .abreast h
    · rw [if_neg h0, if_neg (by rw [h.wd, ← hi]; rw [h.wc] at h0; exact h0)]
      have hni : idleB c.H = false := by
        cases hx : idleB c.H
        · rfl
        · exact absurd (.inr (.inl hx)) h0
      rcases round_tri h with h1 | h1 | h1
      · exact Tri.dried h1 (roundsC_came f (n - 1) _)
      · have e1 := roundC_less M c h.wc hni
        have e2 := roundC_less N d h.wd (by rw [← hi]; exact hni)
        rw [h1.wc] at e1
        rw [h1.wd] at e2
        refine rounds_tri g f (n - 1) _ _ ?_ ?_ h1
        · rcases e1 with e1 | e1
          · cases e1
          · omega
        · rcases e2 with e2 | e2
          · cases e2
          · omega
      · rw [(roundsC_came g (n - 1) (roundC N d)).dryless h1.wd]
        exact h1.on (roundsC_came f (n - 1) _)
theorem run_tri (who : Int) : ∀ (n : Nat) (c : Conf S) (d : Conf S'), Abreast R δ c d → Tri R δ (runC M who n c) (runC N who n d)
  | 0, c, d, h => .abreast h
  | n + 1, c, d, h => by
    have came : Came M (payC M c who).1 (if (payC M c who).2 then runC M who n (payC M c who).1 else (payC M c who).1) := by
      split
      · exact runC_came who n _
      · exact Came.refl _
    show Tri R δ (if (payC M c who).2 then runC M who n (payC M c who).1 else (payC M c who).1) (if (payC N d who).2 then runC N who n (payC N d who).1 else (payC N d who).1)
    rcases pay_tri h who with ⟨h1, h2⟩ | h1 | ⟨h1, h2⟩
    · rw [h2]
      split
      · exact run_tri who n _ _ h1
      · exact .abreast h1
    · exact Tri.dried h1 came
    · rw [show (if (payC N d who).2 then runC N who n (payC N d who).1 else (payC N d who).1) = (payC N d who).1 from if_neg (by rw [h2]; simp)]
      exact h1.on came
theorem finish_tri (who : Int) (n : Nat) : ∀ (g f : Nat) (c : Conf S) (d : Conf S'), c.left < f → d.left < g → Abreast R δ c d → Tri R δ (finishC M who n f c) (finishC N who n g d)
  | 0, f, c, d, hf, hg, h => by omega
  | g + 1, 0, c, d, hf, hg, h => by omega
  | g + 1, f + 1, c, d, hf, hg, h => by
    show Tri R δ (if n = 0 then c else if pend c.H who = n then (if (payC M c who).2 then finishC M who n f (payC M c who).1 else (payC M c who).1) else c)
      (if n = 0 then d else if pend d.H who = n then (if (payC N d who).2 then finishC N who n g (payC N d who).1 else (payC N d who).1) else d)
    have hp : pend c.H who = pend d.H who := R.pend _ _ h.rel who
    rw [hp]
    split
    · exact .abreast h
    · split
      · have came : Came M (payC M c who).1 (if (payC M c who).2 then finishC M who n f (payC M c who).1 else (payC M c who).1) := by
          split
          · exact finishC_came who n f _
          · exact Came.refl _
        rcases pay_tri h who with ⟨h1, h2⟩ | h1 | ⟨h1, h2⟩
        · have e1 := (payC_le M c who).2.2.1
          have e2 := (payC_le N d who).2.2.1
          rw [h2]
          rw [h2] at e1
          split
          · rename_i h3
            exact finish_tri who n g f _ _ (by have := (e1 h3).1; omega) (by have := (e2 h3).1; omega) h1
          · exact .abreast h1
        · exact Tri.dried h1 came
        · rw [show (if (payC N d who).2 then finishC N who n g (payC N d who).1 else (payC N d who).1) = (payC N d who).1 from if_neg (by rw [h2]; simp)]
          exact h1.on came
      · exact .abreast h
theorem pick_tri (h : Abreast R δ c d) (x : Pick.Pk) : Tri R δ (pickC M c x) (pickC N d x) := by
  have hl := h.left
  unfold pickC
  split
  · rcases pay_tri h x.who with ⟨h1, h2⟩ | h1 | ⟨h1, h2⟩
    · exact .abreast h1
    · exact .dry h1
    · exact .late h1
  split
  · exact run_tri _ _ _ _ h
  split
  · rw [show pend c.H x.who = pend d.H x.who from R.pend _ _ h.rel x.who]
    exact finish_tri _ _ _ _ _ _ (by omega) (by omega) h
  split
  · split
    · exact rounds_tri _ _ _ _ _ (by omega) (by omega) h
    · exact .abreast h
  split
  · exact rounds_tri _ _ _ _ _ (by omega) (by omega) h
  · exact .abreast h
theorem play_tri : ∀ (l : List Pick.Pk) (c : Conf S) (d : Conf S'), Abreast R δ c d → Tri R δ (playC M l c) (playC N l d)
  | [], c, d, h => .abreast h
  | x :: l, c, d, h => by
    have came : Came M (pickC M c x) (if (pickC M c x).dry then pickC M c x else playC M l (pickC M c x)) := by
      split
      · exact Came.refl _
      · exact playC_came l _
    show Tri R δ (if (pickC M c x).dry then pickC M c x else playC M l (pickC M c x)) (if (pickC N d x).dry then pickC N d x else playC N l (pickC N d x))
    rcases pick_tri h x with h1 | h1 | h1
    · exact Tri.dried h1 came
    · rw [if_neg (by rw [h1.wc]; simp), if_neg (by rw [h1.wd]; simp)]
      exact play_tri l _ _ h1
    · rw [show (if (pickC N d x).dry then pickC N d x else playC N l (pickC N d x)) = pickC N d x from if_pos h1.wd]
      exact h1.on came
end Go.Proofs.YtdkdeiofjoccnaaGreat.Har

/- Two harnesses that were laid alike. -/
namespace Go.Proofs.YtdkdeiofjoccnaaGreat.Lit
open Go.RowKit Go.Proofs.YtdkdeiofjoccnaaGreat.Mem Go.Proofs.YtdkdeiofjoccnaaGreat.Ar Go.Proofs.YtdkdeiofjoccnaaGreat.Un
open Go.Proofs.YtdkdeiofjoccnaaGreat.Har (Rank Job Ev Sim Abreast Late Tri)
set_option linter.unusedVariables false

/-- a job, but for where its thread lies -/
def sk (P : Park) (j : Job) : Nat × Int × Bool := (P.idx j.mach, j.tag, j.called)

structure Twin (wk : Nat) (js : List Jb) (P P' : Park) (x y : Har.Har × St) : Prop where
  g1 : Going wk js P x
  g2 : Going wk js P' y
  steps : x.1.steps = y.1.steps
  events : x.1.events = y.1.events
  queues : x.1.queues.map (List.map (sk P)) = y.1.queues.map (List.map (sk P'))
  ths : x.2.ths.map Th.at_ = y.2.ths.map Th.at_

theorem turned_at {S : Type} {M : Har.Mach S} {x : Har.Har × S} {k : Nat} {j : Job} {l : List Job} (hq : x.1.queues[k]? = some (j :: l)) : ∃ A B, Turned M x (Har.stepH M x.1 x.2 k) k A j l B := by
  obtain ⟨A, B, e, hl⟩ := split_at hq
  refine ⟨A, B, ?_⟩
  obtain ⟨⟨queues, steps, events, ended⟩, s⟩ := x
  simp only at e hq
  subst hl
  have hs : Har.stepH M ⟨queues, steps, events, ended⟩ s A.length = if (M.step s j.mach).2 then (((⟨queues, steps, events, ended⟩ : Har.Har).called A.length j l).count.done A.length { j with called := true } l, (M.step s j.mach).1) else (((⟨queues, steps, events, ended⟩ : Har.Har).called A.length j l).count, (M.step s j.mach).1) := by
    unfold Har.stepH
    simp only [List.getD_eq_getElem?_getD, hq, Option.getD_some]
  obtain ⟨mach, tag, called⟩ := j
  rw [hs]
  cases called <;> cases hd : (M.step s mach).2 <;>
    (refine ⟨e, rfl, ?_, ?_, ?_, ?_, ?_⟩ <;> simp [Har.Har.called, Har.Har.count, Har.Har.done, Har.Har.put, Har.Har.event, e, hd])

section
variable {wk : Nat} {js : List Jb} {P P' : Park} {x y : Har.Har × St}

theorem Going.stepAt (h : Going wk js P x) {i : Nat} (hi : i < js.length) : ∃ t, x.2.ths[i]? = some t ∧ (stepP P x.2 i).2 = decide ((js.getD i ⟨0, 0, 0⟩).n ≤ t.at_ + 1) ∧ (stepP P x.2 i).1.ths.map Th.at_ = (x.2.ths.map Th.at_).set i (min (t.at_ + 1) (js.getD i ⟨0, 0, 0⟩).n) := by
  have hi1 : i < P.seats.length := by rw [h.seats]; exact hi
  obtain ⟨h5, h6, hs⟩ := stepP_form hi1 h.good.ths (h.good.ar i hi1) h.good.ars
  have hat := h.good.at_ i h5
  have hp := h.prog i h5
  have hpl : x.2.ths[i].prog.length = (js.getD i ⟨0, 0, 0⟩).n := by rw [hp, List.length_replicate]
  obtain ⟨r1, r2, r3, -⟩ := stepT_rem x.2.ars[P.seats[i].ar] (P.ars[P.seats[i].ar]'(h.good.ar i hi1)).2 x.2.ths[i] hat
  have r5 := stepT_exact x.2.ars[P.seats[i].ar] (P.ars[P.seats[i].ar]'(h.good.ar i hi1)).2 x.2.ths[i] hat (by
    intro z hz
    rw [hp] at hz
    rw [(List.mem_replicate.1 hz).2]
    decide)
  rw [r5, hpl] at r3
  rw [hpl] at r5
  refine ⟨x.2.ths[i], List.getElem?_eq_getElem h5, ?_, ?_⟩
  · rw [hs]
    simp only
    apply Bool.eq_iff_iff.2
    rw [r3, decide_eq_true_eq]
    omega
  · rw [hs]
    simp only
    rw [List.map_set, r5]

theorem Twin.pend (h : Twin wk js P P' x y) (who : Int) : Har.pend x.1 who = Har.pend y.1 who := by
  have key : ∀ (Q : Park) (q : List (List Job)) (n : Nat), (q.getD n []).length = ((q.map (List.map (sk Q))).getD n []).length := by
    intro Q q n
    simp only [List.getD_eq_getElem?_getD, List.getElem?_map]
    cases q[n]? <;> simp
  unfold Har.pend
  rw [key P, key P', h.queues]

theorem Twin.move (hj : js.length ≤ 1000) (h : Twin wk js P P' x y) (who : Int) (hp : Har.pend x.1 who ≠ 0) : Twin wk js P P' (Har.stepI (machs P) x.1 x.2 who) (Har.stepI (machs P') y.1 y.2 who) := by
  obtain ⟨k, j, l, rfl, hk, hq⟩ := Har.pend_pos hp
  have e0 : ∀ (Q : Park) (z : Har.Har × St), Har.stepI (machs Q) z.1 z.2 (k : Int) = Har.stepH (machs Q) z.1 z.2 k := by
    intro Q z
    unfold Har.stepI
    rw [if_pos (by omega), Int.toNat_natCast]
  rw [e0, e0]
  obtain ⟨A, B, T⟩ := turned_at (M := machs P) hq
  -- the other's head
  have hm := congrArg (fun q : List (List (Nat × Int × Bool)) => q[k]?) h.queues
  simp only [List.getElem?_map, hq, Option.map_some] at hm
  obtain ⟨q', hq'⟩ : ∃ q', y.1.queues[k]? = some q' := by
    cases hy : y.1.queues[k]? with
    | none => rw [hy] at hm; simp at hm
    | some q' => exact ⟨q', rfl⟩
  rw [hq'] at hm
  simp only [Option.map_some, Option.some.injEq, List.map_cons] at hm
  match q', hq', hm with
  | [], hq', hm => simp at hm
  | j' :: l', hq', hm =>
    simp only [List.map_cons, List.cons.injEq] at hm
    obtain ⟨hj1, hl1⟩ := hm
    obtain ⟨A', B', T'⟩ := turned_at (M := machs P') hq'
    have hqs := h.queues
    rw [T.was, T'.was, List.map_append, List.map_append] at hqs
    obtain ⟨hA, hB⟩ := List.append_inj hqs (by rw [List.length_map, List.length_map, T.len, T'.len])
    simp only [List.map_cons, List.cons.injEq] at hB
    have hB := hB.2
    have hjs : P.idx j.mach = P'.idx j'.mach ∧ j.tag = j'.tag ∧ j.called = j'.called := by
      simp only [sk, Prod.mk.injEq] at hj1
      exact hj1
    have hi : P.idx j.mach < js.length := by
      rw [← h.g1.seats]
      refine h.g1.good.lt _ ?_
      unfold ids
      rw [T.was]
      simp
    obtain ⟨t, ht, s1, s2⟩ := h.g1.stepAt hi
    obtain ⟨t', ht', s1', s2'⟩ := h.g2.stepAt hi
    have hat : t.at_ = t'.at_ := by
      have := congrArg (fun q : List Nat => q[P.idx j.mach]?) h.ths
      simp only [List.getElem?_map, ht, ht', Option.map_some, Option.some.injEq] at this
      exact this
    have hst : (machs P).step x.2 j.mach = stepP P x.2 (P.idx j.mach) := rfl
    have hst' : (machs P').step y.2 j'.mach = stepP P' y.2 (P.idx j.mach) := by
      show stepP P' y.2 (P'.idx j'.mach) = _
      rw [hjs.1]
    have hd : ((machs P).step x.2 j.mach).2 = ((machs P').step y.2 j'.mach).2 := by rw [hst, hst', s1, s1', hat]
    have hmx : Har.Move (machs P) x (Har.stepH (machs P) x.1 x.2 k) := ⟨⟨k, j, l, hk, hq, rfl⟩⟩
    have hky : k < y.1.queues.length := by
      apply Decidable.byContradiction
      intro hn
      rw [List.getElem?_eq_none (by omega)] at hq'
      cases hq'
    have hmy : Har.Move (machs P') y (Har.stepH (machs P') y.1 y.2 k) := ⟨⟨k, j', l', hky, hq', rfl⟩⟩
    refine ⟨h.g1.move hj hmx, h.g2.move hj hmy, by rw [T.steps, T'.steps, h.steps], ?_, ?_, ?_⟩
    · rw [T.events, T'.events, hd, h.events, h.steps, hjs.2.1, hjs.2.2]
    · rw [T.queues, T'.queues, hd]
      split
      · simp [hA, hl1, hB]
      · have : sk P { j with called := true } = sk P' { j' with called := true } := by
          simp only [sk, Prod.mk.injEq, and_true]
          exact ⟨hjs.1, hjs.2.1⟩
        simp [hA, hl1, hB, this]
    · rw [T.st, T'.st, hst, hst', s2, s2', h.ths, hat]

def twins (wk : Nat) (js : List Jb) (P P' : Park) (hj : js.length ≤ 1000) : Sim (machs P) (machs P') where
  Rel := Twin wk js P P'
  len := fun x y h => by have := congrArg List.length h.queues; simpa using this
  pend := fun x y h => h.pend
  move := fun x y h who hp => h.move hj who hp

theorem Twin.same (h : Going wk js P x) : Twin wk js P P x x := ⟨h, h, rfl, rfl, rfl, rfl⟩

theorem Twin.begin {w wr w' wr' : World} {hb hb' : Nat} {S S' : St} {H H' : Har.Har} (h : LaidAt w wr hb wk js P S H) (h' : LaidAt w' wr' hb' wk js P' S' H') (hw : 1 ≤ wk) : Twin wk js P P' (H, S) (H', S') := by
  have g1 := Going.begin h hw
  have g2 := Going.begin h' hw
  obtain ⟨-, -, -, -, -, hL, -⟩ := h
  obtain ⟨-, -, -, -, -, hL', -⟩ := h'
  refine ⟨g1, g2, by show H.steps = H'.steps; rw [hL.steps, hL'.steps], by show H.events = H'.events; rw [hL.events, hL'.events], ?_, by show S.ths.map _ = S'.ths.map _; rw [hL.ths, hL'.ths]⟩
  have key : ∀ (Q : Park) (S : St) (H : Har.Har), Going wk js Q (H, S) → LaidH wk js Q S H → ∀ k, k < wk → (H.queues.map (List.map (sk Q)))[k]? = some ((idxs wk js k).map fun i => (i, tagOf js i, false)) := by
    intro Q S H g hL k hk
    rw [List.getElem?_map, laid_queue hL k hk, Option.map_some]
    unfold qOf
    rw [List.map_map]
    congr 1
    apply List.map_congr_left
    intro i hi
    have hi1 : i < Q.seats.length := by rw [g.seats]; exact (mem_idxs.1 hi).1
    have := g.idx i hi1
    simp only [Function.comp, sk, jobOf, List.getD_eq_getElem?_getD, List.getElem?_eq_getElem hi1, Option.getD_some, Prod.mk.injEq, and_true]
    exact this
  show H.queues.map _ = H'.queues.map _
  have l1 : H.queues.length = wk := g1.qlen
  have l2 : H'.queues.length = wk := g2.qlen
  apply List.ext_getElem?
  intro k
  by_cases hk : k < wk
  · rw [key P S H g1 hL k hk, key P' S' H' g2 hL' k hk]
  · rw [List.getElem?_eq_none (by rw [List.length_map]; omega), List.getElem?_eq_none (by rw [List.length_map]; omega)]

/-- an event that lies ahead of a step -/
def early (k : Int) (e : Ev) : Bool := decide (e.at_ < k) || (e.at_ == k && e.kind == 2)
/-- what has been told lies ahead -/
def Sound (x : Har.Har × St) : Prop := ∀ e ∈ x.1.events, early x.1.steps e = true

theorem newEv_late (k : Nat) (j : Job) (t : Int) (d : Bool) : ∀ e ∈ newEv k j t d, (∀ s, s ≤ t → early s e = false) ∧ early (t + 1) e = true := by
  intro e he
  have key : e = ⟨1, k, j.tag, t⟩ ∨ e = ⟨2, k, j.tag, t + 1⟩ := by
    unfold newEv at he
    rcases List.mem_append.1 he with he | he
    · split at he
      · simp at he
      · exact .inl (by simpa using he)
    · split at he
      · exact .inr (by simpa using he)
      · simp at he
  rcases key with rfl | rfl
  · refine ⟨fun s hs => ?_, ?_⟩
    · have h1 : ¬ t < s := by omega
      simp [early, h1]
    · have h1 : t < t + 1 := by omega
      simp [early, h1]
  · refine ⟨fun s hs => ?_, ?_⟩
    · have h1 : ¬ t + 1 < s := by omega
      have h2 : ¬ t + 1 = s := by omega
      simp [early, h1, h2]
    · simp [early]
theorem Sound.path {n : Nat} (p : Har.Path (machs P) n x y) (hj : js.length ≤ 1000) (h : Going wk js P x) (hs : Sound x) : Sound y := by
  induction p with
  | nil x => exact hs
  | @cons n x y z hm p ih =>
    refine ih (h.move hj hm) fun e he => ?_
    obtain ⟨k, i, D, R, cur, A, B, t', d, T⟩ := h.told hj hm
    rw [T.events] at he
    rw [T.steps]
    rcases List.mem_append.1 he with he | he
    · obtain ⟨h1, h2, -⟩ := h.range e he
      have h3 : e.at_ < x.1.steps + 1 := by omega
      simp [early, h3]
    · exact (newEv_late k _ _ d e he).2
theorem early_path {n : Nat} (p : Har.Path (machs P) n x y) (hj : js.length ≤ 1000) (h : Going wk js P x) (s : Int) (hs : s ≤ x.1.steps) : y.1.events.filter (early s) = x.1.events.filter (early s) := by
  induction p with
  | nil x => rfl
  | @cons n x y z hm p ih =>
    obtain ⟨k, i, D, R, cur, A, B, t', d, T⟩ := h.told hj hm
    rw [ih (h.move hj hm) (by rw [T.steps]; omega), T.events, List.filter_append]
    rw [show (newEv k (jobOf js P i cur.isSome) x.1.steps d).filter (early s) = [] from List.filter_eq_nil_iff.2 fun e he => by rw [(newEv_late k _ _ d e he).1 s hs]; simp, List.append_nil]

/-- THE LAW: a play that its budget cuts off is the begin of the whole play. -/
theorem budget_law {w wr w' wr' : World} {hb hb' : Nat} {S S' : St} {H H' : Har.Har} (h : LaidAt w wr hb wk js P S H) (h' : LaidAt w' wr' hb' wk js P' S' H') (hw : 1 ≤ wk) (hj : js.length ≤ 1000) (l : List Pick.Pk) (b : Nat)
    {c d : Har.Conf St} (hc : c = Har.playC (machs P) l ⟨H, S, total js, false⟩) (hd : d = Har.playC (machs P') l ⟨H', S', b, false⟩) :
    c.dry = false ∧ c.left ≤ total js ∧ c.H.steps = ((total js - c.left : Nat) : Int) ∧ d.left ≤ b ∧ d.H.steps = ((b - d.left : Nat) : Int) ∧
    (d.dry = true → d.left = 0 ∧ b < total js - c.left) ∧ (d.dry = false → b - d.left = total js - c.left) ∧ d.H.events = c.H.events.filter (early d.H.steps) := by
  have g := Going.begin h hw
  have g' := Going.begin h' hw
  have T0 := Twin.begin h h' hw
  have hs0 : H.steps = 0 := by obtain ⟨-, -, -, -, -, hL, -⟩ := h; exact hL.steps
  have hs0' : H'.steps = 0 := by obtain ⟨-, -, -, -, -, hL, -⟩ := h'; exact hL.steps
  have he0 : H'.events = [] := by obtain ⟨-, -, -, -, -, hL, -⟩ := h'; exact hL.events
  have hmu0 : muP P (H, S) = total js := by
    obtain ⟨t, ht, hmu⟩ := g.steps
    have : H.steps = t := ht
    omega
  have kc : Har.Came (machs P) ⟨H, S, total js, false⟩ c := by rw [hc]; exact Har.playC_came l _
  have kd : Har.Came (machs P') ⟨H', S', b, false⟩ d := by rw [hd]; exact Har.playC_came l _
  obtain ⟨g1, s1, -⟩ := g.exact kc.path hj
  obtain ⟨g2, s2, -⟩ := g'.exact kd.path hj
  have hdry : c.dry = false := by rw [hc]; exact (rank P).playC_wet l ⟨H, S, total js, false⟩ g.good (Nat.le_of_eq hmu0) rfl
  have c1 := kc.le
  have d1 := kd.le
  have s1' : c.H.steps = ((total js - c.left : Nat) : Int) := by
    have : c.H.steps = H.steps + ((total js - c.left : Nat) : Int) := s1
    rw [this, hs0]; omega
  have s2' : d.H.steps = ((b - d.left : Nat) : Int) := by
    have : d.H.steps = H'.steps + ((b - d.left : Nat) : Int) := s2
    rw [this, hs0']; omega
  have hsd : Sound (d.H, d.s) := Sound.path kd.path hj g' (by intro e he; have : e ∈ H'.events := he; rw [he0] at this; simp at this)
  -- the whole play with a budget to spare
  obtain ⟨C, hC⟩ : ∃ C, C = Har.playC (machs P) l ⟨H, S, total js + b, false⟩ := ⟨_, rfl⟩
  have kC : Har.Came (machs P) ⟨H, S, total js + b, false⟩ C := by rw [hC]; exact Har.playC_came l _
  have hCdry : C.dry = false := by rw [hC]; exact (rank P).playC_wet l ⟨H, S, total js + b, false⟩ g.good (by show muP P (H, S) ≤ total js + b; omega) rfl
  have C1 : C.left ≤ total js + b := kC.le
  obtain ⟨gC, sC, -⟩ := g.exact kC.path hj
  have sC' : C.H.steps = ((total js + b - C.left : Nat) : Int) := by
    have : C.H.steps = H.steps + ((total js + b - C.left : Nat) : Int) := sC
    rw [this, hs0]; omega
  have t1 : Tri (twins wk js P P hj) b C c := by rw [hC, hc]; exact Har.play_tri l _ _ ⟨rfl, rfl, Twin.same g, rfl⟩
  have A1 : Abreast (twins wk js P P hj) b C c := by
    rcases t1 with h1 | h1 | h1
    · rw [hCdry] at h1; cases h1
    · exact h1
    · rw [h1.wd] at hdry; cases hdry
  have r1 : Twin wk js P P (C.H, C.s) (c.H, c.s) := A1.rel
  have e1 : C.H.events = c.H.events := r1.events
  have l1 := A1.left
  have t2 : Tri (twins wk js P P' hj) (total js) C d := by rw [hC, hd]; exact Har.play_tri l _ _ ⟨rfl, rfl, T0, by show total js + b = b + total js; omega⟩
  refine ⟨hdry, c1, s1', d1, s2', ?_⟩
  rcases t2 with h1 | h1 | h1
  · rw [hCdry] at h1; cases h1
  · have r2 : Twin wk js P P' (C.H, C.s) (d.H, d.s) := h1.rel
    have e2 : C.H.events = d.H.events := r2.events
    have l2 := h1.left
    have d1' : d.left ≤ b := d1
    have c1' : c.left ≤ total js := c1
    refine ⟨fun hx => ?_, fun _ => by omega, ?_⟩
    · rw [h1.wd] at hx; cases hx
    · rw [← e1, e2]
      exact (List.filter_eq_self.2 fun e he => hsd e he).symm
  · obtain ⟨x, n, hx, hn, hp, hl⟩ := h1.gone
    have d1' : d.left ≤ b := d1
    have c1' : c.left ≤ total js := c1
    have hz := h1.none
    have rx : Twin wk js P P' x (d.H, d.s) := hx
    have sx : x.1.steps = d.H.steps := rx.steps
    have ex : x.1.events = d.H.events := rx.events
    refine ⟨fun _ => ⟨hz, by omega⟩, fun hf => ?_, ?_⟩
    · rw [h1.wd] at hf; cases hf
    · have := early_path hp hj rx.g1 d.H.steps (by rw [sx]; exact Int.le_refl _)
      rw [← e1]
      refine Eq.trans ?_ this.symm
      rw [ex]
      exact (List.filter_eq_self.2 fun e he => hsd e he).symm
end
end Go.Proofs.YtdkdeiofjoccnaaGreat.Lit
