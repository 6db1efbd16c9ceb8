import Derived.Test.YtdkdeiofjoccnaaGreatTwin
import Derived.Test.YtdkdeiofjoccnaaGreatRefLaw
import Derived.Test.YtdkdeiofjoccnaaGreatLook
/- Two harnesses that answer alike play alike under one budget, run dry or not (plain Lean). -/
namespace Go.Proofs.YtdkdeiofjoccnaaGreat.Har
open Go.RowKit Go.Proofs.YtdkdeiofjoccnaaGreat.Mem
set_option linter.unusedVariables false
variable {S S' : Type} {M : Mach S} {N : Mach S'} {R : Sim M N} {c : Conf S} {d : Conf S'}

structure Evenly (R : Sim M N) (c : Conf S) (d : Conf S') : Prop where
  dry : c.dry = d.dry
  rel : R.Rel (c.H, c.s) (d.H, d.s)
  left : c.left = d.left

theorem pay_evenly (h : Evenly R c d) (who : Int) : Evenly R (payC M c who).1 (payC N d who).1 ∧ (payC M c who).2 = (payC N d who).2 := by
  have hp : pend c.H who = pend d.H who := R.pend _ _ h.rel who
  have hl := h.left
  cases hd : d.dry
  · have hc : c.dry = false := h.dry.trans hd
    rw [payC_wet c who hc, payC_wet d who hd, ← hp, ← hl]
    by_cases h0 : pend c.H who = 0
    · rw [if_pos h0, if_pos h0]
      exact ⟨h, rfl⟩
    rw [if_neg h0, if_neg h0]
    by_cases h1 : c.left = 0
    · rw [if_pos h1, if_pos h1]
      exact ⟨⟨rfl, h.rel, rfl⟩, rfl⟩
    · rw [if_neg h1, if_neg h1]
      exact ⟨⟨h.dry, R.move _ _ h.rel who h0, rfl⟩, rfl⟩
  · have hc : c.dry = true := h.dry.trans hd
    have e1 : payC M c who = (c, false) := by unfold payC; rw [if_pos hc]
    have e2 : payC N d who = (d, false) := by unfold payC; rw [if_pos hd]
    rw [e1, e2]
    exact ⟨h, rfl⟩
theorem sweep_evenly : ∀ (k i : Nat) (c : Conf S) (d : Conf S'), Evenly R c d → Evenly R (sweepC M k i c) (sweepC N k i d)
  | 0, i, c, d, h => h
  | k + 1, i, c, d, h => sweep_evenly k (i + 1) _ _ (pay_evenly h i).1
theorem round_evenly (h : Evenly R c d) : Evenly R (roundC M c) (roundC N d) := by
  unfold roundC
  rw [R.len _ _ h.rel]
  exact sweep_evenly _ _ _ _ h
theorem rounds_evenly : ∀ (f : Nat) (n : Int) (c : Conf S) (d : Conf S'), Evenly R c d → Evenly R (roundsC M f n c) (roundsC N f n d)
  | 0, n, c, d, h => h
  | f + 1, n, c, d, h => by
    show Evenly R (if n = 0 ∨ idleB c.H = true ∨ c.dry = true then c else roundsC M f (n - 1) (roundC M c)) (if n = 0 ∨ idleB d.H = true ∨ d.dry = true then d else roundsC N f (n - 1) (roundC N d))
    have hi : idleB c.H = idleB d.H := R.idle h.rel
    rw [hi, h.dry]
    split
    · exact h
    · exact rounds_evenly f (n - 1) _ _ (round_evenly h)
theorem run_evenly (who : Int) : ∀ (n : Nat) (c : Conf S) (d : Conf S'), Evenly R c d → Evenly R (runC M who n c) (runC N who n d)
  | 0, c, d, h => h
  | n + 1, c, d, h => by
    obtain ⟨h1, h2⟩ := pay_evenly h who
    show Evenly R (if (payC M c who).2 then runC M who n (payC M c who).1 else (payC M c who).1) (if (payC N d who).2 then runC N who n (payC N d who).1 else (payC N d who).1)
    rw [h2]
    split
    · exact run_evenly who n _ _ h1
    · exact h1
theorem finish_evenly (who : Int) (n : Nat) : ∀ (f : Nat) (c : Conf S) (d : Conf S'), Evenly R c d → Evenly R (finishC M who n f c) (finishC N who n f d)
  | 0, c, d, h => h
  | f + 1, c, d, h => by
    obtain ⟨h1, h2⟩ := pay_evenly h who
    have hp : pend c.H who = pend d.H who := R.pend _ _ h.rel who
    show Evenly R (if n = 0 then c else if pend c.H who = n then (if (payC M c who).2 then finishC M who n f (payC M c who).1 else (payC M c who).1) else c)
      (if n = 0 then d else if pend d.H who = n then (if (payC N d who).2 then finishC N who n f (payC N d who).1 else (payC N d who).1) else d)
    rw [hp, h2]
    split
    · exact h
    · split
      · split
        · exact finish_evenly who n f _ _ h1
        · exact h1
      · exact h
theorem pick_evenly (h : Evenly R c d) (x : Pick.Pk) : Evenly R (pickC M c x) (pickC N d x) := by
  have hl := h.left
  have hp : pend c.H x.who = pend d.H x.who := R.pend _ _ h.rel x.who
  unfold pickC
  rw [hl, hp]
  split
  · exact (pay_evenly h x.who).1
  split
  · exact run_evenly _ _ _ _ h
  split
  · exact finish_evenly _ _ _ _ _ h
  split
  · split
    · exact rounds_evenly _ _ _ _ h
    · exact h
  split
  · exact rounds_evenly _ _ _ _ h
  · exact h
/-- THE LAW -/
theorem play_evenly : ∀ (l : List Pick.Pk) (c : Conf S) (d : Conf S'), Evenly R c d → Evenly R (playC M l c) (playC N l d)
  | [], c, d, h => h
  | x :: l, c, d, h => by
    have h1 := pick_evenly h x
    show Evenly R (if (pickC M c x).dry then pickC M c x else playC M l (pickC M c x)) (if (pickC N d x).dry then pickC N d x else playC N l (pickC N d x))
    rw [h1.dry]
    split
    · exact h1
    · exact play_evenly l _ _ h1
end Go.Proofs.YtdkdeiofjoccnaaGreat.Har

/- The two harnesses of one program, whatever was handed in to them: step by step they stay alike (plain Lean). -/
namespace Go.Proofs.YtdkdeiofjoccnaaGreat.Ref
open Go.RowKit Go.Proofs.YtdkdeiofjoccnaaGreat.Mem Go.Proofs.YtdkdeiofjoccnaaGreat.Har Go.Proofs.YtdkdeiofjoccnaaGreat.Lit Go.Proofs.YtdkdeiofjoccnaaGreat.Ar Go.Proofs.YtdkdeiofjoccnaaGreat.Un
set_option linter.unusedVariables false

/-- the threads' states -/
structure EvenS (P : Park) (S : St) (S' : RP) : Prop where
  lths : S.ths.length = P.seats.length
  lars : S.ars.length = P.ars.length
  one : ∃ L, P.ars = [(L, 1)]
  ar : ∀ i (h : i < P.seats.length), P.seats[i].ar = 0
  same : ∃ A, S.ars = [A] ∧ SameA A S'.cells
  ths : S.ths = S'.ths
  fit : ∀ t ∈ S'.ths, ∀ z ∈ t.prog, fitB z S'.cells.length = true ∧ okIns z
/-- a machine of the program's: a seat; of the document's: a number -/
def OkP (P : Park) (v : Value) : Prop := ∃ (i : Nat) (hi : i < P.seats.length), v = ptr P.seats[i].tb ∧ P.idx v = i
def OkN (v : Value) : Prop := ∃ i : Nat, v = .int .i64 i
/-- whatever is queued or has ended -/
def AllJ (Q : Value → Prop) (H : Har.Har) : Prop := (∀ q ∈ H.queues, ∀ j ∈ q, Q j.mach) ∧ ∀ v ∈ H.ended, Q v
theorem turned_all {S : Type} {M : Har.Mach S} {x y : Har.Har × S} {k : Nat} {A : List (List Job)} {j : Job} {l : List Job} {B : List (List Job)} (T : Turned M x y k A j l B) {Q : Value → Prop} (h : AllJ Q x.1) : AllJ Q y.1 := by
  obtain ⟨h1, h2⟩ := h
  rw [T.was] at h1
  have hj : Q j.mach := h1 (j :: l) (by simp) j (by simp)
  have hl : ∀ j0 ∈ l, Q j0.mach := fun j0 h0 => h1 (j :: l) (by simp) j0 (by simp [h0])
  refine ⟨fun q hq j0 hj0 => ?_, fun v hv => ?_⟩
  · rw [T.queues] at hq
    split at hq
    · rcases List.mem_append.1 hq with hq | hq
      · exact h1 q (by simp [hq]) j0 hj0
      · rcases List.mem_cons.1 hq with rfl | hq
        · exact hl j0 hj0
        · exact h1 q (by simp [hq]) j0 hj0
    · rcases List.mem_append.1 hq with hq | hq
      · exact h1 q (by simp [hq]) j0 hj0
      · rcases List.mem_cons.1 hq with rfl | hq
        · rcases List.mem_cons.1 hj0 with rfl | hj0
          · exact hj
          · exact hl j0 hj0
        · exact h1 q (by simp [hq]) j0 hj0
  · rw [T.ended] at hv
    split at hv
    · rcases List.mem_append.1 hv with hv | hv
      · exact h2 v hv
      · simp at hv
        rw [hv]
        exact hj
    · exact h2 v hv
/-- the harnesses -/
structure EvenH (P : Park) (H H' : Har.Har) : Prop where
  all : AllJ (OkP P) H
  all' : AllJ OkN H'
  steps : H.steps = H'.steps
  events : H.events = H'.events
  queues : H.queues.map (List.map (sk P)) = H'.queues.map (List.map skR)
  ended : H.ended.map P.idx = H'.ended.map numOf

section
variable {P : Park} {H H' : Har.Har} {S : St} {S' : RP}
theorem EvenH.len (h : EvenH P H H') : H.queues.length = H'.queues.length := by
  have := congrArg List.length h.queues
  simpa using this
theorem EvenH.pend (h : EvenH P H H') (who : Int) : Har.pend H who = Har.pend H' who := by
  have k1 : ∀ (q : List (List Job)) (n : Nat), (q.getD n []).length = ((q.map (List.map (sk P))).getD n []).length := by
    intro q n
    simp only [List.getD_eq_getElem?_getD, List.getElem?_map]
    cases q[n]? <;> simp
  have k2 : ∀ (q : List (List Job)) (n : Nat), (q.getD n []).length = ((q.map (List.map skR)).getD n []).length := by
    intro q n
    simp only [List.getD_eq_getElem?_getD, List.getElem?_map]
    cases q[n]? <;> simp
  unfold Har.pend
  rw [k1, k2, h.queues]

theorem EvenS.step (h : EvenS P S S') {i : Nat} (hi : i < P.seats.length) : EvenS P (stepP P S i).1 (refStep S' i).1 ∧ (stepP P S i).2 = (refStep S' i).2 := by
  obtain ⟨L, hL⟩ := h.one
  obtain ⟨A0, hA0, hSA⟩ := h.same
  have har := h.ar i hi
  obtain ⟨h5, h6, hs⟩ := stepP_form (S := S) hi h.lths (by rw [har, hL]; simp) h.lars
  have hiy : i < S'.ths.length := by rw [← h.ths]; exact h5
  simp only [har, hL, hA0, List.getElem_cons_zero, List.set_cons_zero] at hs
  have hth : S.ths[i] = S'.ths[i] := by simp only [h.ths]
  rw [hth] at hs
  obtain ⟨d1, d2, d3⟩ := step_same hSA hiy (h.fit _ (List.getElem_mem hiy))
  rw [hs]
  refine ⟨⟨by simpa using h.lths, by rw [hL]; rfl, h.one, h.ar, ⟨_, rfl, d3⟩, ?_, ?_⟩, d1⟩
  · rw [← d2, h.ths]
    rfl
  · rw [(refStep_len S' i).2]
    exact refStep_fit i (Q := fun p => ∀ z ∈ p, fitB z S'.cells.length = true ∧ okIns z) h.fit

theorem even_move (h : EvenS P S S') (hh : EvenH P H H') (who : Int) (hp : Har.pend H who ≠ 0) :
    EvenS P (Har.stepI (machs P) H S who).2 (Har.stepI refM H' S' who).2 ∧ EvenH P (Har.stepI (machs P) H S who).1 (Har.stepI refM H' S' who).1 := by
  obtain ⟨k, j, l, rfl, hk, hq⟩ := Har.pend_pos hp
  have e0 : Har.stepI (machs P) H S (k : Int) = Har.stepH (machs P) H S k := by
    unfold Har.stepI
    rw [if_pos (by omega), Int.toNat_natCast]
  have e1 : Har.stepI refM H' S' (k : Int) = Har.stepH refM H' S' k := by
    unfold Har.stepI
    rw [if_pos (by omega), Int.toNat_natCast]
  rw [e0, e1]
  obtain ⟨A, B, T⟩ := turned_at (x := (H, S)) (M := machs P) hq
  have hm := congrArg (fun q : List (List (Nat × Int × Bool)) => q[k]?) hh.queues
  simp only [List.getElem?_map, hq, Option.map_some] at hm
  obtain ⟨q', hq'⟩ : ∃ q', H'.queues[k]? = some q' := by
    cases hy : H'.queues[k]? with
    | none => rw [hy] at hm; simp at hm
    | some q' => exact ⟨q', rfl⟩
  rw [hq'] at hm
  simp only [Option.map_some, Option.some.injEq, List.map_cons] at hm
  match q', hq', hm with
  | [], hq', hm => simp at hm
  | j' :: l', hq', hm =>
    simp only [List.map_cons, List.cons.injEq] at hm
    obtain ⟨hj1, hl1⟩ := hm
    obtain ⟨A', B', T'⟩ := turned_at (x := (H', S')) (M := refM) hq'
    have hqs := hh.queues
    have w1 := T.was
    have w2 := T'.was
    simp only at w1 w2
    rw [w1, w2, List.map_append, List.map_append] at hqs
    obtain ⟨hA, hB⟩ := List.append_inj hqs (by rw [List.length_map, List.length_map, T.len, T'.len])
    simp only [List.map_cons, List.cons.injEq] at hB
    have hB := hB.2
    have hjs : P.idx j.mach = numOf j'.mach ∧ j.tag = j'.tag ∧ j.called = j'.called := by
      simp only [sk, skR, Prod.mk.injEq] at hj1
      exact hj1
    have hi : P.idx j.mach < P.seats.length := by
      obtain ⟨i, hi, -, e⟩ := hh.all.1 (j :: l) (by rw [w1]; simp) j (by simp)
      rw [e]
      exact hi
    obtain ⟨i, hii⟩ : ∃ i, i = P.idx j.mach := ⟨_, rfl⟩
    rw [← hii] at hi hjs
    have hst : (machs P).step S j.mach = stepP P S i := by
      show stepP P S (P.idx j.mach) = _
      rw [hii]
    have hst' : refM.step S' j'.mach = refStep S' i := by
      show refStep S' (numOf j'.mach) = _
      rw [hjs.1]
    obtain ⟨s1, s2⟩ := h.step hi
    have hd : ((machs P).step S j.mach).2 = (refM.step S' j'.mach).2 := by rw [hst, hst']; exact s2
    have t1 := T.st
    have t2 := T'.st
    simp only at t1 t2
    refine ⟨by rw [t1, t2, hst, hst']; exact s1, ⟨turned_all T hh.all, turned_all T' hh.all', by rw [T.steps, T'.steps]; simp only [hh.steps], ?_, ?_, ?_⟩⟩
    · rw [T.events, T'.events, hd]
      simp only [hh.events, hh.steps, hjs.2.1, hjs.2.2]
    · rw [T.queues, T'.queues, hd]
      split
      · simp [hA, hl1, hB]
      · have : sk P { j with called := true } = skR { j' with called := true } := by
          simp only [sk, skR, Prod.mk.injEq, and_true]
          exact ⟨by rw [← hii]; exact hjs.1, hjs.2.1⟩
        simp [hA, hl1, hB, this]
    · rw [T.ended, T'.ended, hd]
      split
      · simp only [List.map_append, hh.ended, List.map_cons, List.map_nil]
        rw [← hii, hjs.1]
      · exact hh.ended
end

def evens (P : Park) : Sim (machs P) refM where
  Rel := fun x y => EvenS P x.2 y.2 ∧ EvenH P x.1 y.1
  len := fun x y h => h.2.len
  pend := fun x y h => h.2.pend
  move := fun x y h who hp => even_move h.1 h.2 who hp
theorem EvenH.idle {P : Park} {H H' : Har.Har} {S : St} {S' : RP} (h : EvenS P S S') (hh : EvenH P H H') : idleB H = idleB H' := Sim.idle (evens P) (x := (H, S)) (y := (H', S')) ⟨h, hh⟩
theorem even_pair {P : Park} {x : Har.Har × St} {y : Har.Har × RP} (h : Pair P x y) (h1 : x.1.ended = []) (h2 : y.1.ended = []) (k1 : ∀ q ∈ x.1.queues, ∀ j ∈ q, OkP P j.mach) (k2 : ∀ q ∈ y.1.queues, ∀ j ∈ q, OkN j.mach) : EvenS P x.2 y.2 ∧ EvenH P x.1 y.1 :=
  ⟨⟨h.good.ths, h.good.ars, h.one, h.ar, h.same, h.ths, h.fit⟩, ⟨⟨k1, by rw [h1]; simp⟩, ⟨k2, by rw [h2]; simp⟩, h.steps, h.events, h.queues, by rw [h1, h2]; rfl⟩⟩
/-- one play on both sides, budgets alike -/
theorem even_play {P : Park} {H H' : Har.Har} {S : St} {S' : RP} (h : EvenS P S S') (hh : EvenH P H H') (n : Nat) (l : List Pick.Pk) :
    (playC (machs P) l ⟨H, S, n, false⟩).dry = (playC refM l ⟨H', S', n, false⟩).dry ∧ (playC (machs P) l ⟨H, S, n, false⟩).left = (playC refM l ⟨H', S', n, false⟩).left ∧
      EvenS P (playC (machs P) l ⟨H, S, n, false⟩).s (playC refM l ⟨H', S', n, false⟩).s ∧ EvenH P (playC (machs P) l ⟨H, S, n, false⟩).H (playC refM l ⟨H', S', n, false⟩).H := by
  have := play_evenly (R := evens P) l ⟨H, S, n, false⟩ ⟨H', S', n, false⟩ ⟨rfl, ⟨h, hh⟩, rfl⟩
  exact ⟨this.dry, this.left, this.rel.1, this.rel.2⟩
end Go.Proofs.YtdkdeiofjoccnaaGreat.Ref

/- A second harness over a bench's threads, the program's and the document's: what stands and what turns (SchedPlays). -/
namespace Go.Proofs.YtdkdeiofjoccnaaGreat.Lit
open Go.RowKit Go.Proofs.YtdkdeiofjoccnaaGreat.Mem Go.Proofs.YtdkdeiofjoccnaaGreat.Ar Go.Proofs.YtdkdeiofjoccnaaGreat.Un
set_option linter.unusedVariables false
set_option maxRecDepth 100000

section
variable {w0 w w' : World} {bb hb : Nat} {P : Park} {H0 H H' : Har.Har} {S S' : St} {T U V : List Nat}
theorem Rest.sub (h : Rest w0 T w bb P H S) : ∀ x ∈ P.all, x ∈ T := by
  obtain ⟨L, hb, hq, vs, ve, vd, tsv, h, rfl⟩ := h
  intro x hx
  simp [benchAll, hx]
theorem Rest.state (h : Rest w0 T w bb P H S) (hs : Stand P w' S') (k : Keep (V ++ P.all) w w') (hV : ∀ x ∈ V, x ∉ T ∧ w0.heap.size ≤ x) : Rest w0 T w' bb P H S' := by
  have hge := h.ge
  have hsub := h.sub
  obtain ⟨L, hb, hq, vs, ve, vd, tsv, h, rfl⟩ := h
  have nV : ∀ x, x ∈ benchAll bb hb hq vs ve vd P tsv → x ∉ V := fun x hx hm => (hV x hm).1 hx
  refine ⟨L, hb, hq, vs, ve, vd, tsv, ⟨k.old h.hbb ?_, h.ars, hs, h.har.keep k ?_, h.ok, h.few, Har.owns_block h.thr ?_, h.ap1, h.ap2, h.ap3, h.new, h.keep.chain k ?_⟩, rfl⟩
  · intro hm
    rcases List.mem_append.1 hm with hm | hm
    · exact nV bb (by simp [benchAll]) hm
    · exact h.ap2.1 hm
  · intro x hx hm
    rcases List.mem_append.1 hx with hx | hx
    · exact nV x (by simp [benchAll, hm]) hx
    · exact h.ap1 x hx hm
  · intro g hg
    have hin : g ∈ benchAll bb hb hq vs ve vd P tsv := by simp [benchAll, hg]
    refine k.block g (h.lt g hin) fun hm => ?_
    rcases List.mem_append.1 hm with hm | hm
    · exact nV g hin hm
    · exact (h.ap3 g hg).2.1 hm
  · intro x hx
    rcases List.mem_append.1 hx with hx | hx
    · exact .inr (hV x hx).2
    · exact .inr (hge x (hsub x hx))

/-- the program's side: T a bench's blocks, U those of a harness beside it -/
structure ProgS (w0 w : World) (bb hb : Nat) (P : Park) (H0 H : Har.Har) (S : St) (T U : List Nat) : Prop where
  rest : Rest w0 T w bb P H0 S
  har : ∃ hq vs ve vd, Har.Since (machs P) w U w hb hq vs ve vd H S ∧ U = Har.blocks hb hq (ve :: vd :: vs)
  ap : ∀ x ∈ U, x ∉ T
  new : ∀ x ∈ U, w0.heap.size ≤ x
theorem ProgS.ltU (h : ProgS w0 w bb hb P H0 H S T U) : ∀ x ∈ U, x < w.heap.size := by
  obtain ⟨hq, vs, ve, vd, hS, rfl⟩ := h.har
  exact hS.at_.lt
theorem ProgS.turn (h : ProgS w0 w bb hb P H0 H S T U) (hS : Har.Stands (machs P) w U w' hb H' S') : ∃ U', ProgS w0 w' bb hb P H0 H' S' T U' ∧ Keep (U ++ P.all) w w' ∧ ∀ x ∈ U', x ∈ U ∨ w.heap.size ≤ x := by
  obtain ⟨hq', vs', ve', vd', hS⟩ := hS
  have hlt := h.rest.lt
  have hk := h.rest.kept.size
  refine ⟨_, ⟨h.rest.state (V := U) hS.mach hS.keep (fun x hx => ⟨h.ap x hx, h.new x hx⟩), ⟨hq', vs', ve', vd', hS.rebase, rfl⟩, fun x hx hm => ?_, fun x hx => ?_⟩, hS.keep, hS.own⟩
  · rcases hS.own x hx with h1 | h1
    · exact h.ap x h1 hm
    · have := hlt x hm
      omega
  · rcases hS.own x hx with h1 | h1
    · exact h.new x h1
    · omega
theorem ProgS.hand (h : ProgS w0 w bb hb P H0 H S T U) (hs : Stand P w' S') (k : Keep P.all w w') : ProgS w0 w' bb hb P H0 H S' T U := by
  obtain ⟨hq, vs, ve, vd, hS, hU⟩ := h.har
  refine ⟨h.rest.state (V := []) hs (by simpa using k) (by simp), ⟨hq, vs, ve, vd, ⟨hS.at_.keep k hS.apart, hs, hS.apart, hS.ok, hS.few, fun x hx => .inl (by rw [hU]; exact hx), Keep.refl _ _⟩, hU⟩, h.ap, h.new⟩
theorem ProgS.frame (h : ProgS w0 w bb hb P H0 H S T U) (k : Keep V w w') (hV : ∀ x ∈ V, x ∉ T ∧ x ∉ U ∧ w0.heap.size ≤ x) : ProgS w0 w' bb hb P H0 H S T U := by
  obtain ⟨hq, vs, ve, vd, hS, hU⟩ := h.har
  refine ⟨h.rest.frame k fun x hx => ⟨(hV x hx).1, (hV x hx).2.2⟩, ⟨hq, vs, ve, vd, ⟨hS.at_.keep k fun x hx hm => (hV x hx).2.1 (by rw [hU]; exact hm), hS.mach.keep k fun x hx hm => (hV x hx).1 (h.rest.sub x hm), hS.apart, hS.ok, hS.few, fun x hx => .inl (by rw [hU]; exact hx), Keep.refl _ _⟩, hU⟩, h.ap, h.new⟩
end
end Go.Proofs.YtdkdeiofjoccnaaGreat.Lit

namespace Go.Proofs.YtdkdeiofjoccnaaGreat.Ref
open Go.RowKit Go.Proofs.YtdkdeiofjoccnaaGreat.Mem Go.Proofs.YtdkdeiofjoccnaaGreat.Har Go.Proofs.YtdkdeiofjoccnaaGreat.Lit Go.Proofs.YtdkdeiofjoccnaaGreat.Ar Go.Proofs.YtdkdeiofjoccnaaGreat.Un
set_option linter.unusedVariables false
set_option maxRecDepth 100000
section
variable {w0 w w' : World} {pb rb b0 : Nat} {B : RB} {H0 H H' : Har.Har} {S S' : RP} {T U V : List Nat}
/-- the document's side likewise -/
structure DocS (w0 w : World) (pb rb b0 : Nat) (B : RB) (H0 H : Har.Har) (S : RP) (T U : List Nat) : Prop where
  c2 : w.cell? ⟨pb, 2, none⟩ = some (.pointer (some ⟨b0, 0, none⟩))
  prog : PAt w pb B S
  own : ∃ bq vs ve vd, RAt w b0 pb bq vs ve vd H0 ∧ T = pb :: (B.all ++ Har.blocks b0 bq (ve :: vd :: vs)) ∧ (∀ x ∈ pb :: B.all, x ∉ Har.blocks b0 bq (ve :: vd :: vs)) ∧ H0.events.length ≤ 1000000000000
  har : ∃ bq vs ve vd, RSince w U w rb pb bq vs ve vd B H S ∧ U = Har.blocks rb bq (ve :: vd :: vs)
  few : H.events.length + Har.due H ≤ 1000000000000
  ap : ∀ x ∈ U, x ∉ T
  new : ∀ x ∈ T ++ U, w0.heap.size ≤ x
  kept : Keep [] w0 w
theorem DocS.sub (h : DocS w0 w pb rb b0 B H0 H S T U) : ∀ x ∈ pb :: B.all, x ∈ T := by
  obtain ⟨bq, vs, ve, vd, -, rfl, -⟩ := h.own
  intro x hx
  rw [← List.cons_append]
  exact List.mem_append_left _ hx
theorem DocS.lt (h : DocS w0 w pb rb b0 B H0 H S T U) : ∀ x ∈ T ++ U, x < w.heap.size := by
  obtain ⟨bq, vs, ve, vd, h1, rfl, -⟩ := h.own
  obtain ⟨bq', vs', ve', vd', h2, rfl⟩ := h.har
  intro x hx
  rcases List.mem_append.1 hx with hx | hx
  · rw [← List.cons_append] at hx
    rcases List.mem_append.1 hx with hx | hx
    · exact h.prog.ltAll x hx
    · exact h1.lt x hx
  · exact h2.at_.lt x hx
theorem DocS.rs (h : DocS w0 w pb rb b0 B H0 H S T U) : RS w U w rb pb B H S := by
  obtain ⟨bq', vs', ve', vd', h2, -⟩ := h.har
  exact ⟨⟨_, _, _, _, h2⟩, h.few⟩
theorem DocS.turn (h : DocS w0 w pb rb b0 B H0 H S T U) (hS : RS w U w' rb pb B H' S') : ∃ U', DocS w0 w' pb rb b0 B H0 H' S' T U' ∧ Keep (U ++ B.mem) w w' ∧ ∀ x ∈ U', x ∈ U ∨ w.heap.size ≤ x := by
  have hsub := h.sub
  have hlt := h.lt
  have hkept := h.kept
  have hnew := h.new
  have hap := h.ap
  obtain ⟨⟨bq', vs', ve', vd', hr⟩, hf⟩ := hS
  obtain ⟨bq, vs, ve, vd, h1, hT, h3, h4⟩ := h.own
  have k := hr.keep
  have hm : ∀ x ∈ U ++ B.mem, x ∉ Har.blocks b0 bq (ve :: vd :: vs) := by
    intro x hx hb
    rcases List.mem_append.1 hx with hx | hx
    · exact hap x hx (by rw [hT]; simp [hb])
    · exact h3 x (by simp [RB.all, hx]) hb
  have hpb : pb ∉ U ++ B.mem := by
    intro hx
    rcases List.mem_append.1 hx with hx | hx
    · exact hap pb hx (by rw [hT]; simp)
    · exact h.prog.off.1 hx
  refine ⟨_, ⟨k.cell h.c2 hpb, hr.prog, ⟨bq, vs, ve, vd, h1.keep k hm, hT, h3, h4⟩, ⟨bq', vs', ve', vd', hr.rebase, rfl⟩, hf, fun x hx hx' => ?_, fun x hx => ?_, hkept.chain k fun x hx => .inr ?_⟩, k, hr.own⟩
  · rcases hr.own x hx with h1 | h1
    · exact hap x h1 hx'
    · have := hlt x (List.mem_append_left _ hx')
      omega
  · rcases List.mem_append.1 hx with hx | hx
    · exact hnew x (List.mem_append_left _ hx)
    · rcases hr.own x hx with h1 | h1
      · exact hnew x (List.mem_append_right _ h1)
      · exact Nat.le_trans hkept.size h1
  · rcases List.mem_append.1 hx with hx | hx
    · exact hnew x (List.mem_append_right _ hx)
    · exact hnew x (List.mem_append_left _ (hsub x (by simp [RB.all, hx])))
theorem DocS.hand (h : DocS w0 w pb rb b0 B H0 H S T U) (hp : PAt w' pb B S') (hl : S'.ths.length = S.ths.length) (k : Keep B.mem w w') : DocS w0 w' pb rb b0 B H0 H S' T U := by
  have hsub := h.sub
  have hnew := h.new
  have hap := h.ap
  obtain ⟨bq, vs, ve, vd, h1, hT, h3, h4⟩ := h.own
  obtain ⟨bq', vs', ve', vd', h2, hU⟩ := h.har
  refine ⟨k.cell h.c2 h.prog.off.1, hp, ⟨bq, vs, ve, vd, h1.keep k fun x hx => h3 x (by simp [RB.all, hx]), hT, h3, h4⟩, ⟨bq', vs', ve', vd', ⟨h2.at_.keep k fun x hx => h2.apart x (by simp [RB.all, hx]), hp, h2.apart, by rw [hl]; exact h2.ok, h2.few, fun x hx => .inl (by rw [hU]; exact hx), Keep.refl _ _⟩, hU⟩, h.few, hap, hnew,
    h.kept.chain k fun x hx => .inr (hnew x (List.mem_append_left _ (hsub x (by simp [RB.all, hx]))))⟩
theorem DocS.frame (h : DocS w0 w pb rb b0 B H0 H S T U) (k : Keep V w w') (hV : ∀ x ∈ V, x ∉ T ∧ x ∉ U ∧ w0.heap.size ≤ x) : DocS w0 w' pb rb b0 B H0 H S T U := by
  have hsub := h.sub
  obtain ⟨bq, vs, ve, vd, h1, hT, h3, h4⟩ := h.own
  obtain ⟨bq', vs', ve', vd', h2, hU⟩ := h.har
  have hpb : pb ∉ V := fun hm => (hV pb hm).1 (hsub pb (by simp))
  have hP : PAt w' pb B S := h.prog.keep k fun x hx => ⟨fun e => hpb (e ▸ hx), fun hm => (hV x hx).1 (hsub x (by simp [hm]))⟩
  refine ⟨k.cell h.c2 hpb, hP, ⟨bq, vs, ve, vd, h1.keep k fun x hx hm => (hV x hx).1 (by rw [hT]; simp [hm]), hT, h3, h4⟩, ⟨bq', vs', ve', vd', ⟨h2.at_.keep k fun x hx hm => (hV x hx).2.1 (by rw [hU]; exact hm), hP, h2.apart, h2.ok, h2.few, fun x hx => .inl (by rw [hU]; exact hx), Keep.refl _ _⟩, hU⟩, h.few, h.ap, h.new,
    h.kept.chain k fun x hx => .inr (hV x hx).2.2⟩

/-- both sides in memory, and the record that holds them -/
structure PlayM (w0 w : World) (sb bb hb pb rb b0 : Nat) (P : Park) (H0 H : Har.Har) (S : St) (B : RB) (H0' H' : Har.Har) (S' : RP) (T U T' U' : List Nat) : Prop where
  hrec : w.heap[sb]? = some (.cells #[.pointer (some ⟨hb, 0, none⟩), .pointer (some ⟨bb, 0, none⟩), .pointer (some ⟨rb, 0, none⟩), .pointer (some ⟨pb, 0, none⟩)] 50 (0, 0))
  off : sb ∉ T ++ U ∧ sb ∉ T' ++ U' ∧ w0.heap.size ≤ sb
  p : ProgS w0 w bb hb P H0 H S T U
  d : DocS w0 w pb rb b0 B H0' H' S' T' U'
  ap : ∀ x ∈ T ++ U, x ∉ T' ++ U'
/-- they tell the same -/
structure PlayL (P : Park) (H0 H : Har.Har) (S : St) (H0' H' : Har.Har) (S' : RP) : Prop where
  es : EvenS P S S'
  e0 : EvenH P H0 H0'
  eh : EvenH P H H'
  few : P.seats.length ≤ 4
/-- n: what has been handed in and told so far is not more -/
def PlayAt (w0 w : World) (sb bb hb pb rb b0 : Nat) (n : Nat) : Prop :=
  ∃ P H0 H S B H0' H' S' T U T' U', PlayM w0 w sb bb hb pb rb b0 P H0 H S B H0' H' S' T U T' U' ∧ PlayL P H0 H S H0' H' S' ∧ H'.events.length + Har.due H' ≤ n
end

section
variable {w0 w w' : World} {sb bb hb pb rb b0 n : Nat} {P : Park} {H0 H H1 : Har.Har} {S S1 : St} {B : RB} {H0' H' H1' : Har.Har} {S' S1' : RP} {T U T' U' V : List Nat}
theorem PlayM.kept (h : PlayM w0 w sb bb hb pb rb b0 P H0 H S B H0' H' S' T U T' U') : Keep [] w0 w := h.d.kept
theorem PlayM.lt (h : PlayM w0 w sb bb hb pb rb b0 P H0 H S B H0' H' S' T U T' U') : (∀ x ∈ T ++ U, x < w.heap.size) ∧ ∀ x ∈ T' ++ U', x < w.heap.size :=
  ⟨fun x hx => by
    rcases List.mem_append.1 hx with hx | hx
    · exact h.p.rest.lt x hx
    · exact h.p.ltU x hx, h.d.lt⟩
theorem PlayM.ge (h : PlayM w0 w sb bb hb pb rb b0 P H0 H S B H0' H' S' T U T' U') : ∀ x ∈ T ++ U, w0.heap.size ≤ x := by
  intro x hx
  rcases List.mem_append.1 hx with hx | hx
  · exact h.p.rest.ge x hx
  · exact h.p.new x hx
theorem PlayM.frame (h : PlayM w0 w sb bb hb pb rb b0 P H0 H S B H0' H' S' T U T' U') (k : Keep V w w') (hV : ∀ x ∈ V, x ∉ T ++ U ∧ x ∉ T' ++ U' ∧ x ≠ sb ∧ w0.heap.size ≤ x) : PlayM w0 w' sb bb hb pb rb b0 P H0 H S B H0' H' S' T U T' U' :=
  ⟨k.old h.hrec fun hm => (hV sb hm).2.2.1 rfl, h.off, h.p.frame k fun x hx => ⟨fun hm => (hV x hx).1 (List.mem_append_left _ hm), fun hm => (hV x hx).1 (List.mem_append_right _ hm), (hV x hx).2.2.2⟩,
    h.d.frame k fun x hx => ⟨fun hm => (hV x hx).2.1 (List.mem_append_left _ hm), fun hm => (hV x hx).2.1 (List.mem_append_right _ hm), (hV x hx).2.2.2⟩, h.ap⟩
theorem PlayM.frame0 (h : PlayM w0 w sb bb hb pb rb b0 P H0 H S B H0' H' S' T U T' U') (k : Keep [] w w') : PlayM w0 w' sb bb hb pb rb b0 P H0 H S B H0' H' S' T U T' U' := h.frame k (by simp)
/-- what was made since -/
theorem PlayM.later (h : PlayM w0 w sb bb hb pb rb b0 P H0 H S B H0' H' S' T U T' U') {w1 : World} (k0 : Keep [] w w1) (k : Keep V w1 w') (hV : ∀ x ∈ V, w.heap.size ≤ x) : PlayM w0 w' sb bb hb pb rb b0 P H0 H S B H0' H' S' T U T' U' := by
  have hl := h.lt
  have hz := h.kept.size
  have hs := lt_of h.hrec
  exact h.frame (V := []) (k0.chain k fun x hx => .inr (hV x hx)) (by simp)
/-- the program's harness turned -/
theorem PlayM.prog (h : PlayM w0 w sb bb hb pb rb b0 P H0 H S B H0' H' S' T U T' U') (hS : Stands (machs P) w U w' hb H1 S1) :
    ∃ U1, PlayM w0 w' sb bb hb pb rb b0 P H0 H1 S1 B H0' H' S' T U1 T' U' ∧ Keep (U ++ P.all) w w' ∧ ∀ x ∈ U1, x ∈ U ∨ w.heap.size ≤ x := by
  obtain ⟨U1, hp, k, hn⟩ := h.p.turn hS
  have hsub := h.p.rest.sub
  have hl := h.lt
  have hge := h.ge
  have hin : ∀ x ∈ U ++ P.all, x ∈ T ++ U := fun x hx => by
    rcases List.mem_append.1 hx with hx | hx
    · exact List.mem_append_right _ hx
    · exact List.mem_append_left _ (hsub x hx)
  refine ⟨U1, ⟨k.old h.hrec fun hm => h.off.1 (hin sb hm), ⟨fun hm => ?_, h.off.2⟩, hp, h.d.frame k fun x hx => ⟨fun hm => h.ap x (hin x hx) (List.mem_append_left _ hm), fun hm => h.ap x (hin x hx) (List.mem_append_right _ hm), hge x (hin x hx)⟩, fun x hx hm => ?_⟩, k, hn⟩
  · rcases List.mem_append.1 hm with hm | hm
    · exact h.off.1 (List.mem_append_left _ hm)
    · rcases hn sb hm with h1 | h1
      · exact h.off.1 (List.mem_append_right _ h1)
      · have := lt_of h.hrec
        omega
  · rcases List.mem_append.1 hx with hx | hx
    · exact h.ap x (List.mem_append_left _ hx) hm
    · rcases hn x hx with h1 | h1
      · exact h.ap x (List.mem_append_right _ h1) hm
      · have := hl.2 x hm
        omega
/-- the document's turned -/
theorem PlayM.doc (h : PlayM w0 w sb bb hb pb rb b0 P H0 H S B H0' H' S' T U T' U') (hS : RS w U' w' rb pb B H1' S1') :
    ∃ U1, PlayM w0 w' sb bb hb pb rb b0 P H0 H S B H0' H1' S1' T U T' U1 ∧ Keep (U' ++ B.mem) w w' ∧ ∀ x ∈ U1, x ∈ U' ∨ w.heap.size ≤ x := by
  obtain ⟨U1, hd, k, hn⟩ := h.d.turn hS
  have hsub := h.d.sub
  have hl := h.lt
  have hin : ∀ x ∈ U' ++ B.mem, x ∈ T' ++ U' := fun x hx => by
    rcases List.mem_append.1 hx with hx | hx
    · exact List.mem_append_right _ hx
    · exact List.mem_append_left _ (hsub x (by simp [RB.all, hx]))
  refine ⟨U1, ⟨k.old h.hrec fun hm => h.off.2.1 (hin sb hm), ⟨h.off.1, fun hm => ?_, h.off.2.2⟩, h.p.frame k fun x hx => ⟨fun hm => h.ap x (List.mem_append_left _ hm) (hin x hx), fun hm => h.ap x (List.mem_append_right _ hm) (hin x hx), h.d.new x (hin x hx)⟩, hd, fun x hx hm => ?_⟩, k, hn⟩
  · rcases List.mem_append.1 hm with hm | hm
    · exact h.off.2.1 (List.mem_append_left _ hm)
    · rcases hn sb hm with h1 | h1
      · exact h.off.2.1 (List.mem_append_right _ h1)
      · have := lt_of h.hrec
        omega
  · rcases List.mem_append.1 hm with hm | hm
    · exact h.ap x hx (List.mem_append_left _ hm)
    · rcases hn x hm with h1 | h1
      · exact h.ap x hx (List.mem_append_right _ h1)
      · have := hl.1 x hx
        omega
/-- a thread stepped by hand, on either side -/
theorem PlayM.progHand (h : PlayM w0 w sb bb hb pb rb b0 P H0 H S B H0' H' S' T U T' U') (hs : Stand P w' S1) (k : Keep P.all w w') : PlayM w0 w' sb bb hb pb rb b0 P H0 H S1 B H0' H' S' T U T' U' := by
  have hsub := h.p.rest.sub
  have hge := h.ge
  have hin : ∀ x ∈ P.all, x ∈ T ++ U := fun x hx => List.mem_append_left _ (hsub x hx)
  exact ⟨k.old h.hrec fun hm => h.off.1 (hin sb hm), h.off, h.p.hand hs k, h.d.frame k fun x hx => ⟨fun hm => h.ap x (hin x hx) (List.mem_append_left _ hm), fun hm => h.ap x (hin x hx) (List.mem_append_right _ hm), hge x (hin x hx)⟩, h.ap⟩
theorem PlayM.docHand (h : PlayM w0 w sb bb hb pb rb b0 P H0 H S B H0' H' S' T U T' U') (hp : PAt w' pb B S1') (hl : S1'.ths.length = S'.ths.length) (k : Keep B.mem w w') : PlayM w0 w' sb bb hb pb rb b0 P H0 H S B H0' H' S1' T U T' U' := by
  have hsub := h.d.sub
  have hin : ∀ x ∈ B.mem, x ∈ T' ++ U' := fun x hx => List.mem_append_left _ (hsub x (by simp [RB.all, hx]))
  exact ⟨k.old h.hrec fun hm => h.off.2.1 (hin sb hm), h.off, h.p.frame k fun x hx => ⟨fun hm => h.ap x (List.mem_append_left _ hm) (hin x hx), fun hm => h.ap x (List.mem_append_right _ hm) (hin x hx), h.d.new x (hin x hx)⟩, h.d.hand hp hl k, h.ap⟩
/-- the two harnesses hold as much -/
theorem dueQ_even (P : Park) : ∀ (q q' : List Job), q.map (sk P) = q'.map skR → Har.dueQ q = Har.dueQ q'
  | [], [], _ => rfl
  | [], _ :: _, h => by simp at h
  | _ :: _, [], h => by simp at h
  | j :: q, j' :: q', h => by
    simp only [List.map_cons, List.cons.injEq, sk, skR, Prod.mk.injEq] at h
    have h2 := dueQ_even P q q' h.2
    have h1 : j.due = j'.due := by unfold Job.due; rw [h.1.2.2]
    unfold Har.dueQ at h2 ⊢
    simp only [List.map_cons, List.sum_cons, h1, h2]
theorem due_even {P : Park} {q q' : List (List Job)} (h : q.map (List.map (sk P)) = q'.map (List.map skR)) : (q.map Har.dueQ).sum = (q'.map Har.dueQ).sum := by
  induction q generalizing q' with
  | nil => cases q' with
    | nil => rfl
    | cons a b => simp at h
  | cons a b ih => cases q' with
    | nil => simp at h
    | cons a' b' =>
      simp only [List.map_cons, List.cons.injEq] at h
      simp only [List.map_cons, List.sum_cons, dueQ_even P a a' h.1, ih h.2]
theorem EvenH.due {P : Park} {H H' : Har.Har} (h : EvenH P H H') : Har.due H = Har.due H' := due_even h.queues
end
end Go.Proofs.YtdkdeiofjoccnaaGreat.Ref
