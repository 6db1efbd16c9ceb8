import Derived.Test.YtdkdeiofjoccnaaGreatHarC
import Derived.Test.YtdkdeiofjoccnaaGreatRunA
/- What a play comes to: a path of steps (plain Lean). -/
namespace Go.Proofs.YtdkdeiofjoccnaaGreat.Har
open Go.RowKit Go.Proofs.YtdkdeiofjoccnaaGreat.Mem
set_option linter.unusedVariables false
variable {S : Type} {M : Mach S}

/-- one step of a worker that has something to do -/
structure Move (M : Mach S) (x y : Har × S) : Prop where
  ex : ∃ (k : Nat) (j : Job) (l : List Job), k < x.1.queues.length ∧ x.1.queues[k]? = some (j :: l) ∧ y = stepH M x.1 x.2 k

inductive Path (M : Mach S) : Nat → Har × S → Har × S → Prop where
  | nil (x) : Path M 0 x x
  | cons {n x y z} (h : Move M x y) (p : Path M n y z) : Path M (n + 1) x z

theorem Path.snoc {n : Nat} {x y z : Har × S} (p : Path M n x y) (h : Move M y z) : Path M (n + 1) x z := by
  induction p with
  | nil x => exact .cons h (.nil _)
  | cons h' p ih => exact .cons h' (ih h)
theorem Path.append {n m : Nat} {x y z : Har × S} (p : Path M n x y) (q : Path M m y z) : Path M (n + m) x z := by
  induction p with
  | nil x => rw [Nat.zero_add]; exact q
  | cons h p ih => rw [Nat.add_right_comm]; exact .cons h (ih q)
theorem Path.inv {n : Nat} {x y : Har × S} (p : Path M n x y) {I : Har × S → Prop} (hI : ∀ x y, I x → Move M x y → I y) (h : I x) : I y := by
  induction p with
  | nil x => exact h
  | cons h' p ih => exact ih (hI _ _ h h')

/-- what a configuration has come to: a path of so many steps, as the budget says; cut off only where the budget is nought -/
structure Came (M : Mach S) (c d : Conf S) : Prop where
  le : d.left ≤ c.left
  path : Path M (c.left - d.left) (c.H, c.s) (d.H, d.s)
  dry : d.dry = true → c.dry = true ∨ d.left = 0
  dryless : c.dry = true → d = c

theorem Came.refl (c : Conf S) : Came M c c := ⟨Nat.le_refl _, by rw [Nat.sub_self]; exact .nil _, fun h => .inl h, fun _ => rfl⟩
theorem Came.trans {c d e : Conf S} (h1 : Came M c d) (h2 : Came M d e) : Came M c e := by
  refine ⟨Nat.le_trans h2.le h1.le, ?_, fun h => ?_, fun h => ?_⟩
  · have := h1.path.append h2.path
    have e1 : c.left - d.left + (d.left - e.left) = c.left - e.left := by have := h1.le; have := h2.le; omega
    rw [e1] at this
    exact this
  · rcases h2.dry h with h | h
    · rcases h1.dry h with h' | h'
      · exact .inl h'
      · exact .inr (by have := h2.le; omega)
    · exact .inr h
  · have e1 := h1.dryless h
    subst e1
    exact h2.dryless h

theorem pend_pos {H : Har} {who : Int} (h : pend H who ≠ 0) : ∃ (k : Nat) (j : Job) (l : List Job), who = k ∧ k < H.queues.length ∧ H.queues[k]? = some (j :: l) := by
  unfold pend at h
  split at h
  · rename_i h0
    obtain ⟨k, rfl⟩ : ∃ k : Nat, who = k := ⟨who.toNat, by omega⟩
    rw [Int.toNat_natCast, List.getD_eq_getElem?_getD] at h
    match hq : H.queues[k]? with
    | none => rw [hq] at h; exact absurd rfl h
    | some [] => rw [hq] at h; exact absurd rfl h
    | some (j :: l) =>
      refine ⟨k, j, l, rfl, ?_, hq⟩
      apply Decidable.byContradiction
      intro hn
      rw [List.getElem?_eq_none (by omega)] at hq
      cases hq
  · exact absurd rfl h

theorem payC_came (c : Conf S) (who : Int) : Came M c (payC M c who).1 := by
  unfold payC
  split
  · exact Came.refl c
  rename_i hd
  have hd' : c.dry = false := by simpa using hd
  split
  · exact Came.refl c
  rename_i hp
  split
  · rename_i hl
    exact ⟨Nat.le_refl _, by show Path M (c.left - c.left) _ _; rw [Nat.sub_self]; exact .nil _, fun _ => .inr hl, fun h => by rw [hd'] at h; cases h⟩
  · rename_i hl
    obtain ⟨k, j, l, rfl, hk, hq⟩ := pend_pos hp
    refine ⟨Nat.sub_le _ _, ?_, fun h => .inl h, fun h => by rw [hd'] at h; cases h⟩
    show Path M (c.left - (c.left - 1)) _ _
    rw [show c.left - (c.left - 1) = 0 + 1 by omega]
    refine .cons ⟨⟨k, j, l, hk, hq, ?_⟩⟩ (.nil _)
    show ((stepI M c.H c.s (k : Int)).1, (stepI M c.H c.s (k : Int)).2) = _
    unfold stepI
    rw [if_pos (by omega), Int.toNat_natCast]
theorem sweepC_came : ∀ (k i : Nat) (c : Conf S), Came M c (sweepC M k i c)
  | 0, i, c => Came.refl c
  | k + 1, i, c => (payC_came c i).trans (sweepC_came k (i + 1) _)
theorem roundC_came (c : Conf S) : Came M c (roundC M c) := sweepC_came _ _ c
theorem roundsC_came : ∀ (f : Nat) (n : Int) (c : Conf S), Came M c (roundsC M f n c)
  | 0, n, c => Came.refl c
  | f + 1, n, c => by
    show Came M c (if n = 0 ∨ idleB c.H = true ∨ c.dry = true then c else roundsC M f (n - 1) (roundC M c))
    split
    · exact Came.refl c
    · exact (roundC_came c).trans (roundsC_came f (n - 1) _)
theorem runC_came (who : Int) : ∀ (n : Nat) (c : Conf S), Came M c (runC M who n c)
  | 0, c => Came.refl c
  | n + 1, c => by
    show Came M c (if (payC M c who).2 then runC M who n (payC M c who).1 else (payC M c who).1)
    split
    · exact (payC_came c who).trans (runC_came who n _)
    · exact payC_came c who
theorem finishC_came (who : Int) (n : Nat) : ∀ (f : Nat) (c : Conf S), Came M c (finishC M who n f c)
  | 0, c => Came.refl c
  | f + 1, c => by
    show Came M c (if n = 0 then c else if pend c.H who = n then (if (payC M c who).2 then finishC M who n f (payC M c who).1 else (payC M c who).1) else c)
    split
    · exact Came.refl c
    · split
      · split
        · exact (payC_came c who).trans (finishC_came who n f _)
        · exact payC_came c who
      · exact Came.refl c
theorem pickC_came (c : Conf S) (x : Pick.Pk) : Came M c (pickC M c x) := by
  unfold pickC
  split
  · exact payC_came c x.who
  split
  · exact runC_came _ _ _
  split
  · exact finishC_came _ _ _ _
  split
  · split
    · exact roundsC_came _ _ _
    · exact Came.refl _
  split
  · exact roundsC_came _ _ _
  · exact Came.refl _
theorem playC_came : ∀ (l : List Pick.Pk) (c : Conf S), Came M c (playC M l c)
  | [], c => Came.refl c
  | x :: l, c => by
    show Came M c (if (pickC M c x).dry then pickC M c x else playC M l (pickC M c x))
    split
    · exact pickC_came c x
    · exact (pickC_came c x).trans (playC_came l _)

/-- a measure of what is left to do -/
structure Rank (M : Mach S) where
  mu : Har × S → Nat
  good : Har × S → Prop
  move : ∀ x y, good x → Move M x y → good y ∧ mu y + 1 ≤ mu x
  idle : ∀ x, good x → mu x = 0 → idleB x.1 = true

theorem Rank.path (R : Rank M) {n : Nat} {x y : Har × S} (p : Path M n x y) (h : R.good x) : R.good y ∧ R.mu y + n ≤ R.mu x := by
  induction p with
  | nil x => exact ⟨h, by omega⟩
  | cons h' p ih =>
    obtain ⟨h1, h2⟩ := R.move _ _ h h'
    obtain ⟨h3, h4⟩ := ih h1
    exact ⟨h3, by omega⟩

/-- whoever has something to do makes a step: a sweep that meets one is shorter of budget -/
theorem sweepC_sunk : ∀ (k i : Nat) (c : Conf S), c.dry = false → c.left ≠ 0 → (∃ who, i ≤ who ∧ who < i + k ∧ pend c.H (who : Int) ≠ 0) → (sweepC M k i c).left < c.left
  | 0, i, c, _, _, ⟨who, h1, h2, _⟩ => by omega
  | k + 1, i, c, hd, hl, ⟨who, h1, h2, h3⟩ => by
    show (sweepC M k (i + 1) (payC M c i).1).left < c.left
    by_cases hp : pend c.H (i : Int) = 0
    · have e : (payC M c i).1 = c := by unfold payC; rw [if_neg (by simp [hd]), if_pos hp]
      rw [e]
      refine sweepC_sunk k (i + 1) c hd hl ⟨who, ?_, by omega, h3⟩
      apply Decidable.byContradiction
      intro hn
      have : who = i := by omega
      subst this
      exact h3 hp
    · have e : (payC M c i).1.left = c.left - 1 := by unfold payC; rw [if_neg (by simp [hd]), if_neg hp, if_neg hl]
      have := (sweepC_came (M := M) k (i + 1) (payC M c i).1).le
      omega

theorem idle_not {H : Har} (h : idleB H = false) : ∃ who, who < H.queues.length ∧ pend H (who : Int) ≠ 0 := by
  unfold idleB at h
  rw [List.all_eq_false] at h
  obtain ⟨q, hq, hne⟩ := h
  obtain ⟨k, hk, rfl⟩ := List.getElem_of_mem hq
  refine ⟨k, hk, ?_⟩
  rw [pend_of hk]
  intro e
  exact hne (by rw [List.eq_nil_of_length_eq_zero e]; rfl)

/-- with budget enough no play is cut off -/
theorem Rank.wet (R : Rank M) {c d : Conf S} (h : Came M c d) (hg : R.good (c.H, c.s)) (hm : R.mu (c.H, c.s) ≤ c.left) : R.good (d.H, d.s) ∧ R.mu (d.H, d.s) ≤ d.left := by
  obtain ⟨h1, h2⟩ := R.path h.path hg
  have := h.le
  exact ⟨h1, by omega⟩
theorem pend_idle {H : Har} (h : idleB H = true) (who : Int) : pend H who = 0 := by
  apply Decidable.byContradiction
  intro hp
  obtain ⟨k, j, l, rfl, hk, hq⟩ := pend_pos hp
  unfold idleB at h
  rw [List.all_eq_true] at h
  have := h (j :: l) (List.mem_of_getElem? hq)
  simp at this
theorem Rank.payC_wet (R : Rank M) (c : Conf S) (who : Int) (hg : R.good (c.H, c.s)) (hm : R.mu (c.H, c.s) ≤ c.left) (hd : c.dry = false) : (payC M c who).1.dry = false := by
  unfold payC
  rw [if_neg (by simp [hd])]
  split
  · exact hd
  · rename_i hp
    split
    · rename_i hl
      have := pend_idle (R.idle _ hg (by omega)) who
      exact absurd this hp
    · exact hd
theorem Rank.sweepC_wet (R : Rank M) : ∀ (k i : Nat) (c : Conf S), R.good (c.H, c.s) → R.mu (c.H, c.s) ≤ c.left → c.dry = false → (sweepC M k i c).dry = false
  | 0, i, c, _, _, hd => hd
  | k + 1, i, c, hg, hm, hd => by
    obtain ⟨h1, h2⟩ := R.wet (payC_came c i) hg hm
    exact R.sweepC_wet k (i + 1) _ h1 h2 (R.payC_wet c i hg hm hd)
theorem Rank.roundsC_done (R : Rank M) : ∀ (f : Nat) (n : Int) (c : Conf S), n < 0 → c.left < f → R.good (c.H, c.s) → R.mu (c.H, c.s) ≤ c.left → c.dry = false → idleB (roundsC M f n c).H = true ∧ (roundsC M f n c).dry = false
  | 0, n, c, _, hf, _, _, _ => by omega
  | f + 1, n, c, hn, hf, hg, hm, hd => by
    show idleB (if n = 0 ∨ idleB c.H = true ∨ c.dry = true then c else roundsC M f (n - 1) (roundC M c)).H = true ∧ (if n = 0 ∨ idleB c.H = true ∨ c.dry = true then c else roundsC M f (n - 1) (roundC M c)).dry = false
    by_cases hi : idleB c.H = true
    · rw [if_pos (.inr (.inl hi))]
      exact ⟨hi, hd⟩
    · have hi' : idleB c.H = false := by simpa using hi
      rw [if_neg (by simp [hi', hd]; omega)]
      obtain ⟨h1, h2⟩ := R.wet (roundC_came c) hg hm
      have hl : c.left ≠ 0 := fun e => hi (R.idle _ hg (by omega))
      obtain ⟨who, hw, hp⟩ := idle_not hi'
      have hless : (roundC M c).left < c.left := sweepC_sunk _ 0 c hd hl ⟨who, by omega, by omega, hp⟩
      exact R.roundsC_done f (n - 1) _ (by omega) (by omega) h1 h2 (R.sweepC_wet _ 0 c hg hm hd)
theorem Rank.roundsC_wet (R : Rank M) : ∀ (f : Nat) (n : Int) (c : Conf S), R.good (c.H, c.s) → R.mu (c.H, c.s) ≤ c.left → c.dry = false → (roundsC M f n c).dry = false
  | 0, n, c, _, _, hd => hd
  | f + 1, n, c, hg, hm, hd => by
    show (if n = 0 ∨ idleB c.H = true ∨ c.dry = true then c else roundsC M f (n - 1) (roundC M c)).dry = false
    split
    · exact hd
    · obtain ⟨h1, h2⟩ := R.wet (roundC_came c) hg hm
      exact R.roundsC_wet f (n - 1) _ h1 h2 (R.sweepC_wet _ 0 c hg hm hd)
theorem Rank.runC_wet (R : Rank M) (who : Int) : ∀ (n : Nat) (c : Conf S), R.good (c.H, c.s) → R.mu (c.H, c.s) ≤ c.left → c.dry = false → (runC M who n c).dry = false
  | 0, c, _, _, hd => hd
  | n + 1, c, hg, hm, hd => by
    show (if (payC M c who).2 then runC M who n (payC M c who).1 else (payC M c who).1).dry = false
    obtain ⟨h1, h2⟩ := R.wet (payC_came c who) hg hm
    split
    · exact R.runC_wet who n _ h1 h2 (R.payC_wet c who hg hm hd)
    · exact R.payC_wet c who hg hm hd
theorem Rank.finishC_wet (R : Rank M) (who : Int) (n : Nat) : ∀ (f : Nat) (c : Conf S), R.good (c.H, c.s) → R.mu (c.H, c.s) ≤ c.left → c.dry = false → (finishC M who n f c).dry = false
  | 0, c, _, _, hd => hd
  | f + 1, c, hg, hm, hd => by
    show (if n = 0 then c else if pend c.H who = n then (if (payC M c who).2 then finishC M who n f (payC M c who).1 else (payC M c who).1) else c).dry = false
    obtain ⟨h1, h2⟩ := R.wet (payC_came c who) hg hm
    split
    · exact hd
    · split
      · split
        · exact R.finishC_wet who n f _ h1 h2 (R.payC_wet c who hg hm hd)
        · exact R.payC_wet c who hg hm hd
      · exact hd
theorem Rank.pickC_wet (R : Rank M) (c : Conf S) (x : Pick.Pk) (hg : R.good (c.H, c.s)) (hm : R.mu (c.H, c.s) ≤ c.left) (hd : c.dry = false) : (pickC M c x).dry = false := by
  unfold pickC
  split
  · exact R.payC_wet c _ hg hm hd
  split
  · exact R.runC_wet _ _ c hg hm hd
  split
  · exact R.finishC_wet _ _ _ c hg hm hd
  split
  · split
    · exact R.roundsC_wet _ _ c hg hm hd
    · exact hd
  split
  · exact R.roundsC_wet _ _ c hg hm hd
  · exact hd
/-- with budget enough a play is never cut off -/
theorem Rank.playC_wet (R : Rank M) : ∀ (l : List Pick.Pk) (c : Conf S), R.good (c.H, c.s) → R.mu (c.H, c.s) ≤ c.left → c.dry = false → (playC M l c).dry = false
  | [], c, _, _, hd => hd
  | x :: l, c, hg, hm, hd => by
    show (if (pickC M c x).dry then pickC M c x else playC M l (pickC M c x)).dry = false
    have h0 := R.pickC_wet c x hg hm hd
    obtain ⟨h1, h2⟩ := R.wet (pickC_came c x) hg hm
    rw [if_neg (by simp [h0])]
    exact R.playC_wet l _ h1 h2 h0
/-- A Drain with budget enough ends it all. -/
theorem Rank.drain (R : Rank M) (c : Conf S) (hg : R.good (c.H, c.s)) (hm : R.mu (c.H, c.s) ≤ c.left) (hd : c.dry = false) : idleB (playC M [drainPick] c).H = true ∧ (playC M [drainPick] c).dry = false := by
  have e : playC M [drainPick] c = roundsC M (c.left + 2) (-1) c := by
    show (if (pickC M c drainPick).dry then pickC M c drainPick else pickC M c drainPick) = _
    rw [ite_self]
    rfl
  rw [e]
  exact R.roundsC_done _ _ c (by omega) (by omega) hg hm hd
end Go.Proofs.YtdkdeiofjoccnaaGreat.Har

/- Threads that a harness plays: what is left to do (plain Lean). -/
namespace Go.Proofs.YtdkdeiofjoccnaaGreat.Lit
open Go.RowKit Go.Proofs.YtdkdeiofjoccnaaGreat.Mem Go.Proofs.YtdkdeiofjoccnaaGreat.Ar Go.Proofs.YtdkdeiofjoccnaaGreat.Un
open Go.Proofs.YtdkdeiofjoccnaaGreat.Har (Rank Job)
set_option linter.unusedVariables false

theorem split_at {α : Type} {l : List α} {k : Nat} {x : α} (h : l[k]? = some x) : ∃ A B, l = A ++ x :: B ∧ A.length = k := by
  have hk : k < l.length := by
    apply Decidable.byContradiction
    intro hn
    rw [List.getElem?_eq_none (by omega)] at h
    cases h
  refine ⟨l.take k, l.drop (k + 1), ?_, by rw [List.length_take]; omega⟩
  rw [List.getElem?_eq_getElem hk] at h
  rw [← Option.some.inj h, ← List.drop_eq_getElem_cons hk, List.take_append_drop]
theorem set_mid {α : Type} (A : List α) (x y : α) (B : List α) : (A ++ x :: B).set A.length y = A ++ y :: B := by
  rw [List.set_append_right _ _ (Nat.le_refl _), Nat.sub_self]
  rfl

/-- what one step makes of a harness -/
structure Turned {S : Type} (M : Har.Mach S) (x y : Har.Har × S) (k : Nat) (A : List (List Job)) (j : Job) (l : List Job) (B : List (List Job)) : Prop where
  was : x.1.queues = A ++ (j :: l) :: B
  len : A.length = k
  st : y.2 = (M.step x.2 j.mach).1
  queues : y.1.queues = if (M.step x.2 j.mach).2 then A ++ l :: B else A ++ ({ j with called := true } :: l) :: B
  steps : y.1.steps = wrap64 (x.1.steps + 1)
  events : y.1.events = x.1.events ++ (if j.called then [] else [⟨1, k, j.tag, x.1.steps⟩]) ++ (if (M.step x.2 j.mach).2 then [⟨2, k, j.tag, wrap64 (x.1.steps + 1)⟩] else [])
  ended : y.1.ended = if (M.step x.2 j.mach).2 then x.1.ended ++ [j.mach] else x.1.ended

theorem turned {S : Type} {M : Har.Mach S} {x y : Har.Har × S} (h : Har.Move M x y) : ∃ k A j l B, Turned M x y k A j l B := by
  obtain ⟨k, j, l, hk, hq, rfl⟩ := h.ex
  obtain ⟨A, B, e, hl⟩ := split_at hq
  refine ⟨k, A, j, l, B, ?_⟩
  obtain ⟨⟨queues, steps, events, ended⟩, s⟩ := x
  simp only at e hq hk
  subst hl
  have hs : Har.stepH M ⟨queues, steps, events, ended⟩ s A.length = if (M.step s j.mach).2 then (((⟨queues, steps, events, ended⟩ : Har.Har).called A.length j l).count.done A.length { j with called := true } l, (M.step s j.mach).1) else (((⟨queues, steps, events, ended⟩ : Har.Har).called A.length j l).count, (M.step s j.mach).1) := by
    unfold Har.stepH
    simp only [List.getD_eq_getElem?_getD, hq, Option.getD_some]
  obtain ⟨mach, tag, called⟩ := j
  rw [hs]
  cases called <;> cases hd : (M.step s mach).2 <;>
    (refine ⟨e, rfl, ?_, ?_, ?_, ?_, ?_⟩ <;> simp [Har.Har.called, Har.Har.count, Har.Har.done, Har.Har.put, Har.Har.event, e, hd])

/-- a step of a thread's: its program stands, it goes on, and it says when it is done -/
theorem stepT_rem (A : Arena Unit) (slot : Int) (t : Th) (h : t.at_ ≤ t.prog.length) :
    (stepT A slot t).1.2.prog = t.prog ∧ (stepT A slot t).1.2.at_ ≤ t.prog.length ∧ ((stepT A slot t).2 = true ↔ t.prog.length ≤ (stepT A slot t).1.2.at_) ∧
    ((stepT A slot t).2 = false → max 1 (t.prog.length - (stepT A slot t).1.2.at_) + 1 ≤ max 1 (t.prog.length - t.at_)) := by
  unfold stepT
  by_cases he : t.at_ < t.prog.length
  · rw [List.getElem?_eq_getElem he]
    have h1 := actT_same A slot { t with at_ := t.at_ + 1 } t.prog[t.at_] he
    have h2 : t.at_ + 1 ≤ (actT A slot { t with at_ := t.at_ + 1 } t.prog[t.at_]).2.at_ := by
      unfold actT
      repeat' split
      all_goals first | exact Nat.le_refl _ | (simp only [Nat.le_min]; exact ⟨Nat.le_add_right _ _, he⟩)
    refine ⟨h1.1, h1.2.1, by simp, fun hf => ?_⟩
    have h3 : ¬ t.prog.length ≤ (actT A slot { t with at_ := t.at_ + 1 } t.prog[t.at_]).2.at_ := by simpa using hf
    show max 1 (t.prog.length - (actT A slot { t with at_ := t.at_ + 1 } t.prog[t.at_]).2.at_) + 1 ≤ _
    omega
  · rw [List.getElem?_eq_none (by omega)]
    exact ⟨rfl, h, by simp; omega, fun hf => by simp at hf⟩
/-- .. just one instruction on, where none skips -/
theorem stepT_exact (A : Arena Unit) (slot : Int) (t : Th) (h : t.at_ ≤ t.prog.length) (hs : ∀ x ∈ t.prog, x.op ≠ 5) : (stepT A slot t).1.2.at_ = min (t.at_ + 1) t.prog.length := by
  unfold stepT
  by_cases he : t.at_ < t.prog.length
  · rw [List.getElem?_eq_getElem he]
    have h5 := hs t.prog[t.at_] (List.getElem_mem he)
    rw [Nat.min_eq_left he]
    show (actT A slot { t with at_ := t.at_ + 1 } t.prog[t.at_]).2.at_ = _
    unfold actT
    repeat' split
    all_goals first | rfl | (rename_i h' ; exact absurd h' h5)
  · rw [List.getElem?_eq_none (by omega), Nat.min_eq_right (by omega)]
    show t.at_ = _
    omega

/-- which threads are queued -/
def ids (P : Park) (H : Har.Har) : List Nat := H.queues.flatten.map fun j => P.idx j.mach
/-- what a thread has to do yet -/
def wt (S : St) (i : Nat) : Nat := match S.ths[i]? with
  | some t => max 1 (t.prog.length - t.at_)
  | none => 1

/-- all is as it should be -/
structure Good (P : Park) (x : Har.Har × St) : Prop where
  ths : x.2.ths.length = P.seats.length
  ars : x.2.ars.length = P.ars.length
  ar : ∀ i (h : i < P.seats.length), P.seats[i].ar < P.ars.length
  at_ : ∀ i (h : i < x.2.ths.length), x.2.ths[i].at_ ≤ x.2.ths[i].prog.length
  lt : ∀ i ∈ ids P x.1, i < P.seats.length
  nodup : (ids P x.1).Nodup
  /-- who is not queued is done -/
  rest : ∀ i (h : i < x.2.ths.length), i ∉ ids P x.1 → x.2.ths[i].prog.length ≤ x.2.ths[i].at_

def muP (P : Park) (x : Har.Har × St) : Nat := ((ids P x.1).map (wt x.2)).sum

/-- a step of thread i, as the harness sees it -/
theorem stepP_form {P : Park} {S : St} {i : Nat} (h1 : i < P.seats.length) (h2 : S.ths.length = P.seats.length) (h3 : P.seats[i].ar < P.ars.length) (h4 : S.ars.length = P.ars.length) :
    ∃ (h5 : i < S.ths.length) (h6 : P.seats[i].ar < S.ars.length), stepP P S i = (⟨S.ars.set P.seats[i].ar (stepT S.ars[P.seats[i].ar] P.ars[P.seats[i].ar].2 S.ths[i]).1.1, S.ths.set i (stepT S.ars[P.seats[i].ar] P.ars[P.seats[i].ar].2 S.ths[i]).1.2⟩, (stepT S.ars[P.seats[i].ar] P.ars[P.seats[i].ar].2 S.ths[i]).2) := by
  have h5 : i < S.ths.length := by omega
  have h6 : P.seats[i].ar < S.ars.length := by omega
  refine ⟨h5, h6, ?_⟩
  unfold stepP
  simp only [List.getElem?_eq_getElem h1, List.getElem?_eq_getElem h5, List.getElem?_eq_getElem h3, List.getElem?_eq_getElem h6]

theorem wt_other {S : St} {i i' : Nat} {ars : List (Arena Unit)} {t : Th} (h : i ≠ i') : wt ⟨ars, S.ths.set i t⟩ i' = wt S i' := by
  unfold wt
  simp only [List.getElem?_set_ne h]
theorem wt_self {S : St} {i : Nat} {ars : List (Arena Unit)} {t : Th} (h : i < S.ths.length) : wt ⟨ars, S.ths.set i t⟩ i = max 1 (t.prog.length - t.at_) := by
  unfold wt
  simp only [List.getElem?_set_self h]
theorem wt_at {S : St} {i : Nat} (h : i < S.ths.length) : wt S i = max 1 (S.ths[i].prog.length - S.ths[i].at_) := by
  unfold wt
  simp only [List.getElem?_eq_getElem h]

theorem map_same {S S' : St} {i : Nat} {l : List Nat} (h : ∀ k, k ≠ i → wt S' k = wt S k) (hi : i ∉ l) : l.map (wt S') = l.map (wt S) := by
  apply List.map_congr_left
  intro k hk
  exact h k fun e => hi (e ▸ hk)

/-- the step of one of the threads: which one, and what becomes of the queued -/
theorem Good.step {P : Park} {x y : Har.Har × St} (h : Good P x) (hm : Har.Move (machs P) x y) :
    ∃ (i : Nat) (h1 : i < P.seats.length) (h5 : i < x.2.ths.length) (h6 : P.seats[i].ar < x.2.ars.length) (h3 : P.seats[i].ar < P.ars.length) (a b : List Nat),
      ids P x.1 = a ++ i :: b ∧ i ∉ a ∧ i ∉ b ∧
      y.2 = ⟨x.2.ars.set P.seats[i].ar (stepT x.2.ars[P.seats[i].ar] P.ars[P.seats[i].ar].2 x.2.ths[i]).1.1, x.2.ths.set i (stepT x.2.ars[P.seats[i].ar] P.ars[P.seats[i].ar].2 x.2.ths[i]).1.2⟩ ∧
      ids P y.1 = if (stepT x.2.ars[P.seats[i].ar] P.ars[P.seats[i].ar].2 x.2.ths[i]).2 then a ++ b else a ++ i :: b := by
  obtain ⟨k, A, j, l, B, t⟩ := turned hm
  have hids : ids P x.1 = (A.flatten.map fun j => P.idx j.mach) ++ P.idx j.mach :: ((l.map fun j => P.idx j.mach) ++ (B.flatten.map fun j => P.idx j.mach)) := by
    unfold ids
    rw [t.was]
    simp
  have hi : P.idx j.mach ∈ ids P x.1 := by rw [hids]; simp
  have h1 := h.lt _ hi
  have h3 := h.ar _ h1
  obtain ⟨h5, h6, hs⟩ := stepP_form h1 h.ths h3 h.ars
  have hnd := h.nodup
  rw [hids, List.nodup_append] at hnd
  obtain ⟨n1, n2, n3⟩ := hnd
  rw [List.nodup_cons] at n2
  have hst : (machs P).step x.2 j.mach = stepP P x.2 (P.idx j.mach) := rfl
  refine ⟨P.idx j.mach, h1, h5, h6, h3, _, _, hids, fun hm => n3 _ hm _ (List.mem_cons_self ..) rfl, n2.1, ?_, ?_⟩
  · rw [t.st, hst, hs]
  · unfold ids
    rw [t.queues, hst, hs]
    simp only
    split <;> simp

theorem good_move (P : Park) (x y : Har.Har × St) (h : Good P x) (hm : Har.Move (machs P) x y) : Good P y ∧ muP P y + 1 ≤ muP P x := by
  obtain ⟨i, h1, h5, h6, h3, a, b, hx, ha, hb, hy, hq⟩ := h.step hm
  obtain ⟨r1, r2, r3, r4⟩ := stepT_rem x.2.ars[P.seats[i].ar] P.ars[P.seats[i].ar].2 x.2.ths[i] (h.at_ i h5)
  have hsub : ∀ z ∈ ids P y.1, z ∈ ids P x.1 := by
    intro z hz
    rw [hq] at hz
    rw [hx]
    split at hz
    · rcases List.mem_append.1 hz with hz | hz
      · exact List.mem_append_left _ hz
      · exact List.mem_append_right _ (List.mem_cons_of_mem _ hz)
    · exact hz
  have hnd := h.nodup
  rw [hx] at hnd
  refine ⟨⟨by rw [hy]; simpa using h.ths, by rw [hy]; simpa using h.ars, h.ar, fun z hz => ?_, fun z hz => h.lt z (hsub z hz), ?_, fun z hz hn => ?_⟩, ?_⟩
  · have hz' : z < x.2.ths.length := by rw [hy] at hz; simpa using hz
    simp only [hy, List.getElem_set]
    split
    · rw [r1]; exact r2
    · exact h.at_ z hz'
  · rw [hq]
    split
    · exact (List.nodup_append.1 hnd).1 |> fun n1 => List.nodup_append.2 ⟨n1, (List.nodup_cons.1 (List.nodup_append.1 hnd).2.1).2, fun u hu v hv => (List.nodup_append.1 hnd).2.2 u hu v (List.mem_cons_of_mem _ hv)⟩
    · exact hnd
  · have hz' : z < x.2.ths.length := by rw [hy] at hz; simpa using hz
    simp only [hy, List.getElem_set]
    split
    · rename_i e
      subst e
      rw [r1]
      refine r3.1 ?_
      apply Decidable.byContradiction
      intro hf
      rw [hq, if_neg hf] at hn
      exact hn (by simp)
    · rename_i e
      refine h.rest z hz' fun hm' => hn ?_
      rw [hx] at hm'
      rw [hq]
      have hzi : z ≠ i := fun e' => e e'.symm
      split
      · rcases List.mem_append.1 hm' with hm' | hm'
        · exact List.mem_append_left _ hm'
        · rcases List.mem_cons.1 hm' with e' | hm'
          · exact absurd e' hzi
          · exact List.mem_append_right _ hm'
      · exact hm'
  · unfold muP
    rw [hx, hq]
    have hw : ∀ k, k ≠ i → wt y.2 k = wt x.2 k := fun k hk => by rw [hy]; exact wt_other (Ne.symm hk)
    have hwi : wt y.2 i = max 1 (x.2.ths[i].prog.length - (stepT x.2.ars[P.seats[i].ar] P.ars[P.seats[i].ar].2 x.2.ths[i]).1.2.at_) := by rw [hy, wt_self h5, r1]
    have hwx := wt_at h5
    split
    · rw [List.map_append, List.map_append, List.map_cons, List.sum_append, List.sum_append, List.sum_cons, map_same hw ha, map_same hw hb]
      omega
    · rename_i hf
      have r4' := r4 (by simpa using hf)
      rw [List.map_append, List.map_append, List.map_cons, List.map_cons, List.sum_append, List.sum_append, List.sum_cons, List.sum_cons, map_same hw ha, map_same hw hb]
      omega

theorem le_sum {l : List Nat} {x : Nat} (h : x ∈ l) : x ≤ l.sum := by
  induction l with
  | nil => simp at h
  | cons y l ih =>
    rcases List.mem_cons.1 h with rfl | h
    · simp
    · have := ih h
      rw [List.sum_cons]; omega

/-- the threads' measure -/
def rank (P : Park) : Rank (machs P) where
  mu := muP P
  good := Good P
  move := good_move P
  idle := fun x hg h0 => by
    unfold muP at h0
    unfold Har.idleB
    rw [List.all_eq_true]
    intro q hq
    cases q with
    | nil => rfl
    | cons j l =>
      have hi : P.idx j.mach ∈ ids P x.1 := List.mem_map.2 ⟨j, List.mem_flatten.2 ⟨_, hq, by simp⟩, rfl⟩
      have h1 : 1 ≤ wt x.2 (P.idx j.mach) := by
        unfold wt
        split
        · exact Nat.le_max_left _ _
        · exact Nat.le_refl _
      have : wt x.2 (P.idx j.mach) ≤ ((ids P x.1).map (wt x.2)).sum := le_sum (List.mem_map.2 ⟨_, hi, rfl⟩)
      omega

theorem idle_ids {P : Park} {H : Har.Har} (h : Har.idleB H = true) : ids P H = [] := by
  unfold ids
  rw [List.map_eq_nil_iff, List.flatten_eq_nil_iff]
  intro q hq
  unfold Har.idleB at h
  rw [List.all_eq_true] at h
  exact List.isEmpty_iff.1 (h q hq)
end Go.Proofs.YtdkdeiofjoccnaaGreat.Lit

/- A program drained: all threads are done; what every step keeps stands (plain Lean). -/
namespace Go.Proofs.YtdkdeiofjoccnaaGreat.Lit
open Go.RowKit Go.Proofs.YtdkdeiofjoccnaaGreat.Mem Go.Proofs.YtdkdeiofjoccnaaGreat.Ar Go.Proofs.YtdkdeiofjoccnaaGreat.Un
open Go.Proofs.YtdkdeiofjoccnaaGreat.Har (Rank Job)
set_option linter.unusedVariables false
variable {l : LP} {P : Park}

theorem Laid.idx (h : Laid l P) {i : Nat} (hi : i < P.seats.length) : P.idx (ptr P.seats[i].tb) = i := by
  unfold Park.idx ptr
  rw [List.findIdx_eq hi]
  refine ⟨by simp, fun k hk => ?_⟩
  simp only [beq_eq_false_iff_ne, ne_eq]
  intro e
  have := h.apart i k hi (by omega) e
  omega

theorem flatMap_one {α β : Type} (f : α → β) : ∀ l : List α, (l.flatMap fun x => [f x]) = l.map f
  | [] => rfl
  | x :: l => by rw [List.flatMap_cons, flatMap_one f l]; rfl

theorem ids_begun (h : Laid l P) : ids P (harK P l.threads.length) = List.range l.threads.length := by
  have e : (harK P l.threads.length).queues = (List.range l.threads.length).map fun (i : Nat) => [(⟨match P.seats[i]? with
      | some s => ptr s.tb
      | none => .pointer none, (i : Int), false⟩ : Job)] := by
    apply List.map_congr_left
    intro i hi
    rw [List.mem_range] at hi
    have hi' : i < P.seats.length := by rw [h.n]; exact hi
    simp only [List.getElem?_eq_getElem hi']
  unfold ids
  rw [e, ← List.flatMap_def, flatMap_one, List.map_map]
  apply List.ext_getElem (by simp)
  intro i h1 h2
  have hi' : i < P.seats.length := by rw [h.n]; simpa using h2
  simp [List.getElem?_eq_getElem hi', h.idx hi']

theorem soundGo_sum {nc : Nat} : ∀ (n : Nat) (l : List (List Ins)), n ≤ 10 → soundGo nc n l = true → n + (l.map List.length).sum ≤ 10
  | n, [], h, _ => by simpa using h
  | n, p :: r, h, hs => by
    unfold soundGo at hs
    split at hs
    · cases hs
    · split at hs
      · have := soundGo_sum (n + p.length) r (by omega) hs
        simp only [List.map_cons, List.sum_cons]
        omega
      · cases hs

theorem sum_max : ∀ l : List (List Ins), (l.map fun p => max 1 p.length).sum ≤ (l.map List.length).sum + l.length
  | [] => by simp
  | p :: l => by
    have := sum_max l
    simp only [List.map_cons, List.sum_cons, List.length_cons]
    omega

theorem begun_good (h : Laid l P) : Good P ((begun l P).H, (begun l P).s) := by
  obtain ⟨L, hL⟩ := h.one
  refine ⟨by show (l.threads.map th0).length = _; rw [List.length_map, h.n], by show 1 = _; rw [hL]; rfl, fun i hi => by rw [h.ar i hi, hL]; simp, fun i hi => ?_, fun i hi => ?_, ?_, fun i hi hn => ?_⟩
  · have hi' : i < (l.threads.map th0).length := hi
    have e : (l.threads.map th0)[i].at_ ≤ (l.threads.map th0)[i].prog.length := by
      rw [List.getElem_map]
      exact Nat.zero_le _
    exact e
  · have hi' : i ∈ ids P (harK P l.threads.length) := hi
    rw [ids_begun h, List.mem_range] at hi'
    rw [h.n]; exact hi'
  · show (ids P (harK P l.threads.length)).Nodup
    rw [ids_begun h]
    exact List.nodup_range
  · refine absurd ?_ hn
    show i ∈ ids P (harK P l.threads.length)
    rw [ids_begun h, List.mem_range]
    have hi' : i < (l.threads.map th0).length := hi
    simpa using hi'

theorem begun_mu (h : Laid l P) (hs : soundB l = true) : muP P ((begun l P).H, (begun l P).s) ≤ 14 := by
  have e : muP P ((begun l P).H, (begun l P).s) = (l.threads.map fun p => max 1 p.length).sum := by
    show ((ids P (harK P l.threads.length)).map (wt ⟨[arena0 l], l.threads.map th0⟩)).sum = _
    rw [ids_begun h]
    congr 1
    apply List.ext_getElem (by simp)
    intro i h1 h2
    have hi : i < l.threads.length := by simpa using h2
    simp only [List.getElem_map, List.getElem_range]
    unfold wt
    have : (l.threads.map th0)[i]? = some (th0 l.threads[i]) := by rw [List.getElem?_map, List.getElem?_eq_getElem hi]; rfl
    simp only [this]
    rfl
  have h1 := sum_max l.threads
  unfold soundB at hs
  simp only [betB, Bool.and_eq_true, decide_eq_true_eq] at hs
  have h2 := soundGo_sum 0 l.threads (by omega) hs.2.2
  omega

theorem drained_done (h : Laid l P) (hs : soundB l = true) (s : ByteArray) : Good P ((drained l P s).H, (drained l P s).s) ∧ Har.idleB (drained l P s).H = true ∧
    ∀ i (hi : i < (drained l P s).s.ths.length), (drained l P s).s.ths[i].prog.length ≤ (drained l P s).s.ths[i].at_ := by
  have c1 := Har.playC_came (M := machs P) (Pick.dec s.data.toList) (begun l P)
  obtain ⟨g1, m1⟩ := (rank P).path c1.path (begun_good h)
  have hm := begun_mu h hs
  have m1' : muP P ((played l P s).H, (played l P s).s) ≤ muP P ((begun l P).H, (begun l P).s) := Nat.le_trans (Nat.le_add_right _ _) m1
  have g1' : Good P ((played l P s).H, (played l P s).s) := g1
  obtain ⟨d1, d2⟩ := (rank P).drain ⟨(played l P s).H, (played l P s).s, 14, false⟩ g1' (Nat.le_trans m1' hm) rfl
  have c2 := Har.playC_came (M := machs P) [Har.drainPick] ⟨(played l P s).H, (played l P s).s, 14, false⟩
  obtain ⟨g2, -⟩ := (rank P).path c2.path g1'
  have g2' : Good P ((drained l P s).H, (drained l P s).s) := g2
  have d1' : Har.idleB (drained l P s).H = true := d1
  refine ⟨g2', d1', fun i hi => g2'.rest i hi ?_⟩
  show i ∉ ids P (drained l P s).H
  rw [idle_ids d1']
  simp

/-- what each step of a thread keeps stands at the end -/
theorem drained_inv (h : Laid l P) (s : ByteArray) {I : Arena Unit → List Th → Prop} (h0 : I (arena0 l) (l.threads.map th0))
    (hI : ∀ (A : Arena Unit) (ths : List Th) (i : Nat) (hi : i < ths.length), I A ths → I (stepT A 1 ths[i]).1.1 (ths.set i (stepT A 1 ths[i]).1.2)) :
    ∃ A, (drained l P s).s.ars = [A] ∧ I A (drained l P s).s.ths := by
  obtain ⟨L, hL⟩ := h.one
  let J : Har.Har × St → Prop := fun x => Good P x ∧ ∃ A, x.2.ars = [A] ∧ I A x.2.ths
  have hJ : ∀ x y, J x → Har.Move (machs P) x y → J y := by
    rintro x y ⟨g, A, hA, hi⟩ hm
    refine ⟨(good_move P x y g hm).1, ?_⟩
    obtain ⟨i, h1, h5, h6, h3, a, b, hx, ha, hb, hy, hq⟩ := g.step hm
    have h0 := h.ar i h1
    refine ⟨(stepT A 1 x.2.ths[i]).1.1, ?_, ?_⟩
    · rw [hy]
      simp only [h0, hA, hL, List.getElem_cons_zero, List.set_cons_zero]
      rfl
    · rw [hy]
      simp only [h0, hA, hL, List.getElem_cons_zero]
      exact hI A x.2.ths i h5 hi
  have j0 : J ((begun l P).H, (begun l P).s) := ⟨begun_good h, arena0 l, rfl, h0⟩
  have c1 := Har.playC_came (M := machs P) (Pick.dec s.data.toList) (begun l P)
  have j1 := c1.path.inv hJ j0
  have c2 := Har.playC_came (M := machs P) [Har.drainPick] ⟨(played l P s).H, (played l P s).s, 14, false⟩
  exact (c2.path.inv hJ j1).2
end Go.Proofs.YtdkdeiofjoccnaaGreat.Lit
