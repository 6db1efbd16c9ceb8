/- The document's program and the program's own: one step is one step (plain Lean). -/
import Derived.Test.YtdkdeiofjoccnaaGreatRefProg
import Derived.Test.YtdkdeiofjoccnaaGreatTwin
namespace Go.Proofs.YtdkdeiofjoccnaaGreat.Ref
open Go.RowKit Go.Proofs.YtdkdeiofjoccnaaGreat.Mem Go.Proofs.YtdkdeiofjoccnaaGreat.Ar Go.Proofs.YtdkdeiofjoccnaaGreat.Un Go.Proofs.YtdkdeiofjoccnaaGreat.Lit
open Go.Proofs.YtdkdeiofjoccnaaGreat.Har (Job Ev Sim Abreast Late Tri)
set_option linter.unusedVariables false

/-- the document's threads as machines, for the plain functions alone (nothing is said of memory) -/
def numOf : Value → Nat
  | .int _ i => i.toNat
  | _ => 0
def refM : Har.Mach RP where
  B := []
  R := fun _ _ => False
  stable := fun h => h.elim
  lt := fun h => h.elim
  ok := fun _ v => ∃ a, v = .pointer (some a)
  step := fun S v => refStep S (numOf v)
  okStep := fun h => h
  addr := fun h => h
  calls := fun h => h.elim

def wIn (x : Int) : Prop := 0 ≤ x ∧ x < 18446744073709551616
theorem uw_mod' (x : Int) : uw x = x % 18446744073709551616 := by
  unfold uw IntKind.wrap
  simp only [IntKind.bits, IntKind.signed]
  simp
theorem uw_wIn (x : Int) : wIn (uw x) := by rw [uw_mod']; unfold wIn; omega

/-- the words of the arena's one slot and the document's cells -/
structure SameA (A : Arena Unit) (cells : List Int) : Prop where
  width : A.width = cells.length
  len : A.words.length = cells.length
  at_ : ∀ j, j < cells.length → nth A.words j 0 = nth cells j 0
  inw : ∀ j, j < cells.length → wIn (nth cells j 0)

theorem nth_set (l : List Int) (i j : Nat) (x : Int) (hi : i < l.length) : nth (l.set i x) j 0 = if i = j then x else nth l j 0 := by
  unfold nth
  rw [List.getD_eq_getElem?_getD, List.getElem?_set]
  split
  · rename_i e
    subst e
    simp
  · rw [List.getD_eq_getElem?_getD]
theorem SameA.set {A : Arena Unit} {cells : List Int} (h : SameA A cells) {c : Nat} (hc : c < cells.length) {x : Int} (hx : wIn x) : SameA (wrote A 1 c x) (cells.set c x) := by
  have e : wordAt (counted A) (1 : Int).toNat (c : Int).toNat = c := by simp [wordAt]
  refine ⟨by rw [List.length_set]; exact h.width, ?_, fun j hj => ?_, fun j hj => ?_⟩
  · show (A.words.set _ _).length = _
    simpa using h.len
  · have hj' : j < cells.length := by simpa using hj
    show nth (A.words.set (wordAt (counted A) (1 : Int).toNat (c : Int).toNat) x) j 0 = _
    rw [e, nth_set _ _ _ _ (by rw [h.len]; exact hc), nth_set _ _ _ _ hc, h.at_ j hj']
  · have hj' : j < cells.length := by simpa using hj
    rw [nth_set _ _ _ _ hc]
    split
    · exact hx
    · exact h.inw j hj'
theorem SameA.count {A : Arena Unit} {cells : List Int} (h : SameA A cells) : SameA (counted A) cells := ⟨h.width, h.len, h.at_, h.inw⟩

/-- an instruction whose words are words -/
def okIns (x : Ins) : Prop := wIn x.newI ∧ wIn x.oldI
theorem valOf_wIn {regs : List Int} {r i : Int} (h : wIn i) : wIn (Lit.valOf regs r i) := by
  unfold Lit.valOf
  split
  · exact h
  · exact uw_wIn _

theorem act_same {A : Arena Unit} {cells : List Int} (h : SameA A cells) (t : Th) (x : Ins) (hf : fitB x cells.length = true) (ho : okIns x) :
    (actT A 1 t x).2 = (refAct cells t x).2 ∧ SameA (actT A 1 t x).1 (refAct cells t x).1 := by
  obtain ⟨op, cell, reg, newR, newI, oldR, oldI, n⟩ := x
  have hw : ∀ c : Int, 0 ≤ c → c < cells.length → wordOf A 1 c = nth cells c.toNat 0 := by
    intro c h0 h1
    unfold wordOf
    rw [show wordAt A (1 : Int).toNat c.toNat = c.toNat by simp [wordAt]]
    exact h.at_ _ (by omega)
  have hcn : ∀ c : Int, 0 ≤ c → wrote A 1 c = wrote A 1 ((c.toNat : Nat) : Int) := by
    intro c h0
    rw [show ((c.toNat : Nat) : Int) = c by omega]
  by_cases h1 : op = 1
  · subst h1
    simp only [fitB, if_true, Bool.and_eq_true, decide_eq_true_eq] at hf
    simp only [actT, refAct, if_true]
    rw [hw cell hf.1.1 hf.1.2]
    exact ⟨rfl, h.count⟩
  by_cases h2 : op = 2
  · subst h2
    simp [fitB] at hf
    have e1 : actT A 1 t ⟨2, cell, reg, newR, newI, oldR, oldI, n⟩ = (wrote A 1 cell (Lit.valOf t.regs newR newI), t) := rfl
    have e2 : refAct cells t ⟨2, cell, reg, newR, newI, oldR, oldI, n⟩ = (cells.set cell.toNat (Lit.valOf t.regs newR newI), t) := rfl
    rw [e1, e2, hcn cell (by omega)]
    exact ⟨rfl, h.set (by omega) (valOf_wIn ho.1)⟩
  by_cases h3 : op = 3
  · subst h3
    simp [fitB] at hf
    have e1 : actT A 1 t ⟨3, cell, reg, newR, newI, oldR, oldI, n⟩ = if wordOf A 1 cell = Lit.valOf t.regs oldR oldI then (wrote A 1 cell (Lit.valOf t.regs newR newI), { t with regs := t.regs.set reg.toNat 1 }) else (counted A, { t with regs := t.regs.set reg.toNat 0 }) := rfl
    have e2 : refAct cells t ⟨3, cell, reg, newR, newI, oldR, oldI, n⟩ = if nth cells cell.toNat 0 = Lit.valOf t.regs oldR oldI then (cells.set cell.toNat (Lit.valOf t.regs newR newI), tR t (t.regs.set reg.toNat 1)) else (cells, tR t (t.regs.set reg.toNat 0)) := rfl
    rw [e1, e2, hw cell (by omega) (by omega)]
    split
    · rw [hcn cell (by omega)]
      exact ⟨rfl, h.set (by omega) (valOf_wIn ho.1)⟩
    · exact ⟨rfl, h.count⟩
  by_cases h4 : op = 4
  · subst h4
    simp [fitB] at hf
    have e1 : actT A 1 t ⟨4, cell, reg, newR, newI, oldR, oldI, n⟩ = (wrote A 1 cell (uw (wordOf A 1 cell + Lit.valOf t.regs newR newI)), { t with regs := t.regs.set reg.toNat (uw (uw (wordOf A 1 cell + Lit.valOf t.regs newR newI) - Lit.valOf t.regs newR newI)) }) := rfl
    have e2 : refAct cells t ⟨4, cell, reg, newR, newI, oldR, oldI, n⟩ = (cells.set cell.toNat (uw (nth cells cell.toNat 0 + Lit.valOf t.regs newR newI)), tR t (t.regs.set reg.toNat (nth cells cell.toNat 0))) := rfl
    have hin := h.inw cell.toNat (by omega)
    rw [e1, e2, hw cell (by omega) (by omega), hcn cell (by omega)]
    refine ⟨?_, h.set (by omega) (uw_wIn _)⟩
    have e3 : uw (uw (nth cells cell.toNat 0 + Lit.valOf t.regs newR newI) - Lit.valOf t.regs newR newI) = nth cells cell.toNat 0 := by
      rw [uw_mod', uw_mod']; unfold wIn at hin; omega
    rw [e3]
    rfl
  by_cases h5 : op = 5
  · subst h5
    exact ⟨rfl, h⟩
  · simp [fitB, h1, h2, h3, h4, h5] at hf

/-- a thread's step, on both sides -/
theorem step_same {A : Arena Unit} {S : RP} (h : SameA A S.cells) {i : Nat} (hi : i < S.ths.length) (hf : ∀ x ∈ S.ths[i].prog, fitB x S.cells.length = true ∧ okIns x) :
    (Lit.stepT A 1 S.ths[i]).2 = (refStep S i).2 ∧ S.ths.set i (Lit.stepT A 1 S.ths[i]).1.2 = (refStep S i).1.ths ∧ SameA (Lit.stepT A 1 S.ths[i]).1.1 (refStep S i).1.cells := by
  unfold refStep Lit.stepT
  simp only [List.getElem?_eq_getElem hi]
  by_cases he : S.ths[i].at_ < S.ths[i].prog.length
  · simp only [List.getElem?_eq_getElem he]
    have hx := hf _ (List.getElem_mem he)
    obtain ⟨e1, e2⟩ := act_same h (tP S.ths[i] (S.ths[i].at_ + 1)) _ hx.1 hx.2
    have e0 : ({ S.ths[i] with at_ := S.ths[i].at_ + 1 } : Th) = tP S.ths[i] (S.ths[i].at_ + 1) := rfl
    simp only [e0]
    exact ⟨by rw [e1], by rw [e1], e2⟩
  · simp only [List.getElem?_eq_none (show S.ths[i].prog.length ≤ S.ths[i].at_ by omega)]
    exact ⟨trivial, List.set_getElem_self .., h⟩

theorem refAct_prog (cells : List Int) (t : Th) (x : Ins) : (refAct cells t x).2.prog = t.prog := by
  unfold refAct
  repeat' split
  all_goals rfl
theorem refStep_fit {S : RP} (i : Nat) {Q : List Ins → Prop} (h : ∀ t ∈ S.ths, Q t.prog) : ∀ t ∈ (refStep S i).1.ths, Q t.prog := by
  unfold refStep
  cases ht : S.ths[i]? with
  | none => exact h
  | some t =>
    simp only
    cases hx : t.prog[t.at_]? with
    | none => exact h
    | some x =>
      intro t' ht'
      rcases List.mem_or_eq_of_mem_set ht' with hm | rfl
      · exact h t' hm
      · rw [refAct_prog]
        exact h t (List.mem_of_getElem? ht)
theorem refStep_len (S : RP) (i : Nat) : (refStep S i).1.ths.length = S.ths.length ∧ (refStep S i).1.cells.length = S.cells.length := by
  have key : ∀ (cells : List Int) (t : Th) (x : Ins), (refAct cells t x).1.length = cells.length := by
    intro cells t x
    unfold refAct
    repeat' split
    all_goals first | rfl | exact List.length_set ..
  unfold refStep
  split
  · exact ⟨rfl, rfl⟩
  · split
    · exact ⟨rfl, rfl⟩
    · exact ⟨List.length_set .., key _ _ _⟩

/-- a job of the document's, but for its form -/
def skR (j : Job) : Nat × Int × Bool := (numOf j.mach, j.tag, j.called)

/-- the two harnesses of one program -/
structure Pair (P : Park) (x : Har.Har × St) (y : Har.Har × RP) : Prop where
  good : Lit.Good P x
  one : ∃ L, P.ars = [(L, 1)]
  ar : ∀ i (h : i < P.seats.length), P.seats[i].ar = 0
  same : ∃ A, x.2.ars = [A] ∧ SameA A y.2.cells
  ths : x.2.ths = y.2.ths
  fit : ∀ t ∈ y.2.ths, ∀ z ∈ t.prog, fitB z y.2.cells.length = true ∧ okIns z
  steps : x.1.steps = y.1.steps
  events : x.1.events = y.1.events
  queues : x.1.queues.map (List.map (sk P)) = y.1.queues.map (List.map skR)

theorem Pair.pend {P : Park} {x : Har.Har × St} {y : Har.Har × RP} (h : Pair P x y) (who : Int) : Har.pend x.1 who = Har.pend y.1 who := by
  have k1 : ∀ (q : List (List Job)) (n : Nat), (q.getD n []).length = ((q.map (List.map (sk P))).getD n []).length := by
    intro q n
    simp only [List.getD_eq_getElem?_getD, List.getElem?_map]
    cases q[n]? <;> simp
  have k2 : ∀ (q : List (List Job)) (n : Nat), (q.getD n []).length = ((q.map (List.map skR)).getD n []).length := by
    intro q n
    simp only [List.getD_eq_getElem?_getD, List.getElem?_map]
    cases q[n]? <;> simp
  unfold Har.pend
  rw [k1, k2, h.queues]

theorem Pair.move {P : Park} {x : Har.Har × St} {y : Har.Har × RP} (h : Pair P x y) (who : Int) (hp : Har.pend x.1 who ≠ 0) : Pair P (Har.stepI (machs P) x.1 x.2 who) (Har.stepI refM y.1 y.2 who) := by
  obtain ⟨k, j, l, rfl, hk, hq⟩ := Har.pend_pos hp
  have e0 : Har.stepI (machs P) x.1 x.2 (k : Int) = Har.stepH (machs P) x.1 x.2 k := by
    unfold Har.stepI
    rw [if_pos (by omega), Int.toNat_natCast]
  have e1 : Har.stepI refM y.1 y.2 (k : Int) = Har.stepH refM y.1 y.2 k := by
    unfold Har.stepI
    rw [if_pos (by omega), Int.toNat_natCast]
  rw [e0, e1]
  obtain ⟨A, B, T⟩ := turned_at (M := machs P) hq
  have hm := congrArg (fun q : List (List (Nat × Int × Bool)) => q[k]?) h.queues
  simp only [List.getElem?_map, hq, Option.map_some] at hm
  obtain ⟨q', hq'⟩ : ∃ q', y.1.queues[k]? = some q' := by
    cases hy : y.1.queues[k]? with
    | none => rw [hy] at hm; simp at hm
    | some q' => exact ⟨q', rfl⟩
  rw [hq'] at hm
  simp only [Option.map_some, Option.some.injEq, List.map_cons] at hm
  match q', hq', hm with
  | [], hq', hm => simp at hm
  | j' :: l', hq', hm =>
    simp only [List.map_cons, List.cons.injEq] at hm
    obtain ⟨hj1, hl1⟩ := hm
    obtain ⟨A', B', T'⟩ := turned_at (M := refM) hq'
    have hqs := h.queues
    rw [T.was, T'.was, List.map_append, List.map_append] at hqs
    obtain ⟨hA, hB⟩ := List.append_inj hqs (by rw [List.length_map, List.length_map, T.len, T'.len])
    simp only [List.map_cons, List.cons.injEq] at hB
    have hB := hB.2
    have hjs : P.idx j.mach = numOf j'.mach ∧ j.tag = j'.tag ∧ j.called = j'.called := by
      simp only [sk, skR, Prod.mk.injEq] at hj1
      exact hj1
    have hi : P.idx j.mach < P.seats.length := by
      refine h.good.lt _ ?_
      unfold ids
      rw [T.was]
      simp
    obtain ⟨i, hii⟩ : ∃ i, i = P.idx j.mach := ⟨_, rfl⟩
    rw [← hii] at hi hjs
    obtain ⟨h5, h6, hs⟩ := stepP_form hi h.good.ths (h.good.ar i hi) h.good.ars
    obtain ⟨L, hL⟩ := h.one
    obtain ⟨A0, hA0, hSA⟩ := h.same
    have har := h.ar i hi
    have hiy : i < y.2.ths.length := by rw [← h.ths]; exact h5
    simp only [har, hL, hA0, List.getElem_cons_zero, List.set_cons_zero] at hs
    have hth : x.2.ths[i] = y.2.ths[i] := by simp only [h.ths]
    rw [hth] at hs
    obtain ⟨d1, d2, d3⟩ := step_same hSA hiy (h.fit _ (List.getElem_mem hiy))
    have hst : (machs P).step x.2 j.mach = stepP P x.2 i := by
      show stepP P x.2 (P.idx j.mach) = _
      rw [hii]
    have hst' : refM.step y.2 j'.mach = refStep y.2 i := by
      show refStep y.2 (numOf j'.mach) = _
      rw [hjs.1]
    have hd : ((machs P).step x.2 j.mach).2 = (refM.step y.2 j'.mach).2 := by rw [hst, hst', hs]; exact d1
    have hmx : Har.Move (machs P) x (Har.stepH (machs P) x.1 x.2 k) := ⟨⟨k, j, l, hk, hq, rfl⟩⟩
    refine ⟨(good_move P _ _ h.good hmx).1, h.one, h.ar, ?_, ?_, ?_, by rw [T.steps, T'.steps, h.steps], ?_, ?_⟩
    · rw [T.st, T'.st, hst, hst', hs]
      exact ⟨_, rfl, d3⟩
    · rw [T.st, T'.st, hst, hst', hs, ← d2, h.ths]
      rfl
    · rw [T'.st, hst', (refStep_len y.2 i).2]
      exact refStep_fit i (Q := fun p => ∀ z ∈ p, fitB z y.2.cells.length = true ∧ okIns z) h.fit
    · rw [T.events, T'.events, hd, h.events, h.steps, hjs.2.1, hjs.2.2]
    · rw [T.queues, T'.queues, hd]
      split
      · simp [hA, hl1, hB]
      · have : sk P { j with called := true } = skR { j' with called := true } := by
          simp only [sk, skR, Prod.mk.injEq, and_true]
          exact ⟨by rw [← hii]; exact hjs.1, hjs.2.1⟩
        simp [hA, hl1, hB, this]

def pairs (P : Park) : Sim (machs P) refM where
  Rel := Pair P
  len := fun x y h => by have := congrArg List.length h.queues; simpa using this
  pend := fun x y h => h.pend
  move := fun x y h who hp => h.move who hp
end Go.Proofs.YtdkdeiofjoccnaaGreat.Ref
