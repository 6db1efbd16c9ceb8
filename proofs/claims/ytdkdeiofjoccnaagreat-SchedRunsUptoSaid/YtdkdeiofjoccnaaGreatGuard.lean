/- A region that draws its order and ends in a store to a cell that it reads: what is read may be taken first; what is held of the world is asked till one given operation (plain Lean over the model: no program). -/
import Derived.OrdersHeld
import Derived.StillTail
import Derived.KernelRfl
namespace Go.Proofs.YtdkdeiofjoccnaaGreat.Guard
open Go
set_option linter.unusedVariables false

section
variable {P : Program} {md : Region.Mode} {ops : Array Oper} {Q : Exit → Act → World → Prop} {S : World → Prop} {g : Nat}

/-- does operation j wait for operation i, through others too? -/
def needs (md : Region.Mode) (ops : Array Oper) : Nat → Nat → Nat → Bool
  | 0, _, _ => false
  | f + 1, j, i => match ops[j]? with
    | some oj => oj.after.any fun e => Region.binds md e && (e.on == i || needs md ops f e.on i)
    | none => false

/-- whoever has come up has those behind it for whom it waits -/
def Closed (md : Region.Mode) (ops : Array Oper) (listed : Array Bool) : Prop :=
  ∀ j oj, ops[j]? = some oj → listed.getD j false = true → ∀ e ∈ oj.after, Region.binds md e = true → listed.getD e.on false = true
def closedB (md : Region.Mode) (ops : Array Oper) (listed : Array Bool) : Bool :=
  (List.range ops.size).all fun j => !listed.getD j false || match ops[j]? with
    | some oj => oj.after.all fun e => !Region.binds md e || listed.getD e.on false
    | none => true
theorem closed_of {listed : Array Bool} (h : closedB md ops listed = true) : Closed md ops listed := by
  intro j oj hj hl e he hb
  have hlt : j < ops.size := (Array.getElem?_eq_some_iff.1 hj).1
  have h1 := List.all_eq_true.1 h j (List.mem_range.2 hlt)
  simp only [hl, Bool.not_true, Bool.false_or, hj] at h1
  have h2 := Array.all_eq_true'.1 h1 e he
  simpa [hb] using h2
theorem Closed.set {listed : Array Bool} {i : Nat} (h : Closed md ops listed) (hi : i ∈ Region.ready md ops listed) : Closed md ops (listed.setIfInBounds i true) := by
  obtain ⟨_, oi, hoi, hall⟩ := mem_ready.1 hi
  intro j oj hj hl e he hb
  by_cases hij : i = j
  · subst hij
    have : oj = oi := Option.some.inj (hj.symm.trans hoi)
    subst this
    exact getD_set_true (hall e he hb)
  · rw [getD_set_ne false hij] at hl
    exact getD_set_true (h j oj hj hl e he hb)
theorem needs_listed {listed : Array Bool} (h : Closed md ops listed) : ∀ (f j i : Nat) (oj : Oper), ops[j]? = some oj → (∀ e ∈ oj.after, Region.binds md e = true → listed.getD e.on false = true) → needs md ops f j i = true → listed.getD i false = true
  | 0, j, i, oj, _, _, hn => by simp [needs] at hn
  | f + 1, j, i, oj, hj, hall, hn => by
    simp only [needs, hj] at hn
    obtain ⟨e, he, hb⟩ := Array.any_eq_true'.1 hn
    simp only [Bool.and_eq_true, Bool.or_eq_true, beq_iff_eq] at hb
    have hl := hall e he hb.1
    rcases hb.2 with rfl | hn'
    · exact hl
    · cases ho : ops[e.on]? with
      | none => cases f <;> simp [needs, ho] at hn'
      | some o' => exact needs_listed h f e.on i o' ho (h e.on o' ho hl) hn'

/-- Whatever order is picked from here on; S holds behind each operation till operation g has come up. -/
def wpAnyG (P : Program) (md : Region.Mode) (ops : Array Oper) (Q : Exit → Act → World → Prop) (S : World → Prop) (g : Nat) : Nat → Array Bool → Act → World → Prop
  | 0, listed, a, w => Region.ready md ops listed = [] ∧ Q .normal a w
  | fuel + 1, listed, a, w =>
    (Region.ready md ops listed = [] → Q .normal a w) ∧
    ∀ i ∈ Region.ready md ops listed, wpOp P ops Q i (fun a' w' => (i = g → wpAny P md ops Q fuel (listed.setIfInBounds i true) a' w') ∧ (i ≠ g → S w' ∧ wpAnyG P md ops Q S g fuel (listed.setIfInBounds i true) a' w')) a w

theorem wpAny_of_guard : ∀ (fuel : Nat) (listed : Array Bool) (a : Act) (w : World), wpAnyG P md ops Q S g fuel listed a w → wpAny P md ops Q fuel listed a w
  | 0, _, _, _, h => h
  | fuel + 1, _, _, _, h => ⟨h.1, fun i hi => wpOp_mono (fun a' w' h' => by
      by_cases hg : i = g
      · exact h'.1 hg
      · exact wpAny_of_guard fuel _ a' w' (h'.2 hg).2) (h.2 i hi)⟩

/-- an operation for which g waits may be taken first, if it yields its value in every world that meets S -/
theorem wpAnyG_first {i : Nat} {oi : Oper} {v : Value} (hi : ops[i]? = some oi) (hsel : ∀ (j : Nat) (o : Oper) cs b, ops[j]? = some o → o.op ≠ .select cs b)
    (hQ : ∀ c a w, Q (.panic c) (a.put oi.dst v) w → Q (.panic c) a w) {f0 : Nat} (hn : needs md ops f0 g i = true) (hig : i ≠ g) :
    ∀ (fuel : Nat) (listed : Array Bool) (a : Act) (w : World), Closed md ops listed →
      (∀ j oj, ops[j]? = some oj → j ≠ i → listed.getD j true = false → (∀ e ∈ oj.after, Region.binds md e = true → e.on ≠ i) → oi.apart ops oj = true) →
      i ∈ Region.ready md ops listed → YieldsIf P ops S oi v a → S w →
      wpAnyG P md ops Q S g fuel (listed.setIfInBounds i true) (a.put oi.dst v) w → wpAnyG P md ops Q S g (fuel + 1) listed a w := by
  intro fuel
  induction fuel with
  | zero =>
    intro listed a w _ _ hr hy hS H
    refine ⟨fun h => (by rw [h] at hr; cases hr), fun j hj => ?_⟩
    by_cases hji : j = i
    · subst hji; exact hy.wpOp hi hS ⟨fun e => absurd e hig, fun _ => ⟨hS, H⟩⟩
    · have := ready_mono hj hji
      rw [H.1] at this
      cases this
  | succ fuel ih =>
    intro listed a w hcl hfree hr hy hS H
    refine ⟨fun h => (by rw [h] at hr; cases hr), fun j hj => ?_⟩
    by_cases hji : j = i
    · subst hji; exact hy.wpOp hi hS ⟨fun e => absurd e hig, fun _ => ⟨hS, H⟩⟩
    · have h1 := H.2 j (ready_mono hj hji)
      obtain ⟨hjun, oj, hoj, hall⟩ := mem_ready.1 hj
      have hiun := (mem_ready.1 hr).1
      have hjg : j ≠ g := by
        rintro rfl
        have h2 := needs_listed hcl f0 j i oj hoj hall hn
        rw [getD_both hiun] at h2
        cases h2
      have hnot : ∀ e ∈ oj.after, Region.binds md e = true → e.on ≠ i := fun e he hb heq => by
        have h1 := hall e he hb
        rw [heq, getD_both hiun] at h1
        cases h1
      have h2 := wpOp_putIf hoj (hfree j oj hoj hji hjun hnot) (fun cs b => hsel i oi cs b hi) (fun cs b => hsel j oj cs b hoj) hQ hy h1
      have hfree' : ∀ k ok, ops[k]? = some ok → k ≠ i → (listed.setIfInBounds j true).getD k true = false →
          (∀ e ∈ ok.after, Region.binds md e = true → e.on ≠ i) → oi.apart ops ok = true := fun k ok hk hki hun hno => by
        refine hfree k ok hk hki ?_ hno
        by_cases hjk : j = k
        · subst hjk; exact hjun
        · rw [getD_set_ne true hjk] at hun; exact hun
      refine wpOp_mono (fun a' w' h3 => ⟨fun e => absurd e hjg, fun _ => ?_⟩) h2
      have h4 := h3.2.2 hjg
      refine ⟨h4.1, ih (listed.setIfInBounds j true) a' w' (hcl.set hj) hfree' (ready_mono hr (Ne.symm hji)) h3.1 h4.1 ?_⟩
      rw [Array.setIfInBounds_comm _ _ hji]
      exact h4.2

theorem wpAnyG_take {i : Nat} {oi : Oper} {v : Value} {fuel : Nat} {listed : Array Bool} {a : Act} {w : World} (hi : ops[i]? = some oi)
    (hs : (Region.noSelect ops && closedB md ops listed && needs md ops ops.size g i && decide (i ≠ g) && Region.free md ops listed i && (Region.ready md ops listed).contains i) = true)
    (hQ : ∀ c a w, Q (.panic c) (a.put oi.dst v) w → Q (.panic c) a w) (hy : YieldsIf P ops S oi v a) (hS : S w)
    (h : wpAnyG P md ops Q S g fuel (listed.setIfInBounds i true) (a.put oi.dst v) w) : wpAnyG P md ops Q S g (fuel + 1) listed a w := by
  simp only [Bool.and_eq_true, decide_eq_true_eq] at hs
  obtain ⟨⟨⟨⟨⟨h1, h2⟩, h3⟩, h4⟩, h5⟩, h6⟩ := hs
  exact wpAnyG_first hi (Region.noSelect_spec h1) hQ h3 h4 fuel listed a w (closed_of h2) (Region.free_spec hi h5) (by simpa using h6) hy hS h

/-- an operation that looks at no world may be taken first -/
theorem wpAnyG_pure_first {i : Nat} {oi : Oper} {v : Value} (hi : ops[i]? = some oi) (hsel : ∀ (j : Nat) (o : Oper) cs b, ops[j]? = some o → o.op ≠ .select cs b)
    (hQ : ∀ c a w, Q (.panic c) (a.put oi.dst v) w → Q (.panic c) a w) (hig : i ≠ g) :
    ∀ (fuel : Nat) (listed : Array Bool) (a : Act) (w : World),
      (∀ j oj, ops[j]? = some oj → j ≠ i → listed.getD j true = false → (∀ e ∈ oj.after, Region.binds md e = true → e.on ≠ i) → oi.apart ops oj = true) →
      i ∈ Region.ready md ops listed → YieldsIf P ops (fun _ => True) oi v a → S w →
      wpAnyG P md ops Q S g fuel (listed.setIfInBounds i true) (a.put oi.dst v) w → wpAnyG P md ops Q S g (fuel + 1) listed a w := by
  intro fuel
  induction fuel with
  | zero =>
    intro listed a w _ hr hy hS H
    refine ⟨fun h => (by rw [h] at hr; cases hr), fun j hj => ?_⟩
    by_cases hji : j = i
    · subst hji; exact hy.wpOp hi trivial ⟨fun e => absurd e hig, fun _ => ⟨hS, H⟩⟩
    · have := ready_mono hj hji
      rw [H.1] at this
      cases this
  | succ fuel ih =>
    intro listed a w hfree hr hy hS H
    refine ⟨fun h => (by rw [h] at hr; cases hr), fun j hj => ?_⟩
    by_cases hji : j = i
    · subst hji; exact hy.wpOp hi trivial ⟨fun e => absurd e hig, fun _ => ⟨hS, H⟩⟩
    · have h1 := H.2 j (ready_mono hj hji)
      obtain ⟨hjun, oj, hoj, hall⟩ := mem_ready.1 hj
      have hiun := (mem_ready.1 hr).1
      have hnot : ∀ e ∈ oj.after, Region.binds md e = true → e.on ≠ i := fun e he hb heq => by
        have h1 := hall e he hb
        rw [heq, getD_both hiun] at h1
        cases h1
      have h2 := wpOp_putIf hoj (hfree j oj hoj hji hjun hnot) (fun cs b => hsel i oi cs b hi) (fun cs b => hsel j oj cs b hoj) hQ hy h1
      have hfree' : ∀ k ok, ops[k]? = some ok → k ≠ i → (listed.setIfInBounds j true).getD k true = false →
          (∀ e ∈ ok.after, Region.binds md e = true → e.on ≠ i) → oi.apart ops ok = true := fun k ok hk hki hun hno => by
        refine hfree k ok hk hki ?_ hno
        by_cases hjk : j = k
        · subst hjk; exact hjun
        · rw [getD_set_ne true hjk] at hun; exact hun
      refine wpOp_mono (fun a' w' h3 => ⟨fun e => ?_, fun hjg => ?_⟩) h2
      · have h4 := h3.2.1 e
        rw [Array.setIfInBounds_comm _ _ (fun e => hji e.symm)] at h4
        exact wpAny_first hi hsel hQ fuel (listed.setIfInBounds j true) a' w' hfree' (ready_mono hr (Ne.symm hji)) (h3.1.imp (fun ⟨q1, q2⟩ => ⟨q1, fun w => q2 w trivial⟩) id) h4
      · have h4 := h3.2.2 hjg
        refine ⟨h4.1, ih (listed.setIfInBounds j true) a' w' hfree' (ready_mono hr (Ne.symm hji)) h3.1 h4.1 ?_⟩
        rw [Array.setIfInBounds_comm _ _ hji]
        exact h4.2

theorem wpAnyG_pure {i : Nat} {oi : Oper} {v : Value} {fuel : Nat} {listed : Array Bool} {a : Act} {w : World} (hi : ops[i]? = some oi)
    (hs : (Region.noSelect ops && decide (i ≠ g) && Region.free md ops listed i && (Region.ready md ops listed).contains i) = true)
    (hQ : ∀ c a w, Q (.panic c) (a.put oi.dst v) w → Q (.panic c) a w) (hy : YieldsIf P ops (fun _ => True) oi v a) (hS : S w)
    (h : wpAnyG P md ops Q S g fuel (listed.setIfInBounds i true) (a.put oi.dst v) w) : wpAnyG P md ops Q S g (fuel + 1) listed a w := by
  simp only [Bool.and_eq_true, decide_eq_true_eq] at hs
  obtain ⟨⟨⟨h1, h4⟩, h5⟩, h6⟩ := hs
  exact wpAnyG_pure_first hi (Region.noSelect_spec h1) hQ h4 fuel listed a w (Region.free_spec hi h5) (by simpa using h6) hy hS h

/-- one operation that comes up -/
def StepG (P : Program) (ops : Array Oper) (Q : Exit → Act → World → Prop) (oj : Oper) (a : Act) (w : World) (R : Act → World → Prop) : Prop :=
  ∀ K : Act → World → Prop, (∀ a' w', R a' w' → K a' w') → if Region.wanted oj (yielded ops a.tmps) = true then Oper.wp P oj a w K Q else K (a.put oj.dst undef) w
theorem StepG.op {j : Nat} {oj : Oper} {a : Act} {w : World} {R : Act → World → Prop} (hj : ops[j]? = some oj) (h : StepG P ops Q oj a w R) : wpOp P ops Q j R a w := by
  have := h R fun _ _ h => h
  unfold wpOp
  simp only [hj]
  split
  · rename_i hw
    rw [if_pos hw] at this
    exact .inl this
  · rename_i hw
    rw [if_neg hw] at this
    exact this

theorem guard_one {j : Nat} {oj : Oper} {fuel : Nat} {listed : Array Bool} {a : Act} {w : World} (hj : ops[j]? = some oj) (hs : (decide (Region.ready md ops listed = [j]) && decide (j ≠ g)) = true)
    (h : StepG P ops Q oj a w fun a' w' => S w' ∧ wpAnyG P md ops Q S g fuel (listed.setIfInBounds j true) a' w') : wpAnyG P md ops Q S g (fuel + 1) listed a w := by
  simp only [Bool.and_eq_true, decide_eq_true_eq] at hs
  refine ⟨fun h0 => (by rw [hs.1] at h0; cases h0), fun i hi => ?_⟩
  rw [hs.1] at hi
  obtain rfl : i = j := by simpa using hi
  exact wpOp_mono (fun a' w' h' => ⟨fun e => absurd e hs.2, fun _ => h'⟩) (h.op hj)
theorem guard_two {j k : Nat} {oj ok : Oper} {fuel : Nat} {listed : Array Bool} {a : Act} {w : World} (hj : ops[j]? = some oj) (hk : ops[k]? = some ok) (hs : (decide (Region.ready md ops listed = [j, k]) && decide (j ≠ g) && decide (k ≠ g)) = true)
    (h : StepG P ops Q oj a w fun a' w' => S w' ∧ wpAnyG P md ops Q S g fuel (listed.setIfInBounds j true) a' w')
    (h' : StepG P ops Q ok a w fun a' w' => S w' ∧ wpAnyG P md ops Q S g fuel (listed.setIfInBounds k true) a' w') : wpAnyG P md ops Q S g (fuel + 1) listed a w := by
  simp only [Bool.and_eq_true, decide_eq_true_eq] at hs
  refine ⟨fun h0 => (by rw [hs.1.1] at h0; cases h0), fun i hi => ?_⟩
  rw [hs.1.1] at hi
  rcases List.mem_cons.1 hi with rfl | hi
  · exact wpOp_mono (fun a' w' h' => ⟨fun e => absurd e hs.1.2, fun _ => h'⟩) (h.op hj)
  · obtain rfl : i = k := by simpa using hi
    exact wpOp_mono (fun a' w' h' => ⟨fun e => absurd e hs.2, fun _ => h'⟩) (h'.op hk)
/-- the one till which S was asked -/
theorem guard_last {oj : Oper} {fuel : Nat} {listed : Array Bool} {a : Act} {w : World} (hj : ops[g]? = some oj) (hs : decide (Region.ready md ops listed = [g]) = true)
    (h : StepG P ops Q oj a w fun a' w' => wpAny P md ops Q fuel (listed.setIfInBounds g true) a' w') : wpAnyG P md ops Q S g (fuel + 1) listed a w := by
  simp only [decide_eq_true_eq] at hs
  refine ⟨fun h0 => (by rw [hs] at h0; cases h0), fun i hi => ?_⟩
  rw [hs] at hi
  obtain rfl : i = g := by simpa using hi
  exact wpOp_mono (fun a' w' h' => ⟨fun _ => h', fun e => absurd rfl e⟩) (h.op hj)
theorem any_one {j : Nat} {oj : Oper} {fuel : Nat} {listed : Array Bool} {a : Act} {w : World} (hj : ops[j]? = some oj) (hs : decide (Region.ready md ops listed = [j]) = true)
    (h : StepG P ops Q oj a w fun a' w' => wpAny P md ops Q fuel (listed.setIfInBounds j true) a' w') : wpAny P md ops Q (fuel + 1) listed a w := by
  simp only [decide_eq_true_eq] at hs
  refine ⟨fun h0 => (by rw [hs] at h0; cases h0), fun i hi => ?_⟩
  rw [hs] at hi
  obtain rfl : i = j := by simpa using hi
  exact h.op hj
theorem any_done {fuel : Nat} {listed : Array Bool} {a : Act} {w : World} (hs : decide (Region.ready md ops listed = []) = true) (h : Q .normal a w) : wpAny P md ops Q fuel listed a w := by
  simp only [decide_eq_true_eq] at hs
  cases fuel with
  | zero => exact ⟨hs, h⟩
  | succ n => exact ⟨fun _ => h, by rw [hs]; simp⟩

/-- THE BEGINNING -/
theorem wp_region_guard {id : Nat} {a : Act} {w : World} (g fuel : Nat) (S : World → Prop) (L : Array Bool) (hf : ops.size = fuel) (hL : Array.replicate ops.size false = L) (hm : P.follows .mixedOrders = true)
    (h : wpAnyG P .any ops Q S g fuel L a w.drew) : (Code.region id ops true).wp P Q a w := by
  subst hf hL
  exact wp_region_any hm (wpAny_of_guard _ _ _ _ h)
end
end Go.Proofs.YtdkdeiofjoccnaaGreat.Guard
