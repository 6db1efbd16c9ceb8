import Derived.OrdersHeld
import Derived.StillTail
import Derived.KernelRfl
import Derived.Test.YtdkdeiofjoccnaaGreatCopyLit
import Derived.StillTailTactics
import Derived.WalkSpells
import Derived.Test.YtdkdeiofjoccnaaGreatRunBoth
import Derived.BigQuiet
/- A region that draws its order and ends in a store to a cell that it reads: what is read may be taken first; what is held of the world is asked till one given operation (plain Lean over the model: no program). -/
namespace Go.Proofs.YtdkdeiofjoccnaaGreat.Guard
open Go
set_option linter.unusedVariables false

section
variable {P : Program} {md : Region.Mode} {ops : Array Oper} {Q : Exit → Act → World → Prop} {S : World → Prop} {g : Nat}

/-- does operation j wait for operation i, through others too? -/
def needs (md : Region.Mode) (ops : Array Oper) : Nat → Nat → Nat → Bool
  | 0, _, _ => false
  | f + 1, j, i => match ops[j]? with
    | some oj => oj.after.any fun e => Region.binds md e && (e.on == i || needs md ops f e.on i)
    | none => false

/-- whoever has come up has those behind it for whom it waits -/
def Closed (md : Region.Mode) (ops : Array Oper) (listed : Array Bool) : Prop :=
  ∀ j oj, ops[j]? = some oj → listed.getD j false = true → ∀ e ∈ oj.after, Region.binds md e = true → listed.getD e.on false = true
def closedB (md : Region.Mode) (ops : Array Oper) (listed : Array Bool) : Bool :=
  (List.range ops.size).all fun j => !listed.getD j false || match ops[j]? with
    | some oj => oj.after.all fun e => !Region.binds md e || listed.getD e.on false
    | none => true
theorem closed_of {listed : Array Bool} (h : closedB md ops listed = true) : Closed md ops listed := by
  intro j oj hj hl e he hb
  have hlt : j < ops.size := (Array.getElem?_eq_some_iff.1 hj).1
  have h1 := List.all_eq_true.1 h j (List.mem_range.2 hlt)
  simp only [hl, Bool.not_true, Bool.false_or, hj] at h1
  have h2 := Array.all_eq_true'.1 h1 e he
  simpa [hb] using h2
theorem Closed.set {listed : Array Bool} {i : Nat} (h : Closed md ops listed) (hi : i ∈ Region.ready md ops listed) : Closed md ops (listed.setIfInBounds i true) := by
  obtain ⟨_, oi, hoi, hall⟩ := mem_ready.1 hi
  intro j oj hj hl e he hb
  by_cases hij : i = j
  · subst hij
    have : oj = oi := Option.some.inj (hj.symm.trans hoi)
    subst this
    exact getD_set_true (hall e he hb)
  · rw [getD_set_ne false hij] at hl
    exact getD_set_true (h j oj hj hl e he hb)
theorem needs_listed {listed : Array Bool} (h : Closed md ops listed) : ∀ (f j i : Nat) (oj : Oper), ops[j]? = some oj → (∀ e ∈ oj.after, Region.binds md e = true → listed.getD e.on false = true) → needs md ops f j i = true → listed.getD i false = true
  | 0, j, i, oj, _, _, hn => by simp [needs] at hn
  | f + 1, j, i, oj, hj, hall, hn => by
    simp only [needs, hj] at hn
    obtain ⟨e, he, hb⟩ := Array.any_eq_true'.1 hn
    simp only [Bool.and_eq_true, Bool.or_eq_true, beq_iff_eq] at hb
    have hl := hall e he hb.1
    rcases hb.2 with rfl | hn'
    · exact hl
    · cases ho : ops[e.on]? with
      | none => cases f <;> simp [needs, ho] at hn'
      | some o' => exact needs_listed h f e.on i o' ho (h e.on o' ho hl) hn'

/-- Whatever order is picked from here on; S holds behind each operation till operation g has come up. -/
def wpAnyG (P : Program) (md : Region.Mode) (ops : Array Oper) (Q : Exit → Act → World → Prop) (S : World → Prop) (g : Nat) : Nat → Array Bool → Act → World → Prop
  | 0, listed, a, w => Region.ready md ops listed = [] ∧ Q .normal a w
  | fuel + 1, listed, a, w =>
    (Region.ready md ops listed = [] → Q .normal a w) ∧
    ∀ i ∈ Region.ready md ops listed, wpOp P ops Q i (fun a' w' => (i = g → wpAny P md ops Q fuel (listed.setIfInBounds i true) a' w') ∧ (i ≠ g → S w' ∧ wpAnyG P md ops Q S g fuel (listed.setIfInBounds i true) a' w')) a w

theorem wpAny_of_guard : ∀ (fuel : Nat) (listed : Array Bool) (a : Act) (w : World), wpAnyG P md ops Q S g fuel listed a w → wpAny P md ops Q fuel listed a w
  | 0, _, _, _, h => h
  | fuel + 1, _, _, _, h => ⟨h.1, fun i hi => wpOp_mono (fun a' w' h' => by
      by_cases hg : i = g
      · exact h'.1 hg
      · exact wpAny_of_guard fuel _ a' w' (h'.2 hg).2) (h.2 i hi)⟩

/-- an operation for which g waits may be taken first, if it yields its value in every world that meets S -/
theorem wpAnyG_first {i : Nat} {oi : Oper} {v : Value} (hi : ops[i]? = some oi) (hsel : ∀ (j : Nat) (o : Oper) cs b, ops[j]? = some o → o.op ≠ .select cs b)
    (hQ : ∀ c a w, Q (.panic c) (a.put oi.dst v) w → Q (.panic c) a w) {f0 : Nat} (hn : needs md ops f0 g i = true) (hig : i ≠ g) :
    ∀ (fuel : Nat) (listed : Array Bool) (a : Act) (w : World), Closed md ops listed →
      (∀ j oj, ops[j]? = some oj → j ≠ i → listed.getD j true = false → (∀ e ∈ oj.after, Region.binds md e = true → e.on ≠ i) → oi.apart ops oj = true) →
      i ∈ Region.ready md ops listed → YieldsIf P ops S oi v a → S w →
      wpAnyG P md ops Q S g fuel (listed.setIfInBounds i true) (a.put oi.dst v) w → wpAnyG P md ops Q S g (fuel + 1) listed a w := by
  intro fuel
  induction fuel with
  | zero =>
    intro listed a w _ _ hr hy hS H
    refine ⟨fun h => (by rw [h] at hr; cases hr), fun j hj => ?_⟩
    by_cases hji : j = i
    · subst hji; exact hy.wpOp hi hS ⟨fun e => absurd e hig, fun _ => ⟨hS, H⟩⟩
    · have := ready_mono hj hji
      rw [H.1] at this
      cases this
  | succ fuel ih =>
    intro listed a w hcl hfree hr hy hS H
    refine ⟨fun h => (by rw [h] at hr; cases hr), fun j hj => ?_⟩
    by_cases hji : j = i
    · subst hji; exact hy.wpOp hi hS ⟨fun e => absurd e hig, fun _ => ⟨hS, H⟩⟩
    · have h1 := H.2 j (ready_mono hj hji)
      obtain ⟨hjun, oj, hoj, hall⟩ := mem_ready.1 hj
      have hiun := (mem_ready.1 hr).1
      have hjg : j ≠ g := by
        rintro rfl
        have h2 := needs_listed hcl f0 j i oj hoj hall hn
        rw [getD_both hiun] at h2
        cases h2
      have hnot : ∀ e ∈ oj.after, Region.binds md e = true → e.on ≠ i := fun e he hb heq => by
        have h1 := hall e he hb
        rw [heq, getD_both hiun] at h1
        cases h1
      have h2 := wpOp_putIf hoj (hfree j oj hoj hji hjun hnot) (fun cs b => hsel i oi cs b hi) (fun cs b => hsel j oj cs b hoj) hQ hy h1
      have hfree' : ∀ k ok, ops[k]? = some ok → k ≠ i → (listed.setIfInBounds j true).getD k true = false →
          (∀ e ∈ ok.after, Region.binds md e = true → e.on ≠ i) → oi.apart ops ok = true := fun k ok hk hki hun hno => by
        refine hfree k ok hk hki ?_ hno
        by_cases hjk : j = k
        · subst hjk; exact hjun
        · rw [getD_set_ne true hjk] at hun; exact hun
      refine wpOp_mono (fun a' w' h3 => ⟨fun e => absurd e hjg, fun _ => ?_⟩) h2
      have h4 := h3.2.2 hjg
      refine ⟨h4.1, ih (listed.setIfInBounds j true) a' w' (hcl.set hj) hfree' (ready_mono hr (Ne.symm hji)) h3.1 h4.1 ?_⟩
      rw [Array.setIfInBounds_comm _ _ hji]
      exact h4.2

theorem wpAnyG_take {i : Nat} {oi : Oper} {v : Value} {fuel : Nat} {listed : Array Bool} {a : Act} {w : World} (hi : ops[i]? = some oi)
    (hs : (Region.noSelect ops && closedB md ops listed && needs md ops ops.size g i && decide (i ≠ g) && Region.free md ops listed i && (Region.ready md ops listed).contains i) = true)
    (hQ : ∀ c a w, Q (.panic c) (a.put oi.dst v) w → Q (.panic c) a w) (hy : YieldsIf P ops S oi v a) (hS : S w)
    (h : wpAnyG P md ops Q S g fuel (listed.setIfInBounds i true) (a.put oi.dst v) w) : wpAnyG P md ops Q S g (fuel + 1) listed a w := by
  simp only [Bool.and_eq_true, decide_eq_true_eq] at hs
  obtain ⟨⟨⟨⟨⟨h1, h2⟩, h3⟩, h4⟩, h5⟩, h6⟩ := hs
  exact wpAnyG_first hi (Region.noSelect_spec h1) hQ h3 h4 fuel listed a w (closed_of h2) (Region.free_spec hi h5) (by simpa using h6) hy hS h

/-- an operation that looks at no world may be taken first -/
theorem wpAnyG_pure_first {i : Nat} {oi : Oper} {v : Value} (hi : ops[i]? = some oi) (hsel : ∀ (j : Nat) (o : Oper) cs b, ops[j]? = some o → o.op ≠ .select cs b)
    (hQ : ∀ c a w, Q (.panic c) (a.put oi.dst v) w → Q (.panic c) a w) (hig : i ≠ g) :
    ∀ (fuel : Nat) (listed : Array Bool) (a : Act) (w : World),
      (∀ j oj, ops[j]? = some oj → j ≠ i → listed.getD j true = false → (∀ e ∈ oj.after, Region.binds md e = true → e.on ≠ i) → oi.apart ops oj = true) →
      i ∈ Region.ready md ops listed → YieldsIf P ops (fun _ => True) oi v a → S w →
      wpAnyG P md ops Q S g fuel (listed.setIfInBounds i true) (a.put oi.dst v) w → wpAnyG P md ops Q S g (fuel + 1) listed a w := by
  intro fuel
  induction fuel with
  | zero =>
    intro listed a w _ hr hy hS H
    refine ⟨fun h => (by rw [h] at hr; cases hr), fun j hj => ?_⟩
    by_cases hji : j = i
    · subst hji; exact hy.wpOp hi trivial ⟨fun e => absurd e hig, fun _ => ⟨hS, H⟩⟩
    · have := ready_mono hj hji
      rw [H.1] at this
      cases this
  | succ fuel ih =>
    intro listed a w hfree hr hy hS H
    refine ⟨fun h => (by rw [h] at hr; cases hr), fun j hj => ?_⟩
    by_cases hji : j = i
    · subst hji; exact hy.wpOp hi trivial ⟨fun e => absurd e hig, fun _ => ⟨hS, H⟩⟩
    · have h1 := H.2 j (ready_mono hj hji)
      obtain ⟨hjun, oj, hoj, hall⟩ := mem_ready.1 hj
      have hiun := (mem_ready.1 hr).1
      have hnot : ∀ e ∈ oj.after, Region.binds md e = true → e.on ≠ i := fun e he hb heq => by
        have h1 := hall e he hb
        rw [heq, getD_both hiun] at h1
        cases h1
      have h2 := wpOp_putIf hoj (hfree j oj hoj hji hjun hnot) (fun cs b => hsel i oi cs b hi) (fun cs b => hsel j oj cs b hoj) hQ hy h1
      have hfree' : ∀ k ok, ops[k]? = some ok → k ≠ i → (listed.setIfInBounds j true).getD k true = false →
          (∀ e ∈ ok.after, Region.binds md e = true → e.on ≠ i) → oi.apart ops ok = true := fun k ok hk hki hun hno => by
        refine hfree k ok hk hki ?_ hno
        by_cases hjk : j = k
        · subst hjk; exact hjun
        · rw [getD_set_ne true hjk] at hun; exact hun
      refine wpOp_mono (fun a' w' h3 => ⟨fun e => ?_, fun hjg => ?_⟩) h2
      · have h4 := h3.2.1 e
        rw [Array.setIfInBounds_comm _ _ (fun e => hji e.symm)] at h4
        exact wpAny_first hi hsel hQ fuel (listed.setIfInBounds j true) a' w' hfree' (ready_mono hr (Ne.symm hji)) (h3.1.imp (fun ⟨q1, q2⟩ => ⟨q1, fun w => q2 w trivial⟩) id) h4
      · have h4 := h3.2.2 hjg
        refine ⟨h4.1, ih (listed.setIfInBounds j true) a' w' hfree' (ready_mono hr (Ne.symm hji)) h3.1 h4.1 ?_⟩
        rw [Array.setIfInBounds_comm _ _ hji]
        exact h4.2

theorem wpAnyG_pure {i : Nat} {oi : Oper} {v : Value} {fuel : Nat} {listed : Array Bool} {a : Act} {w : World} (hi : ops[i]? = some oi)
    (hs : (Region.noSelect ops && decide (i ≠ g) && Region.free md ops listed i && (Region.ready md ops listed).contains i) = true)
    (hQ : ∀ c a w, Q (.panic c) (a.put oi.dst v) w → Q (.panic c) a w) (hy : YieldsIf P ops (fun _ => True) oi v a) (hS : S w)
    (h : wpAnyG P md ops Q S g fuel (listed.setIfInBounds i true) (a.put oi.dst v) w) : wpAnyG P md ops Q S g (fuel + 1) listed a w := by
  simp only [Bool.and_eq_true, decide_eq_true_eq] at hs
  obtain ⟨⟨⟨h1, h4⟩, h5⟩, h6⟩ := hs
  exact wpAnyG_pure_first hi (Region.noSelect_spec h1) hQ h4 fuel listed a w (Region.free_spec hi h5) (by simpa using h6) hy hS h

/-- one operation that comes up -/
def StepG (P : Program) (ops : Array Oper) (Q : Exit → Act → World → Prop) (oj : Oper) (a : Act) (w : World) (R : Act → World → Prop) : Prop :=
  ∀ K : Act → World → Prop, (∀ a' w', R a' w' → K a' w') → if Region.wanted oj (yielded ops a.tmps) = true then Oper.wp P oj a w K Q else K (a.put oj.dst undef) w
theorem StepG.op {j : Nat} {oj : Oper} {a : Act} {w : World} {R : Act → World → Prop} (hj : ops[j]? = some oj) (h : StepG P ops Q oj a w R) : wpOp P ops Q j R a w := by
  have := h R fun _ _ h => h
  unfold wpOp
  simp only [hj]
  split
  · rename_i hw
    rw [if_pos hw] at this
    exact .inl this
  · rename_i hw
    rw [if_neg hw] at this
    exact this

theorem guard_one {j : Nat} {oj : Oper} {fuel : Nat} {listed : Array Bool} {a : Act} {w : World} (hj : ops[j]? = some oj) (hs : (decide (Region.ready md ops listed = [j]) && decide (j ≠ g)) = true)
    (h : StepG P ops Q oj a w fun a' w' => S w' ∧ wpAnyG P md ops Q S g fuel (listed.setIfInBounds j true) a' w') : wpAnyG P md ops Q S g (fuel + 1) listed a w := by
  simp only [Bool.and_eq_true, decide_eq_true_eq] at hs
  refine ⟨fun h0 => (by rw [hs.1] at h0; cases h0), fun i hi => ?_⟩
  rw [hs.1] at hi
  obtain rfl : i = j := by simpa using hi
  exact wpOp_mono (fun a' w' h' => ⟨fun e => absurd e hs.2, fun _ => h'⟩) (h.op hj)
theorem guard_two {j k : Nat} {oj ok : Oper} {fuel : Nat} {listed : Array Bool} {a : Act} {w : World} (hj : ops[j]? = some oj) (hk : ops[k]? = some ok) (hs : (decide (Region.ready md ops listed = [j, k]) && decide (j ≠ g) && decide (k ≠ g)) = true)
    (h : StepG P ops Q oj a w fun a' w' => S w' ∧ wpAnyG P md ops Q S g fuel (listed.setIfInBounds j true) a' w')
    (h' : StepG P ops Q ok a w fun a' w' => S w' ∧ wpAnyG P md ops Q S g fuel (listed.setIfInBounds k true) a' w') : wpAnyG P md ops Q S g (fuel + 1) listed a w := by
  simp only [Bool.and_eq_true, decide_eq_true_eq] at hs
  refine ⟨fun h0 => (by rw [hs.1.1] at h0; cases h0), fun i hi => ?_⟩
  rw [hs.1.1] at hi
  rcases List.mem_cons.1 hi with rfl | hi
  · exact wpOp_mono (fun a' w' h' => ⟨fun e => absurd e hs.1.2, fun _ => h'⟩) (h.op hj)
  · obtain rfl : i = k := by simpa using hi
    exact wpOp_mono (fun a' w' h' => ⟨fun e => absurd e hs.2, fun _ => h'⟩) (h'.op hk)
/-- the one till which S was asked -/
theorem guard_last {oj : Oper} {fuel : Nat} {listed : Array Bool} {a : Act} {w : World} (hj : ops[g]? = some oj) (hs : decide (Region.ready md ops listed = [g]) = true)
    (h : StepG P ops Q oj a w fun a' w' => wpAny P md ops Q fuel (listed.setIfInBounds g true) a' w') : wpAnyG P md ops Q S g (fuel + 1) listed a w := by
  simp only [decide_eq_true_eq] at hs
  refine ⟨fun h0 => (by rw [hs] at h0; cases h0), fun i hi => ?_⟩
  rw [hs] at hi
  obtain rfl : i = g := by simpa using hi
  exact wpOp_mono (fun a' w' h' => ⟨fun _ => h', fun e => absurd rfl e⟩) (h.op hj)
theorem any_one {j : Nat} {oj : Oper} {fuel : Nat} {listed : Array Bool} {a : Act} {w : World} (hj : ops[j]? = some oj) (hs : decide (Region.ready md ops listed = [j]) = true)
    (h : StepG P ops Q oj a w fun a' w' => wpAny P md ops Q fuel (listed.setIfInBounds j true) a' w') : wpAny P md ops Q (fuel + 1) listed a w := by
  simp only [decide_eq_true_eq] at hs
  refine ⟨fun h0 => (by rw [hs] at h0; cases h0), fun i hi => ?_⟩
  rw [hs] at hi
  obtain rfl : i = j := by simpa using hi
  exact h.op hj
theorem any_done {fuel : Nat} {listed : Array Bool} {a : Act} {w : World} (hs : decide (Region.ready md ops listed = []) = true) (h : Q .normal a w) : wpAny P md ops Q fuel listed a w := by
  simp only [decide_eq_true_eq] at hs
  cases fuel with
  | zero => exact ⟨hs, h⟩
  | succ n => exact ⟨fun _ => h, by rw [hs]; simp⟩

/-- THE BEGINNING -/
theorem wp_region_guard {id : Nat} {a : Act} {w : World} (g fuel : Nat) (S : World → Prop) (L : Array Bool) (hf : ops.size = fuel) (hL : Array.replicate ops.size false = L) (hm : P.follows .mixedOrders = true)
    (h : wpAnyG P .any ops Q S g fuel L a w.drew) : (Code.region id ops true).wp P Q a w := by
  subst hf hL
  exact wp_region_any hm (wpAny_of_guard _ _ _ _ h)
end
end Go.Proofs.YtdkdeiofjoccnaaGreat.Guard

/- stratalaw03.lend: a program in memory of its own, marks in the room behind its lists. -/
namespace Go.Proofs.YtdkdeiofjoccnaaGreat.Lit
open Go.RowKit Go.Proofs.YtdkdeiofjoccnaaGreat.Mem Go.Proofs.YtdkdeiofjoccnaaGreat.Ar Go.Proofs.YtdkdeiofjoccnaaGreat.Un
set_option linter.unusedVariables false
set_option maxRecDepth 100000

/-- of a size that can be walked -/
def Few (l : LP) : Prop := l.cells.length ≤ 1000000000000 ∧ l.threads.length ≤ 1000000000000 ∧ ∀ p ∈ l.threads, p.length ≤ 1000000000000
theorem Few.small {l : LP} (h : Few l) : Small l := ⟨Nat.le_trans h.1 (by omega), Nat.le_trans h.2.1 (by omega), fun p hp => Nat.le_trans (h.2.2 p hp) (by omega)⟩
section
variable {P : Program}
/-- a copy behind an empty list that lies somewhere -/
theorem run_copyG (wa : World) (t ty e : TypeId) (i : TypeInfo) (z : Value) (size bytes : Nat) (ht : P.underlying t = some (.slice e)) (hi : P.info? e = some i) (hz : i.zero = some z)
    (hsize : i.size = size) (hby : i.bytes = bytes) (hzs : z.cells.size = size) (hsz : 0 < size) (base gE : Nat) (hb : base ≤ gE) (hE : wa.heap[gE]? = some (.cells #[] e (0, 0))) (a : Option Addr) (m c : Nat) (xs : List Value) (hl : xs.length = m * size) (hs : Sees wa a xs) (h1 : ∀ u ∈ xs, u.oneCell' = true) (h63 : m ≤ maxLen) (hbytes : m * bytes ≤ 140737488355328) :
    ∃ a' c' w', (Builtin.append_ #[t, t] ty #[.slice (some ⟨gE, 0, none⟩) 0 0, .slice a m c]).run P wa = .ok (.slice a' m c') w' ∧ w'.ownsRow base e size (.slice a' m c') m xs ∧ Keep [gE] wa w' := by
  have hlt : gE < wa.heap.size := lt_of hE
  have ho : wa.ownsRow base e size (.slice (some ⟨gE, 0, none⟩) 0 0) 0 [] :=
    ⟨by simp, .inr ⟨gE, 0, _, rfl, hb, hE, Nat.le_refl _, by unfold maxLen; omega, by simp, by simp⟩⟩
  by_cases hm : m = 0
  · subst hm
    have hx : xs = [] := List.eq_nil_of_length_eq_zero (by simpa using hl)
    subst hx
    refine ⟨some ⟨gE, 0, none⟩, 0, wa, ?_, ho, Keep.refl _ _⟩
    cases a with
    | none => simp [Builtin.append_, run_underlying ht, sizeOf, typeInfo, hi, Builtin.lenOf, Builtin.firstCells, loadCells, loadCellsFrom, storeCells]
    | some a => simp [Builtin.append_, run_underlying ht, sizeOf, typeInfo, hi, Builtin.lenOf, Builtin.firstCells, loadCells, loadCellsFrom, storeCells]
  · have hpos : 0 < xs.length := by rw [hl]; exact Nat.mul_pos (by omega) hsz
    obtain ⟨g, o, rfl, -⟩ := hs.at_ 0 hpos
    have hnews : ∀ j u, xs[j]? = some u → wa.cell? ((⟨g, o, none⟩ : Addr).add j) = some u := by
      intro j u hu
      obtain ⟨hj, rfl⟩ := List.getElem?_eq_some_iff.1 hu
      obtain ⟨g', o', e', cc⟩ := hs.at_ j hj
      simp only [Option.some.injEq, Addr.mk.injEq, and_true] at e'
      obtain ⟨rfl, rfl⟩ := e'
      have hadd : (⟨g, o, none⟩ : Addr).add j = ⟨g, o + j, none⟩ := by unfold Addr.add; split <;> simp_all
      rw [hadd, cc]
    obtain ⟨g', cap, w', hr, h2, h3, h4, h5⟩ := run_append_lies (P := P) wa t ty base e i z size bytes ht hi hz hsize hby hzs hsz (.slice (some ⟨gE, 0, none⟩) 0 0) 0 [] ho ⟨g, o, none⟩ m c xs hl hnews h1 (by omega) (by omega) (by rw [Nat.zero_add]; exact hbytes) (by omega) wa.heap.size rfl
    rw [Nat.zero_add] at hr h2
    rw [List.nil_append] at h2
    exact ⟨_, _, w', hr, h2, h3.os, h3.tape, h3.output, h3.size, fun k hk hn => h3.block k hk (by simp [Value.ownBlock] at hn ⊢; exact fun e => hn e)⟩

/-- at a step of a region that draws -/
theorem step_copyG {wa : World} {ops : Array Oper} {o : Oper} {act : Act} {K : Act → World → Prop} {Q : Exit → Act → World → Prop} {E : Prop} (hgd : o.guard = none) (x y : Operand) (t : TypeId)
    (ho : o.op = .call { callee := .builtin .append, args := #[x, y], argTypes := #[t, t] })
    (e : TypeId) (i : TypeInfo) (z : Value) (size bytes : Nat) (ht : P.underlying t = some (.slice e)) (hi : P.info? e = some i) (hz : i.zero = some z)
    (hsize : i.size = size) (hby : i.bytes = bytes) (hzs : z.cells.size = size) (hsz : 0 < size) (base gE : Nat) (hb : base ≤ gE) (hE : wa.heap[gE]? = some (.cells #[] e (0, 0))) (hx : act.eval x = .slice (some ⟨gE, 0, none⟩) 0 0) (a : Option Addr) (m c : Nat) (xs : List Value) (hy : act.eval y = .slice a m c) (hl : xs.length = m * size) (hs : Sees wa a xs) (h1 : ∀ u ∈ xs, u.oneCell' = true) (h63 : m ≤ maxLen) (hbytes : m * bytes ≤ 140737488355328)
    (hk : ∀ a' c' w', w'.ownsRow base e size (.slice a' m c') m xs → Keep [gE] wa w' → K (act.put o.dst (.slice a' m c')) w') :
    if Region.wanted o (yielded ops act.tmps) = true then Oper.wp P o act wa K Q else E := by
  have hw : Region.wanted o (yielded ops act.tmps) = true := by simp [Region.wanted, hgd]
  rw [if_pos hw]
  obtain ⟨a', c', w', hr, h2, h3⟩ := run_copyG (P := P) wa t o.type e i z size bytes ht hi hz hsize hby hzs hsz base gE hb hE a m c xs hl hs h1 h63 hbytes
  unfold Oper.wp execOp
  simp only [ho, resolve, invoke, builtin, Sem.run_bind, Sem.run_pure, Result.andThen_ok, List.map_toArray, List.map_cons, List.map_nil, hx, hy, hr]
  exact hk a' c' w' h2 h3
end

/-- the marks -/
def i77 : Ins := ⟨77, 0, 0, 0, 0, 0, 0, 0⟩
def i78 : Ins := ⟨78, 0, 0, 0, 0, 0, 0, 0⟩
def i79 : Ins := ⟨79, 0, 0, 0, 0, 0, 0, 0⟩
/-- slices over blocks, d longer than the lists -/
def rowS (d : Nat) : List (List Ins) → List (Nat × Nat) → List Value
  | p :: ls, b :: bs => .slice (some ⟨b.1, 0, none⟩) (p.length + d) b.2 :: rowS d ls bs
  | _, _ => []
theorem rowS_len (d : Nat) : ∀ (ls : List (List Ins)) (bs : List (Nat × Nat)), bs.length = ls.length → (rowS d ls bs).length = ls.length
  | [], [], _ => rfl
  | p :: ls, b :: bs, h => by simp [rowS, rowS_len d ls bs (by simpa using h)]
  | [], b :: bs, h => by simp at h
  | p :: ls, [], h => by simp at h
theorem rowS_at (d : Nat) : ∀ (ls : List (List Ins)) (bs : List (Nat × Nat)) (i : Nat) (h1 : i < ls.length) (h2 : i < bs.length), (rowS d ls bs)[i]? = some (.slice (some ⟨bs[i].1, 0, none⟩) (ls[i].length + d) bs[i].2)
  | p :: ls, b :: bs, 0, _, _ => rfl
  | p :: ls, b :: bs, i + 1, h1, h2 => by
    show (rowS d ls bs)[i]? = _
    rw [rowS_at d ls bs i (by simpa using h1) (by simpa using h2)]
    rfl
  | [], _, i, h1, _ => by simp at h1
  | _ :: _, [], i, _, h2 => by simp at h2
theorem rowS_snoc (d : Nat) : ∀ (ls : List (List Ins)) (bs : List (Nat × Nat)) (p : List Ins) (b : Nat × Nat), bs.length = ls.length → rowS d (ls ++ [p]) (bs ++ [b]) = rowS d ls bs ++ [.slice (some ⟨b.1, 0, none⟩) (p.length + d) b.2]
  | [], [], p, b, _ => rfl
  | q :: ls, c :: bs, p, b, h => by
    show _ :: rowS d (ls ++ [p]) (bs ++ [b]) = _ :: _
    rw [rowS_snoc d ls bs p b (by simpa using h)]
    rfl
  | [], b :: bs, _, _, h => by simp at h
  | p :: ls, [], _, _, h => by simp at h

/-- programs that are lent, one behind the other -/
structure LendRow (w : World) (base : Nat) (tv : Value) (ls : List (List Ins)) (bs : List (Nat × Nat)) : Prop where
  len : bs.length = ls.length
  row : w.ownsRow base 93 1 tv ls.length (rowS 2 ls bs)
  each : ∀ i (h1 : i < bs.length) (h2 : i < ls.length), w.ownsRow base 140 8 (.slice (some ⟨bs[i].1, 0, none⟩) (ls[i].length + 2) bs[i].2) (ls[i].length + 2) (flatI (ls[i] ++ [i77, i78]))
  nd : (bs.map Prod.fst).Nodup

theorem LendRow.zero (w : World) (base : Nat) : LendRow w base (.slice none 0 0) [] [] := ⟨rfl, World.ownsRow_nil _ _ _ _, fun i h => absurd h (Nat.not_lt_zero _), List.nodup_nil⟩
theorem LendRow.keep {w w' : World} {base : Nat} {tv : Value} {ls : List (List Ins)} {bs : List (Nat × Nat)} (h : LendRow w base tv ls bs) {T : List Nat} (k : Keep T w w') (hT : ∀ x ∈ T, x < base) : LendRow w' base tv ls bs := by
  have key : ∀ {e : TypeId} {size : Nat} {v : Value} {n : Nat} {xs : List Value}, w.ownsRow base e size v n xs → w'.ownsRow base e size v n xs := fun ho =>
    Har.owns_block ho fun g hg => k.block g (ho.lt g hg).2 fun hm => by have := hT g hm; have := (ho.lt g hg).1; omega
  exact ⟨h.len, key h.row, fun i h1 h2 => key (h.each i h1 h2), h.nd⟩
theorem LendRow.mono {w : World} {base base' : Nat} {tv : Value} {ls : List (List Ins)} {bs : List (Nat × Nat)} (h : LendRow w base tv ls bs) (hb : base' ≤ base) : LendRow w base' tv ls bs :=
  ⟨h.len, Pick.owns_mono h.row hb, fun i h1 h2 => Pick.owns_mono (h.each i h1 h2) hb, h.nd⟩
theorem LendRow.snoc {w wx w8 : World} {base : Nat} {tv : Value} {ls : List (List Ins)} {bs : List (Nat × Nat)} (h : LendRow w base tv ls bs) (k : Keep [] w wx) {g7 c7 : Nat} {p : List Ins}
    (h7 : wx.ownsRow w.heap.size 140 8 (.slice (some ⟨g7, 0, none⟩) (p.length + 2) c7) (p.length + 2) (flatI (p ++ [i77, i78]))) (hb : base ≤ w.heap.size) {g8 cap8 : Nat}
    (hown : w8.ownsRow base 93 1 (.slice (some ⟨g8, 0, none⟩) (ls.length + 1) cap8) (ls.length + 1) (rowS 2 ls bs ++ [.slice (some ⟨g7, 0, none⟩) (p.length + 2) c7]))
    (hg : wx.grownBy w8 tv.ownBlock) (hat : tv.ownBlock = some g8 ∨ g8 = wx.heap.size) : LendRow w8 base (.slice (some ⟨g8, 0, none⟩) (ls.length + 1) cap8) (ls ++ [p]) (bs ++ [(g7, c7)]) := by
  have hl := h.len
  have l7 := h7.lt g7 rfl
  have tvne : ∀ {e : TypeId} {size : Nat} {v : Value} {n : Nat} {xs : List Value}, e ≠ 93 → w.ownsRow base e size v n xs → ∀ g, v.ownBlock = some g → some g ≠ tv.ownBlock := by
    intro e size v n xs he ho g hg' e2
    rcases ho.2 with ⟨e1, -⟩ | ⟨g', cap, cur, e1, -, hgg, -⟩
    · rw [e1] at hg'; simp [Value.ownBlock] at hg'
    · rw [e1] at hg'
      obtain rfl : g' = g := by simpa [Value.ownBlock] using hg'
      rcases h.row.2 with ⟨e3, -⟩ | ⟨g3, cap3, cur3, e3, -, hg3, -⟩
      · rw [e3] at e2; simp [Value.ownBlock] at e2
      · rw [e3] at e2
        obtain rfl : g' = g3 := by simpa [Value.ownBlock] using e2
        rw [hgg] at hg3
        simp only [Option.some.injEq, Obj.cells.injEq] at hg3
        exact he hg3.2.1
  refine ⟨by simp [hl], ?_, fun i h1 h2 => ?_, ?_⟩
  · rw [rowS_snoc 2 ls bs p (g7, c7) hl, List.length_append, List.length_singleton]
    exact hown
  · by_cases hi : i < bs.length
    · have hi2 : i < ls.length := by omega
      have e := h.each i hi hi2
      simp only [List.getElem_append_left hi, List.getElem_append_left hi2]
      refine Har.owns_block e fun g hg' => ?_
      exact (hg.block g (Nat.lt_of_lt_of_le (e.lt g hg').2 k.size) (tvne (by decide) e g hg')).trans (k.block g (e.lt g hg').2 (by simp))
    · have hib : i = bs.length := by simp at h1; omega
      subst hib
      have e1 : (bs ++ [(g7, c7)])[bs.length]'h1 = (g7, c7) := by simp
      have e2 : (ls ++ [p])[bs.length]'h2 = p := by simp [hl]
      rw [e1, e2]
      refine Pick.owns_mono (Har.owns_block h7 fun g hg' => hg.block g (h7.lt g hg').2 fun e3 => ?_) hb
      have := (h7.lt g hg').1
      have := (h.row.lt g e3.symm).2
      omega
  · rw [List.map_append, List.nodup_append]
    refine ⟨h.nd, by simp, fun x hx y hy => ?_⟩
    simp only [List.map_cons, List.map_nil, List.mem_singleton] at hy
    obtain ⟨b, hb', rfl⟩ := List.mem_map.1 hx
    obtain ⟨i, hi, rfl⟩ := List.getElem_of_mem hb'
    have q : bs[i].1 < w.heap.size := ((h.each i hi (by omega)).lt _ rfl).2
    omega
end Go.Proofs.YtdkdeiofjoccnaaGreat.Lit

/- stratalaw03.lend: the walk. -/
namespace Go.Proofs.YtdkdeiofjoccnaaGreat.Lit
open Go.RowKit Go.Proofs.YtdkdeiofjoccnaaGreat.Mem Go.Proofs.YtdkdeiofjoccnaaGreat.Ar Go.Proofs.YtdkdeiofjoccnaaGreat.Un
set_option linter.unusedVariables false
set_option linter.unusedSimpArgs false
set_option maxRecDepth 100000

/-- a lent program as it lies -/
structure LentAt (w : World) (base : Nat) (gC cC gA cA g79 : Nat) (tT : Value) (bs : List (Nat × Nat)) (l : LP) : Prop where
  cells : w.ownsRow base 75 1 (.slice (some ⟨gC, 0, none⟩) (l.cells.length + 2) cC) (l.cells.length + 2) ((l.cells ++ [771, 772]).map (.int .u64))
  ths : LendRow w base tT l.threads bs
  all : w.ownsRow base 93 1 (.slice (some ⟨gA, 0, none⟩) (l.threads.length + 1) cA) (l.threads.length + 1) (rowS 0 l.threads bs ++ [.slice (some ⟨g79, 0, none⟩) 1 1])
  mark : w.heap[g79]? = some (.cells i79.cells.toArray 140 (0, 0)) ∧ base ≤ g79
/-- .. as a value -/
def lentV (gC cC gA cA : Nat) (tT : Value) (l : LP) : Value :=
  .agg #[.slice (some ⟨gC, 0, none⟩) l.cells.length cC, .slice (some ⟨gA, 0, none⟩) l.threads.length cA, .slice (some ⟨gC, 0, none⟩) (l.cells.length + 2) cC, tT, .slice (some ⟨gA, 0, none⟩) (l.threads.length + 1) cA]

theorem new2 (w : World) (o o' : Obj) : ((w.alloc o).alloc o').heap[w.heap.size + 1]? = some o' := by
  have := alloc_new (w.alloc o) o'
  rw [World.size_alloc] at this
  exact this
theorem one_two : ∀ u ∈ [Value.int .u64 771, .int .u64 772], u.oneCell' = true := by simp [Value.oneCell']

/-- a block of five, all cells written -/
theorem five_set {w : World} {b : Nat} {x0 x1 x2 x3 x4 : Value} {t : TypeId} (h : w.heap[b]? = some (.cells #[x0, x1, x2, x3, x4] t (0, 0))) (u0 u1 u2 u3 u4 : Value) :
    (((((w.setCell ⟨b, 0, none⟩ u0).setCell ⟨b, 1, none⟩ u1).setCell ⟨b, 2, none⟩ u2).setCell ⟨b, 3, none⟩ u3).setCell ⟨b, 4, none⟩ u4).heap[b]? = some (.cells #[u0, u1, u2, u3, u4] t (0, 0)) ∧
    Keep [b] w (((((w.setCell ⟨b, 0, none⟩ u0).setCell ⟨b, 1, none⟩ u1).setCell ⟨b, 2, none⟩ u2).setCell ⟨b, 3, none⟩ u3).setCell ⟨b, 4, none⟩ u4) := by
  refine ⟨?_, (((((Keep.refl _ _).set (.inl (by simp)) _ _).set (.inl (by simp)) _ _).set (.inl (by simp)) _ _).set (.inl (by simp)) _ _).set (.inl (by simp)) _ _⟩
  rw [set_same (set_same (set_same (set_same (set_same h 0 u0) 1 u1) 2 u2) 3 u3) 4 u4]
  rfl

set_option maxHeartbeats 8000000 in
theorem lend (l : LP) (hs : l.cells.length ≤ 1000000000000 ∧ l.threads.length ≤ 1000000000000 ∧ ∀ p ∈ l.threads, p.length ≤ 1000000000000) {cv tv : Value} (w : World) (h : LitAt w cv tv l) :
    Calls Tryz.prog 14 #[.agg #[cv, tv]] w fun e w' => ∃ gC cC gA cA g79 tT bs, e = .returned (lentV gC cC gA cA tT l) ∧ LentAt w' w.heap.size gC cC gA cA g79 tT bs l ∧ Keep [] w w' := by
  obtain ⟨⟨a, c, rfl, s⟩, ⟨a2, c2, ps, rfl, e3, s2, s3⟩⟩ := h
  obtain ⟨nc, hnc⟩ : ∃ n, n = l.cells.length := ⟨_, rfl⟩
  obtain ⟨nt, hnt⟩ : ∃ n, n = l.threads.length := ⟨_, rfl⟩
  have HN := Lib.hid (And.intro hnc hnt)
  have HS := Lib.hid hs
  have S2 := Lib.hid s2
  have S3 := Lib.hid (And.intro e3 s3)
  obtain ⟨w1, hw1⟩ : ∃ w1, w1 = ((w.alloc (.cells #[.slice a nc c, .slice a2 nt c2] 25)).alloc (.cells #[.slice none 0 0, .slice none 0 0, .slice none 0 0, .slice none 0 0, .slice none 0 0] 59)).alloc (.cells #[.slice none 0 0, .slice none 0 0, .slice none 0 0, .slice none 0 0, .slice none 0 0] 59) := ⟨_, rfl⟩
  have k1 : Keep [] w w1 := by rw [hw1]; exact (((Keep.refl _ _).alloc _).alloc _).alloc _
  have b1 : w1.heap[w.heap.size]? = some (.cells #[.slice a nc c, .slice a2 nt c2] 25 (0, 0)) := by rw [hw1]; exact alloc_some _ (alloc_some _ (alloc_new w _))
  have e1 : w1.heap.size = w.heap.size + 3 := by rw [hw1]; simp
  have r1 : w1.heap[w.heap.size + 1]? = some (.cells #[.slice none 0 0, .slice none 0 0, .slice none 0 0, .slice none 0 0, .slice none 0 0] 59 (0, 0)) := by
    rw [hw1]
    have := alloc_new (w.alloc (.cells #[.slice a nc c, .slice a2 nt c2] 25)) (.cells #[.slice none 0 0, .slice none 0 0, .slice none 0 0, .slice none 0 0, .slice none 0 0] 59)
    rw [World.size_alloc] at this
    exact alloc_some _ this
  have v1 : w1.heap[w.heap.size + 2]? = some (.cells #[.slice none 0 0, .slice none 0 0, .slice none 0 0, .slice none 0 0, .slice none 0 0] 59 (0, 0)) := by
    rw [hw1]
    have := alloc_new ((w.alloc (.cells #[.slice a nc c, .slice a2 nt c2] 25)).alloc (.cells #[.slice none 0 0, .slice none 0 0, .slice none 0 0, .slice none 0 0, .slice none 0 0] 59)) (.cells #[.slice none 0 0, .slice none 0 0, .slice none 0 0, .slice none 0 0, .slice none 0 0] 59)
    rw [World.size_alloc, World.size_alloc] at this
    exact this
  have hnc12 : nc ≤ 1000000000000 := by rw [hnc]; exact hs.1
  have hnt12 : nt ≤ 1000000000000 := by rw [hnt]; exact hs.2.1
  have W1 := Lib.hid hw1
  have K1 := Lib.hid k1
  have B1 := Lib.hid (And.intro b1 (And.intro r1 (And.intro v1 e1)))
  have SC := Lib.hid (s.keep0 k1)
  have d1 := Lib.hid (show (l.cells.map (Value.int .u64)).length = nc * 1 by rw [List.length_map, Nat.mul_one, hnc])
  have d2 := Lib.hid (one_nums l.cells)
  obtain ⟨i0, hi0, hz0, hz1, hz2⟩ := info_parts infoW64
  have HI := Lib.hid hi0
  have HZ := Lib.hid (And.intro hz0 (And.intro hz1 hz2))
  rw [← hnc, ← hnt]
  have hlb := b1
  have y0 : w1.cell? ⟨w.heap.size, 0, none⟩ = some (.slice a nc c) := (cell_of b1 0).trans rfl
  clear hw1 hs s s2 e3 s3 hnc hnt k1 b1 r1 v1 e1 hi0 hz0 hz1 hz2 hlb
  go_enter Tryz.func14, Tryz.ntmps14
  go_wp2_with (at_builtin; refine wpList_copyE (w := w1) rfl _ _ 22 rfl 75 i0 _ 1 8 Tryz.underlying22 HI.out HZ.out.1 HZ.out.2.1 HZ.out.2.2 rfl (by decide) (by rw [W1.out]) (by rw [W1.out]; simp; rfl) a nc c (l.cells.map (.int .u64)) rfl d1.out SC.out d2.out (by unfold maxLen; omega) (by omega) ?_)
  intro a7 c7 w2 hc
  have C2 := Lib.hid hc.own
  have K2 := Lib.hid hc.keep
  clear hc y0
  have N2 := Lib.hid (alloc_new w2 (.cells #[.int .u64 771, .int .u64 772] 75))
  have d3 := Lib.hid (show nc + 2 ≤ maxLen by unfold maxLen; omega)
  have d4 := Lib.hid (show (nc + 2) * 8 ≤ 140737488355328 by omega)
  have d5 := Lib.hid (show w1.heap.size ≤ (w2.alloc (.cells #[.int .u64 771, .int .u64 772] 75)).heap.size by have := K2.out.size; simp; omega)
  go_wp2_with (at_builtin; refine wpList_append_lies _ rfl _ _ 22 rfl w1.heap.size 75 i0 _ 1 8 Tryz.underlying22 HI.out HZ.out.1 HZ.out.2.1 HZ.out.2.2 rfl (by decide) (.slice a7 nc c7) nc (l.cells.map (.int .u64)) rfl (C2.out.alloc _) ⟨w2.heap.size, 0, none⟩ 2 2 [.int .u64 771, .int .u64 772] rfl rfl (World.news_of_block (cs := #[.int .u64 771, .int .u64 772]) (fr := (0, 0)) N2.out) one_two (by decide) d3.out d4.out d5.out _ rfl ?_)
  intro gC cC w3 hown3 hgrow3 hat3 hlt3
  obtain ⟨lb, hlb⟩ : ∃ lb, lb = w.heap.size := ⟨_, rfl⟩
  obtain ⟨rb, hrb⟩ : ∃ rb, rb = w.heap.size + 1 := ⟨_, rfl⟩
  obtain ⟨vb, hvb⟩ : ∃ vb, vb = w.heap.size + 1 + 1 := ⟨_, rfl⟩
  have hk3 : Keep [] w1 w3 := (K2.out.alloc _).chain (T := (Value.slice a7 nc c7).ownBlock.toList) ⟨hgrow3.os, hgrow3.tape, hgrow3.output, hgrow3.size, fun i hi hn => hgrow3.block i hi fun e => hn (by rw [← e]; simp)⟩ fun x hx => .inr (C2.out.lt x (by simpa using hx)).1
  have K3 := Lib.hid hk3
  have O3 := Lib.hid hown3
  rw [← hvb, ← hrb, ← hlb]
  have HB := Lib.hid (And.intro hlb (And.intro hrb hvb))
  have v3 : w3.heap[vb]? = some (.cells #[.slice none 0 0, .slice none 0 0, .slice none 0 0, .slice none 0 0, .slice none 0 0] 59 (0, 0)) := by rw [hvb]; exact hk3.old B1.out.2.2.1 (by simp)
  have l3 : w3.heap[lb]? = some (.cells #[.slice a nc c, .slice a2 nt c2] 25 (0, 0)) := by rw [hlb]; exact hk3.old B1.out.1 (by simp)
  have V3 := Lib.hid v3
  have L3 := Lib.hid l3
  have x1 := (cell_of v3 2).trans rfl
  have x2 := free_of v3 2
  clear hown3 hgrow3 hat3 v3 l3 hk3 hlb hrb hvb
  go_wp2_with fail
  obtain ⟨w4, hw4⟩ : ∃ w4, w4 = w3.setCell ⟨vb, 2, none⟩ (.slice (some ⟨gC, 0, none⟩) (nc + 2) cC) := ⟨_, rfl⟩
  have vlt : vb < w1.heap.size := by have := HB.out.2.2; have := B1.out.2.2.2; omega
  have V4 := Lib.hid (show w4.heap[vb]? = some (.cells #[.slice none 0 0, .slice none 0 0, .slice (some ⟨gC, 0, none⟩) (nc + 2) cC, .slice none 0 0, .slice none 0 0] 59 (0, 0)) by rw [hw4, set_same V3.out]; rfl)
  have L4 := Lib.hid (show w4.heap[lb]? = some (.cells #[.slice a nc c, .slice a2 nt c2] 25 (0, 0)) by rw [hw4]; exact (set_other (by have := HB.out; omega) _ _).trans L3.out)
  have K4 := Lib.hid (show Keep [vb] w1 w4 by rw [hw4]; exact (K3.out.mono (by simp)).set (.inl (by simp)) _ _)
  have O4 := Lib.hid (show w4.ownsRow w1.heap.size 75 1 (.slice (some ⟨gC, 0, none⟩) (nc + 2) cC) (nc + 2) ((l.cells ++ [771, 772]).map (.int .u64)) by
    rw [hw4, List.map_append]
    exact Har.owns_block O3.out fun x hx => set_other (by have := (O3.out.lt x hx).1; omega) _ _)
  rw [← hw4]
  have VLT := Lib.hid vlt
  clear hw4 x1 x2 vlt
  obtain ⟨iS, hiS, hzS0, hzS1, hzS2⟩ := info_parts infoIs
  have HIS := Lib.hid hiS
  have HZS := Lib.hid (And.intro hzS0 (And.intro hzS1 hzS2))
  obtain ⟨iI, hiI, hzI0, hzI1, hzI2⟩ := info_parts infoInstr
  have HII := Lib.hid hiI
  have HZI := Lib.hid (And.intro hzI0 (And.intro hzI1 hzI2))
  have hvl : vb ≠ lb := by have := HB.out; omega
  have V4L := Lib.hid (lt_of V4.out)
  clear hiS hzS0 hzS1 hzS2 hiI hzI0 hzI1 hzI2
  go_loopw [4] (fun i wr => ∃ (k : Nat) (tv2 : Value) (bs : List (Nat × Nat)), i = .int .i64 k ∧ k ≤ nt ∧ wr.heap[vb]? = some (.cells #[.slice none 0 0, .slice none 0 0, .slice (some ⟨gC, 0, none⟩) (nc + 2) cC, tv2, .slice none 0 0] 59 (0, 0)) ∧ LendRow wr w4.heap.size tv2 (l.threads.take k) bs ∧ Keep [vb] w4 wr) (fun i _ => nt - (intOf i).toNat)
  case atStart => exact ⟨0, _, [], rfl, Nat.zero_le _, V4.out, LendRow.zero _ _, Keep.refl _ _⟩
  case round =>
    obtain ⟨k, tv2, bs, rfl, hk, hV, hR, hK⟩ := hrel
    have VR := Lib.hid hV
    have RR := Lib.hid hR
    have KR := Lib.hid hK
    have hlb : wr.heap[lb]? = some (.cells #[.slice a nc c, .slice a2 nt c2] 25 (0, 0)) := hK.old L4.out (by simp; exact hvl.symm)
    have m1 := (cell_of hlb 1).trans rfl
    have klw : Keep [vb] w wr := (K1.out.mono (by simp)).trans (K4.out.trans hK)
    have klw0 : Keep [] w wr := ⟨klw.os, klw.tape, klw.output, klw.size, fun i hi _ => klw.block i hi (by have := HB.out.2.2; simp; omega)⟩
    by_cases hlt : k < nt
    · have hkt : k < l.threads.length := by have := HN.out.2; omega
      have hkp : k < ps.length := by rw [S3.out.1]; exact hkt
      obtain ⟨g, o, rfl, x00⟩ := S2.out.at_ k hkp
      have hgw : g < w.heap.size := World.block_lt_of_cell? w _ x00
      have x0 := klw0.cell x00 (by simp)
      obtain ⟨a', c', he, s4⟩ := S3.out.2 k hkp hkt
      rw [he] at x0
      obtain ⟨p, hp⟩ : ∃ p, p = l.threads[k] := ⟨_, rfl⟩
      rw [← hp] at x0 s4
      have hpn : p.length ≤ 1000000000000 := by rw [hp]; exact HS.out.2.2 _ (List.getElem_mem hkt)
      obtain ⟨np, hnp⟩ : ∃ n, n = p.length := ⟨_, rfl⟩
      rw [← hnp] at x0 hpn
      have S4 := Lib.hid (s4.keep0 klw0)
      have htk : l.threads.take (k + 1) = l.threads.take k ++ [p] := by rw [List.take_succ_eq_append_getElem hkt, hp]
      have HTK := Lib.hid htk
      have HNP := Lib.hid hnp
      have hlk : (l.threads.take k).length = k := by rw [List.length_take]; omega
      have HLK := Lib.hid hlk
      obtain ⟨va, vc, hf⟩ : ∃ a c, tv2 = .slice a k c := by
        rcases hR.row.2 with ⟨e, h0⟩ | ⟨g, cap, cur, e, -⟩
        · exact ⟨none, 0, by rw [e, ← hlk, h0]⟩
        · exact ⟨_, _, by rw [e, hlk]⟩
      subst hf
      have z1 := (cell_of VR.out 3).trans rfl
      have q1 := Lib.hid (show (flatI p).length = np * 8 by rw [flatI_length, ← hnp])
      have q2 := Lib.hid (flatI_one p)
      have q3 := Lib.hid (show k + 1 ≤ maxLen by unfold maxLen; omega)
      have q4 := Lib.hid (show (k + 1) * 24 ≤ 140737488355328 by omega)
      have q5 := Lib.hid (show np + 2 ≤ maxLen by unfold maxLen; omega)
      have q6 := Lib.hid (show (np + 2) * 64 ≤ 140737488355328 by omega)
      have q7 := Lib.hid (flatI_one [i77, i78])
      have q8 := Lib.hid (show np ≤ maxLen by unfold maxLen; omega)
      have q9 := Lib.hid (show np * 64 ≤ 140737488355328 by omega)
      have rrow := hR.row
      rw [hlk] at rrow
      have RW := Lib.hid rrow
      have WL := Lib.hid (show w4.heap.size ≤ wr.heap.size from hK.size)
      have hsz : Hid (vb < wr.heap.size) := Lib.hid (lt_of VR.out)
      have hgv : vb ≠ g := by have := HB.out.2.2; omega
      have HGV := Lib.hid hgv
      have hll : Hid (lb < wr.heap.size ∧ g < wr.heap.size ∧ some lb ≠ (Value.slice va k vc).ownBlock ∧ some g ≠ (Value.slice va k vc).ownBlock) := Lib.hid ⟨lt_of hlb, Nat.lt_of_lt_of_le hgw klw0.size, (fun e => by have h1 := (RW.out.lt lb e.symm).1; have h2 := lt_of L4.out; omega), fun e => by have h1 := (RW.out.lt g e.symm).1; have h2 := K1.out.size; have h3 := K4.out.size; omega⟩
      have hvo : Hid (some vb ≠ (Value.slice va k vc).ownBlock) := Lib.hid (fun e => by have h1 := (RW.out.lt vb e.symm).1; have h2 := V4L.out; omega)
      clear hkt hkp he hp s4 hnp htk hR hV hK hlk rrow klw klw0 hlb hgw x00
      go_upto_block 1 with fail
      go_cut [4] (fun v4 wx => v4 = .int .i64 k ∧ ∃ (tv2 : Value) (bs : List (Nat × Nat)), wx.heap[vb]? = some (.cells #[.slice none 0 0, .slice none 0 0, .slice (some ⟨gC, 0, none⟩) (nc + 2) cC, tv2, .slice none 0 0] 59 (0, 0)) ∧ LendRow wx w4.heap.size tv2 (l.threads.take (k + 1)) bs ∧ Keep [vb] w4 wx)
      case first =>
        go_wp2_with fail
        have SOF : ∀ W, Keep [] wr W → W.cell? ⟨lb, 1, none⟩ = some (.slice (some ⟨g, o, none⟩) nt c2) ∧ W.cell? ⟨g, o + k, none⟩ = some (.slice a' np c') ∧ W.cell? ⟨vb, 3, none⟩ = some (.slice va k vc) := fun W kW => ⟨(kW.cell m1 (by simp)).trans rfl, kW.cell x0 (by simp), (kW.cell z1 (by simp)).trans rfl⟩
        refine Guard.wp_region_guard 14 17 (fun W => W.cell? ⟨lb, 1, none⟩ = some (.slice (some ⟨g, o, none⟩) nt c2) ∧ W.cell? ⟨g, o + k, none⟩ = some (.slice a' np c') ∧ W.cell? ⟨vb, 3, none⟩ = some (.slice va k vc)) #[false, false, false, false, false, false, false, false, false, false, false, false, false, false, false, false, false] rfl rfl (by kernel_rfl) ?_
        have hS0 := SOF wr.drew (Keep.refl [] wr).drew
        refine Guard.wpAnyG_take (i := 0) (oi := _) (v := ?v0) rfl (by kernel_rfl) (fun _ _ _ h => h) (Or.inl ⟨by rfl, ?hy0⟩) hS0 ?rest0
        case hy0 => intro w hSw; obtain ⟨s1, s2, s3⟩ := hSw; go_simp; with_reducible rfl
        simp only [Act.put, List.setIfInBounds_toArray, List.set_cons_zero, List.set_cons_succ]
        refine Guard.wpAnyG_take (i := 1) (oi := _) (v := ?v1) rfl (by kernel_rfl) (fun _ _ _ h => h) (Or.inl ⟨by rfl, ?hy1⟩) hS0 ?rest1
        case hy1 => intro w hSw; obtain ⟨s1, s2, s3⟩ := hSw; go_simp; with_reducible rfl
        simp only [Act.put, List.setIfInBounds_toArray, List.set_cons_zero, List.set_cons_succ]
        refine Guard.wpAnyG_take (i := 3) (oi := _) (v := ?v3) rfl (by kernel_rfl) (fun _ _ _ h => h) (Or.inl ⟨by rfl, ?hy3⟩) hS0 ?rest3
        case hy3 => intro w hSw; obtain ⟨s1, s2, s3⟩ := hSw; go_simp; with_reducible rfl
        simp only [Act.put, List.setIfInBounds_toArray, List.set_cons_zero, List.set_cons_succ]
        refine Guard.wpAnyG_take (i := 4) (oi := _) (v := ?v4) rfl (by kernel_rfl) (fun _ _ _ h => h) (Or.inl ⟨by rfl, ?hy4⟩) hS0 ?rest4
        case hy4 => intro w hSw; obtain ⟨s1, s2, s3⟩ := hSw; go_simp; with_reducible rfl
        simp only [Act.put, List.setIfInBounds_toArray, List.set_cons_zero, List.set_cons_succ]
        refine Guard.wpAnyG_take (i := 5) (oi := _) (v := ?v5) rfl (by kernel_rfl) (fun _ _ _ h => h) (Or.inl ⟨by rfl, ?hy5⟩) hS0 ?rest5
        case hy5 => intro w hSw; obtain ⟨s1, s2, s3⟩ := hSw; go_simp; with_reducible rfl
        simp only [Act.put, List.setIfInBounds_toArray, List.set_cons_zero, List.set_cons_succ]
        refine Guard.wpAnyG_take (i := 6) (oi := _) (v := ?v6) rfl (by kernel_rfl) (fun _ _ _ h => h) (Or.inl ⟨by rfl, ?hy6⟩) hS0 ?rest6
        case hy6 => intro w hSw; obtain ⟨s1, s2, s3⟩ := hSw; go_simp; with_reducible rfl
        simp only [Act.put, List.setIfInBounds_toArray, List.set_cons_zero, List.set_cons_succ]
        refine Guard.wpAnyG_take (i := 7) (oi := _) (v := ?v7) rfl (by kernel_rfl) (fun _ _ _ h => h) (Or.inl ⟨by rfl, ?hy7⟩) hS0 ?rest7
        case hy7 => intro w hSw; obtain ⟨s1, s2, s3⟩ := hSw; go_simp; with_reducible rfl
        simp only [Act.put, List.setIfInBounds_toArray, List.set_cons_zero, List.set_cons_succ]
        refine Guard.wpAnyG_take (i := 9) (oi := _) (v := ?v9) rfl (by kernel_rfl) (fun _ _ _ h => h) (Or.inl ⟨by rfl, ?hy9⟩) hS0 ?rest9
        case hy9 => intro w hSw; obtain ⟨s1, s2, s3⟩ := hSw; go_simp; with_reducible rfl
        simp only [Act.put, List.setIfInBounds_toArray, List.set_cons_zero, List.set_cons_succ]
        refine Guard.wpAnyG_take (i := 10) (oi := _) (v := ?v10) rfl (by kernel_rfl) (fun _ _ _ h => h) (Or.inl ⟨by rfl, ?hy10⟩) hS0 ?rest10
        case hy10 => intro w hSw; obtain ⟨s1, s2, s3⟩ := hSw; go_simp; with_reducible rfl
        simp only [Act.put, List.setIfInBounds_toArray, List.set_cons_zero, List.set_cons_succ]
        refine Guard.guard_two (j := 2) (k := 11) rfl rfl (by kernel_rfl) (fun K hK => ?_) (fun K hK => ?_)
        · go_simp
          refine hK _ _ ⟨SOF _ (show Keep [] wr (wr.alloc (.cells #[] 140)).drew from ((Keep.refl [] wr).alloc _).drew), ?_⟩
          clear hK K
          simp only [Act.put, List.setIfInBounds_toArray, List.set_cons_zero, List.set_cons_succ]
          refine Guard.guard_two (j := 8) (k := 11) rfl rfl (by kernel_rfl) (fun K hK => ?_) (fun K hK => ?_)
          · refine step_copyG (by rfl) _ _ _ (by rfl) 140 iI _ 8 64 Tryz.underlying93 HII.out HZI.out.1 HZI.out.2.1 HZI.out.2.2 rfl (by decide) wr.heap.size (wr.heap.size) (by omega) (show (wr.alloc (.cells #[] 140)).heap[wr.heap.size]? = _ from alloc_new wr _) (by rfl) a' np c' (flatI p) (by rfl) q1.out (S4.out.keep0 (show Keep [] wr (wr.alloc (.cells #[] 140)).drew from ((Keep.refl [] wr).alloc _).drew)) q2.out q8.out q9.out ?_
            intro a9 c9 w7 ho7 hk7
            have K7 : Hid (Keep [] wr w7) := Lib.hid (((show Keep [] wr (wr.alloc (.cells #[] 140)).drew from ((Keep.refl [] wr).alloc _).drew)).chain hk7 fun x hx => .inr (by simp at hx; omega))
            have O7 := Lib.hid ho7
            clear ho7 hk7
            refine hK _ _ ⟨SOF _ K7.out, ?_⟩
            clear hK K
            simp only [Act.put, List.setIfInBounds_toArray, List.set_cons_zero, List.set_cons_succ]
            refine Guard.guard_one (j := 11) rfl (by kernel_rfl) fun K hK => ?_
            go_simp
            refine hK _ _ ⟨SOF _ (K7.out.alloc _), ?_⟩
            clear hK K
            simp only [Act.put, List.setIfInBounds_toArray, List.set_cons_zero, List.set_cons_succ]
            refine Guard.guard_one (j := 12) rfl (by kernel_rfl) fun K hK => ?_
            refine step_append_lies _ (by rfl) _ _ _ (by rfl) wr.heap.size 140 iI _ 8 64 Tryz.underlying93 HII.out HZI.out.1 HZI.out.2.1 HZI.out.2.2 rfl (by decide) (.slice a9 np c9) np (flatI p) (by rfl) (O7.out.alloc _) ⟨w7.heap.size, 0, none⟩ 2 2 (flatI [i77, i78]) (by rfl) (by rfl) (World.news_of_block (cs := (flatI [i77, i78]).toArray) (fr := (0, 0)) (alloc_new w7 _)) q7.out (by decide) q5.out q6.out (by have := K7.out.size; simp; omega) _ rfl ?_
            intro g8 cap8 w8 hown8 hgrow8 hat8 hlt8
            have K8 : Hid (Keep [] wr w8) := Lib.hid ((show Keep [] wr (w7.alloc (.cells (flatI [i77, i78]).toArray 140)) from K7.out.alloc _).chain (T := (Value.slice a9 np c9).ownBlock.toList) ⟨hgrow8.os, hgrow8.tape, hgrow8.output, hgrow8.size, fun i hi hn => hgrow8.block i hi fun e => hn (by rw [← e]; simp)⟩ fun x hx => .inr (O7.out.lt x (by simpa using hx)).1)
            have O8 := Lib.hid hown8
            clear hown8 hgrow8 hat8
            refine hK _ _ ⟨SOF _ K8.out, ?_⟩
            clear hK K
            simp only [Act.put, List.setIfInBounds_toArray, List.set_cons_zero, List.set_cons_succ]
            refine Guard.guard_one (j := 13) rfl (by kernel_rfl) fun K hK => ?_
            go_simp
            refine hK _ _ ⟨SOF _ (K8.out.alloc _), ?_⟩
            clear hK K
            simp only [Act.put, List.setIfInBounds_toArray, List.set_cons_zero, List.set_cons_succ]
            have R8 : Hid (w8.ownsRow w4.heap.size 93 1 (.slice va k vc) k (rowS 2 (l.threads.take k) bs)) := Lib.hid (Har.owns_block RW.out fun x hx => K8.out.block x (RW.out.lt x hx).2 (by simp))
            have V8 := Lib.hid (K8.out.old VR.out (by simp))
            have N8 := Lib.hid (alloc_new w8 (.cells #[.slice (some ⟨g8, 0, none⟩) (np + 2) cap8] 93))
            refine Guard.guard_last rfl (by kernel_rfl) fun K hK => ?_
            refine step_append_lies _ (by rfl) _ _ _ (by rfl) w4.heap.size 93 iS _ 1 24 Tryz.underlying23 HIS.out HZS.out.1 HZS.out.2.1 HZS.out.2.2 rfl (by decide) (.slice va k vc) k (rowS 2 (l.threads.take k) bs) (by rfl) (R8.out.alloc _) ⟨w8.heap.size, 0, none⟩ 1 1 [.slice (some ⟨g8, 0, none⟩) (np + 2) cap8] (by rfl) (by rfl) (World.news_of_block (cs := #[.slice (some ⟨g8, 0, none⟩) (np + 2) cap8]) (fr := (0, 0)) N8.out) (one_sl _ _ _) (by decide) q3.out q4.out (by have := K8.out.size; have := WL.out; simp; omega) _ rfl ?_
            intro gT capT w9 hown9 hgrow9 hat9 hlt9
            have O9 := Lib.hid hown9
            have G9 := Lib.hid hgrow9
            have A9 := Lib.hid hat9
            have V9 := Lib.hid ((hgrow9.block vb (by have := hsz.out; have := K8.out.size; simp; omega) hvo.out).trans (alloc_some _ V8.out))
            have t1 := (cell_of V9.out 3).trans rfl
            have t2 := free_of V9.out 3
            clear hown9 hgrow9 hat9
            refine hK _ _ ?_
            clear hK K
            simp only [Act.put, List.setIfInBounds_toArray, List.set_cons_zero, List.set_cons_succ]
            refine Guard.any_one (j := 15) rfl (by kernel_rfl) fun K hK => ?_
            go_simp
            refine hK _ _ ?_
            clear hK K
            simp only [Act.put, List.setIfInBounds_toArray, List.set_cons_zero, List.set_cons_succ]
            refine Guard.any_one (j := 16) rfl (by kernel_rfl) fun K hK => ?_
            go_simp
            refine hK _ _ (Guard.any_done (by kernel_rfl) ?_)
            clear hK K
            have kx : Keep [] wr (w8.alloc (.cells #[.slice (some ⟨g8, 0, none⟩) (np + 2) cap8] 93)) := K8.out.alloc _
            have KX := Lib.hid kx
            have o8 := O8.out.alloc (.cells #[.slice (some ⟨g8, 0, none⟩) (np + 2) cap8] 93)
            have hsn : LendRow w9 w4.heap.size (.slice (some ⟨gT, 0, none⟩) (k + 1) capT) (l.threads.take k ++ [p]) (bs ++ [(g8, cap8)]) := by
              have e1 : flatI p ++ flatI [i77, i78] = flatI (p ++ [i77, i78]) := by simp [flatI]
              have q := RR.out.snoc (p := p) (g7 := g8) (c7 := cap8) kx (by rw [← HNP.out, ← e1]; exact o8) WL.out (g8 := gT) (cap8 := capT) (by rw [HLK.out, ← HNP.out]; exact O9.out) (by exact G9.out) A9.out
              rw [HLK.out] at q
              exact q
            have HSN := Lib.hid hsn
            clear kx hsn o8
            go_wp2_with fail
            go_meet
            case rel =>
              refine ⟨rfl, .slice (some ⟨gT, 0, none⟩) (k + 1) capT, bs ++ [(g8, cap8)], ?_, ?_, ?_⟩
              · rw [set_same V9.out]; rfl
              · rw [HTK.out]
                exact HSN.out.keep ((Keep.refl [vb] w9).set (.inl (by simp)) 3 _) (fun x hx => by simp at hx; have := V4L.out; omega)
              · refine ((KR.out.trans (KX.out.mono (by simp))).chain (T := (Value.slice va k vc).ownBlock.toList) ⟨G9.out.os, G9.out.tape, G9.out.output, G9.out.size, fun i hi hn => G9.out.block i hi fun e => hn (by rw [← e]; simp)⟩ fun x hx => .inr ?_).set (.inl (by simp)) 3 _
                exact (RW.out.lt x (by simpa using hx)).1
          · go_simp
            refine hK _ _ ⟨SOF _ (show Keep [] wr ((wr.alloc (.cells #[] 140)).alloc (.cells (flatI [i77, i78]).toArray 140)).drew from (((Keep.refl [] wr).alloc _).alloc _).drew), ?_⟩
            clear hK K
            simp only [Act.put, List.setIfInBounds_toArray, List.set_cons_zero, List.set_cons_succ]
            refine Guard.guard_one (j := 8) rfl (by kernel_rfl) fun K hK => ?_
            refine step_copyG (by rfl) _ _ _ (by rfl) 140 iI _ 8 64 Tryz.underlying93 HII.out HZI.out.1 HZI.out.2.1 HZI.out.2.2 rfl (by decide) wr.heap.size (wr.heap.size) (by omega) (show ((wr.alloc (.cells #[] 140)).alloc (.cells (flatI [i77, i78]).toArray 140)).heap[wr.heap.size]? = _ from alloc_some _ (alloc_new wr _)) (by rfl) a' np c' (flatI p) (by rfl) q1.out (S4.out.keep0 (show Keep [] wr ((wr.alloc (.cells #[] 140)).alloc (.cells (flatI [i77, i78]).toArray 140)).drew from (((Keep.refl [] wr).alloc _).alloc _).drew)) q2.out q8.out q9.out ?_
            intro a9 c9 w7 ho7 hk7
            have K7 : Hid (Keep [] wr w7) := Lib.hid (((show Keep [] wr ((wr.alloc (.cells #[] 140)).alloc (.cells (flatI [i77, i78]).toArray 140)).drew from (((Keep.refl [] wr).alloc _).alloc _).drew)).chain hk7 fun x hx => .inr (by simp at hx; omega))
            have O7 := Lib.hid ho7
            have DB := Lib.hid (hk7.old (show ((wr.alloc (.cells #[] 140)).alloc (.cells (flatI [i77, i78]).toArray 140)).heap[wr.heap.size + 1]? = some (.cells (flatI [i77, i78]).toArray 140 (0, 0)) from new2 wr _ _) (by simp))
            clear ho7 hk7
            refine hK _ _ ⟨SOF _ K7.out, ?_⟩
            clear hK K
            simp only [Act.put, List.setIfInBounds_toArray, List.set_cons_zero, List.set_cons_succ]
            refine Guard.guard_one (j := 12) rfl (by kernel_rfl) fun K hK => ?_
            refine step_append_lies _ (by rfl) _ _ _ (by rfl) wr.heap.size 140 iI _ 8 64 Tryz.underlying93 HII.out HZI.out.1 HZI.out.2.1 HZI.out.2.2 rfl (by decide) (.slice a9 np c9) np (flatI p) (by rfl) (O7.out) ⟨wr.heap.size + 1, 0, none⟩ 2 2 (flatI [i77, i78]) (by rfl) (by rfl) (World.news_of_block (cs := (flatI [i77, i78]).toArray) (fr := (0, 0)) (DB.out)) q7.out (by decide) q5.out q6.out (by have := K7.out.size; simp; omega) _ rfl ?_
            intro g8 cap8 w8 hown8 hgrow8 hat8 hlt8
            have K8 : Hid (Keep [] wr w8) := Lib.hid ((K7.out).chain (T := (Value.slice a9 np c9).ownBlock.toList) ⟨hgrow8.os, hgrow8.tape, hgrow8.output, hgrow8.size, fun i hi hn => hgrow8.block i hi fun e => hn (by rw [← e]; simp)⟩ fun x hx => .inr (O7.out.lt x (by simpa using hx)).1)
            have O8 := Lib.hid hown8
            clear hown8 hgrow8 hat8
            refine hK _ _ ⟨SOF _ K8.out, ?_⟩
            clear hK K
            simp only [Act.put, List.setIfInBounds_toArray, List.set_cons_zero, List.set_cons_succ]
            refine Guard.guard_one (j := 13) rfl (by kernel_rfl) fun K hK => ?_
            go_simp
            refine hK _ _ ⟨SOF _ (K8.out.alloc _), ?_⟩
            clear hK K
            simp only [Act.put, List.setIfInBounds_toArray, List.set_cons_zero, List.set_cons_succ]
            have R8 : Hid (w8.ownsRow w4.heap.size 93 1 (.slice va k vc) k (rowS 2 (l.threads.take k) bs)) := Lib.hid (Har.owns_block RW.out fun x hx => K8.out.block x (RW.out.lt x hx).2 (by simp))
            have V8 := Lib.hid (K8.out.old VR.out (by simp))
            have N8 := Lib.hid (alloc_new w8 (.cells #[.slice (some ⟨g8, 0, none⟩) (np + 2) cap8] 93))
            refine Guard.guard_last rfl (by kernel_rfl) fun K hK => ?_
            refine step_append_lies _ (by rfl) _ _ _ (by rfl) w4.heap.size 93 iS _ 1 24 Tryz.underlying23 HIS.out HZS.out.1 HZS.out.2.1 HZS.out.2.2 rfl (by decide) (.slice va k vc) k (rowS 2 (l.threads.take k) bs) (by rfl) (R8.out.alloc _) ⟨w8.heap.size, 0, none⟩ 1 1 [.slice (some ⟨g8, 0, none⟩) (np + 2) cap8] (by rfl) (by rfl) (World.news_of_block (cs := #[.slice (some ⟨g8, 0, none⟩) (np + 2) cap8]) (fr := (0, 0)) N8.out) (one_sl _ _ _) (by decide) q3.out q4.out (by have := K8.out.size; have := WL.out; simp; omega) _ rfl ?_
            intro gT capT w9 hown9 hgrow9 hat9 hlt9
            have O9 := Lib.hid hown9
            have G9 := Lib.hid hgrow9
            have A9 := Lib.hid hat9
            have V9 := Lib.hid ((hgrow9.block vb (by have := hsz.out; have := K8.out.size; simp; omega) hvo.out).trans (alloc_some _ V8.out))
            have t1 := (cell_of V9.out 3).trans rfl
            have t2 := free_of V9.out 3
            clear hown9 hgrow9 hat9
            refine hK _ _ ?_
            clear hK K
            simp only [Act.put, List.setIfInBounds_toArray, List.set_cons_zero, List.set_cons_succ]
            refine Guard.any_one (j := 15) rfl (by kernel_rfl) fun K hK => ?_
            go_simp
            refine hK _ _ ?_
            clear hK K
            simp only [Act.put, List.setIfInBounds_toArray, List.set_cons_zero, List.set_cons_succ]
            refine Guard.any_one (j := 16) rfl (by kernel_rfl) fun K hK => ?_
            go_simp
            refine hK _ _ (Guard.any_done (by kernel_rfl) ?_)
            clear hK K
            have kx : Keep [] wr (w8.alloc (.cells #[.slice (some ⟨g8, 0, none⟩) (np + 2) cap8] 93)) := K8.out.alloc _
            have KX := Lib.hid kx
            have o8 := O8.out.alloc (.cells #[.slice (some ⟨g8, 0, none⟩) (np + 2) cap8] 93)
            have hsn : LendRow w9 w4.heap.size (.slice (some ⟨gT, 0, none⟩) (k + 1) capT) (l.threads.take k ++ [p]) (bs ++ [(g8, cap8)]) := by
              have e1 : flatI p ++ flatI [i77, i78] = flatI (p ++ [i77, i78]) := by simp [flatI]
              have q := RR.out.snoc (p := p) (g7 := g8) (c7 := cap8) kx (by rw [← HNP.out, ← e1]; exact o8) WL.out (g8 := gT) (cap8 := capT) (by rw [HLK.out, ← HNP.out]; exact O9.out) (by exact G9.out) A9.out
              rw [HLK.out] at q
              exact q
            have HSN := Lib.hid hsn
            clear kx hsn o8
            go_wp2_with fail
            go_meet
            case rel =>
              refine ⟨rfl, .slice (some ⟨gT, 0, none⟩) (k + 1) capT, bs ++ [(g8, cap8)], ?_, ?_, ?_⟩
              · rw [set_same V9.out]; rfl
              · rw [HTK.out]
                exact HSN.out.keep ((Keep.refl [vb] w9).set (.inl (by simp)) 3 _) (fun x hx => by simp at hx; have := V4L.out; omega)
              · refine ((KR.out.trans (KX.out.mono (by simp))).chain (T := (Value.slice va k vc).ownBlock.toList) ⟨G9.out.os, G9.out.tape, G9.out.output, G9.out.size, fun i hi hn => G9.out.block i hi fun e => hn (by rw [← e]; simp)⟩ fun x hx => .inr ?_).set (.inl (by simp)) 3 _
                exact (RW.out.lt x (by simpa using hx)).1
        · go_simp
          refine hK _ _ ⟨SOF _ (show Keep [] wr (wr.alloc (.cells (flatI [i77, i78]).toArray 140)).drew from ((Keep.refl [] wr).alloc _).drew), ?_⟩
          clear hK K
          simp only [Act.put, List.setIfInBounds_toArray, List.set_cons_zero, List.set_cons_succ]
          refine Guard.guard_one (j := 2) rfl (by kernel_rfl) fun K hK => ?_
          go_simp
          refine hK _ _ ⟨SOF _ (show Keep [] wr ((wr.alloc (.cells (flatI [i77, i78]).toArray 140)).alloc (.cells #[] 140)).drew from (((Keep.refl [] wr).alloc _).alloc _).drew), ?_⟩
          clear hK K
          simp only [Act.put, List.setIfInBounds_toArray, List.set_cons_zero, List.set_cons_succ]
          refine Guard.guard_one (j := 8) rfl (by kernel_rfl) fun K hK => ?_
          refine step_copyG (by rfl) _ _ _ (by rfl) 140 iI _ 8 64 Tryz.underlying93 HII.out HZI.out.1 HZI.out.2.1 HZI.out.2.2 rfl (by decide) wr.heap.size (wr.heap.size + 1) (by omega) (show ((wr.alloc (.cells (flatI [i77, i78]).toArray 140)).alloc (.cells #[] 140)).heap[wr.heap.size + 1]? = _ from new2 wr _ _) (by rfl) a' np c' (flatI p) (by rfl) q1.out (S4.out.keep0 (show Keep [] wr ((wr.alloc (.cells (flatI [i77, i78]).toArray 140)).alloc (.cells #[] 140)).drew from (((Keep.refl [] wr).alloc _).alloc _).drew)) q2.out q8.out q9.out ?_
          intro a9 c9 w7 ho7 hk7
          have K7 : Hid (Keep [] wr w7) := Lib.hid (((show Keep [] wr ((wr.alloc (.cells (flatI [i77, i78]).toArray 140)).alloc (.cells #[] 140)).drew from (((Keep.refl [] wr).alloc _).alloc _).drew)).chain hk7 fun x hx => .inr (by simp at hx; omega))
          have O7 := Lib.hid ho7
          have DB := Lib.hid (hk7.old (show ((wr.alloc (.cells (flatI [i77, i78]).toArray 140)).alloc (.cells #[] 140)).heap[wr.heap.size]? = some (.cells (flatI [i77, i78]).toArray 140 (0, 0)) from alloc_some _ (alloc_new wr _)) (by simp))
          clear ho7 hk7
          refine hK _ _ ⟨SOF _ K7.out, ?_⟩
          clear hK K
          simp only [Act.put, List.setIfInBounds_toArray, List.set_cons_zero, List.set_cons_succ]
          refine Guard.guard_one (j := 12) rfl (by kernel_rfl) fun K hK => ?_
          refine step_append_lies _ (by rfl) _ _ _ (by rfl) wr.heap.size 140 iI _ 8 64 Tryz.underlying93 HII.out HZI.out.1 HZI.out.2.1 HZI.out.2.2 rfl (by decide) (.slice a9 np c9) np (flatI p) (by rfl) (O7.out) ⟨wr.heap.size, 0, none⟩ 2 2 (flatI [i77, i78]) (by rfl) (by rfl) (World.news_of_block (cs := (flatI [i77, i78]).toArray) (fr := (0, 0)) (DB.out)) q7.out (by decide) q5.out q6.out (by have := K7.out.size; simp; omega) _ rfl ?_
          intro g8 cap8 w8 hown8 hgrow8 hat8 hlt8
          have K8 : Hid (Keep [] wr w8) := Lib.hid ((K7.out).chain (T := (Value.slice a9 np c9).ownBlock.toList) ⟨hgrow8.os, hgrow8.tape, hgrow8.output, hgrow8.size, fun i hi hn => hgrow8.block i hi fun e => hn (by rw [← e]; simp)⟩ fun x hx => .inr (O7.out.lt x (by simpa using hx)).1)
          have O8 := Lib.hid hown8
          clear hown8 hgrow8 hat8
          refine hK _ _ ⟨SOF _ K8.out, ?_⟩
          clear hK K
          simp only [Act.put, List.setIfInBounds_toArray, List.set_cons_zero, List.set_cons_succ]
          refine Guard.guard_one (j := 13) rfl (by kernel_rfl) fun K hK => ?_
          go_simp
          refine hK _ _ ⟨SOF _ (K8.out.alloc _), ?_⟩
          clear hK K
          simp only [Act.put, List.setIfInBounds_toArray, List.set_cons_zero, List.set_cons_succ]
          have R8 : Hid (w8.ownsRow w4.heap.size 93 1 (.slice va k vc) k (rowS 2 (l.threads.take k) bs)) := Lib.hid (Har.owns_block RW.out fun x hx => K8.out.block x (RW.out.lt x hx).2 (by simp))
          have V8 := Lib.hid (K8.out.old VR.out (by simp))
          have N8 := Lib.hid (alloc_new w8 (.cells #[.slice (some ⟨g8, 0, none⟩) (np + 2) cap8] 93))
          refine Guard.guard_last rfl (by kernel_rfl) fun K hK => ?_
          refine step_append_lies _ (by rfl) _ _ _ (by rfl) w4.heap.size 93 iS _ 1 24 Tryz.underlying23 HIS.out HZS.out.1 HZS.out.2.1 HZS.out.2.2 rfl (by decide) (.slice va k vc) k (rowS 2 (l.threads.take k) bs) (by rfl) (R8.out.alloc _) ⟨w8.heap.size, 0, none⟩ 1 1 [.slice (some ⟨g8, 0, none⟩) (np + 2) cap8] (by rfl) (by rfl) (World.news_of_block (cs := #[.slice (some ⟨g8, 0, none⟩) (np + 2) cap8]) (fr := (0, 0)) N8.out) (one_sl _ _ _) (by decide) q3.out q4.out (by have := K8.out.size; have := WL.out; simp; omega) _ rfl ?_
          intro gT capT w9 hown9 hgrow9 hat9 hlt9
          have O9 := Lib.hid hown9
          have G9 := Lib.hid hgrow9
          have A9 := Lib.hid hat9
          have V9 := Lib.hid ((hgrow9.block vb (by have := hsz.out; have := K8.out.size; simp; omega) hvo.out).trans (alloc_some _ V8.out))
          have t1 := (cell_of V9.out 3).trans rfl
          have t2 := free_of V9.out 3
          clear hown9 hgrow9 hat9
          refine hK _ _ ?_
          clear hK K
          simp only [Act.put, List.setIfInBounds_toArray, List.set_cons_zero, List.set_cons_succ]
          refine Guard.any_one (j := 15) rfl (by kernel_rfl) fun K hK => ?_
          go_simp
          refine hK _ _ ?_
          clear hK K
          simp only [Act.put, List.setIfInBounds_toArray, List.set_cons_zero, List.set_cons_succ]
          refine Guard.any_one (j := 16) rfl (by kernel_rfl) fun K hK => ?_
          go_simp
          refine hK _ _ (Guard.any_done (by kernel_rfl) ?_)
          clear hK K
          have kx : Keep [] wr (w8.alloc (.cells #[.slice (some ⟨g8, 0, none⟩) (np + 2) cap8] 93)) := K8.out.alloc _
          have KX := Lib.hid kx
          have o8 := O8.out.alloc (.cells #[.slice (some ⟨g8, 0, none⟩) (np + 2) cap8] 93)
          have hsn : LendRow w9 w4.heap.size (.slice (some ⟨gT, 0, none⟩) (k + 1) capT) (l.threads.take k ++ [p]) (bs ++ [(g8, cap8)]) := by
            have e1 : flatI p ++ flatI [i77, i78] = flatI (p ++ [i77, i78]) := by simp [flatI]
            have q := RR.out.snoc (p := p) (g7 := g8) (c7 := cap8) kx (by rw [← HNP.out, ← e1]; exact o8) WL.out (g8 := gT) (cap8 := capT) (by rw [HLK.out, ← HNP.out]; exact O9.out) (by exact G9.out) A9.out
            rw [HLK.out] at q
            exact q
          have HSN := Lib.hid hsn
          clear kx hsn o8
          go_wp2_with fail
          go_meet
          case rel =>
            refine ⟨rfl, .slice (some ⟨gT, 0, none⟩) (k + 1) capT, bs ++ [(g8, cap8)], ?_, ?_, ?_⟩
            · rw [set_same V9.out]; rfl
            · rw [HTK.out]
              exact HSN.out.keep ((Keep.refl [vb] w9).set (.inl (by simp)) 3 _) (fun x hx => by simp at hx; have := V4L.out; omega)
            · refine ((KR.out.trans (KX.out.mono (by simp))).chain (T := (Value.slice va k vc).ownBlock.toList) ⟨G9.out.os, G9.out.tape, G9.out.output, G9.out.size, fun i hi hn => G9.out.block i hi fun e => hn (by rw [← e]; simp)⟩ fun x hx => .inr ?_).set (.inl (by simp)) 3 _
              exact (RW.out.lt x (by simpa using hx)).1
      case rest =>
        obtain ⟨rfl, tv3, bs3, h5, h6, h7⟩ := hcut
        have H5 := Lib.hid (And.intro h5 (And.intro h6 h7))
        clear h5 h6 h7 z1 x0 m1
        go_wp2_with fail
        go_roundw
        case rel => exact ⟨k + 1, tv3, bs3, by go_num, hlt, H5.out.1, H5.out.2.1, H5.out.2.2⟩
        case measure => simp [intOf]; omega
    · have hkn : k = nt := by omega
      subst hkn
      have htk : l.threads.take k = l.threads := List.take_of_length_le (by have := HN.out.2; omega)
      rw [htk] at RR hR
      obtain ⟨va, vc, hf⟩ : ∃ a c, tv2 = .slice a k c := by
        rcases hR.row.2 with ⟨e, h0⟩ | ⟨g, cap, cur, e, -⟩
        · exact ⟨none, 0, by rw [e, HN.out.2, h0]⟩
        · exact ⟨_, _, by rw [e, HN.out.2]⟩
      subst hf
      obtain ⟨w5, hw5⟩ : ∃ w5, w5 = wr := ⟨_, rfl⟩
      rw [← hw5] at VR RR KR klw klw0 hlb
      have V5L := Lib.hid (lt_of VR.out)
      have KL0 := Lib.hid klw0
      have LB5 := Lib.hid hlb
      have hrl := Lib.hid (rowS_len 0 l.threads bs RR.out.len)
      clear hR hV hK hlt htk hk klw klw0
      go_wp2_with fail
      rw [← hw5]
      clear hw5 hlb m1
      go_loopw [5] (fun i wx => ∃ (j : Nat) (av : Value), i = .int .i64 j ∧ j ≤ k ∧ wx.heap[vb]? = some (.cells #[.slice none 0 0, .slice none 0 0, .slice (some ⟨gC, 0, none⟩) (nc + 2) cC, .slice va k vc, av] 59 (0, 0)) ∧ wx.ownsRow w5.heap.size 93 1 av j ((rowS 0 l.threads bs).take j) ∧ Keep [vb] w5 wx) (fun i _ => k - (intOf i).toNat)
      case atStart => exact ⟨0, _, rfl, Nat.zero_le _, VR.out, World.ownsRow_nil _ _ _ _, Keep.refl _ _⟩
      case round =>
        obtain ⟨j, av, rfl, hj, hVx, hRx, hKx⟩ := hrel
        have VX := Lib.hid hVx
        have RX := Lib.hid hRx
        have KX := Lib.hid hKx
        have hlbx : wr.heap[lb]? = some (.cells #[.slice a nc c, .slice a2 k c2] 25 (0, 0)) := hKx.old LB5.out (by simp; exact hvl.symm)
        have m0 := (cell_of hlbx 0).trans rfl
        have m1 := (cell_of hlbx 1).trans rfl
        have kw0 : Keep [] w wr := ⟨hKx.os.trans KL0.out.os, hKx.tape.trans KL0.out.tape, hKx.output.trans KL0.out.output, Nat.le_trans KL0.out.size hKx.size, fun i hi _ => (hKx.block i (Nat.lt_of_lt_of_le hi KL0.out.size) (by have := HB.out.2.2; simp; omega)).trans (KL0.out.block i hi (by simp))⟩
        obtain ⟨aa, ac, hav⟩ : ∃ a c, av = .slice a j c := by
          rcases hRx.2 with ⟨e, h0⟩ | ⟨g, cap, cur, e, -⟩
          · exact ⟨none, 0, by rw [e, h0]⟩
          · exact ⟨_, _, e⟩
        subst hav
        have z4 := (cell_of VX.out 4).trans rfl
        have z3 := (cell_of VX.out 3).trans rfl
        by_cases hlt : j < k
        · have hjt : j < l.threads.length := by have := HN.out.2; omega
          have hjp : j < ps.length := by rw [S3.out.1]; exact hjt
          have hjb : j < bs.length := by rw [RR.out.len]; exact hjt
          obtain ⟨g, o, rfl, x00⟩ := S2.out.at_ j hjp
          have hgw : g < w.heap.size := World.block_lt_of_cell? w _ x00
          obtain ⟨a', c', he, s4⟩ := S3.out.2 j hjp hjt
          rw [he] at x00
          have x0 := kw0.cell x00 (by simp)
          have hpn : (l.threads[j]).length ≤ 1000000000000 := HS.out.2.2 _ (List.getElem_mem hjt)
          have heach := RR.out.each j hjb hjt
          obtain ⟨gb, hgb⟩ : ∃ gb, gb = bs[j].1 := ⟨_, rfl⟩
          obtain ⟨cb, hcb⟩ : ∃ cb, cb = bs[j].2 := ⟨_, rfl⟩
          obtain ⟨np, hnp⟩ : ∃ np, np = (l.threads[j]).length := ⟨_, rfl⟩
          rw [← hgb, ← hcb, ← hnp] at heach
          rw [← hnp] at x0 hpn
          have hcap : np + 2 ≤ cb := by
            rcases heach.2 with ⟨e, -⟩ | ⟨g3, cap3, cur3, e3, -, -, hle, -⟩
            · simp at e
            · simp only [Value.slice.injEq] at e3
              rw [e3.2.2]; exact hle
          have hcap1 : (np : Int) ≤ cb := by omega
          have hnp0 : 0 ≤ (np : Int) := by omega
          have hrow2 := (rowS_at 2 l.threads bs j hjt hjb)
          rw [← hgb, ← hcb, ← hnp] at hrow2
          have hrow0 := (rowS_at 0 l.threads bs j hjt hjb)
          rw [← hgb, ← hcb, ← hnp, Nat.add_zero] at hrow0
          obtain ⟨gT, rfl⟩ : ∃ gT, va = some ⟨gT, 0, none⟩ := by
            rcases RR.out.row.2 with ⟨e, h0⟩ | ⟨g3, cap3, cur3, e3, -⟩
            · omega
            · simp only [Value.slice.injEq] at e3
              exact ⟨g3, e3.1⟩
          have RT := Lib.hid (show w5.ownsRow w4.heap.size 93 1 (.slice (some ⟨gT, 0, none⟩) k vc) k (rowS 2 l.threads bs) from by have q := RR.out.row; rw [← HN.out.2] at q; exact q)
          have xT5 : w5.cell? ⟨gT, j, none⟩ = some (.slice (some ⟨gb, 0, none⟩) (np + 2) cb) := by
            have q := RT.out.cells (g := gT) rfl j _ hrow2
            have e2 : (⟨gT, 0, none⟩ : Addr).add j = ⟨gT, j, none⟩ := by unfold Addr.add; split <;> simp_all
            rw [e2] at q
            exact q
          have hgTv : gT ≠ vb := by have h1 := (RT.out.lt gT rfl).1; have h2 := V4L.out; omega
          have xT := hKx.cell xT5 (by simp; exact hgTv)
          have hsz : Hid (vb < wr.heap.size) := Lib.hid (lt_of VX.out)
          have hvo : Hid (some vb ≠ (Value.slice aa j ac).ownBlock) := Lib.hid (fun e => by have h1 := (RX.out.lt vb e.symm).1; have h2 := V5L.out; omega)
          have q3 := Lib.hid (show j + 1 ≤ maxLen by unfold maxLen; omega)
          have q4 := Lib.hid (show (j + 1) * 24 ≤ 140737488355328 by omega)
          have WL := Lib.hid hKx.size
          have HR0 := Lib.hid (show (rowS 0 l.threads bs).take (j + 1) = (rowS 0 l.threads bs).take j ++ [.slice (some ⟨gb, 0, none⟩) np cb] by
            have hl0 : j < (rowS 0 l.threads bs).length := by rw [hrl.out]; exact hjt
            rw [List.take_succ_eq_append_getElem hl0]
            rw [List.getElem?_eq_getElem hl0] at hrow0
            rw [Option.some.inj hrow0])
          have SOF : ∀ W, Keep [] wr W → W.cell? ⟨lb, 1, none⟩ = some (.slice (some ⟨g, o, none⟩) k c2) ∧ W.cell? ⟨g, o + j, none⟩ = some (.slice a' np c') ∧ W.cell? ⟨vb, 4, none⟩ = some (.slice aa j ac) ∧ W.cell? ⟨vb, 3, none⟩ = some (.slice (some ⟨gT, 0, none⟩) k vc) ∧ W.cell? ⟨gT, j, none⟩ = some (.slice (some ⟨gb, 0, none⟩) (np + 2) cb) :=
            fun W kW => ⟨(kW.cell m1 (by simp)).trans rfl, kW.cell x0 (by simp), (kW.cell z4 (by simp)).trans rfl, (kW.cell z3 (by simp)).trans rfl, kW.cell xT (by simp)⟩
          clear hVx hRx hKx he s4 hgb hcb hnp heach hrow2 hrow0 xT5 x00 hgw hlbx m0
          go_upto_block 3 with fail
          go_cut [5] (fun v5 wy => v5 = .int .i64 j ∧ ∃ av : Value, wy.heap[vb]? = some (.cells #[.slice none 0 0, .slice none 0 0, .slice (some ⟨gC, 0, none⟩) (nc + 2) cC, .slice (some ⟨gT, 0, none⟩) k vc, av] 59 (0, 0)) ∧ wy.ownsRow w5.heap.size 93 1 av (j + 1) ((rowS 0 l.threads bs).take (j + 1)) ∧ Keep [vb] w5 wy)
          case first =>
            go_wp2_with fail
            refine Guard.wp_region_guard 15 18 (fun W => W.cell? ⟨lb, 1, none⟩ = some (.slice (some ⟨g, o, none⟩) k c2) ∧ W.cell? ⟨g, o + j, none⟩ = some (.slice a' np c') ∧ W.cell? ⟨vb, 4, none⟩ = some (.slice aa j ac) ∧ W.cell? ⟨vb, 3, none⟩ = some (.slice (some ⟨gT, 0, none⟩) k vc) ∧ W.cell? ⟨gT, j, none⟩ = some (.slice (some ⟨gb, 0, none⟩) (np + 2) cb)) #[false, false, false, false, false, false, false, false, false, false, false, false, false, false, false, false, false, false] rfl rfl (by kernel_rfl) ?_
            have hS0 := SOF wr.drew (Keep.refl [] wr).drew
            refine Guard.wpAnyG_take (i := 0) (oi := _) (v := ?vB0) rfl (by kernel_rfl) (fun _ _ _ h => h) (Or.inl ⟨by rfl, ?hyB0⟩) hS0 ?restB0
            case hyB0 => intro w hSw; obtain ⟨s1, s2, s3, s4, s5⟩ := hSw; go_simp; with_reducible rfl
            simp only [Act.put, List.setIfInBounds_toArray, List.set_cons_zero, List.set_cons_succ]
            refine Guard.wpAnyG_take (i := 1) (oi := _) (v := ?vB1) rfl (by kernel_rfl) (fun _ _ _ h => h) (Or.inl ⟨by rfl, ?hyB1⟩) hS0 ?restB1
            case hyB1 => intro w hSw; obtain ⟨s1, s2, s3, s4, s5⟩ := hSw; go_simp; with_reducible rfl
            simp only [Act.put, List.setIfInBounds_toArray, List.set_cons_zero, List.set_cons_succ]
            refine Guard.wpAnyG_take (i := 2) (oi := _) (v := ?vB2) rfl (by kernel_rfl) (fun _ _ _ h => h) (Or.inl ⟨by rfl, ?hyB2⟩) hS0 ?restB2
            case hyB2 => intro w hSw; obtain ⟨s1, s2, s3, s4, s5⟩ := hSw; go_simp; with_reducible rfl
            simp only [Act.put, List.setIfInBounds_toArray, List.set_cons_zero, List.set_cons_succ]
            refine Guard.wpAnyG_take (i := 3) (oi := _) (v := ?vB3) rfl (by kernel_rfl) (fun _ _ _ h => h) (Or.inl ⟨by rfl, ?hyB3⟩) hS0 ?restB3
            case hyB3 => intro w hSw; obtain ⟨s1, s2, s3, s4, s5⟩ := hSw; go_simp; with_reducible rfl
            simp only [Act.put, List.setIfInBounds_toArray, List.set_cons_zero, List.set_cons_succ]
            refine Guard.wpAnyG_take (i := 4) (oi := _) (v := ?vB4) rfl (by kernel_rfl) (fun _ _ _ h => h) (Or.inl ⟨by rfl, ?hyB4⟩) hS0 ?restB4
            case hyB4 => intro w hSw; obtain ⟨s1, s2, s3, s4, s5⟩ := hSw; go_simp; with_reducible rfl
            simp only [Act.put, List.setIfInBounds_toArray, List.set_cons_zero, List.set_cons_succ]
            refine Guard.wpAnyG_take (i := 5) (oi := _) (v := ?vB5) rfl (by kernel_rfl) (fun _ _ _ h => h) (Or.inl ⟨by rfl, ?hyB5⟩) hS0 ?restB5
            case hyB5 => intro w hSw; obtain ⟨s1, s2, s3, s4, s5⟩ := hSw; go_simp; with_reducible rfl
            simp only [Act.put, List.setIfInBounds_toArray, List.set_cons_zero, List.set_cons_succ]
            refine Guard.wpAnyG_take (i := 6) (oi := _) (v := ?vB6) rfl (by kernel_rfl) (fun _ _ _ h => h) (Or.inl ⟨by rfl, ?hyB6⟩) hS0 ?restB6
            case hyB6 => intro w hSw; obtain ⟨s1, s2, s3, s4, s5⟩ := hSw; go_simp; with_reducible rfl
            simp only [Act.put, List.setIfInBounds_toArray, List.set_cons_zero, List.set_cons_succ]
            refine Guard.wpAnyG_take (i := 7) (oi := _) (v := ?vB7) rfl (by kernel_rfl) (fun _ _ _ h => h) (Or.inl ⟨by rfl, ?hyB7⟩) hS0 ?restB7
            case hyB7 => intro w hSw; obtain ⟨s1, s2, s3, s4, s5⟩ := hSw; go_simp; with_reducible rfl
            simp only [Act.put, List.setIfInBounds_toArray, List.set_cons_zero, List.set_cons_succ]
            refine Guard.wpAnyG_take (i := 8) (oi := _) (v := ?vB8) rfl (by kernel_rfl) (fun _ _ _ h => h) (Or.inl ⟨by rfl, ?hyB8⟩) hS0 ?restB8
            case hyB8 => intro w hSw; obtain ⟨s1, s2, s3, s4, s5⟩ := hSw; go_simp; with_reducible rfl
            simp only [Act.put, List.setIfInBounds_toArray, List.set_cons_zero, List.set_cons_succ]
            refine Guard.wpAnyG_take (i := 9) (oi := _) (v := ?vB9) rfl (by kernel_rfl) (fun _ _ _ h => h) (Or.inl ⟨by rfl, ?hyB9⟩) hS0 ?restB9
            case hyB9 => intro w hSw; obtain ⟨s1, s2, s3, s4, s5⟩ := hSw; go_simp; with_reducible rfl
            simp only [Act.put, List.setIfInBounds_toArray, List.set_cons_zero, List.set_cons_succ]
            refine Guard.wpAnyG_take (i := 10) (oi := _) (v := ?vB10) rfl (by kernel_rfl) (fun _ _ _ h => h) (Or.inl ⟨by rfl, ?hyB10⟩) hS0 ?restB10
            case hyB10 => intro w hSw; obtain ⟨s1, s2, s3, s4, s5⟩ := hSw; go_simp; with_reducible rfl
            simp only [Act.put, List.setIfInBounds_toArray, List.set_cons_zero, List.set_cons_succ]
            refine Guard.wpAnyG_take (i := 11) (oi := _) (v := ?vB11) rfl (by kernel_rfl) (fun _ _ _ h => h) (Or.inl ⟨by rfl, ?hyB11⟩) hS0 ?restB11
            case hyB11 => intro w hSw; obtain ⟨s1, s2, s3, s4, s5⟩ := hSw; go_simp; with_reducible rfl
            simp only [Act.put, List.setIfInBounds_toArray, List.set_cons_zero, List.set_cons_succ]
            refine Guard.wpAnyG_take (i := 12) (oi := _) (v := ?vB12) rfl (by kernel_rfl) (fun _ _ _ h => h) (Or.inl ⟨by rfl, ?hyB12⟩) hS0 ?restB12
            case hyB12 => intro w hSw; obtain ⟨s1, s2, s3, s4, s5⟩ := hSw; go_simp; with_reducible rfl
            simp only [Act.put, List.setIfInBounds_toArray, List.set_cons_zero, List.set_cons_succ]
            refine Guard.wpAnyG_take (i := 13) (oi := _) (v := ?vB13) rfl (by kernel_rfl) (fun _ _ _ h => h) (Or.inl ⟨by rfl, ?hyB13⟩) hS0 ?restB13
            case hyB13 => intro w hSw; obtain ⟨s1, s2, s3, s4, s5⟩ := hSw; go_simp; with_reducible rfl
            simp only [Act.put, List.setIfInBounds_toArray, List.set_cons_zero, List.set_cons_succ]
            refine Guard.guard_one (j := 14) rfl (by kernel_rfl) fun K hK => ?_
            go_simp
            refine hK _ _ ⟨SOF _ (show Keep [] wr ((wr.alloc (.cells #[.slice (some ⟨gb, 0, none⟩) np cb] 93)).drew) from ((Keep.refl [] wr).alloc _).drew), ?_⟩
            clear hK K
            simp only [Act.put, List.setIfInBounds_toArray, List.set_cons_zero, List.set_cons_succ]
            have RA := Lib.hid ((RX.out.alloc (.cells #[.slice (some ⟨gb, 0, none⟩) np cb] 93)).drew)
            refine Guard.guard_last rfl (by kernel_rfl) fun K hK => ?_
            refine step_append_lies _ (by rfl) _ _ _ (by rfl) w5.heap.size 93 iS _ 1 24 Tryz.underlying23 HIS.out HZS.out.1 HZS.out.2.1 HZS.out.2.2 rfl (by decide) (.slice aa j ac) j ((rowS 0 l.threads bs).take j) (by rfl) RA.out ⟨wr.heap.size, 0, none⟩ 1 1 [.slice (some ⟨gb, 0, none⟩) np cb] (by rfl) (by rfl) (World.news_of_block (cs := #[.slice (some ⟨gb, 0, none⟩) np cb]) (fr := (0, 0)) (alloc_new wr _)) (one_sl _ _ _) (by decide) q3.out q4.out (by have := WL.out; simp; omega) _ rfl ?_
            intro gA capA w9 hown9 hgrow9 hat9 hlt9
            have O9 := Lib.hid hown9
            have G9 := Lib.hid hgrow9
            have A9 := Lib.hid hat9
            have V9 := Lib.hid ((hgrow9.block vb (by have := hsz.out; simp; omega) hvo.out).trans (alloc_some _ VX.out))
            have t1 := (cell_of V9.out 4).trans rfl
            have t2 := free_of V9.out 4
            clear hown9 hgrow9 hat9
            refine hK _ _ ?_
            clear hK K
            simp only [Act.put, List.setIfInBounds_toArray, List.set_cons_zero, List.set_cons_succ]
            refine Guard.any_one (j := 16) rfl (by kernel_rfl) fun K hK => ?_
            go_simp
            refine hK _ _ ?_
            clear hK K
            simp only [Act.put, List.setIfInBounds_toArray, List.set_cons_zero, List.set_cons_succ]
            refine Guard.any_one (j := 17) rfl (by kernel_rfl) fun K hK => ?_
            go_simp
            refine hK _ _ (Guard.any_done (by kernel_rfl) ?_)
            clear hK K
            go_wp2_with fail
            go_meet
            case rel =>
              refine ⟨rfl, .slice (some ⟨gA, 0, none⟩) (j + 1) capA, ?_, ?_, ?_⟩
              · rw [set_same V9.out]; rfl
              · rw [HR0.out]
                exact Har.owns_block O9.out fun x hx => set_other (by have h1 := (O9.out.lt x hx).1; have := V5L.out; omega) _ _
              · refine ((KX.out.trans ((((Keep.refl [] wr).alloc (.cells #[.slice (some ⟨gb, 0, none⟩) np cb] 93)).drew).mono (by simp))).chain (T := (Value.slice aa j ac).ownBlock.toList) ⟨G9.out.os, G9.out.tape, G9.out.output, G9.out.size, fun i hi hn => G9.out.block i hi fun e => hn (by rw [← e]; simp)⟩ fun x hx => .inr ?_).set (.inl (by simp)) 4 _
                exact (RX.out.lt x (by simpa using hx)).1
          case rest =>
            obtain ⟨rfl, av3, h5, h6, h7⟩ := hcut
            have H5 := Lib.hid (And.intro h5 (And.intro h6 h7))
            clear h5 h6 h7 z3 z4 x0 m1 xT
            go_wp2_with fail
            go_roundw
            case rel => exact ⟨j + 1, av3, by go_num, hlt, H5.out.1, H5.out.2.1, H5.out.2.2⟩
            case measure => simp [intOf]; omega
        · have hjk : j = k := by omega
          subst hjk
          have htk0 : (rowS 0 l.threads bs).take j = rowS 0 l.threads bs := List.take_of_length_le (by rw [hrl.out]; have := HN.out.2; omega)
          rw [htk0] at RX hRx
          have hxlen : (rowS 0 l.threads bs).length = j := by rw [hrl.out]; exact HN.out.2.symm
          have OLT := Lib.hid (lt_of VX.out)
          have hvo : Hid (some vb ≠ (Value.slice aa j ac).ownBlock) := Lib.hid (fun e => by have h1 := (RX.out.lt vb e.symm).1; have h2 := V5L.out; omega)
          have q3 := Lib.hid (show j + 1 ≤ maxLen by unfold maxLen; omega)
          have q4 := Lib.hid (show (j + 1) * 24 ≤ 140737488355328 by omega)
          obtain ⟨g79, hg79⟩ : ∃ g79, g79 = wr.heap.size := ⟨_, rfl⟩
          obtain ⟨w6, hw6⟩ : ∃ w6, w6 = (wr.alloc (.cells i79.cells.toArray 140)).alloc (.cells #[.slice (some ⟨g79, 0, none⟩) 1 1] 93) := ⟨_, rfl⟩
          have k6 : Keep [] wr w6 := by rw [hw6]; exact ((Keep.refl _ _).alloc _).alloc _
          have K6 := Lib.hid k6
          have N6 := Lib.hid (show w6.heap[wr.heap.size + 1]? = some (.cells #[.slice (some ⟨g79, 0, none⟩) 1 1] 93 (0, 0)) by rw [hw6]; exact new2 wr _ _)
          have M6 := Lib.hid (show w6.heap[g79]? = some (.cells i79.cells.toArray 140 (0, 0)) by rw [hw6, hg79]; exact alloc_some _ (alloc_new wr _))
          have R6 := Lib.hid (show w6.ownsRow w5.heap.size 93 1 (.slice aa j ac) j (rowS 0 l.threads bs) from Har.owns_block RX.out fun x hx => k6.block x (RX.out.lt x hx).2 (by simp))
          have S6 := Lib.hid (show w5.heap.size ≤ w6.heap.size from Nat.le_trans hKx.size k6.size)
          have W6 := Lib.hid hw6
          have G79 := Lib.hid hg79
          clear hVx hRx hKx k6 hw6 hg79 htk0 m0 kw0
          go_wp2_with (at_builtin; go_must (rw [← G79.out]; rw [show (wr.alloc (.cells #[.int .i64 79, .int .i64 0, .int .i64 0, .int .i64 0, .int .u64 0, .int .i64 0, .int .u64 0, .int .i64 0] 140)).alloc (.cells #[.slice (some ⟨g79, 0, none⟩) 1 1] 93) = w6 from W6.out.symm]; refine wpList_append_lies _ rfl _ _ 23 rfl w5.heap.size 93 iS _ 1 24 Tryz.underlying23 HIS.out HZS.out.1 HZS.out.2.1 HZS.out.2.2 rfl (by decide) (.slice aa j ac) j (rowS 0 l.threads bs) rfl R6.out ⟨g79 + 1, 0, none⟩ 1 1 [.slice (some ⟨g79, 0, none⟩) 1 1] (by rfl) rfl (World.news_of_block (cs := #[.slice (some ⟨g79, 0, none⟩) 1 1]) (fr := (0, 0)) (by have q := N6.out; rw [← G79.out] at q; exact q)) (one_sl _ _ _) (by decide) q3.out q4.out S6.out _ rfl ?_))
          intro gA capA w9 hown9 hgrow9 hat9 hlt9
          have O9 := Lib.hid hown9
          have G9 := Lib.hid hgrow9
          have V9 := Lib.hid ((hgrow9.block vb (by have := OLT.out; have := K6.out.size; omega) hvo.out).trans (K6.out.old VX.out (by simp)))
          have t1 := (cell_of V9.out 4).trans rfl
          have t2 := free_of V9.out 4
          have k9 : Keep [] w5 w9 → True := fun _ => trivial
          have K9 := Lib.hid (show Keep [vb] w5 w9 from ((KX.out.trans (K6.out.mono (by simp))).chain (T := (Value.slice aa j ac).ownBlock.toList) ⟨hgrow9.os, hgrow9.tape, hgrow9.output, hgrow9.size, fun i hi hn => hgrow9.block i hi fun e => hn (by rw [← e]; simp)⟩ fun x hx => .inr (RX.out.lt x (by simpa using hx)).1))
          have M9 := Lib.hid (show w9.heap[g79]? = some (.cells i79.cells.toArray 140 (0, 0)) from (hgrow9.block g79 (lt_of M6.out) (fun e => by have := (RX.out.lt g79 e.symm).2; have := G79.out; omega)).trans M6.out)
          clear hown9 hgrow9 hat9 k9
          go_wp2_with fail
          obtain ⟨w10, hw10⟩ : ∃ w10, w10 = w9.setCell ⟨vb, 4, none⟩ (.slice (some ⟨gA, 0, none⟩) (j + 1) capA) := ⟨_, rfl⟩
          have v10 : w10.heap[vb]? = some (.cells #[.slice none 0 0, .slice none 0 0, .slice (some ⟨gC, 0, none⟩) (nc + 2) cC, .slice va j vc, .slice (some ⟨gA, 0, none⟩) (j + 1) capA] 59 (0, 0)) := by rw [hw10, set_same V9.out]; rfl
          have V10 := Lib.hid v10
          have K10 := Lib.hid (show Keep [vb] w5 w10 by rw [hw10]; exact K9.out.set (.inl (by simp)) _ _)
          have O10 := Lib.hid (show w10.ownsRow w5.heap.size 93 1 (.slice (some ⟨gA, 0, none⟩) (j + 1) capA) (j + 1) (rowS 0 l.threads bs ++ [.slice (some ⟨g79, 0, none⟩) 1 1]) by rw [hw10]; exact Har.owns_block O9.out fun x hx => set_other (by have h1 := (O9.out.lt x hx).1; have := V5L.out; omega) _ _)
          have hg79b : vb ≠ g79 := by have := OLT.out; have := G79.out; omega
          have M10 := Lib.hid (show w10.heap[g79]? = some (.cells i79.cells.toArray 140 (0, 0)) by rw [hw10]; exact (set_other hg79b.symm _ _).trans M9.out)
          rw [← hw10]
          have kb : Keep [vb] w5 w10 := K10.out
          have hlb10 : w10.heap[lb]? = some (.cells #[.slice a nc c, .slice a2 j c2] 25 (0, 0)) := kb.old LB5.out (by simp; exact hvl.symm)
          have y0 := (cell_of hlb10 0).trans rfl
          have y1 := (cell_of hlb10 1).trans rfl
          have y2 := (cell_of v10 2).trans rfl
          have y3 := (cell_of v10 4).trans rfl
          have y7 := (cell_of v10 3).trans rfl
          have hrv : rb ≠ vb := by have := HB.out; omega
          have rb10 : w10.heap[rb]? = some (.cells #[.slice none 0 0, .slice none 0 0, .slice none 0 0, .slice none 0 0, .slice none 0 0] 59 (0, 0)) := by
            have q : w1.heap[rb]? = _ := (show w1.heap[rb]? = w1.heap[w.heap.size + 1]? by rw [HB.out.2.1]).trans B1.out.2.1
            exact K10.out.old (KR.out.old (K4.out.old q (by simp; exact hrv)) (by simp; exact hrv)) (by simp; exact hrv)
          have RB10 := Lib.hid rb10
          have p0 := (cell_of rb10 0).trans rfl
          have p1 := (cell_of rb10 1).trans rfl
          have p2 := (cell_of rb10 2).trans rfl
          have p3 := (cell_of rb10 3).trans rfl
          have p4 := (cell_of rb10 4).trans rfl
          have pf := free_of rb10
          have hvr : vb ≠ rb := hrv.symm
          clear rb10
          have y4 := (cell_of v10 0).trans rfl
          have y5 := (cell_of v10 1).trans rfl
          have y6 := free_of v10
          have hc1 : (nc : Int) ≤ cC := by
            rcases O4.out.2 with ⟨e, -⟩ | ⟨g3, cap3, cur3, e3, -, -, hle, -⟩
            · simp at e
            · simp only [Value.slice.injEq] at e3
              have := e3.2.2
              omega
          have hc2 : (j : Int) ≤ capA := by
            rcases O10.out.2 with ⟨e, -⟩ | ⟨g3, cap3, cur3, e3, -, -, hle, -⟩
            · simp at e
            · simp only [Value.slice.injEq] at e3
              have := e3.2.2
              omega
          have hc3 : 0 ≤ (nc : Int) := by omega
          have hc4 : 0 ≤ (j : Int) := by omega
          clear hw10 t1 t2 z3 z4 v10 kb hlb10 m1
          refine wp_region_still_tail 14 (by kernel_rfl) (by kernel_rfl) ?_
          simp only [List.take_succ_cons, List.take_zero, List.drop_succ_cons, List.drop_zero]
          repeat still_step
          refine wpStill_nil ?_
          go_wp2_with fail
          obtain ⟨we, hwe⟩ : ∃ we, we = (w10.setCell ⟨vb, 0, none⟩ (.slice (some ⟨gC, 0, none⟩) nc cC)).setCell ⟨vb, 1, none⟩ (.slice (some ⟨gA, 0, none⟩) j capA) := ⟨_, rfl⟩
          have ke : Keep [vb, rb] w10 we := by rw [hwe]; exact ((Keep.refl [vb, rb] w10).set (.inl (by simp)) 0 _).set (.inl (by simp)) 1 _
          have re : we.heap[rb]? = some (.cells #[.slice none 0 0, .slice none 0 0, .slice none 0 0, .slice none 0 0, .slice none 0 0] 59 (0, 0)) := by rw [hwe]; exact (set_other hrv _ _).trans ((set_other hrv _ _).trans RB10.out)
          rw [← hwe]
          clear hwe
          obtain ⟨hr1, hr2⟩ := five_set re (.slice (some ⟨gC, 0, none⟩) nc cC) (.slice (some ⟨gA, 0, none⟩) j capA) (.slice (some ⟨gC, 0, none⟩) (nc + 2) cC) (.slice va j vc) (.slice (some ⟨gA, 0, none⟩) (j + 1) capA)
          obtain ⟨wz, hwz⟩ : ∃ wz, wz = ((((we.setCell ⟨rb, 0, none⟩ (.slice (some ⟨gC, 0, none⟩) nc cC)).setCell ⟨rb, 1, none⟩ (.slice (some ⟨gA, 0, none⟩) j capA)).setCell ⟨rb, 2, none⟩ (.slice (some ⟨gC, 0, none⟩) (nc + 2) cC)).setCell ⟨rb, 3, none⟩ (.slice va j vc)).setCell ⟨rb, 4, none⟩ (.slice (some ⟨gA, 0, none⟩) (j + 1) capA) := ⟨_, rfl⟩
          rw [← hwz] at hr1 hr2
          rw [← hwz]
          clear hwz
          obtain ⟨wf, hwf⟩ : ∃ wf, wf = wz.drew := ⟨_, rfl⟩
          have kf : Keep [vb, rb] w10 wf := by rw [hwf]; exact (ke.trans (hr2.mono (by simp))).drew
          have hrf : wf.heap[rb]? = some (.cells #[.slice (some ⟨gC, 0, none⟩) nc cC, .slice (some ⟨gA, 0, none⟩) j capA, .slice (some ⟨gC, 0, none⟩) (nc + 2) cC, .slice va j vc, .slice (some ⟨gA, 0, none⟩) (j + 1) capA] 59 (0, 0)) := by rw [hwf]; exact hr1
          rw [← hwf]
          clear hwf hr1 hr2
          refine bodyPost_ret (results_cell_row rfl _ _ rb 59 _ (0, 0) _ rfl hrf Tryz.underlying59 rfl (by kernel_rfl)) rfl ?_
          have hb0 := HB.out
          have hb1 := B1.out.2.2.2
          have hlo : ∀ x ∈ [vb, rb], x < w1.heap.size := by intro x hx; simp at hx; omega
          have k4f : Keep [vb, rb] w4 wf := ((KR.out.mono (by simp)).trans (K10.out.mono (by simp))).trans kf
          have s14 := K4.out.size
          have s45 := KR.out.size
          have hw1 : w.heap.size ≤ w1.heap.size := K1.out.size
          have keyC := Har.owns_block O4.out fun x hx => k4f.block x (O4.out.lt x hx).2 (fun hm => by have h1 := (O4.out.lt x hx).1; have h2 := hlo x hm; omega)
          have keyA := Har.owns_block O10.out fun x hx => kf.block x (O10.out.lt x hx).2 (fun hm => by have h1 := (O10.out.lt x hx).1; have h2 := hlo x hm; omega)
          have keyT := RR.out.keep ((K10.out.mono (by simp)).trans kf) (fun x hx => by have h2 := hlo x hx; omega)
          have hg79w : w5.heap.size ≤ g79 := by have := KX.out.size; have := G79.out; omega
          refine ⟨gC, cC, gA, capA, g79, .slice va j vc, bs, ?_, ⟨?_, keyT.mono (by omega), ?_, ?_, by omega⟩, ?_⟩
          · unfold lentV
            rw [← HN.out.1, ← HN.out.2]
          · rw [← HN.out.1]
            exact Pick.owns_mono keyC hw1
          · rw [← HN.out.2]
            exact Pick.owns_mono keyA (by omega)
          · exact kf.old M10.out (fun hm => by have h2 := hlo g79 hm; omega)
          · exact (KL0.out).chain ((K10.out.mono (by simp)).trans kf) fun x hx => .inr (by simp at hx; omega)
end Go.Proofs.YtdkdeiofjoccnaaGreat.Lit

/- stratalaw03: lent.kept, of a program that nobody has turned. -/
namespace Go.Proofs.YtdkdeiofjoccnaaGreat.Lit
open Go.RowKit Go.Proofs.YtdkdeiofjoccnaaGreat.Mem Go.Proofs.YtdkdeiofjoccnaaGreat.Ar Go.Proofs.YtdkdeiofjoccnaaGreat.Un
set_option linter.unusedVariables false
set_option maxRecDepth 100000

theorem LentAt.keep0 {w w' : World} {base gC cC gA cA g79 : Nat} {tT : Value} {bs : List (Nat × Nat)} {l : LP} (h : LentAt w base gC cC gA cA g79 tT bs l) (k : Keep [] w w') : LentAt w' base gC cC gA cA g79 tT bs l :=
  ⟨Har.owns_block h.cells fun g hg => k.block g (h.cells.lt g hg).2 (by simp), h.ths.keep k (by simp), Har.owns_block h.all fun g hg => k.block g (h.all.lt g hg).2 (by simp), k.old h.mark.1 (by simp), h.mark.2⟩

/-- the i-th program that is lent, and its slice in all -/
theorem LentAt.at_ {w : World} {base gC cC gA cA g79 : Nat} {tT : Value} {bs : List (Nat × Nat)} {l : LP} (h : LentAt w base gC cC gA cA g79 tT bs l) {i : Nat} (hi : i < l.threads.length) :
    ∃ gT vc gb cb, tT = .slice (some ⟨gT, 0, none⟩) l.threads.length vc ∧ w.cell? ⟨gT, i, none⟩ = some (.slice (some ⟨gb, 0, none⟩) (l.threads[i].length + 2) cb) ∧ w.cell? ⟨gA, i, none⟩ = some (.slice (some ⟨gb, 0, none⟩) l.threads[i].length cb) ∧
      w.ownsRow base 140 8 (.slice (some ⟨gb, 0, none⟩) (l.threads[i].length + 2) cb) (l.threads[i].length + 2) (flatI (l.threads[i] ++ [i77, i78])) := by
  have hb : i < bs.length := by rw [h.ths.len]; exact hi
  obtain ⟨gT, vc, rfl⟩ : ∃ gT vc, tT = .slice (some ⟨gT, 0, none⟩) l.threads.length vc := by
    rcases h.ths.row.2 with ⟨-, h0⟩ | ⟨g, cap, cur, e, -⟩
    · omega
    · exact ⟨g, cap, e⟩
  have add0 : ∀ (g j : Nat), (⟨g, 0, none⟩ : Addr).add j = ⟨g, j, none⟩ := fun g j => by unfold Addr.add; split <;> simp_all
  refine ⟨gT, vc, bs[i].1, bs[i].2, rfl, ?_, ?_, h.ths.each i hb hi⟩
  · have q := h.ths.row.cells (g := gT) rfl i _ (rowS_at 2 l.threads bs i hi hb)
    rw [add0] at q
    exact q
  · have hl : i < (rowS 0 l.threads bs).length := by rw [rowS_len 0 _ _ h.ths.len]; exact hi
    have q := h.all.cells (g := gA) rfl i (.slice (some ⟨bs[i].1, 0, none⟩) l.threads[i].length bs[i].2) (by rw [List.getElem?_append_left hl, rowS_at 0 l.threads bs i hi hb]; simp)
    rw [add0] at q
    exact q
theorem LentAt.last {w : World} {base gC cC gA cA g79 : Nat} {tT : Value} {bs : List (Nat × Nat)} {l : LP} (h : LentAt w base gC cC gA cA g79 tT bs l) :
    w.cell? ⟨gA, l.threads.length, none⟩ = some (.slice (some ⟨g79, 0, none⟩) 1 1) ∧ w.cell? ⟨g79, 0, none⟩ = some (.int .i64 79) ∧ w.cell? ⟨gC, l.cells.length, none⟩ = some (.int .u64 771) ∧ w.cell? ⟨gC, l.cells.length + 1, none⟩ = some (.int .u64 772) ∧
      l.cells.length + 2 ≤ cC ∧ l.threads.length + 1 ≤ cA := by
  have add0 : ∀ (g j : Nat), (⟨g, 0, none⟩ : Addr).add j = ⟨g, j, none⟩ := fun g j => by unfold Addr.add; split <;> simp_all
  have hl := rowS_len 0 l.threads bs h.ths.len
  refine ⟨?_, (cell_of h.mark.1 0).trans rfl, ?_, ?_, ?_, ?_⟩
  · have q := h.all.cells (g := gA) rfl l.threads.length (.slice (some ⟨g79, 0, none⟩) 1 1) (by rw [List.getElem?_append_right (by omega), hl]; simp)
    rw [add0] at q
    exact q
  · have q := h.cells.cells (g := gC) rfl l.cells.length (.int .u64 771) (by simp)
    rw [add0] at q
    exact q
  · have q := h.cells.cells (g := gC) rfl (l.cells.length + 1) (.int .u64 772) (by simp)
    rw [add0] at q
    exact q
  · rcases h.cells.2 with ⟨e, -⟩ | ⟨g3, cap3, cur3, e3, -, -, hle, -⟩
    · simp at e
    · simp only [Value.slice.injEq] at e3
      rw [e3.2.2]; exact hle
  · rcases h.all.2 with ⟨e, -⟩ | ⟨g3, cap3, cur3, e3, -, -, hle, -⟩
    · simp at e
    · simp only [Value.slice.injEq] at e3
      rw [e3.2.2]; exact hle
theorem LentAt.seesC {w : World} {base gC cC gA cA g79 : Nat} {tT : Value} {bs : List (Nat × Nat)} {l : LP} (h : LentAt w base gC cC gA cA g79 tT bs l) : Sees w (some ⟨gC, 0, none⟩) (l.cells.map (.int .u64)) := by
  refine ⟨fun i hi => ⟨gC, 0, rfl, ?_⟩⟩
  have add0 : ∀ (g j : Nat), (⟨g, 0, none⟩ : Addr).add j = ⟨g, j, none⟩ := fun g j => by unfold Addr.add; split <;> simp_all
  have hi' : i < l.cells.length := by simpa using hi
  have q := h.cells.cells (g := gC) rfl i (.int .u64 l.cells[i]) (by rw [List.map_append, List.getElem?_append_left (by simpa using hi'), List.getElem?_map, List.getElem?_eq_getElem hi']; rfl)
  rw [add0] at q
  rw [Nat.zero_add, q]
  simp
theorem sees_part {w : World} {base gb n cb : Nat} {p q : List Ins} (h : w.ownsRow base 140 8 (.slice (some ⟨gb, 0, none⟩) n cb) n (flatI (p ++ q))) : Sees w (some ⟨gb, 0, none⟩) (flatI p) := by
  refine ⟨fun i hi => ⟨gb, 0, rfl, ?_⟩⟩
  have add0 : ∀ (g j : Nat), (⟨g, 0, none⟩ : Addr).add j = ⟨g, j, none⟩ := fun g j => by unfold Addr.add; split <;> simp_all
  have q := h.cells (g := gb) rfl i (flatI p)[i] (by rw [show flatI (p ++ q) = flatI p ++ flatI q by simp [flatI], List.getElem?_append_left hi, List.getElem?_eq_getElem hi])
  rw [add0] at q
  rw [Nat.zero_add, q]
theorem mark_at {w : World} {base gb n cb : Nat} {p : List Ins} (h : w.ownsRow base 140 8 (.slice (some ⟨gb, 0, none⟩) n cb) n (flatI (p ++ [i77, i78]))) : w.cell? ⟨gb, p.length * 8, none⟩ = some (.int .i64 77) ∧ w.cell? ⟨gb, (p.length + 1) * 8, none⟩ = some (.int .i64 78) := by
  have add0 : ∀ (g j : Nat), (⟨g, 0, none⟩ : Addr).add j = ⟨g, j, none⟩ := fun g j => by unfold Addr.add; split <;> simp_all
  have e : flatI (p ++ [i77, i78]) = flatI p ++ (i77.cells ++ i78.cells) := by simp [flatI]
  have hl := flatI_length p
  constructor
  · have q := h.cells (g := gb) rfl (p.length * 8) (.int .i64 77) (by rw [e, List.getElem?_append_right (by omega), hl, Nat.sub_self]; rfl)
    rw [add0] at q
    exact q
  · have q := h.cells (g := gb) rfl ((p.length + 1) * 8) (.int .i64 78) (by rw [e, List.getElem?_append_right (by omega), hl, show (p.length + 1) * 8 - p.length * 8 = 8 by omega]; rfl)
    rw [add0] at q
    exact q
/-- a lent program can be read as what it was made of -/
theorem LentAt.lit {w : World} {base gC cC gA cA g79 : Nat} {tT : Value} {bs : List (Nat × Nat)} {l : LP} (h : LentAt w base gC cC gA cA g79 tT bs l) : LitAt w (.slice (some ⟨gC, 0, none⟩) l.cells.length cC) (.slice (some ⟨gA, 0, none⟩) l.threads.length cA) l := by
  have hl := rowS_len 0 l.threads bs h.ths.len
  have add0 : ∀ (g j : Nat), (⟨g, 0, none⟩ : Addr).add j = ⟨g, j, none⟩ := fun g j => by unfold Addr.add; split <;> simp_all
  refine ⟨⟨_, _, rfl, h.seesC⟩, ⟨_, _, rowS 0 l.threads bs, rfl, hl, ⟨fun i hi => ⟨gA, 0, rfl, ?_⟩⟩, fun i h1 h2 => ?_⟩⟩
  · have q := h.all.cells (g := gA) rfl i (rowS 0 l.threads bs)[i] (by rw [List.getElem?_append_left hi, List.getElem?_eq_getElem hi])
    rw [add0] at q
    rw [Nat.zero_add, q]
  · have hb : i < bs.length := by rw [h.ths.len]; exact h2
    have e := rowS_at 0 l.threads bs i h2 hb
    rw [List.getElem?_eq_getElem h1] at e
    exact ⟨_, _, Option.some.inj e, sees_part (h.ths.each i hb h2)⟩
theorem drewN_two (w : World) (n d : Nat) : (w.drewN n).drewN d = w.drewN (n + d) := by simp [World.drewN, Nat.add_assoc]

theorem quiet_of_drewN {P : Program} {f : FuncId} {args : Array Value} {w : World} {n : Nat} {v : Value}
    (h : Calls P f args (w.drewN n) fun e w' => e = .returned v ∧ ∃ d, w' = (w.drewN n).drewN d) : Calls P f args (w.drewN n) fun e w'' => e = .returned v ∧ ∃ m, w'' = w.drewN m :=
  h.mono fun _ _ ⟨he, d, hm⟩ => ⟨he, n + d, by rw [hm, drewN_two]⟩

set_option maxHeartbeats 4000000 in
theorem kept {w : World} {base gC cC gA cA g79 : Nat} {tT cv tv : Value} {bs : List (Nat × Nat)} {l : LP} (h : LentAt w base gC cC gA cA g79 tT bs l) (hl : LitAt w cv tv l) (hs : l.cells.length ≤ 1000000000000 ∧ l.threads.length ≤ 1000000000000 ∧ ∀ p ∈ l.threads, p.length ≤ 1000000000000) :
    Calls Tryz.prog 15 #[lentV gC cC gA cA tT l, .agg #[cv, tv]] w fun e w' => e = .returned (.bool true) ∧ Keep [] w w' := by
  obtain ⟨⟨a, c, rfl, s⟩, ⟨a2, c2, ps, rfl, e3, s2, s3⟩⟩ := hl
  obtain ⟨l1, l2, l3, l4, l5, l6⟩ := h.last
  have hsame : ∀ w1 : World, Keep [] w w1 → Calls Tryz.prog 56 #[.slice (some ⟨gC, 0, none⟩) l.cells.length cC, .slice a l.cells.length c] w1 fun e w' => e = .returned (.bool true) ∧ ∃ d, w' = w1.drewN d := by
    intro w1 k
    have := sameWords cC c (h.seesC.keep0 k) (s.keep0 k) (by omega)
    have e : sameB l.cells l.cells = true := by simp [sameB]
    rw [e] at this
    exact this
  have HSM := Lib.hid hsame
  have HL := Lib.hid h
  have S2 := Lib.hid s2
  have S3 := Lib.hid (And.intro e3 s3)
  have HS := Lib.hid hs
  unfold lentV
  obtain ⟨nc, hnc⟩ : ∃ nc, nc = l.cells.length := ⟨_, rfl⟩
  obtain ⟨nt, hnt⟩ : ∃ nt, nt = l.threads.length := ⟨_, rfl⟩
  obtain ⟨nc1, hnc1⟩ : ∃ x, x = l.cells.length + 1 := ⟨_, rfl⟩
  obtain ⟨nc2, hnc2⟩ : ∃ x, x = l.cells.length + 2 := ⟨_, rfl⟩
  obtain ⟨nt1, hnt1⟩ : ∃ x, x = l.threads.length + 1 := ⟨_, rfl⟩
  have HN := Lib.hid (And.intro hnc hnt)
  have i0 : (nc : Int) ≤ cC := by omega
  have i1 : 0 ≤ (nc : Int) := by omega
  have i2 : (nc : Int) < nc2 := by omega
  have i3 : (nc1 : Int) < nc2 := by omega
  have i4 : 0 ≤ (nc1 : Int) := by omega
  have i5 : (nt : Int) < nt1 := by omega
  have i6 : 0 ≤ (nt : Int) := by omega
  have i7 : IntKind.i64.wrap ((nc : Int) + 1) = (nc1 : Int) := by rw [IntWalk.i64_in _ (by omega)]; omega
  have i8 : nc1 < nc2 := by omega
  have i9 : nc < nc2 := by omega
  have i10 : nt < nt1 := by omega
  rw [← hnc] at l3
  rw [← hnc1] at l4
  rw [← hnt] at l1
  rw [← hnc] at HSM
  have hnt12 : nt ≤ 1000000000000 := by omega
  rw [← hnc2, ← hnt1, ← hnc, ← hnt]
  obtain ⟨w1, hw1⟩ : ∃ w1, w1 = (w.alloc (.cells #[.slice (some ⟨gC, 0, none⟩) nc cC, .slice (some ⟨gA, 0, none⟩) nt cA, .slice (some ⟨gC, 0, none⟩) nc2 cC, tT, .slice (some ⟨gA, 0, none⟩) nt1 cA] 59)).alloc (.cells #[.slice a nc c, .slice a2 nt c2] 25) := ⟨_, rfl⟩
  have k1 : Keep [] w w1 := by rw [hw1]; exact ((Keep.refl _ _).alloc _).alloc _
  have b1 : w1.heap[w.heap.size]? = some (.cells #[.slice (some ⟨gC, 0, none⟩) nc cC, .slice (some ⟨gA, 0, none⟩) nt cA, .slice (some ⟨gC, 0, none⟩) nc2 cC, tT, .slice (some ⟨gA, 0, none⟩) nt1 cA] 59 (0, 0)) := by rw [hw1]; exact alloc_some _ (alloc_new w _)
  have b2 : w1.heap[w.heap.size + 1]? = some (.cells #[.slice a nc c, .slice a2 nt c2] 25 (0, 0)) := by rw [hw1]; exact new2 w _ _
  obtain ⟨xb, hxb⟩ : ∃ x, x = w.heap.size := ⟨_, rfl⟩
  obtain ⟨lb, hlb⟩ : ∃ x, x = w.heap.size + 1 := ⟨_, rfl⟩
  have B := Lib.hid (And.intro b1 b2)
  rw [← hlb, ← hxb] at B
  have K1 := Lib.hid k1
  have x2 := (cell_of B.out.1 2).trans rfl
  have x3 := (cell_of B.out.1 3).trans rfl
  have x4 := (cell_of B.out.1 4).trans rfl
  have y0 := (cell_of B.out.2 0).trans rfl
  have y1 := (cell_of B.out.2 1).trans rfl
  have m1 := k1.cell l1 (by simp)
  have m2 := k1.cell l2 (by simp)
  have m3 := k1.cell l3 (by simp)
  have m4 := k1.cell l4 (by simp)
  clear h s s2 e3 s3 l1 l2 l3 l4 l5 l6 hsame hs hnc hnt hnc1 hnc2 hnt1 k1 b1 b2
  go_enter Tryz.func15, Tryz.ntmps15
  go_upto_region 2 with fail
  rw [show (w.alloc (.cells #[.slice (some ⟨gC, 0, none⟩) nc cC, .slice (some ⟨gA, 0, none⟩) nt cA, .slice (some ⟨gC, 0, none⟩) nc2 cC, tT, .slice (some ⟨gA, 0, none⟩) nt1 cA] 59 (0, 0))).alloc (.cells #[.slice a nc c, .slice a2 nt c2] 25 (0, 0)) = w1 from hw1.symm, ← hlb, ← hxb]
  clear hw1 hlb hxb
  go_quiet ((go_at_call 56; go_must (exact quiet_of_drewN (HSM.out _ (K1.out.drewN _)))))
  obtain ⟨w2, hw2⟩ : ∃ w2, w2 = w1.drewN nq := ⟨_, rfl⟩
  have k2 : Keep [] w1 w2 := by rw [hw2]; exact (Keep.refl _ _).drewN _
  have K2 := Lib.hid (K1.out.trans k2)
  have B2 := Lib.hid (And.intro (k2.old B.out.1 (by simp)) (k2.old B.out.2 (by simp)))
  rw [← hw2]
  clear hw2 k2 x2 x3 x4 y0 y1 m1 m2 m3 m4 i0 i2 i3 i4 i7 i8 i9
  have y1 := (cell_of B2.out.2 1).trans rfl
  go_wp2_with fail
  clear y1
  go_loopw [6] (fun i6 wr => ∃ i : Nat, i6 = .int .i64 i ∧ i ≤ nt ∧ Keep [] w2 wr) (fun i6 _ => nt - (intOf i6).toNat)
  case atStart => exact ⟨0, rfl, Nat.zero_le _, Keep.refl _ _⟩
  case round =>
    obtain ⟨i, rfl, hi, hK⟩ := hrel
    have KR := Lib.hid hK
    have BR := Lib.hid (And.intro (hK.old B2.out.1 (by simp)) (hK.old B2.out.2 (by simp)))
    have y1 := (cell_of BR.out.2 1).trans rfl
    by_cases hlt : i < nt
    · have hit : i < l.threads.length := by have := HN.out.2; omega
      have hip : i < ps.length := by rw [S3.out.1]; exact hit
      have kw : Keep [] w wr := K2.out.trans hK
      obtain ⟨g, o, rfl, z0⟩ := (S2.out.keep0 kw).at_ i hip
      obtain ⟨a', c', he, s4⟩ := S3.out.2 i hip hit
      rw [he] at z0
      obtain ⟨gT, vc, gb, cb, hT, q1, q2, q3⟩ := (HL.out.keep0 kw).at_ hit
      have hmk := mark_at q3
      have hsp := sees_part q3
      have S4 := Lib.hid (s4.keep0 kw)
      have S5 := Lib.hid hsp
      obtain ⟨p, hp⟩ : ∃ p, p = l.threads[i] := ⟨_, rfl⟩
      have hpl : p.length ≤ 1000000000000 := by rw [hp]; exact HS.out.2.2 _ (List.getElem_mem hit)
      rw [← hp] at z0 S4 S5 q1 q2 hmk
      rw [← HN.out.2] at hT
      subst hT
      have x3 := (cell_of BR.out.1 3).trans rfl
      have x4 := (cell_of BR.out.1 4).trans rfl
      obtain ⟨np, hnp⟩ : ∃ x, x = p.length := ⟨_, rfl⟩
      obtain ⟨np1, hnp1⟩ : ∃ x, x = p.length + 1 := ⟨_, rfl⟩
      obtain ⟨np2, hnp2⟩ : ∃ x, x = p.length + 2 := ⟨_, rfl⟩
      obtain ⟨n1, n2⟩ := hmk
      rw [← hnp1] at n2
      rw [← hnp2] at q1
      rw [← hnp] at z0 q2 n1
      have HNP := Lib.hid hnp
      have HNP2 := Lib.hid hnp2
      have j1 : (np : Int) < np2 := by omega
      have j2 : (np1 : Int) < np2 := by omega
      have j3 : 0 ≤ (np : Int) := by omega
      have j4 : 0 ≤ (np1 : Int) := by omega
      have j5 : IntKind.i64.wrap ((np : Int) + 1) = (np1 : Int) := by rw [IntWalk.i64_in _ (by omega)]; omega
      have j6 : np < np2 := by omega
      have j7 : np1 < np2 := by omega
      have j8 : i < nt1 := by omega
      have j9 : (i : Int) < nt1 := by omega
      have hpl2 : np ≤ 1000000000000 := by omega
      clear hK kw hit hip he s4 q3 hsp hnp hnp1 hnp2 hpl hp
      go_wp2_with fail
      obtain ⟨wo, rfl⟩ : ∃ wo : World, wo = wr := ⟨_, rfl⟩
      clear n1 n2 j1 j2 j4 j5 j6 j7
      go_loopw [8] (fun i8 wi => ∃ j : Nat, i8 = .int .i64 j ∧ j ≤ np ∧ Keep [] wo wi) (fun i8 _ => np - (intOf i8).toNat)
      case atStart => exact ⟨0, rfl, Nat.zero_le _, Keep.refl _ _⟩
      case round =>
        obtain ⟨j, rfl, hj, hK⟩ := hrel
        have KI := Lib.hid hK
        by_cases hjl : j < np
        · have hjp : j < p.length := by have := HNP.out; omega
          obtain ⟨g', o', rfl, e0, e1, e2, e3, e4, e5, e6, e7⟩ := (S4.out.keep0 hK).ins hjp
          obtain ⟨g2, o2, hg2, f0, f1, f2, f3, f4, f5, f6, f7⟩ := (S5.out.keep0 hK).ins hjp
          simp only [Option.some.injEq, Addr.mk.injEq, and_true] at hg2
          obtain ⟨rfl, rfl⟩ := hg2
          rw [Nat.zero_add] at f0 f1 f2 f3 f4 f5 f6 f7
          obtain ⟨x, hx⟩ : ∃ x, x = p[j] := ⟨_, rfl⟩
          rw [← hx] at e0 e1 e2 e3 e4 e5 e6 e7 f0 f1 f2 f3 f4 f5 f6 f7
          have h1 := hK.cell x3 (by simp)
          have h2 := hK.cell x4 (by simp)
          have h3 := hK.cell y1 (by simp)
          have h4 := hK.cell z0 (by simp)
          have h5 := hK.cell q1 (by simp)
          have h6 := hK.cell q2 (by simp)
          have h7 : j < np2 := by have := HNP.out; have := HNP2.out; omega
          have h8 : (j : Int) < np2 := by omega
          clear hK hx hjp x3 x4 y1 z0 q1 q2
          go_wp2_with fail
          go_quiet (fail)
          go_wp2_with fail
          go_roundw
          case rel => exact ⟨j + 1, by go_num, hjl, KI.out.drewN _⟩
          case measure => simp [intOf]; omega
        · clear hK x3 x4 z0 q1 q2
          go_wp2_with fail
          go_roundw
          case rel => exact ⟨i + 1, by go_num, hlt, KR.out.trans KI.out⟩
          case measure => simp [intOf]; omega
    · clear hK
      go_wp2_with fail
      go_ret
      exact ⟨rfl, K2.out.trans KR.out⟩
end Go.Proofs.YtdkdeiofjoccnaaGreat.Lit
