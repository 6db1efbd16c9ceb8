import Derived.OrdersHeld
import Derived.StillTail
import Derived.KernelRfl
import Derived.Test.YtdkdeiofjoccnaaGreatCopyLit
/- A region that draws its order and ends in a store to a cell that it reads: what is read may be taken first; what is held of the world is asked till one given operation (plain Lean over the model: no program). -/
namespace Go.Proofs.YtdkdeiofjoccnaaGreat.Guard
open Go
set_option linter.unusedVariables false

section
variable {P : Program} {md : Region.Mode} {ops : Array Oper} {Q : Exit → Act → World → Prop} {S : World → Prop} {g : Nat}

/-- does operation j wait for operation i, through others too? -/
def needs (md : Region.Mode) (ops : Array Oper) : Nat → Nat → Nat → Bool
  | 0, _, _ => false
  | f + 1, j, i => match ops[j]? with
    | some oj => oj.after.any fun e => Region.binds md e && (e.on == i || needs md ops f e.on i)
    | none => false

/-- whoever has come up has those behind it for whom it waits -/
def Closed (md : Region.Mode) (ops : Array Oper) (listed : Array Bool) : Prop :=
  ∀ j oj, ops[j]? = some oj → listed.getD j false = true → ∀ e ∈ oj.after, Region.binds md e = true → listed.getD e.on false = true
def closedB (md : Region.Mode) (ops : Array Oper) (listed : Array Bool) : Bool :=
  (List.range ops.size).all fun j => !listed.getD j false || match ops[j]? with
    | some oj => oj.after.all fun e => !Region.binds md e || listed.getD e.on false
    | none => true
theorem closed_of {listed : Array Bool} (h : closedB md ops listed = true) : Closed md ops listed := by
  intro j oj hj hl e he hb
  have hlt : j < ops.size := (Array.getElem?_eq_some_iff.1 hj).1
  have h1 := List.all_eq_true.1 h j (List.mem_range.2 hlt)
  simp only [hl, Bool.not_true, Bool.false_or, hj] at h1
  have h2 := Array.all_eq_true'.1 h1 e he
  simpa [hb] using h2
theorem Closed.set {listed : Array Bool} {i : Nat} (h : Closed md ops listed) (hi : i ∈ Region.ready md ops listed) : Closed md ops (listed.setIfInBounds i true) := by
  obtain ⟨_, oi, hoi, hall⟩ := mem_ready.1 hi
  intro j oj hj hl e he hb
  by_cases hij : i = j
  · subst hij
    have : oj = oi := Option.some.inj (hj.symm.trans hoi)
    subst this
    exact getD_set_true (hall e he hb)
  · rw [getD_set_ne false hij] at hl
    exact getD_set_true (h j oj hj hl e he hb)
theorem needs_listed {listed : Array Bool} (h : Closed md ops listed) : ∀ (f j i : Nat) (oj : Oper), ops[j]? = some oj → (∀ e ∈ oj.after, Region.binds md e = true → listed.getD e.on false = true) → needs md ops f j i = true → listed.getD i false = true
  | 0, j, i, oj, _, _, hn => by simp [needs] at hn
  | f + 1, j, i, oj, hj, hall, hn => by
    simp only [needs, hj] at hn
    obtain ⟨e, he, hb⟩ := Array.any_eq_true'.1 hn
    simp only [Bool.and_eq_true, Bool.or_eq_true, beq_iff_eq] at hb
    have hl := hall e he hb.1
    rcases hb.2 with rfl | hn'
    · exact hl
    · cases ho : ops[e.on]? with
      | none => cases f <;> simp [needs, ho] at hn'
      | some o' => exact needs_listed h f e.on i o' ho (h e.on o' ho hl) hn'

/-- Whatever order is picked from here on; S holds behind each operation till operation g has come up. -/
def wpAnyG (P : Program) (md : Region.Mode) (ops : Array Oper) (Q : Exit → Act → World → Prop) (S : World → Prop) (g : Nat) : Nat → Array Bool → Act → World → Prop
  | 0, listed, a, w => Region.ready md ops listed = [] ∧ Q .normal a w
  | fuel + 1, listed, a, w =>
    (Region.ready md ops listed = [] → Q .normal a w) ∧
    ∀ i ∈ Region.ready md ops listed, wpOp P ops Q i (fun a' w' => (i = g → wpAny P md ops Q fuel (listed.setIfInBounds i true) a' w') ∧ (i ≠ g → S w' ∧ wpAnyG P md ops Q S g fuel (listed.setIfInBounds i true) a' w')) a w

theorem wpAny_of_guard : ∀ (fuel : Nat) (listed : Array Bool) (a : Act) (w : World), wpAnyG P md ops Q S g fuel listed a w → wpAny P md ops Q fuel listed a w
  | 0, _, _, _, h => h
  | fuel + 1, _, _, _, h => ⟨h.1, fun i hi => wpOp_mono (fun a' w' h' => by
      by_cases hg : i = g
      · exact h'.1 hg
      · exact wpAny_of_guard fuel _ a' w' (h'.2 hg).2) (h.2 i hi)⟩

/-- an operation for which g waits may be taken first, if it yields its value in every world that meets S -/
theorem wpAnyG_first {i : Nat} {oi : Oper} {v : Value} (hi : ops[i]? = some oi) (hsel : ∀ (j : Nat) (o : Oper) cs b, ops[j]? = some o → o.op ≠ .select cs b)
    (hQ : ∀ c a w, Q (.panic c) (a.put oi.dst v) w → Q (.panic c) a w) {f0 : Nat} (hn : needs md ops f0 g i = true) (hig : i ≠ g) :
    ∀ (fuel : Nat) (listed : Array Bool) (a : Act) (w : World), Closed md ops listed →
      (∀ j oj, ops[j]? = some oj → j ≠ i → listed.getD j true = false → (∀ e ∈ oj.after, Region.binds md e = true → e.on ≠ i) → oi.apart ops oj = true) →
      i ∈ Region.ready md ops listed → YieldsIf P ops S oi v a → S w →
      wpAnyG P md ops Q S g fuel (listed.setIfInBounds i true) (a.put oi.dst v) w → wpAnyG P md ops Q S g (fuel + 1) listed a w := by
  intro fuel
  induction fuel with
  | zero =>
    intro listed a w _ _ hr hy hS H
    refine ⟨fun h => (by rw [h] at hr; cases hr), fun j hj => ?_⟩
    by_cases hji : j = i
    · subst hji; exact hy.wpOp hi hS ⟨fun e => absurd e hig, fun _ => ⟨hS, H⟩⟩
    · have := ready_mono hj hji
      rw [H.1] at this
      cases this
  | succ fuel ih =>
    intro listed a w hcl hfree hr hy hS H
    refine ⟨fun h => (by rw [h] at hr; cases hr), fun j hj => ?_⟩
    by_cases hji : j = i
    · subst hji; exact hy.wpOp hi hS ⟨fun e => absurd e hig, fun _ => ⟨hS, H⟩⟩
    · have h1 := H.2 j (ready_mono hj hji)
      obtain ⟨hjun, oj, hoj, hall⟩ := mem_ready.1 hj
      have hiun := (mem_ready.1 hr).1
      have hjg : j ≠ g := by
        rintro rfl
        have h2 := needs_listed hcl f0 j i oj hoj hall hn
        rw [getD_both hiun] at h2
        cases h2
      have hnot : ∀ e ∈ oj.after, Region.binds md e = true → e.on ≠ i := fun e he hb heq => by
        have h1 := hall e he hb
        rw [heq, getD_both hiun] at h1
        cases h1
      have h2 := wpOp_putIf hoj (hfree j oj hoj hji hjun hnot) (fun cs b => hsel i oi cs b hi) (fun cs b => hsel j oj cs b hoj) hQ hy h1
      have hfree' : ∀ k ok, ops[k]? = some ok → k ≠ i → (listed.setIfInBounds j true).getD k true = false →
          (∀ e ∈ ok.after, Region.binds md e = true → e.on ≠ i) → oi.apart ops ok = true := fun k ok hk hki hun hno => by
        refine hfree k ok hk hki ?_ hno
        by_cases hjk : j = k
        · subst hjk; exact hjun
        · rw [getD_set_ne true hjk] at hun; exact hun
      refine wpOp_mono (fun a' w' h3 => ⟨fun e => absurd e hjg, fun _ => ?_⟩) h2
      have h4 := h3.2.2 hjg
      refine ⟨h4.1, ih (listed.setIfInBounds j true) a' w' (hcl.set hj) hfree' (ready_mono hr (Ne.symm hji)) h3.1 h4.1 ?_⟩
      rw [Array.setIfInBounds_comm _ _ hji]
      exact h4.2

theorem wpAnyG_take {i : Nat} {oi : Oper} {v : Value} {fuel : Nat} {listed : Array Bool} {a : Act} {w : World} (hi : ops[i]? = some oi)
    (hs : (Region.noSelect ops && closedB md ops listed && needs md ops ops.size g i && decide (i ≠ g) && Region.free md ops listed i && (Region.ready md ops listed).contains i) = true)
    (hQ : ∀ c a w, Q (.panic c) (a.put oi.dst v) w → Q (.panic c) a w) (hy : YieldsIf P ops S oi v a) (hS : S w)
    (h : wpAnyG P md ops Q S g fuel (listed.setIfInBounds i true) (a.put oi.dst v) w) : wpAnyG P md ops Q S g (fuel + 1) listed a w := by
  simp only [Bool.and_eq_true, decide_eq_true_eq] at hs
  obtain ⟨⟨⟨⟨⟨h1, h2⟩, h3⟩, h4⟩, h5⟩, h6⟩ := hs
  exact wpAnyG_first hi (Region.noSelect_spec h1) hQ h3 h4 fuel listed a w (closed_of h2) (Region.free_spec hi h5) (by simpa using h6) hy hS h

/-- an operation that looks at no world may be taken first -/
theorem wpAnyG_pure_first {i : Nat} {oi : Oper} {v : Value} (hi : ops[i]? = some oi) (hsel : ∀ (j : Nat) (o : Oper) cs b, ops[j]? = some o → o.op ≠ .select cs b)
    (hQ : ∀ c a w, Q (.panic c) (a.put oi.dst v) w → Q (.panic c) a w) (hig : i ≠ g) :
    ∀ (fuel : Nat) (listed : Array Bool) (a : Act) (w : World),
      (∀ j oj, ops[j]? = some oj → j ≠ i → listed.getD j true = false → (∀ e ∈ oj.after, Region.binds md e = true → e.on ≠ i) → oi.apart ops oj = true) →
      i ∈ Region.ready md ops listed → YieldsIf P ops (fun _ => True) oi v a → S w →
      wpAnyG P md ops Q S g fuel (listed.setIfInBounds i true) (a.put oi.dst v) w → wpAnyG P md ops Q S g (fuel + 1) listed a w := by
  intro fuel
  induction fuel with
  | zero =>
    intro listed a w _ hr hy hS H
    refine ⟨fun h => (by rw [h] at hr; cases hr), fun j hj => ?_⟩
    by_cases hji : j = i
    · subst hji; exact hy.wpOp hi trivial ⟨fun e => absurd e hig, fun _ => ⟨hS, H⟩⟩
    · have := ready_mono hj hji
      rw [H.1] at this
      cases this
  | succ fuel ih =>
    intro listed a w hfree hr hy hS H
    refine ⟨fun h => (by rw [h] at hr; cases hr), fun j hj => ?_⟩
    by_cases hji : j = i
    · subst hji; exact hy.wpOp hi trivial ⟨fun e => absurd e hig, fun _ => ⟨hS, H⟩⟩
    · have h1 := H.2 j (ready_mono hj hji)
      obtain ⟨hjun, oj, hoj, hall⟩ := mem_ready.1 hj
      have hiun := (mem_ready.1 hr).1
      have hnot : ∀ e ∈ oj.after, Region.binds md e = true → e.on ≠ i := fun e he hb heq => by
        have h1 := hall e he hb
        rw [heq, getD_both hiun] at h1
        cases h1
      have h2 := wpOp_putIf hoj (hfree j oj hoj hji hjun hnot) (fun cs b => hsel i oi cs b hi) (fun cs b => hsel j oj cs b hoj) hQ hy h1
      have hfree' : ∀ k ok, ops[k]? = some ok → k ≠ i → (listed.setIfInBounds j true).getD k true = false →
          (∀ e ∈ ok.after, Region.binds md e = true → e.on ≠ i) → oi.apart ops ok = true := fun k ok hk hki hun hno => by
        refine hfree k ok hk hki ?_ hno
        by_cases hjk : j = k
        · subst hjk; exact hjun
        · rw [getD_set_ne true hjk] at hun; exact hun
      refine wpOp_mono (fun a' w' h3 => ⟨fun e => ?_, fun hjg => ?_⟩) h2
      · have h4 := h3.2.1 e
        rw [Array.setIfInBounds_comm _ _ (fun e => hji e.symm)] at h4
        exact wpAny_first hi hsel hQ fuel (listed.setIfInBounds j true) a' w' hfree' (ready_mono hr (Ne.symm hji)) (h3.1.imp (fun ⟨q1, q2⟩ => ⟨q1, fun w => q2 w trivial⟩) id) h4
      · have h4 := h3.2.2 hjg
        refine ⟨h4.1, ih (listed.setIfInBounds j true) a' w' hfree' (ready_mono hr (Ne.symm hji)) h3.1 h4.1 ?_⟩
        rw [Array.setIfInBounds_comm _ _ hji]
        exact h4.2

theorem wpAnyG_pure {i : Nat} {oi : Oper} {v : Value} {fuel : Nat} {listed : Array Bool} {a : Act} {w : World} (hi : ops[i]? = some oi)
    (hs : (Region.noSelect ops && decide (i ≠ g) && Region.free md ops listed i && (Region.ready md ops listed).contains i) = true)
    (hQ : ∀ c a w, Q (.panic c) (a.put oi.dst v) w → Q (.panic c) a w) (hy : YieldsIf P ops (fun _ => True) oi v a) (hS : S w)
    (h : wpAnyG P md ops Q S g fuel (listed.setIfInBounds i true) (a.put oi.dst v) w) : wpAnyG P md ops Q S g (fuel + 1) listed a w := by
  simp only [Bool.and_eq_true, decide_eq_true_eq] at hs
  obtain ⟨⟨⟨h1, h4⟩, h5⟩, h6⟩ := hs
  exact wpAnyG_pure_first hi (Region.noSelect_spec h1) hQ h4 fuel listed a w (Region.free_spec hi h5) (by simpa using h6) hy hS h

/-- one operation that comes up -/
def StepG (P : Program) (ops : Array Oper) (Q : Exit → Act → World → Prop) (oj : Oper) (a : Act) (w : World) (R : Act → World → Prop) : Prop :=
  ∀ K : Act → World → Prop, (∀ a' w', R a' w' → K a' w') → if Region.wanted oj (yielded ops a.tmps) = true then Oper.wp P oj a w K Q else K (a.put oj.dst undef) w
theorem StepG.op {j : Nat} {oj : Oper} {a : Act} {w : World} {R : Act → World → Prop} (hj : ops[j]? = some oj) (h : StepG P ops Q oj a w R) : wpOp P ops Q j R a w := by
  have := h R fun _ _ h => h
  unfold wpOp
  simp only [hj]
  split
  · rename_i hw
    rw [if_pos hw] at this
    exact .inl this
  · rename_i hw
    rw [if_neg hw] at this
    exact this

theorem guard_one {j : Nat} {oj : Oper} {fuel : Nat} {listed : Array Bool} {a : Act} {w : World} (hj : ops[j]? = some oj) (hs : (decide (Region.ready md ops listed = [j]) && decide (j ≠ g)) = true)
    (h : StepG P ops Q oj a w fun a' w' => S w' ∧ wpAnyG P md ops Q S g fuel (listed.setIfInBounds j true) a' w') : wpAnyG P md ops Q S g (fuel + 1) listed a w := by
  simp only [Bool.and_eq_true, decide_eq_true_eq] at hs
  refine ⟨fun h0 => (by rw [hs.1] at h0; cases h0), fun i hi => ?_⟩
  rw [hs.1] at hi
  obtain rfl : i = j := by simpa using hi
  exact wpOp_mono (fun a' w' h' => ⟨fun e => absurd e hs.2, fun _ => h'⟩) (h.op hj)
theorem guard_two {j k : Nat} {oj ok : Oper} {fuel : Nat} {listed : Array Bool} {a : Act} {w : World} (hj : ops[j]? = some oj) (hk : ops[k]? = some ok) (hs : (decide (Region.ready md ops listed = [j, k]) && decide (j ≠ g) && decide (k ≠ g)) = true)
    (h : StepG P ops Q oj a w fun a' w' => S w' ∧ wpAnyG P md ops Q S g fuel (listed.setIfInBounds j true) a' w')
    (h' : StepG P ops Q ok a w fun a' w' => S w' ∧ wpAnyG P md ops Q S g fuel (listed.setIfInBounds k true) a' w') : wpAnyG P md ops Q S g (fuel + 1) listed a w := by
  simp only [Bool.and_eq_true, decide_eq_true_eq] at hs
  refine ⟨fun h0 => (by rw [hs.1.1] at h0; cases h0), fun i hi => ?_⟩
  rw [hs.1.1] at hi
  rcases List.mem_cons.1 hi with rfl | hi
  · exact wpOp_mono (fun a' w' h' => ⟨fun e => absurd e hs.1.2, fun _ => h'⟩) (h.op hj)
  · obtain rfl : i = k := by simpa using hi
    exact wpOp_mono (fun a' w' h' => ⟨fun e => absurd e hs.2, fun _ => h'⟩) (h'.op hk)
/-- the one till which S was asked -/
theorem guard_last {oj : Oper} {fuel : Nat} {listed : Array Bool} {a : Act} {w : World} (hj : ops[g]? = some oj) (hs : decide (Region.ready md ops listed = [g]) = true)
    (h : StepG P ops Q oj a w fun a' w' => wpAny P md ops Q fuel (listed.setIfInBounds g true) a' w') : wpAnyG P md ops Q S g (fuel + 1) listed a w := by
  simp only [decide_eq_true_eq] at hs
  refine ⟨fun h0 => (by rw [hs] at h0; cases h0), fun i hi => ?_⟩
  rw [hs] at hi
  obtain rfl : i = g := by simpa using hi
  exact wpOp_mono (fun a' w' h' => ⟨fun _ => h', fun e => absurd rfl e⟩) (h.op hj)
theorem any_one {j : Nat} {oj : Oper} {fuel : Nat} {listed : Array Bool} {a : Act} {w : World} (hj : ops[j]? = some oj) (hs : decide (Region.ready md ops listed = [j]) = true)
    (h : StepG P ops Q oj a w fun a' w' => wpAny P md ops Q fuel (listed.setIfInBounds j true) a' w') : wpAny P md ops Q (fuel + 1) listed a w := by
  simp only [decide_eq_true_eq] at hs
  refine ⟨fun h0 => (by rw [hs] at h0; cases h0), fun i hi => ?_⟩
  rw [hs] at hi
  obtain rfl : i = j := by simpa using hi
  exact h.op hj
theorem any_done {fuel : Nat} {listed : Array Bool} {a : Act} {w : World} (hs : decide (Region.ready md ops listed = []) = true) (h : Q .normal a w) : wpAny P md ops Q fuel listed a w := by
  simp only [decide_eq_true_eq] at hs
  cases fuel with
  | zero => exact ⟨hs, h⟩
  | succ n => exact ⟨fun _ => h, by rw [hs]; simp⟩

/-- THE BEGINNING -/
theorem wp_region_guard {id : Nat} {a : Act} {w : World} (g fuel : Nat) (S : World → Prop) (L : Array Bool) (hf : ops.size = fuel) (hL : Array.replicate ops.size false = L) (hm : P.follows .mixedOrders = true)
    (h : wpAnyG P .any ops Q S g fuel L a w.drew) : (Code.region id ops true).wp P Q a w := by
  subst hf hL
  exact wp_region_any hm (wpAny_of_guard _ _ _ _ h)
end
end Go.Proofs.YtdkdeiofjoccnaaGreat.Guard

/- stratalaw03.lend: a program in memory of its own, marks in the room behind its lists. -/
namespace Go.Proofs.YtdkdeiofjoccnaaGreat.Lit
open Go.RowKit Go.Proofs.YtdkdeiofjoccnaaGreat.Mem Go.Proofs.YtdkdeiofjoccnaaGreat.Ar Go.Proofs.YtdkdeiofjoccnaaGreat.Un
set_option linter.unusedVariables false
set_option maxRecDepth 100000

/-- of a size that can be walked -/
def Few (l : LP) : Prop := l.cells.length ≤ 1000000000000 ∧ l.threads.length ≤ 1000000000000 ∧ ∀ p ∈ l.threads, p.length ≤ 1000000000000
theorem Few.small {l : LP} (h : Few l) : Small l := ⟨Nat.le_trans h.1 (by omega), Nat.le_trans h.2.1 (by omega), fun p hp => Nat.le_trans (h.2.2 p hp) (by omega)⟩
section
variable {P : Program}
/-- a copy behind an empty list that lies somewhere -/
theorem run_copyG (wa : World) (t ty e : TypeId) (i : TypeInfo) (z : Value) (size bytes : Nat) (ht : P.underlying t = some (.slice e)) (hi : P.info? e = some i) (hz : i.zero = some z)
    (hsize : i.size = size) (hby : i.bytes = bytes) (hzs : z.cells.size = size) (hsz : 0 < size) (base gE : Nat) (hb : base ≤ gE) (hE : wa.heap[gE]? = some (.cells #[] e (0, 0))) (a : Option Addr) (m c : Nat) (xs : List Value) (hl : xs.length = m * size) (hs : Sees wa a xs) (h1 : ∀ u ∈ xs, u.oneCell' = true) (h63 : m ≤ maxLen) (hbytes : m * bytes ≤ 140737488355328) :
    ∃ a' c' w', (Builtin.append_ #[t, t] ty #[.slice (some ⟨gE, 0, none⟩) 0 0, .slice a m c]).run P wa = .ok (.slice a' m c') w' ∧ w'.ownsRow base e size (.slice a' m c') m xs ∧ Keep [gE] wa w' := by
  have hlt : gE < wa.heap.size := lt_of hE
  have ho : wa.ownsRow base e size (.slice (some ⟨gE, 0, none⟩) 0 0) 0 [] :=
    ⟨by simp, .inr ⟨gE, 0, _, rfl, hb, hE, Nat.le_refl _, by unfold maxLen; omega, by simp, by simp⟩⟩
  by_cases hm : m = 0
  · subst hm
    have hx : xs = [] := List.eq_nil_of_length_eq_zero (by simpa using hl)
    subst hx
    refine ⟨some ⟨gE, 0, none⟩, 0, wa, ?_, ho, Keep.refl _ _⟩
    cases a with
    | none => simp [Builtin.append_, run_underlying ht, sizeOf, typeInfo, hi, Builtin.lenOf, Builtin.firstCells, loadCells, loadCellsFrom, storeCells]
    | some a => simp [Builtin.append_, run_underlying ht, sizeOf, typeInfo, hi, Builtin.lenOf, Builtin.firstCells, loadCells, loadCellsFrom, storeCells]
  · have hpos : 0 < xs.length := by rw [hl]; exact Nat.mul_pos (by omega) hsz
    obtain ⟨g, o, rfl, -⟩ := hs.at_ 0 hpos
    have hnews : ∀ j u, xs[j]? = some u → wa.cell? ((⟨g, o, none⟩ : Addr).add j) = some u := by
      intro j u hu
      obtain ⟨hj, rfl⟩ := List.getElem?_eq_some_iff.1 hu
      obtain ⟨g', o', e', cc⟩ := hs.at_ j hj
      simp only [Option.some.injEq, Addr.mk.injEq, and_true] at e'
      obtain ⟨rfl, rfl⟩ := e'
      have hadd : (⟨g, o, none⟩ : Addr).add j = ⟨g, o + j, none⟩ := by unfold Addr.add; split <;> simp_all
      rw [hadd, cc]
    obtain ⟨g', cap, w', hr, h2, h3, h4, h5⟩ := run_append_lies (P := P) wa t ty base e i z size bytes ht hi hz hsize hby hzs hsz (.slice (some ⟨gE, 0, none⟩) 0 0) 0 [] ho ⟨g, o, none⟩ m c xs hl hnews h1 (by omega) (by omega) (by rw [Nat.zero_add]; exact hbytes) (by omega) wa.heap.size rfl
    rw [Nat.zero_add] at hr h2
    rw [List.nil_append] at h2
    exact ⟨_, _, w', hr, h2, h3.os, h3.tape, h3.output, h3.size, fun k hk hn => h3.block k hk (by simp [Value.ownBlock] at hn ⊢; exact fun e => hn e)⟩

/-- at a step of a region that draws -/
theorem step_copyG {wa : World} {ops : Array Oper} {o : Oper} {act : Act} {K : Act → World → Prop} {Q : Exit → Act → World → Prop} {E : Prop} (hgd : o.guard = none) (x y : Operand) (t : TypeId)
    (ho : o.op = .call { callee := .builtin .append, args := #[x, y], argTypes := #[t, t] })
    (e : TypeId) (i : TypeInfo) (z : Value) (size bytes : Nat) (ht : P.underlying t = some (.slice e)) (hi : P.info? e = some i) (hz : i.zero = some z)
    (hsize : i.size = size) (hby : i.bytes = bytes) (hzs : z.cells.size = size) (hsz : 0 < size) (base gE : Nat) (hb : base ≤ gE) (hE : wa.heap[gE]? = some (.cells #[] e (0, 0))) (hx : act.eval x = .slice (some ⟨gE, 0, none⟩) 0 0) (a : Option Addr) (m c : Nat) (xs : List Value) (hy : act.eval y = .slice a m c) (hl : xs.length = m * size) (hs : Sees wa a xs) (h1 : ∀ u ∈ xs, u.oneCell' = true) (h63 : m ≤ maxLen) (hbytes : m * bytes ≤ 140737488355328)
    (hk : ∀ a' c' w', w'.ownsRow base e size (.slice a' m c') m xs → Keep [gE] wa w' → K (act.put o.dst (.slice a' m c')) w') :
    if Region.wanted o (yielded ops act.tmps) = true then Oper.wp P o act wa K Q else E := by
  have hw : Region.wanted o (yielded ops act.tmps) = true := by simp [Region.wanted, hgd]
  rw [if_pos hw]
  obtain ⟨a', c', w', hr, h2, h3⟩ := run_copyG (P := P) wa t o.type e i z size bytes ht hi hz hsize hby hzs hsz base gE hb hE a m c xs hl hs h1 h63 hbytes
  unfold Oper.wp execOp
  simp only [ho, resolve, invoke, builtin, Sem.run_bind, Sem.run_pure, Result.andThen_ok, List.map_toArray, List.map_cons, List.map_nil, hx, hy, hr]
  exact hk a' c' w' h2 h3
end

/-- the marks -/
def i77 : Ins := ⟨77, 0, 0, 0, 0, 0, 0, 0⟩
def i78 : Ins := ⟨78, 0, 0, 0, 0, 0, 0, 0⟩
def i79 : Ins := ⟨79, 0, 0, 0, 0, 0, 0, 0⟩
/-- slices over blocks, d longer than the lists -/
def rowS (d : Nat) : List (List Ins) → List (Nat × Nat) → List Value
  | p :: ls, b :: bs => .slice (some ⟨b.1, 0, none⟩) (p.length + d) b.2 :: rowS d ls bs
  | _, _ => []
theorem rowS_len (d : Nat) : ∀ (ls : List (List Ins)) (bs : List (Nat × Nat)), bs.length = ls.length → (rowS d ls bs).length = ls.length
  | [], [], _ => rfl
  | p :: ls, b :: bs, h => by simp [rowS, rowS_len d ls bs (by simpa using h)]
  | [], b :: bs, h => by simp at h
  | p :: ls, [], h => by simp at h
theorem rowS_at (d : Nat) : ∀ (ls : List (List Ins)) (bs : List (Nat × Nat)) (i : Nat) (h1 : i < ls.length) (h2 : i < bs.length), (rowS d ls bs)[i]? = some (.slice (some ⟨bs[i].1, 0, none⟩) (ls[i].length + d) bs[i].2)
  | p :: ls, b :: bs, 0, _, _ => rfl
  | p :: ls, b :: bs, i + 1, h1, h2 => by
    show (rowS d ls bs)[i]? = _
    rw [rowS_at d ls bs i (by simpa using h1) (by simpa using h2)]
    rfl
  | [], _, i, h1, _ => by simp at h1
  | _ :: _, [], i, _, h2 => by simp at h2
theorem rowS_snoc (d : Nat) : ∀ (ls : List (List Ins)) (bs : List (Nat × Nat)) (p : List Ins) (b : Nat × Nat), bs.length = ls.length → rowS d (ls ++ [p]) (bs ++ [b]) = rowS d ls bs ++ [.slice (some ⟨b.1, 0, none⟩) (p.length + d) b.2]
  | [], [], p, b, _ => rfl
  | q :: ls, c :: bs, p, b, h => by
    show _ :: rowS d (ls ++ [p]) (bs ++ [b]) = _ :: _
    rw [rowS_snoc d ls bs p b (by simpa using h)]
    rfl
  | [], b :: bs, _, _, h => by simp at h
  | p :: ls, [], _, _, h => by simp at h

/-- programs that are lent, one behind the other -/
structure LendRow (w : World) (base : Nat) (tv : Value) (ls : List (List Ins)) (bs : List (Nat × Nat)) : Prop where
  len : bs.length = ls.length
  row : w.ownsRow base 93 1 tv ls.length (rowS 2 ls bs)
  each : ∀ i (h1 : i < bs.length) (h2 : i < ls.length), w.ownsRow base 140 8 (.slice (some ⟨bs[i].1, 0, none⟩) (ls[i].length + 2) bs[i].2) (ls[i].length + 2) (flatI (ls[i] ++ [i77, i78]))
  nd : (bs.map Prod.fst).Nodup

theorem LendRow.zero (w : World) (base : Nat) : LendRow w base (.slice none 0 0) [] [] := ⟨rfl, World.ownsRow_nil _ _ _ _, fun i h => absurd h (Nat.not_lt_zero _), List.nodup_nil⟩
theorem LendRow.keep {w w' : World} {base : Nat} {tv : Value} {ls : List (List Ins)} {bs : List (Nat × Nat)} (h : LendRow w base tv ls bs) {T : List Nat} (k : Keep T w w') (hT : ∀ x ∈ T, x < base) : LendRow w' base tv ls bs := by
  have key : ∀ {e : TypeId} {size : Nat} {v : Value} {n : Nat} {xs : List Value}, w.ownsRow base e size v n xs → w'.ownsRow base e size v n xs := fun ho =>
    Har.owns_block ho fun g hg => k.block g (ho.lt g hg).2 fun hm => by have := hT g hm; have := (ho.lt g hg).1; omega
  exact ⟨h.len, key h.row, fun i h1 h2 => key (h.each i h1 h2), h.nd⟩
theorem LendRow.mono {w : World} {base base' : Nat} {tv : Value} {ls : List (List Ins)} {bs : List (Nat × Nat)} (h : LendRow w base tv ls bs) (hb : base' ≤ base) : LendRow w base' tv ls bs :=
  ⟨h.len, Pick.owns_mono h.row hb, fun i h1 h2 => Pick.owns_mono (h.each i h1 h2) hb, h.nd⟩
theorem LendRow.snoc {w wx w8 : World} {base : Nat} {tv : Value} {ls : List (List Ins)} {bs : List (Nat × Nat)} (h : LendRow w base tv ls bs) (k : Keep [] w wx) {g7 c7 : Nat} {p : List Ins}
    (h7 : wx.ownsRow w.heap.size 140 8 (.slice (some ⟨g7, 0, none⟩) (p.length + 2) c7) (p.length + 2) (flatI (p ++ [i77, i78]))) (hb : base ≤ w.heap.size) {g8 cap8 : Nat}
    (hown : w8.ownsRow base 93 1 (.slice (some ⟨g8, 0, none⟩) (ls.length + 1) cap8) (ls.length + 1) (rowS 2 ls bs ++ [.slice (some ⟨g7, 0, none⟩) (p.length + 2) c7]))
    (hg : wx.grownBy w8 tv.ownBlock) (hat : tv.ownBlock = some g8 ∨ g8 = wx.heap.size) : LendRow w8 base (.slice (some ⟨g8, 0, none⟩) (ls.length + 1) cap8) (ls ++ [p]) (bs ++ [(g7, c7)]) := by
  have hl := h.len
  have l7 := h7.lt g7 rfl
  have tvne : ∀ {e : TypeId} {size : Nat} {v : Value} {n : Nat} {xs : List Value}, e ≠ 93 → w.ownsRow base e size v n xs → ∀ g, v.ownBlock = some g → some g ≠ tv.ownBlock := by
    intro e size v n xs he ho g hg' e2
    rcases ho.2 with ⟨e1, -⟩ | ⟨g', cap, cur, e1, -, hgg, -⟩
    · rw [e1] at hg'; simp [Value.ownBlock] at hg'
    · rw [e1] at hg'
      obtain rfl : g' = g := by simpa [Value.ownBlock] using hg'
      rcases h.row.2 with ⟨e3, -⟩ | ⟨g3, cap3, cur3, e3, -, hg3, -⟩
      · rw [e3] at e2; simp [Value.ownBlock] at e2
      · rw [e3] at e2
        obtain rfl : g' = g3 := by simpa [Value.ownBlock] using e2
        rw [hgg] at hg3
        simp only [Option.some.injEq, Obj.cells.injEq] at hg3
        exact he hg3.2.1
  refine ⟨by simp [hl], ?_, fun i h1 h2 => ?_, ?_⟩
  · rw [rowS_snoc 2 ls bs p (g7, c7) hl, List.length_append, List.length_singleton]
    exact hown
  · by_cases hi : i < bs.length
    · have hi2 : i < ls.length := by omega
      have e := h.each i hi hi2
      simp only [List.getElem_append_left hi, List.getElem_append_left hi2]
      refine Har.owns_block e fun g hg' => ?_
      exact (hg.block g (Nat.lt_of_lt_of_le (e.lt g hg').2 k.size) (tvne (by decide) e g hg')).trans (k.block g (e.lt g hg').2 (by simp))
    · have hib : i = bs.length := by simp at h1; omega
      subst hib
      have e1 : (bs ++ [(g7, c7)])[bs.length]'h1 = (g7, c7) := by simp
      have e2 : (ls ++ [p])[bs.length]'h2 = p := by simp [hl]
      rw [e1, e2]
      refine Pick.owns_mono (Har.owns_block h7 fun g hg' => hg.block g (h7.lt g hg').2 fun e3 => ?_) hb
      have := (h7.lt g hg').1
      have := (h.row.lt g e3.symm).2
      omega
  · rw [List.map_append, List.nodup_append]
    refine ⟨h.nd, by simp, fun x hx y hy => ?_⟩
    simp only [List.map_cons, List.map_nil, List.mem_singleton] at hy
    obtain ⟨b, hb', rfl⟩ := List.mem_map.1 hx
    obtain ⟨i, hi, rfl⟩ := List.getElem_of_mem hb'
    have q : bs[i].1 < w.heap.size := ((h.each i hi (by omega)).lt _ rfl).2
    omega
end Go.Proofs.YtdkdeiofjoccnaaGreat.Lit
