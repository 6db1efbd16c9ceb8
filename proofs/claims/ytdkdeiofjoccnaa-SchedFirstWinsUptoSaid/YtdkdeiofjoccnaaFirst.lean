/- SchedFirstWins: of swaps from one word just one wins (plain Lean). -/
import Derived.Test.YtdkdeiofjoccnaaPathA
namespace Go.Proofs.Ytdkdeiofjoccnaa.Lit
open Go.RowKit Go.Proofs.Ytdkdeiofjoccnaa.Mem Go.Proofs.Ytdkdeiofjoccnaa.Ar Go.Proofs.Ytdkdeiofjoccnaa.Un
set_option linter.unusedVariables false

/-- thread i's word -/
def fwWord (b : Int) (i : Nat) : Int := uw (uw (b + 1) + (i : Int))
def fwIns (b : Int) (i : Nat) : Ins := ⟨3, 1, 2, -1, fwWord b i, -1, b, 0⟩
/-- the program -/
def fwLit (b : Int) (n : Nat) : LP := ⟨[7, b], (List.range n).map fun i => [fwIns b i]⟩

theorem fw_ne (b : Int) (hb : 0 ≤ b ∧ b < 18446744073709551616) (i : Nat) (hi : i < 4) : fwWord b i ≠ b := by
  unfold fwWord uw IntKind.wrap
  simp only [IntKind.bits, IntKind.signed]
  simp
  omega
theorem fw_inj (b : Int) (i j : Nat) (hi : i < 4) (hj : j < 4) (h : fwWord b i = fwWord b j) : i = j := by
  unfold fwWord uw IntKind.wrap at h
  simp only [IntKind.bits, IntKind.signed] at h
  simp at h
  omega

theorem fw_sound (b : Int) (n : Nat) (h1 : 1 ≤ n) (h2 : n ≤ 4) : soundB (fwLit b n) = true := by
  have : n = 1 ∨ n = 2 ∨ n = 3 ∨ n = 4 := by omega
  rcases this with rfl | rfl | rfl | rfl <;> rfl

/-- what stands all the while -/
structure FwInv (b : Int) (n : Nat) (A : Arena Unit) (ths : List Th) : Prop where
  width : A.width = 2
  words : A.words.length = 2
  w0 : nth A.words 0 0 = 7
  len : ths.length = n
  prog : ∀ i (h : i < ths.length), ths[i].prog = [fwIns b i] ∧ ths[i].regs.length = 4
  won : (nth A.words 1 0 = b ∧ ∀ i (h : i < ths.length), ths[i].at_ = 0 ∧ nth ths[i].regs 2 0 = 0) ∨
    ∃ (w : Nat) (hw : w < ths.length), nth A.words 1 0 = fwWord b w ∧ ths[w].at_ = 1 ∧ nth ths[w].regs 2 0 = 1 ∧ ∀ i (h : i < ths.length), i ≠ w → nth ths[i].regs 2 0 = 0

theorem nth_self {l : List Int} {i : Nat} {x : Int} (h : i < l.length) : nth (l.set i x) i 0 = x := by
  simp [nth, List.getD_eq_getElem?_getD, List.getElem?_set_self h]
theorem nth_other {l : List Int} {i j : Nat} {x : Int} (h : i ≠ j) : nth (l.set i x) j 0 = nth l j 0 := by
  simp [nth, List.getD_eq_getElem?_getD, List.getElem?_set_ne h]

theorem fw_begin (b : Int) (n : Nat) : FwInv b n (arena0 (fwLit b n)) ((fwLit b n).threads.map th0) := by
  refine ⟨rfl, rfl, rfl, by simp [fwLit], fun i h => ?_, .inl ⟨rfl, fun i h => ?_⟩⟩
  · simp [fwLit, th0]
  · simp [fwLit, th0, nth]

/-- a step of a thread at its begin: it wins -/
theorem fw_hit (A : Arena Unit) (b : Int) (i : Nat) (t : Th) (h1 : t.prog = [fwIns b i]) (h2 : t.at_ = 0) (h3 : nth A.words 1 0 = b) (hw : A.width = 2) : stepT A 1 t = ((wrote A 1 1 (fwWord b i), { t with regs := t.regs.set 2 1, at_ := 1 }), true) := by
  have e : wordOf A 1 1 = b := by unfold wordOf wordAt; rw [← h3]; simp
  obtain ⟨prog, regs, at_⟩ := t
  simp only at h1 h2
  subst h1 h2
  simp [stepT, actT, fwIns, valOf, e]
theorem fw_miss (A : Arena Unit) (b : Int) (i : Nat) (t : Th) (h1 : t.prog = [fwIns b i]) (h2 : t.at_ = 0) (h3 : nth A.words 1 0 ≠ b) (hw : A.width = 2) : stepT A 1 t = ((counted A, { t with regs := t.regs.set 2 0, at_ := 1 }), true) := by
  have e : wordOf A 1 1 ≠ b := by unfold wordOf wordAt; simpa using h3
  obtain ⟨prog, regs, at_⟩ := t
  simp only at h1 h2
  subst h1 h2
  simp [stepT, actT, fwIns, valOf, e]
theorem fw_none (A : Arena Unit) (b : Int) (i : Nat) (t : Th) (h1 : t.prog = [fwIns b i]) (h2 : t.at_ ≠ 0) : stepT A 1 t = ((A, t), true) := by
  unfold stepT
  rw [h1, List.getElem?_eq_none (by simp; omega)]

theorem fw_step {b : Int} (hb : 0 ≤ b ∧ b < 18446744073709551616) {n : Nat} (hn : n ≤ 4) (A : Arena Unit) (ths : List Th) (i : Nat) (hi : i < ths.length) (h : FwInv b n A ths) :
    FwInv b n (stepT A 1 ths[i]).1.1 (ths.set i (stepT A 1 ths[i]).1.2) := by
  obtain ⟨p1, p2⟩ := h.prog i hi
  have hi4 : i < 4 := by have := h.len; omega
  by_cases h0 : ths[i].at_ = 0
  · by_cases hw : nth A.words 1 0 = b
    · rw [fw_hit A b i _ p1 h0 hw h.width]
      refine ⟨h.width, ?_, ?_, by simpa using h.len, fun k hk => ?_, .inr ⟨i, by simpa using hi, ?_, ?_, ?_, fun k hk hne => ?_⟩⟩
      · show (A.words.set _ _).length = 2
        simpa using h.words
      · show nth (A.words.set (wordAt (counted A) 1 1) _) 0 0 = 7
        rw [show wordAt (counted A) 1 1 = 1 by simp [wordAt], nth_other (by omega)]
        exact h.w0
      · have hk' : k < ths.length := by simpa using hk
        rw [List.getElem_set]
        split
        · rename_i e; subst e; exact ⟨p1, by simpa using p2⟩
        · exact h.prog k hk'
      · show nth (A.words.set (wordAt (counted A) 1 1) _) 1 0 = _
        rw [show wordAt (counted A) 1 1 = 1 by simp [wordAt], nth_self (by rw [h.words]; omega)]
      · simp
      · simp only [List.getElem_set_self]
        exact nth_self (by omega)
      · have hk' : k < ths.length := by simpa using hk
        rw [List.getElem_set_ne (by omega)]
        rcases h.won with ⟨-, h1⟩ | ⟨w, hwl, e, -⟩
        · exact (h1 k hk').2
        · exact absurd (e.symm.trans hw) (fw_ne b hb w (by have := h.len; omega))
    · rw [fw_miss A b i _ p1 h0 hw h.width]
      rcases h.won with ⟨e, -⟩ | ⟨w, hwl, e, a1, r1, o1⟩
      · exact absurd e hw
      · have hwi : w ≠ i := by
          intro e'
          subst e'
          omega
        refine ⟨h.width, h.words, h.w0, by simpa using h.len, fun k hk => ?_, .inr ⟨w, by simpa using hwl, e, ?_, ?_, fun k hk hne => ?_⟩⟩
        · have hk' : k < ths.length := by simpa using hk
          rw [List.getElem_set]
          split
          · rename_i e; subst e; exact ⟨p1, by simpa using p2⟩
          · exact h.prog k hk'
        · rw [List.getElem_set_ne (by omega)]; exact a1
        · rw [List.getElem_set_ne (by omega)]; exact r1
        · have hk' : k < ths.length := by simpa using hk
          rw [List.getElem_set]
          split
          · exact nth_self (by omega)
          · exact o1 k hk' hne
  · rw [fw_none A b i _ p1 h0]
    rw [List.set_getElem_self]
    exact h

/-- what it all comes to -/
theorem fw_law {b : Int} (hb : 0 ≤ b ∧ b < 18446744073709551616) {n : Nat} (h1 : 1 ≤ n) (hn : n ≤ 4) {P : Park} (hP : Laid (fwLit b n) P) (s : ByteArray) :
    ∃ A w, (drained (fwLit b n) P s).s.ars = [A] ∧ w < n ∧ slotWords A 1 = [7, fwWord b w] ∧ (regsOf (drained (fwLit b n) P s).s.ths).length = 4 * n ∧
      ∀ i, i < n → nth (regsOf (drained (fwLit b n) P s).s.ths) (4 * i + 2) 0 = if i = w then 1 else 0 := by
  obtain ⟨A, hA, hI⟩ := drained_inv hP s (I := FwInv b n) (fw_begin b n) fun A ths i hi h => fw_step hb hn A ths i hi h
  obtain ⟨-, -, hdone⟩ := drained_done hP (fw_sound b n h1 hn) s
  generalize (drained (fwLit b n) P s).s.ths = ths at hI hdone ⊢
  have key : ∀ (l : List Th), (∀ t ∈ l, t.regs.length = 4) → ∀ (i : Nat) (hi : i < l.length), nth (regsOf l) (4 * i + 2) 0 = nth l[i].regs 2 0 := by
    intro l
    induction l with
    | nil => intro _ i hi; simp at hi
    | cons t l ih =>
      intro hl i hi
      have h4 := hl t (by simp)
      cases i with
      | zero =>
        simp only [nth, regsOf, List.flatMap_cons, List.getD_eq_getElem?_getD]
        rw [List.getElem?_append_left (by omega)]
        rfl
      | succ i =>
        have := ih (fun x hx => hl x (by simp [hx])) i (by simpa using hi)
        simp only [nth, regsOf, List.flatMap_cons, List.getD_eq_getElem?_getD] at this ⊢
        rw [List.getElem?_append_right (by omega), show 4 * (i + 1) + 2 - t.regs.length = 4 * i + 2 by omega]
        simpa using this
  have hr : ∀ t ∈ ths, t.regs.length = 4 := by
    intro t ht
    obtain ⟨i, hi, rfl⟩ := List.getElem_of_mem ht
    exact (hI.prog i hi).2
  rcases hI.won with ⟨-, h0⟩ | ⟨w, hw, e, a1, r1, o1⟩
  · have h00 : 0 < ths.length := by rw [hI.len]; omega
    have := hdone 0 h00
    rw [(h0 0 h00).1, (hI.prog 0 h00).1] at this
    simp at this
  · refine ⟨A, w, hA, by rw [← hI.len]; exact hw, ?_, by rw [regsOf_length _ hr, hI.len]; omega, fun i hi => ?_⟩
    · unfold slotWords
      rw [hI.width, ← e, ← hI.w0]
      simp [List.range_succ, wordAt]
    · rw [key ths hr i (by rw [hI.len]; exact hi)]
      split
      · rename_i e'; subst e'; exact r1
      · rename_i e'; exact o1 i (by rw [hI.len]; exact hi) e'
end Go.Proofs.Ytdkdeiofjoccnaa.Lit
