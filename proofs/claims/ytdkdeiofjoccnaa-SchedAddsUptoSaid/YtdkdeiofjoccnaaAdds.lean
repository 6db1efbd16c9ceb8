/- SchedAdds: no addition is lost; what was found and what was left makes one chain (plain Lean). -/
import Derived.Test.YtdkdeiofjoccnaaPathA
namespace Go.Proofs.Ytdkdeiofjoccnaa.Lit
open Go.RowKit Go.Proofs.Ytdkdeiofjoccnaa.Mem Go.Proofs.Ytdkdeiofjoccnaa.Ar Go.Proofs.Ytdkdeiofjoccnaa.Un
set_option linter.unusedVariables false

/-- thread of additions: the j-th keeps what it finds in register j -/
def adIns (j : Nat) (d : Int) : Ins := ⟨4, 0, j, -1, d, 0, 0, 0⟩
def adRow (row : List Int) : List Ins := (List.range row.length).map fun j => adIns j (nth row j 0)
def adLit (b : Int) (ds : List (List Int)) : LP := ⟨[b], ds.map adRow⟩

def inW (x : Int) : Prop := 0 ≤ x ∧ x < 18446744073709551616
theorem uw_mod (x : Int) : uw x = x % 18446744073709551616 := by
  unfold uw IntKind.wrap
  simp only [IntKind.bits, IntKind.signed]
  simp
theorem uw_in (x : Int) : inW (uw x) := by rw [uw_mod]; unfold inW; omega
theorem uw_of {x : Int} (h : inW x) : uw x = x := by rw [uw_mod]; unfold inW at h; omega

/-- steps one behind the other: each finds what the one ahead left -/
def Chain (b : Int) : List (Int × Int) → Int → Prop
  | [], w => w = b
  | p :: l, w => p.1 = b ∧ Chain p.2 l w
theorem Chain.snoc {b w x : Int} : ∀ {l : List (Int × Int)}, Chain b l w → Chain b (l ++ [(w, x)]) x
  | [], h => by
    have : w = b := h
    subst this
    exact ⟨rfl, rfl⟩
  | p :: l, ⟨h1, h2⟩ => ⟨h1, Chain.snoc h2⟩

/-- what thread i's j-th addition found -/
def foundAt (ths : List Th) (p : Nat × Nat) : Int := nth (ths.getD p.1 ⟨[], [], 0⟩).regs p.2 0
def deltaAt (ds : List (List Int)) (p : Nat × Nat) : Int := nth (ds.getD p.1 []) p.2 0
def stepAt (ds : List (List Int)) (ths : List Th) (p : Nat × Nat) : Int × Int := (foundAt ths p, uw (foundAt ths p + deltaAt ds p))

structure AdInv (b : Int) (ds : List (List Int)) (A : Arena Unit) (ths : List Th) : Prop where
  width : A.width = 1
  words : A.words.length = 1
  word : inW (nth A.words 0 0)
  len : ths.length = ds.length
  prog : ∀ i (h : i < ths.length), ths[i].prog = adRow (ds.getD i []) ∧ ths[i].regs.length = 4 ∧ ths[i].at_ ≤ ths[i].prog.length
  ex : ∃ E : List (Nat × Nat), E.Nodup ∧ (∀ p, p ∈ E ↔ ∃ h : p.1 < ths.length, p.2 < ths[p.1].at_) ∧ Chain b (E.map (stepAt ds ths)) (nth A.words 0 0)

theorem ad_nth_self {l : List Int} {i : Nat} {x : Int} (h : i < l.length) : nth (l.set i x) i 0 = x := by
  simp [nth, List.getD_eq_getElem?_getD, List.getElem?_set_self h]
theorem ad_nth_other {l : List Int} {i j : Nat} {x : Int} (h : i ≠ j) : nth (l.set i x) j 0 = nth l j 0 := by
  simp [nth, List.getD_eq_getElem?_getD, List.getElem?_set_ne h]

theorem ad_begin (b : Int) (hb : inW b) (ds : List (List Int)) : AdInv b ds (arena0 (adLit b ds)) ((adLit b ds).threads.map th0) := by
  refine ⟨rfl, rfl, hb, by simp [adLit], fun i h => ?_, [], List.nodup_nil, fun p => ?_, rfl⟩
  · have hi : i < ds.length := by simpa [adLit] using h
    simp [adLit, th0, List.getD_eq_getElem?_getD, List.getElem?_eq_getElem hi]
  · simp only [List.not_mem_nil, false_iff]
    rintro ⟨h, h2⟩
    simp [adLit, th0] at h2

theorem ad_hit (A : Arena Unit) (row : List Int) (t : Th) (h1 : t.prog = adRow row) (h2 : t.at_ < row.length) (hA : inW (nth A.words 0 0)) (hw : A.width = 1) :
    stepT A 1 t = ((wrote A 1 0 (uw (nth A.words 0 0 + nth row t.at_ 0)), { t with regs := t.regs.set t.at_ (nth A.words 0 0), at_ := t.at_ + 1 }), decide (row.length ≤ t.at_ + 1)) := by
  have e : wordOf A 1 0 = nth A.words 0 0 := by unfold wordOf wordAt; simp
  have hl : (adRow row).length = row.length := by simp [adRow]
  have hq : (adRow row)[t.at_]? = some (adIns t.at_ (nth row t.at_ 0)) := by simp [adRow, List.getElem?_map, List.getElem?_range h2]
  have hx : uw (uw (nth A.words 0 0 + nth row t.at_ 0) - nth row t.at_ 0) = nth A.words 0 0 := by
    rw [uw_mod, uw_mod]; unfold inW at hA; omega
  obtain ⟨prog, regs, at_⟩ := t
  simp only at h1 h2 hq hx
  subst h1
  simp [stepT, hq, actT, adIns, valOf, e, hx, hl]
theorem ad_none (A : Arena Unit) (row : List Int) (t : Th) (h1 : t.prog = adRow row) (h2 : ¬ t.at_ < row.length) : stepT A 1 t = ((A, t), true) := by
  unfold stepT
  rw [h1, List.getElem?_eq_none (by simp [adRow]; omega)]

theorem ad_step {b : Int} {ds : List (List Int)} (hr : ∀ row ∈ ds, row.length ≤ 4) (A : Arena Unit) (ths : List Th) (i : Nat) (hi : i < ths.length) (h : AdInv b ds A ths) :
    AdInv b ds (stepT A 1 ths[i]).1.1 (ths.set i (stepT A 1 ths[i]).1.2) := by
  obtain ⟨p1, p2, p3⟩ := h.prog i hi
  have hid : i < ds.length := by rw [← h.len]; exact hi
  have hrow : ds.getD i [] = ds[i] := by rw [List.getD_eq_getElem?_getD, List.getElem?_eq_getElem hid]; rfl
  have hr4 : (ds.getD i []).length ≤ 4 := by rw [hrow]; exact hr _ (List.getElem_mem hid)
  by_cases h0 : ths[i].at_ < (ds.getD i []).length
  · rw [ad_hit A _ _ p1 h0 h.word h.width]
    obtain ⟨E, e1, e2, e3⟩ := h.ex
    have hgi : (ths.set i { ths[i] with regs := ths[i].regs.set ths[i].at_ (nth A.words 0 0), at_ := ths[i].at_ + 1 }).getD i ⟨[], [], 0⟩ = { ths[i] with regs := ths[i].regs.set ths[i].at_ (nth A.words 0 0), at_ := ths[i].at_ + 1 } := by
      rw [List.getD_eq_getElem?_getD, List.getElem?_set_self hi]; rfl
    have hgo : ∀ k, i ≠ k → (ths.set i { ths[i] with regs := ths[i].regs.set ths[i].at_ (nth A.words 0 0), at_ := ths[i].at_ + 1 }).getD k ⟨[], [], 0⟩ = ths.getD k ⟨[], [], 0⟩ := by
      intro k hk
      rw [List.getD_eq_getElem?_getD, List.getElem?_set_ne hk, List.getD_eq_getElem?_getD]
    have hg0 : ths.getD i ⟨[], [], 0⟩ = ths[i] := by rw [List.getD_eq_getElem?_getD, List.getElem?_eq_getElem hi]; rfl
    have hnot : (i, ths[i].at_) ∉ E := fun hm => by
      obtain ⟨hx, h2⟩ := (e2 _).1 hm
      exact Nat.lt_irrefl _ h2
    have hsame : ∀ p ∈ E, stepAt ds (ths.set i { ths[i] with regs := ths[i].regs.set ths[i].at_ (nth A.words 0 0), at_ := ths[i].at_ + 1 }) p = stepAt ds ths p := by
      intro p hp
      have hf : foundAt (ths.set i { ths[i] with regs := ths[i].regs.set ths[i].at_ (nth A.words 0 0), at_ := ths[i].at_ + 1 }) p = foundAt ths p := by
        unfold foundAt
        by_cases hk : i = p.1
        · obtain ⟨hx, h2⟩ := (e2 p).1 hp
          obtain ⟨k, j⟩ := p
          simp only at hk h2
          subst hk
          simp only
          rw [hgi, hg0]
          exact ad_nth_other (by omega)
        · rw [hgo _ hk]
      unfold stepAt
      rw [hf]
    have hw0 : nth (wrote A 1 0 (uw (nth A.words 0 0 + nth (ds.getD i []) ths[i].at_ 0))).words 0 0 = uw (nth A.words 0 0 + nth (ds.getD i []) ths[i].at_ 0) := by
      show nth (A.words.set (wordAt (counted A) 1 0) _) 0 0 = _
      rw [show wordAt (counted A) 1 0 = 0 by simp [wordAt], ad_nth_self (by rw [h.words]; omega)]
    refine ⟨h.width, ?_, ?_, by simpa using h.len, fun k hk => ?_, E ++ [(i, ths[i].at_)], ?_, fun p => ?_, ?_⟩
    · show (A.words.set _ _).length = 1
      simpa using h.words
    · simp only; rw [hw0]; exact uw_in _
    · have hk' : k < ths.length := by simpa using hk
      rw [List.getElem_set]
      split
      · rename_i e
        subst e
        refine ⟨p1, by simpa using p2, ?_⟩
        simp only
        rw [p1]
        simp only [adRow, List.length_map, List.length_range]
        exact h0
      · exact h.prog k hk'
    · rw [List.nodup_append]
      refine ⟨e1, by simp, fun x hx y hy => ?_⟩
      rw [List.mem_singleton.1 hy]
      rintro rfl
      exact hnot hx
    · rw [List.mem_append, e2]
      obtain ⟨k, j⟩ := p
      simp only [List.mem_singleton, Prod.mk.injEq, List.length_set]
      constructor
      · rintro (⟨hx, h2⟩ | ⟨rfl, rfl⟩)
        · refine ⟨hx, ?_⟩
          rw [List.getElem_set]
          split
          · rename_i e; subst e; simp only; omega
          · exact h2
        · exact ⟨hi, by rw [List.getElem_set_self]; exact Nat.lt_succ_self _⟩
      · rintro ⟨hx, h2⟩
        rw [List.getElem_set] at h2
        split at h2
        · rename_i e
          subst e
          simp only at h2
          by_cases hj : j < ths[i].at_
          · exact .inl ⟨hx, hj⟩
          · exact .inr ⟨rfl, by omega⟩
        · exact .inl ⟨hx, h2⟩
    · rw [List.map_append, List.map_congr_left hsame, List.map_singleton]
      have hs : stepAt ds (ths.set i { ths[i] with regs := ths[i].regs.set ths[i].at_ (nth A.words 0 0), at_ := ths[i].at_ + 1 }) (i, ths[i].at_) = (nth A.words 0 0, uw (nth A.words 0 0 + nth (ds.getD i []) ths[i].at_ 0)) := by
        unfold stepAt foundAt deltaAt
        simp only
        rw [hgi]
        simp only
        rw [ad_nth_self (by omega)]
      rw [hs]
      simp only
      rw [hw0]
      exact e3.snoc
  · rw [ad_none A _ _ p1 h0, List.set_getElem_self]
    exact h

theorem ad_rowOf {b : Int} {ds : List (List Int)} (i : Nat) (h1 : i < (adLit b ds).threads.length) (h2 : i < ds.length) : (adLit b ds).threads[i] = adRow ds[i] := by simp [adLit]

theorem adIns_fit (j : Nat) (d : Int) (hj : j < 4) : fitB (adIns j d) 1 = true := by
  have : j = 0 ∨ j = 1 ∨ j = 2 ∨ j = 3 := by omega
  rcases this with rfl | rfl | rfl | rfl <;> rfl

/-- all places, in the order in which the statement goes through them -/
def places (ds : List (List Int)) : List (Nat × Nat) := (List.range ds.length).flatMap fun i => (List.range (ds.getD i []).length).map fun j => (i, j)
theorem mem_places {ds : List (List Int)} {p : Nat × Nat} : p ∈ places ds ↔ p.1 < ds.length ∧ p.2 < (ds.getD p.1 []).length := by
  obtain ⟨i, j⟩ := p
  simp only [places, List.mem_flatMap, List.mem_range, List.mem_map, Prod.mk.injEq]
  constructor
  · rintro ⟨a, h1, b, h2, rfl, rfl⟩
    exact ⟨h1, h2⟩
  · rintro ⟨h1, h2⟩
    exact ⟨i, h1, j, h2, rfl, rfl⟩
theorem nodup_flatMap_fst (f : Nat → List Nat) (hf : ∀ i, (f i).Nodup) : ∀ n, ((List.range n).flatMap fun i => (f i).map fun j => (i, j)).Nodup
  | 0 => List.nodup_nil
  | n + 1 => by
    rw [List.range_succ, List.flatMap_append, List.nodup_append]
    refine ⟨nodup_flatMap_fst f hf n, ?_, fun x hx y hy => ?_⟩
    · simp only [List.flatMap_cons, List.flatMap_nil, List.append_nil]
      exact List.pairwise_map.2 ((hf n).imp fun h e => h (by simpa using e))
    · simp only [List.mem_flatMap, List.mem_range, List.mem_map] at hx
      simp only [List.flatMap_cons, List.flatMap_nil, List.append_nil, List.mem_map] at hy
      obtain ⟨a, ha, u, -, rfl⟩ := hx
      obtain ⟨v, -, rfl⟩ := hy
      intro e
      simp only [Prod.mk.injEq] at e
      omega
theorem places_nodup (ds : List (List Int)) : (places ds).Nodup := nodup_flatMap_fst _ (fun i => List.nodup_range) _

/-- what the statement's chain is asked -/
def Chained (b : Int) (L : List (Int × Int)) (w : Int) : Prop := ∃ L', L'.Perm L ∧ Chain b L' w

/-- what it all comes to -/
theorem ad_law {b : Int} (hb : inW b) {ds : List (List Int)} (hr : ∀ row ∈ ds, row.length ≤ 4) (hs : soundB (adLit b ds) = true) {P : Park} (hP : Laid (adLit b ds) P) (s : ByteArray) :
    ∃ A, (drained (adLit b ds) P s).s.ars = [A] ∧ slotWords A 1 = [nth A.words 0 0] ∧ (regsOf (drained (adLit b ds) P s).s.ths).length = 4 * ds.length ∧
      (∀ p ∈ places ds, nth (regsOf (drained (adLit b ds) P s).s.ths) (4 * p.1 + p.2) 0 = foundAt (drained (adLit b ds) P s).s.ths p) ∧
      Chained b ((places ds).map (stepAt ds (drained (adLit b ds) P s).s.ths)) (nth A.words 0 0) ∧ inW (nth A.words 0 0) := by
  obtain ⟨A, hA, hI⟩ := drained_inv hP s (I := AdInv b ds) (ad_begin b hb ds) fun A ths i hi h => ad_step hr A ths i hi h
  obtain ⟨-, -, hdone⟩ := drained_done hP hs s
  generalize (drained (adLit b ds) P s).s.ths = ths at hI hdone ⊢
  have key : ∀ (l : List Th), (∀ t ∈ l, t.regs.length = 4) → ∀ (i j : Nat) (hi : i < l.length), j < 4 → nth (regsOf l) (4 * i + j) 0 = nth l[i].regs j 0 := by
    intro l
    induction l with
    | nil => intro _ i j hi; simp at hi
    | cons t l ih =>
      intro hl i j hi hj
      have h4 := hl t (by simp)
      cases i with
      | zero =>
        simp only [nth, regsOf, List.flatMap_cons, List.getD_eq_getElem?_getD]
        rw [List.getElem?_append_left (by omega)]
        simp
      | succ i =>
        have := ih (fun x hx => hl x (by simp [hx])) i j (by simpa using hi) hj
        simp only [nth, regsOf, List.flatMap_cons, List.getD_eq_getElem?_getD] at this ⊢
        rw [List.getElem?_append_right (by omega), show 4 * (i + 1) + j - t.regs.length = 4 * i + j by omega]
        simpa using this
  have hreg : ∀ t ∈ ths, t.regs.length = 4 := by
    intro t ht
    obtain ⟨i, hi, rfl⟩ := List.getElem_of_mem ht
    exact (hI.prog i hi).2.1
  refine ⟨A, hA, ?_, by rw [regsOf_length _ hreg, hI.len]; omega, fun p hp => ?_, ?_⟩
  · unfold slotWords
    rw [hI.width]
    simp [List.range_succ, wordAt]
  · obtain ⟨h1, h2⟩ := mem_places.1 hp
    have h1' : p.1 < ths.length := by rw [hI.len]; exact h1
    have h3 : (ds.getD p.1 []).length ≤ 4 := by
      rw [List.getD_eq_getElem?_getD, List.getElem?_eq_getElem h1]
      exact hr _ (List.getElem_mem h1)
    rw [key ths hreg p.1 p.2 h1' (by omega)]
    unfold foundAt
    rw [List.getD_eq_getElem?_getD, List.getElem?_eq_getElem h1']
    rfl
  · obtain ⟨E, e1, e2, e3⟩ := hI.ex
    refine ⟨⟨E.map (stepAt ds ths), List.Perm.map _ ?_, e3⟩, hI.word⟩
    rw [List.perm_ext_iff_of_nodup e1 (places_nodup ds)]
    intro p
    rw [e2, mem_places]
    constructor
    · rintro ⟨h1, h2⟩
      have h3 := (hI.prog p.1 h1).2.2
      rw [(hI.prog p.1 h1).1] at h3
      simp only [adRow, List.length_map, List.length_range] at h3
      exact ⟨by rw [← hI.len]; exact h1, by omega⟩
    · rintro ⟨h1, h2⟩
      have h1' : p.1 < ths.length := by rw [hI.len]; exact h1
      have h3 := hdone p.1 h1'
      rw [(hI.prog p.1 h1').1] at h3
      simp only [adRow, List.length_map, List.length_range] at h3
      exact ⟨h1', by omega⟩

/-! The chain that the statement looks for. -/

theorem Chain.sum {b w : Int} : ∀ {l : List (Int × Int)}, Chain b l w → w = b + (l.map fun p => p.2 - p.1).sum
  | [], h => by
    have : w = b := h
    simp [this]
  | p :: l, ⟨h1, h2⟩ => by
    have := Chain.sum h2
    rw [List.map_cons, List.sum_cons]
    omega
theorem perm_sum {l l' : List Int} (h : l.Perm l') : l.sum = l'.sum := by
  induction h with
  | nil => rfl
  | cons x h ih => simp [ih]
  | swap x y l => simp only [List.sum_cons]; omega
  | trans h1 h2 ih1 ih2 => exact ih1.trans ih2
theorem Chained.sum {b w : Int} {L : List (Int × Int)} (h : Chained b L w) : w = b + (L.map fun p => p.2 - p.1).sum := by
  obtain ⟨L', hp, hc⟩ := h
  rw [hc.sum, perm_sum (hp.map _)]

/-- how often a word is left, less how often it is found -/
def evenZ (x : Int) (L : List (Int × Int)) : Int := (L.map fun p => (if p.2 = x then (1 : Int) else 0) - (if p.1 = x then 1 else 0)).sum
theorem Chain.evenZ {b w x : Int} : ∀ {l : List (Int × Int)}, Chain b l w → evenZ x l + (if x = b then 1 else 0) - (if x = w then 1 else 0) = 0
  | [], h => by
    have : w = b := h
    subst this
    simp only [Lit.evenZ, List.map_nil, List.sum_nil]
    omega
  | p :: l, ⟨h1, h2⟩ => by
    have := Chain.evenZ (x := x) h2
    simp only [Lit.evenZ, List.map_cons, List.sum_cons] at this ⊢
    rw [h1]
    have e1 : (if b = x then (1 : Int) else 0) = if x = b then 1 else 0 := by
      by_cases h : x = b
      · rw [if_pos h, if_pos h.symm]
      · rw [if_neg h, if_neg (Ne.symm h)]
    have e2 : (if p.2 = x then (1 : Int) else 0) = if x = p.2 then 1 else 0 := by
      by_cases h : x = p.2
      · rw [if_pos h, if_pos h.symm]
      · rw [if_neg h, if_neg (Ne.symm h)]
    rw [e1, e2]
    omega
theorem Chained.even {b w : Int} {L : List (Int × Int)} (h : Chained b L w) (x : Int) : evenZ x L + (if x = b then 1 else 0) - (if x = w then 1 else 0) = 0 := by
  obtain ⟨L', hp, hc⟩ := h
  have := hc.evenZ (x := x)
  rw [show Lit.evenZ x L' = Lit.evenZ x L from perm_sum (hp.map _)] at this
  exact this

/-- can step i be made, where those of r are reached? -/
def okB (b : Int) (L : List (Int × Int)) (r : List Bool) (i : Nat) : Nat → Bool
  | 0 => (L.getD i (0, 0)).1 == b
  | q + 1 => okB b L r i q || (r.getD q false && (L.getD q (0, 0)).2 == (L.getD i (0, 0)).1)
theorem okB_base {b : Int} {L : List (Int × Int)} {r : List Bool} {i : Nat} (h : (L.getD i (0, 0)).1 = b) : ∀ q, okB b L r i q = true
  | 0 => by simp only [okB, h, beq_self_eq_true]
  | q + 1 => by simp only [okB, okB_base h q, Bool.true_or]
theorem okB_at {b : Int} {L : List (Int × Int)} {r : List Bool} {i j : Nat} (h1 : r.getD j false = true) (h2 : (L.getD j (0, 0)).2 = (L.getD i (0, 0)).1) : ∀ q, j < q → okB b L r i q = true
  | 0, h => by omega
  | q + 1, h => by
    by_cases e : j = q
    · subst e
      simp only [okB, h1, h2, beq_self_eq_true, Bool.and_self, Bool.or_true]
    · simp only [okB, okB_at h1 h2 q (by omega), Bool.true_or]

/-- nothing more can be reached: all is -/
theorem Chained.closed {b w : Int} {L : List (Int × Int)} (h : Chained b L w) {r : List Bool} (hc : ∀ i, i < L.length → r.getD i false = false → okB b L r i L.length = false) : ∀ i, i < L.length → r.getD i false = true := by
  obtain ⟨L', hp, hch⟩ := h
  have key : ∀ (l : List (Int × Int)) (b' : Int), Chain b' l w → (∀ p ∈ l, p ∈ L) → (∀ i, i < L.length → (L.getD i (0, 0)).1 = b' → r.getD i false = true) → ∀ p ∈ l, ∀ i, i < L.length → L.getD i (0, 0) = p → r.getD i false = true := by
    intro l
    induction l with
    | nil => intro b' _ _ _ p hp; simp at hp
    | cons q l ih =>
      rintro b' ⟨h1, h2⟩ hm hb p hp i hi he
      have hq : ∀ i, i < L.length → L.getD i (0, 0) = q → r.getD i false = true := fun i hi he => hb i hi (by rw [he]; exact h1)
      rcases List.mem_cons.1 hp with rfl | hp
      · exact hq i hi he
      · refine ih q.2 h2 (fun p hp => hm p (List.mem_cons_of_mem _ hp)) (fun k hk hf => ?_) p hp i hi he
        obtain ⟨j, hj, hjq⟩ := List.getElem_of_mem (hm q (List.mem_cons_self ..))
        have hjg : L.getD j (0, 0) = q := by rw [List.getD_eq_getElem?_getD, List.getElem?_eq_getElem hj, ← hjq]; rfl
        cases hr : r.getD k false
        · have h3 := hc k hk hr
          rw [okB_at (hq j hj hjg) (by rw [hjg, hf]) _ hj] at h3
          cases h3
        · rfl
  intro i hi
  have hmem : L.getD i (0, 0) ∈ L' := by
    rw [List.getD_eq_getElem?_getD, List.getElem?_eq_getElem hi]
    exact hp.mem_iff.2 (List.getElem_mem hi)
  refine key L' b hch (fun p h => hp.mem_iff.1 h) (fun k hk hf => ?_) _ hmem i hi rfl
  cases hr : r.getD k false
  · have h3 := hc k hk hr
    rw [okB_base hf] at h3
    cases h3
  · rfl
end Go.Proofs.Ytdkdeiofjoccnaa.Lit
