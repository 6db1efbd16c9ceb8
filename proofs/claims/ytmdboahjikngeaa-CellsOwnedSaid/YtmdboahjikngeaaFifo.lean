/- CellsFifo, the plain part: filling an arena gives 1, 2, ..; what is freed comes again in the order of freeing. No program in sight. -/
import Derived.Test.YtmdboahjikngeaaAsNew
namespace Go.Proofs.Ytmdboahjikngeaa.Fifo
open Go.Proofs.Ytmdboahjikngeaa.Ar Go.Proofs.Ytmdboahjikngeaa.As
set_option linter.unusedVariables false

variable {A : Arena ByteArray} {n k : Nat}

theorem nth_set {α : Type} (l : List α) (i j : Nat) (x d : α) (hi : i < l.length) : nth (l.set i x) j d = if j = i then x else nth l j d := by
  simp only [nth, List.getD_eq_getElem?_getD, List.getElem?_set]
  by_cases h : i = j
  · subst h; simp [hi]
  · simp [h, Ne.symm h]
theorem nth_range (n i : Nat) (h : i < n) : nth (List.range' 1 n) i 0 = i + 1 := by
  simp [nth, List.getD_eq_getElem?_getD, h, Nat.add_comm]
theorem nth_replicate {α : Type} (n i : Nat) (x d : α) (h : i < n) : nth (List.replicate n x) i d = x := by
  simp [nth, List.getD_eq_getElem?_getD, h]
theorem nth_append {α : Type} (l : List α) (x d : α) (i : Nat) : nth (l ++ [x]) i d = if i < l.length then nth l i d else if i = l.length then x else d := by
  simp only [nth, List.getD_eq_getElem?_getD]
  by_cases h : i < l.length
  · rw [if_pos h, List.getElem?_append_left h]
  · by_cases h2 : i = l.length
    · subst h2; simp
    · have : ¬ i < (l ++ [x]).length := by simp; omega
      rw [List.getElem?_eq_none (by omega)]
      simp [h, h2]

/-- k n have been given -/
structure F1 (A : Arena ByteArray) (n k : Nat) : Prop where
  slots : A.slots = n
  width : A.width = 1
  queue : A.queue = List.range' 1 n
  front : A.front = k % n
  free : A.free = n - k
  used : ∀ s, s ≤ n → nth A.used s false = decide (1 ≤ s ∧ s ≤ k)

theorem F1.start (h1 : 1 ≤ n) : F1 (fresh ByteArray n 1) n 0 where
  slots := rfl
  width := rfl
  queue := rfl
  front := by simp [fresh]
  free := rfl
  used := by
    intro s hs
    simp only [fresh]
    rw [nth_replicate _ _ _ _ (by omega)]
    simp; omega

theorem F1.next (h : F1 A n k) (hk : k < n) : nextSlot A = k + 1 := by
  unfold nextSlot
  rw [h.queue, h.front, Nat.mod_eq_of_lt hk, nth_range _ _ hk]

theorem F1.step (h : F1 A n k) (hf : Fits A) (hk : k < n) (p : ByteArray) : F1 (allocd A p []) n (k + 1) where
  slots := h.slots
  width := h.width
  queue := h.queue
  front := by simp only [allocd]; rw [h.front, h.slots, Nat.mod_add_mod]
  free := by simp only [allocd]; rw [h.free]; omega
  used := by
    intro s hs
    simp only [allocd]
    rw [h.next hk, nth_set _ _ _ _ _ (by have := hf.used; rw [h.slots] at this; omega)]
    by_cases e : s = k + 1
    · subst e; simp
    · rw [if_neg e, h.used s hs]
      have : (1 ≤ s ∧ s ≤ k) ↔ (1 ≤ s ∧ s ≤ k + 1) := by omega
      simp [this]

/-- the n of fr have been freed, in that order -/
structure F2 (A : Arena ByteArray) (n : Nat) (fr : List Nat) : Prop where
  slots : A.slots = n
  width : A.width = 1
  front : A.front = 0
  free : A.free = fr.length
  queue : ∀ i, i < fr.length → nth A.queue i 0 = nth fr i 0
  used : ∀ s, s ≤ n → nth A.used s false = decide (1 ≤ s ∧ s ∉ fr)
  nodup : fr.Nodup
  range : ∀ s ∈ fr, 1 ≤ s ∧ s ≤ n

theorem F1.two (h : F1 A n n) : F2 A n [] where
  slots := h.slots
  width := h.width
  front := by rw [h.front, Nat.mod_self]
  free := by rw [h.free, Nat.sub_self]; rfl
  queue := by intro i hi; simp at hi
  used := by intro s hs; rw [h.used s hs]; simp [hs]
  nodup := List.nodup_nil
  range := by simp

theorem length_le : ∀ (n : Nat) (l : List Nat), l.Nodup → (∀ x ∈ l, 1 ≤ x ∧ x ≤ n) → l.length ≤ n := by
  intro n
  induction n with
  | zero =>
    intro l _ h
    cases l with
    | nil => simp
    | cons x l => have := h x (by simp); omega
  | succ n ih =>
    intro l hd h
    have h1 : (l.erase (n + 1)).length ≤ n := ih _ (hd.erase _) (fun x hx => by
      have hm := (List.Nodup.mem_erase_iff hd).1 hx
      have := h x hm.2
      have := hm.1
      omega)
    have h2 : l.length ≤ (l.erase (n + 1)).length + 1 := by
      rw [List.length_erase]
      split <;> omega
    omega

theorem F2.room {fr : List Nat} (h : F2 A n fr) {s : Nat} (h1 : 1 ≤ s) (h2 : s ≤ n) (h3 : s ∉ fr) : A.free < A.slots := by
  have := length_le n (s :: fr) (List.nodup_cons.2 ⟨h3, h.nodup⟩) (by
    intro x hx
    rcases List.mem_cons.1 hx with rfl | hx
    · exact ⟨h1, h2⟩
    · exact h.range x hx)
  rw [h.free, h.slots]
  rw [List.length_cons] at this
  omega

theorem F2.inUse {fr : List Nat} (h : F2 A n fr) {s : Nat} (h1 : 1 ≤ s) (h2 : s ≤ n) (h3 : s ∉ fr) : inUseB A (s : Int) = true := by
  simp only [inUseB, Int.toNat_natCast, h.used s h2, h.slots]
  simp [h3]; omega

theorem F2.step {fr : List Nat} (h : F2 A n fr) (hf : Fits A) {s : Nat} (h1 : 1 ≤ s) (h2 : s ≤ n) (h3 : s ∉ fr) : F2 (freed A s) n (fr ++ [s]) := by
  have hr := h.room h1 h2 h3
  have hm : (A.front + A.free) % A.slots = fr.length := by
    rw [h.front, Nat.zero_add, h.free, Nat.mod_eq_of_lt (by rw [← h.free]; exact hr)]
  refine ⟨h.slots, h.width, h.front, ?_, ?_, ?_, ?_, ?_⟩
  · simp only [freed]; rw [h.free]; simp
  · intro i hi
    simp only [freed]
    rw [hm, nth_set _ _ _ _ _ (by have := hf.queue; rw [h.free] at hr; omega), nth_append]
    simp only [List.length_append, List.length_cons, List.length_nil] at hi
    by_cases e : i = fr.length
    · subst e; simp
    · rw [if_neg e, if_pos (by omega), h.queue i (by omega)]
  · intro t ht
    simp only [freed]
    rw [nth_set _ _ _ _ _ (by have := hf.used; rw [h.slots] at this; omega)]
    by_cases e : t = s
    · subst e; simp
    · rw [if_neg e, h.used t ht]; simp [e]
  · rw [List.nodup_append]
    refine ⟨h.nodup, by simp, ?_⟩
    intro a ha b hb
    simp at hb
    subst hb
    rintro rfl
    exact h3 ha
  · intro t ht
    rcases List.mem_append.1 ht with ht | ht
    · exact h.range t ht
    · simp at ht; subst ht; exact ⟨h1, h2⟩

/-- .. and i of them have been given again -/
structure F3 (A : Arena ByteArray) (n : Nat) (fr : List Nat) (i : Nat) : Prop where
  slots : A.slots = n
  width : A.width = 1
  front : A.front = i % n
  free : A.free = fr.length - i
  queue : ∀ i, i < fr.length → nth A.queue i 0 = nth fr i 0

theorem F2.three {fr : List Nat} (h : F2 A n fr) : F3 A n fr 0 where
  slots := h.slots
  width := h.width
  front := by rw [h.front]; simp
  free := by rw [h.free]; rfl
  queue := h.queue

theorem F2.le {fr : List Nat} (h : F2 A n fr) : fr.length ≤ n := length_le n fr h.nodup h.range

theorem F3.next {fr : List Nat} {i : Nat} (h : F3 A n fr i) (hi : i < fr.length) (hl : fr.length ≤ n) : nextSlot A = nth fr i 0 := by
  unfold nextSlot
  rw [h.front, Nat.mod_eq_of_lt (by omega), h.queue i hi]
theorem F3.step {fr : List Nat} {i : Nat} (h : F3 A n fr i) (hi : i < fr.length) (p : ByteArray) : F3 (allocd A p []) n fr (i + 1) where
  slots := h.slots
  width := h.width
  front := by simp only [allocd]; rw [h.front, h.slots, Nat.mod_add_mod]
  free := by simp only [allocd]; rw [h.free]; omega
  queue := h.queue
end Go.Proofs.Ytmdboahjikngeaa.Fifo
