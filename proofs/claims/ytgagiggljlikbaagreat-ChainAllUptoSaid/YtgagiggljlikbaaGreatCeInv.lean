/- The arena's free queue and its words, the plain part: R: the slots that are free, in the order in which they come. -/
import Derived.Test.YtgagiggljlikbaaGreatCeSix
import Derived.Test.YtgagiggljlikbaaGreatCePeek
namespace Go.Proofs.YtgagiggljlikbaaGreat.En
open Go.Proofs.YtgagiggljlikbaaGreat.Mem Go.Proofs.YtgagiggljlikbaaGreat.Ar
set_option linter.unusedVariables false

theorem nth_set {α : Type} (l : List α) (i j : Nat) (x d : α) (hi : i < l.length) : nth (l.set i x) j d = if j = i then x else nth l j d := by
  simp only [nth, List.getD_eq_getElem?_getD, List.getElem?_set]
  by_cases h : i = j
  · subst h; simp [hi]
  · simp [h, Ne.symm h]
theorem nth_range (n i : Nat) (h : i < n) : nth (List.range' 1 n) i 0 = i + 1 := by
  simp [nth, List.getD_eq_getElem?_getD, h, Nat.add_comm]
theorem nth_replicate {α : Type} (n i : Nat) (x d : α) (h : i < n) : nth (List.replicate n x) i d = x := by
  simp [nth, List.getD_eq_getElem?_getD, h]
theorem nth_append {α : Type} (l : List α) (x d : α) (i : Nat) : nth (l ++ [x]) i d = if i < l.length then nth l i d else if i = l.length then x else d := by
  simp only [nth, List.getD_eq_getElem?_getD]
  by_cases h : i < l.length
  · rw [if_pos h, List.getElem?_append_left h]
  · by_cases h2 : i = l.length
    · subst h2; simp
    · have : ¬ i < (l ++ [x]).length := by simp; omega
      rw [List.getElem?_eq_none (by omega)]
      simp [h, h2]

theorem length_le : ∀ (n : Nat) (l : List Nat), l.Nodup → (∀ x ∈ l, 1 ≤ x ∧ x ≤ n) → l.length ≤ n := by
  intro n
  induction n with
  | zero =>
    intro l _ h
    cases l with
    | nil => simp
    | cons x l => have := h x (by simp); omega
  | succ n ih =>
    intro l hd h
    have h1 : (l.erase (n + 1)).length ≤ n := ih _ (hd.erase _) (fun x hx => by
      have hm := (List.Nodup.mem_erase_iff hd).1 hx
      have := h x hm.2
      have := hm.1
      omega)
    have h2 : l.length ≤ (l.erase (n + 1)).length + 1 := by
      rw [List.length_erase]
      split <;> omega
    omega

structure Inv {α : Type} (A : Arena α) (R : List Nat) : Prop where
  len : R.length = A.free
  queue : ∀ k, k < A.free → nth A.queue ((A.front + k) % A.slots) 0 = nth R k 0
  nodup : R.Nodup
  mem : ∀ s, s ∈ R ↔ (1 ≤ s ∧ s ≤ A.slots ∧ nth A.used s false = false)

theorem nth_mem {l : List Nat} {k : Nat} (h : k < l.length) : nth l k 0 ∈ l := by
  rw [nth, List.getD_eq_getElem?_getD, List.getElem?_eq_getElem h]
  exact List.getElem_mem h
theorem nth_cons (s : Nat) (l : List Nat) (k : Nat) : nth (s :: l) (k + 1) 0 = nth l k 0 := by
  simp [nth, List.getD_eq_getElem?_getD]

variable {A : Arena Ent}

theorem Inv.start (n m : Nat) (h1 : 1 ≤ n) : Inv (fresh Ent n m) (List.range' 1 n) where
  len := by simp [fresh]
  queue := by
    intro k hk
    simp only [fresh] at hk ⊢
    rw [Nat.zero_add, Nat.mod_eq_of_lt hk]
  nodup := List.nodup_range'
  mem := by
    intro s
    simp only [fresh, List.mem_range'_1]
    constructor
    · intro h
      exact ⟨by omega, by omega, nth_replicate _ _ _ _ (by omega)⟩
    · intro h
      omega

theorem Inv.next {s : Nat} {R : List Nat} (h : Inv A (s :: R)) (hf : Fits A) : nextSlot A = s := by
  have hl := h.len
  have := h.queue 0 (by rw [← hl]; simp)
  rw [Nat.add_zero, Nat.mod_eq_of_lt hf.front] at this
  exact this

theorem Inv.next_free {R : List Nat} (h : Inv A R) (hf : Fits A) (h1 : 1 ≤ A.free) : 1 ≤ nextSlot A ∧ nextSlot A ≤ A.slots ∧ nth A.used (nextSlot A) false = false := by
  cases R with
  | nil => have := h.len; simp at this; omega
  | cons s R =>
    rw [h.next hf]
    exact (h.mem s).1 (by simp)

theorem Inv.alloc {s : Nat} {R : List Nat} (h : Inv A (s :: R)) (hf : Fits A) (p : Ent) (ws : List Int) : Inv (allocd A p ws) R := by
  have hn := h.next hf
  have hl := h.len
  rw [List.length_cons] at hl
  have hs := (h.mem s).1 (by simp)
  refine ⟨?_, ?_, (List.nodup_cons.1 h.nodup).2, ?_⟩
  · simp only [allocd]; omega
  · intro k hk
    simp only [allocd] at hk ⊢
    have := h.queue (k + 1) (by omega)
    rw [nth_cons] at this
    rw [Nat.mod_add_mod, ← this]
    congr 2
    omega
  · intro t
    simp only [allocd]
    rw [hn, nth_set _ _ _ _ _ (by have := hf.used; omega)]
    have hm := h.mem t
    rw [List.mem_cons] at hm
    have hnot := (List.nodup_cons.1 h.nodup).1
    by_cases e : t = s
    · subst e
      simp [hnot]
    · simp only [e, false_or] at hm
      rw [if_neg e]
      exact hm

theorem Inv.room {R : List Nat} (h : Inv A R) {s : Nat} (h1 : 1 ≤ s) (h2 : s ≤ A.slots) (h3 : nth A.used s false = true) : A.free < A.slots := by
  have hn : s ∉ R := fun hm => by have := ((h.mem s).1 hm).2.2; rw [h3] at this; cases this
  have := length_le A.slots (s :: R) (List.nodup_cons.2 ⟨hn, h.nodup⟩) (by
    intro x hx
    rcases List.mem_cons.1 hx with rfl | hx
    · exact ⟨h1, h2⟩
    · exact ⟨((h.mem x).1 hx).1, ((h.mem x).1 hx).2.1⟩)
  rw [List.length_cons, h.len] at this
  omega

theorem Inv.free {R : List Nat} (h : Inv A R) (hf : Fits A) {s : Nat} (h1 : 1 ≤ s) (h2 : s ≤ A.slots) (h3 : nth A.used s false = true) : Inv (freed A s) (R ++ [s]) := by
  have hr := h.room h1 h2 h3
  have hl := h.len
  have hn : s ∉ R := fun hm => by have := ((h.mem s).1 hm).2.2; rw [h3] at this; cases this
  have hq : (A.front + A.free) % A.slots < A.queue.length := by rw [hf.queue]; exact Nat.mod_lt _ (by omega)
  refine ⟨by simp [freed, hl], ?_, ?_, ?_⟩
  · intro k hk
    simp only [freed] at hk ⊢
    rw [nth_set _ _ _ _ _ hq, nth_append]
    by_cases e : k = A.free
    · subst e
      rw [if_pos rfl, if_neg (by omega), if_pos hl.symm]
    · have hk2 : k < A.free := by omega
      have hne : ¬ (A.front + k) % A.slots = (A.front + A.free) % A.slots := by
        intro he
        have hfr := hf.front
        by_cases c1 : A.front + k < A.slots
        · rw [Nat.mod_eq_of_lt c1] at he
          by_cases c2 : A.front + A.free < A.slots
          · rw [Nat.mod_eq_of_lt c2] at he; omega
          · rw [Nat.mod_eq_sub_mod (by omega), Nat.mod_eq_of_lt (by omega)] at he; omega
        · have c2 : ¬ A.front + A.free < A.slots := by omega
          rw [Nat.mod_eq_sub_mod (by omega), Nat.mod_eq_of_lt (by omega), Nat.mod_eq_sub_mod (by omega), Nat.mod_eq_of_lt (by omega)] at he
          omega
      rw [if_neg hne, if_pos (by omega)]
      exact h.queue k hk2
  · rw [List.nodup_append]
    refine ⟨h.nodup, by simp, ?_⟩
    intro a ha b hb
    simp at hb
    subst hb
    rintro rfl
    exact hn ha
  · intro t
    simp only [freed]
    rw [nth_set _ _ _ _ _ (by have := hf.used; omega), List.mem_append, h.mem t]
    by_cases e : t = s
    · subst e; simp [h1, h2]
    · simp [e]

/-- what does not touch the queue nor the flags -/
theorem Inv.same {R : List Nat} (h : Inv A R) {A' : Arena Ent} (e1 : A'.free = A.free) (e2 : A'.queue = A.queue) (e3 : A'.front = A.front) (e4 : A'.slots = A.slots) (e5 : A'.used = A.used) : Inv A' R :=
  ⟨h.len.trans e1.symm, fun k hk => by rw [e2, e3, e4]; exact h.queue k (by omega), h.nodup, fun s => by rw [e4, e5]; exact h.mem s⟩

/-- none is free just if all are in use -/
theorem Inv.full {R : List Nat} (h : Inv A R) : A.free = 0 ↔ ∀ s, 1 ≤ s → s ≤ A.slots → nth A.used s false = true := by
  rw [← h.len]
  constructor
  · intro h0 s h1 h2
    obtain rfl : R = [] := List.eq_nil_of_length_eq_zero h0
    cases hu : nth A.used s false with
    | true => rfl
    | false => exact absurd ((h.mem s).2 ⟨h1, h2, hu⟩) (by simp)
  · intro hall
    cases R with
    | nil => rfl
    | cons s R =>
      have hs := (h.mem s).1 (by simp)
      have := hall s hs.1 hs.2.1
      rw [hs.2.2] at this
      cases this
theorem fill_len (l : List Int) (base : Nat) (ws : List Int) : ∀ k, (fill l base ws k).length = l.length
  | 0 => rfl
  | k + 1 => by simp [fill, fill_len l base ws k]

theorem nth_fill (l : List Int) (base : Nat) (ws : List Int) (j : Nat) : ∀ k, base + k ≤ l.length → nth (fill l base ws k) j 0 = if base ≤ j ∧ j < base + k then nth ws (j - base) 0 else nth l j 0
  | 0, _ => by
    rw [if_neg (by omega)]
    rfl
  | k + 1, h => by
    show nth ((fill l base ws k).set (base + k) (nth ws k 0)) j 0 = _
    rw [nth_set _ _ _ _ _ (by rw [fill_len]; omega)]
    by_cases e : j = base + k
    · subst e
      rw [if_pos rfl, if_pos (by omega), Nat.add_sub_cancel_left]
    · rw [if_neg e, nth_fill l base ws j k (by omega)]
      by_cases c : base ≤ j ∧ j < base + k
      · rw [if_pos c, if_pos (by omega)]
      · rw [if_neg c, if_neg (by omega)]

theorem place_eq {m a b i j : Nat} (hi : i < m) (hj : j < m) (h : a * m + i = b * m + j) : a = b ∧ i = j := by
  have h1 : (a * m + i) / m = a := by rw [Nat.mul_comm, Nat.mul_add_div (by omega), Nat.div_eq_of_lt hi]; omega
  have h2 : (b * m + j) / m = b := by rw [Nat.mul_comm, Nat.mul_add_div (by omega), Nat.div_eq_of_lt hj]; omega
  have e : a = b := by rw [← h1, ← h2, h]
  subst e
  exact ⟨rfl, by omega⟩

theorem wordAt_inj {A : Arena Ent} {s t i j : Nat} (hs : 1 ≤ s) (ht : 1 ≤ t) (hi : i < A.width) (hj : j < A.width) (h : wordAt A s i = wordAt A t j) : s = t ∧ i = j := by
  have := place_eq hi hj h
  omega

theorem slot_self {p : Ent} {ws : List Int} (hf : Fits A) : slotWords (allocd A p ws) (nextSlot A) = (List.range A.width).map fun i => nth ws i 0 := by
  obtain ⟨h1, h2⟩ := next_range hf
  have hl := hf.words
  refine List.map_congr_left fun i hi => ?_
  have hi : i < A.width := List.mem_range.1 hi
  have hw := wordAt_lt hf h1 h2 hi
  show nth (fill A.words ((nextSlot A - 1) * A.width) ws A.width) ((nextSlot A - 1) * A.width + i) 0 = _
  rw [nth_fill, if_pos (by omega), Nat.add_sub_cancel_left]
  have := wordAt_lt hf h1 h2 (c := A.width - 1) (by omega)
  unfold wordAt at this
  omega

theorem slot_other {p : Ent} {ws : List Int} (hf : Fits A) {t : Nat} (ht : 1 ≤ t) (hne : t ≠ nextSlot A) : slotWords (allocd A p ws) t = slotWords A t := by
  obtain ⟨h1, h2⟩ := next_range hf
  have hl := hf.words
  refine List.map_congr_left fun i hi => ?_
  have hi : i < A.width := List.mem_range.1 hi
  show nth (fill A.words ((nextSlot A - 1) * A.width) ws A.width) (wordAt A t i) 0 = _
  rw [nth_fill, if_neg]
  · rintro ⟨c1, c2⟩
    have := wordAt_inj (A := A) h1 ht (i := wordAt A t i - (nextSlot A - 1) * A.width) (j := i) (by omega) hi (by unfold wordAt at c1 c2 ⊢; omega)
    exact hne this.1.symm
  · have := wordAt_lt hf h1 h2 (c := A.width - 1) (by omega)
    unfold wordAt at this
    omega

theorem set_self (hf : Fits A) {s c : Nat} (x : Int) (h1 : 1 ≤ s) (h2 : s ≤ A.slots) (hc : c < A.width) : slotWords { counted A with words := A.words.set (wordAt A s c) x } s = (slotWords A s).set c x := by
  have hl := hf.words
  apply List.ext_getElem?
  intro i
  rw [List.getElem?_set, slotWords_length]
  by_cases hi : i < A.width
  · have e1 : (slotWords { counted A with words := A.words.set (wordAt A s c) x } s)[i]? = some (nth (A.words.set (wordAt A s c) x) (wordAt A s i) 0) := by
      show ((List.range A.width).map _)[i]? = _
      rw [List.getElem?_map, List.getElem?_range hi]
      rfl
    have e2 : (slotWords A s)[i]? = some (nth A.words (wordAt A s i) 0) := by
      show ((List.range A.width).map _)[i]? = _
      rw [List.getElem?_map, List.getElem?_range hi]
      rfl
    have hw := wordAt_lt hf h1 h2 hc
    rw [e1, e2, nth_set _ _ _ _ _ (by omega)]
    by_cases e : c = i
    · subst e
      rw [if_pos rfl, if_pos rfl, if_pos hc]
    · rw [if_neg e, if_neg]
      intro h
      exact e (wordAt_inj h1 h1 hi hc h).2.symm
  · rw [List.getElem?_eq_none (by rw [slotWords_length]; exact Nat.le_of_not_lt hi), List.getElem?_eq_none (by rw [slotWords_length]; omega)]
    split
    · rename_i e; omega
    · rfl

theorem set_others (hf : Fits A) {s c t : Nat} (x : Int) (h1 : 1 ≤ s) (h2 : s ≤ A.slots) (hc : c < A.width) (ht : 1 ≤ t) (hne : t ≠ s) : slotWords { counted A with words := A.words.set (wordAt A s c) x } t = slotWords A t := by
  have hl := hf.words
  refine List.map_congr_left fun i hi => ?_
  have hi : i < A.width := List.mem_range.1 hi
  have hw := wordAt_lt hf h1 h2 hc
  show nth (A.words.set (wordAt A s c) x) (wordAt A t i) 0 = _
  rw [nth_set _ _ _ _ _ (by omega), if_neg]
  intro h
  exact hne (wordAt_inj ht h1 hi hc h).1

end Go.Proofs.YtgagiggljlikbaaGreat.En
