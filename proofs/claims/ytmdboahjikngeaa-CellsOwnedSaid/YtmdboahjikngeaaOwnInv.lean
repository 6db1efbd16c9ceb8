/- The arena's free queue, the plain part: R: the slots that are free, in the order in which they come. -/
import Derived.Test.YtmdboahjikngeaaOwnWords
namespace Go.Proofs.Ytmdboahjikngeaa.Owned
open Go.Proofs.Ytmdboahjikngeaa.Ar Go.Proofs.Ytmdboahjikngeaa.As Go.Proofs.Ytmdboahjikngeaa.Fifo
set_option linter.unusedVariables false

structure Inv {α : Type} (A : Arena α) (R : List Nat) : Prop where
  len : R.length = A.free
  queue : ∀ k, k < A.free → nth A.queue ((A.front + k) % A.slots) 0 = nth R k 0
  nodup : R.Nodup
  mem : ∀ s, s ∈ R ↔ (1 ≤ s ∧ s ≤ A.slots ∧ nth A.used s false = false)

theorem nth_mem {l : List Nat} {k : Nat} (h : k < l.length) : nth l k 0 ∈ l := by
  rw [nth, List.getD_eq_getElem?_getD, List.getElem?_eq_getElem h]
  exact List.getElem_mem h
theorem nth_cons (s : Nat) (l : List Nat) (k : Nat) : nth (s :: l) (k + 1) 0 = nth l k 0 := by
  simp [nth, List.getD_eq_getElem?_getD]

variable {A : Arena ByteArray}

theorem Inv.start (n m : Nat) (h1 : 1 ≤ n) : Inv (fresh ByteArray n m) (List.range' 1 n) where
  len := by simp [fresh]
  queue := by
    intro k hk
    simp only [fresh] at hk ⊢
    rw [Nat.zero_add, Nat.mod_eq_of_lt hk]
  nodup := List.nodup_range'
  mem := by
    intro s
    simp only [fresh, List.mem_range'_1]
    constructor
    · intro h
      exact ⟨by omega, by omega, nth_replicate _ _ _ _ (by omega)⟩
    · intro h
      omega

theorem Inv.next {s : Nat} {R : List Nat} (h : Inv A (s :: R)) (hf : Fits A) : nextSlot A = s := by
  have hl := h.len
  have := h.queue 0 (by rw [← hl]; simp)
  rw [Nat.add_zero, Nat.mod_eq_of_lt hf.front] at this
  exact this

theorem Inv.next_free {R : List Nat} (h : Inv A R) (hf : Fits A) (h1 : 1 ≤ A.free) : 1 ≤ nextSlot A ∧ nextSlot A ≤ A.slots ∧ nth A.used (nextSlot A) false = false := by
  cases R with
  | nil => have := h.len; simp at this; omega
  | cons s R =>
    rw [h.next hf]
    exact (h.mem s).1 (by simp)

theorem Inv.alloc {s : Nat} {R : List Nat} (h : Inv A (s :: R)) (hf : Fits A) (p : ByteArray) (ws : List Int) : Inv (allocd A p ws) R := by
  have hn := h.next hf
  have hl := h.len
  rw [List.length_cons] at hl
  have hs := (h.mem s).1 (by simp)
  refine ⟨?_, ?_, (List.nodup_cons.1 h.nodup).2, ?_⟩
  · simp only [allocd]; omega
  · intro k hk
    simp only [allocd] at hk ⊢
    have := h.queue (k + 1) (by omega)
    rw [nth_cons] at this
    rw [Nat.mod_add_mod, ← this]
    congr 2
    omega
  · intro t
    simp only [allocd]
    rw [hn, nth_set _ _ _ _ _ (by have := hf.used; omega)]
    have hm := h.mem t
    rw [List.mem_cons] at hm
    have hnot := (List.nodup_cons.1 h.nodup).1
    by_cases e : t = s
    · subst e
      simp [hnot]
    · simp only [e, false_or] at hm
      rw [if_neg e]
      exact hm

theorem Inv.room {R : List Nat} (h : Inv A R) {s : Nat} (h1 : 1 ≤ s) (h2 : s ≤ A.slots) (h3 : nth A.used s false = true) : A.free < A.slots := by
  have hn : s ∉ R := fun hm => by have := ((h.mem s).1 hm).2.2; rw [h3] at this; cases this
  have := length_le A.slots (s :: R) (List.nodup_cons.2 ⟨hn, h.nodup⟩) (by
    intro x hx
    rcases List.mem_cons.1 hx with rfl | hx
    · exact ⟨h1, h2⟩
    · exact ⟨((h.mem x).1 hx).1, ((h.mem x).1 hx).2.1⟩)
  rw [List.length_cons, h.len] at this
  omega

theorem Inv.free {R : List Nat} (h : Inv A R) (hf : Fits A) {s : Nat} (h1 : 1 ≤ s) (h2 : s ≤ A.slots) (h3 : nth A.used s false = true) : Inv (freed A s) (R ++ [s]) := by
  have hr := h.room h1 h2 h3
  have hl := h.len
  have hn : s ∉ R := fun hm => by have := ((h.mem s).1 hm).2.2; rw [h3] at this; cases this
  have hq : (A.front + A.free) % A.slots < A.queue.length := by rw [hf.queue]; exact Nat.mod_lt _ (by omega)
  refine ⟨by simp [freed, hl], ?_, ?_, ?_⟩
  · intro k hk
    simp only [freed] at hk ⊢
    rw [nth_set _ _ _ _ _ hq, nth_append]
    by_cases e : k = A.free
    · subst e
      rw [if_pos rfl, if_neg (by omega), if_pos hl.symm]
    · have hk2 : k < A.free := by omega
      have hne : ¬ (A.front + k) % A.slots = (A.front + A.free) % A.slots := by
        intro he
        have hfr := hf.front
        by_cases c1 : A.front + k < A.slots
        · rw [Nat.mod_eq_of_lt c1] at he
          by_cases c2 : A.front + A.free < A.slots
          · rw [Nat.mod_eq_of_lt c2] at he; omega
          · rw [Nat.mod_eq_sub_mod (by omega), Nat.mod_eq_of_lt (by omega)] at he; omega
        · have c2 : ¬ A.front + A.free < A.slots := by omega
          rw [Nat.mod_eq_sub_mod (by omega), Nat.mod_eq_of_lt (by omega), Nat.mod_eq_sub_mod (by omega), Nat.mod_eq_of_lt (by omega)] at he
          omega
      rw [if_neg hne, if_pos (by omega)]
      exact h.queue k hk2
  · rw [List.nodup_append]
    refine ⟨h.nodup, by simp, ?_⟩
    intro a ha b hb
    simp at hb
    subst hb
    rintro rfl
    exact hn ha
  · intro t
    simp only [freed]
    rw [nth_set _ _ _ _ _ (by have := hf.used; omega), List.mem_append, h.mem t]
    by_cases e : t = s
    · subst e; simp [h1, h2]
    · simp [e]

/-- what does not touch the queue nor the flags -/
theorem Inv.same {R : List Nat} (h : Inv A R) {A' : Arena ByteArray} (e1 : A'.free = A.free) (e2 : A'.queue = A.queue) (e3 : A'.front = A.front) (e4 : A'.slots = A.slots) (e5 : A'.used = A.used) : Inv A' R :=
  ⟨h.len.trans e1.symm, fun k hk => by rw [e2, e3, e4]; exact h.queue k (by omega), h.nodup, fun s => by rw [e4, e5]; exact h.mem s⟩

/-- none is free just if all are in use -/
theorem Inv.full {R : List Nat} (h : Inv A R) : A.free = 0 ↔ ∀ s, 1 ≤ s → s ≤ A.slots → nth A.used s false = true := by
  rw [← h.len]
  constructor
  · intro h0 s h1 h2
    obtain rfl : R = [] := List.eq_nil_of_length_eq_zero h0
    cases hu : nth A.used s false with
    | true => rfl
    | false => exact absurd ((h.mem s).2 ⟨h1, h2, hu⟩) (by simp)
  · intro hall
    cases R with
    | nil => rfl
    | cons s R =>
      have hs := (h.mem s).1 (by simp)
      have := hall s hs.1 hs.2.1
      rw [hs.2.2] at this
      cases this
end Go.Proofs.Ytmdboahjikngeaa.Owned
