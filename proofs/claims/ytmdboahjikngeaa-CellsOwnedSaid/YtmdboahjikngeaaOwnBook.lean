/- The Book of CellsOwned: it mirrors the arena. -/
import Derived.Test.YtmdboahjikngeaaOwnInv
import Derived.Test.YtmdboahjikngeaaAsPeek
namespace Go.Proofs.Ytmdboahjikngeaa.Owned
open Go.RowKit Go.Proofs.Ytmdboahjikngeaa.Mem Go.Proofs.Ytmdboahjikngeaa.Ar Go.Proofs.Ytmdboahjikngeaa.As Go.Proofs.Ytmdboahjikngeaa.Fifo
set_option linter.unusedVariables false

/-- where the Book lies: its head, the flags, the names, the rows; r s: the row of s -/
structure Pl where
  b : Nat
  h : Nat
  n : Nat
  v : Nat
  r : Nat → Nat

def Pl.blocks (P : Pl) : List Nat := [P.b, P.h, P.n, P.v]
def used (A : Arena ByteArray) (s : Nat) : Prop := nth A.used s false = true

structure Book (w : World) (L : Bk) (P : Pl) (N : List ByteArray) (V : List Value) (A : Arena ByteArray) : Prop where
  hb : w.heap[P.b]? = some (.cells #[.slice (some ⟨P.h, 0, none⟩) (A.slots + 1) (A.slots + 1), .slice (some ⟨P.n, 0, none⟩) (A.slots + 1) (A.slots + 1), .slice (some ⟨P.v, 0, none⟩) (A.slots + 1) (A.slots + 1)] 49 (0, 0))
  hh : w.heap[P.h]? = some (.cells (A.used.map Value.bool).toArray 4 (0, 0))
  hn : w.heap[P.n]? = some (.cells (N.map Value.string).toArray 9 (0, 0))
  hv : w.heap[P.v]? = some (.cells V.toArray 52 (0, 0))
  nlen : N.length = A.slots + 1
  vlen : V.length = A.slots + 1
  name : ∀ s, used A s → nth N s ByteArray.empty = nth A.items s ByteArray.empty
  at_ : ∀ s, used A s → V[s]? = some (.slice (some ⟨P.r s, 0, none⟩) A.width A.width)
  row : ∀ s, used A s → w.heap[P.r s]? = some (.cells ((slotWords A s).map (.int .u64)).toArray 51 (0, 0))
  nodup : P.blocks.Nodup
  off : ∀ x ∈ P.blocks, x ∉ L.blocks
  roff : ∀ s, used A s → P.r s ∉ L.blocks ∧ P.r s ∉ P.blocks
  inj : ∀ s t, used A s → used A t → P.r s = P.r t → s = t

variable {w w' : World} {L : Bk} {P : Pl} {N : List ByteArray} {V : List Value} {A A' : Arena ByteArray}

/-- an arena's method that changes no slot's holder, words and payload -/
theorem Book.same (h : Book w L P N V A) (k : Keep L.blocks w w') (e1 : A'.slots = A.slots) (e2 : A'.width = A.width) (e3 : A'.used = A.used) (e4 : A'.items = A.items) (e5 : A'.words = A.words) : Book w' L P N V A' := by
  have hu : ∀ s, used A' s ↔ used A s := fun s => by unfold used; rw [e3]
  have hs : ∀ s, slotWords A' s = slotWords A s := fun s => by unfold slotWords wordAt; rw [e2, e5]
  have m := fun x (hx : x ∈ P.blocks) => h.off x hx
  refine ⟨?_, ?_, k.old h.hn (m _ (by simp [Pl.blocks])), k.old h.hv (m _ (by simp [Pl.blocks])), by rw [e1]; exact h.nlen, by rw [e1]; exact h.vlen, ?_, ?_, ?_, h.nodup, h.off, ?_, ?_⟩
  · rw [e1]; exact k.old h.hb (m _ (by simp [Pl.blocks]))
  · rw [e3]; exact k.old h.hh (m _ (by simp [Pl.blocks]))
  · intro s hx; rw [e4]; exact h.name s ((hu s).1 hx)
  · intro s hx; rw [e2]; exact h.at_ s ((hu s).1 hx)
  · intro s hx; rw [hs]; exact k.old (h.row s ((hu s).1 hx)) (h.roff s ((hu s).1 hx)).1
  · intro s hx; exact h.roff s ((hu s).1 hx)
  · intro s t hx hy; exact h.inj s t ((hu s).1 hx) ((hu t).1 hy)

/-! ### plain -/
theorem fill_len (l : List Int) (base : Nat) (ws : List Int) : ∀ k, (fill l base ws k).length = l.length
  | 0 => rfl
  | k + 1 => by simp [fill, fill_len l base ws k]

theorem nth_fill (l : List Int) (base : Nat) (ws : List Int) (j : Nat) : ∀ k, base + k ≤ l.length → nth (fill l base ws k) j 0 = if base ≤ j ∧ j < base + k then nth ws (j - base) 0 else nth l j 0
  | 0, _ => by
    rw [if_neg (by omega)]
    rfl
  | k + 1, h => by
    show nth ((fill l base ws k).set (base + k) (nth ws k 0)) j 0 = _
    rw [nth_set _ _ _ _ _ (by rw [fill_len]; omega)]
    by_cases e : j = base + k
    · subst e
      rw [if_pos rfl, if_pos (by omega), Nat.add_sub_cancel_left]
    · rw [if_neg e, nth_fill l base ws j k (by omega)]
      by_cases c : base ≤ j ∧ j < base + k
      · rw [if_pos c, if_pos (by omega)]
      · rw [if_neg c, if_neg (by omega)]

theorem place_eq {m a b i j : Nat} (hi : i < m) (hj : j < m) (h : a * m + i = b * m + j) : a = b ∧ i = j := by
  have h1 : (a * m + i) / m = a := by rw [Nat.mul_comm, Nat.mul_add_div (by omega), Nat.div_eq_of_lt hi]; omega
  have h2 : (b * m + j) / m = b := by rw [Nat.mul_comm, Nat.mul_add_div (by omega), Nat.div_eq_of_lt hj]; omega
  have e : a = b := by rw [← h1, ← h2, h]
  subst e
  exact ⟨rfl, by omega⟩

theorem wordAt_inj {A : Arena ByteArray} {s t i j : Nat} (hs : 1 ≤ s) (ht : 1 ≤ t) (hi : i < A.width) (hj : j < A.width) (h : wordAt A s i = wordAt A t j) : s = t ∧ i = j := by
  have := place_eq hi hj h
  omega

theorem slot_self {p : ByteArray} {ws : List Int} (hf : Fits A) : slotWords (allocd A p ws) (nextSlot A) = (List.range A.width).map fun i => nth ws i 0 := by
  obtain ⟨h1, h2⟩ := next_range hf
  have hl := hf.words
  refine List.map_congr_left fun i hi => ?_
  have hi : i < A.width := List.mem_range.1 hi
  have hw := wordAt_lt hf h1 h2 hi
  show nth (fill A.words ((nextSlot A - 1) * A.width) ws A.width) ((nextSlot A - 1) * A.width + i) 0 = _
  rw [nth_fill, if_pos (by omega), Nat.add_sub_cancel_left]
  have := wordAt_lt hf h1 h2 (c := A.width - 1) (by omega)
  unfold wordAt at this
  omega

theorem slot_other {p : ByteArray} {ws : List Int} (hf : Fits A) {t : Nat} (ht : 1 ≤ t) (hne : t ≠ nextSlot A) : slotWords (allocd A p ws) t = slotWords A t := by
  obtain ⟨h1, h2⟩ := next_range hf
  have hl := hf.words
  refine List.map_congr_left fun i hi => ?_
  have hi : i < A.width := List.mem_range.1 hi
  show nth (fill A.words ((nextSlot A - 1) * A.width) ws A.width) (wordAt A t i) 0 = _
  rw [nth_fill, if_neg]
  · rintro ⟨c1, c2⟩
    have := wordAt_inj (A := A) h1 ht (i := wordAt A t i - (nextSlot A - 1) * A.width) (j := i) (by omega) hi (by unfold wordAt at c1 c2 ⊢; omega)
    exact hne this.1.symm
  · have := wordAt_lt hf h1 h2 (c := A.width - 1) (by omega)
    unfold wordAt at this
    omega

theorem set_self (hf : Fits A) {s c : Nat} (x : Int) (h1 : 1 ≤ s) (h2 : s ≤ A.slots) (hc : c < A.width) : slotWords { counted A with words := A.words.set (wordAt A s c) x } s = (slotWords A s).set c x := by
  have hl := hf.words
  apply List.ext_getElem?
  intro i
  rw [List.getElem?_set, slotWords_length]
  by_cases hi : i < A.width
  · have e1 : (slotWords { counted A with words := A.words.set (wordAt A s c) x } s)[i]? = some (nth (A.words.set (wordAt A s c) x) (wordAt A s i) 0) := by
      show ((List.range A.width).map _)[i]? = _
      rw [List.getElem?_map, List.getElem?_range hi]
      rfl
    have e2 : (slotWords A s)[i]? = some (nth A.words (wordAt A s i) 0) := by
      show ((List.range A.width).map _)[i]? = _
      rw [List.getElem?_map, List.getElem?_range hi]
      rfl
    have hw := wordAt_lt hf h1 h2 hc
    rw [e1, e2, nth_set _ _ _ _ _ (by omega)]
    by_cases e : c = i
    · subst e
      rw [if_pos rfl, if_pos rfl, if_pos hc]
    · rw [if_neg e, if_neg]
      intro h
      exact e (wordAt_inj h1 h1 hi hc h).2.symm
  · rw [List.getElem?_eq_none (by rw [slotWords_length]; exact Nat.le_of_not_lt hi), List.getElem?_eq_none (by rw [slotWords_length]; omega)]
    split
    · rename_i e; omega
    · rfl

theorem set_others (hf : Fits A) {s c t : Nat} (x : Int) (h1 : 1 ≤ s) (h2 : s ≤ A.slots) (hc : c < A.width) (ht : 1 ≤ t) (hne : t ≠ s) : slotWords { counted A with words := A.words.set (wordAt A s c) x } t = slotWords A t := by
  have hl := hf.words
  refine List.map_congr_left fun i hi => ?_
  have hi : i < A.width := List.mem_range.1 hi
  have hw := wordAt_lt hf h1 h2 hc
  show nth (A.words.set (wordAt A s c) x) (wordAt A t i) 0 = _
  rw [nth_set _ _ _ _ _ (by omega), if_neg]
  intro h
  exact hne (wordAt_inj ht h1 hi hc h).1

/-! ### what the Book takes over -/
/-- a slot is given: the flag, the name, a row of its own -/
theorem Book.put (h : Book w L P N V A) {S : List Nat} (k : Keep S w w') (hS : ∀ x ∈ S, x ∈ L.blocks ∨ x = P.h ∨ x = P.n ∨ x = P.v) {s r : Nat} {p : ByteArray} {ws : List Int} (hs : s ≤ A.slots)
    (e1 : A'.slots = A.slots) (e2 : A'.width = A.width) (e3 : A'.used = A.used.set s true) (e4 : A'.items = A.items.set s p) (hul : A.used.length = A.slots + 1) (hil : A.items.length = A.slots + 1)
    (e5 : slotWords A' s = ws) (e6 : ∀ t, used A t → t ≠ s → slotWords A' t = slotWords A t)
    (q1 : w'.heap[P.h]? = some (.cells ((A.used.set s true).map Value.bool).toArray 4 (0, 0))) (q2 : w'.heap[P.n]? = some (.cells ((N.set s p).map Value.string).toArray 9 (0, 0)))
    (q3 : w'.heap[P.v]? = some (.cells (V.set s (.slice (some ⟨r, 0, none⟩) A.width A.width)).toArray 52 (0, 0)))
    (q4 : w'.heap[r]? = some (.cells (ws.map (.int .u64)).toArray 51 (0, 0))) (hr : w.heap.size ≤ r) (hrL : r ∉ L.blocks) :
    Book w' L { P with r := fun t => if t = s then r else P.r t } (N.set s p) (V.set s (.slice (some ⟨r, 0, none⟩) A.width A.width)) A' := by
  have hu : ∀ t, used A' t ↔ t = s ∨ used A t := by
    intro t
    unfold used
    rw [e3, nth_set _ _ _ _ _ (by omega)]
    by_cases e : t = s
    · simp [e]
    · simp [e]
  have hb := lt_of h.hb
  have hh := lt_of h.hh
  have hn := lt_of h.hn
  have hv := lt_of h.hv
  have hrow : ∀ t, used A t → P.r t < w.heap.size := fun t ht => lt_of (h.row t ht)
  have hbn : P.b ∉ S := by
    intro hx
    have hd := h.nodup
    simp only [Pl.blocks, List.nodup_cons, List.mem_cons, List.not_mem_nil, or_false, not_or] at hd
    rcases hS _ hx with c | c | c | c
    · exact h.off _ (by simp [Pl.blocks]) c
    · exact hd.1.1 c
    · exact hd.1.2.1 c
    · exact hd.1.2.2 c
  refine ⟨?_, ?_, q2, q3, by rw [List.length_set, e1]; exact h.nlen, by rw [List.length_set, e1]; exact h.vlen, ?_, ?_, ?_, h.nodup, h.off, ?_, ?_⟩
  · rw [e1]; exact k.old h.hb hbn
  · rw [e3]; exact q1
  · intro t ht
    rw [e4, nth_set _ _ _ _ _ (by have := h.nlen; omega), nth_set _ _ _ _ _ (by omega)]
    by_cases e : t = s
    · simp [e]
    · rw [if_neg e, if_neg e]
      exact h.name t (((hu t).1 ht).resolve_left e)
  · intro t ht
    dsimp only
    rw [List.getElem?_set]
    by_cases e : s = t
    · subst e
      rw [if_pos rfl, if_pos (by have := h.vlen; omega), if_pos rfl, e2]
    · rw [if_neg e, if_neg (Ne.symm e), e2]
      exact h.at_ t (((hu t).1 ht).resolve_left (Ne.symm e))
  · intro t ht
    dsimp only
    by_cases e : t = s
    · subst e
      rw [if_pos rfl, e5]
      exact q4
    · have ht' := ((hu t).1 ht).resolve_left e
      rw [if_neg e, e6 t ht' e]
      refine k.old (h.row t ht') fun hx => ?_
      have hro := h.roff t ht'
      rcases hS _ hx with c | c | c | c
      · exact hro.1 c
      all_goals exact hro.2 (by simp [Pl.blocks, c])
  · intro t ht
    show (if t = s then r else P.r t) ∉ L.blocks ∧ (if t = s then r else P.r t) ∉ P.blocks
    by_cases e : t = s
    · rw [if_pos e]
      refine ⟨hrL, ?_⟩
      simp only [Pl.blocks, List.mem_cons, List.not_mem_nil, or_false, not_or]
      omega
    · rw [if_neg e]
      exact h.roff t (((hu t).1 ht).resolve_left e)
  · intro t u ht hu'
    show (if t = s then r else P.r t) = (if u = s then r else P.r u) → t = u
    by_cases e : t = s
    · by_cases e' : u = s
      · intro _; rw [e, e']
      · rw [if_pos e, if_neg e']
        have := hrow u (((hu u).1 hu').resolve_left e')
        omega
    · by_cases e' : u = s
      · rw [if_neg e, if_pos e']
        have := hrow t (((hu t).1 ht).resolve_left e)
        omega
      · rw [if_neg e, if_neg e']
        exact h.inj t u (((hu t).1 ht).resolve_left e) (((hu u).1 hu').resolve_left e')

/-- a slot is given back -/
theorem Book.drop (h : Book w L P N V A) {S : List Nat} (k : Keep S w w') (hS : ∀ x ∈ S, x ∈ L.blocks ∨ x = P.h) {s : Nat} (hs : s ≤ A.slots)
    (e1 : A'.slots = A.slots) (e2 : A'.width = A.width) (e3 : A'.used = A.used.set s false) (e4 : ∀ t, t ≠ s → nth A'.items t ByteArray.empty = nth A.items t ByteArray.empty) (hul : A.used.length = A.slots + 1) (e5 : A'.words = A.words)
    (q1 : w'.heap[P.h]? = some (.cells ((A.used.set s false).map Value.bool).toArray 4 (0, 0))) : Book w' L P N V A' := by
  have hu : ∀ t, used A' t ↔ t ≠ s ∧ used A t := by
    intro t
    unfold used
    rw [e3, nth_set _ _ _ _ _ (by omega)]
    by_cases e : t = s
    · simp [e]
    · simp [e]
  have hsw : ∀ t, slotWords A' t = slotWords A t := fun t => by unfold slotWords wordAt; rw [e2, e5]
  have hd := h.nodup
  simp only [Pl.blocks, List.nodup_cons, List.mem_cons, List.not_mem_nil, or_false, not_or] at hd
  have nb : ∀ x ∈ P.blocks, x ≠ P.h → x ∉ S := by
    intro x hx hne hxS
    rcases hS _ hxS with c | c
    · exact h.off x hx c
    · exact hne c
  refine ⟨?_, ?_, k.old h.hn (nb _ (by simp [Pl.blocks]) (fun e => hd.2.1.1 e.symm)), k.old h.hv (nb _ (by simp [Pl.blocks]) (fun e => hd.2.1.2 e.symm)), by rw [e1]; exact h.nlen, by rw [e1]; exact h.vlen, ?_, ?_, ?_, h.nodup, h.off, ?_, ?_⟩
  · rw [e1]; exact k.old h.hb (nb _ (by simp [Pl.blocks]) hd.1.1)
  · rw [e3]; exact q1
  · intro t ht
    rw [e4 t ((hu t).1 ht).1]
    exact h.name t ((hu t).1 ht).2
  · intro t ht; rw [e2]; exact h.at_ t ((hu t).1 ht).2
  · intro t ht
    rw [hsw]
    refine k.old (h.row t ((hu t).1 ht).2) fun hx => ?_
    have hro := h.roff t ((hu t).1 ht).2
    rcases hS _ hx with c | c
    · exact hro.1 c
    · exact hro.2 (by simp [Pl.blocks, c])
  · intro t ht; exact h.roff t ((hu t).1 ht).2
  · intro t u ht hu'; exact h.inj t u ((hu t).1 ht).2 ((hu u).1 hu').2

/-- a word is written in the arena and in the row -/
theorem Book.poke (h : Book w L P N V A) {S : List Nat} {s c : Nat} {x : Int} (k : Keep S w w') (hS : ∀ y ∈ S, y ∈ L.blocks ∨ y = P.r s) (hf : Fits A) (hu : used A s) (h1 : 1 ≤ s) (h2 : s ≤ A.slots) (hc : c < A.width)
    (h0 : nth A.used 0 false = false)
    (q : w'.heap[P.r s]? = some (.cells (((slotWords A s).set c x).map (.int .u64)).toArray 51 (0, 0))) : Book w' L P N V { counted A with words := A.words.set (wordAt A s c) x } := by
  have nb : ∀ y ∈ P.blocks, y ∉ S := by
    intro y hy hyS
    rcases hS _ hyS with c | c
    · exact h.off y hy c
    · exact (h.roff s hu).2 (c ▸ hy)
  refine ⟨k.old h.hb (nb _ (by simp [Pl.blocks])), k.old h.hh (nb _ (by simp [Pl.blocks])), k.old h.hn (nb _ (by simp [Pl.blocks])), k.old h.hv (nb _ (by simp [Pl.blocks])), h.nlen, h.vlen, h.name, h.at_, ?_, h.nodup, h.off, h.roff, h.inj⟩
  intro t ht
  have ht' : used A t := ht
  by_cases e : t = s
  · subst e
    rw [set_self hf x h1 h2 hc]
    exact q
  · have ht1 : 1 ≤ t := by
      cases t with
      | zero => unfold used at ht'; rw [h0] at ht'; cases ht'
      | succ t => omega
    rw [set_others hf x h1 h2 hc ht1 e]
    refine k.old (h.row t ht') fun hx => ?_
    rcases hS _ hx with c | c
    · exact (h.roff t ht').1 c
    · exact e (h.inj t s ht' hu c)
end Go.Proofs.Ytmdboahjikngeaa.Owned
