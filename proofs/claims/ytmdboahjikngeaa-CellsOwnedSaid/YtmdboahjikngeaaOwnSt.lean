/- CellsOwned: the arena and the Book together. -/
import Derived.Test.YtmdboahjikngeaaOwnBook
import Derived.Deep.CutRange
import Derived.Deep.CutBlock
import Derived.Deep.DeepCutAuto
import Derived.BigQuiet
import Derived.Deep.RegionHeld3
namespace Go.Proofs.Ytmdboahjikngeaa.Owned
open Go.RowKit Go.Proofs.Ytmdboahjikngeaa.Mem Go.Proofs.Ytmdboahjikngeaa.Ar Go.Proofs.Ytmdboahjikngeaa.As Go.Proofs.Ytmdboahjikngeaa.Fifo Go.MuLone
set_option linter.unusedVariables false

variable {w0 w w' : World} {L : Bk} {P : Pl} {N : List ByteArray} {V : List Value} {A A' : Arena ByteArray} {R : List Nat}

/-- the arena and the Book, both the call's own -/
structure St (w0 w : World) (L : Bk) (P : Pl) (N : List ByteArray) (V : List Value) (A : Arena ByteArray) (R : List Nat) : Prop where
  hA : As.At 0 w L A
  book : Book w L P N V A
  inv : Inv A R
  zero : nth A.used 0 false = false
  keep : Keep [] w0 w
  lo1 : ∀ x ∈ L.blocks, w0.heap.size ≤ x
  lo2 : ∀ x ∈ P.blocks, w0.heap.size ≤ x
  lo3 : ∀ s, used A s → w0.heap.size ≤ P.r s

/-- new blocks, nothing else -/
theorem Book.keep0 (h : Book w L P N V A) (k : Keep [] w w') : Book w' L P N V A := h.same (k.mono (by simp)) rfl rfl rfl rfl rfl
theorem St.keep0 (h : St w0 w L P N V A R) (k : Keep [] w w') : St w0 w' L P N V A R :=
  ⟨At.of0 h.hA k, h.book.keep0 k, h.inv, h.zero, h.keep.trans k, h.lo1, h.lo2, h.lo3⟩
/-- the arena has counted, nothing else -/
theorem St.count (h : St w0 w L P N V A R) (k : Keep L.blocks w w') (hA : As.At 0 w' L A') (e1 : A'.slots = A.slots) (e2 : A'.width = A.width) (e3 : A'.used = A.used) (e4 : A'.items = A.items) (e5 : A'.words = A.words)
    (e6 : A'.free = A.free) (e7 : A'.queue = A.queue) (e8 : A'.front = A.front) : St w0 w' L P N V A' R :=
  ⟨hA, h.book.same k e1 e2 e3 e4 e5, h.inv.same e6 e7 e8 e1 e3, by rw [e3]; exact h.zero, Keep.new h.keep k h.lo1, h.lo1, h.lo2, fun s hs => h.lo3 s (by unfold used at hs ⊢; rw [← e3]; exact hs)⟩

theorem Book.lts (h : Book w L P N V A) : ∀ x ∈ P.blocks, x < w.heap.size := by
  intro x hx
  simp only [Pl.blocks, List.mem_cons, List.not_mem_nil, or_false] at hx
  rcases hx with rfl | rfl | rfl | rfl
  · exact lt_of h.hb
  · exact lt_of h.hh
  · exact lt_of h.hn
  · exact lt_of h.hv
theorem Book.rlts (h : Book w L P N V A) : ∀ s, used A s → P.r s < w.heap.size := fun s hs => lt_of (h.row s hs)
theorem held_f {α : Type} (A : Arena α) (slot : Int) : (held A slot).slots = A.slots ∧ (held A slot).width = A.width ∧ (held A slot).used = A.used ∧ (held A slot).items = A.items ∧ (held A slot).words = A.words ∧ (held A slot).free = A.free ∧ (held A slot).queue = A.queue ∧ (held A slot).front = A.front := by
  unfold held
  split <;> exact ⟨rfl, rfl, rfl, rfl, rfl, rfl, rfl, rfl⟩
theorem Book.p0 (h : Book w L P N V A) : w.cell? ⟨P.b, 0, none⟩ = some (.slice (some ⟨P.h, 0, none⟩) (A.slots + 1) (A.slots + 1)) := by rw [cell_of h.hb]; rfl
theorem Book.p1 (h : Book w L P N V A) : w.cell? ⟨P.b, 1, none⟩ = some (.slice (some ⟨P.n, 0, none⟩) (A.slots + 1) (A.slots + 1)) := by rw [cell_of h.hb]; rfl
theorem Book.p2 (h : Book w L P N V A) : w.cell? ⟨P.b, 2, none⟩ = some (.slice (some ⟨P.v, 0, none⟩) (A.slots + 1) (A.slots + 1)) := by rw [cell_of h.hb]; rfl
theorem Book.flag (h : Book w L P N V A) (hf : Fits A) {s : Nat} (hs : s ≤ A.slots) : w.cell? ⟨P.h, s, none⟩ = some (.bool (nth A.used s false)) := by
  rw [list_cell h.hh (by have := hf.used; omega)]
  simp [nth, List.getD_eq_getElem?_getD, show s < A.used.length by have := hf.used; omega]
theorem Book.nm (h : Book w L P N V A) {s : Nat} (hs : s ≤ A.slots) (hu : used A s) : w.cell? ⟨P.n, s, none⟩ = some (.string (nth A.items s ByteArray.empty)) := by
  rw [list_cell h.hn (by have := h.nlen; omega), ← h.name s hu]
  simp [nth, List.getD_eq_getElem?_getD, show s < N.length by have := h.nlen; omega]
theorem Book.rowAt (h : Book w L P N V A) {s : Nat} (hu : used A s) : w.cell? ⟨P.v, s, none⟩ = some (.slice (some ⟨P.r s, 0, none⟩) A.width A.width) := by
  rw [cell_of h.hv, List.getElem?_toArray]
  exact h.at_ s hu
theorem Book.wd (h : Book w L P N V A) {s c : Nat} (hu : used A s) (hc : c < A.width) : w.cell? ⟨P.r s, c, none⟩ = some (.int .u64 (nth A.words (wordAt A s c) 0)) := by
  rw [list_cell (h.row s hu) (by rw [slotWords_length]; exact hc)]
  simp [slotWords]

theorem inUse_low {slot : Int} (h : ¬ 1 ≤ slot) : inUseB A slot = false := by simp [inUseB, h]
theorem inUse_high {slot : Int} (h : ¬ slot ≤ A.slots) : inUseB A slot = false := by simp [inUseB, h]
theorem inUse_mid {s : Nat} (h1 : 1 ≤ s) (h2 : s ≤ A.slots) : inUseB A s = nth A.used s false := by
  have a1 : (1 : Int) ≤ s := by omega
  have a2 : (s : Int) ≤ A.slots := by omega
  simp only [inUseB, decide_eq_true a1, decide_eq_true a2, Int.toNat_natCast, Bool.true_and]

def insideB {α : Type} (A : Arena α) (slot cell : Int) : Bool := inUseB A slot && decide (0 ≤ cell) && decide (cell < A.width)

theorem cell_bad0 {slot cell : Int} (h : inUseB A slot = false) : ¬ cellErr A slot cell = 0 := fun he => by
  have := (cellErr_ok he).1
  rw [h] at this
  cases this
theorem cell_bad1 {slot cell : Int} (h : inUseB A slot = true) (hc : ¬ (0 ≤ cell ∧ cell < A.width)) : ¬ cellErr A slot cell = 0 := fun he => hc (cellErr_ok he).2

theorem cons_in {a : Nat} {l : List Nat} : ∀ y ∈ a :: l, y ∈ l ∨ y = a := fun y hy => (List.mem_cons.1 hy).symm
theorem cons_ge {n a : Nat} {l : List Nat} (h1 : n ≤ a) (h2 : ∀ x ∈ l, n ≤ x) : ∀ x ∈ a :: l, n ≤ x := fun x hx => by
  rcases List.mem_cons.1 hx with rfl | hx
  · exact h1
  · exact h2 x hx

theorem given_of {w : World} {L : Bk} {base : Nat} {v : Value} {zs : List Int} (h : w.ownsRow base 51 1 v zs.length (u64s zs)) (hL : ∀ x ∈ L.blocks, x < base) : ∃ a cap, v = .slice a zs.length cap ∧ Given w L a zs := by
  rcases h.2 with ⟨rfl, h0⟩ | ⟨g, cap, cur, rfl, hb, hg, h1, h2, h3, h4⟩
  · exact ⟨none, 0, by rw [h0], ⟨fun i hi => by omega⟩⟩
  · refine ⟨_, cap, rfl, ⟨fun i hi => ⟨g, 0, rfl, fun hx => by have := hL g hx; omega, ?_⟩⟩⟩
    rw [cell_of hg]
    have e : (cur.toList.take (zs.length * 1))[i]? = (u64s zs)[i]? := by rw [h4]
    rw [List.getElem?_take, if_pos (by omega)] at e
    rw [← Array.getElem?_toList, Nat.zero_add, e]
    simp [u64s, nth, List.getD_eq_getElem?_getD, hi]

/-- k words laid, the others 0 -/
def laidTo (ws : List Int) (m k : Nat) : List Int := ws.take k ++ List.replicate (m - k) 0
theorem laidTo_zero (ws : List Int) (m : Nat) : laidTo ws m 0 = List.replicate m 0 := by simp [laidTo]
theorem laidTo_length (ws : List Int) {m k : Nat} (h : ws.length ≤ m) (hk : k ≤ ws.length) : (laidTo ws m k).length = m := by simp [laidTo]; omega
theorem laidTo_set (ws : List Int) {m k : Nat} (h : ws.length ≤ m) (hk : k < ws.length) : (laidTo ws m k).set k (nth ws k 0) = laidTo ws m (k + 1) := by
  have hl : (ws.take k).length = k := by rw [List.length_take]; omega
  unfold laidTo
  rw [List.set_append_right _ _ (by omega), hl, Nat.sub_self, show m - k = (m - (k + 1)) + 1 by omega, List.replicate_succ, List.set_cons_zero, take_next hk]
  simp
theorem laidTo_done (ws : List Int) {m : Nat} (h : ws.length ≤ m) : laidTo ws m ws.length = (List.range m).map fun i => nth ws i 0 := by
  apply List.ext_getElem?
  intro i
  rw [List.getElem?_map]
  by_cases hi : i < m
  · rw [List.getElem?_range hi]
    unfold laidTo
    rw [List.take_length]
    by_cases hj : i < ws.length
    · rw [List.getElem?_append_left hj]
      simp [nth, List.getD_eq_getElem?_getD, hj]
    · rw [List.getElem?_append_right (by omega), List.getElem?_replicate, if_pos (by omega)]
      simp [nth, List.getD_eq_getElem?_getD, List.getElem?_eq_none (show ws.length ≤ i by omega)]
  · rw [List.getElem?_eq_none (by rw [laidTo_length ws h (Nat.le_refl _)]; omega), List.getElem?_eq_none (by simp; omega)]
    rfl

/-- a slot is given, the Book has taken it over -/
theorem St.put {w2 w3 w5 wr : World} {p : ByteArray} {ws : List Int} {t r : Nat} (h : St w0 w2 L P N V A R) (k3 : Keep L.blocks w2 w3) (hA : As.At 0 w3 L (allocd A p ws)) (k35 : Keep [P.h, P.n] w3 w5) (kr : Keep [] w5 wr)
    (ht : t = nextSlot A) (hf : 1 ≤ A.free) (hr : r = w5.heap.size)
    (q1 : w5.heap[P.h]? = some (.cells ((A.used.set t true).map Value.bool).toArray 4 (0, 0))) (q2 : w5.heap[P.n]? = some (.cells ((N.set t p).map Value.string).toArray 9 (0, 0)))
    (q3 : w5.heap[P.v]? = some (.cells V.toArray 52 (0, 0))) (q4 : wr.heap[r]? = some (.cells (((List.range A.width).map fun i => nth ws i 0).map (.int .u64)).toArray 51 (0, 0))) :
    ∃ R', St w0 (wr.setCell ⟨P.v, t, none⟩ (.slice (some ⟨r, 0, none⟩) A.width A.width)) L { P with r := fun s => if s = t then r else P.r s } (N.set t p) (V.set t (.slice (some ⟨r, 0, none⟩) A.width A.width)) (allocd A p ws) R' := by
  have hnd := h.book.nodup
  simp only [Pl.blocks, List.nodup_cons, List.mem_cons, List.not_mem_nil, or_false, not_or] at hnd
  obtain ⟨⟨nd1, nd2, nd3⟩, ⟨nd4, nd5⟩, nd6, -⟩ := hnd
  have hh := h.book.off P.h (by simp [Pl.blocks])
  have hn := h.book.off P.n (by simp [Pl.blocks])
  have hv := h.book.off P.v (by simp [Pl.blocks])
  have hlt := h.book.lts
  have hLl := blocks_lt h.hA
  have s3 := k3.size
  have s5 := k35.size
  have hvr : P.v < r := by have := hlt P.v (by simp [Pl.blocks]); omega
  have hful := h.hA.fits.used
  obtain ⟨ht1, ht2, htu⟩ := h.inv.next_free h.hA.fits hf
  rw [← ht] at ht1 ht2 htu
  cases R with
  | nil => have := h.inv.len; simp at this; omega
  | cons s R =>
    have k : Keep (L.blocks ++ [P.h, P.n, P.v]) w2 (wr.setCell ⟨P.v, t, none⟩ (.slice (some ⟨r, 0, none⟩) A.width A.width)) :=
      (((k3.mono (fun x hx => List.mem_append_left _ hx)).trans (k35.mono (by intro x hx; simp at hx; rcases hx with hx | hx <;> simp [hx]))).trans (kr.mono (by simp))).set (.inl (by simp)) t _
    refine ⟨R, ⟨?_, ?_, h.inv.alloc h.hA.fits p ws, ?_, ?_, h.lo1, h.lo2, ?_⟩⟩
    · refine (((hA.keep k35 ?_).keep kr (by simp)).keep ((Keep.refl [P.v] wr).set (.inl (by simp)) t _) ?_)
      · intro x hx
        simp at hx
        rcases hx with rfl | rfl
        · exact hh
        · exact hn
      · intro x hx
        simp at hx
        rw [hx]
        exact hv
    · refine h.book.put (ws := (List.range A.width).map fun i => nth ws i 0) k ?_ ht2 rfl rfl (by rw [ht]; rfl) (by rw [ht]; rfl) hful h.hA.fits.items (by rw [ht]; exact slot_self h.hA.fits) ?_ ?_ ?_ ?_ ?_ (by omega) (fun hx => by have := hLl r hx; omega)
      · intro x hx
        simp at hx
        rcases hx with hx | rfl | rfl | rfl
        · exact .inl hx
        · exact .inr (.inl rfl)
        · exact .inr (.inr (.inl rfl))
        · exact .inr (.inr (.inr rfl))
      · intro u hu hne
        have hu1 : 1 ≤ u := by
          cases u with
          | zero => have hz := h.zero; unfold used at hu; rw [hz] at hu; cases hu
          | succ u => omega
        exact slot_other h.hA.fits hu1 (by rw [← ht]; exact hne)
      · rw [set_other nd5]
        exact kr.old q1 (by simp)
      · rw [set_other nd6]
        exact kr.old q2 (by simp)
      · rw [set_same (kr.old q3 (by simp))]
        simp
      · rw [set_other (by omega)]
        exact q4
    · show nth (A.used.set (nextSlot A) true) 0 false = false
      rw [← ht, nth_set _ _ _ _ _ (by omega), if_neg (by omega)]
      exact h.zero
    · refine Keep.new h.keep k ?_
      intro x hx
      simp at hx
      rcases hx with hx | rfl | rfl | rfl
      · exact h.lo1 x hx
      all_goals exact h.lo2 _ (by simp [Pl.blocks])
    · intro u hu
      show w0.heap.size ≤ if u = t then r else P.r u
      split
      · have := h.keep.size; omega
      · rename_i hne
        refine h.lo3 u ?_
        have hx : nth (A.used.set (nextSlot A) true) u false = true := hu
        rw [← ht, nth_set _ _ _ _ _ (by omega), if_neg hne] at hx
        exact hx

def opV (k s c a b : Int) (wd : Value) (p : ByteArray) : Value := .agg #[.int .i64 k, .int .i64 s, .int .i64 c, .int .u64 a, .int .u64 b, wd, .string p]

/-- how a call leaves it -/
def Goes (w0 w' : World) (L : Bk) (P : Pl) (A : Arena ByteArray) : Prop := ∃ P' N' V' A' R', St w0 w' L P' N' V' A' R' ∧ P'.b = P.b ∧ A'.slots = A.slots ∧ A'.width = A.width

theorem inside_yes {slot cell : Int} (h : inUseB A slot = true) (h0 : 0 ≤ cell) (h1 : cell < A.width) : insideB A slot cell = true := by simp [insideB, h, h0, h1]
theorem inside_ok {slot cell : Int} (h : insideB A slot cell = true) : inUseB A slot = true ∧ 0 ≤ cell ∧ cell < A.width := by
  simp only [insideB, Bool.and_eq_true, decide_eq_true_eq] at h
  exact ⟨h.1.1, h.1.2, h.2⟩
theorem inside_no {slot cell : Int} (h : ¬ (inUseB A slot = true ∧ 0 ≤ cell ∧ cell < A.width)) : insideB A slot cell = false := by
  cases hi : insideB A slot cell with
  | false => rfl
  | true =>
    simp only [insideB, Bool.and_eq_true, decide_eq_true_eq] at hi
    exact absurd ⟨hi.1.1, hi.1.2, hi.2⟩ h

end Go.Proofs.Ytmdboahjikngeaa.Owned
