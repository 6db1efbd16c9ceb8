/- The document's arena at rest, told by the program's (an arena A whose free slots are Q): how it lies in memory. -/
import Derived.Test.YtgagiggljlikbaaGreatCeInv
import Derived.Test.YtgagiggljlikbaaGreatCeRef
namespace Go.Proofs.YtgagiggljlikbaaGreat.Ra
open Go.RowKit Go.Proofs.YtgagiggljlikbaaGreat.Mem Go.Proofs.YtgagiggljlikbaaGreat.Ar Go.Proofs.YtgagiggljlikbaaGreat.En
set_option linter.unusedVariables false

abbrev Ars := Arena Ent
/-- the words of a slot, which lie at g; none: it has none -/
def wv (g : Option Nat) (m : Nat) : Value := match g with | some b => .slice (some ⟨b, 0, none⟩) m m | none => .slice none 0 0
def sCells (u : Bool) (p : Ent) (v : Value) (t : Int) : List Value := [.bool u, .string p.name, .string p.data, .int .i64 p.tall, v, .int .i64 t]
def sRow (A : Ars) (bs : List (Option Nat)) (i : Nat) : List Value := sCells (nth A.used i false) (nth A.items i Ent.empty) (wv (nth bs i none) A.width) (nth A.turns i 0)
def rows (A : Ars) (bs : List (Option Nat)) : Nat → List Value
  | 0 => []
  | k + 1 => rows A bs k ++ sRow A bs k
section
variable {A A' : Ars} {bs bs' : List (Option Nat)}
theorem rows_len : ∀ k, (rows A bs k).length = k * 6
  | 0 => rfl
  | k + 1 => by
    rw [rows, List.length_append, rows_len k]
    show k * 6 + 6 = _
    omega
theorem rows_at : ∀ (k i j : Nat), i < k → j < 6 → (rows A bs k)[i * 6 + j]? = (sRow A bs i)[j]?
  | 0, i, j, h, _ => by omega
  | k + 1, i, j, h, hj => by
    rw [rows]
    by_cases e : i < k
    · rw [List.getElem?_append_left (by rw [rows_len]; omega), rows_at k i j e hj]
    · obtain rfl : i = k := by omega
      rw [List.getElem?_append_right (by rw [rows_len]; omega), rows_len, Nat.add_sub_cancel_left]
theorem rows_ext {k : Nat} {l : List Value} (hl : l.length = k * 6) (h : ∀ i j, i < k → j < 6 → l[i * 6 + j]? = (sRow A bs i)[j]?) : l = rows A bs k := by
  apply List.ext_getElem?
  intro q
  by_cases hq : q < k * 6
  · have e : q = q / 6 * 6 + q % 6 := by omega
    rw [e, h (q / 6) (q % 6) (by omega) (by omega), rows_at k (q / 6) (q % 6) (by omega) (by omega)]
  · rw [List.getElem?_eq_none (by omega), List.getElem?_eq_none (by rw [rows_len]; omega)]
theorem rows_congr {k : Nat} (h : ∀ i, i < k → sRow A' bs' i = sRow A bs i) : rows A' bs' k = rows A bs k :=
  rows_ext (rows_len k) fun i j hi hj => by rw [rows_at k i j hi hj, h i hi]
/-- a slot's six cells laid anew -/
theorem rows_put {k s : Nat} (hs : s < k) {c0 c1 c2 c3 c4 c5 : Value} (hr : sRow A' bs' s = [c0, c1, c2, c3, c4, c5]) (ho : ∀ i, i < k → i ≠ s → sRow A' bs' i = sRow A bs i) :
    ((((((rows A bs k).set (s * 6) c0).set (s * 6 + 1) c1).set (s * 6 + 2) c2).set (s * 6 + 3) c3).set (s * 6 + 4) c4).set (s * 6 + 5) c5 = rows A' bs' k := by
  refine rows_ext (by simp [rows_len]) fun i j hi hj => ?_
  by_cases e : i = s
  · subst e
    have hl : ∀ j, j < 6 → i * 6 + j < k * 6 := fun j hj => by omega
    rw [hr]
    have hj6 : j = 0 ∨ j = 1 ∨ j = 2 ∨ j = 3 ∨ j = 4 ∨ j = 5 := by omega
    rcases hj6 with rfl | rfl | rfl | rfl | rfl | rfl <;> simp [List.getElem?_set, rows_len] <;> omega
  · rw [ho i hi e, ← rows_at (A := A) (bs := bs) k i j hi hj]
    simp only [List.getElem?_set]
    rw [if_neg (by omega), if_neg (by omega), if_neg (by omega), if_neg (by omega), if_neg (by omega), if_neg (by omega)]
end

theorem owns_block {w w' : World} {base : Nat} {e : TypeId} {size : Nat} {v : Value} {n : Nat} {xs : List Value} (h : w.ownsRow base e size v n xs) (hb : ∀ g, v.ownBlock = some g → w'.heap[g]? = w.heap[g]?) : w'.ownsRow base e size v n xs := by
  refine ⟨h.1, h.2.imp id ?_⟩
  rintro ⟨g, cap, cur, rfl, h1, hg, r⟩
  exact ⟨g, cap, cur, rfl, h1, (hb g rfl).trans hg, r⟩
def rBlocks (b sg : Nat) (qv : Value) (bs : List (Option Nat)) : List Nat := b :: sg :: (qv.ownBlock.toList ++ bs.filterMap id)
/-- the document's arena at b, its slots' row at sg, its queue qv, the slots' words at bs -/
structure RAt (w : World) (b sg sc : Nat) (qv : Value) (bs : List (Option Nat)) (A : Ars) (Q : List Nat) : Prop where
  fits : Fits A
  inv : Inv A Q
  hb : w.heap[b]? = some (.cells #[.int .i64 A.width, .slice (some ⟨sg, 0, none⟩) (A.slots + 1) sc, qv, .int .i64 A.acc, .int .i64 A.miss] 182 (0, 0))
  hs : w.ownsRow 0 184 6 (.slice (some ⟨sg, 0, none⟩) (A.slots + 1) sc) (A.slots + 1) (rows A bs (A.slots + 1))
  hq : w.ownsRow 0 3 1 qv Q.length (ints Q)
  len : bs.length = A.slots + 1
  words : ∀ i g, nth bs i none = some g → w.heap[g]? = some (.cells ((slotWords A i).map (.int .u64)).toArray 83 (0, 0))
  use : ∀ i, 1 ≤ i → i ≤ A.slots → nth A.used i false = true → ∃ g, nth bs i none = some g
  zero : nth bs 0 none = none
  nd : (rBlocks b sg qv bs).Nodup

section
variable {w w' : World} {b sg sc : Nat} {qv : Value} {bs : List (Option Nat)} {A A' : Ars} {Q : List Nat}
theorem nth_block {i g : Nat} (h : nth bs i none = some g) : g ∈ bs.filterMap id := by
  refine List.mem_filterMap.2 ⟨some g, ?_, rfl⟩
  rw [nth, List.getD_eq_getElem?_getD] at h
  cases e : bs[i]? with
  | none => rw [e] at h; simp at h
  | some x =>
    rw [e] at h
    simp only [Option.getD_some] at h
    rw [← h]
    exact List.mem_of_getElem? e
theorem block_nth {g : Nat} (h : g ∈ bs.filterMap id) : ∃ i, i < bs.length ∧ nth bs i none = some g := by
  obtain ⟨o, ho, e⟩ := List.mem_filterMap.1 h
  simp only [id] at e
  subst e
  obtain ⟨i, hi, he⟩ := List.getElem_of_mem ho
  exact ⟨i, hi, by simp [nth, List.getD_eq_getElem?_getD, hi, he]⟩
theorem RAt.lt (h : RAt w b sg sc qv bs A Q) : ∀ x ∈ rBlocks b sg qv bs, x < w.heap.size := by
  intro x hx
  simp only [rBlocks, List.mem_cons, List.mem_append, Option.mem_toList] at hx
  rcases hx with rfl | rfl | hx | hx
  · exact lt_of h.hb
  · exact (h.hs.lt _ rfl).2
  · exact (h.hq.lt _ hx).2
  · obtain ⟨i, hi, e⟩ := block_nth hx
    exact lt_of (h.words i x e)
theorem RAt.keep (h : RAt w b sg sc qv bs A Q) {S : List Nat} (k : Keep S w w') (hS : ∀ x ∈ S, x ∉ rBlocks b sg qv bs) : RAt w' b sg sc qv bs A Q := by
  have hn : ∀ x, x ∈ rBlocks b sg qv bs → x ∉ S := fun x hx hs => hS x hs hx
  have own : ∀ {e : TypeId} {size : Nat} {v : Value} {n : Nat} {xs : List Value}, w.ownsRow 0 e size v n xs → (∀ g, v.ownBlock = some g → g ∉ S) → w'.ownsRow 0 e size v n xs := fun ho hv =>
    owns_block ho fun g hg => k.block g (ho.lt g hg).2 (hv g hg)
  refine ⟨h.fits, h.inv, k.old h.hb (hn _ (by simp [rBlocks])), own h.hs fun g hg => hn g ?_, own h.hq fun g hg => hn g ?_, h.len, fun i g e => k.old (h.words i g e) (hn g ?_), h.use, h.zero, h.nd⟩
  · simp only [Value.ownBlock, Option.some.injEq] at hg
    subst hg
    simp [rBlocks]
  · simp [rBlocks, hg]
  · have := nth_block e
    simp only [rBlocks, List.mem_cons, List.mem_append]
    exact .inr (.inr (.inr this))
theorem RAt.keep0 (h : RAt w b sg sc qv bs A Q) (k : Keep [] w w') : RAt w' b sg sc qv bs A Q := h.keep k (by simp)

theorem inj_block : ∀ (bs : List (Option Nat)), (bs.filterMap id).Nodup → ∀ (i j g : Nat), nth bs i none = some g → nth bs j none = some g → i = j
  | [], _, i, j, g, h, _ => by simp [nth] at h
  | o :: bs, hn, i, j, g, h1, h2 => by
    cases i with
    | zero =>
      cases j with
      | zero => rfl
      | succ j =>
        have e : o = some g := by simpa [nth] using h1
        subst e
        have e2 : nth bs j none = some g := by simpa [nth] using h2
        rw [List.filterMap_cons] at hn
        exact absurd (nth_block e2) (List.nodup_cons.1 hn).1
    | succ i =>
      cases j with
      | zero =>
        have e : o = some g := by simpa [nth] using h2
        subst e
        have e2 : nth bs i none = some g := by simpa [nth] using h1
        rw [List.filterMap_cons] at hn
        exact absurd (nth_block e2) (List.nodup_cons.1 hn).1
      | succ j =>
        have hn' : (bs.filterMap id).Nodup := by
          cases o with
          | none => simpa using hn
          | some x =>
            rw [List.filterMap_cons] at hn
            exact (List.nodup_cons.1 hn).2
        have := inj_block bs hn' i j g (by simpa [nth] using h1) (by simpa [nth] using h2)
        omega
theorem RAt.sep (h : RAt w b sg sc qv bs A Q) : b ≠ sg ∧ (∀ g, qv.ownBlock = some g → b ≠ g ∧ sg ≠ g) ∧ (∀ i g, nth bs i none = some g → b ≠ g ∧ sg ≠ g ∧ qv.ownBlock ≠ some g) ∧ (bs.filterMap id).Nodup := by
  have hd := h.nd
  simp only [rBlocks, List.nodup_cons, List.mem_cons, List.mem_append, not_or, Option.mem_toList, List.nodup_append] at hd
  obtain ⟨⟨h1, h2, h3⟩, ⟨h4, h5⟩, h6, h7, h8⟩ := hd
  refine ⟨h1, fun g hg => ⟨fun e => h2 (e ▸ hg), fun e => h4 (e ▸ hg)⟩, fun i g hg => ⟨fun e => h3 (e ▸ nth_block hg), fun e => h5 (e ▸ nth_block hg), fun e => ?_⟩, h7⟩
  exact h8 g e g (nth_block hg) rfl
/-- the counts -/
theorem RAt.setAcc (h : RAt w b sg sc qv bs A Q) : RAt (w.setCell ⟨b, 3, none⟩ (.int .i64 (wrap64 (A.acc + 1)))) b sg sc qv bs (counted A) Q := by
  obtain ⟨n1, n2, n3, -⟩ := h.sep
  refine ⟨{ h.fits with }, h.inv.same rfl rfl rfl rfl rfl, ?_, ?_, owns_block h.hq fun g hg => set_other (n2 g hg).1.symm _ _, h.len, fun i g e => (set_other (n3 i g e).1.symm _ _).trans (h.words i g e), h.use, h.zero, h.nd⟩
  · rw [set_same h.hb]
    rfl
  · have e : rows (counted A) bs (A.slots + 1) = rows A bs (A.slots + 1) := rows_congr fun i hi => rfl
    show World.ownsRow _ _ _ _ _ _ (rows (counted A) bs (A.slots + 1))
    rw [e]
    exact owns_block h.hs fun g hg => set_other (by simp only [Value.ownBlock, Option.some.injEq] at hg; rw [← hg]; exact n1.symm) _ _
theorem RAt.setMiss (h : RAt w b sg sc qv bs A Q) : RAt (w.setCell ⟨b, 4, none⟩ (.int .i64 (wrap64 (A.miss + 1)))) b sg sc qv bs (missed A) Q := by
  obtain ⟨n1, n2, n3, -⟩ := h.sep
  refine ⟨{ h.fits with }, h.inv.same rfl rfl rfl rfl rfl, ?_, ?_, owns_block h.hq fun g hg => set_other (n2 g hg).1.symm _ _, h.len, fun i g e => (set_other (n3 i g e).1.symm _ _).trans (h.words i g e), h.use, h.zero, h.nd⟩
  · rw [set_same h.hb]
    rfl
  · have e : rows (missed A) bs (A.slots + 1) = rows A bs (A.slots + 1) := rows_congr fun i hi => rfl
    show World.ownsRow _ _ _ _ _ _ (rows (missed A) bs (A.slots + 1))
    rw [e]
    exact owns_block h.hs fun g hg => set_other (by simp only [Value.ownBlock, Option.some.injEq] at hg; rw [← hg]; exact n1.symm) _ _
/-- a word -/
theorem RAt.setWord (h : RAt w b sg sc qv bs A Q) {s g c : Nat} (hg : nth bs s none = some g) (h1 : 1 ≤ s) (h2 : s ≤ A.slots) (hc : c < A.width) (v : Int) :
    RAt (w.setCell ⟨g, c, none⟩ (.int .u64 v)) b sg sc qv bs { A with words := A.words.set (wordAt A s c) v } Q := by
  obtain ⟨n1, n2, n3, n4⟩ := h.sep
  obtain ⟨m1, m2, m3⟩ := n3 s g hg
  refine ⟨h.fits.words_set _ _, h.inv.same rfl rfl rfl rfl rfl, (set_other m1 _ _).trans h.hb, ?_, owns_block h.hq fun q hq => set_other (fun e => m3 (by rw [hq, e])) _ _, h.len, fun i q e => ?_, h.use, h.zero, h.nd⟩
  · have e : rows { A with words := A.words.set (wordAt A s c) v } bs (A.slots + 1) = rows A bs (A.slots + 1) := rows_congr fun i hi => rfl
    show World.ownsRow _ _ _ _ _ _ (rows { A with words := A.words.set (wordAt A s c) v } bs (A.slots + 1))
    rw [e]
    exact owns_block h.hs fun q hq => set_other (by simp only [Value.ownBlock, Option.some.injEq] at hq; rw [← hq]; exact m2) _ _
  · by_cases his : i = s
    · subst his
      obtain rfl : q = g := by rw [hg] at e; exact (Option.some.inj e).symm
      have hself : slotWords { A with words := A.words.set (wordAt A i c) v } i = (slotWords A i).set c v := set_self h.fits v h1 h2 hc
      rw [hself]
      exact list_set (g := fun x => .int .u64 x) (h.words i q hg) c v
    · have hqg : q ≠ g := fun e2 => his (inj_block bs n4 i s q e (by rw [hg, e2]))
      have hi1 : 1 ≤ i := by
        rcases Nat.eq_zero_or_pos i with rfl | hp
        · rw [h.zero] at e; cases e
        · exact hp
      have hoth : slotWords { A with words := A.words.set (wordAt A s c) v } i = slotWords A i := set_others h.fits v h1 h2 hc hi1 his
      rw [hoth]
      exact (set_other hqg _ _).trans (h.words i q e)
end
end Go.Proofs.YtgagiggljlikbaaGreat.Ra
