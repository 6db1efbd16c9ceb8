import Derived.Test.YtdkdeiofjoccnaaGreatKept
import Derived.StillTailTactics
import Derived.WalkSpells
/- stratalaw03.wreck: everything in a lent program is turned (the seat .Z alone has it). -/
namespace Go.Proofs.YtdkdeiofjoccnaaGreat.Lit
open Go.RowKit Go.Proofs.YtdkdeiofjoccnaaGreat.Mem Go.Proofs.YtdkdeiofjoccnaaGreat.Ar Go.Proofs.YtdkdeiofjoccnaaGreat.Un
set_option linter.unusedVariables false
set_option linter.unusedSimpArgs false
set_option maxRecDepth 100000

def wi : Ins := ⟨2, 0, 0, -1, 77, 0, 0, 0⟩
/-- ^x -/
def notW (x : Int) : Int := bits .xor .u64 IntKind.u64.max x
def wreckP (l : LP) : LP := ⟨l.cells.map notW, l.threads.map fun p => p.map fun _ => wi⟩

theorem flatI_set (p : List Ins) (j : Nat) (hj : j < p.length) (x : Ins) : ((((((((flatI p).set (j * 8) (.int .i64 x.op)).set (j * 8 + 1) (.int .i64 x.cell)).set (j * 8 + 2) (.int .i64 x.reg)).set (j * 8 + 3) (.int .i64 x.newR)).set (j * 8 + 4) (.int .u64 x.newI)).set (j * 8 + 5) (.int .i64 x.oldR)).set (j * 8 + 6) (.int .u64 x.oldI)).set (j * 8 + 7) (.int .i64 x.n) = flatI (p.set j x) := by
  apply List.ext_getElem?
  intro i
  have hl := flatI_length p
  have hl2 := flatI_length (p.set j x)
  rw [List.length_set] at hl2
  by_cases hi : i < p.length * 8
  · have e : i = i / 8 * 8 + i % 8 := by omega
    have h8 : i % 8 < 8 := Nat.mod_lt _ (by omega)
    have hq : i / 8 < p.length := by omega
    obtain ⟨q, hq'⟩ : ∃ q, q = i / 8 := ⟨_, rfl⟩
    obtain ⟨r, hr'⟩ : ∃ r, r = i % 8 := ⟨_, rfl⟩
    rw [← hq', ← hr'] at e
    rw [← hq'] at hq
    rw [← hr'] at h8
    subst e
    rw [flatI_get (p.set j x) q (by simpa using hq) r h8]
    simp only [List.getElem?_set, List.length_set, hl]
    by_cases hqj : q = j
    · subst hqj
      rw [List.getElem_set_self]
      have hb : ∀ c, c < 8 → (q * 8 + c < p.length * 8) = True := fun c hc => eq_true (by omega)
      have hb0 : (q * 8 < p.length * 8) = True := eq_true (by omega)
      rcases r with _ | _ | _ | _ | _ | _ | _ | _ | r
      · simp [Ins.cells, hb0]
      · simp [Ins.cells, hb 1 (by omega)]
      · simp [Ins.cells, hb 2 (by omega)]
      · simp [Ins.cells, hb 3 (by omega)]
      · simp [Ins.cells, hb 4 (by omega)]
      · simp [Ins.cells, hb 5 (by omega)]
      · simp [Ins.cells, hb 6 (by omega)]
      · simp [Ins.cells, hb 7 (by omega)]
      · omega
    · rw [if_neg (by omega), if_neg (by omega), if_neg (by omega), if_neg (by omega), if_neg (by omega), if_neg (by omega), if_neg (by omega), if_neg (by omega), flatI_get p q hq r h8]
      rw [List.getElem_set_ne (by omega)]
  · rw [List.getElem?_eq_none (by simp only [List.length_set]; omega), List.getElem?_eq_none (by omega)]

/-- an instruction written over -/
theorem ins_stored {w : World} {base gb n cb : Nat} {p : List Ins} (h : w.ownsRow base 140 8 (.slice (some ⟨gb, 0, none⟩) n cb) n (flatI p)) (j : Nat) (hj : j < p.length) (x : Ins) :
    ((((((((w.setCell ⟨gb, j * 8, none⟩ (.int .i64 x.op)).setCell ⟨gb, j * 8 + 1, none⟩ (.int .i64 x.cell)).setCell ⟨gb, j * 8 + 2, none⟩ (.int .i64 x.reg)).setCell ⟨gb, j * 8 + 3, none⟩ (.int .i64 x.newR)).setCell ⟨gb, j * 8 + 4, none⟩ (.int .u64 x.newI)).setCell ⟨gb, j * 8 + 5, none⟩ (.int .i64 x.oldR)).setCell ⟨gb, j * 8 + 6, none⟩ (.int .u64 x.oldI)).setCell ⟨gb, j * 8 + 7, none⟩ (.int .i64 x.n)).ownsRow base 140 8 (.slice (some ⟨gb, 0, none⟩) n cb) n (flatI (p.set j x)) ∧
    Keep [gb] w ((((((((w.setCell ⟨gb, j * 8, none⟩ (.int .i64 x.op)).setCell ⟨gb, j * 8 + 1, none⟩ (.int .i64 x.cell)).setCell ⟨gb, j * 8 + 2, none⟩ (.int .i64 x.reg)).setCell ⟨gb, j * 8 + 3, none⟩ (.int .i64 x.newR)).setCell ⟨gb, j * 8 + 4, none⟩ (.int .u64 x.newI)).setCell ⟨gb, j * 8 + 5, none⟩ (.int .i64 x.oldR)).setCell ⟨gb, j * 8 + 6, none⟩ (.int .u64 x.oldI)).setCell ⟨gb, j * 8 + 7, none⟩ (.int .i64 x.n)) := by
  rw [← flatI_set p j hj x]
  refine ⟨((((((((h.stored _ _).1.stored _ _).1.stored _ _).1.stored _ _).1.stored _ _).1.stored _ _).1.stored _ _).1.stored _ _).1, ?_⟩
  exact ((((((((Keep.refl [gb] w).set (.inl (by simp)) _ _).set (.inl (by simp)) _ _).set (.inl (by simp)) _ _).set (.inl (by simp)) _ _).set (.inl (by simp)) _ _).set (.inl (by simp)) _ _).set (.inl (by simp)) _ _).set (.inl (by simp)) _ _

/-- how far the wrecking of the programs has come: i of them whole, of the next one j instructions -/
def wreckQ (ls : List (List Ins)) (i j i' : Nat) (h : i' < ls.length) : List Ins :=
  if i' < i then ls[i'].map fun _ => wi else if i' = i then (ls[i'].take j).map (fun _ => wi) ++ ls[i'].drop j else ls[i']
theorem wreckQ_len (ls : List (List Ins)) (i j i' : Nat) (h : i' < ls.length) : (wreckQ ls i j i' h).length = ls[i'].length := by
  unfold wreckQ
  split
  · simp
  · split
    · simp
      omega
    · rfl
theorem wreckQ_next (ls : List (List Ins)) (i j : Nat) (h : i < ls.length) (hj : j < ls[i].length) : (wreckQ ls i j i h).set j wi = wreckQ ls i (j + 1) i h := by
  unfold wreckQ
  simp only [Nat.lt_irrefl, if_false, if_true]
  apply List.ext_getElem?
  intro r
  by_cases hr : r < ls[i].length
  · rw [List.getElem?_set]
    by_cases e : j = r
    · subst e
      rw [if_pos rfl, if_pos (by simp; omega), List.getElem?_append_left (by simp; omega)]
      simp [List.getElem?_map, List.getElem?_take, hr]
    · rw [if_neg e]
      by_cases h2 : r < j
      · rw [List.getElem?_append_left (by simp; omega), List.getElem?_append_left (by simp; omega)]
        simp [List.getElem?_take, h2, show r < j + 1 by omega]
      · rw [List.getElem?_append_right (by simp; omega), List.getElem?_append_right (by simp; omega)]
        simp only [List.length_map, List.length_take, List.getElem?_drop]
        congr 1
        omega
  · rw [List.getElem?_eq_none (by simp; omega), List.getElem?_eq_none (by simp; omega)]
theorem wreckQ_done (ls : List (List Ins)) (i i' : Nat) (h : i' < ls.length) (hi : i < ls.length) : wreckQ ls i (ls[i].length) i' h = wreckQ ls (i + 1) 0 i' h := by
  unfold wreckQ
  by_cases h1 : i' < i
  · rw [if_pos h1, if_pos (by omega)]
  · rw [if_neg h1]
    by_cases h2 : i' = i
    · subst h2
      rw [if_pos rfl, if_pos (by omega), List.take_of_length_le (Nat.le_refl _), List.drop_of_length_le (Nat.le_refl _), List.append_nil]
    · rw [if_neg h2, if_neg (by omega)]
      by_cases h3 : i' = i + 1
      · rw [if_pos h3]; simp
      · rw [if_neg h3]
end Go.Proofs.YtdkdeiofjoccnaaGreat.Lit

/- stratalaw03.wreck: the walk (the seat .Z alone has it). -/
namespace Go.Proofs.YtdkdeiofjoccnaaGreat.Lit
open Go.RowKit Go.Proofs.YtdkdeiofjoccnaaGreat.Mem Go.Proofs.YtdkdeiofjoccnaaGreat.Ar Go.Proofs.YtdkdeiofjoccnaaGreat.Un
set_option linter.unusedVariables false
set_option linter.unusedSimpArgs false
set_option maxRecDepth 100000

theorem own_ne {w : World} {b1 b2 : Nat} {e1 e2 : TypeId} {s1 s2 n1 n2 : Nat} {v1 v2 : Value} {x1 x2 : List Value} (h1 : w.ownsRow b1 e1 s1 v1 n1 x1) (h2 : w.ownsRow b2 e2 s2 v2 n2 x2) (he : e1 ≠ e2) {g1 g2 : Nat} (hg1 : v1.ownBlock = some g1) (hg2 : v2.ownBlock = some g2) : g1 ≠ g2 := by
  rintro rfl
  rcases h1.2 with ⟨e, -⟩ | ⟨g, cap, cur, e, -, hg, -⟩
  · rw [e] at hg1; simp [Value.ownBlock] at hg1
  · rw [e] at hg1
    obtain rfl : g = g1 := by simpa [Value.ownBlock] using hg1
    rcases h2.2 with ⟨e, -⟩ | ⟨g', cap', cur', e', -, hg', -⟩
    · rw [e] at hg2; simp [Value.ownBlock] at hg2
    · rw [e'] at hg2
      obtain rfl : g' = g := by simpa [Value.ownBlock] using hg2
      rw [hg] at hg'
      simp only [Option.some.injEq, Obj.cells.injEq] at hg'
      exact he hg'.2.1

/-- the programs, so far wrecked -/
def Wrecked (w : World) (base : Nat) (bs : List (Nat × Nat)) (ls : List (List Ins)) (i j : Nat) : Prop :=
  ∀ i' (h1 : i' < bs.length) (h2 : i' < ls.length), w.ownsRow base 140 8 (.slice (some ⟨bs[i'].1, 0, none⟩) (ls[i'].length + 2) bs[i'].2) (ls[i'].length + 2) (flatI (wreckQ ls i j i' h2 ++ [i77, i78]))
/-- the words, so far wrecked -/
def wreckC (l : List Int) (k : Nat) : List Int := (l.take k).map notW ++ l.drop k
theorem wreckC_len (l : List Int) (k : Nat) : (wreckC l k).length = l.length := by simp [wreckC]; omega
theorem wreckC_next (l : List Int) (k : Nat) (hk : k < l.length) : (wreckC l k).set k (notW l[k]) = wreckC l (k + 1) := by
  unfold wreckC
  apply List.ext_getElem?
  intro r
  by_cases hr : r < l.length
  · rw [List.getElem?_set]
    by_cases e : k = r
    · subst e
      rw [if_pos rfl, if_pos (by simp; omega), List.getElem?_append_left (by simp; omega)]
      simp [hr]
    · rw [if_neg e]
      by_cases h2 : r < k
      · rw [List.getElem?_append_left (by simp; omega), List.getElem?_append_left (by simp; omega)]
        simp [h2, show r < k + 1 by omega]
      · rw [List.getElem?_append_right (by simp; omega), List.getElem?_append_right (by simp; omega)]
        simp only [List.length_map, List.length_take, List.getElem?_drop]
        congr 1
        omega
  · rw [List.getElem?_eq_none (by simp; omega), List.getElem?_eq_none (by simp; omega)]
theorem wreckC_at (l : List Int) (k : Nat) (hk : k < l.length) : (wreckC l k)[k]? = some l[k] := by
  unfold wreckC
  rw [List.getElem?_append_right (by simp; omega)]
  simp [Nat.min_eq_left (Nat.le_of_lt hk), hk]

/-- a wrecked program as it lies -/
structure WreckAt (w : World) (base top : Nat) (gC cC gA cA : Nat) (last : Value) (bs : List (Nat × Nat)) (l : LP) : Prop where
  cells : w.ownsRow base 75 1 (.slice (some ⟨gC, 0, none⟩) (l.cells.length + 2) cC) (l.cells.length + 2) ((wreckC l.cells l.cells.length ++ [771, 772]).map (.int .u64)) ∧ gC < top
  all : w.ownsRow base 93 1 (.slice (some ⟨gA, 0, none⟩) (l.threads.length + 1) cA) (l.threads.length + 1) (rowS 0 l.threads bs ++ [last]) ∧ gA < top
  len : bs.length = l.threads.length
  ths : Wrecked w base bs l.threads l.threads.length 0 ∧ ∀ x ∈ bs.map Prod.fst, x < top
theorem WreckAt.keep {w w' : World} {base top gC cC gA cA : Nat} {last : Value} {bs : List (Nat × Nat)} {l : LP} (h : WreckAt w base top gC cC gA cA last bs l) {T : List Nat} (k : Keep T w w') (hT : ∀ x ∈ T, top ≤ x) : WreckAt w' base top gC cC gA cA last bs l := by
  refine ⟨⟨Har.owns_block h.cells.1 fun g hg => k.block g (h.cells.1.lt g hg).2 fun hm => ?_, h.cells.2⟩, ⟨Har.owns_block h.all.1 fun g hg => k.block g (h.all.1.lt g hg).2 fun hm => ?_, h.all.2⟩, h.len, ⟨fun i h1 h2 => Har.owns_block (h.ths.1 i h1 h2) fun g hg => k.block g ((h.ths.1 i h1 h2).lt g hg).2 fun hm => ?_, h.ths.2⟩⟩
  · have q : gC = g := by simpa [Value.ownBlock] using hg
    have := hT g hm
    have := h.cells.2
    omega
  · have q : gA = g := by simpa [Value.ownBlock] using hg
    have := hT g hm
    have := h.all.2
    omega
  · have q : bs[i].1 = g := by simpa [Value.ownBlock] using hg
    have := hT g hm
    have := h.ths.2 (bs[i].1) (List.mem_map.2 ⟨bs[i], List.getElem_mem h1, rfl⟩)
    omega
theorem wreckQ_all (ls : List (List Ins)) (i : Nat) (h : i < ls.length) : wreckQ ls ls.length 0 i h = ls[i].map fun _ => wi := by
  unfold wreckQ
  rw [if_pos h]
theorem WreckAt.lit {w : World} {base top gC cC gA cA : Nat} {last : Value} {bs : List (Nat × Nat)} {l : LP} (h : WreckAt w base top gC cC gA cA last bs l) : LitAt w (.slice (some ⟨gC, 0, none⟩) l.cells.length cC) (.slice (some ⟨gA, 0, none⟩) l.threads.length cA) (wreckP l) := by
  have hl := rowS_len 0 l.threads bs h.len
  have add0 : ∀ (g j : Nat), (⟨g, 0, none⟩ : Addr).add j = ⟨g, j, none⟩ := fun g j => by unfold Addr.add; split <;> simp_all
  have hw : wreckC l.cells l.cells.length = l.cells.map notW := by simp [wreckC]
  refine ⟨⟨some ⟨gC, 0, none⟩, cC, by simp [wreckP], ⟨fun i hi => ⟨gC, 0, rfl, ?_⟩⟩⟩, ⟨some ⟨gA, 0, none⟩, cA, rowS 0 l.threads bs, by simp [wreckP], by simp [wreckP, hl], ⟨fun i hi => ⟨gA, 0, rfl, ?_⟩⟩, fun i h1 h2 => ?_⟩⟩
  · have hi' : i < l.cells.length := by simpa [wreckP] using hi
    have q := h.cells.1.cells (g := gC) rfl i (.int .u64 (notW l.cells[i])) (by rw [hw, List.map_append, List.getElem?_append_left (by simpa using hi'), List.getElem?_map, List.getElem?_map, List.getElem?_eq_getElem hi']; rfl)
    rw [add0] at q
    rw [Nat.zero_add, q]
    simp [wreckP]
  · have q := h.all.1.cells (g := gA) rfl i (rowS 0 l.threads bs)[i] (by rw [List.getElem?_append_left hi, List.getElem?_eq_getElem hi])
    rw [add0] at q
    rw [Nat.zero_add, q]
  · have hit : i < l.threads.length := by simpa [wreckP] using h2
    have hb : i < bs.length := by rw [h.len]; exact hit
    have e := rowS_at 0 l.threads bs i hit hb
    rw [List.getElem?_eq_getElem h1] at e
    have hs := sees_part (h.ths.1 i hb hit)
    rw [wreckQ_all] at hs
    refine ⟨some ⟨bs[i].1, 0, none⟩, bs[i].2, ?_, ?_⟩
    · rw [Option.some.inj e]; simp [wreckP]
    · simpa [wreckP] using hs

theorem wreckQ_off (ls : List (List Ins)) (i j i' : Nat) (h : i' < ls.length) (hi : i' ≠ i) : wreckQ ls i j i' h = wreckQ ls i (j + 1) i' h := by
  unfold wreckQ
  rw [if_neg hi, if_neg hi]
theorem Wrecked.step {w : World} {base : Nat} {bs : List (Nat × Nat)} {ls : List (List Ins)} {i j : Nat} (h : Wrecked w base bs ls i j) (hn : (bs.map Prod.fst).Nodup) (hl : bs.length = ls.length) (hi : i < ls.length) (hb : i < bs.length) (hj : j < ls[i].length) {w' : World}
    (hw : w' = ((((((((w.setCell ⟨bs[i].1, j * 8, none⟩ (.int .i64 2)).setCell ⟨bs[i].1, j * 8 + 1, none⟩ (.int .i64 0)).setCell ⟨bs[i].1, j * 8 + 2, none⟩ (.int .i64 0)).setCell ⟨bs[i].1, j * 8 + 3, none⟩ (.int .i64 (-1))).setCell ⟨bs[i].1, j * 8 + 4, none⟩ (.int .u64 77)).setCell ⟨bs[i].1, j * 8 + 5, none⟩ (.int .i64 0)).setCell ⟨bs[i].1, j * 8 + 6, none⟩ (.int .u64 0)).setCell ⟨bs[i].1, j * 8 + 7, none⟩ (.int .i64 0))) :
    Wrecked w' base bs ls i (j + 1) ∧ Keep (bs.map Prod.fst) w w' := by
  have hq := h i hb hi
  have hjl : j < (wreckQ ls i j i hi).length := by rw [wreckQ_len]; exact hj
  have e2 : (wreckQ ls i j i hi ++ [i77, i78]).length = ls[i].length + 2 := by simp [wreckQ_len]
  rw [← e2] at hq
  have hS := ins_stored hq j (by rw [e2]; omega) wi
  have hk : Keep [bs[i].1] w w' := by rw [hw]; exact hS.2
  refine ⟨fun i' h1 h2 => ?_, ⟨hk.os, hk.tape, hk.output, hk.size, fun g hg hm => hk.block g hg fun hm' => hm (by
    simp only [List.mem_singleton] at hm'
    rw [hm']
    exact List.mem_map.2 ⟨bs[i], List.getElem_mem hb, rfl⟩)⟩⟩
  by_cases e : i' = i
  · subst e
    subst hw
    have q := hS.1
    rw [List.set_append_left _ _ hjl, wreckQ_next _ _ _ hi hj, e2] at q
    exact q
  · rw [← wreckQ_off ls i j i' h2 e]
    refine Har.owns_block (h i' h1 h2) fun g hg => hk.block g ((h i' h1 h2).lt g hg).2 fun hm => ?_
    have q : bs[i'].1 = g := by simpa [Value.ownBlock] using hg
    simp only [List.mem_singleton] at hm
    have hp := List.pairwise_iff_getElem.1 hn
    rcases Nat.lt_or_gt_of_ne e with hl2 | hl2
    · exact hp i' i (by simpa using h1) (by simpa using hb) hl2 (by simp only [List.getElem_map]; rw [q, hm])
    · exact hp i i' (by simpa using hb) (by simpa using h1) hl2 (by simp only [List.getElem_map]; rw [q, hm])
theorem Wrecked.next {w : World} {base : Nat} {bs : List (Nat × Nat)} {ls : List (List Ins)} {i : Nat} (hi : i < ls.length) (h : Wrecked w base bs ls i ls[i].length) : Wrecked w base bs ls (i + 1) 0 := by
  intro i' h1 h2
  rw [← wreckQ_done ls i i' h2 hi]
  exact h i' h1 h2
theorem Wrecked.keep {w w' : World} {base : Nat} {bs : List (Nat × Nat)} {ls : List (List Ins)} {i j : Nat} (h : Wrecked w base bs ls i j) {T : List Nat} (k : Keep T w w') (hT : ∀ x ∈ T, x ∉ bs.map Prod.fst) : Wrecked w' base bs ls i j := by
  refine fun i' h1 h2 => Har.owns_block (h i' h1 h2) fun g hg => k.block g ((h i' h1 h2).lt g hg).2 fun hm => ?_
  have q : bs[i'].1 = g := by simpa [Value.ownBlock] using hg
  exact hT g hm (List.mem_map.2 ⟨bs[i'], List.getElem_mem h1, q⟩)
/-- where it may be written -/
theorem Wrecked.free {w : World} {base : Nat} {bs : List (Nat × Nat)} {ls : List (List Ins)} {i j : Nat} (h : Wrecked w base bs ls i j) (hb : i < bs.length) (hi : i < ls.length) (k : Nat) : w.frozen? ⟨bs[i].1, k, none⟩ = false := by
  rcases (h i hb hi).2 with ⟨e, h0⟩ | ⟨g', cap, cur, e, -, hg, -⟩
  · simp at e
  · simp only [Value.slice.injEq, Option.some.injEq, Addr.mk.injEq] at e
    obtain ⟨⟨e1, -⟩, -⟩ := e
    rw [e1]
    exact free_of hg k
theorem Wrecked.cell {w : World} {base : Nat} {bs : List (Nat × Nat)} {ls : List (List Ins)} {i j : Nat} (h : Wrecked w base bs ls i j) (hb : i < bs.length) (hi : i < ls.length) {k : Nat} (hk : k < ls[i].length * 8) : ∃ v, w.cell? ⟨bs[i].1, k, none⟩ = some v := by
  have add0 : (⟨bs[i].1, 0, none⟩ : Addr).add k = ⟨bs[i].1, k, none⟩ := by unfold Addr.add; split <;> simp_all
  have hl := flatI_length (wreckQ ls i j i hi ++ [i77, i78])
  rw [List.length_append, wreckQ_len] at hl
  have hk2 : k < (flatI (wreckQ ls i j i hi ++ [i77, i78])).length := by rw [hl]; simp; omega
  have q := (h i hb hi).cells (g := bs[i].1) rfl k _ (List.getElem?_eq_getElem hk2)
  rw [add0] at q
  exact ⟨_, q⟩
theorem LentAt.wrecked {w : World} {base gC cC gA cA g79 : Nat} {tT : Value} {bs : List (Nat × Nat)} {l : LP} (h : LentAt w base gC cC gA cA g79 tT bs l) : Wrecked w base bs l.threads 0 0 := by
  intro i h1 h2
  have e : wreckQ l.threads 0 0 i h2 = l.threads[i] := by
    unfold wreckQ
    rw [if_neg (by omega)]
    by_cases e : i = 0
    · rw [if_pos e]; simp
    · rw [if_neg e]
  rw [e]
  exact h.ths.each i h1 h2
/-- its blocks are apart -/
theorem LentAt.apart {w : World} {base gC cC gA cA g79 : Nat} {tT : Value} {bs : List (Nat × Nat)} {l : LP} (h : LentAt w base gC cC gA cA g79 tT bs l) : gC ≠ gA ∧ gC ∉ bs.map Prod.fst ∧ gA ∉ bs.map Prod.fst := by
  refine ⟨own_ne h.cells h.all (by decide) rfl rfl, fun hm => ?_, fun hm => ?_⟩
  · obtain ⟨b, hb, e⟩ := List.mem_map.1 hm
    obtain ⟨i, hi, rfl⟩ := List.getElem_of_mem hb
    exact own_ne h.cells (h.ths.each i hi (by have := h.ths.len; omega)) (by decide) rfl rfl e.symm
  · obtain ⟨b, hb, e⟩ := List.mem_map.1 hm
    obtain ⟨i, hi, rfl⟩ := List.getElem_of_mem hb
    exact own_ne h.all (h.ths.each i hi (by have := h.ths.len; omega)) (by decide) rfl rfl e.symm
/-- a program's slice in all -/
theorem LentAt.allAt {w : World} {base gC cC gA cA g79 : Nat} {tT : Value} {bs : List (Nat × Nat)} {l : LP} (h : LentAt w base gC cC gA cA g79 tT bs l) {i : Nat} (hi : i < l.threads.length) (hb : i < bs.length) :
    w.cell? ⟨gA, i, none⟩ = some (.slice (some ⟨bs[i].1, 0, none⟩) l.threads[i].length bs[i].2) := by
  have add0 : ∀ (g j : Nat), (⟨g, 0, none⟩ : Addr).add j = ⟨g, j, none⟩ := fun g j => by unfold Addr.add; split <;> simp_all
  have hl : i < (rowS 0 l.threads bs).length := by rw [rowS_len 0 _ _ h.ths.len]; exact hi
  have q := h.all.cells (g := gA) rfl i (.slice (some ⟨bs[i].1, 0, none⟩) l.threads[i].length bs[i].2) (by rw [List.getElem?_append_left hl, rowS_at 0 l.threads bs i hi hb]; simp)
  rw [add0] at q
  exact q

set_option maxHeartbeats 4000000 in
theorem wreck {w : World} {base gC cC gA cA g79 : Nat} {tT : Value} {bs : List (Nat × Nat)} {l : LP} (h : LentAt w base gC cC gA cA g79 tT bs l) (hs : l.cells.length ≤ 1000000000000 ∧ l.threads.length ≤ 1000000000000 ∧ ∀ p ∈ l.threads, p.length ≤ 1000000000000) (top : Nat) (ht : gC < top ∧ gA < top ∧ ∀ x ∈ bs.map Prod.fst, x < top) :
    Calls Tryz.prog 16 #[.agg #[.slice (some ⟨gC, 0, none⟩) l.cells.length cC, .slice (some ⟨gA, 0, none⟩) l.threads.length cA]] w fun e w' => e = .returned (.tuple #[]) ∧
      WreckAt w' base top gC cC gA cA (.slice (some ⟨g79, 0, none⟩) 1 1) bs l ∧ Keep (gC :: bs.map Prod.fst) w w' := by
  have H := Lib.hid h
  have HS := Lib.hid hs
  obtain ⟨nc, hnc⟩ : ∃ nc, nc = l.cells.length := ⟨_, rfl⟩
  obtain ⟨nt, hnt⟩ : ∃ nt, nt = l.threads.length := ⟨_, rfl⟩
  have HN := Lib.hid (And.intro hnc hnt)
  rw [← hnc, ← hnt]
  obtain ⟨lb, hlb⟩ : ∃ lb, lb = w.heap.size := ⟨_, rfl⟩
  obtain ⟨w1, hw1⟩ : ∃ w1, w1 = w.alloc (.cells #[.slice (some ⟨gC, 0, none⟩) nc cC, .slice (some ⟨gA, 0, none⟩) nt cA] 25) := ⟨_, rfl⟩
  have k1 : Keep [] w w1 := by rw [hw1]; exact (Keep.refl _ _).alloc _
  have B1 := Lib.hid (show w1.heap[lb]? = some (.cells #[.slice (some ⟨gC, 0, none⟩) nc cC, .slice (some ⟨gA, 0, none⟩) nt cA] 25 (0, 0)) by rw [hw1, hlb]; exact alloc_new _ _)
  have K1 := Lib.hid k1
  have hCl : gC < lb := by rw [hlb]; exact (h.cells.lt gC rfl).2
  have hAl : gA < lb := by rw [hlb]; exact (h.all.lt gA rfl).2
  have hbl : Hid (∀ x ∈ bs.map Prod.fst, x < lb) := Lib.hid (by
    intro x hx
    obtain ⟨b, hb, rfl⟩ := List.mem_map.1 hx
    obtain ⟨i, hi, rfl⟩ := List.getElem_of_mem hb
    have q : bs[i].1 < w.heap.size := ((h.ths.each i hi (by have := h.ths.len; omega)).lt _ rfl).2
    rw [hlb]; exact q)
  have L1 := Lib.hid (h.keep0 k1)
  have hs' := hs.1
  have ht' := hs.2.1
  rw [← hnc] at hs'
  rw [← hnt] at ht'
  have C1 := Lib.hid (show w1.ownsRow base 75 1 (.slice (some ⟨gC, 0, none⟩) (nc + 2) cC) (nc + 2) ((wreckC l.cells 0 ++ [771, 772]).map (.int .u64)) by have q := L1.out.cells; rw [← hnc] at q; simpa [wreckC] using q)
  clear h hs hnc hnt k1
  go_enter Tryz.func16, Tryz.ntmps16
  go_wp2_with fail
  rw [show w.alloc (.cells #[.slice (some ⟨gC, 0, none⟩) nc cC, .slice (some ⟨gA, 0, none⟩) nt cA] 25 (0, 0)) = w1 from hw1.symm, ← hlb]
  clear hw1 hlb
  go_loopw [2] (fun i wr => ∃ k : Nat, i = .int .i64 k ∧ k ≤ nc ∧ wr.ownsRow base 75 1 (.slice (some ⟨gC, 0, none⟩) (nc + 2) cC) (nc + 2) ((wreckC l.cells k ++ [771, 772]).map (.int .u64)) ∧ Keep [gC] w1 wr) (fun i _ => nc - (intOf i).toNat)
  case atStart => exact ⟨0, rfl, Nat.zero_le _, C1.out, Keep.refl _ _⟩
  case round =>
    obtain ⟨k, rfl, hk, hR, hK⟩ := hrel
    have RR := Lib.hid hR
    have KR := Lib.hid hK
    have lbr : wr.heap[lb]? = some (.cells #[.slice (some ⟨gC, 0, none⟩) nc cC, .slice (some ⟨gA, 0, none⟩) nt cA] 25 (0, 0)) := hK.old B1.out (by simp; omega)
    have y0 := (cell_of lbr 0).trans rfl
    by_cases hlt : k < nc
    · have hkl : k < l.cells.length := by have := HN.out.1; omega
      obtain ⟨x, hx⟩ : ∃ x, x = l.cells[k] := ⟨_, rfl⟩
      have c0 : wr.cell? ⟨gC, k, none⟩ = some (.int .u64 x) := by
        have add0 : (⟨gC, 0, none⟩ : Addr).add k = ⟨gC, k, none⟩ := by unfold Addr.add; split <;> simp_all
        have q := hR.cells (g := gC) rfl k (.int .u64 x) (by rw [List.map_append, List.getElem?_append_left (by rw [List.length_map, wreckC_len]; exact hkl), List.getElem?_map, wreckC_at _ _ hkl, hx]; rfl)
        rw [add0] at q
        exact q
      have f0 : wr.frozen? ⟨gC, k, none⟩ = false := by
        rcases hR.2 with ⟨e, h0⟩ | ⟨g', cap, cur, e, -, hg, -⟩
        · simp at e
        · simp only [Value.slice.injEq, Option.some.injEq, Addr.mk.injEq] at e
          obtain ⟨⟨rfl, -⟩, -⟩ := e
          exact free_of hg k
      have HX := Lib.hid (show ∃ h : k < l.cells.length, x = l.cells[k] from ⟨hkl, hx⟩)
      clear hR hK hkl hx lbr
      go_wp2_with fail
      refine wp_region_still_tail 10 (by kernel_rfl) (by kernel_rfl) ?_
      simp only [List.take_succ_cons, List.take_zero, List.drop_succ_cons, List.drop_zero]
      repeat still_step
      refine wpStill_nil ?_
      go_wp2_with fail
      obtain ⟨hkl, rfl⟩ := HX.out
      refine ⟨⟨k + 1, by go_num, hlt, ?_, (KR.out.set (.inl (by simp)) _ _).drew⟩, by simp [intOf]; omega⟩
      have q := (RR.out.stored k (.int .u64 (notW l.cells[k]))).1
      rw [← wreckC_next _ _ hkl]
      have e : ((wreckC l.cells k ++ [771, 772]).map (Value.int .u64)).set k (.int .u64 (notW l.cells[k])) = (((wreckC l.cells k).set k (notW l.cells[k])) ++ [771, 772]).map (Value.int .u64) := by
        rw [← List.map_set, List.set_append_left _ _ (by rw [wreckC_len]; exact hkl)]
      rw [e] at q
      exact q.drew
    · obtain ⟨w5, rfl⟩ : ∃ w5 : World, w5 = wr := ⟨_, rfl⟩
      have hkn : k = nc := by omega
      subst hkn
      have L5 := Lib.hid lbr
      have hap := L1.out.apart
      have AP := Lib.hid hap
      have W5 := Lib.hid (L1.out.wrecked.keep hK (by simpa using hap.2.1))
      have A5 : Hid (∀ i (hi : i < l.threads.length) (hb : i < bs.length), w5.cell? ⟨gA, i, none⟩ = some (.slice (some ⟨bs[i].1, 0, none⟩) l.threads[i].length bs[i].2)) := Lib.hid (fun i hi hb => by
        have q := L1.out.allAt hi hb
        exact hK.cell q (by simpa using hap.1.symm))
      have HB := Lib.hid (show bs.length = l.threads.length from L1.out.ths.len)
      have ND := Lib.hid L1.out.ths.nd
      have HA5 : Hid (gA < w5.heap.size) := Lib.hid (by have := (L1.out.all.lt gA rfl).2; have := hK.size; omega)
      have HL5 : Hid (lb < w5.heap.size) := Lib.hid (by exact lt_of lbr)
      clear hR hK hap
      go_wp2_with fail
      go_loopw [3] (fun i wx => ∃ k' : Nat, i = .int .i64 k' ∧ k' ≤ nt ∧ Wrecked wx base bs l.threads k' 0 ∧ Keep (bs.map Prod.fst) w5 wx) (fun i _ => nt - (intOf i).toNat)
      case atStart => exact ⟨0, rfl, Nat.zero_le _, W5.out, Keep.refl _ _⟩
      case round =>
        obtain ⟨k2, rfl, hk2, hW, hK2⟩ := hrel
        have WR := Lib.hid hW
        have KR2 := Lib.hid hK2
        have hlbn : lb ∉ bs.map Prod.fst := fun hm => Nat.lt_irrefl _ (hbl.out lb hm)
        have lb2 : wr.heap[lb]? = some (.cells #[.slice (some ⟨gC, 0, none⟩) k cC, .slice (some ⟨gA, 0, none⟩) nt cA] 25 (0, 0)) := hK2.old L5.out hlbn
        have y1 := (cell_of lb2 1).trans rfl
        by_cases hlt2 : k2 < nt
        · have hi : k2 < l.threads.length := by have := HN.out.2; omega
          have hb : k2 < bs.length := by rw [HB.out]; exact hi
          have hIB := Lib.hid (And.intro hi hb)
          obtain ⟨g, hg⟩ : ∃ g, g = bs[k2].1 := ⟨_, rfl⟩
          obtain ⟨cg, hcg⟩ : ∃ c, c = bs[k2].2 := ⟨_, rfl⟩
          obtain ⟨n, hn⟩ : ∃ n, n = l.threads[k2].length := ⟨_, rfl⟩
          have hap := AP.out
          have y2 : wr.cell? ⟨gA, k2, none⟩ = some (.slice (some ⟨g, 0, none⟩) n cg) := by
            rw [hg, hcg, hn]
            exact hK2.cell (A5.out k2 hi hb) hap.2.2
          have Y5 := Lib.hid (show w5.cell? ⟨gA, k2, none⟩ = some (.slice (some ⟨g, 0, none⟩) n cg) by rw [hg, hcg, hn]; exact A5.out k2 hi hb)
          have GG := Lib.hid (show ∃ (hi : k2 < l.threads.length) (hb : k2 < bs.length), g = bs[k2].1 ∧ cg = bs[k2].2 ∧ n = l.threads[k2].length from ⟨hi, hb, hg, hcg, hn⟩)
          have hn12 : n ≤ 1000000000000 := by rw [hn]; exact HS.out.2.2 _ (List.getElem_mem hi)
          clear hW hK2 hi hb hap hg hcg hn lb2
          go_wp2_with fail
          go_loopw [4] (fun i wx => ∃ q : Nat, i = .int .i64 q ∧ q ≤ n ∧ Wrecked wx base bs l.threads k2 q ∧ Keep (bs.map Prod.fst) w5 wx) (fun i _ => n - (intOf i).toNat)
          case atStart => exact ⟨0, rfl, Nat.zero_le _, WR.out, KR2.out⟩
          case round =>
            obtain ⟨q, rfl, hq, hW3, hK3⟩ := hrel
            have WR3 := Lib.hid hW3
            have KR3 := Lib.hid hK3
            have lb3 : wr.heap[lb]? = some (.cells #[.slice (some ⟨gC, 0, none⟩) k cC, .slice (some ⟨gA, 0, none⟩) nt cA] 25 (0, 0)) := hK3.old L5.out (fun hm => Nat.lt_irrefl _ (hbl.out lb hm))
            have y3 := (cell_of lb3 1).trans rfl
            have y4 : wr.cell? ⟨gA, k2, none⟩ = some (.slice (some ⟨g, 0, none⟩) n cg) := hK3.cell Y5.out AP.out.2.2
            have y5 : ∀ o, wr.frozen? ⟨g, o, none⟩ = false := by
              obtain ⟨hi, hb, hg, -, -⟩ := GG.out
              rw [hg]
              exact hW3.free hb hi
            by_cases hlt3 : q < n
            · have hz : ∀ r, r < 8 → ∃ v, wr.cell? ⟨g, q * 8 + r, none⟩ = some v := by
                intro r hr
                obtain ⟨hi, hb, hg, -, hn⟩ := GG.out
                rw [hg]
                exact hW3.cell hb hi (by rw [← hn]; omega)
              obtain ⟨x0, z0⟩ := hz 0 (by omega)
              rw [Nat.add_zero] at z0
              obtain ⟨x1, z1⟩ := hz 1 (by omega)
              obtain ⟨x2, z2⟩ := hz 2 (by omega)
              obtain ⟨x3, z3⟩ := hz 3 (by omega)
              obtain ⟨x4, z4⟩ := hz 4 (by omega)
              obtain ⟨x5, z5⟩ := hz 5 (by omega)
              obtain ⟨x6, z6⟩ := hz 6 (by omega)
              obtain ⟨x7, z7⟩ := hz 7 (by omega)
              have f0 := y5 (q * 8)
              have f1 := y5 (q * 8 + 1)
              have f2 := y5 (q * 8 + 2)
              have f3 := y5 (q * 8 + 3)
              have f4 := y5 (q * 8 + 4)
              have f5 := y5 (q * 8 + 5)
              have f6 := y5 (q * 8 + 6)
              have f7 := y5 (q * 8 + 7)
              clear hW3 hK3 lb3 hz y5
              go_wp2_with fail
              go_roundw
              case rel =>
                obtain ⟨hi, hb, hg, -, hn⟩ := GG.out
                have hS := WR3.out.step ND.out HB.out hi hb (by omega) (by rw [← hg])
                refine ⟨q + 1, by go_num, hlt3, hS.1, (KR3.out.chain hS.2 fun x hx => .inl hx)⟩
              case measure => simp [intOf]; omega
            · clear hW3 hK3 lb3 y5
              obtain rfl : q = n := by omega
              go_wp2_with fail
              go_roundw
              case rel =>
                obtain ⟨hi, hb, hg, -, hn⟩ := GG.out
                have hW4 := WR3.out
                rw [hn] at hW4
                exact ⟨k2 + 1, by go_num, hlt2, hW4.next hi, KR3.out⟩
              case measure => simp [intOf]; omega
        · clear hW hK2 lb2
          go_wp2_with fail
          obtain rfl : k2 = nt := by omega
          obtain ⟨h1, h2⟩ := HN.out
          refine bodyPost_end (results_none rfl _ _ _) rfl ⟨rfl, ⟨⟨?_, ht.1⟩, ⟨?_, ht.2.1⟩, HB.out, ⟨?_, ht.2.2⟩⟩, ?_⟩
          · have q := Har.owns_block RR.out fun g hg => KR2.out.block g (RR.out.lt g hg).2 fun hm => by
              have e : gC = g := by simpa [Value.ownBlock] using hg
              rw [← e] at hm
              exact AP.out.2.1 hm
            rw [h1] at q
            exact q
          · have q := Har.owns_block L1.out.all fun g hg => (KR2.out.block g (Nat.lt_of_lt_of_le (L1.out.all.lt g hg).2 KR.out.size) fun hm => by
              have e : gA = g := by simpa [Value.ownBlock] using hg
              rw [← e] at hm
              exact AP.out.2.2 hm).trans (KR.out.block g (L1.out.all.lt g hg).2 fun hm => by
              have e : gA = g := by simpa [Value.ownBlock] using hg
              rw [← e] at hm
              exact AP.out.1 (List.mem_singleton.1 hm).symm)
            exact q
          · have q := WR.out
            rw [h2] at q
            exact q
          · exact (((Keep.refl (gC :: bs.map Prod.fst) w).chain K1.out (by simp)).chain KR.out (fun x hx => .inl (by simp at hx; simp [hx]))).chain KR2.out (fun x hx => .inl (List.mem_cons_of_mem _ hx))
end Go.Proofs.YtdkdeiofjoccnaaGreat.Lit
