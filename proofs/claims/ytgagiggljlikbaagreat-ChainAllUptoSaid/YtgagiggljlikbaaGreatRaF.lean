/- The document's arena: New, Peek. -/
import Derived.Test.YtgagiggljlikbaaGreatRaE
namespace Go.Proofs.YtgagiggljlikbaaGreat.Ra
open Go.RowKit Go.Proofs.YtgagiggljlikbaaGreat.Mem Go.Proofs.YtgagiggljlikbaaGreat.Ar Go.Proofs.YtgagiggljlikbaaGreat.En
open Go.Proofs.YtgagiggljlikbaaGreat.Ref (one_int' news_at owns_shape Making blanks blank)
set_option linter.unusedVariables false
set_option linter.unusedSimpArgs false
set_option maxRecDepth 100000

theorem fresh_rows (n m : Nat) : ∀ k, k ≤ n + 1 → rows (fresh Ent n m) (List.replicate (n + 1) none) k = blanks k
  | 0, _ => rfl
  | k + 1, h => by
    rw [rows, fresh_rows n m k (by omega), blanks]
    congr 1
    simp only [sRow, fresh]
    rw [nth_replicate _ _ _ _ h, nth_replicate _ _ _ _ h, nth_replicate _ _ _ _ h, nth_replicate _ _ _ _ h]
    rfl

theorem new_at {w w' : World} {n m : Nat} {v1 v2 : Value} (h : Making w w' m n v1 v2) (h1 : 1 ≤ n) (h2 : n ≤ 4096) (h3 : 1 ≤ m) (h4 : m ≤ 16) :
    ∃ sg sc, RAt w' w.heap.size sg sc v2 (List.replicate (n + 1) none) (fresh Ent n m) (List.range' 1 n) ∧ ∀ x ∈ rBlocks w.heap.size sg v2 (List.replicate (n + 1) none), w.heap.size ≤ x := by
  obtain ⟨sg, sc, rfl, hsg⟩ : ∃ sg sc, v1 = .slice (some ⟨sg, 0, none⟩) (n + 1) sc ∧ w.heap.size + 1 ≤ sg := by
    obtain ⟨a, c, rfl⟩ := owns_shape h.o1
    rcases h.o1.2 with ⟨e, -⟩ | ⟨g, cap, cur, e, hb, -⟩
    · simp only [Value.slice.injEq] at e
      omega
    · simp only [Value.slice.injEq] at e
      obtain ⟨rfl, -, rfl⟩ := e
      exact ⟨g, c, rfl, hb⟩
  have hv : ∀ x, v2.ownBlock = some x → w.heap.size + 1 ≤ x := fun x hx => (h.o2.lt x hx).1
  have hf : (List.replicate (n + 1) (none : Option Nat)).filterMap id = [] := by
    rw [List.filterMap_eq_nil_iff]
    intro a ha
    rw [(List.mem_replicate.1 ha).2]
    rfl
  refine ⟨sg, sc, ⟨fresh_fits Ent n m h1 h2 h3 h4, Inv.start n m h1, h.hb, ?_, ?_, by simp [fresh], fun i g e => ?_, fun i i1 i2 e => ?_, nth_replicate _ _ _ _ (by omega), ?_⟩, fun x hx => ?_⟩
  · show w'.ownsRow 0 _ 6 _ (n + 1) (rows (fresh Ent n m) _ (n + 1))
    rw [fresh_rows n m (n + 1) (Nat.le_refl _)]
    exact owns_mono h.o1 (Nat.zero_le _)
  · rw [List.length_range']
    exact owns_mono h.o2 (Nat.zero_le _)
  · have : nth (List.replicate (n + 1) (none : Option Nat)) i none = none := by
      by_cases hi : i < n + 1
      · exact nth_replicate _ _ _ _ hi
      · simp [nth, List.getD_eq_getElem?_getD, hi]
    rw [this] at e
    cases e
  · simp only [fresh] at e i2
    rw [nth_replicate _ _ _ _ (by omega)] at e
    cases e
  · simp only [rBlocks, hf, List.append_nil, List.nodup_cons, List.mem_cons, not_or, Option.mem_toList]
    refine ⟨⟨by omega, fun e => by have := hv _ e; omega⟩, fun e => ?_, by cases v2.ownBlock <;> simp⟩
    rcases h.sep with q | q
    · simp [Value.ownBlock] at q
    · exact q (by rw [e]; rfl)
  · simp only [rBlocks, hf, List.append_nil, List.mem_cons, Option.mem_toList] at hx
    rcases hx with rfl | rfl | hx
    · exact Nat.le_refl _
    · omega
    · have := hv x hx
      omega
end Go.Proofs.YtgagiggljlikbaaGreat.Ra
