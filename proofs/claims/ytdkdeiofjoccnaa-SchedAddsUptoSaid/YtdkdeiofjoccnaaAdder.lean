/- stratalaw03.adder: the program of additions. -/
import Derived.Test.YtdkdeiofjoccnaaCopyLit
import Derived.Test.YtdkdeiofjoccnaaAdds
namespace Go.Proofs.Ytdkdeiofjoccnaa.Lit
open Go.RowKit Go.Proofs.Ytdkdeiofjoccnaa.Mem Go.Proofs.Ytdkdeiofjoccnaa.Ar Go.Proofs.Ytdkdeiofjoccnaa.Un
set_option linter.unusedVariables false
set_option maxRecDepth 100000

/-- the deltas that the program takes: four threads, four a thread, ten in all -/
def cutG : Nat → List (List Int) → List (List Int)
  | _, [] => []
  | n, row :: rest => row.take (min 4 (10 - n)) :: cutG (n + (row.take (min 4 (10 - n))).length) rest
def cutD (dl : List (List Int)) : List (List Int) := cutG 0 (dl.take 4)

/-- deltas as they come in -/
structure DeltasIn (w : World) (a : Option Addr) (dl : List (List Int)) : Prop where
  rows : ∃ ps : List Value, ps.length = dl.length ∧ Sees w a ps ∧ ∀ i (h1 : i < ps.length) (h2 : i < dl.length), ∃ a' c', ps[i] = .slice a' dl[i].length c' ∧ Sees w a' (dl[i].map (.int .u64))

/-- how many the rows ahead of k have -/
def before (ds : List (List Int)) (k : Nat) : Nat := ((ds.take k).map List.length).sum

theorem cutG_len : ∀ (n : Nat) (l : List (List Int)), (cutG n l).length = l.length
  | _, [] => rfl
  | n, row :: rest => by simp [cutG, cutG_len _ rest]
theorem cutD_len (dl : List (List Int)) : (cutD dl).length = min 4 dl.length := by rw [cutD, cutG_len, List.length_take]
theorem cutG_at : ∀ (n : Nat) (l : List (List Int)) (k : Nat) (h : k < l.length) (h2 : k < (cutG n l).length), (cutG n l)[k] = l[k].take (min 4 (10 - (n + before (cutG n l) k)))
  | n, [], k, h, _ => by simp at h
  | n, row :: rest, 0, h, _ => by simp [cutG, before]
  | n, row :: rest, k + 1, h, h2 => by
    have hk : k < rest.length := by simpa using h
    have := cutG_at (n + (row.take (min 4 (10 - n))).length) rest k hk (by rw [cutG_len]; exact hk)
    simp only [cutG, List.getElem_cons_succ]
    rw [this]
    simp only [before, List.take_succ_cons, List.map_cons, List.sum_cons, Nat.add_assoc]
theorem cutG_sum : ∀ (n : Nat) (l : List (List Int)), n ≤ 10 → n + ((cutG n l).map List.length).sum ≤ 10
  | n, [], h => by simpa [cutG] using h
  | n, row :: rest, h => by
    have h1 : n + (row.take (min 4 (10 - n))).length ≤ 10 := by rw [List.length_take]; omega
    have := cutG_sum _ rest h1
    simp only [cutG, List.map_cons, List.sum_cons]
    omega
theorem cutG_short : ∀ (n : Nat) (l : List (List Int)), ∀ row ∈ cutG n l, row.length ≤ 4
  | n, [], row, h => by simp [cutG] at h
  | n, r :: rest, row, h => by
    rcases List.mem_cons.1 h with rfl | h
    · rw [List.length_take]; omega
    · exact cutG_short _ rest row h
theorem cutD_short (dl : List (List Int)) : ∀ row ∈ cutD dl, row.length ≤ 4 := cutG_short _ _
theorem cutD_at (dl : List (List Int)) (k : Nat) (h : k < dl.length) (h4 : k < 4) (h2 : k < (cutD dl).length) : (cutD dl)[k] = dl[k].take (min 4 (10 - before (cutD dl) k)) := by
  have := cutG_at 0 (dl.take 4) k (by rw [List.length_take]; omega) h2
  rw [Nat.zero_add] at this
  refine Eq.trans this ?_
  simp only [List.getElem_take]
  rfl
theorem before_le (dl : List (List Int)) (k : Nat) : before (cutD dl) k ≤ 10 := by
  have h := cutG_sum 0 (dl.take 4) (by omega)
  have : before (cutD dl) k ≤ ((cutD dl).map List.length).sum := by
    unfold before
    rw [← List.take_append_drop k ((cutD dl).map List.length), List.sum_append, List.map_take]
    omega
  have h2 : ((cutD dl).map List.length).sum = ((cutG 0 (dl.take 4)).map List.length).sum := rfl
  omega
theorem before_succ (ds : List (List Int)) (k : Nat) (hk : k < ds.length) : before ds (k + 1) = before ds k + ds[k].length := by
  unfold before
  rw [List.take_succ_eq_append_getElem hk, List.map_append, List.sum_append]
  simp

/-- the program is one -/
theorem ad_soundGo : ∀ (n : Nat) (ds : List (List Int)), n + (ds.map List.length).sum ≤ 10 → (∀ row ∈ ds, row.length ≤ 4) → soundGo 1 n (ds.map adRow) = true
  | n, [], _, _ => rfl
  | n, row :: ds, h, hr => by
    have hl : (adRow row).length = row.length := by simp [adRow]
    have h4 := hr row (by simp)
    simp only [List.map_cons, List.sum_cons] at h
    have hall : (adRow row).all (fun x => fitB x 1) = true := by
      rw [List.all_eq_true]
      intro x hx
      simp only [adRow, List.mem_map, List.mem_range] at hx
      obtain ⟨j, hj, rfl⟩ := hx
      exact adIns_fit j _ (by omega)
    have ih := ad_soundGo (n + row.length) ds (by omega) fun r hr' => hr r (by simp [hr'])
    show (if 10 < n + (adRow row).length then false else if (adRow row).all (fun x => fitB x 1) then soundGo 1 (n + (adRow row).length) (ds.map adRow) else false) = true
    rw [hl, if_neg (by omega), if_pos hall]
    exact ih
theorem ad_sound (b : Int) (dl : List (List Int)) (h : dl ≠ []) : soundB (adLit b (cutD dl)) = true := by
  have hl := cutD_len dl
  have h1 : 1 ≤ dl.length := by cases dl; exact absurd rfl h; simp
  have h2 := ad_soundGo 0 (cutD dl) (cutG_sum 0 (dl.take 4) (by omega)) (cutD_short dl)
  unfold soundB adLit betB
  simp only [List.length_map, List.length_singleton, Bool.and_eq_true, decide_eq_true_eq]
  refine ⟨by omega, by omega, h2⟩

/-- the first q instructions of a thread -/
def adPart (row : List Int) (q : Nat) : List Ins := (List.range q).map fun j => adIns j (nth row j 0)
theorem adPart_succ (row : List Int) (q : Nat) : adPart row (q + 1) = adPart row q ++ [adIns q (nth row q 0)] := by
  unfold adPart
  rw [List.range_succ, List.map_append]
  rfl
end Go.Proofs.Ytdkdeiofjoccnaa.Lit
