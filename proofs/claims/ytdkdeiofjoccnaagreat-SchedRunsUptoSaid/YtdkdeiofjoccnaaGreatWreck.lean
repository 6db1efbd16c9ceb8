/- stratalaw03.wreck: everything in a lent program is turned (the seat .Z alone has it). -/
import Derived.Test.YtdkdeiofjoccnaaGreatKept
namespace Go.Proofs.YtdkdeiofjoccnaaGreat.Lit
open Go.RowKit Go.Proofs.YtdkdeiofjoccnaaGreat.Mem Go.Proofs.YtdkdeiofjoccnaaGreat.Ar Go.Proofs.YtdkdeiofjoccnaaGreat.Un
set_option linter.unusedVariables false
set_option linter.unusedSimpArgs false
set_option maxRecDepth 100000

def wi : Ins := ⟨2, 0, 0, -1, 77, 0, 0, 0⟩
/-- ^x -/
def notW (x : Int) : Int := bits .xor .u64 IntKind.u64.max x
def wreckP (l : LP) : LP := ⟨l.cells.map notW, l.threads.map fun p => p.map fun _ => wi⟩

theorem flatI_set (p : List Ins) (j : Nat) (hj : j < p.length) (x : Ins) : ((((((((flatI p).set (j * 8) (.int .i64 x.op)).set (j * 8 + 1) (.int .i64 x.cell)).set (j * 8 + 2) (.int .i64 x.reg)).set (j * 8 + 3) (.int .i64 x.newR)).set (j * 8 + 4) (.int .u64 x.newI)).set (j * 8 + 5) (.int .i64 x.oldR)).set (j * 8 + 6) (.int .u64 x.oldI)).set (j * 8 + 7) (.int .i64 x.n) = flatI (p.set j x) := by
  apply List.ext_getElem?
  intro i
  have hl := flatI_length p
  have hl2 := flatI_length (p.set j x)
  rw [List.length_set] at hl2
  by_cases hi : i < p.length * 8
  · have e : i = i / 8 * 8 + i % 8 := by omega
    have h8 : i % 8 < 8 := Nat.mod_lt _ (by omega)
    have hq : i / 8 < p.length := by omega
    obtain ⟨q, hq'⟩ : ∃ q, q = i / 8 := ⟨_, rfl⟩
    obtain ⟨r, hr'⟩ : ∃ r, r = i % 8 := ⟨_, rfl⟩
    rw [← hq', ← hr'] at e
    rw [← hq'] at hq
    rw [← hr'] at h8
    subst e
    rw [flatI_get (p.set j x) q (by simpa using hq) r h8]
    simp only [List.getElem?_set, List.length_set, hl]
    by_cases hqj : q = j
    · subst hqj
      rw [List.getElem_set_self]
      have hb : ∀ c, c < 8 → (q * 8 + c < p.length * 8) = True := fun c hc => eq_true (by omega)
      have hb0 : (q * 8 < p.length * 8) = True := eq_true (by omega)
      rcases r with _ | _ | _ | _ | _ | _ | _ | _ | r
      · simp [Ins.cells, hb0]
      · simp [Ins.cells, hb 1 (by omega)]
      · simp [Ins.cells, hb 2 (by omega)]
      · simp [Ins.cells, hb 3 (by omega)]
      · simp [Ins.cells, hb 4 (by omega)]
      · simp [Ins.cells, hb 5 (by omega)]
      · simp [Ins.cells, hb 6 (by omega)]
      · simp [Ins.cells, hb 7 (by omega)]
      · omega
    · rw [if_neg (by omega), if_neg (by omega), if_neg (by omega), if_neg (by omega), if_neg (by omega), if_neg (by omega), if_neg (by omega), if_neg (by omega), flatI_get p q hq r h8]
      rw [List.getElem_set_ne (by omega)]
  · rw [List.getElem?_eq_none (by simp only [List.length_set]; omega), List.getElem?_eq_none (by omega)]

/-- an instruction written over -/
theorem ins_stored {w : World} {base gb n cb : Nat} {p : List Ins} (h : w.ownsRow base 140 8 (.slice (some ⟨gb, 0, none⟩) n cb) n (flatI p)) (j : Nat) (hj : j < p.length) (x : Ins) :
    ((((((((w.setCell ⟨gb, j * 8, none⟩ (.int .i64 x.op)).setCell ⟨gb, j * 8 + 1, none⟩ (.int .i64 x.cell)).setCell ⟨gb, j * 8 + 2, none⟩ (.int .i64 x.reg)).setCell ⟨gb, j * 8 + 3, none⟩ (.int .i64 x.newR)).setCell ⟨gb, j * 8 + 4, none⟩ (.int .u64 x.newI)).setCell ⟨gb, j * 8 + 5, none⟩ (.int .i64 x.oldR)).setCell ⟨gb, j * 8 + 6, none⟩ (.int .u64 x.oldI)).setCell ⟨gb, j * 8 + 7, none⟩ (.int .i64 x.n)).ownsRow base 140 8 (.slice (some ⟨gb, 0, none⟩) n cb) n (flatI (p.set j x)) ∧
    Keep [gb] w ((((((((w.setCell ⟨gb, j * 8, none⟩ (.int .i64 x.op)).setCell ⟨gb, j * 8 + 1, none⟩ (.int .i64 x.cell)).setCell ⟨gb, j * 8 + 2, none⟩ (.int .i64 x.reg)).setCell ⟨gb, j * 8 + 3, none⟩ (.int .i64 x.newR)).setCell ⟨gb, j * 8 + 4, none⟩ (.int .u64 x.newI)).setCell ⟨gb, j * 8 + 5, none⟩ (.int .i64 x.oldR)).setCell ⟨gb, j * 8 + 6, none⟩ (.int .u64 x.oldI)).setCell ⟨gb, j * 8 + 7, none⟩ (.int .i64 x.n)) := by
  rw [← flatI_set p j hj x]
  refine ⟨((((((((h.stored _ _).1.stored _ _).1.stored _ _).1.stored _ _).1.stored _ _).1.stored _ _).1.stored _ _).1.stored _ _).1, ?_⟩
  exact ((((((((Keep.refl [gb] w).set (.inl (by simp)) _ _).set (.inl (by simp)) _ _).set (.inl (by simp)) _ _).set (.inl (by simp)) _ _).set (.inl (by simp)) _ _).set (.inl (by simp)) _ _).set (.inl (by simp)) _ _).set (.inl (by simp)) _ _

/-- how far the wrecking of the programs has come: i of them whole, of the next one j instructions -/
def wreckQ (ls : List (List Ins)) (i j i' : Nat) (h : i' < ls.length) : List Ins :=
  if i' < i then ls[i'].map fun _ => wi else if i' = i then (ls[i'].take j).map (fun _ => wi) ++ ls[i'].drop j else ls[i']
theorem wreckQ_len (ls : List (List Ins)) (i j i' : Nat) (h : i' < ls.length) : (wreckQ ls i j i' h).length = ls[i'].length := by
  unfold wreckQ
  split
  · simp
  · split
    · simp
      omega
    · rfl
theorem wreckQ_next (ls : List (List Ins)) (i j : Nat) (h : i < ls.length) (hj : j < ls[i].length) : (wreckQ ls i j i h).set j wi = wreckQ ls i (j + 1) i h := by
  unfold wreckQ
  simp only [Nat.lt_irrefl, if_false, if_true]
  apply List.ext_getElem?
  intro r
  by_cases hr : r < ls[i].length
  · rw [List.getElem?_set]
    by_cases e : j = r
    · subst e
      rw [if_pos rfl, if_pos (by simp; omega), List.getElem?_append_left (by simp; omega)]
      simp [List.getElem?_map, List.getElem?_take, hr]
    · rw [if_neg e]
      by_cases h2 : r < j
      · rw [List.getElem?_append_left (by simp; omega), List.getElem?_append_left (by simp; omega)]
        simp [List.getElem?_take, h2, show r < j + 1 by omega]
      · rw [List.getElem?_append_right (by simp; omega), List.getElem?_append_right (by simp; omega)]
        simp only [List.length_map, List.length_take, List.getElem?_drop]
        congr 1
        omega
  · rw [List.getElem?_eq_none (by simp; omega), List.getElem?_eq_none (by simp; omega)]
theorem wreckQ_done (ls : List (List Ins)) (i i' : Nat) (h : i' < ls.length) (hi : i < ls.length) : wreckQ ls i (ls[i].length) i' h = wreckQ ls (i + 1) 0 i' h := by
  unfold wreckQ
  by_cases h1 : i' < i
  · rw [if_pos h1, if_pos (by omega)]
  · rw [if_neg h1]
    by_cases h2 : i' = i
    · subst h2
      rw [if_pos rfl, if_pos (by omega), List.take_of_length_le (Nat.le_refl _), List.drop_of_length_le (Nat.le_refl _), List.append_nil]
    · rw [if_neg h2, if_neg (by omega)]
      by_cases h3 : i' = i + 1
      · rw [if_pos h3]; simp
      · rw [if_neg h3]
end Go.Proofs.YtdkdeiofjoccnaaGreat.Lit
