/- Picks: what a schedule is read as (plain Lean), and how a list of picks lies in memory. -/
import Derived.Test.YtdkdeiofjoccnaaGreatHeap
import Derived.Test.YtdkdeiofjoccnaaGreatChecked
import Derived.Maps.AppendAt
import Derived.Deep.AppendLies
import Derived.Laws.StructEq
import Derived.Lib.Strings
import Derived.Lib.Hide
import Derived.BigQuiet
namespace Go.Proofs.YtdkdeiofjoccnaaGreat.Pick
open Go.RowKit Go.Proofs.YtdkdeiofjoccnaaGreat.Mem

structure Pk where
  k : Int
  who : Int
  n : Int
deriving DecidableEq

def Pk.cells (p : Pk) : List Value := [.int .i64 p.k, .int .i64 p.who, .int .i64 p.n]
def flat (l : List Pk) : List Value := l.flatMap Pk.cells
theorem flat_append (a b : List Pk) : flat (a ++ b) = flat a ++ flat b := by simp [flat]
theorem flat_one (p : Pk) : flat [p] = p.cells := by simp [flat]
theorem flat_length (l : List Pk) : (flat l).length = l.length * 3 := by
  induction l with
  | nil => rfl
  | cons p l ih => rw [show flat (p :: l) = p.cells ++ flat l from by simp [flat], List.length_append, ih]; simp [Pk.cells]; omega

/-- What one byte that takes no second one is read as. -/
def one (n : Int) : Pk :=
  if n / 32 = 0 then ⟨1, n % 32, 1⟩ else if n / 32 = 2 then ⟨3, n % 32, 1⟩ else if n / 32 = 3 then ⟨4, 0, n % 32 + 1⟩ else if n / 32 = 4 then ⟨5, n % 32, 1⟩ else if n = 160 then ⟨6, 0, 0⟩ else ⟨0, 0, n⟩

/-- What a list of bytes is read as. -/
def dec : List UInt8 → List Pk
  | [] => []
  | [b] => [one b.toNat]
  | b :: c :: r => if (b.toNat : Int) / 32 = 1 then ⟨2, (b.toNat : Int) % 32, (c.toNat : Int) + 1⟩ :: dec r else one b.toNat :: dec (c :: r)

theorem dec_length : ∀ l : List UInt8, (dec l).length ≤ l.length
  | [] => by simp [dec]
  | [b] => by simp [dec]
  | b :: c :: r => by
    have h1 := dec_length r
    have h2 := dec_length (c :: r)
    simp only [dec]
    split <;> simp only [List.length_cons] at * <;> omega

theorem dec_single {b : UInt8} {r : List UInt8} (h : ¬ (b.toNat : Int) / 32 = 1 ∨ r = []) : dec (b :: r) = one b.toNat :: dec r := by
  cases r with
  | nil => simp [dec]
  | cons c r' => simp [dec, h.resolve_right (by simp)]
theorem dec_pair {b c : UInt8} {r : List UInt8} (h : (b.toNat : Int) / 32 = 1) : dec (b :: c :: r) = ⟨2, (b.toNat : Int) % 32, (c.toNat : Int) + 1⟩ :: dec r := by simp [dec, h]

theorem and31 (n : Nat) (h : n < 256) : Go.bits .and .i64 (n : Int) 31 = (n : Int) % 32 := by
  have key : ∀ m : Fin 256, Go.bits .and .i64 ((m : Nat) : Int) 31 = ((m : Nat) : Int) % 32 := by decide +kernel
  exact key ⟨n, h⟩
theorem tdiv32 (n : Nat) : Int.tdiv (n : Int) 32 = (n : Int) / 32 := Int.tdiv_eq_ediv_of_nonneg (by omega)
theorem tmod32 (n : Nat) : Int.tmod (n : Int) 32 = (n : Int) % 32 := Int.tmod_eq_emod_of_nonneg (by omega)

theorem size_data (s : ByteArray) : s.data.toList.length = s.size := by rw [Array.length_toList]; rfl

theorem at_cons {s : ByteArray} {b : UInt8} {r : List UInt8} {i : Nat} (h : s.data.toList.drop i = b :: r) : i < s.size ∧ ∀ hi : i < s.size, s[i]'hi = b := by
  have hl := congrArg List.length h
  rw [List.length_drop, List.length_cons, size_data] at hl
  have hi : i < s.size := by omega
  refine ⟨hi, fun hi => ?_⟩
  have : s.data.toList[i]? = some b := by
    have := congrArg (fun l => l[0]?) h
    simpa [List.getElem?_drop] using this
  have h2 : s.data.toList[i]? = some (s[i]'hi) := by
    rw [Array.getElem?_toList]
    exact Array.getElem?_eq_getElem hi
  rw [h2] at this
  exact Option.some.inj this

theorem ext_data (s : ByteArray) (a : Nat) : (s.extract a s.size).data.toList = s.data.toList.drop a := by
  rw [Lib.extract_data]
  apply List.take_of_length_le
  rw [List.length_drop]
  have := size_data s
  omega
theorem ext_size (s : ByteArray) (a : Nat) : (s.extract a s.size).size = s.size - a := by
  rw [← size_data, ext_data, List.length_drop, size_data]

/-- what lies in an element's three cells -/
theorem one_cells (p : Pk) : ∀ u ∈ p.cells, u.oneCell' = true := by simp [Pk.cells, Value.oneCell']
theorem cells_new (w : World) (x y z : Value) (t : TypeId) : ∀ j u, [x, y, z][j]? = some u → (w.alloc (.cells #[x, y, z] t)).cell? ((⟨w.heap.size, 0, none⟩ : Addr).add j) = some u := by
  intro j u hj
  match j, hj with
  | 0, hj => simp at hj; subst hj; simp [Addr.add]
  | 1, hj => simp at hj; subst hj; simp [Addr.add]
  | 2, hj => simp at hj; subst hj; simp [Addr.add]
  | j + 3, hj => simp at hj

theorem pick_new (w : World) (p : Pk) (t : TypeId) : ∀ j u, p.cells[j]? = some u → (w.alloc (.cells #[.int .i64 p.k, .int .i64 p.who, .int .i64 p.n] t)).cell? ((⟨w.heap.size, 0, none⟩ : Addr).add j) = some u := cells_new w _ _ _ t
theorem pick_new2 (w : World) (o : Obj) (p : Pk) (t : TypeId) : ∀ j u, p.cells[j]? = some u → ((w.alloc o).alloc (.cells #[.int .i64 p.k, .int .i64 p.who, .int .i64 p.n] t)).cell? ((⟨w.heap.size + 1, 0, none⟩ : Addr).add j) = some u := by
  have := pick_new (w.alloc o) p t
  rw [World.size_alloc] at this
  exact this

theorem Keep.grown {S : List Nat} {a w w' : World} {row : Option Nat} (h : Keep S a w) (hg : w.grownBy w' row) (hr : ∀ k, row = some k → k ∈ S ∨ a.heap.size ≤ k) : Keep S a w' :=
  ⟨hg.os.trans h.os, hg.tape.trans h.tape, hg.output.trans h.output, Nat.le_trans h.size hg.size, fun k hk hn => by
    refine (hg.block k (Nat.lt_of_lt_of_le hk h.size) ?_).trans (h.block k hk hn)
    intro e
    rcases hr k e.symm with h1 | h1
    · exact hn h1
    · omega⟩
theorem owns_keep {w w' : World} {S : List Nat} {base : Nat} {e : TypeId} {size : Nat} {v : Value} {n : Nat} {xs : List Value} (h : w.ownsRow base e size v n xs) (k : Keep S w w') (hS : ∀ x ∈ S, x < base) : w'.ownsRow base e size v n xs := by
  refine ⟨h.1, ?_⟩
  rcases h.2 with hn | ⟨g, cap, cur, rfl, hb, hgg, rest⟩
  · exact .inl hn
  · exact .inr ⟨g, cap, cur, rfl, hb, k.old hgg (fun hx => by have := hS g hx; omega), rest⟩
theorem owns_mono {w : World} {base base' : Nat} {e : TypeId} {size : Nat} {v : Value} {n : Nat} {xs : List Value} (h : w.ownsRow base e size v n xs) (hb : base' ≤ base) : w.ownsRow base' e size v n xs := by
  refine ⟨h.1, ?_⟩
  rcases h.2 with hn | ⟨g, cap, cur, rfl, hbb, rest⟩
  · exact .inl hn
  · exact .inr ⟨g, cap, cur, rfl, Nat.le_trans hb hbb, rest⟩

/-- a list of picks that the call made: it lies from the block base on -/
abbrev Row (w : World) (base : Nat) (v : Value) (l : List Pk) : Prop := w.ownsRow base 119 3 v l.length (flat l)

theorem infoP : (Tryz.prog.info? 119).map (fun i => (i.zero, i.size, i.bytes)) = some (some (.agg #[.int .i64 0, .int .i64 0, .int .i64 0]), 3, 24) := by kernel_rfl

theorem Row.push {w : World} {base : Nat} {v : Value} {l : List Pk} {p : Pk} (h : w.ownsRow base 119 3 v (l.length + 1) (flat l ++ p.cells)) : Row w base v (l ++ [p]) := by
  show World.ownsRow _ _ _ _ _ _ _
  rw [flat_append, flat_one, List.length_append]
  exact h

theorem one_of (n : Nat) {o q : Int} (ho : o = (n : Int) / 32) (hq : q = (n : Int) % 32) : one n = if o = 0 then ⟨1, q, 1⟩ else if o = 2 then ⟨3, q, 1⟩ else if o = 3 then ⟨4, 0, q + 1⟩ else if o = 4 then ⟨5, q, 1⟩ else if (n : Int) = 160 then ⟨6, 0, 0⟩ else ⟨0, 0, n⟩ := by
  subst ho hq
  rfl
theorem drop_next {α : Type} {l : List α} {i : Nat} {b : α} {r : List α} (h : l.drop i = b :: r) : l.drop (i + 1) = r := by
  rw [← List.tail_drop, h]; rfl

/-- a row's shape, and where its cells lie -/
theorem Row.shape {w : World} {base : Nat} {v : Value} {l : List Pk} (h : Row w base v l) : ∃ a cap, v = .slice a l.length cap ∧ ∀ (i : Nat) (hi : i < l.length), ∃ g, a = some ⟨g, 0, none⟩ ∧ v.ownBlock = some g ∧ base ≤ g ∧ g < w.heap.size ∧
    w.cell? ⟨g, i * 3, none⟩ = some (.int .i64 l[i].k) ∧ w.cell? ⟨g, i * 3 + 1, none⟩ = some (.int .i64 l[i].who) ∧ w.cell? ⟨g, i * 3 + 2, none⟩ = some (.int .i64 l[i].n) ∧ (∀ o, w.frozen? ⟨g, o, none⟩ = false) := by
  rcases h.2 with ⟨rfl, h0⟩ | ⟨g, cap, cur, rfl, hb, hg, h1, h2, h3, h4⟩
  · exact ⟨none, 0, by rw [h0], fun i hi => by omega⟩
  · refine ⟨_, cap, rfl, fun i hi => ⟨g, rfl, rfl, hb, lt_of hg, ?_⟩⟩
    have key : ∀ j, j < 3 → w.cell? ⟨g, i * 3 + j, none⟩ = l[i].cells[j]? := by
      intro j hj
      rw [cell_of hg]
      have e : (cur.toList.take (l.length * 3))[i * 3 + j]? = (flat l)[i * 3 + j]? := by rw [h4]
      rw [List.getElem?_take, if_pos (by omega)] at e
      rw [← Array.getElem?_toList, e]
      clear e h4 h3 hg h
      induction l generalizing i with
      | nil => simp at hi
      | cons p l ih =>
        rw [show flat (p :: l) = p.cells ++ flat l from by simp [flat]]
        cases i with
        | zero => rw [List.getElem?_append_left (by simp [Pk.cells]; omega)]; simp
        | succ i =>
          rw [List.getElem?_append_right (by simp [Pk.cells]; omega)]
          have := ih (by simp at h1; omega) i (by simpa using hi)
          rw [show (i + 1) * 3 + j - p.cells.length = i * 3 + j from by simp [Pk.cells]; omega, this]
          simp
    exact ⟨key 0 (by omega), key 1 (by omega), key 2 (by omega), fun o => free_of hg o⟩
end Go.Proofs.YtdkdeiofjoccnaaGreat.Pick
