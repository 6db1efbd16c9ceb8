/- The arena: what it is (plain Lean), and how it lies in memory. -/
import Derived.Test.YtgagiggljlikbaaGreatHeap
namespace Go.Proofs.YtgagiggljlikbaaGreat.Ar
open Go.RowKit Go.Proofs.YtgagiggljlikbaaGreat.Mem

/-- the element at a place (a name that no simp lays open) -/
def nth {α : Type} (l : List α) (i : Nat) (d : α) : α := l.getD i d

/-- An arena of payloads of the type α. -/
structure Arena (α : Type) where
  slots : Nat
  width : Nat
  words : List Int
  used : List Bool
  acc : Int
  miss : Int
  queue : List Nat
  front : Nat
  free : Nat
  items : List α
  turns : List Int

/-- Where it lies. -/
structure Bk where
  b : Nat
  bw : Nat
  bu : Nat
  bq : Nat
  bi : Nat
  bt : Nat

def Bk.blocks (L : Bk) : List Nat := [L.b, L.bw, L.bu, L.bq, L.bi, L.bt]

/-- How a payload lies in memory: so many cells, and which. -/
class Lies (α : Type) where
  n : Nat
  cells : α → List Value
  size : ∀ x, (cells x).length = n
  zero : α

structure Fits {α : Type} (A : Arena α) : Prop where
  s1 : 1 ≤ A.slots
  s2 : A.slots ≤ 4096
  w1 : 1 ≤ A.width
  w2 : A.width ≤ 16
  words : A.words.length = A.slots * A.width
  used : A.used.length = A.slots + 1
  queue : A.queue.length = A.slots
  items : A.items.length = A.slots + 1
  turns : A.turns.length = A.slots + 1
  front : A.front < A.slots
  free : A.free ≤ A.slots
  queued : ∀ x ∈ A.queue, 1 ≤ x ∧ x ≤ A.slots

def head {α : Type} (A : Arena α) (L : Bk) (mu : Int) : Array Value :=
  #[.int .i64 A.slots, .int .i64 A.width, .slice (some ⟨L.bw, 0, none⟩) (A.slots * A.width) (A.slots * A.width), .slice (some ⟨L.bu, 0, none⟩) (A.slots + 1) (A.slots + 1), .int .i64 A.acc, .int .i64 A.miss, .int .i32 mu, .int .u32 0,
    .slice (some ⟨L.bq, 0, none⟩) A.slots A.slots, .int .i64 A.front, .int .i64 A.free, .slice (some ⟨L.bi, 0, none⟩) (A.slots + 1) (A.slots + 1), .slice (some ⟨L.bt, 0, none⟩) (A.slots + 1) (A.slots + 1)]

def bit (b : Bool) : Int := if b then 1 else 0

/-- The arena A lies at L (mu: the lock's word). tA, tW, tU, tI, tE: the types' numbers of the arena, a word, a flag, an int, a payload. -/
structure At {α : Type} [Lies α] (tA tW tU tI tE : Nat) (mu : Int) (w : World) (L : Bk) (A : Arena α) : Prop where
  fits : Fits A
  apart : L.blocks.Nodup
  hb : w.heap[L.b]? = some (.cells (head A L mu) tA (0, 0))
  hw : w.heap[L.bw]? = some (.cells (A.words.map (.int .u64)).toArray tW (0, 0))
  hu : w.heap[L.bu]? = some (.cells (A.used.map fun x => .int .u32 (bit x)).toArray tU (0, 0))
  hq : w.heap[L.bq]? = some (.cells (A.queue.map fun x => .int .i64 x).toArray tI (0, 0))
  hi : w.heap[L.bi]? = some (.cells (A.items.flatMap Lies.cells).toArray tE (0, 0))
  ht : w.heap[L.bt]? = some (.cells (A.turns.map (.int .i64)).toArray tI (0, 0))

section
variable {α : Type} {A : Arena α}
theorem Fits.words_set (h : Fits A) (i : Nat) (x : Int) : Fits { A with words := A.words.set i x } := { h with words := by simpa using h.words }
theorem Fits.used_set (h : Fits A) (i : Nat) (x : Bool) : Fits { A with used := A.used.set i x } := { h with used := by simpa using h.used }
theorem Fits.turns_set (h : Fits A) (i : Nat) (x : Int) : Fits { A with turns := A.turns.set i x } := { h with turns := by simpa using h.turns }
theorem Fits.items_set (h : Fits A) (i : Nat) (x : α) : Fits { A with items := A.items.set i x } := { h with items := by simpa using h.items }
theorem Fits.queue_set (h : Fits A) (i : Nat) {x : Nat} (h1 : 1 ≤ x) (h2 : x ≤ A.slots) : Fits { A with queue := A.queue.set i x } := by
  have hq : ∀ y ∈ A.queue.set i x, 1 ≤ y ∧ y ≤ A.slots := by
    intro y hy
    rcases List.mem_or_eq_of_mem_set hy with hy | rfl
    · exact h.queued y hy
    · exact ⟨h1, h2⟩
  exact { h with queue := by simpa using h.queue, queued := hq }
end

section
variable {α : Type} [Lies α] {tA tW tU tI tE : Nat} {mu mu' : Int} {w w' : World} {L : Bk} {A A' : Arena α}

theorem At.ne (h : At tA tW tU tI tE mu w L A) : L.b ≠ L.bw ∧ L.b ≠ L.bu ∧ L.b ≠ L.bq ∧ L.b ≠ L.bi ∧ L.b ≠ L.bt ∧ L.bw ≠ L.bu ∧ L.bw ≠ L.bq ∧ L.bw ≠ L.bi ∧ L.bw ≠ L.bt ∧ L.bu ≠ L.bq ∧ L.bu ≠ L.bi ∧ L.bu ≠ L.bt ∧ L.bq ≠ L.bi ∧ L.bq ≠ L.bt ∧ L.bi ≠ L.bt := by
  have := h.apart
  simp only [Bk.blocks, List.nodup_cons, List.mem_cons, List.not_mem_nil, or_false, not_or, List.nodup_nil, not_false_eq_true, and_true] at this
  obtain ⟨⟨a1, a2, a3, a4, a5⟩, ⟨b1, b2, b3, b4⟩, ⟨c1, c2, c3⟩, ⟨d1, d2⟩, e1⟩ := this
  exact ⟨a1, a2, a3, a4, a5, b1, b2, b3, b4, c1, c2, c3, d1, d2, e1⟩

/-- What leaves the arena's blocks alone leaves the arena alone. -/
theorem At.keep (h : At tA tW tU tI tE mu w L A) {S : List Nat} (k : Keep S w w') (hS : ∀ x ∈ S, x ∉ L.blocks) : At tA tW tU tI tE mu w' L A := by
  have hn : ∀ x, x ∈ L.blocks → x ∉ S := fun x hx hs => hS x hs hx
  exact ⟨h.fits, h.apart, k.old h.hb (hn _ (by simp [Bk.blocks])), k.old h.hw (hn _ (by simp [Bk.blocks])), k.old h.hu (hn _ (by simp [Bk.blocks])), k.old h.hq (hn _ (by simp [Bk.blocks])), k.old h.hi (hn _ (by simp [Bk.blocks])), k.old h.ht (hn _ (by simp [Bk.blocks]))⟩
theorem At.heap (h : At tA tW tU tI tE mu w L A) (e : w'.heap = w.heap) : At tA tW tU tI tE mu w' L A := by
  obtain ⟨a, b, c, d, f, g, i, j⟩ := h
  exact ⟨a, b, e ▸ c, e ▸ d, e ▸ f, e ▸ g, e ▸ i, e ▸ j⟩
theorem At.drew (h : At tA tW tU tI tE mu w L A) : At tA tW tU tI tE mu w.drew L A := h.heap rfl
theorem At.drewN (h : At tA tW tU tI tE mu w L A) (n : Nat) : At tA tW tU tI tE mu (w.drewN n) L A := h.heap rfl

theorem At.setHead (h : At tA tW tU tI tE mu w L A) (A' : Arena α) (mu' : Int) {o : Nat} {v : Value} (hh : (head A L mu).setIfInBounds o v = head A' L mu') (hf : Fits A')
    (e1 : A'.words = A.words) (e2 : A'.used = A.used) (e3 : A'.queue = A.queue) (e4 : A'.items = A.items) (e5 : A'.turns = A.turns) : At tA tW tU tI tE mu' (w.setCell ⟨L.b, o, none⟩ v) L A' := by
  obtain ⟨n1, n2, n3, n4, n5, _⟩ := h.ne
  exact ⟨hf, h.apart, by rw [set_same h.hb, hh], by rw [set_other n1.symm, h.hw, e1], by rw [set_other n2.symm, h.hu, e2], by rw [set_other n3.symm, h.hq, e3], by rw [set_other n4.symm, h.hi, e4], by rw [set_other n5.symm, h.ht, e5]⟩

theorem At.setLock (h : At tA tW tU tI tE mu w L A) (mu' : Int) : At tA tW tU tI tE mu' (w.setCell ⟨L.b, 6, none⟩ (.int .i32 mu')) L A := h.setHead A mu' rfl h.fits rfl rfl rfl rfl rfl
theorem At.setAcc (h : At tA tW tU tI tE mu w L A) (x : Int) : At tA tW tU tI tE mu (w.setCell ⟨L.b, 4, none⟩ (.int .i64 x)) L { A with acc := x } := h.setHead _ mu rfl { h.fits with } rfl rfl rfl rfl rfl
theorem At.setMiss (h : At tA tW tU tI tE mu w L A) (x : Int) : At tA tW tU tI tE mu (w.setCell ⟨L.b, 5, none⟩ (.int .i64 x)) L { A with miss := x } := h.setHead _ mu rfl { h.fits with } rfl rfl rfl rfl rfl
theorem At.setFront (h : At tA tW tU tI tE mu w L A) {x : Nat} (hx : x < A.slots) : At tA tW tU tI tE mu (w.setCell ⟨L.b, 9, none⟩ (.int .i64 x)) L { A with front := x } := h.setHead _ mu rfl { h.fits with front := hx } rfl rfl rfl rfl rfl
theorem At.setFree (h : At tA tW tU tI tE mu w L A) {x : Nat} (hx : x ≤ A.slots) : At tA tW tU tI tE mu (w.setCell ⟨L.b, 10, none⟩ (.int .i64 x)) L { A with free := x } := h.setHead _ mu rfl { h.fits with free := hx } rfl rfl rfl rfl rfl
theorem At.setWord (h : At tA tW tU tI tE mu w L A) (i : Nat) (x : Int) : At tA tW tU tI tE mu (w.setCell ⟨L.bw, i, none⟩ (.int .u64 x)) L { A with words := A.words.set i x } := by
  obtain ⟨n1, n2, n3, n4, n5, m2, m3, m4, m5, _⟩ := h.ne
  exact ⟨h.fits.words_set i x, h.apart, (set_other n1 _ _).trans h.hb, list_set h.hw i x, (set_other m2.symm _ _).trans h.hu, (set_other m3.symm _ _).trans h.hq, (set_other m4.symm _ _).trans h.hi, (set_other m5.symm _ _).trans h.ht⟩
theorem At.setUsed (h : At tA tW tU tI tE mu w L A) (i : Nat) (x : Bool) : At tA tW tU tI tE mu (w.setCell ⟨L.bu, i, none⟩ (.int .u32 (bit x))) L { A with used := A.used.set i x } := by
  obtain ⟨n1, n2, n3, n4, n5, m2, m3, m4, m5, k3, k4, k5, _⟩ := h.ne
  exact ⟨h.fits.used_set i x, h.apart, (set_other n2 _ _).trans h.hb, (set_other m2 _ _).trans h.hw, list_set (g := fun x => .int .u32 (bit x)) h.hu i x, (set_other k3.symm _ _).trans h.hq, (set_other k4.symm _ _).trans h.hi, (set_other k5.symm _ _).trans h.ht⟩
theorem At.setQueue (h : At tA tW tU tI tE mu w L A) (i : Nat) {x : Nat} (h1 : 1 ≤ x) (h2 : x ≤ A.slots) : At tA tW tU tI tE mu (w.setCell ⟨L.bq, i, none⟩ (.int .i64 x)) L { A with queue := A.queue.set i x } := by
  obtain ⟨n1, n2, n3, n4, n5, m2, m3, m4, m5, k3, k4, k5, j4, j5, _⟩ := h.ne
  exact ⟨h.fits.queue_set i h1 h2, h.apart, (set_other n3 _ _).trans h.hb, (set_other m3 _ _).trans h.hw, (set_other k3 _ _).trans h.hu, list_set (g := fun x : Nat => .int .i64 x) h.hq i x, (set_other j4.symm _ _).trans h.hi, (set_other j5.symm _ _).trans h.ht⟩
theorem At.setTurn (h : At tA tW tU tI tE mu w L A) (i : Nat) (x : Int) : At tA tW tU tI tE mu (w.setCell ⟨L.bt, i, none⟩ (.int .i64 x)) L { A with turns := A.turns.set i x } := by
  obtain ⟨n1, n2, n3, n4, n5, m2, m3, m4, m5, k3, k4, k5, j4, j5, l5⟩ := h.ne
  exact ⟨h.fits.turns_set i x, h.apart, (set_other n5 _ _).trans h.hb, (set_other m5 _ _).trans h.hw, (set_other k5 _ _).trans h.hu, (set_other j5 _ _).trans h.hq, (set_other l5 _ _).trans h.hi, list_set h.ht i x⟩
/-- the payloads' block as a whole -/
theorem At.setItems (h : At tA tW tU tI tE mu w L A) {l : List α} (hl : l.length = A.slots + 1) (k : Keep [L.bi] w w') (hi : w'.heap[L.bi]? = some (.cells (l.flatMap Lies.cells).toArray tE (0, 0))) : At tA tW tU tI tE mu w' L { A with items := l } := by
  obtain ⟨n1, n2, n3, n4, n5, m2, m3, m4, m5, k3, k4, k5, j4, j5, l5⟩ := h.ne
  exact ⟨{ h.fits with items := hl }, h.apart, k.old h.hb (by simpa using n4), k.old h.hw (by simpa using m4), k.old h.hu (by simpa using k4), k.old h.hq (by simpa using j4), hi, k.old h.ht (by simpa using l5.symm)⟩
end
end Go.Proofs.YtgagiggljlikbaaGreat.Ar
