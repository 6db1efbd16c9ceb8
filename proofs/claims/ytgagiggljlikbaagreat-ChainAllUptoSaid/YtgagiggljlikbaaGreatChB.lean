/- The chain's index in memory, and what its small methods make of it: the arena's Load, Store, CAS in one word each; has, first, Buckets, Accesses, link, apart, beyond, last. -/
import Derived.Test.YtgagiggljlikbaaGreatCeSix
import Derived.Test.YtgagiggljlikbaaGreatCeInv
import Derived.Test.YtgagiggljlikbaaGreatChA
import Derived.Deep.Cut
namespace Go.Proofs.YtgagiggljlikbaaGreat.Ch
open Go.RowKit Go.Proofs.YtgagiggljlikbaaGreat.Mem Go.Proofs.YtgagiggljlikbaaGreat.Ar Go.Proofs.YtgagiggljlikbaaGreat.En
set_option linter.unusedVariables false
set_option linter.unusedSimpArgs false
set_option maxRecDepth 100000

section
variable {w w' : World} {mu : Int} {L : Bk} {A : Ars}
theorem err_no {slot : Int} (c : Nat) (hin : inUseB A slot = false) : cellErr A slot c = 22 := by simp [cellErr, hin]
theorem held_no {slot : Int} (hin : inUseB A slot = false) : held A slot = missed A := by simp [held, hin, missed]
theorem ldP (h : En.At mu w L A) (slot : Int) (c : Nat) (hc : c < A.width) :
    Calls Tryz.prog 44 #[.pointer (some ⟨L.b, 0, none⟩), .int .i64 slot, .int .i64 c] w fun e w' => e = .returned (.tuple #[.int .u64 (ldA A slot c).2.1, .int .i64 (ldA A slot c).2.2]) ∧ En.At mu w' L (ldA A slot c).1 ∧ Keep L.blocks w w' := by
  cases hin : inUseB A slot with
  | true =>
    have e : ldA A slot c = (counted A, wordA A slot c, 0) := by simp [ldA, hin]
    rw [e]
    exact load_ok h slot c hin (by omega) (by omega)
  | false =>
    have e : ldA A slot c = (missed A, 0, 22) := by simp [ldA, hin]
    rw [e]
    have := load_err h slot c (by rw [err_no c hin]; omega)
    rw [err_no c hin, held_no hin] at this
    exact this
theorem stP (h : En.At mu w L A) (slot : Int) (c : Nat) (hc : c < A.width) (v : Int) :
    Calls Tryz.prog 165 #[.pointer (some ⟨L.b, 0, none⟩), .int .i64 slot, .int .i64 c, .int .u64 v] w fun e w' => e = .returned (.int .i64 (stA A slot c v).2) ∧ En.At mu w' L (stA A slot c v).1 ∧ Keep L.blocks w w' := by
  cases hin : inUseB A slot with
  | true =>
    have e : stA A slot c v = (putA A slot c v, 0) := by simp [stA, hin]
    rw [e]
    exact store_ok h slot c v hin (by omega) (by omega)
  | false =>
    have e : stA A slot c v = (missed A, 22) := by simp [stA, hin]
    rw [e]
    have := store_err h slot c v (by rw [err_no c hin]; omega)
    rw [err_no c hin, held_no hin] at this
    exact this
theorem casP (h : En.At mu w L A) (slot : Int) (c : Nat) (hc : c < A.width) (x y : Int) :
    Calls Tryz.prog 168 #[.pointer (some ⟨L.b, 0, none⟩), .int .i64 slot, .int .i64 c, .int .u64 x, .int .u64 y] w fun e w' => e = .returned (.tuple #[.bool (casA A slot c x y).2.1, .int .i64 (casA A slot c x y).2.2]) ∧ En.At mu w' L (casA A slot c x y).1 ∧ Keep L.blocks w w' := by
  cases hin : inUseB A slot with
  | true =>
    by_cases hx : wordA A slot c = x
    · have e : casA A slot c x y = (putA A slot c y, true, 0) := by simp [casA, hin, hx]
      rw [e]
      exact cas_hit h slot c x y hin (by omega) (by omega) hx
    · have e : casA A slot c x y = (counted A, false, 0) := by simp [casA, hin, hx]
      rw [e]
      exact cas_miss h slot c x y hin (by omega) (by omega) hx
  | false =>
    have e : casA A slot c x y = (missed A, false, 22) := by simp [casA, hin]
    rw [e]
    have := cas_err h slot c x y (by rw [err_no c hin]; omega)
    rw [err_no c hin, held_no hin] at this
    exact this
end

/-- an index at xb over the arena at L, its heads at hb -/
structure IdxP (w : World) (L : Bk) (xb hb : Nat) (X : CI) : Prop where
  hx : w.heap[xb]? = some (.cells #[.pointer (some ⟨L.b, 0, none⟩), .int .i64 X.cell, .slice (some ⟨hb, 0, none⟩) X.heads.length X.heads.length, .int .i64 X.count] 92 (0, 0))
  hh : w.heap[hb]? = some (.cells (X.heads.map (.int .u64)).toArray 119 (0, 0))
  ne : xb ≠ hb
  few : X.heads.length ≤ 256
section
variable {w w' : World} {L : Bk} {xb hb : Nat} {X : CI}
theorem IdxP.keep (h : IdxP w L xb hb X) {S : List Nat} (k : Keep S w w') (hS : ∀ x ∈ S, x ≠ xb ∧ x ≠ hb) : IdxP w' L xb hb X :=
  ⟨k.old h.hx (fun hm => (hS _ hm).1 rfl), k.old h.hh (fun hm => (hS _ hm).2 rfl), h.ne, h.few⟩
theorem IdxP.tick (h : IdxP w L xb hb X) : IdxP (w.setCell ⟨xb, 3, none⟩ (.int .i64 (wrap64 (X.count + 1)))) L xb hb X.tick := by
  refine ⟨?_, (set_other h.ne.symm _ _).trans h.hh, h.ne, h.few⟩
  rw [set_same h.hx]
  rfl
theorem IdxP.put (h : IdxP w L xb hb X) (b : Nat) (v : Int) : IdxP (w.setCell ⟨hb, b, none⟩ (.int .u64 v)) L xb hb (X.put b v) := by
  refine ⟨?_, ?_, h.ne, by simpa [CI.put] using h.few⟩
  · rw [set_other h.ne, h.hx]
    simp [CI.put]
  · exact list_set (g := fun x => .int .u64 x) h.hh b v
theorem IdxP.hd (h : IdxP w L xb hb X) {b : Nat} (hb' : b < X.heads.length) : w.cell? ⟨hb, b, none⟩ = some (.int .u64 (nth X.heads b 0)) ∧ w.frozen? ⟨hb, b, none⟩ = false := by
  refine ⟨?_, free_of h.hh b⟩
  rw [list_cell h.hh hb']
  simp [nth, List.getD_eq_getElem?_getD, hb']

theorem has (h : IdxP w L xb hb X) (b : Int) :
    Calls Tryz.prog 40 #[.pointer (some ⟨xb, 0, none⟩), .int .i64 b] w fun e w' => e = .returned (.bool (X.has b)) ∧ w = w' := by
  have c2 : w.cell? ⟨xb, 2, none⟩ = some (.slice (some ⟨hb, 0, none⟩) X.heads.length X.heads.length) := (cell_of h.hx 2).trans rfl
  have hf := h.few
  clear h
  by_cases h0 : 0 ≤ b
  · have e : X.has b = decide (b < X.heads.length) := by simp [CI.has, h0]
    rw [e]
    clear e
    go_enter Tryz.func40, Tryz.ntmps40
    go_wp2_with fail
    go_ret
    exact ⟨rfl, rfl⟩
  · have e : X.has b = false := by simp [CI.has, h0]
    rw [e]
    clear e
    go_enter Tryz.func40, Tryz.ntmps40
    go_wp2_with fail
    go_ret
    exact ⟨rfl, rfl⟩

theorem first (h : IdxP w L xb hb X) (b : Int) (hb' : X.has b = true) :
    Calls Tryz.prog 75 #[.pointer (some ⟨xb, 0, none⟩), .int .i64 b] w fun e w' => e = .returned (.int .u64 (X.head b)) ∧ IdxP w' L xb hb X.tick ∧ Keep [xb] w w' := by
  obtain ⟨n, rfl, hn⟩ : ∃ n : Nat, b = n ∧ n < X.heads.length := by
    simp only [CI.has, Bool.and_eq_true, decide_eq_true_eq] at hb'
    exact ⟨b.toNat, by omega, by omega⟩
  have hf := h.few
  have c3 : w.cell? ⟨xb, 3, none⟩ = some (.int .i64 X.count) := (cell_of h.hx 3).trans rfl
  have z3 := free_of h.hx 3
  obtain ⟨w1, hw1⟩ : ∃ w1, w1 = w.setCell ⟨xb, 3, none⟩ (.int .i64 (wrap64 (X.count + 1))) := ⟨_, rfl⟩
  have H1 := Lib.hid h.tick
  rw [← hw1] at H1
  have K1 : Hid (Keep [xb] w w1) := Lib.hid (by rw [hw1]; exact (Keep.refl _ _).set (.inl (by simp)) _ _)
  have W1 := Lib.hid hw1
  have c2 : w1.cell? ⟨xb, 2, none⟩ = some (.slice (some ⟨hb, 0, none⟩) X.heads.length X.heads.length) := (cell_of H1.out.hx 2).trans rfl
  have e : X.head (n : Int) = nth X.heads n 0 := rfl
  rw [e]
  obtain ⟨v, hv⟩ : ∃ v, v = nth X.heads n 0 := ⟨_, rfl⟩
  have d1 : w1.cell? ⟨hb, n, none⟩ = some (.int .u64 v) := by rw [hv]; exact (H1.out.hd hn).1
  rw [← hv]
  clear h hb' hw1 hv e
  go_enter Tryz.func75, Tryz.ntmps75
  go_wp2_with fail
  refine (Atom.add64 xb 3 X.count 1 _ c3 z3).mono ?_
  rintro e w' ⟨rfl, hw'⟩
  obtain rfl : w' = w1 := hw'.trans W1.out.symm
  clear hw' c3 z3
  go_wp2_with fail
  refine (Atom.load64 hb n v _ d1).mono ?_
  rintro e w2 ⟨rfl, rfl⟩
  go_wp2_with fail
  go_ret
  exact ⟨rfl, H1.out, K1.out⟩
end
end Go.Proofs.YtgagiggljlikbaaGreat.Ch
