/- The chain's numbers: link, apart, beyond, last; a head's swap. -/
import Derived.Test.YtgagiggljlikbaaGreatChB
import Derived.Laws.Shifts
import Derived.Laws.Bits
import Derived.WalkSmall
namespace Go.Proofs.YtgagiggljlikbaaGreat.Ch
open Go.RowKit Go.Proofs.YtgagiggljlikbaaGreat.Mem Go.Proofs.YtgagiggljlikbaaGreat.Ar Go.Proofs.YtgagiggljlikbaaGreat.En
set_option linter.unusedVariables false
set_option linter.unusedSimpArgs false
set_option maxRecDepth 100000

theorem beyond_ (n : Int) (w : World) :
    Calls Tryz.prog 46 #[.int .i64 n] w fun e w' => e = .returned (.bool (beyond n)) ∧ w = w' := by
  go_enter Tryz.func46, Tryz.ntmps46
  go_wp2_with fail
  go_ret
  exact ⟨rfl, rfl⟩
theorem last_ (b : Int) (w : World) (h0 : 0 ≤ b) (h1 : b ≤ 1000000) :
    Calls Tryz.prog 47 #[.int .i64 b] w fun e w' => e = .returned (.int .i64 (last b)) ∧ w = w' := by
  go_enter Tryz.func47, Tryz.ntmps47
  go_wp2_with fail
  go_ret
  exact ⟨rfl, rfl⟩
theorem apart_ (v : Int) (w : World) (h0 : okL v) :
    Calls Tryz.prog 45 #[.int .u64 v] w fun e w' => e = .returned (.tuple #[.int .i64 (numL v), .bool (mkL v)]) ∧ w = w' := by
  obtain ⟨h0, h1⟩ := h0
  have e : (bits BinOp.and IntKind.u64 v 1 != 0) = mkL v := by
    rw [and_one_u64 v h0 (by omega)]
    unfold mkL
    by_cases h : v % 2 = 1
    · simp [h]
    · have : v % 2 = 0 := by omega
      simp [this]
  have E := Lib.hid e
  clear e
  go_enter Tryz.func45, Tryz.ntmps45
  go_wp2_with fail
  go_ret2
  exact ⟨by rw [← E.out]; rfl, rfl⟩
theorem bLink (n : Int) (w : World) (h0 : 0 ≤ n) (h1 : n ≤ 4352) :
    Calls Tryz.prog 91 #[.int .i64 n, .bool false] w fun e w' => e = .returned (.tuple #[.int .u64 (lk n), .int .i64 0]) ∧ w = w' := by
  go_enter Tryz.func91, Tryz.ntmps91
  go_wp2_with fail
  go_ret2
  exact ⟨by unfold lk; rw [Int.mul_comm]; rfl, rfl⟩
theorem link_ (n : Int) (w : World) (h0 : 0 ≤ n) (h1 : n ≤ 4352) :
    Calls Tryz.prog 54 #[.int .i64 n] w fun e w' => e = .returned (.int .u64 (lk n)) ∧ w = w' := by
  have C := Lib.hid (bLink n w h0 h1)
  go_enter Tryz.func54, Tryz.ntmps54
  go_wp2_with fail
  refine C.out.mono ?_
  rintro e w' ⟨rfl, rfl⟩
  go_wp2_with fail
  go_ret
  exact ⟨rfl, rfl⟩

section
variable {w w' : World} {mu : Int} {L : Bk} {A : Ars} {xb hb : Nat} {X : CI}
/-- a head's swap -/
theorem swapH (h : IdxP w L xb hb X) (b : Int) (hb' : X.has b = true) (x y : Int) :
    Calls Tryz.prog 173 #[.pointer (some ⟨xb, 0, none⟩), .int .i64 b, .int .i64 0, .int .u64 x, .int .u64 y] w fun e w' => e = .returned (.tuple #[.bool (decide (X.head b = x)), .int .i64 0]) ∧ IdxP w' L xb hb (if X.head b = x then X.tick.put b y else X.tick) ∧ Keep [xb, hb] w w' := by
  obtain ⟨n, rfl, hn⟩ : ∃ n : Nat, b = n ∧ n < X.heads.length := by
    simp only [CI.has, Bool.and_eq_true, decide_eq_true_eq] at hb'
    exact ⟨b.toNat, by omega, by omega⟩
  have hf := h.few
  have c3 : w.cell? ⟨xb, 3, none⟩ = some (.int .i64 X.count) := (cell_of h.hx 3).trans rfl
  have z3 := free_of h.hx 3
  obtain ⟨w1, hw1⟩ : ∃ w1, w1 = w.setCell ⟨xb, 3, none⟩ (.int .i64 (wrap64 (X.count + 1))) := ⟨_, rfl⟩
  have H1 := Lib.hid h.tick
  rw [← hw1] at H1
  have K1 : Hid (Keep [xb, hb] w w1) := Lib.hid (by rw [hw1]; exact (Keep.refl _ _).set (.inl (by simp)) _ _)
  have W1 := Lib.hid hw1
  have c2 : w1.cell? ⟨xb, 2, none⟩ = some (.slice (some ⟨hb, 0, none⟩) X.heads.length X.heads.length) := (cell_of H1.out.hx 2).trans rfl
  have e : X.head (n : Int) = nth X.heads n 0 := rfl
  rw [e]
  obtain ⟨v, hv⟩ : ∃ v, v = nth X.heads n 0 := ⟨_, rfl⟩
  have d1 : w1.cell? ⟨hb, n, none⟩ = some (.int .u64 v) := by rw [hv]; exact (H1.out.hd hn).1
  have z1 := (H1.out.hd hn).2
  rw [← hv]
  clear h hb' hw1 hv e
  by_cases hx : v = x
  · subst hx
    rw [if_pos rfl, decide_eq_true rfl]
    go_enter Tryz.func173, Tryz.ntmps173
    go_wp2_with fail
    refine (Atom.add64 xb 3 X.count 1 _ c3 z3).mono ?_
    rintro e w' ⟨rfl, hw'⟩
    obtain rfl : w' = w1 := hw'.trans W1.out.symm
    clear hw' c3 z3
    go_wp2_with fail
    refine (Atom.casHit hb n v y _ d1 z1).mono ?_
    rintro e w2 ⟨rfl, rfl⟩
    go_wp2_with fail
    go_ret2
    exact ⟨rfl, H1.out.put n y, K1.out.set (.inl (by simp)) _ _⟩
  · rw [if_neg hx, decide_eq_false hx]
    go_enter Tryz.func173, Tryz.ntmps173
    go_wp2_with fail
    refine (Atom.add64 xb 3 X.count 1 _ c3 z3).mono ?_
    rintro e w' ⟨rfl, hw'⟩
    obtain rfl : w' = w1 := hw'.trans W1.out.symm
    clear hw' c3 z3
    go_wp2_with fail
    refine (Atom.casMiss hb n v x y _ d1 z1 hx).mono ?_
    rintro e w2 ⟨rfl, rfl⟩
    go_wp2_with fail
    go_ret2
    exact ⟨rfl, H1.out, K1.out⟩
end
end Go.Proofs.YtgagiggljlikbaaGreat.Ch
