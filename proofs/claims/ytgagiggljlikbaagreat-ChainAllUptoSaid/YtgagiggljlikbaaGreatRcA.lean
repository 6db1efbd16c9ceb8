/- The document's chain: numbers, its index in memory, Has, Loaded, Swapped. -/
import Derived.Test.YtgagiggljlikbaaGreatChC
import Derived.Test.YtgagiggljlikbaaGreatRaF
namespace Go.Proofs.YtgagiggljlikbaaGreat.Rc
open Go.RowKit Go.Proofs.YtgagiggljlikbaaGreat.Mem Go.Proofs.YtgagiggljlikbaaGreat.Ar Go.Proofs.YtgagiggljlikbaaGreat.En Go.Proofs.YtgagiggljlikbaaGreat.Ch
open Go.Proofs.YtgagiggljlikbaaGreat.Ra (owns_block)
set_option linter.unusedVariables false
set_option linter.unusedSimpArgs false
set_option maxRecDepth 100000

theorem rLink (n : Int) (w : World) (h0 : 0 ≤ n) (h1 : n ≤ 4352) :
    Calls Tryz.prog 139 #[.int .i64 n, .bool false] w fun e w' => e = .returned (.tuple #[.int .u64 (lk n), .int .i64 0]) ∧ w = w' := by
  go_enter Tryz.func139, Tryz.ntmps139
  go_wp2_with fail
  go_ret2
  exact ⟨rfl, rfl⟩
theorem word_ (n : Int) (w : World) (h0 : 0 ≤ n) (h1 : n ≤ 4352) :
    Calls Tryz.prog 106 #[.int .i64 n] w fun e w' => e = .returned (.int .u64 (lk n)) ∧ w = w' := by
  have C := Lib.hid (rLink n w h0 h1)
  go_enter Tryz.func106, Tryz.ntmps106
  go_wp2_with fail
  refine C.out.mono ?_
  rintro e w' ⟨rfl, rfl⟩
  go_wp2_with fail
  go_ret
  exact ⟨rfl, rfl⟩
theorem ofLink (v : Int) (w : World) (h0 : okL v) :
    Calls Tryz.prog 172 #[.int .u64 v] w fun e w' => e = .returned (.tuple #[.int .i64 (numL v), .bool (mkL v), .int .i64 0]) ∧ w = w' := by
  obtain ⟨h0, h1⟩ := h0
  have E : Hid ((v % 2 == 1) = mkL v) := Lib.hid (by unfold mkL; by_cases h : v % 2 = 1 <;> simp [h])
  go_enter Tryz.func172, Tryz.ntmps172
  go_wp2_with fail
  refine bodyPost_ret (results_tmp3 rfl _ _ _) rfl ?_
  exact ⟨by rw [← E.out]; rfl, rfl⟩
theorem number_ (v : Int) (w : World) (h0 : okL v) :
    Calls Tryz.prog 149 #[.int .u64 v] w fun e w' => e = .returned (.int .i64 (numL v)) ∧ w = w' := by
  have C := Lib.hid (ofLink v w h0)
  go_enter Tryz.func149, Tryz.ntmps149
  go_wp2_with fail
  refine C.out.mono ?_
  rintro e w' ⟨rfl, rfl⟩
  go_wp2_with fail
  go_ret
  exact ⟨rfl, rfl⟩
theorem marked_ (v : Int) (w : World) (h0 : okL v) :
    Calls Tryz.prog 150 #[.int .u64 v] w fun e w' => e = .returned (.bool (mkL v)) ∧ w = w' := by
  have C := Lib.hid (ofLink v w h0)
  go_enter Tryz.func150, Tryz.ntmps150
  go_wp2_with fail
  refine C.out.mono ?_
  rintro e w' ⟨rfl, rfl⟩
  go_wp2_with fail
  go_ret
  exact ⟨rfl, rfl⟩
theorem end_ (n : Int) (w : World) :
    Calls Tryz.prog 171 #[.int .i64 n] w fun e w' => e = .returned (.bool (beyond n)) ∧ w = w' := by
  go_enter Tryz.func171, Tryz.ntmps171
  go_wp2_with fail
  go_ret
  exact ⟨rfl, rfl⟩

/-- the document's index at xb over its arena at b -/
structure IdxR (w : World) (b xb hb hc : Nat) (X : CI) : Prop where
  hx : w.heap[xb]? = some (.cells #[.pointer (some ⟨b, 0, none⟩), .int .i64 X.cell, .slice (some ⟨hb, 0, none⟩) X.heads.length hc, .int .i64 X.count] 165 (0, 0))
  hh : w.ownsRow 0 83 1 (.slice (some ⟨hb, 0, none⟩) X.heads.length hc) X.heads.length (X.heads.map (.int .u64))
  ne : xb ≠ hb
  few : X.heads.length ≤ 256
section
variable {w w' : World} {b xb hb hc : Nat} {X : CI}
theorem IdxR.keep (h : IdxR w b xb hb hc X) {S : List Nat} (k : Keep S w w') (hS : ∀ x ∈ S, x ≠ xb ∧ x ≠ hb) : IdxR w' b xb hb hc X :=
  ⟨k.old h.hx (fun hm => (hS _ hm).1 rfl), owns_block h.hh (fun g hg => by
    simp only [Value.ownBlock, Option.some.injEq] at hg
    subst hg
    exact k.block _ (h.hh.lt _ rfl).2 (fun hm => (hS _ hm).2 rfl)), h.ne, h.few⟩
theorem IdxR.tick (h : IdxR w b xb hb hc X) : IdxR (w.setCell ⟨xb, 3, none⟩ (.int .i64 (wrap64 (X.count + 1)))) b xb hb hc X.tick := by
  refine ⟨?_, owns_block h.hh (fun g hg => ?_), h.ne, h.few⟩
  · rw [set_same h.hx]
    rfl
  · simp only [Value.ownBlock, Option.some.injEq] at hg
    subst hg
    exact set_other h.ne.symm _ _
theorem IdxR.put (h : IdxR w b xb hb hc X) (i : Nat) (v : Int) : IdxR (w.setCell ⟨hb, i, none⟩ (.int .u64 v)) b xb hb hc (X.put i v) := by
  have e : (X.put i v).heads.length = X.heads.length := by simp [CI.put]
  refine ⟨?_, ?_, h.ne, by rw [e]; exact h.few⟩
  · rw [set_other h.ne, h.hx, e]
    rfl
  · have := (h.hh.stored i (.int .u64 v)).1
    rw [← List.map_set] at this
    rw [e]
    exact this
theorem IdxR.hd (h : IdxR w b xb hb hc X) {i : Nat} (hi : i < X.heads.length) : w.cell? ⟨hb, i, none⟩ = some (.int .u64 (nth X.heads i 0)) ∧ w.frozen? ⟨hb, i, none⟩ = false := by
  refine ⟨?_, h.hh.frozenAt i⟩
  rw [h.hh.cellAt i (by omega)]
  simp [nth, List.getD_eq_getElem?_getD, hi]
theorem hasR (h : IdxR w b xb hb hc X) (i : Int) :
    Calls Tryz.prog 141 #[.pointer (some ⟨xb, 0, none⟩), .int .i64 i] w fun e w' => e = .returned (.bool (X.has i)) ∧ w = w' := by
  have c2 : w.cell? ⟨xb, 2, none⟩ = some (.slice (some ⟨hb, 0, none⟩) X.heads.length hc) := (cell_of h.hx 2).trans rfl
  have hf := h.few
  clear h
  by_cases h0 : 0 ≤ i
  · have e : X.has i = decide (i < X.heads.length) := by simp [CI.has, h0]
    rw [e]
    clear e
    go_enter Tryz.func141, Tryz.ntmps141
    go_wp2_with fail
    go_ret
    exact ⟨rfl, rfl⟩
  · have e : X.has i = false := by simp [CI.has, h0]
    rw [e]
    clear e
    go_enter Tryz.func141, Tryz.ntmps141
    go_wp2_with fail
    go_ret
    exact ⟨rfl, rfl⟩

theorem loadedR (h : IdxR w b xb hb hc X) (i : Int) (hi : X.has i = true) :
    Calls Tryz.prog 144 #[.pointer (some ⟨xb, 0, none⟩), .int .i64 i] w fun e w' => e = .returned (.int .u64 (X.head i)) ∧ IdxR w' b xb hb hc X.tick ∧ Keep [xb] w w' := by
  obtain ⟨n, rfl, hn⟩ : ∃ n : Nat, i = n ∧ n < X.heads.length := by
    simp only [CI.has, Bool.and_eq_true, decide_eq_true_eq] at hi
    exact ⟨i.toNat, by omega, by omega⟩
  have hf := h.few
  have c3 : w.cell? ⟨xb, 3, none⟩ = some (.int .i64 X.count) := (cell_of h.hx 3).trans rfl
  have z3 := free_of h.hx 3
  obtain ⟨w1, hw1⟩ : ∃ w1, w1 = w.setCell ⟨xb, 3, none⟩ (.int .i64 (wrap64 (X.count + 1))) := ⟨_, rfl⟩
  have H1 := Lib.hid h.tick
  rw [← hw1] at H1
  have K1 : Hid (Keep [xb] w w1) := Lib.hid (by rw [hw1]; exact (Keep.refl _ _).set (.inl (by simp)) _ _)
  have c2 : w1.cell? ⟨xb, 2, none⟩ = some (.slice (some ⟨hb, 0, none⟩) X.heads.length hc) := (cell_of H1.out.hx 2).trans rfl
  have e : X.head (n : Int) = nth X.heads n 0 := rfl
  rw [e]
  obtain ⟨v, hv⟩ : ∃ v, v = nth X.heads n 0 := ⟨_, rfl⟩
  have d1 : w1.cell? ⟨hb, n, none⟩ = some (.int .u64 v) := by rw [hv]; exact (H1.out.hd hn).1
  rw [← hv]
  clear h hi hv e
  go_enter Tryz.func144, Tryz.ntmps144
  go_upto_region 2 with fail
  rw [← hw1]
  clear hw1 c3 z3
  go_wp2_with fail
  go_ret
  exact ⟨rfl, H1.out, K1.out⟩
theorem swappedR (h : IdxR w b xb hb hc X) (i : Int) (hi : X.has i = true) (x y : Int) :
    Calls Tryz.prog 146 #[.pointer (some ⟨xb, 0, none⟩), .int .i64 i, .int .u64 x, .int .u64 y] w fun e w' => e = .returned (.bool (decide (X.head i = x))) ∧ IdxR w' b xb hb hc (if X.head i = x then X.tick.put i y else X.tick) ∧ Keep [xb, hb] w w' := by
  obtain ⟨n, rfl, hn⟩ : ∃ n : Nat, i = n ∧ n < X.heads.length := by
    simp only [CI.has, Bool.and_eq_true, decide_eq_true_eq] at hi
    exact ⟨i.toNat, by omega, by omega⟩
  have hf := h.few
  have c3 : w.cell? ⟨xb, 3, none⟩ = some (.int .i64 X.count) := (cell_of h.hx 3).trans rfl
  have z3 := free_of h.hx 3
  obtain ⟨w1, hw1⟩ : ∃ w1, w1 = w.setCell ⟨xb, 3, none⟩ (.int .i64 (wrap64 (X.count + 1))) := ⟨_, rfl⟩
  have H1 := Lib.hid h.tick
  rw [← hw1] at H1
  have K1 : Hid (Keep [xb, hb] w w1) := Lib.hid (by rw [hw1]; exact (Keep.refl _ _).set (.inl (by simp)) _ _)
  have c2 : w1.cell? ⟨xb, 2, none⟩ = some (.slice (some ⟨hb, 0, none⟩) X.heads.length hc) := (cell_of H1.out.hx 2).trans rfl
  have e : X.head (n : Int) = nth X.heads n 0 := rfl
  rw [e]
  obtain ⟨v, hv⟩ : ∃ v, v = nth X.heads n 0 := ⟨_, rfl⟩
  have d1 : w1.cell? ⟨hb, n, none⟩ = some (.int .u64 v) := by rw [hv]; exact (H1.out.hd hn).1
  have z1 := (H1.out.hd hn).2
  rw [← hv]
  clear h hi hv e
  by_cases hx : v = x
  · subst hx
    rw [if_pos rfl, decide_eq_true rfl]
    go_enter Tryz.func146, Tryz.ntmps146
    go_upto_region 2 with fail
    rw [← hw1]
    clear hw1 c3 z3
    go_wp2_with fail
    go_ret
    exact ⟨rfl, H1.out.put n y, K1.out.set (.inl (by simp)) _ _⟩
  · rw [if_neg hx, decide_eq_false hx]
    have hx' : (v == x) = false := by simpa using hx
    go_enter Tryz.func146, Tryz.ntmps146
    go_upto_region 2 with fail
    rw [← hw1]
    clear hw1 c3 z3
    go_wp2_with fail
    go_ret
    exact ⟨rfl, H1.out, K1.out⟩
end
end Go.Proofs.YtgagiggljlikbaaGreat.Rc
