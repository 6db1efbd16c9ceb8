/- A litmus program that came in: how an argument of the type api.Litmus is read. -/
import Derived.Test.YtdkdeiofjoccnaaGreatRows
import Derived.Test.YtdkdeiofjoccnaaGreatRefSim
import Derived.ProofKit
import Derived.OpenShut
import Derived.ShutString
import Derived.ChangeOld
import Derived.Below
import Derived.JoinedCond
import Derived.Deep.Slices
import Derived.Deep.Strs
import Derived.Lib.SmallJoins
namespace Go.Proofs.YtdkdeiofjoccnaaGreat.Lit
open Go.RowKit Go.Proofs.YtdkdeiofjoccnaaGreat.Mem Go.ChangeShapes Go.WideShapes Go.ChangeAt
open Go.Deep Go.Joins
open Go.Proofs.YtdkdeiofjoccnaaGreat.Ref (wIn okIns)
set_option linter.unusedVariables false

section
variable {H : Type} {enc0 : TypeId × Value → H} {W : World} {base : Nat} {spare : Nat → Bool} {held : Bool}

theorem lc_int : Tryz.prog.cellsOf 3 = 1 := by kernel_rfl
theorem lc_u64 : Tryz.prog.cellsOf 75 = 1 := by kernel_rfl
theorem lc_val : Tryz.prog.cellsOf 138 = 2 := by kernel_rfl
theorem lc_ins : Tryz.prog.cellsOf 140 = 8 := by kernel_rfl
theorem lc_prog : Tryz.prog.cellsOf 93 = 1 := by kernel_rfl
theorem lc_lit : Tryz.prog.cellsOf 25 = 2 := by kernel_rfl

theorem wf_u64 {z : Int} (h : (Lit.int .u64 z).wf = true) : wIn z := by
  have h : IntKind.u64.min ≤ z ∧ z ≤ IntKind.u64.max := by simpa [Lit.wf] using h
  have e1 : IntKind.u64.min = 0 := by decide
  have e2 : IntKind.u64.max = 18446744073709551615 := by decide
  unfold wIn
  omega

theorem bulk_len : ∀ l : List (DataW H), l.length ≤ Rows.uptoBulkAll l
  | [] => Nat.zero_le _
  | d :: r => by
    have h1 := bulk_len r
    have h2 : 1 ≤ Rows.uptoBulk d := by
      cases d with
      | lit x => cases x <;> simp [Rows.uptoBulk]
      | _ => simp [Rows.uptoBulk]
    simp only [Rows.uptoBulkAll, List.length_cons]
    omega
theorem bulk_mem : ∀ {l : List (DataW H)} {d : DataW H}, d ∈ l → Rows.uptoBulk d ≤ Rows.uptoBulkAll l
  | e :: r, d, h => by
    simp only [Rows.uptoBulkAll]
    rcases List.mem_cons.1 h with rfl | h
    · omega
    · have := bulk_mem h
      omega

theorem trod_struct6 {P : Program} {t : TypeId} {f0 f1 f2 f3 f4 f5 : Field} {fuel : Nat} {cs : List Value} {x : DataW H × List MemPlace} (ht : P.underlying t = some (.struct #[f0, f1, f2, f3, f4, f5])) (h : DataW.trod enc0 P W base spare held fuel t cs = some x) :
    ∃ y0 y1 y2 y3 y4 y5 n, cs.length = P.cellsOf t ∧ DataW.trod enc0 P W base spare held n f0.type ((cs.drop f0.offset).take (P.cellsOf f0.type)) = some y0 ∧
      DataW.trod enc0 P W base spare held n f1.type ((cs.drop f1.offset).take (P.cellsOf f1.type)) = some y1 ∧ DataW.trod enc0 P W base spare held n f2.type ((cs.drop f2.offset).take (P.cellsOf f2.type)) = some y2 ∧
      DataW.trod enc0 P W base spare held n f3.type ((cs.drop f3.offset).take (P.cellsOf f3.type)) = some y3 ∧ DataW.trod enc0 P W base spare held n f4.type ((cs.drop f4.offset).take (P.cellsOf f4.type)) = some y4 ∧
      DataW.trod enc0 P W base spare held n f5.type ((cs.drop f5.offset).take (P.cellsOf f5.type)) = some y5 := by
  obtain ⟨xs, n, _, rfl, hl, hlen, hf⟩ := DataW.trod_struct ht h
  match xs, hlen with
  | [y0, y1, y2, y3, y4, y5], _ => exact ⟨y0, y1, y2, y3, y4, y5, n, hl, by simpa using hf 0 f0 rfl, by simpa using hf 1 f1 rfl, by simpa using hf 2 f2 rfl, by simpa using hf 3 f3 rfl, by simpa using hf 4 f4 rfl, by simpa using hf 5 f5 rfl⟩

theorem add_plain (b off j : Nat) : (⟨b, off, none⟩ : Addr).add j = ⟨b, off + j, none⟩ := by unfold Addr.add; split <;> simp_all

set_option maxRecDepth 100000 in
theorem val_came {n : Nat} {c0 c1 : Value} {x : DataW H × List MemPlace} (h : DataW.trod enc0 Tryz.prog W base spare held n 138 [c0, c1] = some x) : ∃ r i, c0 = .int .i64 r ∧ c1 = .int .u64 i ∧ wIn i := by
  obtain ⟨y0, y1, m, hx, hlc, h0, h1⟩ := trod_struct2 Tryz.underlying138 h
  obtain ⟨r, e0, _⟩ := DataW.trod_int Tryz.underlying3 (by simpa [lc_int] using h0 : DataW.trod enc0 Tryz.prog W base spare held m 3 [c0] = some y0)
  obtain ⟨i, e1, _, w1⟩ := DataW.trod_int Tryz.underlying75 (by simpa [lc_u64] using h1 : DataW.trod enc0 Tryz.prog W base spare held m 75 [c1] = some y1)
  exact ⟨r, i, (List.cons.inj e0).1, (List.cons.inj e1).1, wf_u64 w1⟩

set_option maxRecDepth 100000 in
theorem ins_came {n : Nat} {cs : List Value} {x : DataW H × List MemPlace} (h : DataW.trod enc0 Tryz.prog W base spare held n 140 cs = some x) : ∃ z : Ins, cs = z.cells ∧ okIns z := by
  obtain ⟨y0, y1, y2, y3, y4, y5, m, hlc, h0, h1, h2, h3, h4, h5⟩ := trod_struct6 Tryz.underlying140 h
  have hl8 : cs.length = 8 := hlc.trans lc_ins
  match cs, hl8 with
  | [c0, c1, c2, c3, c4, c5, c6, c7], _ =>
    obtain ⟨op, e0, _⟩ := DataW.trod_int Tryz.underlying3 (by simpa [lc_int] using h0 : DataW.trod enc0 Tryz.prog W base spare held m 3 [c0] = some y0)
    obtain ⟨ce, e1, _⟩ := DataW.trod_int Tryz.underlying3 (by simpa [lc_int] using h1 : DataW.trod enc0 Tryz.prog W base spare held m 3 [c1] = some y1)
    obtain ⟨re, e2, _⟩ := DataW.trod_int Tryz.underlying3 (by simpa [lc_int] using h2 : DataW.trod enc0 Tryz.prog W base spare held m 3 [c2] = some y2)
    obtain ⟨nr, ni, e3, e4, w1⟩ := val_came (by simpa [lc_val] using h3 : DataW.trod enc0 Tryz.prog W base spare held m 138 [c3, c4] = some y3)
    obtain ⟨or', oi, e5, e6, w2⟩ := val_came (by simpa [lc_val] using h4 : DataW.trod enc0 Tryz.prog W base spare held m 138 [c5, c6] = some y4)
    obtain ⟨nn, e7, _⟩ := DataW.trod_int Tryz.underlying3 (by simpa [lc_int] using h5 : DataW.trod enc0 Tryz.prog W base spare held m 3 [c7] = some y5)
    refine ⟨⟨op, ce, re, nr, ni, or', oi, nn⟩, ?_, w1, w2⟩
    rw [(List.cons.inj e0).1, (List.cons.inj e1).1, (List.cons.inj e2).1, e3, e4, e5, e6, (List.cons.inj e7).1]
    rfl

set_option maxRecDepth 100000 in
theorem words_came {n : Nat} {c : Value} {x : DataW H × List MemPlace} (h : DataW.trod enc0 Tryz.prog W base spare held n 22 [c] = some x) :
    ∃ (a : Option Addr) (cap : Nat) (zs : List Int), c = .slice a zs.length cap ∧ Sees W a (zs.map (.int .u64)) ∧ (∀ z ∈ zs, wIn z) ∧ zs.length ≤ Rows.uptoBulk x.1 := by
  rcases open_slice Tryz.underlying22 h with ⟨hcs, hx⟩ | ⟨a, len, cap, m, n, D, Pl, hcs, _, hlc, hm, hmm, hx, hcell⟩
  · refine ⟨none, 0, [], (List.cons.inj hcs).1, ⟨fun i hi => by simp at hi⟩, by simp, Nat.zero_le _⟩
  · have hlm : len ≤ m := by rw [hmm]; split <;> omega
    have key : ∀ i, i < len → ∃ z : Int, W.cell? (a.add i) = some (.int .u64 z) ∧ wIn z := by
      intro i hi
      obtain ⟨cs', h1, h2⟩ := hcell i (by omega)
      rw [lc_u64] at h1
      obtain ⟨z, ez, _, wz⟩ := DataW.trod_int Tryz.underlying75 h2
      obtain ⟨hl1, _, hc⟩ := World.cells?_some h1
      have := hc 0 (by omega)
      have e0 : (a.add (i * 1)).add 0 = a.add i := by unfold Addr.add; split <;> simp_all
      rw [e0] at this
      subst ez
      exact ⟨z, by simpa using this, wf_u64 wz⟩
    obtain ⟨f, hf⟩ := choose_lt key
    refine ⟨some a, cap, (List.range len).map f, by rw [(List.cons.inj hcs).1]; simp, ⟨fun i hi => ?_⟩, fun z hz => ?_, ?_⟩
    · have hi' : i < len := by simpa using hi
      have g := (hf i hi').1
      obtain ⟨b, off, spot⟩ := a
      have hspot : spot = none := by simpa [Addr.add] using World.cell?_spot (hf 0 (by omega)).1
      subst hspot
      refine ⟨b, off, rfl, ?_⟩
      rw [add_plain] at g
      simpa using g
    · obtain ⟨i, hi, rfl⟩ := List.mem_map.1 hz
      exact (hf i (List.mem_range.1 hi)).2
    · have := bulk_len ((List.range len).map D)
      rw [hx]
      simp only [Rows.uptoBulk, List.length_map, List.length_range] at this ⊢
      omega

instance : Inhabited Ins := ⟨⟨0, 0, 0, 0, 0, 0, 0, 0⟩⟩
instance : Inhabited (List Ins × Nat × Option Addr) := ⟨([], 0, none)⟩

set_option maxRecDepth 100000 in
theorem prog_came {n : Nat} {c : Value} {x : DataW H × List MemPlace} (h : DataW.trod enc0 Tryz.prog W base spare held n 93 [c] = some x) :
    ∃ (a : Option Addr) (cap : Nat) (zs : List Ins), c = .slice a zs.length cap ∧ Sees W a (flatI zs) ∧ (∀ z ∈ zs, okIns z) ∧ zs.length ≤ Rows.uptoBulk x.1 := by
  rcases open_slice Tryz.underlying93 h with ⟨hcs, hx⟩ | ⟨a, len, cap, m, n, D, Pl, hcs, _, hlc, hm, hmm, hx, hcell⟩
  · refine ⟨none, 0, [], (List.cons.inj hcs).1, ⟨fun i hi => by simp [flatI] at hi⟩, by simp, Nat.zero_le _⟩
  · have hlm : len ≤ m := by rw [hmm]; split <;> omega
    have key : ∀ i, i < len → ∃ z : Ins, (∀ r, r < 8 → W.cell? ((a.add (i * 8)).add r) = z.cells[r]?) ∧ okIns z := by
      intro i hi
      obtain ⟨cs', h1, h2⟩ := hcell i (by omega)
      obtain ⟨z, rfl, hz⟩ := ins_came h2
      rw [lc_ins] at h1
      obtain ⟨_, _, hc⟩ := World.cells?_some h1
      refine ⟨z, fun r hr => ?_, hz⟩
      rw [hc r hr]
    obtain ⟨f, hf⟩ := choose_lt (α := Ins) key
    refine ⟨some a, cap, (List.range len).map f, by rw [(List.cons.inj hcs).1]; simp, ⟨fun i hi => ?_⟩, fun z hz => ?_, ?_⟩
    · have hl := flatI_length ((List.range len).map f)
      simp only [List.length_map, List.length_range] at hl
      have hi' : i < len * 8 := by omega
      obtain ⟨q, hq⟩ : ∃ q, q = i / 8 := ⟨_, rfl⟩
      obtain ⟨r, hr⟩ : ∃ r, r = i % 8 := ⟨_, rfl⟩
      have e : i = q * 8 + r := by omega
      have hr8 : r < 8 := by omega
      have hql : q < len := by omega
      have g := (hf q hql).1 r hr8
      obtain ⟨b, off, spot⟩ := a
      have hspot : spot = none := by
        have g0 := (hf 0 (by omega)).1 0 (by omega)
        rw [List.getElem?_eq_getElem (by simp [Ins.cells])] at g0
        have := World.cell?_spot g0
        have e0 : ∀ x : Addr, (x.add (0 * 8)).add 0 = x := fun x => by unfold Addr.add; cases x with | mk b o s => cases s <;> simp
        rw [e0] at this
        exact this
      subst hspot
      refine ⟨b, off, rfl, ?_⟩
      rw [add_plain, add_plain] at g
      have h8 := flatI_get ((List.range len).map f) q (by simpa using hql) r hr8
      rw [← e] at h8
      rw [List.getElem?_eq_getElem hi] at h8
      rw [show off + q * 8 + r = off + i by omega] at g
      rw [g, h8]
      simp
    · obtain ⟨i, hi, rfl⟩ := List.mem_map.1 hz
      exact (hf i (List.mem_range.1 hi)).2
    · have := bulk_len ((List.range len).map D)
      rw [hx]
      simp only [Rows.uptoBulk, List.length_map, List.length_range] at this ⊢
      omega

set_option maxRecDepth 100000 in
theorem threads_came {n : Nat} {c : Value} {x : DataW H × List MemPlace} (h : DataW.trod enc0 Tryz.prog W base spare held n 23 [c] = some x) :
    ∃ (a : Option Addr) (cap : Nat) (ls : List (List Ins)) (ps : List Value), c = .slice a ls.length cap ∧ ps.length = ls.length ∧ Sees W a ps ∧ (∀ i (h1 : i < ps.length) (h2 : i < ls.length), ∃ a' c', ps[i] = .slice a' ls[i].length c' ∧ Sees W a' (flatI ls[i])) ∧
      (∀ p ∈ ls, ∀ z ∈ p, okIns z) ∧ ls.length ≤ Rows.uptoBulk x.1 ∧ ∀ p ∈ ls, p.length ≤ Rows.uptoBulk x.1 := by
  rcases open_slice Tryz.underlying23 h with ⟨hcs, hx⟩ | ⟨a, len, cap, m, n, D, Pl, hcs, _, hlc, hm, hmm, hx, hcell⟩
  · refine ⟨none, 0, [], [], (List.cons.inj hcs).1, rfl, ⟨fun i hi => by simp at hi⟩, fun i h1 => by simp at h1, by simp, Nat.zero_le _, by simp⟩
  · have hlm : len ≤ m := by rw [hmm]; split <;> omega
    have hbk : Rows.uptoBulk x.1 = Rows.uptoBulkAll ((List.range len).map D) + Rows.uptoBulkAll ((List.range (m - len)).map fun j => D (len + j)) + 1 := by rw [hx]; simp [Rows.uptoBulk]
    have key : ∀ i, i < len → ∃ z : List Ins × Nat × Option Addr, W.cell? (a.add i) = some (.slice z.2.2 z.1.length z.2.1) ∧ Sees W z.2.2 (flatI z.1) ∧ (∀ y ∈ z.1, okIns y) ∧ z.1.length ≤ Rows.uptoBulk x.1 := by
      intro i hi
      obtain ⟨cs', h1, h2⟩ := hcell i (by omega)
      rw [lc_prog] at h1
      obtain ⟨hl1, _, hc⟩ := World.cells?_some h1
      match cs', hl1 with
      | [c'], _ =>
        obtain ⟨a', cap', zs, rfl, hs, hok, hb⟩ := prog_came h2
        have := hc 0 (by omega)
        have e0 : (a.add (i * 1)).add 0 = a.add i := by unfold Addr.add; split <;> simp_all
        rw [e0] at this
        have hmem : Rows.uptoBulk (D i) ≤ Rows.uptoBulkAll ((List.range len).map D) := bulk_mem (List.mem_map.2 ⟨i, List.mem_range.2 hi, rfl⟩)
        exact ⟨(zs, cap', a'), by simpa using this, hs, hok, by
          have hb' : zs.length ≤ Rows.uptoBulk (D i) := hb
          show zs.length ≤ _
          omega⟩
    obtain ⟨f, hf⟩ := choose_lt key
    refine ⟨some a, cap, (List.range len).map fun i => (f i).1, (List.range len).map fun i => .slice (f i).2.2 (f i).1.length (f i).2.1, by rw [(List.cons.inj hcs).1]; simp, by simp, ⟨fun i hi => ?_⟩, fun i h1 h2 => ?_, fun p hp => ?_, ?_, fun p hp => ?_⟩
    · have hi' : i < len := by simpa using hi
      have g := (hf i hi').1
      obtain ⟨b, off, spot⟩ := a
      have hspot : spot = none := by simpa [Addr.add] using World.cell?_spot (hf 0 (by omega)).1
      subst hspot
      refine ⟨b, off, rfl, ?_⟩
      rw [add_plain] at g
      simpa using g
    · have hi' : i < len := by simpa using h1
      exact ⟨(f i).2.2, (f i).2.1, by simp, by simpa using (hf i hi').2.1⟩
    · obtain ⟨i, hi, rfl⟩ := List.mem_map.1 hp
      exact (hf i (List.mem_range.1 hi)).2.2.1
    · have := bulk_len ((List.range len).map D)
      simp only [List.length_map, List.length_range] at this ⊢
      omega
    · obtain ⟨i, hi, rfl⟩ := List.mem_map.1 hp
      exact (hf i (List.mem_range.1 hi)).2.2.2

set_option maxRecDepth 100000 in
/-- a litmus program that came in -/
theorem lit_came {r : Reach} {b0 : Nat} {v : Value} {d : DataW H} {p : List MemPlace} (hv : Value.okWide Tryz.prog W r b0 25 v) (h : DataW.Trod enc0 Tryz.prog W base spare held 25 v d p) :
    ∃ cv tv l, v = .agg #[cv, tv] ∧ LitAt W cv tv l ∧ (∀ x ∈ l.cells, wIn x) ∧ (∀ p ∈ l.threads, ∀ z ∈ p, okIns z) ∧ l.cells.length ≤ Rows.uptoBulk d ∧ l.threads.length ≤ Rows.uptoBulk d ∧ ∀ p ∈ l.threads, p.length ≤ Rows.uptoBulk d := by
  obtain ⟨c0, c1, y0, y1, m, rfl, hd, hp0, hy0, hy1⟩ := open_agg2 Tryz.underlying25 (by kernel_rfl) lc_lit hv h
  obtain ⟨a, cap, zs, rfl, hs, hz, hb⟩ := words_came hy0
  obtain ⟨a2, cap2, ls, ps, rfl, e1, e2, e3, e4, e5, e6⟩ := threads_came hy1
  have hbk : Rows.uptoBulk d = Rows.uptoBulk y0.1 + (Rows.uptoBulk y1.1 + 0) + 1 := by rw [hd]; simp [Rows.uptoBulk, Rows.uptoBulkAll]
  exact ⟨_, _, ⟨zs, ls⟩, rfl, ⟨⟨a, cap, rfl, hs⟩, ⟨a2, cap2, ps, rfl, e1, e2, e3⟩⟩, hz, e4, by show zs.length ≤ _; omega, by show ls.length ≤ _; omega, fun p hp => by have := e6 p hp; omega⟩
end
end Go.Proofs.YtdkdeiofjoccnaaGreat.Lit
