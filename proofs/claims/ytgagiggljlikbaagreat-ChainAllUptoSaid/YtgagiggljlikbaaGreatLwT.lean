/- Layer 4's scripts: a script that came in. -/
import Derived.Test.YtgagiggljlikbaaGreatRows
import Derived.Test.YtgagiggljlikbaaGreatLwO
import Derived.ProofKit
import Derived.OpenShut
import Derived.ShutString
import Derived.ChangeOld
import Derived.Below
import Derived.JoinedCond
import Derived.Deep.Slices
import Derived.Deep.Strs
import Derived.Lib.SmallJoins
namespace Go.Proofs.YtgagiggljlikbaaGreat.Lw
open Go.RowKit Go.Proofs.YtgagiggljlikbaaGreat.Mem Go.ChangeShapes Go.WideShapes Go.ChangeAt
open Go.Deep Go.Joins
set_option linter.unusedVariables false
set_option maxRecDepth 100000
section
variable {H : Type} {enc0 : TypeId × Value → H} {W : World} {base : Nat} {spare : Nat → Bool} {held : Bool}
instance : Inhabited SOp := ⟨⟨0, 0, 0, 0⟩⟩
theorem lc_int : Tryz.prog.cellsOf 3 = 1 := by kernel_rfl
theorem lc_op : Tryz.prog.cellsOf 102 = 4 := by kernel_rfl
theorem lc_ops : Tryz.prog.cellsOf 60 = 1 := by kernel_rfl
theorem lc_two : Tryz.prog.cellsOf 59 = 2 := by kernel_rfl
theorem lc_script : Tryz.prog.cellsOf 62 = 5 := by kernel_rfl
theorem add_plain (b off j : Nat) : (⟨b, off, none⟩ : Addr).add j = ⟨b, off + j, none⟩ := by unfold Addr.add; split <;> simp_all
theorem bulk_len : ∀ l : List (DataW H), l.length ≤ Rows.uptoBulkAll l
  | [] => Nat.zero_le _
  | d :: r => by
    have h1 := bulk_len r
    have h2 : 1 ≤ Rows.uptoBulk d := by
      cases d with
      | lit x => cases x <;> simp [Rows.uptoBulk]
      | _ => simp [Rows.uptoBulk]
    simp only [Rows.uptoBulkAll, List.length_cons]
    omega
theorem bulk_mem : ∀ {l : List (DataW H)} {d : DataW H}, d ∈ l → Rows.uptoBulk d ≤ Rows.uptoBulkAll l
  | e :: r, d, h => by
    simp only [Rows.uptoBulkAll]
    rcases List.mem_cons.1 h with rfl | h
    · omega
    · have := bulk_mem h
      omega
theorem trod_array2 {P : Program} {t e : TypeId} {fuel : Nat} {c0 c1 : Value} {x : DataW H × List MemPlace} (ht : P.underlying t = some (.array 2 e)) (hce : P.cellsOf e = 1)
    (h : DataW.trod enc0 P W base spare held fuel t [c0, c1] = some x) :
    ∃ y0 y1 n, DataW.trod enc0 P W base spare held n e [c0] = some y0 ∧ DataW.trod enc0 P W base spare held n e [c1] = some y1 := by
  cases fuel with
  | zero => simp [DataW.trod] at h
  | succ n =>
    unfold DataW.trod at h
    rw [ht] at h
    have r2 : List.range 2 = [0, 1] := rfl
    simp [r2, hce] at h
    obtain ⟨_, h⟩ := h
    cases h0 : DataW.trod enc0 P W base spare held n e [c0] with
    | none => simp [h0] at h
    | some y0 =>
      cases h1 : DataW.trod enc0 P W base spare held n e [c1] with
      | none => simp [h0, h1] at h
      | some y1 => exact ⟨y0, y1, n, h0, h1⟩
theorem op_came {n : Nat} {cs : List Value} {x : DataW H × List MemPlace} (h : DataW.trod enc0 Tryz.prog W base spare held n 102 cs = some x) :
    ∃ z : SOp, cs = [.int .i64 z.kind, .int .i64 z.idx, .int .i64 z.a, .int .i64 z.b] := by
  obtain ⟨y0, y1, y2, y3, m, _, hlc, h0, h1, h2, h3⟩ := trod_struct4 Tryz.underlying102 h
  have hl4 : cs.length = 4 := hlc.trans lc_op
  match cs, hl4 with
  | [c0, c1, c2, c3], _ =>
    obtain ⟨v0, e0, _⟩ := DataW.trod_int Tryz.underlying3 (by simpa [lc_int] using h0 : DataW.trod enc0 Tryz.prog W base spare held m 3 [c0] = some y0)
    obtain ⟨v1, e1, _⟩ := DataW.trod_int Tryz.underlying3 (by simpa [lc_int] using h1 : DataW.trod enc0 Tryz.prog W base spare held m 3 [c1] = some y1)
    obtain ⟨v2, e2, _⟩ := DataW.trod_int Tryz.underlying3 (by simpa [lc_int] using h2 : DataW.trod enc0 Tryz.prog W base spare held m 3 [c2] = some y2)
    obtain ⟨v3, e3, _⟩ := DataW.trod_int Tryz.underlying3 (by simpa [lc_int] using h3 : DataW.trod enc0 Tryz.prog W base spare held m 3 [c3] = some y3)
    exact ⟨⟨v0, v1, v2, v3⟩, by rw [List.cons.inj e0 |>.1, List.cons.inj e1 |>.1, List.cons.inj e2 |>.1, List.cons.inj e3 |>.1]⟩
theorem ops_came {fuel : Nat} {v : Value} {x : DataW H × List MemPlace} (hf : DataW.trod enc0 Tryz.prog W base spare held fuel 60 [v] = some x) :
    ∃ a cap, ∃ l : List SOp, v = .slice a l.length cap ∧ OpsIn W a l ∧ l.length ≤ Rows.uptoBulk x.1 := by
  rcases open_slice Tryz.underlying60 hf with ⟨hcs, hx⟩ | ⟨a, len, cap, m, n, D, Pl, hcs, _, hl, hm, hmm, hx, hcell⟩
  · exact ⟨none, 0, [], (List.cons.inj hcs).1, ⟨fun i hi => by simp at hi⟩, Nat.zero_le _⟩
  · have hlm : len ≤ m := by rw [hmm]; split <;> omega
    have hd : x.1 = _ := congrArg Prod.fst hx
    have hbk : Rows.uptoBulk x.1 = Rows.uptoBulkAll ((List.range len).map D) + Rows.uptoBulkAll ((List.range (m - len)).map fun j => D (len + j)) + 1 := by rw [hd]; simp [Rows.uptoBulk]
    have hlb : len ≤ Rows.uptoBulk x.1 := by
      have := bulk_len ((List.range len).map D)
      rw [List.length_map, List.length_range] at this
      omega
    have key : ∀ i, i < len → ∃ q : SOp, W.cell? ((a.add (i * 4)).add 0) = some (.int .i64 q.kind) ∧ W.cell? ((a.add (i * 4)).add 1) = some (.int .i64 q.idx) ∧ W.cell? ((a.add (i * 4)).add 2) = some (.int .i64 q.a) ∧
        W.cell? ((a.add (i * 4)).add 3) = some (.int .i64 q.b) := by
      intro i hi
      obtain ⟨cs', h1, h2⟩ := hcell i (by omega)
      obtain ⟨z, rfl⟩ := op_came h2
      rw [lc_op] at h1
      obtain ⟨_, _, hc⟩ := World.cells?_some h1
      exact ⟨z, hc 0 (by omega), hc 1 (by omega), hc 2 (by omega), hc 3 (by omega)⟩
    obtain ⟨f, hf2⟩ := choose_lt key
    refine ⟨some a, cap, (List.range len).map f, by simpa using (List.cons.inj hcs).1, ⟨fun i hi => ?_⟩, by simpa using hlb⟩
    have hi' : i < len := by simpa using hi
    obtain ⟨g0, g1, g2, g3⟩ := hf2 i hi'
    obtain ⟨b, off, spot⟩ := a
    have hspot : spot = none := by
      have := World.cell?_spot (hf2 0 (by omega)).1
      have e0 : ∀ x : Addr, (x.add (0 * 4)).add 0 = x := fun x => by unfold Addr.add; cases x with | mk b o s => cases s <;> simp
      rw [e0] at this
      exact this
    subst hspot
    rw [add_plain, add_plain] at g0 g1 g2 g3
    refine ⟨b, off, rfl, ?_, ?_, ?_, ?_⟩
    · simpa using g0
    · simpa using g1
    · simpa using g2
    · simpa using g3
theorem script_came {r : Reach} {b0 : Nat} {v : Value} {d : DataW H} {p : List MemPlace} (hv : Value.okWide Tryz.prog W r b0 62 v) (h : DataW.Trod enc0 Tryz.prog W base spare held 62 v d p) :
    ∃ (n c k0 k1 : Int) (a : Option Addr) (cap : Nat) (zs : List SOp), v = .agg #[.int .i64 n, .int .i64 c, .int .i64 k0, .int .i64 k1, .slice a zs.length cap] ∧ OpsIn W a zs ∧ zs.length ≤ Rows.uptoBulk d := by
  obtain ⟨cs, rfl, hsz⟩ := okWide_struct Tryz.underlying62 hv
  obtain ⟨l⟩ := cs
  obtain ⟨fuel, hf⟩ := h
  obtain ⟨y0, y1, y2, y3, m, hx, hlc, h0, h1, h2, h3⟩ := trod_struct4 Tryz.underlying62 hf
  have hl5 : l.length = 5 := hsz.trans lc_script
  match l, hl5 with
  | [c0, c1, c2, c3, c4], _ =>
    obtain ⟨v0, e0, _⟩ := DataW.trod_int Tryz.underlying3 (by simpa [lc_int, Value.cells] using h0 : DataW.trod enc0 Tryz.prog W base spare held m 3 [c0] = some y0)
    obtain ⟨v1, e1, _⟩ := DataW.trod_int Tryz.underlying3 (by simpa [lc_int, Value.cells] using h1 : DataW.trod enc0 Tryz.prog W base spare held m 3 [c1] = some y1)
    obtain ⟨x2, x3, m2, g2, g3⟩ := trod_array2 Tryz.underlying59 lc_int (by simpa [lc_two, Value.cells] using h2 : DataW.trod enc0 Tryz.prog W base spare held m 59 [c2, c3] = some y2)
    obtain ⟨v2, e2, _⟩ := DataW.trod_int Tryz.underlying3 g2
    obtain ⟨v3, e3, _⟩ := DataW.trod_int Tryz.underlying3 g3
    obtain ⟨a, cap, zs, e4, hz, hb⟩ := ops_came (by simpa [lc_ops, Value.cells] using h3 : DataW.trod enc0 Tryz.prog W base spare held m 60 [c4] = some y3)
    have hd : d = _ := congrArg Prod.fst hx
    have hb4 : Rows.uptoBulk y3.1 ≤ Rows.uptoBulk d := by
      rw [hd]
      simp only [Rows.uptoBulk]
      have := bulk_mem (l := [y0.1, y1.1, y2.1, y3.1]) (d := y3.1) (by simp)
      omega
    exact ⟨v0, v1, v2, v3, a, cap, zs, by rw [List.cons.inj e0 |>.1, List.cons.inj e1 |>.1, List.cons.inj e2 |>.1, List.cons.inj e3 |>.1, e4], hz, by omega⟩
end
end Go.Proofs.YtgagiggljlikbaaGreat.Lw
