/- Turns that came in: how an argument of the type []stratalaw03.Turn is read (the seat .Z alone has it). -/
import Derived.Test.YtdkdeiofjoccnaaGreatLitCame
namespace Go.Proofs.YtdkdeiofjoccnaaGreat.Lit
open Go.RowKit Go.Proofs.YtdkdeiofjoccnaaGreat.Mem Go.ChangeShapes Go.WideShapes Go.ChangeAt
open Go.Deep Go.Joins
set_option linter.unusedVariables false

structure Trn where
  second : Bool
  look : Bool
  play : ByteArray
instance : Inhabited Trn := ⟨⟨false, false, .empty⟩⟩
/-- turns that lie in memory -/
structure TurnsIn (w : World) (a : Option Addr) (ts : List Trn) : Prop where
  cell : ∀ (i : Nat) (hi : i < ts.length), ∃ g o, a = some ⟨g, o, none⟩ ∧ w.cell? ⟨g, o + i * 3, none⟩ = some (.bool ts[i].second) ∧ w.cell? ⟨g, o + i * 3 + 1, none⟩ = some (.bool ts[i].look) ∧ w.cell? ⟨g, o + i * 3 + 2, none⟩ = some (.string ts[i].play)
theorem TurnsIn.keep {w w' : World} {a : Option Addr} {ts : List Trn} (h : TurnsIn w a ts) (k : Keep [] w w') : TurnsIn w' a ts :=
  ⟨fun i hi => let ⟨g, o, e, c0, c1, c2⟩ := h.cell i hi; ⟨g, o, e, k.cell c0 (by simp), k.cell c1 (by simp), k.cell c2 (by simp)⟩⟩

section
variable {H : Type} {enc0 : TypeId × Value → H} {W : World} {base : Nat} {spare : Nat → Bool} {held : Bool}

theorem tn_cellsB : Tryz.prog.cellsOf 4 = 1 := by kernel_rfl
theorem tn_cellsS : Tryz.prog.cellsOf 9 = 1 := by kernel_rfl
theorem tn_cells : Tryz.prog.cellsOf 64 = 3 := by kernel_rfl

set_option maxRecDepth 100000 in
theorem turn_open {n : Nat} {cs : List Value} {x : DataW H × List MemPlace} (h : DataW.trod enc0 Tryz.prog W base spare held n 64 cs = some x) : ∃ a b s, cs = [.bool a, .bool b, .string s] ∧ s.size ≤ Rows.uptoBulk x.1 := by
  obtain ⟨y0, y1, y2, m, hd, hl, h0, h1, h2⟩ := trod_struct3 Tryz.underlying64 h
  have hl3 : cs.length = 3 := hl.trans tn_cells
  match cs, hl3 with
  | [c0, c1, c2], _ =>
    obtain ⟨a, ea, _⟩ := DataW.trod_bool Tryz.underlying4 (by simpa [tn_cellsB] using h0 : DataW.trod enc0 Tryz.prog W base spare held m 4 [c0] = some y0)
    obtain ⟨b, eb, _⟩ := DataW.trod_bool Tryz.underlying4 (by simpa [tn_cellsB] using h1 : DataW.trod enc0 Tryz.prog W base spare held m 4 [c1] = some y1)
    obtain ⟨s, es, e2, _⟩ := DataW.trod_string Tryz.underlying9 (by simpa [tn_cellsB, tn_cellsS] using h2 : DataW.trod enc0 Tryz.prog W base spare held m 9 [c2] = some y2)
    refine ⟨a, b, s, by rw [List.cons.inj ea |>.1, List.cons.inj eb |>.1, List.cons.inj es |>.1], ?_⟩
    have hz : s.data.toList.length = s.size := by rw [Array.length_toList]; rfl
    rw [hd, e2]
    simp [Rows.uptoBulk, Rows.uptoBulkAll]
    omega

set_option maxRecDepth 100000 in
theorem turns_came {a : Option Addr} {len cap : Nat} {d : DataW H} {p : List MemPlace} (h : DataW.Trod enc0 Tryz.prog W base spare held 57 (.slice a len cap) d p) : ∃ l : List Trn, l.length = len ∧ TurnsIn W a l ∧ ∀ t ∈ l, t.play.size ≤ Rows.uptoBulk d := by
  obtain ⟨fuel, hf⟩ := h
  rcases open_slice Tryz.underlying57 hf with ⟨hcs, hx⟩ | ⟨x, l, c, m, n, D, Pl, hcs, _, hl, hm, hmm, hx, hcell⟩
  · simp [Value.cells] at hcs
    obtain ⟨rfl, rfl, rfl⟩ := hcs
    exact ⟨[], rfl, ⟨fun i hi => by simp at hi⟩, by simp⟩
  · simp [Value.cells] at hcs
    obtain ⟨rfl, rfl, rfl⟩ := hcs
    have hlm : len ≤ m := by rw [hmm]; split <;> omega
    have hd : d = _ := congrArg Prod.fst hx
    have hbk : Rows.uptoBulk d = Rows.uptoBulkAll ((List.range len).map D) + Rows.uptoBulkAll ((List.range (m - len)).map fun j => D (len + j)) + 1 := by rw [hd]; simp [Rows.uptoBulk]
    have key : ∀ i, i < len → ∃ q : Trn, W.cell? (x.add (i * 3)) = some (.bool q.second) ∧ W.cell? ((x.add (i * 3)).add 1) = some (.bool q.look) ∧ W.cell? ((x.add (i * 3)).add 2) = some (.string q.play) ∧ q.play.size ≤ Rows.uptoBulk d := by
      intro i hi
      obtain ⟨cs', h1, h2⟩ := hcell i (by omega)
      obtain ⟨k, who, nn, rfl, hr⟩ := turn_open h2
      rw [tn_cells] at h1
      obtain ⟨_, _, hc⟩ := World.cells?_some h1
      have hmem : Rows.uptoBulk (D i) ≤ Rows.uptoBulkAll ((List.range len).map D) := bulk_mem (List.mem_map.2 ⟨i, List.mem_range.2 hi, rfl⟩)
      refine ⟨⟨k, who, nn⟩, ?_, hc 1 (by omega), hc 2 (by omega), ?_⟩
      · have := hc 0 (by omega)
        have e0 : (x.add (i * 3)).add 0 = x.add (i * 3) := by unfold Addr.add; split <;> simp_all
        rw [e0] at this
        exact this
      · have hr' : nn.size ≤ Rows.uptoBulk (D i) := hr
        show nn.size ≤ _
        omega
    obtain ⟨f, hf2⟩ := choose_lt key
    refine ⟨(List.range len).map f, by simp, ⟨fun i hi => ?_⟩, fun j hj => ?_⟩
    · have hi' : i < len := by simpa using hi
      obtain ⟨g0, g1, g2, -⟩ := hf2 i hi'
      obtain ⟨b, off, spot⟩ := x
      have hspot : spot = none := by
        have := World.cell?_spot (hf2 0 (by omega)).1
        simpa [Addr.add] using this
      subst hspot
      have p0 : ∀ j, (⟨b, off, none⟩ : Addr).add j = ⟨b, off + j, none⟩ := by intro j; unfold Addr.add; split <;> simp_all
      have p1 : ∀ q j, (⟨b, q, none⟩ : Addr).add j = ⟨b, q + j, none⟩ := by intro q j; unfold Addr.add; split <;> simp_all
      rw [p0] at g0 g1 g2
      rw [p1] at g1 g2
      refine ⟨b, off, rfl, ?_, ?_, ?_⟩
      · simpa using g0
      · simpa using g1
      · simpa using g2
    · obtain ⟨i, hi, rfl⟩ := List.mem_map.1 hj
      exact (hf2 i (List.mem_range.1 hi)).2.2.2
theorem turns_len {a : Option Addr} {len cap : Nat} {d : DataW H} {p : List MemPlace} (h : DataW.Trod enc0 Tryz.prog W base spare held 57 (.slice a len cap) d p) : len ≤ Rows.uptoBulk d := by
  obtain ⟨fuel, hf⟩ := h
  rcases open_slice Tryz.underlying57 hf with ⟨hcs, hx⟩ | ⟨x, l, c, m, n, D, Pl, hcs, _, hl, hm, hmm, hx, hcell⟩
  · simp [Value.cells] at hcs
    obtain ⟨rfl, rfl, rfl⟩ := hcs
    omega
  · simp [Value.cells] at hcs
    obtain ⟨rfl, rfl, rfl⟩ := hcs
    have hd : d = _ := congrArg Prod.fst hx
    have hbk : Rows.uptoBulk d = Rows.uptoBulkAll ((List.range len).map D) + Rows.uptoBulkAll ((List.range (m - len)).map fun j => D (len + j)) + 1 := by rw [hd]; simp [Rows.uptoBulk]
    have := bulk_len ((List.range len).map D)
    rw [List.length_map, List.length_range] at this
    omega
end
end Go.Proofs.YtdkdeiofjoccnaaGreat.Lit
