import Derived.Test.YtdkdeiofjoccnaaGreatTurnsCame
import Derived.Test.YtdkdeiofjoccnaaGreatThreads
import Derived.Test.YtdkdeiofjoccnaaGreatMoveB
import Derived.Test.YtdkdeiofjoccnaaGreatLookA
/- Ops that came in: how an argument of the type []stratalaw03.Op is read (the seat .Z alone has it). -/
namespace Go.Proofs.YtdkdeiofjoccnaaGreat.Lit
open Go.RowKit Go.Proofs.YtdkdeiofjoccnaaGreat.Mem Go.ChangeShapes Go.WideShapes Go.ChangeAt
open Go.Deep Go.Joins
open Go.Proofs.YtdkdeiofjoccnaaGreat.Pick (Pk flat flat_length)
set_option linter.unusedVariables false

/-- an op, where its slices lie, and what lies there -/
structure SOp where
  kind : Int
  who : Int
  tag : Int
  num : Int
  pa : Option Addr
  pc : Nat
  ma : Option Addr
  mc : Nat
  picks : List Pk
  ms : List Int
instance : Inhabited SOp := ⟨⟨0, 0, 0, 0, none, 0, none, 0, [], []⟩⟩
structure SOp.Ok (W : World) (bulk : Nat) (z : SOp) : Prop where
  seesP : Sees W z.pa (flat z.picks)
  seesM : Sees W z.ma (z.ms.map (.int .i64))
  num : z.num ≤ 9223372036854775807
  small : ∀ x ∈ z.picks, x.n ≤ 9223372036854775807
  lenP : z.picks.length ≤ bulk
  lenM : z.ms.length ≤ bulk
/-- ops that lie in memory -/
structure OpsIn (w : World) (a : Option Addr) (zs : List SOp) : Prop where
  cell : ∀ (i : Nat) (hi : i < zs.length), ∃ g o, a = some ⟨g, o, none⟩ ∧ w.cell? ⟨g, o + i * 6, none⟩ = some (.int .i64 zs[i].kind) ∧ w.cell? ⟨g, o + i * 6 + 1, none⟩ = some (.int .i64 zs[i].who) ∧ w.cell? ⟨g, o + i * 6 + 2, none⟩ = some (.int .i64 zs[i].tag) ∧
    w.cell? ⟨g, o + i * 6 + 3, none⟩ = some (.int .i64 zs[i].num) ∧ w.cell? ⟨g, o + i * 6 + 4, none⟩ = some (.slice zs[i].pa zs[i].picks.length zs[i].pc) ∧ w.cell? ⟨g, o + i * 6 + 5, none⟩ = some (.slice zs[i].ma zs[i].ms.length zs[i].mc)
theorem OpsIn.keep {w w' : World} {a : Option Addr} {ts : List SOp} (h : OpsIn w a ts) (k : Keep [] w w') : OpsIn w' a ts :=
  ⟨fun i hi => let ⟨g, o, e, c0, c1, c2, c3, c4, c5⟩ := h.cell i hi; ⟨g, o, e, k.cell c0 (by simp), k.cell c1 (by simp), k.cell c2 (by simp), k.cell c3 (by simp), k.cell c4 (by simp), k.cell c5 (by simp)⟩⟩

section
variable {H : Type} {enc0 : TypeId × Value → H} {W : World} {base : Nat} {spare : Nat → Bool} {held : Bool}

theorem oc_pick : Tryz.prog.cellsOf 119 = 3 := by kernel_rfl
theorem oc_picks : Tryz.prog.cellsOf 51 = 1 := by kernel_rfl
theorem oc_ints : Tryz.prog.cellsOf 52 = 1 := by kernel_rfl
theorem oc_op : Tryz.prog.cellsOf 54 = 6 := by kernel_rfl

theorem wf_i64 {z : Int} (h : (Lit.int .i64 z).wf = true) : z ≤ 9223372036854775807 := by
  have h : IntKind.i64.min ≤ z ∧ z ≤ IntKind.i64.max := by simpa [Lit.wf] using h
  have e2 : IntKind.i64.max = 9223372036854775807 := by decide
  omega

set_option maxRecDepth 100000 in
theorem pickN_came {n : Nat} {cs : List Value} {x : DataW H × List MemPlace} (h : DataW.trod enc0 Tryz.prog W base spare held n 119 cs = some x) : ∃ q : Pk, cs = q.cells ∧ q.n ≤ 9223372036854775807 := by
  obtain ⟨y0, y1, y2, m, _, hl, h0, h1, h2⟩ := trod_struct3 Tryz.underlying119 h
  have hl3 : cs.length = 3 := hl.trans oc_pick
  match cs, hl3 with
  | [c0, c1, c2], _ =>
    obtain ⟨a, ea, _⟩ := DataW.trod_int Tryz.underlying3 (by simpa [lc_int] using h0 : DataW.trod enc0 Tryz.prog W base spare held m 3 [c0] = some y0)
    obtain ⟨b, eb, _⟩ := DataW.trod_int Tryz.underlying3 (by simpa [lc_int] using h1 : DataW.trod enc0 Tryz.prog W base spare held m 3 [c1] = some y1)
    obtain ⟨c, ec, _, wc⟩ := DataW.trod_int Tryz.underlying3 (by simpa [lc_int] using h2 : DataW.trod enc0 Tryz.prog W base spare held m 3 [c2] = some y2)
    exact ⟨⟨a, b, c⟩, by rw [List.cons.inj ea |>.1, List.cons.inj eb |>.1, List.cons.inj ec |>.1]; rfl, wf_i64 wc⟩

instance : Inhabited Pk := ⟨⟨0, 0, 0⟩⟩

set_option maxRecDepth 100000 in
theorem picks_came {n : Nat} {c : Value} {x : DataW H × List MemPlace} (h : DataW.trod enc0 Tryz.prog W base spare held n 51 [c] = some x) :
    ∃ (a : Option Addr) (cap : Nat) (zs : List Pk), c = .slice a zs.length cap ∧ Sees W a (flat zs) ∧ (∀ z ∈ zs, z.n ≤ 9223372036854775807) ∧ zs.length ≤ Rows.uptoBulk x.1 := by
  rcases open_slice Tryz.underlying51 h with ⟨hcs, hx⟩ | ⟨a, len, cap, m, n, D, Pl, hcs, _, hlc, hm, hmm, hx, hcell⟩
  · refine ⟨none, 0, [], (List.cons.inj hcs).1, ⟨fun i hi => by simp [flat] at hi⟩, by simp, Nat.zero_le _⟩
  · have hlm : len ≤ m := by rw [hmm]; split <;> omega
    have key : ∀ i, i < len → ∃ z : Pk, (∀ r, r < 3 → W.cell? ((a.add (i * 3)).add r) = z.cells[r]?) ∧ z.n ≤ 9223372036854775807 := by
      intro i hi
      obtain ⟨cs', h1, h2⟩ := hcell i (by omega)
      obtain ⟨z, rfl, hz⟩ := pickN_came h2
      rw [oc_pick] at h1
      obtain ⟨_, _, hc⟩ := World.cells?_some h1
      refine ⟨z, fun r hr => ?_, hz⟩
      rw [hc r hr]
    obtain ⟨f, hf⟩ := choose_lt (α := Pk) key
    refine ⟨some a, cap, (List.range len).map f, by rw [(List.cons.inj hcs).1]; simp, ⟨fun i hi => ?_⟩, fun z hz => ?_, ?_⟩
    · have hl := flat_length ((List.range len).map f)
      simp only [List.length_map, List.length_range] at hl
      have hi' : i < len * 3 := by omega
      obtain ⟨q, hq⟩ : ∃ q, q = i / 3 := ⟨_, rfl⟩
      obtain ⟨r, hr⟩ : ∃ r, r = i % 3 := ⟨_, rfl⟩
      have e : i = q * 3 + r := by omega
      have hr3 : r < 3 := by omega
      have hql : q < len := by omega
      have g := (hf q hql).1 r hr3
      obtain ⟨b, off, spot⟩ := a
      have hspot : spot = none := by
        have g0 := (hf 0 (by omega)).1 0 (by omega)
        rw [List.getElem?_eq_getElem (by simp [Pick.Pk.cells])] at g0
        have := World.cell?_spot g0
        have e0 : ∀ x : Addr, (x.add (0 * 3)).add 0 = x := fun x => by unfold Addr.add; cases x with | mk b o s => cases s <;> simp
        rw [e0] at this
        exact this
      subst hspot
      refine ⟨b, off, rfl, ?_⟩
      rw [add_plain, add_plain] at g
      have h3 := flat_at ((List.range len).map f) q r (by simpa using hql) hr3
      rw [← e] at h3
      rw [List.getElem?_eq_getElem hi] at h3
      rw [show off + q * 3 + r = off + i by omega] at g
      rw [g, h3]
      simp
    · obtain ⟨i, hi, rfl⟩ := List.mem_map.1 hz
      exact (hf i (List.mem_range.1 hi)).2
    · have := bulk_len ((List.range len).map D)
      rw [hx]
      simp only [Rows.uptoBulk, List.length_map, List.length_range] at this ⊢
      omega

set_option maxRecDepth 100000 in
theorem ints_came {n : Nat} {c : Value} {x : DataW H × List MemPlace} (h : DataW.trod enc0 Tryz.prog W base spare held n 52 [c] = some x) :
    ∃ (a : Option Addr) (cap : Nat) (zs : List Int), c = .slice a zs.length cap ∧ Sees W a (zs.map (.int .i64)) ∧ zs.length ≤ Rows.uptoBulk x.1 := by
  rcases open_slice Tryz.underlying52 h with ⟨hcs, hx⟩ | ⟨a, len, cap, m, n, D, Pl, hcs, _, hlc, hm, hmm, hx, hcell⟩
  · refine ⟨none, 0, [], (List.cons.inj hcs).1, ⟨fun i hi => by simp at hi⟩, Nat.zero_le _⟩
  · have hlm : len ≤ m := by rw [hmm]; split <;> omega
    have key : ∀ i, i < len → ∃ z : Int, W.cell? (a.add i) = some (.int .i64 z) := by
      intro i hi
      obtain ⟨cs', h1, h2⟩ := hcell i (by omega)
      rw [lc_int] at h1
      obtain ⟨z, ez, _⟩ := DataW.trod_int Tryz.underlying3 h2
      obtain ⟨hl1, _, hc⟩ := World.cells?_some h1
      have := hc 0 (by omega)
      have e0 : (a.add (i * 1)).add 0 = a.add i := by unfold Addr.add; split <;> simp_all
      rw [e0] at this
      subst ez
      exact ⟨z, by simpa using this⟩
    obtain ⟨f, hf⟩ := choose_lt key
    refine ⟨some a, cap, (List.range len).map f, by rw [(List.cons.inj hcs).1]; simp, ⟨fun i hi => ?_⟩, ?_⟩
    · have hi' : i < len := by simpa using hi
      have g := hf i hi'
      obtain ⟨b, off, spot⟩ := a
      have hspot : spot = none := by simpa [Addr.add] using World.cell?_spot (hf 0 (by omega))
      subst hspot
      refine ⟨b, off, rfl, ?_⟩
      rw [add_plain] at g
      simpa using g
    · have := bulk_len ((List.range len).map D)
      rw [hx]
      simp only [Rows.uptoBulk, List.length_map, List.length_range] at this ⊢
      omega

set_option maxRecDepth 100000 in
theorem op_came {n : Nat} {cs : List Value} {x : DataW H × List MemPlace} (h : DataW.trod enc0 Tryz.prog W base spare held n 54 cs = some x) :
    ∃ z : SOp, cs = [.int .i64 z.kind, .int .i64 z.who, .int .i64 z.tag, .int .i64 z.num, .slice z.pa z.picks.length z.pc, .slice z.ma z.ms.length z.mc] ∧ z.Ok W (Rows.uptoBulk x.1) := by
  obtain ⟨xs, m, _, hx, hlc, hlen, hf⟩ := DataW.trod_struct Tryz.underlying54 h
  have hl6 : cs.length = 6 := hlc.trans oc_op
  match xs, hlen with
  | [y0, y1, y2, y3, y4, y5], _ =>
  have h0 := hf 0 _ rfl
  have h1 := hf 1 _ rfl
  have h2 := hf 2 _ rfl
  have h3 := hf 3 _ rfl
  have h4 := hf 4 _ rfl
  have h5 := hf 5 _ rfl
  match cs, hl6 with
  | [c0, c1, c2, c3, c4, c5], _ =>
    obtain ⟨v0, e0, _⟩ := DataW.trod_int Tryz.underlying3 (by simpa [lc_int] using h0 : DataW.trod enc0 Tryz.prog W base spare held m 3 [c0] = some y0)
    obtain ⟨v1, e1, _⟩ := DataW.trod_int Tryz.underlying3 (by simpa [lc_int] using h1 : DataW.trod enc0 Tryz.prog W base spare held m 3 [c1] = some y1)
    obtain ⟨v2, e2, _⟩ := DataW.trod_int Tryz.underlying3 (by simpa [lc_int] using h2 : DataW.trod enc0 Tryz.prog W base spare held m 3 [c2] = some y2)
    obtain ⟨v3, e3, _, w3⟩ := DataW.trod_int Tryz.underlying3 (by simpa [lc_int] using h3 : DataW.trod enc0 Tryz.prog W base spare held m 3 [c3] = some y3)
    obtain ⟨pa, pc, l, e4, s4, n4, b4⟩ := picks_came (by simpa [oc_picks] using h4 : DataW.trod enc0 Tryz.prog W base spare held m 51 [c4] = some y4)
    obtain ⟨ma, mc, ms, e5, s5, b5⟩ := ints_came (by simpa [oc_ints] using h5 : DataW.trod enc0 Tryz.prog W base spare held m 52 [c5] = some y5)
    have hb4 : Rows.uptoBulk y4.1 ≤ Rows.uptoBulk x.1 := by
      rw [hx]
      simp only [Rows.uptoBulk]
      have := bulk_mem (l := [y0, y1, y2, y3, y4, y5].map fun x => x.1) (d := y4.1) (by simp)
      omega
    have hb5 : Rows.uptoBulk y5.1 ≤ Rows.uptoBulk x.1 := by
      rw [hx]
      simp only [Rows.uptoBulk]
      have := bulk_mem (l := [y0, y1, y2, y3, y4, y5].map fun x => x.1) (d := y5.1) (by simp)
      omega
    refine ⟨⟨v0, v1, v2, v3, pa, pc, ma, mc, l, ms⟩, ?_, s4, s5, wf_i64 w3, n4, Nat.le_trans b4 hb4, Nat.le_trans b5 hb5⟩
    rw [(List.cons.inj e0).1, (List.cons.inj e1).1, (List.cons.inj e2).1, (List.cons.inj e3).1, e4, e5]

theorem SOp.Ok.mono {W : World} {a b : Nat} {z : SOp} (h : z.Ok W a) (hab : a ≤ b) : z.Ok W b := ⟨h.seesP, h.seesM, h.num, h.small, Nat.le_trans h.lenP hab, Nat.le_trans h.lenM hab⟩

set_option maxRecDepth 100000 in
theorem ops_came {a : Option Addr} {len cap : Nat} {d : DataW H} {p : List MemPlace} (h : DataW.Trod enc0 Tryz.prog W base spare held 26 (.slice a len cap) d p) :
    ∃ l : List SOp, l.length = len ∧ OpsIn W a l ∧ (∀ z ∈ l, z.Ok W (Rows.uptoBulk d)) ∧ len ≤ Rows.uptoBulk d := by
  obtain ⟨fuel, hf⟩ := h
  rcases open_slice Tryz.underlying26 hf with ⟨hcs, hx⟩ | ⟨x, l, c, m, n, D, Pl, hcs, _, hl, hm, hmm, hx, hcell⟩
  · simp [Value.cells] at hcs
    obtain ⟨rfl, rfl, rfl⟩ := hcs
    exact ⟨[], rfl, ⟨fun i hi => by simp at hi⟩, by simp, Nat.zero_le _⟩
  · simp [Value.cells] at hcs
    obtain ⟨rfl, rfl, rfl⟩ := hcs
    have hlm : len ≤ m := by rw [hmm]; split <;> omega
    have hd : d = _ := congrArg Prod.fst hx
    have hbk : Rows.uptoBulk d = Rows.uptoBulkAll ((List.range len).map D) + Rows.uptoBulkAll ((List.range (m - len)).map fun j => D (len + j)) + 1 := by rw [hd]; simp [Rows.uptoBulk]
    have hlb : len ≤ Rows.uptoBulk d := by
      have := bulk_len ((List.range len).map D)
      rw [List.length_map, List.length_range] at this
      omega
    have key : ∀ i, i < len → ∃ q : SOp, W.cell? ((x.add (i * 6)).add 0) = some (.int .i64 q.kind) ∧ W.cell? ((x.add (i * 6)).add 1) = some (.int .i64 q.who) ∧ W.cell? ((x.add (i * 6)).add 2) = some (.int .i64 q.tag) ∧
        W.cell? ((x.add (i * 6)).add 3) = some (.int .i64 q.num) ∧ W.cell? ((x.add (i * 6)).add 4) = some (.slice q.pa q.picks.length q.pc) ∧ W.cell? ((x.add (i * 6)).add 5) = some (.slice q.ma q.ms.length q.mc) ∧ q.Ok W (Rows.uptoBulk d) := by
      intro i hi
      obtain ⟨cs', h1, h2⟩ := hcell i (by omega)
      obtain ⟨z, rfl, hz⟩ := op_came h2
      rw [oc_op] at h1
      obtain ⟨_, _, hc⟩ := World.cells?_some h1
      have hmem : Rows.uptoBulk (D i) ≤ Rows.uptoBulkAll ((List.range len).map D) := bulk_mem (List.mem_map.2 ⟨i, List.mem_range.2 hi, rfl⟩)
      exact ⟨z, hc 0 (by omega), hc 1 (by omega), hc 2 (by omega), hc 3 (by omega), hc 4 (by omega), hc 5 (by omega), hz.mono (show Rows.uptoBulk (D i) ≤ _ by omega)⟩
    obtain ⟨f, hf2⟩ := choose_lt key
    refine ⟨(List.range len).map f, by simp, ⟨fun i hi => ?_⟩, fun j hj => ?_, hlb⟩
    · have hi' : i < len := by simpa using hi
      obtain ⟨g0, g1, g2, g3, g4, g5, -⟩ := hf2 i hi'
      obtain ⟨b, off, spot⟩ := x
      have hspot : spot = none := by
        have := World.cell?_spot (hf2 0 (by omega)).1
        have e0 : ∀ x : Addr, (x.add (0 * 6)).add 0 = x := fun x => by unfold Addr.add; cases x with | mk b o s => cases s <;> simp
        rw [e0] at this
        exact this
      subst hspot
      rw [add_plain, add_plain] at g0 g1 g2 g3 g4 g5
      refine ⟨b, off, rfl, ?_, ?_, ?_, ?_, ?_, ?_⟩
      · simpa using g0
      · simpa using g1
      · simpa using g2
      · simpa using g3
      · simpa using g4
      · simpa using g5
    · obtain ⟨i, hi, rfl⟩ := List.mem_map.1 hj
      exact (hf2 i (List.mem_range.1 hi)).2.2.2.2.2.2
end
end Go.Proofs.YtdkdeiofjoccnaaGreat.Lit

/- SchedPlays: how a play begins (what Lay and New made, on either side); the seat .Z alone has it. -/
namespace Go.Proofs.YtdkdeiofjoccnaaGreat.Ref
open Go.RowKit Go.Proofs.YtdkdeiofjoccnaaGreat.Mem Go.Proofs.YtdkdeiofjoccnaaGreat.Har Go.Proofs.YtdkdeiofjoccnaaGreat.Lit Go.Proofs.YtdkdeiofjoccnaaGreat.Ar Go.Proofs.YtdkdeiofjoccnaaGreat.Un
set_option linter.unusedVariables false
set_option maxRecDepth 100000

def okW (n : Int) : Bool := decide (1 ≤ n) && decide (n ≤ 16)
def outW (n : Int) : Int := if okW n then 0 else 30
/-- a harness as it is made, or none -/
def NewH (w0 : World) (T : List Nat) (w : World) (n : Int) : Option Nat → Prop
  | none => okW n = false ∧ T = []
  | some b => okW n = true ∧ (∃ bq vs ve vd, Har.At w b bq vs ve vd ⟨List.replicate n.toNat [], 0, [], []⟩ ∧ T = Har.blocks b bq (ve :: vd :: vs)) ∧ ∀ x ∈ T, w0.heap.size ≤ x ∧ x < w.heap.size
def NewR (w0 : World) (T : List Nat) (w : World) (n : Int) (pb : Nat) : Option Nat → Prop
  | none => okW n = false ∧ T = []
  | some b => okW n = true ∧ (∃ bq vs ve vd, RAt w b pb bq vs ve vd ⟨List.replicate n.toNat [], 0, [], []⟩ ∧ T = Har.blocks b bq (ve :: vd :: vs)) ∧ ∀ x ∈ T, w0.heap.size ≤ x ∧ x < w.heap.size

section
variable {w0 w w' : World} {T T' U U' : List Nat} {n : Int} {l : LP} {bb hb pb rb sb : Nat} {o o' : Option Nat}
theorem NewH.ok (h : NewH w0 T w n o) : o.isNone = !okW n := by cases o <;> simp [h.1]
theorem NewR.ok (h : NewR w0 T w n pb o) : o.isNone = !okW n := by cases o <;> simp [h.1]
theorem NewH.lt (h : NewH w0 T w n o) : ∀ x ∈ T, w0.heap.size ≤ x ∧ x < w.heap.size := by
  cases o
  · rw [h.2]; simp
  · exact h.2.2
theorem NewR.lt (h : NewR w0 T w n pb o) : ∀ x ∈ T, w0.heap.size ≤ x ∧ x < w.heap.size := by
  cases o
  · rw [h.2]; simp
  · exact h.2.2
theorem NewH.since {v : World} (h : NewH w0 T w n o) (k : Keep [] v w0) : NewH v T w n o := by
  cases o with
  | none => exact h
  | some b => exact ⟨h.1, h.2.1, fun x hx => ⟨Nat.le_trans k.size (h.2.2 x hx).1, (h.2.2 x hx).2⟩⟩
theorem NewR.since {v : World} (h : NewR w0 T w n pb o) (k : Keep [] v w0) : NewR v T w n pb o := by
  cases o with
  | none => exact h
  | some b => exact ⟨h.1, h.2.1, fun x hx => ⟨Nat.le_trans k.size (h.2.2 x hx).1, (h.2.2 x hx).2⟩⟩
theorem NewH.keep (h : NewH w0 T w n o) (k : Keep [] w w') : NewH w0 T w' n o := by
  cases o with
  | none => exact h
  | some b =>
    obtain ⟨h1, ⟨bq, vs, ve, vd, h2, h3⟩, h4⟩ := h
    exact ⟨h1, ⟨bq, vs, ve, vd, h2.keep k (by simp), h3⟩, fun x hx => ⟨(h4 x hx).1, Nat.lt_of_lt_of_le (h4 x hx).2 k.size⟩⟩
theorem NewR.keep (h : NewR w0 T w n pb o) (k : Keep [] w w') : NewR w0 T w' n pb o := by
  cases o with
  | none => exact h
  | some b =>
    obtain ⟨h1, ⟨bq, vs, ve, vd, h2, h3⟩, h4⟩ := h
    exact ⟨h1, ⟨bq, vs, ve, vd, h2.keep k (by simp), h3⟩, fun x hx => ⟨(h4 x hx).1, Nat.lt_of_lt_of_le (h4 x hx).2 k.size⟩⟩

theorem newH_any (n : Int) (w : World) :
    Calls Tryz.prog 10 #[.int .i64 n] w fun e w' => ∃ o T, e = .returned (.tuple #[ptrO o, .int .i64 (outW n)]) ∧ NewH w T w' n o ∧ Keep [] w w' := by
  by_cases h : 1 ≤ n ∧ n ≤ 16
  · have hok : okW n = true := by simp [okW, h.1, h.2]
    obtain ⟨m, rfl⟩ : ∃ m : Nat, n = m := ⟨n.toNat, by omega⟩
    refine (Har.new_ok m (by omega) (by omega)).mono ?_
    rintro e w' ⟨b, bq, vs, ve, vd, rfl, h1, h2, k⟩
    exact ⟨some b, _, by simp [ptrO, outW, hok], ⟨hok, ⟨bq, vs, ve, vd, by simpa using h1, rfl⟩, fun x hx => ⟨h2 x hx, h1.lt x hx⟩⟩, k⟩
  · have hok : okW n = false := by
      simp only [okW, Bool.and_eq_false_iff, decide_eq_false_iff_not]
      omega
    refine (Har.new_bad n (by omega)).mono ?_
    rintro e w' ⟨rfl, rfl⟩
    exact ⟨none, [], by simp [ptrO, outW, hok], ⟨hok, rfl⟩, Keep.refl _ _⟩
theorem newR_any (n : Int) (pb : Nat) (w : World) :
    Calls Tryz.prog 11 #[.int .i64 n, .pointer (some ⟨pb, 0, none⟩)] w fun e w' => ∃ o T, e = .returned (.tuple #[ptrO o, .int .i64 (outW n)]) ∧ NewR w T w' n pb o ∧ Keep [] w w' := by
  by_cases h : 1 ≤ n ∧ n ≤ 16
  · have hok : okW n = true := by simp [okW, h.1, h.2]
    obtain ⟨m, rfl⟩ : ∃ m : Nat, n = m := ⟨n.toNat, by omega⟩
    refine (new_ok pb m (by omega) (by omega) w).mono ?_
    rintro e w' ⟨b, bq, vs, ve, vd, rfl, h1, h2, k⟩
    exact ⟨some b, _, by simp [ptrO, outW, hok], ⟨hok, ⟨bq, vs, ve, vd, by simpa using h1, rfl⟩, fun x hx => ⟨h2 x hx, h1.lt x hx⟩⟩, k⟩
  · have hok : okW n = false := by
      simp only [okW, Bool.and_eq_false_iff, decide_eq_false_iff_not]
      omega
    refine (new_badR n (by omega) _ w).mono ?_
    rintro e w' ⟨rfl, rfl⟩
    exact ⟨none, [], by simp [ptrO, outW, hok], ⟨hok, rfl⟩, Keep.refl _ _⟩
theorem newR_nilok (n : Nat) (h1 : 1 ≤ n) (h2 : n ≤ 16) (w : World) :
    Calls Tryz.prog 11 #[.int .i64 n, .pointer none] w fun e w' => ∃ p, e = .returned (.tuple #[.pointer p, .int .i64 0]) ∧ Keep [] w w' := by
  have k1 := Har.make_row 106 184 _ (.slice none 0 0) 24 Tryz.underlying106 infoPl rfl n (by omega) (by omega)
  go_enter Tryz.func11, Tryz.ntmps11
  go_wp2_with fail
  go_ret2
  exact ⟨_, rfl, ((Keep.refl _ _).alloc _).alloc _⟩
theorem newR_nil (n : Int) (w : World) :
    Calls Tryz.prog 11 #[.int .i64 n, .pointer none] w fun e w' => ∃ p, e = .returned (.tuple #[.pointer p, .int .i64 (outW n)]) ∧ Keep [] w w' := by
  by_cases h : 1 ≤ n ∧ n ≤ 16
  · have hok : okW n = true := by simp [okW, h.1, h.2]
    obtain ⟨m, rfl⟩ : ∃ m : Nat, n = m := ⟨n.toNat, by omega⟩
    refine (newR_nilok m (by omega) (by omega) w).mono ?_
    rintro e w' ⟨p, rfl, k⟩
    exact ⟨p, by simp [outW, hok], k⟩
  · have hok : okW n = false := by
      simp only [okW, Bool.and_eq_false_iff, decide_eq_false_iff_not]
      omega
    refine (new_badR n (by omega) _ w).mono ?_
    rintro e w' ⟨rfl, rfl⟩
    exact ⟨none, by simp [outW, hok], Keep.refl _ _⟩

theorem half_nil {v1 v2 v3 v4 : World} (h1 : Half v1 T v2 l o) (h2 : HalfR v3 U v4 l o') : o.isNone = o'.isNone := by
  cases o <;> cases o'
  · rfl
  · have a1 := h1.1
    have a2 := h2.1
    rw [a1] at a2
    cases a2
  · have a1 := h1.1
    have a2 := h2.1
    rw [a1] at a2
    cases a2
  · rfl

theorem even_new (P : Park) (m : Nat) : EvenH P ⟨List.replicate m [], 0, [], []⟩ ⟨List.replicate m [], 0, [], []⟩ := by
  refine ⟨⟨fun q hq j hj => ?_, by simp⟩, ⟨fun q hq j hj => ?_, by simp⟩, rfl, rfl, by simp, rfl⟩
  · rw [(List.mem_replicate.1 hq).2] at hj
    simp at hj
  · rw [(List.mem_replicate.1 hq).2] at hj
    simp at hj
theorem due_new (m : Nat) : Har.due ⟨List.replicate m [], 0, [], []⟩ = 0 := by
  simp [Har.due, Har.dueQ]

/-- all made, and the record built -/
theorem play_start (hi : InR l) (h1 : Half w0 T w l (some bb)) (h2 : HalfR w0 T' w l (some pb)) (h3 : NewH w0 U w n (some hb)) (h4 : NewR w0 U' w n pb (some rb))
    (hrec : w.heap[sb]? = some (.cells #[.pointer (some ⟨hb, 0, none⟩), .pointer (some ⟨bb, 0, none⟩), .pointer (some ⟨rb, 0, none⟩), .pointer (some ⟨pb, 0, none⟩)] 50 (0, 0)))
    (hsb : w0.heap.size ≤ sb ∧ sb ∉ T ++ U ∧ sb ∉ T' ++ U') (a1 : ∀ x ∈ U, x ∉ T) (a2 : ∀ x ∈ U', x ∉ T') (a3 : ∀ x ∈ T ++ U, x ∉ T' ++ U') : ∃ b0, PlayAt w0 w sb bb hb pb rb b0 0 := by
  obtain ⟨hs, P, hP, hr⟩ := h1
  obtain ⟨hs', b0, B, bq0, vs0, ve0, vd0, c2, hR, hf, hT', hge, hk⟩ := h2
  obtain ⟨hw, ⟨bq, vs, ve, vd, hA, hU⟩, hUl⟩ := h3
  obtain ⟨hw', ⟨bq', vs', ve', vd', hA', hU'⟩, hUl'⟩ := h4
  have hb := hs
  simp only [soundB, betB, Bool.and_eq_true, decide_eq_true_eq] at hb
  have hsub := hr.sub
  have hsubR : ∀ x ∈ pb :: B.all, x ∈ T' := fun x hx => by rw [hT', ← List.cons_append]; exact List.mem_append_left _ hx
  have hst : Stand P w (Lit.begun l P).s := by
    obtain ⟨L, hb, hq, vs, ve, vd, tsv, h, rfl⟩ := hr
    exact h.stand
  have hpr := begun_pair hP hs hi
  obtain ⟨e1, e2⟩ := even_pair hpr rfl rfl (fun q hq j hj => by
      simp only [Lit.begun, harK, List.mem_map, List.mem_range] at hq
      obtain ⟨i, hin, rfl⟩ := hq
      have hiP : i < P.seats.length := by rw [hP.n]; exact hin
      rw [List.getElem?_eq_getElem hiP] at hj
      simp only [List.mem_singleton] at hj
      subst hj
      exact ⟨i, hiP, rfl, hP.idx hiP⟩) (fun q hq j hj => by
      simp only [harR, List.mem_map, List.mem_range] at hq
      obtain ⟨i, hin, rfl⟩ := hq
      rw [if_pos hin, List.mem_singleton] at hj
      subst hj
      exact ⟨i, rfl⟩)
  refine ⟨b0, P, _, ⟨List.replicate n.toNat [], 0, [], []⟩, _, B, _, ⟨List.replicate n.toNat [], 0, [], []⟩, _, T, U, T', U', ⟨hrec, ⟨hsb.2.1, hsb.2.2, hsb.1⟩, ⟨hr, ⟨bq, vs, ve, vd, ⟨hA, hst, fun x hx hm => a1 x (by rw [hU]; exact hm) (hsub x hx), fun q hq j hj => ?_, ⟨by rw [due_new]; simp, by simp⟩, fun x hx => .inl (by rw [hU]; exact hx), Keep.refl _ _⟩, hU⟩, a1, fun x hx => (hUl x hx).1⟩,
    ⟨c2, hR.prog, ⟨bq0, vs0, ve0, vd0, hR.at_, hT', hR.apart, by omega⟩, ⟨bq', vs', ve', vd', ⟨hA', hR.prog, fun x hx hm => a2 x (by rw [hU']; exact hm) (hsubR x hx), fun q hq j hj => ?_, ⟨by rw [due_new]; simp, by simp⟩, fun x hx => .inl (by rw [hU']; exact hx), Keep.refl _ _⟩, hU'⟩, by rw [due_new]; simp, a2, fun x hx => ?_, hk⟩, a3⟩,
    ⟨e1, e2, even_new P _, by rw [hP.n]; omega⟩, by rw [due_new]; simp⟩
  · rw [(List.mem_replicate.1 hq).2] at hj
    simp at hj
  · rw [(List.mem_replicate.1 hq).2] at hj
    simp at hj
  · rcases List.mem_append.1 hx with hx | hx
    · exact hge x hx
    · exact (hUl' x hx).1
end
end Go.Proofs.YtdkdeiofjoccnaaGreat.Ref

/- SchedPlays: the walk (the seat .Z alone has it). -/
namespace Go.Proofs.YtdkdeiofjoccnaaGreat.Ref
open Go.RowKit Go.Proofs.YtdkdeiofjoccnaaGreat.Mem Go.Proofs.YtdkdeiofjoccnaaGreat.Har Go.Proofs.YtdkdeiofjoccnaaGreat.Lit Go.Proofs.YtdkdeiofjoccnaaGreat.Ar Go.Proofs.YtdkdeiofjoccnaaGreat.Un
set_option linter.unusedVariables false
set_option linter.unusedSimpArgs false
set_option maxRecDepth 100000

section
variable {w0 w : World} {sb bb hb pb rb b0 n m : Nat}
theorem PlayAt.mono (h : PlayAt w0 w sb bb hb pb rb b0 n) (hm : n ≤ m) : PlayAt w0 w sb bb hb pb rb b0 m := by
  obtain ⟨P, H0, H, S, B, H0', H', S', T, U, T', U', h, hl, hf⟩ := h
  exact ⟨P, H0, H, S, B, H0', H', S', T, U, T', U', h, hl, Nat.le_trans hf hm⟩
theorem PlayAt.kept (h : PlayAt w0 w sb bb hb pb rb b0 n) : Keep [] w0 w := by
  obtain ⟨P, H0, H, S, B, H0', H', S', T, U, T', U', h, hl, hf⟩ := h
  exact h.kept
theorem PlayAt.frame0 {w' : World} (h : PlayAt w0 w sb bb hb pb rb b0 n) (k : Keep [] w w') : PlayAt w0 w' sb bb hb pb rb b0 n := by
  obtain ⟨P, H0, H, S, B, H0', H', S', T, U, T', U', h, hl, hf⟩ := h
  exact ⟨P, H0, H, S, B, H0', H', S', T, U, T', U', h.frame0 k, hl, hf⟩

def movesK (k : Int) : Prop := k = 1 ∨ k = 2 ∨ k = 3 ∨ k = 4 ∨ k = 10
theorem moves_all (h : PlayAt w0 w sb bb hb pb rb b0 n) (hn : n ≤ 900000000000) (z : SOp) (hz : z.Ok w0 1048576) (hk : movesK z.kind) :
    Calls Tryz.prog 12 #[.pointer (some ⟨sb, 0, none⟩), .agg #[.int .i64 z.kind, .int .i64 z.who, .int .i64 z.tag, .int .i64 z.num, .slice z.pa z.picks.length z.pc, .slice z.ma z.ms.length z.mc]] w fun e w' => e = .returned (.bool true) ∧ PlayAt w0 w' sb bb hb pb rb b0 (n + 128) := by
  obtain ⟨k, who, tag, num, pa, pc, ma, mc, l, ms⟩ := z
  obtain ⟨s1, s2, s3, s4, s5, s6⟩ := hz
  simp only [movesK] at hk s1 s2 s3 s4 s5 s6 ⊢
  rcases hk with rfl | rfl | rfl | rfl | rfl
  · exact moves_submit h hn who tag num pa ma l.length pc mc ms s2 (by omega)
  · exact (moves_step h hn who tag num pa ma l.length pc ms.length mc).mono fun e w' ⟨he, h'⟩ => ⟨he, h'.mono (by omega)⟩
  · exact (moves_play h hn who tag num s3 pa ma pc ms.length mc l s1 s4 (by omega)).mono fun e w' ⟨he, h'⟩ => ⟨he, h'.mono (by omega)⟩
  · exact (moves_drain h hn who tag num s3 pa ma l.length pc ms.length mc).mono fun e w' ⟨he, h'⟩ => ⟨he, h'.mono (by omega)⟩
  · exact (moves_thread h who tag num pa ma l.length pc ms.length mc).mono fun e w' ⟨he, h'⟩ => ⟨he, h'.mono (by omega)⟩
theorem looks_all (h : PlayAt w0 w sb bb hb pb rb b0 n) (k who tag num : Int) (pa ma : Option Addr) (np pc nm mc : Nat) :
    Calls Tryz.prog 13 #[.pointer (some ⟨sb, 0, none⟩), .agg #[.int .i64 k, .int .i64 who, .int .i64 tag, .int .i64 num, .slice pa np pc, .slice ma nm mc]] w fun e w' => e = .returned (.bool true) ∧ PlayAt w0 w' sb bb hb pb rb b0 (n + 128) := by
  have key : Calls Tryz.prog 13 #[.pointer (some ⟨sb, 0, none⟩), .agg #[.int .i64 k, .int .i64 who, .int .i64 tag, .int .i64 num, .slice pa np pc, .slice ma nm mc]] w fun e w' => e = .returned (.bool true) ∧ PlayAt w0 w' sb bb hb pb rb b0 n := by
    by_cases e5 : k = 5
    · subst e5; exact looks_pending h who tag num pa ma np pc nm mc
    by_cases e6 : k = 6
    · subst e6; exact looks_idle h who tag num pa ma np pc nm mc
    by_cases e7 : k = 7
    · subst e7; exact looks_steps h who tag num pa ma np pc nm mc
    by_cases e8 : k = 8
    · subst e8; exact looks_events h who tag num pa ma np pc nm mc
    by_cases e9 : k = 9
    · subst e9; exact looks_take h who tag num pa ma np pc nm mc
    by_cases e11 : k = 11
    · subst e11; exact looks_regs h who tag num pa ma np pc nm mc
    by_cases e12 : k = 12
    · subst e12; exact looks_outcome h who tag num pa ma np pc nm mc
    exact looks_none h k ⟨e5, e6, e7, e8, e9, e11, e12⟩ who tag num pa ma np pc nm mc
  exact key.mono fun e w' ⟨he, h'⟩ => ⟨he, h'.mono (by omega)⟩
end

set_option maxHeartbeats 8000000 in
theorem plays_walk (wk : Int) (l : LP) (hl : Few l) (il : InR l) (a : Option Addr) (ct : Nat) (zs : List SOp) (hlen : zs.length ≤ 1048576) {c1 t1 : Value} (w : World) (hz : ∀ z ∈ zs, z.Ok w 1048576) (h1 : LitAt w c1 t1 l) (ht : OpsIn w a zs) :
    Calls Tryz.prog 3 #[.int .i64 wk, .agg #[c1, t1], .slice a zs.length ct] w fun e w' => e = .returned (.bool true) ∧ Keep [] w w' := by
  obtain ⟨wa, hwa⟩ : ∃ wa, wa = w.alloc (.cells #[c1, t1] 25) := ⟨_, rfl⟩
  have ka : Keep [] w wa := by rw [hwa]; exact (Keep.refl _ _).alloc _
  have ba : wa.heap[w.heap.size]? = some (.cells #[c1, t1] 25 (0, 0)) := by rw [hwa]; exact alloc_new _ _
  obtain ⟨a1, n1, d1, rfl⟩ : ∃ a n c, c1 = .slice a n c := by obtain ⟨⟨a, c, e, -⟩, -⟩ := h1; exact ⟨_, _, _, e⟩
  obtain ⟨a2, n2, d2, rfl⟩ : ∃ a n c, t1 = .slice a n c := by obtain ⟨-, ⟨a, c, ps, e, -⟩⟩ := h1; exact ⟨_, _, _, e⟩
  have HL := Lib.hid hl
  have HI := Lib.hid il
  have HZ := Lib.hid hz
  have TI := Lib.hid ht
  have KA := Lib.hid ka
  have BA := Lib.hid ba
  have LA := Lib.hid (h1.keep0 ka)
  have y0 := (cell_of ba 0).trans rfl
  have y1 := (cell_of ba 1).trans rfl
  obtain ⟨nts, hnts⟩ : ∃ n, n = zs.length := ⟨_, rfl⟩
  have HNT := Lib.hid hnts
  have HNT' : nts ≤ 1048576 := by rw [hnts]; exact hlen
  rw [← hnts]
  clear hl il hz ht ka ba h1 hnts hlen
  go_enter Tryz.func3, Tryz.ntmps3
  go_upto_region 1 with fail
  rw [show w.alloc (.cells #[.slice a1 n1 d1, .slice a2 n2 d2] 25 (0, 0)) = wa from hwa.symm]
  clear hwa
  go_wp2_with fail
  refine (copy_lit l HL.out wa LA.out).mono ?_
  rintro e w2 ⟨cv2, tv2, rfl, hL2, k2⟩
  have L2 := Lib.hid hL2
  have K2 := Lib.hid k2
  clear hL2 k2
  go_wp2_with fail
  refine (lay_any HL.out.small L2.out).mono ?_
  rintro e w3 ⟨o1, T1, rfl, hH, hT, k3⟩
  obtain ⟨p1, hp1⟩ : ∃ p : Option Addr, p = o1.map (fun b => ⟨b, 0, none⟩) := ⟨_, rfl⟩
  rw [show ptrO o1 = .pointer p1 by rw [hp1]; rfl]
  have P1 := Lib.hid hp1
  have H3 := Lib.hid (And.intro hH hT)
  have k23 := K2.out.trans k3
  have K3 := Lib.hid k3
  have K23 := Lib.hid k23
  have b3 := k23.old BA.out (by simp)
  obtain ⟨ev1, hev1⟩ : ∃ x, x = outE l := ⟨_, rfl⟩
  rw [← hev1]
  have V1 := Lib.hid hev1
  clear y0 y1 hH hT k3 k23 hp1 hev1
  have y0 := (cell_of b3 0).trans rfl
  have y1 := (cell_of b3 1).trans rfl
  clear b3
  go_wp2_with fail
  refine (layR_any HL.out.small (LA.out.keep0 K23.out)).mono ?_
  rintro e w4 ⟨o2, T2, rfl, hH, hT, k4⟩
  obtain ⟨p2, hp2⟩ : ∃ p : Option Addr, p = o2.map (fun b => ⟨b, 0, none⟩) := ⟨_, rfl⟩
  rw [show ptrO o2 = .pointer p2 by rw [hp2]; rfl, ← V1.out]
  have P2 := Lib.hid hp2
  have H4 := Lib.hid (And.intro hH hT)
  have K4 := Lib.hid k4
  obtain ⟨z1, hz1⟩ : ∃ z, z = o1.isNone := ⟨_, rfl⟩
  have n1' : p1.isNone = z1 := by rw [P1.out, hz1, Option.isNone_map]
  have n2' : p2.isNone = z1 := by rw [hp2, hz1, Option.isNone_map, half_nil H3.out.1 hH]
  have Z1 := Lib.hid hz1
  clear y0 y1 hH hT k4 hp2 hz1
  go_upto_region 5 with fail
  go_wp2_with fail
  refine (newH_any wk w4).mono ?_
  rintro e w5 ⟨o3, T3, rfl, hH, k5⟩
  obtain ⟨p3, hp3⟩ : ∃ p : Option Addr, p = o3.map (fun b => ⟨b, 0, none⟩) := ⟨_, rfl⟩
  rw [show ptrO o3 = .pointer p3 by rw [hp3]; rfl]
  have P3 := Lib.hid hp3
  have H5 := Lib.hid hH
  have K5 := Lib.hid k5
  obtain ⟨ev2, hev2⟩ : ∃ x, x = outW wk := ⟨_, rfl⟩
  rw [← hev2]
  have V2 := Lib.hid hev2
  clear hH k5 hp3 hev2
  cases hzz : z1
  · rw [hzz] at n1' n2'
    obtain ⟨pb, rfl⟩ : ∃ pb, o2 = some pb := by
      cases o2 with
      | none => rw [P2.out] at n2'; simp at n2'
      | some pb => exact ⟨pb, rfl⟩
    obtain ⟨bb, rfl⟩ : ∃ pb, o1 = some pb := by
      cases o1 with
      | none => rw [P1.out] at n1'; simp at n1'
      | some pb => exact ⟨pb, rfl⟩
    obtain rfl : p2 = some ⟨pb, 0, none⟩ := P2.out
    obtain rfl : p1 = some ⟨bb, 0, none⟩ := P1.out
    go_wp2_with fail
    refine (newR_any wk pb w5).mono ?_
    rintro e w6 ⟨o4, T4, rfl, hH, k6⟩
    obtain ⟨p4, hp4⟩ : ∃ p : Option Addr, p = o4.map (fun b => ⟨b, 0, none⟩) := ⟨_, rfl⟩
    rw [show ptrO o4 = .pointer p4 by rw [hp4]; rfl, ← V2.out]
    have P4 := Lib.hid hp4
    have H6 := Lib.hid hH
    have K6 := Lib.hid k6
    obtain ⟨z2, hz2⟩ : ∃ z, z = o3.isNone := ⟨_, rfl⟩
    have m1 : p3.isNone = z2 := by rw [P3.out, hz2, Option.isNone_map]
    have m2 : p4.isNone = z2 := by rw [hp4, hz2, Option.isNone_map, hH.ok, H5.out.ok]
    have Z2 := Lib.hid hz2
    clear hH k6 hp4 hz2
    cases hzz2 : z2
    · rw [hzz2] at m1 m2
      obtain ⟨rb, rfl⟩ : ∃ pb, o4 = some pb := by
        cases o4 with
        | none => rw [P4.out] at m2; simp at m2
        | some pb => exact ⟨pb, rfl⟩
      obtain ⟨hb, rfl⟩ : ∃ pb, o3 = some pb := by
        cases o3 with
        | none => rw [P3.out] at m1; simp at m1
        | some pb => exact ⟨pb, rfl⟩
      obtain rfl : p4 = some ⟨rb, 0, none⟩ := P4.out
      obtain rfl : p3 = some ⟨hb, 0, none⟩ := P3.out
      obtain ⟨w7, hw7⟩ : ∃ w7, w7 = w6.alloc (.cells #[.pointer (some ⟨hb, 0, none⟩), .pointer (some ⟨bb, 0, none⟩), .pointer (some ⟨rb, 0, none⟩), .pointer (some ⟨pb, 0, none⟩)] 50) := ⟨_, rfl⟩
      obtain ⟨sb, hsb⟩ : ∃ sb, sb = w6.heap.size := ⟨_, rfl⟩
      have k7 : Keep [] w6 w7 := by rw [hw7]; exact (Keep.refl _ _).alloc _
      have b7 : w7.heap[sb]? = some (.cells #[.pointer (some ⟨hb, 0, none⟩), .pointer (some ⟨bb, 0, none⟩), .pointer (some ⟨rb, 0, none⟩), .pointer (some ⟨pb, 0, none⟩)] 50 (0, 0)) := by rw [hw7, hsb]; exact alloc_new _ _
      have s1 := KA.out.size
      have s2 := K2.out.size
      have s3 := K3.out.size
      have s4 := K4.out.size
      have s5 := K5.out.size
      have s6 := K6.out.size
      have hst : ∃ b0, PlayAt w w7 sb bb hb pb rb b0 0 := by
        have l1 := H3.out.2
        have l2 := H4.out.2
        have l3 := H5.out.lt
        have l4 := H6.out.lt
        refine play_start HI.out (((H3.out.1).since (KA.out.trans K2.out)).frame (((K4.out.trans K5.out).trans K6.out).trans k7) (by simp)) (((H4.out.1).since (KA.out.trans K23.out)).frame ((K5.out.trans K6.out).trans k7) (by simp)) ((H5.out.since ((KA.out.trans K23.out).trans K4.out)).keep (K6.out.trans k7)) ((H6.out.since (((KA.out.trans K23.out).trans K4.out).trans K5.out)).keep k7) b7 ⟨by omega, fun hm => ?_, fun hm => ?_⟩ (fun x hx hm => ?_) (fun x hx hm => ?_) (fun x hx hm => ?_)
        · rcases List.mem_append.1 hm with hm | hm
          · have := l1 _ hm; omega
          · have := l3 _ hm; omega
        · rcases List.mem_append.1 hm with hm | hm
          · have := l2 _ hm; omega
          · have := l4 _ hm; omega
        · have := l1 x hm; have := l3 x hx; omega
        · have := l2 x hm; have := l4 x hx; omega
        · rcases List.mem_append.1 hx with hx | hx <;> rcases List.mem_append.1 hm with hm | hm
          · have := l1 x hx; have := l2 x hm; omega
          · have := l1 x hx; have := l4 x hm; omega
          · have := l3 x hx; have := l2 x hm; omega
          · have := l3 x hx; have := l4 x hm; omega
      obtain ⟨b0, hst⟩ := hst
      have ST := Lib.hid hst
      clear k7 b7 hst s1 s2 s3 s4 s5 s6
      go_upto_region 15 with fail
      rw [← hsb, ← hw7]
      clear hw7 hsb
      go_wp2_with fail
      go_loopw [18] (fun i wr => ∃ k : Nat, i = .int .i64 k ∧ k ≤ nts ∧ PlayAt w wr sb bb hb pb rb b0 (k * 128)) (fun i _ => nts - (intOf i).toNat)
      case atStart => exact ⟨0, rfl, Nat.zero_le _, by simpa using ST.out⟩
      case round =>
        obtain ⟨k, rfl, hk, hP⟩ := hrel
        have PR := Lib.hid hP
        clear hP
        by_cases hlt : k < nts
        · have hkt : k < zs.length := by rw [← HNT.out]; exact hlt
          obtain ⟨g, o, rfl, c0, c1, c2, c3, c4, c5⟩ := (TI.out.keep PR.out.kept).cell k hkt
          have hzo := HZ.out _ (List.getElem_mem hkt)
          generalize zs[k] = z at *
          obtain ⟨kind, who, tag, num, pa, pc, ma, mc, pl, ms⟩ := z
          have ZO := Lib.hid hzo
          clear hzo
          simp only at c0 c1 c2 c3 c4 c5
          obtain ⟨np, hnp⟩ : ∃ n, n = pl.length := ⟨_, rfl⟩
          obtain ⟨nm, hnm⟩ : ∃ n, n = ms.length := ⟨_, rfl⟩
          rw [← hnp] at c4
          rw [← hnm] at c5
          have NP := Lib.hid (And.intro hnp hnm)
          clear hnp hnm
          go_upto_region 19 with fail
          obtain ⟨w8, hw8⟩ : ∃ w8, w8 = wr.alloc (.cells #[.int .i64 kind, .int .i64 who, .int .i64 tag, .int .i64 num, .slice pa np pc, .slice ma nm mc] 54) := ⟨_, rfl⟩
          obtain ⟨tb, htb⟩ : ∃ tb, tb = wr.heap.size := ⟨_, rfl⟩
          have k8 : Keep [] wr w8 := by rw [hw8]; exact (Keep.refl _ _).alloc _
          have b8 : w8.heap[tb]? = some (.cells #[.int .i64 kind, .int .i64 who, .int .i64 tag, .int .i64 num, .slice pa np pc, .slice ma nm mc] 54 (0, 0)) := by rw [hw8, htb]; exact alloc_new _ _
          have P8 := Lib.hid (PR.out.frame0 k8)
          have hc : movesK kind → _ := fun hk => moves_all P8.out (by omega) ⟨kind, who, tag, num, pa, pc, ma, mc, pl, ms⟩ ZO.out hk
          simp only at hc
          rw [← NP.out.1, ← NP.out.2] at hc
          have HC := Lib.hid hc
          rw [← htb, ← hw8]
          clear c0 c1 c2 c3 c4 c5 k8 hc hw8 htb
          have q0 := (cell_of b8 0).trans rfl
          have q1 := (cell_of b8 1).trans rfl
          have q2 := (cell_of b8 2).trans rfl
          have q3 := (cell_of b8 3).trans rfl
          have q4 := (cell_of b8 4).trans rfl
          have q5 := (cell_of b8 5).trans rfl
          clear b8
          by_cases hmk : movesK kind
          · have hmk' := hmk
            rcases hmk' with rfl | rfl | rfl | rfl | rfl <;>
            · go_wp2_with fail
              refine (HC.out hmk).mono ?_
              rintro e w9 ⟨rfl, hP⟩
              have PN := Lib.hid hP
              clear hP q0 q1 q2 q3 q4 q5
              go_wp2_with fail
              go_roundw
              case rel => exact ⟨k + 1, by go_num, by omega, by rw [Nat.succ_mul]; exact PN.out⟩
              case measure => simp [intOf]; omega
          · have z1 : (kind == 1) = false := by simpa using fun e => hmk (.inl e)
            have z2 : (kind == 2) = false := by simpa using fun e => hmk (.inr (.inl e))
            have z3 : (kind == 3) = false := by simpa using fun e => hmk (.inr (.inr (.inl e)))
            have z4 : (kind == 4) = false := by simpa using fun e => hmk (.inr (.inr (.inr (.inl e))))
            have z5 : (kind == 10) = false := by simpa using fun e => hmk (.inr (.inr (.inr (.inr e))))
            clear HC hmk
            go_wp2_with fail
            refine (looks_all P8.out kind who tag num pa ma np pc nm mc).mono ?_
            rintro e w9 ⟨rfl, hP⟩
            have PN := Lib.hid hP
            clear hP q0 q1 q2 q3 q4 q5
            go_wp2_with fail
            go_roundw
            case rel => exact ⟨k + 1, by go_num, by omega, by rw [Nat.succ_mul]; exact PN.out⟩
            case measure => simp [intOf]; omega
        · go_wp2_with fail
          exact bodyPost_ret (results_tmp rfl _ _ _) rfl ⟨rfl, PR.out.kept⟩
    · rw [hzz2] at m1 m2
      go_wp2_with fail
      exact bodyPost_ret (results_tmp rfl _ _ _) rfl ⟨rfl, (((KA.out.trans K23.out).trans K4.out).trans K5.out).trans K6.out⟩
  · rw [hzz] at n1' n2'
    obtain rfl : p2 = none := by simpa using n2'
    go_wp2_with fail
    refine (newR_nil wk w5).mono ?_
    rintro e w6 ⟨p, rfl, k6⟩
    rw [← V2.out]
    go_wp2_with fail
    exact bodyPost_ret (results_tmp rfl _ _ _) rfl ⟨rfl, (((KA.out.trans K23.out).trans K4.out).trans K5.out).trans k6⟩
end Go.Proofs.YtdkdeiofjoccnaaGreat.Ref
