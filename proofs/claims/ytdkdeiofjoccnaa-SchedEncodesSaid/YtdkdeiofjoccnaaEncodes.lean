/- SchedEncodes: the walk (under way). -/
import Derived.Test.YtdkdeiofjoccnaaRefEnc
import Derived.Test.YtdkdeiofjoccnaaCame
import Derived.Laws.AppendOwnNone
import Derived.Deep.CutRange
import Derived.Deep.DeepCutAuto
import Derived.WalkSpells
namespace Go.Proofs.Ytdkdeiofjoccnaa.Pick
open Go.RowKit Go.Proofs.Ytdkdeiofjoccnaa.Mem
set_option linter.unusedVariables false
set_option maxRecDepth 100000

theorem flat_get : ∀ (l : List Pk) (i j : Nat) (hi : i < l.length), j < 3 → (flat l)[i * 3 + j]? = l[i].cells[j]? := by
  intro l
  induction l with
  | nil => intro i j hi; simp at hi
  | cons p l ih =>
    intro i j hi hj
    rw [show flat (p :: l) = p.cells ++ flat l from by simp [flat]]
    cases i with
    | zero => rw [List.getElem?_append_left (by simp [Pk.cells]; omega)]; simp
    | succ i =>
      rw [List.getElem?_append_right (by simp [Pk.cells]; omega)]
      have := ih i j (by simpa using hi) hj
      rw [show (i + 1) * 3 + j - p.cells.length = i * 3 + j from by simp [Pk.cells]; omega, this]
      simp

theorem Has.flat {w : World} {b o : Nat} {l : List Pk} (h : Has w (some ⟨b, o, none⟩) l) : ∀ j u, (flat l)[j]? = some u → w.cell? ((⟨b, o, none⟩ : Addr).add j) = some u := by
  intro j u hj
  have hjl : j < l.length * 3 := by
    rw [← flat_length]
    apply Decidable.byContradiction
    intro hh
    rw [List.getElem?_eq_none (by omega)] at hj
    cases hj
  have hi : j / 3 < l.length := by omega
  obtain ⟨b', o', e, c0, c1, c2⟩ := h.cell (j / 3) hi
  simp only [Option.some.injEq, Addr.mk.injEq] at e
  obtain ⟨rfl, rfl, -⟩ := e
  have hplain : (⟨b, o, none⟩ : Addr).add j = ⟨b, o + j, none⟩ := by unfold Addr.add; split <;> simp_all
  rw [hplain]
  have hg := flat_get l (j / 3) (j % 3) hi (by omega)
  rw [show j / 3 * 3 + j % 3 = j from by omega, hj] at hg
  rcases (show j % 3 = 0 ∨ j % 3 = 1 ∨ j % 3 = 2 by omega) with h3 | h3 | h3
  · rw [h3] at hg
    rw [show o + j = o + j / 3 * 3 from by omega, c0]
    exact hg.symm
  · rw [h3] at hg
    rw [show o + j = o + j / 3 * 3 + 1 from by omega, c1]
    exact hg.symm
  · rw [h3] at hg
    rw [show o + j = o + j / 3 * 3 + 2 from by omega, c2]
    exact hg.symm

theorem flat_one_cell (l : List Pk) : ∀ u ∈ flat l, u.oneCell' = true := by
  intro u hu
  obtain ⟨p, _, hp⟩ := List.mem_flatMap.1 hu
  exact one_cells p u hp

theorem Row.empty (w : World) (base : Nat) (hb : base ≤ w.heap.size) : (w.alloc (.cells #[] 29)).ownsRow base 29 3 (.slice (some ⟨w.heap.size, 0, none⟩) 0 0) 0 [] :=
  ⟨rfl, .inr ⟨_, 0, _, rfl, hb, alloc_new _ _, Nat.le_refl _, by unfold maxLen; omega, rfl, rfl⟩⟩

theorem two_new (w : World) (t : TypeId) (x0 x1 x2 x3 x4 x5 : Value) : ∀ j u, [x0, x1, x2, x3, x4, x5][j]? = some u → (w.alloc (.cells #[x0, x1, x2, x3, x4, x5] t)).cell? ((⟨w.heap.size, 0, none⟩ : Addr).add j) = some u := by
  intro j u hj
  match j, hj with
  | 0, hj => simp at hj; subst hj; simp [Addr.add]
  | 1, hj => simp at hj; subst hj; simp [Addr.add]
  | 2, hj => simp at hj; subst hj; simp [Addr.add]
  | 3, hj => simp at hj; subst hj; simp [Addr.add]
  | 4, hj => simp at hj; subst hj; simp [Addr.add]
  | 5, hj => simp at hj; subst hj; simp [Addr.add]
  | j + 6, hj => simp at hj

theorem full_shape {w : World} {B : Nat} {v : Value} {l : List Pk} {p q : Pk} (h : Row w B v (l ++ [p, q])) : ∃ g cap, v = .slice (some ⟨g, 0, none⟩) (l.length + 2) cap ∧ l.length + 2 ≤ cap ∧ cap ≤ maxLen ∧ B ≤ g ∧ g < w.heap.size ∧ Has w (some ⟨g, 0, none⟩) l ∧
    w.cell? ⟨g, l.length * 3, none⟩ = some (.int .i64 p.k) ∧ w.cell? ⟨g, (l.length + 1) * 3, none⟩ = some (.int .i64 q.k) := by
  have hlen : (l ++ [p, q]).length = l.length + 2 := by simp
  rcases h.2 with ⟨_, h0⟩ | ⟨g, cap, cur, e, hb, hg, h1, h2, h3, h4⟩
  · omega
  · obtain ⟨a', cap', e', hc⟩ := h.shape
    have ee := e.symm.trans e'
    simp only [Value.slice.injEq] at ee
    obtain ⟨rfl, -, rfl⟩ := ee
    have cellAt : ∀ (i : Nat) (hi : i < (l ++ [p, q]).length), w.cell? ⟨g, i * 3, none⟩ = some (.int .i64 (l ++ [p, q])[i].k) ∧ w.cell? ⟨g, i * 3 + 1, none⟩ = some (.int .i64 (l ++ [p, q])[i].who) ∧ w.cell? ⟨g, i * 3 + 2, none⟩ = some (.int .i64 (l ++ [p, q])[i].n) := by
      intro i hi
      obtain ⟨g', e2, _, _, _, c0, c1, c2, _⟩ := hc i hi
      simp only [Option.some.injEq, Addr.mk.injEq] at e2
      obtain ⟨rfl, -, -⟩ := e2
      exact ⟨c0, c1, c2⟩
    refine ⟨g, cap, by rw [e, hlen], by omega, h2, hb, lt_of hg, ⟨fun i hi => ⟨g, 0, rfl, ?_⟩⟩, ?_, ?_⟩
    · obtain ⟨c0, c1, c2⟩ := cellAt i (by omega)
      rw [List.getElem_append_left hi] at c0 c1 c2
      rw [Nat.zero_add]
      exact ⟨c0, c1, c2⟩
    · have := (cellAt l.length (by omega)).1
      simpa using this
    · have := (cellAt (l.length + 1) (by omega)).1
      simpa using this

theorem answer_shape (l : List Pk) : ∃ S E, answer l = .tuple #[.string S, .int .i64 E] := by
  unfold answer
  cases enc l with
  | none => exact ⟨_, _, rfl⟩
  | some xs => exact ⟨_, _, rfl⟩

theorem flat_set : ∀ (L : List Pk) (i : Nat) (p : Pk), i < L.length → (((flat L).set (i * 3) (.int .i64 p.k)).set (i * 3 + 1) (.int .i64 p.who)).set (i * 3 + 2) (.int .i64 p.n) = flat (L.set i p) := by
  intro L
  induction L with
  | nil => intro i p hi; simp at hi
  | cons q L ih =>
    intro i p hi
    cases i with
    | zero => simp [flat, Pk.cells]
    | succ i =>
      have := ih i p (by simpa using hi)
      rw [List.set_cons_succ]
      rw [show flat (q :: L) = q.cells ++ flat L from by simp [flat], show flat (q :: L.set i p) = q.cells ++ flat (L.set i p) from by simp [flat], ← this]
      rw [List.set_append_right _ _ (by simp [Pk.cells]; omega), List.set_append_right _ _ (by simp [Pk.cells]; omega), List.set_append_right _ _ (by simp [Pk.cells]; omega)]
      simp only [Pk.cells, List.length_cons, List.length_nil]
      congr 2
      · congr 2 <;> omega
      · omega

theorem Row.put {w : World} {B g : Nat} {v : Value} {L : List Pk} (h : Row w B v L) (hg : v.ownBlock = some g) {i : Nat} (hi : i < L.length) (p : Pk) :
    Row (((w.setCell ⟨g, i * 3, none⟩ (.int .i64 p.k)).setCell ⟨g, i * 3 + 1, none⟩ (.int .i64 p.who)).setCell ⟨g, i * 3 + 2, none⟩ (.int .i64 p.n)) B v (L.set i p) := by
  rcases h.2 with ⟨rfl, _⟩ | ⟨b, cap, cur, rfl, hb, hgg, h1, h2, h3, h4⟩
  · cases hg
  · obtain rfl : b = g := Option.some.inj hg
    have hh := set_same (set_same (set_same hgg (i * 3) (.int .i64 p.k)) (i * 3 + 1) (.int .i64 p.who)) (i * 3 + 2) (.int .i64 p.n)
    refine ⟨by rw [flat_length], .inr ⟨b, cap, _, by rw [List.length_set], hb, hh, by rw [List.length_set]; exact h1, h2, by simpa using h3, ?_⟩⟩
    rw [Array.toList_setIfInBounds, Array.toList_setIfInBounds, Array.toList_setIfInBounds, List.length_set, List.take_set, List.take_set, List.take_set, h4]
    exact flat_set L i p hi

set_option maxHeartbeats 1000000 in
theorem encodesWalk {a : Option Addr} {cap : Nat} {l : List Pk} (w : World) (hl : l.length ≤ 5864062014634) (h : Has w a l) (hnil : a = none → l = [] ∧ cap = 0) :
    Calls Try.prog 5 #[.slice a l.length cap] w fun e w' => e = .returned (.bool true) ∧ Below w.heap.size w w' := by
  obtain ⟨i0, hi, hz0, hz1, hz2⟩ := info_parts infoP
  have HI := Lib.hid hi; clear hi
  have HZ := Lib.hid (And.intro hz0 (And.intro hz1 hz2)); clear hz0 hz1 hz2
  have H := Lib.hid h; clear h
  have HN := Lib.hid hnil; clear hnil
  go_enter Try.func5, Try.ntmps5
  go_upto_region 2 with fail
  go_cut [3, 4] (fun v3 v4 wx => v3 = .int .i64 l.length ∧ Row wx w.heap.size v4 l ∧ Keep [] w wx)
  case first =>
    cases a with
    | none =>
      obtain ⟨rfl, rfl⟩ := HN.out rfl
      try simp only [List.length_nil]
      go_wp2_with (at_builtin; go_must (refine wpList_append_own_none rfl _ _ 23 rfl w.heap.size 29 i0 3 Try.underlying23 HI.out _ 0 [] rfl (Row.empty w _ (Nat.le_refl _)) rfl ?_))
      go_meet
      case rel => exact ⟨rfl, Row.empty w _ (Nat.le_refl _), (Keep.refl _ _).alloc _⟩
    | some x =>
      have d0 : Hid (∀ j u, (flat l)[j]? = some u → (w.alloc (.cells #[] 29)).cell? (x.add j) = some u) := Lib.hid (by
        have hh := H.out.keep ((Keep.refl [] w).alloc (.cells #[] 29))
        cases l with
        | nil => intro j u hj; simp [flat] at hj
        | cons q r =>
          obtain ⟨b, o, e, _⟩ := hh.cell 0 (by simp)
          obtain rfl := Option.some.inj e
          exact hh.flat)
      have d1 := Lib.hid (flat_one_cell l)
      have d2 := Lib.hid (show 0 + l.length ≤ maxLen by unfold maxLen; omega)
      have d3 := Lib.hid (show (0 + l.length) * 24 ≤ 140737488355328 by omega)
      go_wp2_with (at_builtin; go_must (refine wpList_append_own_at _ rfl _ _ 23 rfl w.heap.size 29 i0 (.agg #[.int .i64 0, .int .i64 0, .int .i64 0]) 3 24 Try.underlying23 HI.out HZ.out.1 HZ.out.2.1 HZ.out.2.2 rfl (by decide) _ 0 [] rfl (Row.empty w _ (Nat.le_refl _)) x l.length cap (flat l) rfl (flat_length l) d0.out d1.out d2.out d3.out (by simp) ?_; intro v' w3 q1 q2 _ _; have A1 := Lib.hid q1; have G1 := Lib.hid q2; clear q1 q2))
      go_meet
      case rel =>
        refine ⟨rfl, ?_, Keep.grown ((Keep.refl [] w).alloc _) G1.out fun k hk => .inr ((Row.empty w _ (Nat.le_refl _)).lt k hk).1⟩
        have := A1.out
        rw [Nat.zero_add, List.nil_append] at this
        exact this
  case rest =>
    obtain ⟨rfl, hrow, hk⟩ := hcut
    have R1 := Lib.hid hrow; clear hrow
    have K1 := Lib.hid hk; clear hk
    have d2 := Lib.hid (show l.length + 2 ≤ maxLen by unfold maxLen; omega)
    have d3 := Lib.hid (show (l.length + 2) * 24 ≤ 140737488355328 by omega)
    have d1 := Lib.hid (flat_one_cell [⟨77, 0, 0⟩, ⟨78, 0, 0⟩])
    have d4 := Lib.hid K1.out.size
    go_wp2_with (at_builtin; go_must (refine wpList_append_own_at _ rfl _ _ 23 rfl w.heap.size 29 i0 (.agg #[.int .i64 0, .int .i64 0, .int .i64 0]) 3 24 Try.underlying23 HI.out HZ.out.1 HZ.out.2.1 HZ.out.2.2 rfl (by decide) _ _ _ rfl (R1.out.alloc _) ⟨_, 0, none⟩ 2 2 (flat [⟨77, 0, 0⟩, ⟨78, 0, 0⟩]) rfl rfl (two_new _ _ _ _ _ _ _ _) d1.out d2.out d3.out (Nat.le_trans d4.out (by simp)) ?_; intro v' w3 q1 q2 _ _; have A1 : Hid (Row w3 w.heap.size v' (l ++ [⟨77, 0, 0⟩, ⟨78, 0, 0⟩])) := Lib.hid (by show World.ownsRow _ _ _ _ _ _ _; rw [flat_append, List.length_append]; exact q1); have K3 := Lib.hid (Keep.grown (K1.out.alloc _) q2 fun k hk => .inr (R1.out.lt k hk).1); clear q1 q2; obtain ⟨g, cap2, rfl, hc2, hc3, hg1, hg2, hhas, e77, e78⟩ := full_shape A1.out; have HH := Lib.hid hhas; have E77 := Lib.hid e77; have E78 := Lib.hid e78; clear hhas e77 e78))
    obtain ⟨S1, E1, hans⟩ := answer_shape l
    have HANS := Lib.hid hans; clear hans
    refine (encode HH.out (by omega)).mono ?_
    rintro e w4 ⟨rfl, k4⟩
    rw [HANS.out]
    have HH4 := Lib.hid (HH.out.keep k4); clear HH
    have E774 := Lib.hid (k4.cell E77.out (by simp)); clear E77
    have E784 := Lib.hid (k4.cell E78.out (by simp)); clear E78
    have A4 : Hid (Row w4 w.heap.size (.slice (some ⟨g, 0, none⟩) (l.length + 2) cap2) (l ++ [⟨77, 0, 0⟩, ⟨78, 0, 0⟩])) := Lib.hid (owns_keep A1.out k4 (by simp)); clear A1
    have K4 := Lib.hid (K3.out.trans k4); clear K3 k4
    go_wp2_with fail
    refine (refEncode (H.out.keep K4.out) (by omega)).mono ?_
    rintro e w5 ⟨rfl, k5⟩
    rw [HANS.out]
    have HH5 := Lib.hid (HH4.out.keep k5); clear HH4
    have E775 := Lib.hid (k5.cell E774.out (by simp)); clear E774
    have E785 := Lib.hid (k5.cell E784.out (by simp)); clear E784
    have A5 : Hid (Row w5 w.heap.size (.slice (some ⟨g, 0, none⟩) (l.length + 2) cap2) (l ++ [⟨77, 0, 0⟩, ⟨78, 0, 0⟩])) := Lib.hid (owns_keep A4.out k5 (by simp)); clear A4
    have K5 := Lib.hid (K4.out.trans k5); clear K4 k5
    go_wp2_with fail
    refine (sameHas HH5.out (H.out.keep K5.out) (by omega)).mono ?_
    rintro e w6 ⟨rfl, m, hw6⟩
    have e77 : w6.cell? ⟨g, l.length * 3, none⟩ = some (.int .i64 77) := by rw [hw6]; exact E775.out
    have e78 : w6.cell? ⟨g, (l.length + 1) * 3, none⟩ = some (.int .i64 78) := by rw [hw6]; exact E785.out
    have A6 : Hid (Row w6 w.heap.size (.slice (some ⟨g, 0, none⟩) (l.length + 2) cap2) (l ++ [⟨77, 0, 0⟩, ⟨78, 0, 0⟩])) := Lib.hid (by rw [hw6]; exact A5.out)
    have K6 : Hid (Keep [] w w6) := Lib.hid (by rw [hw6]; exact K5.out.drewN m)
    clear hw6 A5 K5 E775 E785 HH5
    go_wp2_with fail
    obtain ⟨B6, hB6⟩ : ∃ B6, B6 = w6.heap.size := ⟨_, rfl⟩
    have HB6 := Lib.hid hB6
    have hgB : g < B6 := by have := (A6.out.lt g rfl).2; omega
    have hBw : w.heap.size ≤ B6 := by have := K6.out.size; omega
    clear hB6 e77 e78
    go_loopw [9, 10] (fun v9 v10 wr => ∃ (i : Nat) (M : List Pk), i ≤ l.length ∧ v10 = .int .i64 i ∧ M.length = l.length ∧ (∀ j, j < i → M[j]? = l.reverse[j]?) ∧ Row wr w.heap.size (.slice (some ⟨g, 0, none⟩) (l.length + 2) cap2) (M ++ [⟨77, 0, 0⟩, ⟨78, 0, 0⟩]) ∧ Row wr B6 v9 (l.reverse.take i) ∧ B6 ≤ wr.heap.size ∧ Keep [] w wr) (fun _ x _ => l.length - (intOf x).toNat)
    case atStart => exact ⟨0, l, Nat.zero_le _, rfl, rfl, fun j hj => absurd hj (Nat.not_lt_zero _), A6.out, World.ownsRow_nil _ _ _ _, Nat.le_of_eq HB6.out, K6.out⟩
    case round =>
      clear A6 K6 HB6
      obtain ⟨i, M, hi, rfl, hM, hpre, hfull, hback, hBr, hk⟩ := hrel
      have HM := Lib.hid hM; clear hM
      have HP := Lib.hid hpre; clear hpre
      have HF := Lib.hid hfull; clear hfull
      have HBK := Lib.hid hback; clear hback
      have HK := Lib.hid hk; clear hk
      obtain ⟨wo, rfl⟩ : ∃ wo : World, wo = wr := ⟨_, rfl⟩
      by_cases hlt : i < l.length
      · obtain ⟨j, hj⟩ : ∃ j, j = l.length - 1 - i := ⟨_, rfl⟩
        have hjl : j < l.length := by omega
        have hji : (l.length : Int) - 1 - (i : Int) = (j : Int) := by omega
        obtain ⟨b, o, rfl, c0, c1, c2⟩ := (H.out.keep HK.out).cell j hjl
        have HJ := Lib.hid hj; clear hj
        obtain ⟨p, hp⟩ : ∃ p, p = l[j] := ⟨_, rfl⟩
        rw [← hp] at c0 c1 c2
        have HPJ := Lib.hid hp; clear hp
        have hiM : i < (M ++ [⟨77, 0, 0⟩, ⟨78, 0, 0⟩] : List Pk).length := by have := HM.out; simp; omega
        have hput := Lib.hid (Row.put HF.out (g := g) rfl hiM p)
        have hbk := Lib.hid (ownsRow_setCell_below (ownsRow_setCell_below (ownsRow_setCell_below HBK.out hgB (.int .i64 p.k) (a := ⟨g, i * 3, none⟩)) hgB (.int .i64 p.who) (a := ⟨g, i * 3 + 1, none⟩)) hgB (.int .i64 p.n) (a := ⟨g, i * 3 + 2, none⟩))
        obtain ⟨a9, cap9, e9, hc9⟩ := HF.out.shape
        obtain ⟨g9, e10, -, -, -, z0, z1, z2, zf⟩ := hc9 i hiM
        simp only [Value.slice.injEq] at e9
        obtain ⟨e11, -, -⟩ := e9
        rw [e10] at e11
        simp only [Option.some.injEq, Addr.mk.injEq] at e11
        obtain ⟨rfl, -, -⟩ := e11
        have f0 := zf (i * 3)
        have f1 := zf (i * 3 + 1)
        have f2 := zf (i * 3 + 2)
        clear hc9 zf e10
        go_upto_region 13 with fail
        obtain ⟨w7, hw7⟩ : ∃ w7, w7 = ((wo.setCell ⟨g, i * 3, none⟩ (.int .i64 p.k)).setCell ⟨g, i * 3 + 1, none⟩ (.int .i64 p.who)).setCell ⟨g, i * 3 + 2, none⟩ (.int .i64 p.n) := ⟨_, rfl⟩
        have HK7 : Hid (Keep [] w w7) := Lib.hid (by rw [hw7]; exact ((HK.out.set (.inr hg1) _ _).set (.inr hg1) _ _).set (.inr hg1) _ _)
        have B7 : Hid (B6 ≤ w7.heap.size) := Lib.hid (by rw [hw7]; simp; exact hBr)
        rw [← hw7] at hput hbk ⊢
        clear hw7 c0 c1 c2 z0 z1 z2 f0 f1 f2
        have hiM2 : i < ((M ++ [⟨77, 0, 0⟩, ⟨78, 0, 0⟩] : List Pk).set i p).length := by rw [List.length_set]; exact hiM
        obtain ⟨a9, cap9, e9, hc9⟩ := hput.out.shape
        obtain ⟨g9, e10, -, -, -, z0, z1, z2, -⟩ := hc9 i hiM2
        simp only [Value.slice.injEq] at e9
        obtain ⟨e11, -, -⟩ := e9
        rw [e10] at e11
        simp only [Option.some.injEq, Addr.mk.injEq] at e11
        obtain ⟨rfl, -, -⟩ := e11
        rw [List.getElem_set_self] at z0 z1 z2
        clear hc9 e10
        have hti : Hid ((l.reverse.take i).length = i) := Lib.hid (by rw [List.length_take, List.length_reverse]; omega)
        have d5 := Lib.hid (one_cells p)
        have d6 := Lib.hid (show (l.reverse.take i).length + 1 ≤ maxLen by rw [hti.out]; unfold maxLen; omega)
        have d7 := Lib.hid (show ((l.reverse.take i).length + 1) * 24 ≤ 140737488355328 by rw [hti.out]; omega)
        go_wp2_with (at_builtin; go_must (refine wpList_append_own_at _ rfl _ _ 23 rfl B6 29 i0 (.agg #[.int .i64 0, .int .i64 0, .int .i64 0]) 3 24 Try.underlying23 HI.out HZ.out.1 HZ.out.2.1 HZ.out.2.2 rfl (by decide) _ _ _ rfl (hbk.out.alloc _) ⟨_, 0, none⟩ 1 1 p.cells rfl rfl (pick_new _ p _) d5.out d6.out d7.out (Nat.le_trans B7.out (by simp)) ?_; intro v' w8 q1 q2 _ _; have Q1 := Lib.hid q1; have Q2 := Lib.hid q2; clear q1 q2))
        go_roundw
        case rel =>
          have hrev : l.reverse[i]? = some p := by
            rw [HPJ.out, List.getElem?_reverse (by omega), ← HJ.out]
            exact List.getElem?_eq_getElem hjl
          have hset : (M ++ [⟨77, 0, 0⟩, ⟨78, 0, 0⟩] : List Pk).set i p = M.set i p ++ [⟨77, 0, 0⟩, ⟨78, 0, 0⟩] := List.set_append_left i p (by have := HM.out; omega)
          have hfull : Row w7 w.heap.size (.slice (some ⟨g, 0, none⟩) (l.length + 2) cap2) (M.set i p ++ [⟨77, 0, 0⟩, ⟨78, 0, 0⟩]) := by rw [← hset]; exact hput.out
          refine ⟨i + 1, M.set i p, hlt, by go_num, by rw [List.length_set]; exact HM.out, ?_, ?_, ?_, ?_, ?_⟩
          · intro j' hj'
            by_cases e : i = j'
            · subst e
              rw [hrev, List.getElem?_set_self (by have := HM.out; omega)]
            · rw [List.getElem?_set_ne e]
              exact HP.out j' (by omega)
          · exact (World.ownsRow.alloc hfull _).kept Q2.out (.inr fun e => by
              have h3 := (hbk.out.lt g e.symm).1
              omega)
          · have e : l.reverse.take (i + 1) = l.reverse.take i ++ [p] := by rw [List.take_add_one, hrev]; rfl
            rw [e]
            exact Row.push Q1.out
          · have := Q2.out.size
            have := B7.out
            simp only [World.size_alloc] at *
            omega
          · exact Keep.grown (HK7.out.alloc _) Q2.out fun k hk => .inr (by have := (hbk.out.lt k hk).1; omega)
        case measure => simp [intOf]; omega
      · obtain rfl : i = l.length := by omega
        have hMe : M = l.reverse := by
          apply List.ext_getElem?
          intro j'
          by_cases hj' : j' < l.length
          · exact HP.out j' hj'
          · rw [List.getElem?_eq_none (by have := HM.out; omega), List.getElem?_eq_none (by simp; omega)]
        have hlr : l.reverse.length = l.length := List.length_reverse
        subst hMe
        obtain ⟨g2, cap3, e3, -, -, -, -, hh, -, -⟩ := full_shape HF.out
        simp only [Value.slice.injEq, Option.some.injEq, Addr.mk.injEq] at e3
        obtain ⟨⟨rfl, -, -⟩, -, rfl⟩ := e3
        have HH := Lib.hid hh
        have hb2 := HBK.out
        rw [List.take_of_length_le (by omega)] at hb2
        obtain ⟨a6, cap6, hv6, h6⟩ := Row.has hb2
        have H6 := Lib.hid h6
        have HV6 := Lib.hid hv6
        obtain ⟨S2, E2, hans2⟩ := answer_shape l.reverse
        have HA2 := Lib.hid hans2
        rw [hlr] at hv6
        subst hv6
        clear hb2 h6 hh hans2 HV6 HBK
        have enc1 := encode (cap := cap2) HH.out (by omega)
        rw [hlr] at enc1
        have ENC1 := Lib.hid enc1
        clear enc1
        go_wp2_with fail
        refine ENC1.out.mono ?_
        rintro e w9 ⟨rfl, k9⟩
        rw [HA2.out]
        have enc2 := refEncode (cap := cap6) (H6.out.keep k9) (by omega)
        rw [hlr] at enc2
        have ENC2 := Lib.hid enc2
        have K9 := Lib.hid (HK.out.trans k9)
        clear enc2 k9 hlr
        go_wp2_with fail
        refine ENC2.out.mono ?_
        rintro e w10 ⟨rfl, k10⟩
        rw [HA2.out]
        have K10 := Lib.hid (K9.out.trans k10)
        clear k10
        go_wp2_with fail
        go_ret
        exact ⟨rfl, K10.out.below (Nat.le_refl _) (by simp)⟩
end Go.Proofs.Ytdkdeiofjoccnaa.Pick
