/- stratalaw03: lent.kept, of a program that nobody has turned. -/
import Derived.Test.YtdkdeiofjoccnaaGreatLendWalk
import Derived.Test.YtdkdeiofjoccnaaGreatWords3
import Derived.WalkSpells
import Derived.BigQuiet
namespace Go.Proofs.YtdkdeiofjoccnaaGreat.Lit
open Go.RowKit Go.Proofs.YtdkdeiofjoccnaaGreat.Mem Go.Proofs.YtdkdeiofjoccnaaGreat.Ar Go.Proofs.YtdkdeiofjoccnaaGreat.Un
set_option linter.unusedVariables false
set_option maxRecDepth 100000

theorem LentAt.keep0 {w w' : World} {base gC cC gA cA g79 : Nat} {tT : Value} {bs : List (Nat × Nat)} {l : LP} (h : LentAt w base gC cC gA cA g79 tT bs l) (k : Keep [] w w') : LentAt w' base gC cC gA cA g79 tT bs l :=
  ⟨Har.owns_block h.cells fun g hg => k.block g (h.cells.lt g hg).2 (by simp), h.ths.keep k (by simp), Har.owns_block h.all fun g hg => k.block g (h.all.lt g hg).2 (by simp), k.old h.mark.1 (by simp), h.mark.2⟩

/-- the i-th program that is lent, and its slice in all -/
theorem LentAt.at_ {w : World} {base gC cC gA cA g79 : Nat} {tT : Value} {bs : List (Nat × Nat)} {l : LP} (h : LentAt w base gC cC gA cA g79 tT bs l) {i : Nat} (hi : i < l.threads.length) :
    ∃ gT vc gb cb, tT = .slice (some ⟨gT, 0, none⟩) l.threads.length vc ∧ w.cell? ⟨gT, i, none⟩ = some (.slice (some ⟨gb, 0, none⟩) (l.threads[i].length + 2) cb) ∧ w.cell? ⟨gA, i, none⟩ = some (.slice (some ⟨gb, 0, none⟩) l.threads[i].length cb) ∧
      w.ownsRow base 140 8 (.slice (some ⟨gb, 0, none⟩) (l.threads[i].length + 2) cb) (l.threads[i].length + 2) (flatI (l.threads[i] ++ [i77, i78])) := by
  have hb : i < bs.length := by rw [h.ths.len]; exact hi
  obtain ⟨gT, vc, rfl⟩ : ∃ gT vc, tT = .slice (some ⟨gT, 0, none⟩) l.threads.length vc := by
    rcases h.ths.row.2 with ⟨-, h0⟩ | ⟨g, cap, cur, e, -⟩
    · omega
    · exact ⟨g, cap, e⟩
  have add0 : ∀ (g j : Nat), (⟨g, 0, none⟩ : Addr).add j = ⟨g, j, none⟩ := fun g j => by unfold Addr.add; split <;> simp_all
  refine ⟨gT, vc, bs[i].1, bs[i].2, rfl, ?_, ?_, h.ths.each i hb hi⟩
  · have q := h.ths.row.cells (g := gT) rfl i _ (rowS_at 2 l.threads bs i hi hb)
    rw [add0] at q
    exact q
  · have hl : i < (rowS 0 l.threads bs).length := by rw [rowS_len 0 _ _ h.ths.len]; exact hi
    have q := h.all.cells (g := gA) rfl i (.slice (some ⟨bs[i].1, 0, none⟩) l.threads[i].length bs[i].2) (by rw [List.getElem?_append_left hl, rowS_at 0 l.threads bs i hi hb]; simp)
    rw [add0] at q
    exact q
theorem LentAt.last {w : World} {base gC cC gA cA g79 : Nat} {tT : Value} {bs : List (Nat × Nat)} {l : LP} (h : LentAt w base gC cC gA cA g79 tT bs l) :
    w.cell? ⟨gA, l.threads.length, none⟩ = some (.slice (some ⟨g79, 0, none⟩) 1 1) ∧ w.cell? ⟨g79, 0, none⟩ = some (.int .i64 79) ∧ w.cell? ⟨gC, l.cells.length, none⟩ = some (.int .u64 771) ∧ w.cell? ⟨gC, l.cells.length + 1, none⟩ = some (.int .u64 772) ∧
      l.cells.length + 2 ≤ cC ∧ l.threads.length + 1 ≤ cA := by
  have add0 : ∀ (g j : Nat), (⟨g, 0, none⟩ : Addr).add j = ⟨g, j, none⟩ := fun g j => by unfold Addr.add; split <;> simp_all
  have hl := rowS_len 0 l.threads bs h.ths.len
  refine ⟨?_, (cell_of h.mark.1 0).trans rfl, ?_, ?_, ?_, ?_⟩
  · have q := h.all.cells (g := gA) rfl l.threads.length (.slice (some ⟨g79, 0, none⟩) 1 1) (by rw [List.getElem?_append_right (by omega), hl]; simp)
    rw [add0] at q
    exact q
  · have q := h.cells.cells (g := gC) rfl l.cells.length (.int .u64 771) (by simp)
    rw [add0] at q
    exact q
  · have q := h.cells.cells (g := gC) rfl (l.cells.length + 1) (.int .u64 772) (by simp)
    rw [add0] at q
    exact q
  · rcases h.cells.2 with ⟨e, -⟩ | ⟨g3, cap3, cur3, e3, -, -, hle, -⟩
    · simp at e
    · simp only [Value.slice.injEq] at e3
      rw [e3.2.2]; exact hle
  · rcases h.all.2 with ⟨e, -⟩ | ⟨g3, cap3, cur3, e3, -, -, hle, -⟩
    · simp at e
    · simp only [Value.slice.injEq] at e3
      rw [e3.2.2]; exact hle
theorem LentAt.seesC {w : World} {base gC cC gA cA g79 : Nat} {tT : Value} {bs : List (Nat × Nat)} {l : LP} (h : LentAt w base gC cC gA cA g79 tT bs l) : Sees w (some ⟨gC, 0, none⟩) (l.cells.map (.int .u64)) := by
  refine ⟨fun i hi => ⟨gC, 0, rfl, ?_⟩⟩
  have add0 : ∀ (g j : Nat), (⟨g, 0, none⟩ : Addr).add j = ⟨g, j, none⟩ := fun g j => by unfold Addr.add; split <;> simp_all
  have hi' : i < l.cells.length := by simpa using hi
  have q := h.cells.cells (g := gC) rfl i (.int .u64 l.cells[i]) (by rw [List.map_append, List.getElem?_append_left (by simpa using hi'), List.getElem?_map, List.getElem?_eq_getElem hi']; rfl)
  rw [add0] at q
  rw [Nat.zero_add, q]
  simp
theorem sees_part {w : World} {base gb n cb : Nat} {p q : List Ins} (h : w.ownsRow base 140 8 (.slice (some ⟨gb, 0, none⟩) n cb) n (flatI (p ++ q))) : Sees w (some ⟨gb, 0, none⟩) (flatI p) := by
  refine ⟨fun i hi => ⟨gb, 0, rfl, ?_⟩⟩
  have add0 : ∀ (g j : Nat), (⟨g, 0, none⟩ : Addr).add j = ⟨g, j, none⟩ := fun g j => by unfold Addr.add; split <;> simp_all
  have q := h.cells (g := gb) rfl i (flatI p)[i] (by rw [show flatI (p ++ q) = flatI p ++ flatI q by simp [flatI], List.getElem?_append_left hi, List.getElem?_eq_getElem hi])
  rw [add0] at q
  rw [Nat.zero_add, q]
theorem mark_at {w : World} {base gb n cb : Nat} {p : List Ins} (h : w.ownsRow base 140 8 (.slice (some ⟨gb, 0, none⟩) n cb) n (flatI (p ++ [i77, i78]))) : w.cell? ⟨gb, p.length * 8, none⟩ = some (.int .i64 77) ∧ w.cell? ⟨gb, (p.length + 1) * 8, none⟩ = some (.int .i64 78) := by
  have add0 : ∀ (g j : Nat), (⟨g, 0, none⟩ : Addr).add j = ⟨g, j, none⟩ := fun g j => by unfold Addr.add; split <;> simp_all
  have e : flatI (p ++ [i77, i78]) = flatI p ++ (i77.cells ++ i78.cells) := by simp [flatI]
  have hl := flatI_length p
  constructor
  · have q := h.cells (g := gb) rfl (p.length * 8) (.int .i64 77) (by rw [e, List.getElem?_append_right (by omega), hl, Nat.sub_self]; rfl)
    rw [add0] at q
    exact q
  · have q := h.cells (g := gb) rfl ((p.length + 1) * 8) (.int .i64 78) (by rw [e, List.getElem?_append_right (by omega), hl, show (p.length + 1) * 8 - p.length * 8 = 8 by omega]; rfl)
    rw [add0] at q
    exact q
/-- a lent program can be read as what it was made of -/
theorem LentAt.lit {w : World} {base gC cC gA cA g79 : Nat} {tT : Value} {bs : List (Nat × Nat)} {l : LP} (h : LentAt w base gC cC gA cA g79 tT bs l) : LitAt w (.slice (some ⟨gC, 0, none⟩) l.cells.length cC) (.slice (some ⟨gA, 0, none⟩) l.threads.length cA) l := by
  have hl := rowS_len 0 l.threads bs h.ths.len
  have add0 : ∀ (g j : Nat), (⟨g, 0, none⟩ : Addr).add j = ⟨g, j, none⟩ := fun g j => by unfold Addr.add; split <;> simp_all
  refine ⟨⟨_, _, rfl, h.seesC⟩, ⟨_, _, rowS 0 l.threads bs, rfl, hl, ⟨fun i hi => ⟨gA, 0, rfl, ?_⟩⟩, fun i h1 h2 => ?_⟩⟩
  · have q := h.all.cells (g := gA) rfl i (rowS 0 l.threads bs)[i] (by rw [List.getElem?_append_left hi, List.getElem?_eq_getElem hi])
    rw [add0] at q
    rw [Nat.zero_add, q]
  · have hb : i < bs.length := by rw [h.ths.len]; exact h2
    have e := rowS_at 0 l.threads bs i h2 hb
    rw [List.getElem?_eq_getElem h1] at e
    exact ⟨_, _, Option.some.inj e, sees_part (h.ths.each i hb h2)⟩
theorem drewN_two (w : World) (n d : Nat) : (w.drewN n).drewN d = w.drewN (n + d) := by simp [World.drewN, Nat.add_assoc]

theorem quiet_of_drewN {P : Program} {f : FuncId} {args : Array Value} {w : World} {n : Nat} {v : Value}
    (h : Calls P f args (w.drewN n) fun e w' => e = .returned v ∧ ∃ d, w' = (w.drewN n).drewN d) : Calls P f args (w.drewN n) fun e w'' => e = .returned v ∧ ∃ m, w'' = w.drewN m :=
  h.mono fun _ _ ⟨he, d, hm⟩ => ⟨he, n + d, by rw [hm, drewN_two]⟩

set_option maxHeartbeats 4000000 in
theorem kept {w : World} {base gC cC gA cA g79 : Nat} {tT cv tv : Value} {bs : List (Nat × Nat)} {l : LP} (h : LentAt w base gC cC gA cA g79 tT bs l) (hl : LitAt w cv tv l) (hs : l.cells.length ≤ 1000000000000 ∧ l.threads.length ≤ 1000000000000 ∧ ∀ p ∈ l.threads, p.length ≤ 1000000000000) :
    Calls Tryz.prog 15 #[lentV gC cC gA cA tT l, .agg #[cv, tv]] w fun e w' => e = .returned (.bool true) ∧ Keep [] w w' := by
  obtain ⟨⟨a, c, rfl, s⟩, ⟨a2, c2, ps, rfl, e3, s2, s3⟩⟩ := hl
  obtain ⟨l1, l2, l3, l4, l5, l6⟩ := h.last
  have hsame : ∀ w1 : World, Keep [] w w1 → Calls Tryz.prog 56 #[.slice (some ⟨gC, 0, none⟩) l.cells.length cC, .slice a l.cells.length c] w1 fun e w' => e = .returned (.bool true) ∧ ∃ d, w' = w1.drewN d := by
    intro w1 k
    have := sameWords cC c (h.seesC.keep0 k) (s.keep0 k) (by omega)
    have e : sameB l.cells l.cells = true := by simp [sameB]
    rw [e] at this
    exact this
  have HSM := Lib.hid hsame
  have HL := Lib.hid h
  have S2 := Lib.hid s2
  have S3 := Lib.hid (And.intro e3 s3)
  have HS := Lib.hid hs
  unfold lentV
  obtain ⟨nc, hnc⟩ : ∃ nc, nc = l.cells.length := ⟨_, rfl⟩
  obtain ⟨nt, hnt⟩ : ∃ nt, nt = l.threads.length := ⟨_, rfl⟩
  obtain ⟨nc1, hnc1⟩ : ∃ x, x = l.cells.length + 1 := ⟨_, rfl⟩
  obtain ⟨nc2, hnc2⟩ : ∃ x, x = l.cells.length + 2 := ⟨_, rfl⟩
  obtain ⟨nt1, hnt1⟩ : ∃ x, x = l.threads.length + 1 := ⟨_, rfl⟩
  have HN := Lib.hid (And.intro hnc hnt)
  have i0 : (nc : Int) ≤ cC := by omega
  have i1 : 0 ≤ (nc : Int) := by omega
  have i2 : (nc : Int) < nc2 := by omega
  have i3 : (nc1 : Int) < nc2 := by omega
  have i4 : 0 ≤ (nc1 : Int) := by omega
  have i5 : (nt : Int) < nt1 := by omega
  have i6 : 0 ≤ (nt : Int) := by omega
  have i7 : IntKind.i64.wrap ((nc : Int) + 1) = (nc1 : Int) := by rw [IntWalk.i64_in _ (by omega)]; omega
  have i8 : nc1 < nc2 := by omega
  have i9 : nc < nc2 := by omega
  have i10 : nt < nt1 := by omega
  rw [← hnc] at l3
  rw [← hnc1] at l4
  rw [← hnt] at l1
  rw [← hnc] at HSM
  have hnt12 : nt ≤ 1000000000000 := by omega
  rw [← hnc2, ← hnt1, ← hnc, ← hnt]
  obtain ⟨w1, hw1⟩ : ∃ w1, w1 = (w.alloc (.cells #[.slice (some ⟨gC, 0, none⟩) nc cC, .slice (some ⟨gA, 0, none⟩) nt cA, .slice (some ⟨gC, 0, none⟩) nc2 cC, tT, .slice (some ⟨gA, 0, none⟩) nt1 cA] 59)).alloc (.cells #[.slice a nc c, .slice a2 nt c2] 25) := ⟨_, rfl⟩
  have k1 : Keep [] w w1 := by rw [hw1]; exact ((Keep.refl _ _).alloc _).alloc _
  have b1 : w1.heap[w.heap.size]? = some (.cells #[.slice (some ⟨gC, 0, none⟩) nc cC, .slice (some ⟨gA, 0, none⟩) nt cA, .slice (some ⟨gC, 0, none⟩) nc2 cC, tT, .slice (some ⟨gA, 0, none⟩) nt1 cA] 59 (0, 0)) := by rw [hw1]; exact alloc_some _ (alloc_new w _)
  have b2 : w1.heap[w.heap.size + 1]? = some (.cells #[.slice a nc c, .slice a2 nt c2] 25 (0, 0)) := by rw [hw1]; exact new2 w _ _
  obtain ⟨xb, hxb⟩ : ∃ x, x = w.heap.size := ⟨_, rfl⟩
  obtain ⟨lb, hlb⟩ : ∃ x, x = w.heap.size + 1 := ⟨_, rfl⟩
  have B := Lib.hid (And.intro b1 b2)
  rw [← hlb, ← hxb] at B
  have K1 := Lib.hid k1
  have x2 := (cell_of B.out.1 2).trans rfl
  have x3 := (cell_of B.out.1 3).trans rfl
  have x4 := (cell_of B.out.1 4).trans rfl
  have y0 := (cell_of B.out.2 0).trans rfl
  have y1 := (cell_of B.out.2 1).trans rfl
  have m1 := k1.cell l1 (by simp)
  have m2 := k1.cell l2 (by simp)
  have m3 := k1.cell l3 (by simp)
  have m4 := k1.cell l4 (by simp)
  clear h s s2 e3 s3 l1 l2 l3 l4 l5 l6 hsame hs hnc hnt hnc1 hnc2 hnt1 k1 b1 b2
  go_enter Tryz.func15, Tryz.ntmps15
  go_upto_region 2 with fail
  rw [show (w.alloc (.cells #[.slice (some ⟨gC, 0, none⟩) nc cC, .slice (some ⟨gA, 0, none⟩) nt cA, .slice (some ⟨gC, 0, none⟩) nc2 cC, tT, .slice (some ⟨gA, 0, none⟩) nt1 cA] 59 (0, 0))).alloc (.cells #[.slice a nc c, .slice a2 nt c2] 25 (0, 0)) = w1 from hw1.symm, ← hlb, ← hxb]
  clear hw1 hlb hxb
  go_quiet ((go_at_call 56; go_must (exact quiet_of_drewN (HSM.out _ (K1.out.drewN _)))))
  obtain ⟨w2, hw2⟩ : ∃ w2, w2 = w1.drewN nq := ⟨_, rfl⟩
  have k2 : Keep [] w1 w2 := by rw [hw2]; exact (Keep.refl _ _).drewN _
  have K2 := Lib.hid (K1.out.trans k2)
  have B2 := Lib.hid (And.intro (k2.old B.out.1 (by simp)) (k2.old B.out.2 (by simp)))
  rw [← hw2]
  clear hw2 k2 x2 x3 x4 y0 y1 m1 m2 m3 m4 i0 i2 i3 i4 i7 i8 i9
  have y1 := (cell_of B2.out.2 1).trans rfl
  go_wp2_with fail
  clear y1
  go_loopw [6] (fun i6 wr => ∃ i : Nat, i6 = .int .i64 i ∧ i ≤ nt ∧ Keep [] w2 wr) (fun i6 _ => nt - (intOf i6).toNat)
  case atStart => exact ⟨0, rfl, Nat.zero_le _, Keep.refl _ _⟩
  case round =>
    obtain ⟨i, rfl, hi, hK⟩ := hrel
    have KR := Lib.hid hK
    have BR := Lib.hid (And.intro (hK.old B2.out.1 (by simp)) (hK.old B2.out.2 (by simp)))
    have y1 := (cell_of BR.out.2 1).trans rfl
    by_cases hlt : i < nt
    · have hit : i < l.threads.length := by have := HN.out.2; omega
      have hip : i < ps.length := by rw [S3.out.1]; exact hit
      have kw : Keep [] w wr := K2.out.trans hK
      obtain ⟨g, o, rfl, z0⟩ := (S2.out.keep0 kw).at_ i hip
      obtain ⟨a', c', he, s4⟩ := S3.out.2 i hip hit
      rw [he] at z0
      obtain ⟨gT, vc, gb, cb, hT, q1, q2, q3⟩ := (HL.out.keep0 kw).at_ hit
      have hmk := mark_at q3
      have hsp := sees_part q3
      have S4 := Lib.hid (s4.keep0 kw)
      have S5 := Lib.hid hsp
      obtain ⟨p, hp⟩ : ∃ p, p = l.threads[i] := ⟨_, rfl⟩
      have hpl : p.length ≤ 1000000000000 := by rw [hp]; exact HS.out.2.2 _ (List.getElem_mem hit)
      rw [← hp] at z0 S4 S5 q1 q2 hmk
      rw [← HN.out.2] at hT
      subst hT
      have x3 := (cell_of BR.out.1 3).trans rfl
      have x4 := (cell_of BR.out.1 4).trans rfl
      obtain ⟨np, hnp⟩ : ∃ x, x = p.length := ⟨_, rfl⟩
      obtain ⟨np1, hnp1⟩ : ∃ x, x = p.length + 1 := ⟨_, rfl⟩
      obtain ⟨np2, hnp2⟩ : ∃ x, x = p.length + 2 := ⟨_, rfl⟩
      obtain ⟨n1, n2⟩ := hmk
      rw [← hnp1] at n2
      rw [← hnp2] at q1
      rw [← hnp] at z0 q2 n1
      have HNP := Lib.hid hnp
      have HNP2 := Lib.hid hnp2
      have j1 : (np : Int) < np2 := by omega
      have j2 : (np1 : Int) < np2 := by omega
      have j3 : 0 ≤ (np : Int) := by omega
      have j4 : 0 ≤ (np1 : Int) := by omega
      have j5 : IntKind.i64.wrap ((np : Int) + 1) = (np1 : Int) := by rw [IntWalk.i64_in _ (by omega)]; omega
      have j6 : np < np2 := by omega
      have j7 : np1 < np2 := by omega
      have j8 : i < nt1 := by omega
      have j9 : (i : Int) < nt1 := by omega
      have hpl2 : np ≤ 1000000000000 := by omega
      clear hK kw hit hip he s4 q3 hsp hnp hnp1 hnp2 hpl hp
      go_wp2_with fail
      obtain ⟨wo, rfl⟩ : ∃ wo : World, wo = wr := ⟨_, rfl⟩
      clear n1 n2 j1 j2 j4 j5 j6 j7
      go_loopw [8] (fun i8 wi => ∃ j : Nat, i8 = .int .i64 j ∧ j ≤ np ∧ Keep [] wo wi) (fun i8 _ => np - (intOf i8).toNat)
      case atStart => exact ⟨0, rfl, Nat.zero_le _, Keep.refl _ _⟩
      case round =>
        obtain ⟨j, rfl, hj, hK⟩ := hrel
        have KI := Lib.hid hK
        by_cases hjl : j < np
        · have hjp : j < p.length := by have := HNP.out; omega
          obtain ⟨g', o', rfl, e0, e1, e2, e3, e4, e5, e6, e7⟩ := (S4.out.keep0 hK).ins hjp
          obtain ⟨g2, o2, hg2, f0, f1, f2, f3, f4, f5, f6, f7⟩ := (S5.out.keep0 hK).ins hjp
          simp only [Option.some.injEq, Addr.mk.injEq, and_true] at hg2
          obtain ⟨rfl, rfl⟩ := hg2
          rw [Nat.zero_add] at f0 f1 f2 f3 f4 f5 f6 f7
          obtain ⟨x, hx⟩ : ∃ x, x = p[j] := ⟨_, rfl⟩
          rw [← hx] at e0 e1 e2 e3 e4 e5 e6 e7 f0 f1 f2 f3 f4 f5 f6 f7
          have h1 := hK.cell x3 (by simp)
          have h2 := hK.cell x4 (by simp)
          have h3 := hK.cell y1 (by simp)
          have h4 := hK.cell z0 (by simp)
          have h5 := hK.cell q1 (by simp)
          have h6 := hK.cell q2 (by simp)
          have h7 : j < np2 := by have := HNP.out; have := HNP2.out; omega
          have h8 : (j : Int) < np2 := by omega
          clear hK hx hjp x3 x4 y1 z0 q1 q2
          go_wp2_with fail
          go_quiet (fail)
          go_wp2_with fail
          go_roundw
          case rel => exact ⟨j + 1, by go_num, hjl, KI.out.drewN _⟩
          case measure => simp [intOf]; omega
        · clear hK x3 x4 z0 q1 q2
          go_wp2_with fail
          go_roundw
          case rel => exact ⟨i + 1, by go_num, hlt, KR.out.trans KI.out⟩
          case measure => simp [intOf]; omega
    · clear hK
      go_wp2_with fail
      go_ret
      exact ⟨rfl, K2.out.trans KR.out⟩
end Go.Proofs.YtdkdeiofjoccnaaGreat.Lit
