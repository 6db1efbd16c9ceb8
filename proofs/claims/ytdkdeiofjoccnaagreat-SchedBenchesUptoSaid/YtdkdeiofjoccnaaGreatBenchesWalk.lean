/- SchedBenches: the walk (the seat .Z alone has it). Under way. -/
import Derived.Test.YtdkdeiofjoccnaaGreatLayBoth
import Derived.Test.YtdkdeiofjoccnaaGreatTurnsCame
import Derived.Test.YtdkdeiofjoccnaaGreatWreckWalk
namespace Go.Proofs.YtdkdeiofjoccnaaGreat.Lit
open Go.RowKit Go.Proofs.YtdkdeiofjoccnaaGreat.Mem Go.Proofs.YtdkdeiofjoccnaaGreat.Ar Go.Proofs.YtdkdeiofjoccnaaGreat.Un
open Go.Proofs.YtdkdeiofjoccnaaGreat.Ref (lay_any layR_any Half HalfR TwoM two_of ptrO bench_any)
set_option linter.unusedVariables false
set_option linter.unusedSimpArgs false
set_option maxRecDepth 100000

/-- what lend lends, its slices by their form -/
theorem lend_form (l : LP) (hs : Few l) {cv tv : Value} (w : World) (h : LitAt w cv tv l) :
    Calls Tryz.prog 14 #[.agg #[cv, tv]] w fun e w' => ∃ gC cC gA cA g79 aT nT cT bs, e = .returned (.agg #[.slice (some ⟨gC, 0, none⟩) l.cells.length cC, .slice (some ⟨gA, 0, none⟩) l.threads.length cA, .slice (some ⟨gC, 0, none⟩) (l.cells.length + 2) cC, .slice aT nT cT, .slice (some ⟨gA, 0, none⟩) (l.threads.length + 1) cA]) ∧
      LentAt w' w.heap.size gC cC gA cA g79 (.slice aT nT cT) bs l ∧ Keep [] w w' ∧ (gC < w'.heap.size ∧ gA < w'.heap.size ∧ ∀ x ∈ bs.map Prod.fst, x < w'.heap.size) ∧ ∀ x ∈ gC :: bs.map Prod.fst, w.heap.size ≤ x := by
  refine (lend l hs w h).mono ?_
  rintro e w' ⟨gC, cC, gA, cA, g79, tT, bs, rfl, hL, k⟩
  obtain ⟨aT, cT, rfl⟩ := row_form hL.ths.row
  refine ⟨gC, cC, gA, cA, g79, aT, _, cT, bs, rfl, hL, k, ⟨(hL.cells.lt gC rfl).2, (hL.all.lt gA rfl).2, fun x hx => ?_⟩, fun x hx => ?_⟩
  · obtain ⟨b, hb, rfl⟩ := List.mem_map.1 hx
    obtain ⟨i, hi, rfl⟩ := List.getElem_of_mem hb
    exact ((hL.ths.each i hi (by have := hL.ths.len; omega)).lt _ rfl).2
  · rcases List.mem_cons.1 hx with rfl | hx
    · exact (hL.cells.lt x rfl).1
    · obtain ⟨b, hb, rfl⟩ := List.mem_map.1 hx
      obtain ⟨i, hi, rfl⟩ := List.getElem_of_mem hb
      exact ((hL.ths.each i hi (by have := hL.ths.len; omega)).lt _ rfl).1

theorem LentAt.keepT {w w' : World} {base gC cC gA cA g79 : Nat} {tT : Value} {bs : List (Nat × Nat)} {l : LP} (h : LentAt w base gC cC gA cA g79 tT bs l) {T : List Nat} (k : Keep T w w') (hT : ∀ x ∈ T, x < base) : LentAt w' base gC cC gA cA g79 tT bs l :=
  ⟨Har.owns_block h.cells fun g hg => k.block g (h.cells.lt g hg).2 fun hm => Nat.lt_irrefl _ (Nat.lt_of_lt_of_le (hT g hm) (h.cells.lt g hg).1), h.ths.keep k hT, Har.owns_block h.all fun g hg => k.block g (h.all.lt g hg).2 fun hm => Nat.lt_irrefl _ (Nat.lt_of_lt_of_le (hT g hm) (h.all.lt g hg).1), k.old h.mark.1 (fun hm => Nat.lt_irrefl _ (Nat.lt_of_lt_of_le (hT _ hm) h.mark.2)), h.mark.2⟩

theorem TurnsIn.at_ {w : World} {g o : Nat} {ts : List Trn} (h : TurnsIn w (some ⟨g, o, none⟩) ts) {i : Nat} (hi : i < ts.length) : w.cell? ⟨g, o + i * 3, none⟩ = some (.bool ts[i].second) := by
  obtain ⟨g', o', e, c0, -⟩ := h.cell i hi
  simp only [Option.some.injEq, Addr.mk.injEq, and_true] at e
  obtain ⟨rfl, rfl⟩ := e
  exact c0
/-- both pairs of benches, apart -/
def Pairs2 (w0 w : World) (o1 o3 o2 o4 : Option Nat) : Prop := ∃ U V, TwoM w0 U w o1 o3 ∧ TwoM w0 V w o2 o4 ∧ ∀ x ∈ U, x ∉ V
section
variable {w0 w : World} {o1 o3 o2 o4 : Option Nat} {p q : Option Addr}
theorem Pairs2.kept (h : Pairs2 w0 w o1 o3 o2 o4) : Keep [] w0 w := by
  obtain ⟨U, V, h1, -, -⟩ := h
  exact h1.kept
theorem Pairs2.first (h : Pairs2 w0 w o1 o3 o2 o4) (hz : o1.isNone = false) (hp : p = o1.map fun b => ⟨b, 0, none⟩) (hq : q = o3.map fun b => ⟨b, 0, none⟩) (second look : Bool) (s : ByteArray) (hs : s.size ≤ 2097152) :
    Calls Tryz.prog 17 #[.pointer p, .pointer q, .agg #[.bool second, .bool look, .string s]] w fun e w' => e = .returned (.bool true) ∧ Pairs2 w0 w' o1 o3 o2 o4 := by
  obtain ⟨U, V, h1, h2, h3⟩ := h
  cases o1 with
  | none => simp at hz
  | some bb =>
    cases o3 with
    | none => exact h1.elim
    | some pb =>
      subst hp hq
      refine (bench_any h1 second look s hs).mono ?_
      rintro e w' ⟨he, T', h4, k, hn⟩
      refine ⟨he, T', V, h4, h2.frame k (fun x hx => ⟨h3 x hx, h1.ge x hx⟩), fun x hx hm => ?_⟩
      rcases hn x hx with hn | hn
      · exact h3 x hn hm
      · exact Nat.lt_irrefl _ (Nat.lt_of_lt_of_le (h2.lt x hm) hn)
theorem Pairs2.swap (h : Pairs2 w0 w o1 o3 o2 o4) : Pairs2 w0 w o2 o4 o1 o3 := by
  obtain ⟨U, V, h1, h2, h3⟩ := h
  exact ⟨V, U, h2, h1, fun x hx hm => h3 x hm hx⟩
theorem Pairs2.second (h : Pairs2 w0 w o1 o3 o2 o4) (hz : o2.isNone = false) (hp : p = o2.map fun b => ⟨b, 0, none⟩) (hq : q = o4.map fun b => ⟨b, 0, none⟩) (second look : Bool) (s : ByteArray) (hs : s.size ≤ 2097152) :
    Calls Tryz.prog 17 #[.pointer p, .pointer q, .agg #[.bool second, .bool look, .string s]] w fun e w' => e = .returned (.bool true) ∧ Pairs2 w0 w' o1 o3 o2 o4 :=
  (h.swap.first hz hp hq second look s hs).mono fun e w' ⟨he, h'⟩ => ⟨he, h'.swap⟩
end

set_option maxHeartbeats 8000000 in
theorem benches_walk (l m : LP) (hl : Few l) (hm : Few m) (il : Ref.InR l) (im : Ref.InR m) (a : Option Addr) (ct : Nat) (ts : List Trn) (hts : ts.length ≤ 1000000000000 ∧ ∀ t ∈ ts, t.play.size ≤ 2097152) {c1 t1 c2 t2 : Value} (w : World) (h1 : LitAt w c1 t1 l) (h2 : LitAt w c2 t2 m) (ht : TurnsIn w a ts) :
    Calls Tryz.prog 4 #[.agg #[c1, t1], .agg #[c2, t2], .slice a ts.length ct] w fun e w' => e = .returned (.bool true) ∧ Keep [] w w' := by
  obtain ⟨wa, hwa⟩ : ∃ wa, wa = (w.alloc (.cells #[c1, t1] 25)).alloc (.cells #[c2, t2] 25) := ⟨_, rfl⟩
  have ka : Keep [] w wa := by rw [hwa]; exact ((Keep.refl _ _).alloc _).alloc _
  have ba : wa.heap[w.heap.size]? = some (.cells #[c1, t1] 25 (0, 0)) := by rw [hwa]; exact alloc_some _ (alloc_new _ _)
  have bb : wa.heap[w.heap.size + 1]? = some (.cells #[c2, t2] 25 (0, 0)) := by rw [hwa]; exact new2 _ _ _
  obtain ⟨a1, n1, d1, rfl⟩ : ∃ a n c, c1 = .slice a n c := by obtain ⟨⟨a, c, e, -⟩, -⟩ := h1; exact ⟨_, _, _, e⟩
  obtain ⟨a2, n2, d2, rfl⟩ : ∃ a n c, t1 = .slice a n c := by obtain ⟨-, ⟨a, c, ps, e, -⟩⟩ := h1; exact ⟨_, _, _, e⟩
  obtain ⟨a3, n3, d3, rfl⟩ : ∃ a n c, c2 = .slice a n c := by obtain ⟨⟨a, c, e, -⟩, -⟩ := h2; exact ⟨_, _, _, e⟩
  obtain ⟨a4, n4, d4, rfl⟩ : ∃ a n c, t2 = .slice a n c := by obtain ⟨-, ⟨a, c, ps, e, -⟩⟩ := h2; exact ⟨_, _, _, e⟩
  have HL := Lib.hid (And.intro hl hm)
  have HI := Lib.hid (And.intro il im)
  have HT := Lib.hid hts
  have TI := Lib.hid (ht.keep ka)
  have KA := Lib.hid ka
  have BA := Lib.hid ba
  have BB := Lib.hid bb
  have LA := Lib.hid (h1.keep0 ka)
  have LB := Lib.hid (h2.keep0 ka)
  have y0 := (cell_of ba 0).trans rfl
  have y1 := (cell_of ba 1).trans rfl
  obtain ⟨nts, hnts⟩ : ∃ n, n = ts.length := ⟨_, rfl⟩
  have HNT := Lib.hid hnts
  rw [← hnts]
  clear hl hm il im hts ht ka ba bb h1 h2 hnts
  go_enter Tryz.func4, Tryz.ntmps4
  go_upto_region 1 with fail
  rw [show (w.alloc (.cells #[.slice a1 n1 d1, .slice a2 n2 d2] 25 (0, 0))).alloc (.cells #[.slice a3 n3 d3, .slice a4 n4 d4] 25 (0, 0)) = wa from hwa.symm]
  clear hwa
  go_wp2_with fail
  refine (lend_form l HL.out.1 wa LA.out).mono ?_
  rintro e w2 ⟨gC, cC, gA, cA, g79, aT, nT, cT, bs, rfl, hE, k2, hg, hge⟩
  obtain ⟨xb, hxb⟩ : ∃ b, b = w2.heap.size := ⟨_, rfl⟩
  obtain ⟨nc, hnc⟩ : ∃ n, n = l.cells.length := ⟨_, rfl⟩
  obtain ⟨nt, hnt⟩ : ∃ n, n = l.threads.length := ⟨_, rfl⟩
  have HN := Lib.hid (And.intro hnc hnt)
  rw [← hnc, ← hnt]
  obtain ⟨w3, hw3⟩ : ∃ w3, w3 = w2.alloc (.cells #[.slice (some ⟨gC, 0, none⟩) nc cC, .slice (some ⟨gA, 0, none⟩) nt cA, .slice (some ⟨gC, 0, none⟩) (nc + 2) cC, .slice aT nT cT, .slice (some ⟨gA, 0, none⟩) (nt + 1) cA] 59) := ⟨_, rfl⟩
  have k3 : Keep [] w2 w3 := by rw [hw3]; exact (Keep.refl _ _).alloc _
  have x3 : w3.heap[xb]? = some (.cells #[.slice (some ⟨gC, 0, none⟩) nc cC, .slice (some ⟨gA, 0, none⟩) nt cA, .slice (some ⟨gC, 0, none⟩) (nc + 2) cC, .slice aT nT cT, .slice (some ⟨gA, 0, none⟩) (nt + 1) cA] 59 (0, 0)) := by rw [hw3, hxb]; exact alloc_new _ _
  have E2 := Lib.hid hE
  have K2 := Lib.hid k2
  have K3 := Lib.hid k3
  have X3 := Lib.hid x3
  have G2 := Lib.hid (And.intro hg hge)
  have HX := Lib.hid hxb
  have y2 := fun o => (cell_of (alloc_some o (k2.old BB.out (by simp))) 0).trans rfl
  have y3 := fun o => (cell_of (alloc_some o (k2.old BB.out (by simp))) 1).trans rfl
  have LB3 := Lib.hid ((LB.out.keep0 k2).keep0 k3)
  clear y0 y1 hE k2 k3 x3 hg hge hnc hnt
  go_wp2_with fail
  rw [← hxb, ← hw3]
  clear hxb hw3 y2 y3
  refine (lend_form m HL.out.2 w3 LB3.out).mono ?_
  rintro e w4 ⟨gC', cC', gA', cA', g79', aT', nT', cT', bs', rfl, hE, k4, hg, hge⟩
  obtain ⟨yb, hyb⟩ : ∃ b, b = w4.heap.size := ⟨_, rfl⟩
  obtain ⟨nc', hnc⟩ : ∃ n, n = m.cells.length := ⟨_, rfl⟩
  obtain ⟨nt', hnt⟩ : ∃ n, n = m.threads.length := ⟨_, rfl⟩
  have HN' := Lib.hid (And.intro hnc hnt)
  rw [← hnc, ← hnt]
  obtain ⟨w5, hw5⟩ : ∃ w5, w5 = w4.alloc (.cells #[.slice (some ⟨gC', 0, none⟩) nc' cC', .slice (some ⟨gA', 0, none⟩) nt' cA', .slice (some ⟨gC', 0, none⟩) (nc' + 2) cC', .slice aT' nT' cT', .slice (some ⟨gA', 0, none⟩) (nt' + 1) cA'] 59) := ⟨_, rfl⟩
  have k5 : Keep [] w4 w5 := by rw [hw5]; exact (Keep.refl _ _).alloc _
  have x5 : w5.heap[yb]? = some (.cells #[.slice (some ⟨gC', 0, none⟩) nc' cC', .slice (some ⟨gA', 0, none⟩) nt' cA', .slice (some ⟨gC', 0, none⟩) (nc' + 2) cC', .slice aT' nT' cT', .slice (some ⟨gA', 0, none⟩) (nt' + 1) cA'] 59 (0, 0)) := by rw [hw5, hyb]; exact alloc_new _ _
  have E4 := Lib.hid hE
  have K4 := Lib.hid k4
  have K5 := Lib.hid k5
  have Y5 := Lib.hid x5
  have G4 := Lib.hid (And.intro hg hge)
  have HY := Lib.hid hyb
  have y2 := fun o => (cell_of (alloc_some o (k4.old X3.out (by simp))) 0).trans rfl
  have y3 := fun o => (cell_of (alloc_some o (k4.old X3.out (by simp))) 1).trans rfl
  have lit1 := (E2.out.lit.keep0 K3.out).keep0 (k4.trans k5)
  rw [← HN.out.1, ← HN.out.2] at lit1
  have LI1 := Lib.hid lit1
  clear hE k4 k5 x5 hg hge hnc hnt lit1
  go_wp2_with fail
  rw [← hyb, ← hw5]
  clear hyb hw5 y2 y3
  refine (lay_any HL.out.1.small LI1.out).mono ?_
  rintro e w6 ⟨o1, T1, rfl, hH, hT, k6⟩
  obtain ⟨p1, hp1⟩ : ∃ p : Option Addr, p = o1.map (fun b => ⟨b, 0, none⟩) := ⟨_, rfl⟩
  rw [show ptrO o1 = .pointer p1 by rw [hp1]; rfl]
  have P1 := Lib.hid hp1
  have H6 := Lib.hid (And.intro hH hT)
  have K6 := Lib.hid k6
  have y2 := (cell_of (k6.old Y5.out (by simp)) 0).trans rfl
  have y3 := (cell_of (k6.old Y5.out (by simp)) 1).trans rfl
  have lit2 := (E4.out.lit.keep0 K5.out).keep0 k6
  rw [← HN'.out.1, ← HN'.out.2] at lit2
  have LI2 := Lib.hid lit2
  obtain ⟨ev1, hev1⟩ : ∃ x, x = outE l := ⟨_, rfl⟩
  rw [← hev1]
  have V1 := Lib.hid hev1
  clear hH hT k6 lit2 hp1 hev1
  go_wp2_with fail
  refine (lay_any HL.out.2.small LI2.out).mono ?_
  rintro e w7 ⟨o2, T2, rfl, hH, hT, k7⟩
  obtain ⟨p2, hp2⟩ : ∃ p : Option Addr, p = o2.map (fun b => ⟨b, 0, none⟩) := ⟨_, rfl⟩
  rw [show ptrO o2 = .pointer p2 by rw [hp2]; rfl]
  have P2 := Lib.hid hp2
  have H7 := Lib.hid (And.intro hH hT)
  have K7 := Lib.hid k7
  have k37 := (((K4.out.trans K5.out).trans K6.out).trans k7)
  have K37 := Lib.hid k37
  have x7 := k37.old X3.out (by simp)
  have ka7 := (((E2.out.cells.lt gC rfl).1))
  clear ka7
  obtain ⟨ev2, hev2⟩ : ∃ x, x = outE m := ⟨_, rfl⟩
  rw [← hev2]
  have V2 := Lib.hid hev2
  have q0 := (cell_of x7 0).trans rfl
  have q1 := (cell_of x7 1).trans rfl
  have q2 := (cell_of x7 2).trans rfl
  have q3 := (cell_of x7 3).trans rfl
  have q4 := (cell_of x7 4).trans rfl
  have b7 := ((K2.out.trans K3.out).trans k37).old BA.out (by simp)
  have r0 := (cell_of b7 0).trans rfl
  have r1 := (cell_of b7 1).trans rfl
  have hk := kept (E2.out.keep0 (K3.out.trans k37)) (LA.out.keep0 ((K2.out.trans K3.out).trans k37)) HL.out.1
  unfold lentV at hk
  rw [← HN.out.1, ← HN.out.2] at hk
  have HK := Lib.hid hk
  clear hH hT k7 hp2 hev2 hk x7 b7 k37 y2 y3
  go_wp2_with fail
  refine HK.out.mono ?_
  clear HK
  rintro e w8 ⟨rfl, k8⟩
  have K8 := Lib.hid k8
  have k58 := ((K6.out.trans K7.out).trans k8)
  have x8 := k58.old Y5.out (by simp)
  have b8 := (((K2.out.trans K3.out).trans (K4.out.trans K5.out)).trans k58).old BB.out (by simp)
  clear q0 q1 q2 q3 q4 r0 r1
  have q0 := (cell_of x8 0).trans rfl
  have q1 := (cell_of x8 1).trans rfl
  have q2 := (cell_of x8 2).trans rfl
  have q3 := (cell_of x8 3).trans rfl
  have q4 := (cell_of x8 4).trans rfl
  have r0 := (cell_of b8 0).trans rfl
  have r1 := (cell_of b8 1).trans rfl
  have hk := kept (E4.out.keep0 (K5.out.trans k58)) (LB3.out.keep0 ((K4.out.trans K5.out).trans k58)) HL.out.2
  unfold lentV at hk
  rw [← HN'.out.1, ← HN'.out.2] at hk
  have HK := Lib.hid hk
  clear hk x8 b8 k58 k8
  go_wp2_with fail
  refine HK.out.mono ?_
  clear HK
  rintro e w9 ⟨rfl, k9⟩
  have k29 := ((K3.out.trans K37.out).trans K8.out).trans k9
  have x9 := (K37.out.trans (K8.out.trans k9)).old X3.out (by simp)
  have hwr := wreck (E2.out.keep0 k29) HL.out.1 w2.heap.size G2.out.1
  rw [← HN.out.1, ← HN.out.2] at hwr
  have HW := Lib.hid hwr
  have K9 := Lib.hid k9
  have K29 := Lib.hid k29
  clear q0 q1 q2 q3 q4 r0 r1 k9 k29 hwr
  have q0 := (cell_of x9 0).trans rfl
  have q1 := (cell_of x9 1).trans rfl
  clear x9
  go_wp2_with fail
  refine HW.out.mono ?_
  clear HW
  rintro e w10 ⟨rfl, hW10, k10⟩
  have hlow : ∀ x ∈ gC :: bs.map Prod.fst, x < w3.heap.size := by
    intro x hx
    have z := K3.out.size
    rcases List.mem_cons.1 hx with rfl | hx
    · have := G2.out.1.1; omega
    · have := G2.out.1.2.2 x hx; omega
  have k49 := (((K5.out.trans K6.out).trans K7.out).trans K8.out).trans K9.out
  have y9 := ((K6.out.trans K7.out).trans (K8.out.trans K9.out)).old Y5.out (by simp)
  have x10 := k10.old y9 (fun hm => by have := hlow _ hm; have := K4.out.size; have := HY.out; omega)
  have hwr := wreck ((E4.out.keep0 k49).keepT k10 hlow) HL.out.2 w4.heap.size G4.out.1
  rw [← HN'.out.1, ← HN'.out.2] at hwr
  have HW := Lib.hid hwr
  have W10 := Lib.hid hW10
  have K10 := Lib.hid k10
  clear q0 q1 hW10 k10 hwr k49 y9
  have q0 := (cell_of x10 0).trans rfl
  have q1 := (cell_of x10 1).trans rfl
  clear x10
  go_wp2_with fail
  refine HW.out.mono ?_
  clear HW
  rintro e w11 ⟨rfl, hW11, k11⟩
  have ka9 : Keep [] wa w9 := (((K2.out.trans K3.out).trans K37.out).trans K8.out).trans K9.out
  have ka11 : Keep [] wa w11 := (ka9.chain K10.out (fun x hx => .inr (G2.out.2 x hx))).chain k11 (fun x hx => .inr (Nat.le_trans (Nat.le_trans K2.out.size K3.out.size) (G4.out.2 x hx)))
  have KA11 := Lib.hid ka11
  have W11 := Lib.hid hW11
  have K11 := Lib.hid k11
  have b11 := ka11.old BA.out (by simp)
  clear q0 q1 hW11 k11 ka9 ka11
  have q0 := (cell_of b11 0).trans rfl
  have q1 := (cell_of b11 1).trans rfl
  clear b11
  go_wp2_with fail
  refine (layR_any HL.out.1.small (LA.out.keep0 KA11.out)).mono ?_
  rintro e w12 ⟨o3, T3, rfl, hH, hT, k12⟩
  obtain ⟨p3, hp3⟩ : ∃ p : Option Addr, p = o3.map (fun b => ⟨b, 0, none⟩) := ⟨_, rfl⟩
  rw [show ptrO o3 = .pointer p3 by rw [hp3]; rfl, ← V1.out]
  have P3 := Lib.hid hp3
  have H12 := Lib.hid (And.intro hH hT)
  have K12 := Lib.hid k12
  have ka12 := KA11.out.trans k12
  have KA12 := Lib.hid ka12
  have b12 := ka12.old BB.out (by simp)
  clear q0 q1 hH hT k12 hp3 ka12
  have q0 := (cell_of b12 0).trans rfl
  have q1 := (cell_of b12 1).trans rfl
  clear b12
  go_wp2_with fail
  refine (layR_any HL.out.2.small (LB.out.keep0 KA12.out)).mono ?_
  rintro e w13 ⟨o4, T4, rfl, hH, hT, k13⟩
  obtain ⟨p4, hp4⟩ : ∃ p : Option Addr, p = o4.map (fun b => ⟨b, 0, none⟩) := ⟨_, rfl⟩
  rw [show ptrO o4 = .pointer p4 by rw [hp4]; rfl, ← V2.out]
  have P4 := Lib.hid hp4
  have H13 := Lib.hid (And.intro hH hT)
  have K13 := Lib.hid k13
  clear q0 q1 hH hT k13 hp4
  have hka5 : Keep [] wa w5 := ((K2.out.trans K3.out).trans K4.out).trans K5.out
  have low1 : ∀ x ∈ gC :: bs.map Prod.fst, wa.heap.size ≤ x ∧ x < w5.heap.size := fun x hx => ⟨G2.out.2 x hx, Nat.lt_of_lt_of_le (hlow x hx) (Nat.le_trans K4.out.size K5.out.size)⟩
  have low2 : ∀ x ∈ gC' :: bs'.map Prod.fst, wa.heap.size ≤ x ∧ x < w5.heap.size := by
    intro x hx
    refine ⟨Nat.le_trans (Nat.le_trans K2.out.size K3.out.size) (G4.out.2 x hx), ?_⟩
    have z := K5.out.size
    rcases List.mem_cons.1 hx with rfl | hx
    · have := G4.out.1.1; omega
    · have := G4.out.1.2.2 x hx; omega
  have s5 := K6.out.size
  have s6 := K7.out.size
  have s7 := K8.out.size
  have s8 := K9.out.size
  have s9 := K10.out.size
  have s10 := K11.out.size
  have s11 := K12.out.size
  have s12 := K13.out.size
  have d1 : TwoM wa (T1 ++ T3) w13 o1 o3 := by
    have a2 := ((H6.out.1).since hka5).frame ((K7.out.trans K8.out).trans K9.out) (by simp)
    have a3 := a2.frame K10.out (fun x hx => ⟨fun hm => by have := H6.out.2 x hm; have := low1 x hx; omega, (low1 x hx).1⟩)
    have a4 := a3.frame K11.out (fun x hx => ⟨fun hm => by have := H6.out.2 x hm; have := low2 x hx; omega, (low2 x hx).1⟩)
    exact two_of HI.out.1 (a4.frame (K12.out.trans K13.out) (by simp)) (((H12.out.1).since KA11.out).frame K13.out (by simp)) (fun x h1 h2 => by have := H6.out.2 x h1; have := H12.out.2 x h2; omega)
  have d2 : TwoM wa (T2 ++ T4) w13 o2 o4 := by
    have a2 := ((H7.out.1).since (hka5.trans K6.out)).frame (K8.out.trans K9.out) (by simp)
    have a3 := a2.frame K10.out (fun x hx => ⟨fun hm => by have := H7.out.2 x hm; have := low1 x hx; omega, (low1 x hx).1⟩)
    have a4 := a3.frame K11.out (fun x hx => ⟨fun hm => by have := H7.out.2 x hm; have := low2 x hx; omega, (low2 x hx).1⟩)
    exact two_of HI.out.2 (a4.frame (K12.out.trans K13.out) (by simp)) ((H13.out.1).since KA12.out) (fun x h1 h2 => by have := H7.out.2 x h1; have := H13.out.2 x h2; omega)
  have hpp : Pairs2 wa w13 o1 o3 o2 o4 := ⟨_, _, d1, d2, fun x h1 h2 => by
    rcases List.mem_append.1 h1 with h1 | h1 <;> rcases List.mem_append.1 h2 with h2 | h2
    · have := H6.out.2 x h1; have := H7.out.2 x h2; omega
    · have := H6.out.2 x h1; have := H13.out.2 x h2; omega
    · have := H12.out.2 x h1; have := H7.out.2 x h2; omega
    · have := H12.out.2 x h1; have := H13.out.2 x h2; omega⟩
  obtain ⟨z1, hz1⟩ : ∃ z, z = o1.isNone := ⟨_, rfl⟩
  obtain ⟨z2, hz2⟩ : ∃ z, z = o2.isNone := ⟨_, rfl⟩
  have n1 : p1.isNone = z1 := by rw [P1.out, hz1, Option.isNone_map]
  have n3 : p3.isNone = z1 := by rw [P3.out, hz1, Option.isNone_map, d1.nil]
  have n2 : p2.isNone = z2 := by rw [P2.out, hz2, Option.isNone_map]
  have n4 : p4.isNone = z2 := by rw [P4.out, hz2, Option.isNone_map, d2.nil]
  have PP := Lib.hid hpp
  have Z1 := Lib.hid hz1
  have Z2 := Lib.hid hz2
  clear d1 d2 hpp hz1 hz2 hka5 low1 low2 s5 s6 s7 s8 s9 s10 s11 s12 hlow
  have HNT' : nts ≤ 1000000000000 := by rw [HNT.out]; exact HT.out.1
  go_wp2_with fail
  go_loopw [17, 18] (fun i ok wr => ∃ k : Nat, i = .int .i64 k ∧ k ≤ nts ∧ Pairs2 wa wr o1 o3 o2 o4) (fun i _ _ => nts - (intOf i).toNat)
  case atStart => exact ⟨0, rfl, Nat.zero_le _, PP.out⟩
  case round =>
    obtain ⟨k, rfl, hk, hP⟩ := hrel
    have PR := Lib.hid hP
    clear hP
    by_cases hlt : k < nts
    · have hkt : k < ts.length := by rw [← HNT.out]; exact hlt
      obtain ⟨g, o, rfl, c0, c1, c2⟩ := (TI.out.keep PR.out.kept).cell k hkt
      have hsz := HT.out.2 _ (List.getElem_mem hkt)
      obtain ⟨t, ht⟩ : ∃ t, t = ts[k] := ⟨_, rfl⟩
      rw [← ht] at c0 c1 c2 hsz
      have HS := Lib.hid hsz
      have HTK : Hid (t.second = (ts[k]'hkt).second) := Lib.hid (by rw [ht])
      have HKT := Lib.hid hkt
      clear ht hsz
      obtain ⟨second, look, play⟩ := t
      simp only at c0 c1 c2
      cases second
      · cases hzz : z1
        · rw [hzz] at n1 n3
          go_wp2_with fail
          refine (PR.out.first (by rw [← Z1.out]; exact hzz) P1.out P3.out false look play HS.out).mono ?_
          rintro e w14 ⟨rfl, hP⟩
          have PN := Lib.hid hP
          clear hP c0 c1 c2
          go_wp2_with fail
          go_roundw
          case rel => exact ⟨k + 1, by go_num, by omega, PN.out⟩
          case measure => simp [intOf]; omega
        · rw [hzz] at n1 n3
          go_wp2_with fail
          go_roundw
          case rel => exact ⟨k + 1, by go_num, by omega, PR.out⟩
          case measure => simp [intOf]; omega
      · cases hzz : z2
        · rw [hzz] at n2 n4
          go_wp2_with fail
          refine (PR.out.second (by rw [← Z2.out]; exact hzz) P2.out P4.out true look play HS.out).mono ?_
          rintro e w14 ⟨rfl, hP⟩
          have PN := Lib.hid hP
          have d0 := (TI.out.keep PN.out.kept).at_ HKT.out
          rw [← HTK.out] at d0
          clear hP c0 c1 c2
          go_wp2_with fail
          go_roundw
          case rel => exact ⟨k + 1, by go_num, by omega, PN.out⟩
          case measure => simp [intOf]; omega
        · rw [hzz] at n2 n4
          go_wp2_with fail
          go_roundw
          case rel => exact ⟨k + 1, by go_num, by omega, PR.out⟩
          case measure => simp [intOf]; omega
    · go_wp2_with fail
      exact bodyPost_ret (results_tmp rfl _ _ _) rfl ⟨rfl, KA.out.trans PR.out.kept⟩
end Go.Proofs.YtdkdeiofjoccnaaGreat.Lit
