/- SchedRuns: the walk (the seat .Z alone has it). -/
import Derived.Test.YtdkdeiofjoccnaaGreatWreckWalk
import Derived.Test.YtdkdeiofjoccnaaGreatWorded
import Derived.Test.YtdkdeiofjoccnaaGreatRunBoth
import Derived.Test.YtdkdeiofjoccnaaGreatCopyLit
namespace Go.Proofs.YtdkdeiofjoccnaaGreat.Lit
open Go.RowKit Go.Proofs.YtdkdeiofjoccnaaGreat.Mem Go.Proofs.YtdkdeiofjoccnaaGreat.Ar Go.Proofs.YtdkdeiofjoccnaaGreat.Un
set_option linter.unusedVariables false
set_option linter.unusedSimpArgs false
set_option maxRecDepth 100000

theorem notW_wIn (x : Int) : Ref.wIn (notW x) := by
  have h := bits_within .xor .u64 IntKind.u64.max x
  have e1 : IntKind.u64.min = 0 := by decide
  have e2 : IntKind.u64.max = 18446744073709551615 := by decide
  unfold Ref.wIn notW
  omega
theorem wreckP_in (l : LP) : Ref.InR (wreckP l) := by
  refine ⟨fun x hx => ?_, fun p hp x hx => ?_⟩
  · obtain ⟨y, -, rfl⟩ := List.mem_map.1 hx
    exact notW_wIn y
  · obtain ⟨q, -, rfl⟩ := List.mem_map.1 hp
    obtain ⟨y, -, rfl⟩ := List.mem_map.1 hx
    refine ⟨?_, ?_⟩ <;> (unfold Ref.wIn wi; simp)
/-- of a size that can be walked -/
def Few (l : LP) : Prop := l.cells.length ≤ 1000000000000 ∧ l.threads.length ≤ 1000000000000 ∧ ∀ p ∈ l.threads, p.length ≤ 1000000000000
theorem Few.small {l : LP} (h : Few l) : Small l := ⟨Nat.le_trans h.1 (by omega), Nat.le_trans h.2.1 (by omega), fun p hp => Nat.le_trans (h.2.2 p hp) (by omega)⟩
theorem wreckP_few {l : LP} (h : Few l) : Few (wreckP l) := by
  refine ⟨by simpa [wreckP] using h.1, by simpa [wreckP] using h.2.1, fun p hp => ?_⟩
  obtain ⟨q, hq, rfl⟩ := List.mem_map.1 hp
  simpa using h.2.2 q hq


theorem sameB_self (x : List Int) : sameB x x = true := by simp [sameB]
set_option maxHeartbeats 8000000 in
theorem runs_walk (l : LP) (hs : Few l) (hi : Ref.InR l) (s : ByteArray) (hsz : s.size ≤ 2097152) {cv tv : Value} (w : World) (h : LitAt w cv tv l) :
    Calls Tryz.prog 5 #[.agg #[cv, tv], .string s] w fun e w' => e = .returned (.bool true) ∧ Keep [] w w' := by
  obtain ⟨w1, hw1⟩ : ∃ w1, w1 = w.alloc (.cells #[cv, tv] 25) := ⟨_, rfl⟩
  have k1 : Keep [] w w1 := by rw [hw1]; exact (Keep.refl _ _).alloc _
  obtain ⟨lb, hlb⟩ : ∃ lb, lb = w.heap.size := ⟨_, rfl⟩
  have b1 : w1.heap[lb]? = some (.cells #[cv, tv] 25 (0, 0)) := by rw [hw1, hlb]; exact alloc_new _ _
  have HS := Lib.hid hs
  have HI := Lib.hid hi
  have K1 := Lib.hid k1
  have L1 := Lib.hid (h.keep0 k1)
  have B1 := Lib.hid b1
  have y0 := (cell_of b1 0).trans rfl
  have y1 := (cell_of b1 1).trans rfl
  obtain ⟨⟨a, c, ecv, -⟩, ⟨a2, c2, ps, etv, -⟩⟩ := h
  have EV := Lib.hid (And.intro ecv etv)
  have ct : cv.oneCell' = true := by rw [ecv]; rfl
  have tt : tv.oneCell' = true := by rw [etv]; rfl
  clear hs hi k1 b1 ecv etv
  go_enter Tryz.func5, Tryz.ntmps5
  go_wp2_with fail
  rw [show w.alloc (.cells #[cv, tv] 25 (0, 0)) = w1 from hw1.symm, ← hlb]
  refine (lend l HS.out w1 L1.out).mono ?_
  rintro e w2 ⟨gC, cC, gA, cA, g79, tT, bs, he, hL, k2⟩
  obtain ⟨aT, nT, cT, rfl⟩ : ∃ aT nT cT, tT = .slice aT nT cT := by
    obtain ⟨a, c, e⟩ := row_form hL.ths.row
    exact ⟨_, _, _, e⟩
  obtain ⟨nc, hnc⟩ : ∃ n, n = l.cells.length := ⟨_, rfl⟩
  obtain ⟨nt, hnt⟩ : ∃ n, n = l.threads.length := ⟨_, rfl⟩
  have HN := Lib.hid (And.intro hnc hnt)
  unfold lentV at he
  rw [← hnc, ← hnt] at he
  subst he
  have L2 := Lib.hid hL
  have K2 := Lib.hid k2
  have hgl : gC < w2.heap.size ∧ gA < w2.heap.size ∧ ∀ x ∈ bs.map Prod.fst, x < w2.heap.size := ⟨(hL.cells.lt gC rfl).2, (hL.all.lt gA rfl).2, by
    intro x hx
    obtain ⟨b, hb, rfl⟩ := List.mem_map.1 hx
    obtain ⟨i, hi, rfl⟩ := List.getElem_of_mem hb
    exact ((hL.ths.each i hi (by have := hL.ths.len; omega)).lt _ rfl).2⟩
  have GL := Lib.hid hgl
  have GE : Hid (∀ x ∈ gC :: bs.map Prod.fst, w1.heap.size ≤ x) := Lib.hid (by
    intro x hx
    rcases List.mem_cons.1 hx with rfl | hx
    · exact (hL.cells.lt x rfl).1
    · obtain ⟨b, hb, rfl⟩ := List.mem_map.1 hx
      obtain ⟨i, hi, rfl⟩ := List.getElem_of_mem hb
      exact ((hL.ths.each i hi (by have := hL.ths.len; omega)).lt _ rfl).1)
  have lit0 := hL.lit
  rw [← hnc, ← hnt] at lit0
  obtain ⟨xb, hxb⟩ : ∃ xb, xb = w2.heap.size := ⟨_, rfl⟩
  obtain ⟨w4, hw4⟩ : ∃ w4, w4 = (w2.alloc (.cells #[.slice (some ⟨gC, 0, none⟩) nc cC, .slice (some ⟨gA, 0, none⟩) nt cA, .slice (some ⟨gC, 0, none⟩) (nc + 2) cC, .slice aT nT cT, .slice (some ⟨gA, 0, none⟩) (nt + 1) cA] 59)).alloc (.cells #[.slice (some ⟨gC, 0, none⟩) nc cC, .slice (some ⟨gA, 0, none⟩) nt cA] 25) := ⟨_, rfl⟩
  have k4 : Keep [] w2 w4 := by rw [hw4]; exact ((Keep.refl _ _).alloc _).alloc _
  have X4 := Lib.hid (show w4.heap[xb]? = some (.cells #[.slice (some ⟨gC, 0, none⟩) nc cC, .slice (some ⟨gA, 0, none⟩) nt cA, .slice (some ⟨gC, 0, none⟩) (nc + 2) cC, .slice aT nT cT, .slice (some ⟨gA, 0, none⟩) (nt + 1) cA] 59 (0, 0)) by rw [hw4, hxb]; exact alloc_some _ (alloc_new _ _))
  have G4 := Lib.hid (show w4.heap[xb + 1]? = some (.cells #[.slice (some ⟨gC, 0, none⟩) nc cC, .slice (some ⟨gA, 0, none⟩) nt cA] 25 (0, 0)) by rw [hw4, hxb]; exact new2 _ _ _)
  have S4 := Lib.hid (show w4.heap.size = xb + 2 by rw [hw4, hxb]; simp)
  have K4 := Lib.hid k4
  have LG := Lib.hid (show LitAt w4 (.slice (some ⟨gC, 0, none⟩) nc cC) (.slice (some ⟨gA, 0, none⟩) nt cA) l from lit0.keep0 k4)
  have HX := Lib.hid hxb
  rw [← hlb] at *
  clear hL k2 hnc hnt k4 hgl lit0 y0 y1
  go_wp2_with fail
  rw [← hxb, ← hw4]
  clear hw4 hxb
  refine (run_any HS.out.small HI.out LG.out s hsz).mono ?_
  rintro e w5 ⟨ov, rv, rfl, hO, k5⟩
  obtain ⟨ao, co, eo⟩ := row_form hO.cells
  obtain ⟨ar, cr, er⟩ := row_form hO.regs
  obtain ⟨no, hno⟩ : ∃ n, n = (outC l s).length := ⟨_, rfl⟩
  obtain ⟨nr, hnr⟩ : ∃ n, n = (outG l s).length := ⟨_, rfl⟩
  have NO := Lib.hid (And.intro hno hnr)
  rw [← hno] at eo
  rw [← hnr] at er
  subst eo er
  obtain ⟨ob, hob⟩ : ∃ b, b = w5.heap.size := ⟨_, rfl⟩
  obtain ⟨w6, hw6⟩ : ∃ w6, w6 = w5.alloc (.cells #[.slice ao no co, .slice ar nr cr] 68) := ⟨_, rfl⟩
  have k6 : Keep [] w5 w6 := by rw [hw6]; exact (Keep.refl _ _).alloc _
  have O5 := Lib.hid hO
  have RB : Hid (∀ x, (x ∈ (Value.slice ao no co).ownBlock.toList ∨ x ∈ (Value.slice ar nr cr).ownBlock.toList) → xb + 2 ≤ x ∧ x < ob) := Lib.hid (by
    have h4 := S4.out
    rintro x (hx | hx)
    · have q := hO.cells.lt x (by simpa using hx)
      omega
    · have q := hO.regs.lt x (by simpa using hx)
      omega)
  have K6 := Lib.hid (k5.trans k6)
  have K56 := Lib.hid k6
  have X6 := Lib.hid (K6.out.old X4.out (by simp))
  have g6 := K6.out.old G4.out (by simp)
  have G6 := Lib.hid g6
  have o6 : w6.heap[ob]? = some (.cells #[.slice ao no co, .slice ar nr cr] 68 (0, 0)) := by rw [hw6, hob]; exact alloc_new _ _
  have B6 := Lib.hid o6
  have S6 := Lib.hid (show w6.heap.size = ob + 1 ∧ xb + 2 ≤ ob by rw [hw6, hob]; have := k5.size; have := S4.out; simp; omega)
  have y0 := fun o => (cell_of (alloc_some o (k5.old G4.out (by simp))) 0).trans rfl
  have y1 := fun o => (cell_of (alloc_some o (k5.old G4.out (by simp))) 1).trans rfl
  have LG6 := Lib.hid (LG.out.keep0 K6.out)
  clear hO k5 k6 hno hnr g6 o6
  go_wp2_with fail
  rw [← hob, ← hw6]
  clear hw6 hob y0 y1
  refine (run_any HS.out.small HI.out LG6.out s hsz).mono ?_
  rintro e w7 ⟨zv, zr, rfl, hO, k7⟩
  obtain ⟨az, cz, ez⟩ := row_form hO.cells
  obtain ⟨aq, cq, eq⟩ := row_form hO.regs
  rw [← NO.out.1] at ez
  rw [← NO.out.2] at eq
  subst ez eq
  obtain ⟨zb, hzb⟩ : ∃ b, b = w7.heap.size := ⟨_, rfl⟩
  obtain ⟨w8, hw8⟩ : ∃ w8, w8 = w7.alloc (.cells #[.slice az no cz, .slice aq nr cq] 68) := ⟨_, rfl⟩
  have k8 : Keep [] w7 w8 := by rw [hw8]; exact (Keep.refl _ _).alloc _
  have Z7 := Lib.hid hO
  have K8 := Lib.hid (k7.trans k8)
  have K78 := Lib.hid k8
  have X8 := Lib.hid (K8.out.old X6.out (by simp))
  have G8 := Lib.hid (K8.out.old G6.out (by simp))
  have O8 := Lib.hid (K8.out.old B6.out (by simp))
  have z8 : w8.heap[zb]? = some (.cells #[.slice az no cz, .slice aq nr cq] 68 (0, 0)) := by rw [hw8, hzb]; exact alloc_new _ _
  have Z8 := Lib.hid z8
  have S8 := Lib.hid (show w8.heap.size = zb + 1 ∧ ob + 1 ≤ zb by rw [hw8, hzb]; have := k7.size; have := S6.out; simp; omega)
  have K18 := Lib.hid (((K2.out.trans K4.out).trans K6.out).trans K8.out)
  have b8 := K18.out.old B1.out (by simp)
  have B8 := Lib.hid b8
  have k17 := ((K2.out.trans K4.out).trans K6.out).trans k7
  have y0 := fun o => (cell_of (alloc_some o (k17.old B1.out (by simp))) 0).trans rfl
  have y1 := fun o => (cell_of (alloc_some o (k17.old B1.out (by simp))) 1).trans rfl
  have L8 := Lib.hid (L1.out.keep0 K18.out)
  clear hO k7 k8 z8 b8 k17
  go_wp2_with fail
  rw [← hzb, ← hw8]
  clear hw8 hzb y0 y1
  refine (runR_any HS.out.small L8.out s hsz).mono ?_
  rintro e w9 ⟨pv, pr, rfl, hO, k9⟩
  obtain ⟨ap, cp, ep⟩ := row_form hO.cells
  obtain ⟨aw, cw, ew⟩ := row_form hO.regs
  rw [← NO.out.1] at ep
  rw [← NO.out.2] at ew
  subst ep ew
  obtain ⟨pb, hpb⟩ : ∃ b, b = w9.heap.size := ⟨_, rfl⟩
  obtain ⟨w10, hw10⟩ : ∃ w10, w10 = w9.alloc (.cells #[.slice ap no cp, .slice aw nr cw] 68) := ⟨_, rfl⟩
  have k10 : Keep [] w9 w10 := by rw [hw10]; exact (Keep.refl _ _).alloc _
  have P9 := Lib.hid hO
  have K10 := Lib.hid (k9.trans k10)
  have K910 := Lib.hid k10
  have X10 := Lib.hid (K10.out.old X8.out (by simp))
  have G10 := Lib.hid (K10.out.old G8.out (by simp))
  have O10 := Lib.hid (K10.out.old O8.out (by simp))
  have Z10 := Lib.hid (K10.out.old Z8.out (by simp))
  have B10 := Lib.hid (K10.out.old B8.out (by simp))
  have p10 : w10.heap[pb]? = some (.cells #[.slice ap no cp, .slice aw nr cw] 68 (0, 0)) := by rw [hw10, hpb]; exact alloc_new _ _
  have P10 := Lib.hid p10
  have S10 := Lib.hid (show w10.heap.size = pb + 1 ∧ zb + 1 ≤ pb by rw [hw10, hpb]; have := k9.size; have := S8.out; simp; omega)
  have L10 := Lib.hid (L8.out.keep0 K10.out)
  have LE10 := Lib.hid (L2.out.keep0 (((K4.out.trans K6.out).trans K8.out).trans K10.out))
  have OS10 : Hid (OutS w10 (.slice ao no co) (.slice ar nr cr) (outC l s) (outG l s)) := Lib.hid (O5.out.outS.keep0 ((K56.out.trans K8.out).trans K10.out))
  have ZS10 : Hid (OutS w10 (.slice az no cz) (.slice aq nr cq) (outC l s) (outG l s)) := Lib.hid (Z7.out.outS.keep0 (K78.out.trans K10.out))
  have PS10 : Hid (OutS w10 (.slice ap no cp) (.slice aw nr cw) (outC l s) (outG l s)) := Lib.hid (P9.out.outS.keep0 K910.out)
  clear hO k9 k10
  obtain ⟨ev, hev⟩ : ∃ x, x = outE l := ⟨_, rfl⟩
  rw [← hev]
  go_upto_region 6 with fail
  rw [← hpb, ← hw10]
  clear hw10 hpb
  have q0 := (cell_of O10.out 0).trans rfl
  have q1 := (cell_of O10.out 1).trans rfl
  have r0 := (cell_of p10 0).trans rfl
  have r1 := (cell_of p10 1).trans rfl
  clear p10
  go_wp2_with fail
  have hlen := out_len l s
  have HO := Lib.hid hlen
  refine (sameOutcome OS10.out PS10.out (by omega) (by omega)).mono ?_
  rintro e w11 ⟨he, k11⟩
  rw [sameB_self, sameB_self] at he
  subst he
  have K11 := Lib.hid k11
  have z11 := k11.old Z10.out (by simp)
  have p11 := k11.old P10.out (by simp)
  clear q0 q1 r0 r1 k11
  have q0 := (cell_of z11 0).trans rfl
  have q1 := (cell_of z11 1).trans rfl
  have r0 := (cell_of p11 0).trans rfl
  have r1 := (cell_of p11 1).trans rfl
  clear z11 p11
  go_wp2_with fail
  refine (sameOutcome (ZS10.out.keep0 K11.out) (PS10.out.keep0 K11.out) (by omega) (by omega)).mono ?_
  rintro e w12 ⟨he, k12⟩
  rw [sameB_self, sameB_self] at he
  subst he
  have K12 := Lib.hid (K11.out.trans k12)
  have x12 := K12.out.old X10.out (by simp)
  have b12 := K12.out.old B10.out (by simp)
  clear q0 q1 r0 r1 k12 hlen
  have q0 := (cell_of x12 0).trans rfl
  have q1 := (cell_of x12 1).trans rfl
  have q2 := (cell_of x12 2).trans rfl
  have q3 := (cell_of x12 3).trans rfl
  have q4 := (cell_of x12 4).trans rfl
  have r0 := (cell_of b12 0).trans rfl
  have r1 := (cell_of b12 1).trans rfl
  have hk := kept (LE10.out.keep0 K12.out) (L10.out.keep0 K12.out) HS.out
  unfold lentV at hk
  rw [← HN.out.1, ← HN.out.2] at hk
  have HK := Lib.hid hk
  clear x12 b12 hk
  go_wp2_with fail
  refine HK.out.mono ?_
  clear HK
  rintro e w13 ⟨rfl, k13⟩
  have K13 := Lib.hid (K12.out.trans k13)
  clear q0 q1 q2 q3 q4 r0 r1 k13
  have o13 := K13.out.old O10.out (by simp)
  have q0 := (cell_of o13 0).trans rfl
  have O13 := Lib.hid o13
  have OR13 : Hid (OutRow w13 w4.heap.size (.slice ao no co) (.slice ar nr cr) (outC l s) (outG l s)) := Lib.hid (O5.out.keep (((K56.out.trans K8.out).trans K10.out).trans K13.out) (by simp))
  clear o13
  have hw := worded (Pick.owns_mono OR13.out.cells (Nat.zero_le _)) (by have := HO.out; omega) 400
  have HW := Lib.hid hw
  clear hw
  go_wp2_with fail
  refine HW.out.mono ?_
  clear HW
  rintro e w14 ⟨rfl, k14⟩
  have K14 := Lib.hid k14
  have o14 := k14.old O13.out (fun hm => by have := RB.out ob (.inl hm); omega)
  clear q0
  have q1 := (cell_of o14 1).trans rfl
  clear o14
  have hr14 := Har.owns_block OR13.out.regs (fun g hg => k14.block g (OR13.out.regs.lt g hg).2 (fun hm => OR13.out.off g (by simpa using hm) hg))
  have hw := worded (Pick.owns_mono hr14 (Nat.zero_le _)) (by have := HO.out; omega) 500
  have HW := Lib.hid hw
  clear hw hr14 k14
  go_wp2_with fail
  refine HW.out.mono ?_
  clear HW
  rintro e w15 ⟨rfl, k15⟩
  have kw : Keep ((Value.slice ao no co).ownBlock.toList ++ (Value.slice ar nr cr).ownBlock.toList) w13 w15 := (K14.out.mono (fun x hx => List.mem_append_left _ hx)).trans (k15.mono (fun x hx => List.mem_append_right _ hx))
  have hin : ∀ x ∈ (Value.slice ao no co).ownBlock.toList ++ (Value.slice ar nr cr).ownBlock.toList, xb + 2 ≤ x ∧ x < ob := fun x hx => RB.out x (List.mem_append.1 hx)
  have KW := Lib.hid kw
  have IN := Lib.hid hin
  have s6 := S6.out
  have s8 := S8.out
  have s10 := S10.out
  have n1 : zb ∉ (Value.slice ao no co).ownBlock.toList ++ (Value.slice ar nr cr).ownBlock.toList := fun hm => by have := hin zb hm; omega
  have n2 : pb ∉ (Value.slice ao no co).ownBlock.toList ++ (Value.slice ar nr cr).ownBlock.toList := fun hm => by have := hin pb hm; omega
  have n3 : ob ∉ (Value.slice ao no co).ownBlock.toList ++ (Value.slice ar nr cr).ownBlock.toList := fun hm => by have := hin ob hm; omega
  have n4 : xb + 1 ∉ (Value.slice ao no co).ownBlock.toList ++ (Value.slice ar nr cr).ownBlock.toList := fun hm => by have := hin (xb + 1) hm; omega
  have z15 := kw.old (K13.out.old Z10.out (by simp)) n1
  have p15 := kw.old (K13.out.old P10.out (by simp)) n2
  have P15 := Lib.hid p15
  have O15 := Lib.hid (kw.old O13.out n3)
  have G15 := Lib.hid (kw.old (K13.out.old G10.out (by simp)) n4)
  have ZS15 : Hid (OutS w15 (.slice az no cz) (.slice aq nr cq) (outC l s) (outG l s)) := Lib.hid ((Z7.out.keep (K78.out.trans (K10.out.trans K13.out)) (by simp)).keep kw (fun x hx => by have := hin x hx; omega)).outS
  have PS15 : Hid (OutS w15 (.slice ap no cp) (.slice aw nr cw) (outC l s) (outG l s)) := Lib.hid ((P9.out.keep (K910.out.trans K13.out) (by simp)).keep kw (fun x hx => by have := hin x hx; omega)).outS
  clear q1 k15 kw hin n1 n2 n3 n4
  have q0 := (cell_of z15 0).trans rfl
  have q1 := (cell_of z15 1).trans rfl
  have r0 := (cell_of p15 0).trans rfl
  have r1 := (cell_of p15 1).trans rfl
  clear z15 p15
  go_wp2_with fail
  refine (sameOutcome ZS15.out PS15.out (by have := HO.out; omega) (by have := HO.out; omega)).mono ?_
  rintro e w16 ⟨he, k16⟩
  rw [sameB_self, sameB_self] at he
  subst he
  have g16 := k16.old G15.out (by simp)
  have kk : Keep [] w2 w16 := (((((K4.out.trans K6.out).trans K8.out).trans K10.out).trans K13.out).chain KW.out (fun x hx => .inr (by have := IN.out x hx; have := HX.out; omega))).trans k16
  have hL16 := L2.out.keep0 kk
  have K216 := Lib.hid kk
  have hwr := wreck hL16 HS.out w2.heap.size GL.out
  rw [← HN.out.1, ← HN.out.2] at hwr
  have HW := Lib.hid hwr
  have O16 := Lib.hid (k16.old O15.out (by simp))
  have P16 := Lib.hid (k16.old P15.out (by simp))
  have G16 := Lib.hid g16
  clear q0 q1 r0 r1 k16 kk hL16 hwr
  have q0 := (cell_of g16 0).trans rfl
  have q1 := (cell_of g16 1).trans rfl
  clear g16
  go_wp2_with fail
  refine HW.out.mono ?_
  clear HW
  rintro e w17 ⟨rfl, hW17, k17⟩
  have hup : ∀ x ∈ gC :: bs.map Prod.fst, x < xb := by
    intro x hx
    have h0 := GL.out
    have h1 := HX.out
    rcases List.mem_cons.1 hx with rfl | hx
    · omega
    · have := h0.2.2 x hx
      omega
  have m1 : ob ∉ gC :: bs.map Prod.fst := fun hm => by have := hup ob hm; omega
  have m2 : pb ∉ gC :: bs.map Prod.fst := fun hm => by have := hup pb hm; omega
  have m3 : xb + 1 ∉ gC :: bs.map Prod.fst := fun hm => by have := hup (xb + 1) hm; omega
  have O17 := Lib.hid (k17.old O16.out m1)
  have P17 := Lib.hid (k17.old P16.out m2)
  have g17 := k17.old G16.out m3
  have G17 := Lib.hid g17
  have W17 := Lib.hid hW17
  have K17 := Lib.hid k17
  have lit17 := hW17.lit
  rw [← HN.out.1, ← HN.out.2] at lit17
  have LI17 := Lib.hid lit17
  clear q0 q1 k17 hW17 hup m1 m2 m3 lit17
  have q0 := (cell_of g17 0).trans rfl
  have q1 := (cell_of g17 1).trans rfl
  clear g17
  go_wp2_with fail
  refine (run_any (wreckP_few HS.out).small (wreckP_in l) LI17.out s hsz).mono ?_
  rintro e w18 ⟨ov2, rv2, rfl, hO, k18⟩
  obtain ⟨ao2, co2, eo2⟩ := row_form hO.cells
  obtain ⟨ar2, cr2, er2⟩ := row_form hO.regs
  obtain ⟨no2, hno2⟩ : ∃ n, n = (outC (wreckP l) s).length := ⟨_, rfl⟩
  obtain ⟨nr2, hnr2⟩ : ∃ n, n = (outG (wreckP l) s).length := ⟨_, rfl⟩
  have NO2 := Lib.hid (And.intro hno2 hnr2)
  rw [← hno2] at eo2
  rw [← hnr2] at er2
  subst eo2 er2
  have o18 := k18.old O17.out (by simp)
  have p18 := k18.old P17.out (by simp)
  have g18 := k18.old G17.out (by simp)
  obtain ⟨h19, k19⟩ := two_set o18 (.slice ao2 no2 co2) (.slice ar2 nr2 cr2)
  have N2 := Lib.hid hO
  have q0' := (cell_of o18 0).trans rfl
  have q1' := (cell_of o18 1).trans rfl
  have f0 := free_of o18
  obtain ⟨w19, hw19⟩ : ∃ w19, w19 = (w18.setCell ⟨ob, 0, none⟩ (.slice ao2 no2 co2)).setCell ⟨ob, 1, none⟩ (.slice ar2 nr2 cr2) := ⟨_, rfl⟩
  rw [← hw19] at h19 k19
  have H19 := Lib.hid h19
  have K19 := Lib.hid k19
  have K18b := Lib.hid k18
  have sz17 : Hid (pb < w17.heap.size) := Lib.hid (lt_of P17.out)
  have P19 := Lib.hid (k19.old p18 (by simp; omega))
  have g19 := k19.old g18 (by simp; omega)
  have G19 := Lib.hid g19
  have OS19 : Hid (OutS w19 (.slice ao2 no2 co2) (.slice ar2 nr2 cr2) (outC (wreckP l) s) (outG (wreckP l) s)) := Lib.hid (hO.keep k19 (fun x hx => by have := lt_of O17.out; simp at hx; omega)).outS
  have wt := ((W17.out.keep k18 (by simp)).keep k19 (fun x hx => by have := HX.out; simp at hx; omega)).lit
  rw [← HN.out.1, ← HN.out.2] at wt
  have LI19 := Lib.hid wt
  clear q0 q1 hO k18 h19 k19 o18 p18 g18 hno2 hnr2 wt
  obtain ⟨ev2, hev2⟩ : ∃ x, x = outE (wreckP l) := ⟨_, rfl⟩
  go_upto_region 14 with fail
  rw [← hw19]
  clear hw19 q0' q1' f0
  have q0 := (cell_of g19 0).trans rfl
  have q1 := (cell_of g19 1).trans rfl
  clear g19
  go_wp2_with fail
  refine (copy_lit (wreckP l) (wreckP_few HS.out) w19 LI19.out).mono ?_
  rintro e w20 ⟨cv2, tv2, rfl, hl20, k20⟩
  have L20 := Lib.hid hl20
  have K20 := Lib.hid k20
  have ecv : ∃ a n c, cv2 = .slice a n c := by obtain ⟨⟨a, c, e, -⟩, -⟩ := hl20; exact ⟨_, _, _, e⟩
  have etv : ∃ a n c, tv2 = .slice a n c := by obtain ⟨-, ⟨a, c, ps, e, -⟩⟩ := hl20; exact ⟨_, _, _, e⟩
  obtain ⟨a3, n3, c3, rfl⟩ := ecv
  obtain ⟨a4, n4, c4, rfl⟩ := etv
  clear q0 q1 hl20 k20
  go_wp2_with fail
  refine (runR_any (wreckP_few HS.out).small L20.out s hsz).mono ?_
  rintro e w21 ⟨pv2, pr2, rfl, hO, k21⟩
  obtain ⟨ap2, cp2, ep2⟩ := row_form hO.cells
  obtain ⟨aw2, cw2, ew2⟩ := row_form hO.regs
  rw [← NO2.out.1] at ep2
  rw [← NO2.out.2] at ew2
  subst ep2 ew2
  have kk := K20.out.trans k21
  have p21 := kk.old P19.out (by simp)
  have o21 := kk.old H19.out (by simp)
  obtain ⟨h22, k22⟩ := two_set p21 (.slice ap2 no2 cp2) (.slice aw2 nr2 cw2)
  have q0' := (cell_of p21 0).trans rfl
  have q1' := (cell_of p21 1).trans rfl
  have f0 := free_of p21
  obtain ⟨w22, hw22⟩ : ∃ w22, w22 = (w21.setCell ⟨pb, 0, none⟩ (.slice ap2 no2 cp2)).setCell ⟨pb, 1, none⟩ (.slice aw2 nr2 cw2) := ⟨_, rfl⟩
  rw [← hw22] at h22 k22
  have P22 := Lib.hid h22
  have K22 := Lib.hid k22
  have K21 := Lib.hid kk
  have O22 := Lib.hid (k22.old o21 (by simp; omega))
  have sz19 : pb < w19.heap.size := lt_of P19.out
  have PS22 : Hid (OutS w22 (.slice ap2 no2 cp2) (.slice aw2 nr2 cw2) (outC (wreckP l) s) (outG (wreckP l) s)) := Lib.hid (hO.keep k22 (fun x hx => by have := K20.out.size; simp at hx; omega)).outS
  clear hO k21 h22 k22 o21 p21 kk
  go_upto_region 15 with fail
  rw [← hw22]
  clear hw22 q0' q1' f0
  have hs17 := sz17.out
  have OS22 : Hid (OutS w22 (.slice ao2 no2 co2) (.slice ar2 nr2 cr2) (outC (wreckP l) s) (outG (wreckP l) s)) := Lib.hid (((N2.out.keep K19.out (fun x hx => by have := S10.out; simp at hx; omega)).keep K21.out (by simp)).keep K22.out (fun x hx => by simp at hx; omega)).outS
  have q0 := (cell_of O22.out 0).trans rfl
  have q1 := (cell_of O22.out 1).trans rfl
  have r0 := (cell_of P22.out 0).trans rfl
  have r1 := (cell_of P22.out 1).trans rfl
  go_wp2_with fail
  refine (sameOutcome OS22.out PS22.out (by have := out_len (wreckP l) s; omega) (by have := out_len (wreckP l) s; omega)).mono ?_
  rintro e w23 ⟨he, k23⟩
  rw [sameB_self, sameB_self] at he
  subst he
  have K23 := Lib.hid k23
  clear q0 q1 r0 r1 k23
  go_wp2_with fail
  refine bodyPost_ret (results_tmp rfl _ _ _) rfl ⟨rfl, ?_⟩
  have e1 := K1.out.size
  have e2 := K2.out.size
  have e3 := HX.out
  have e4 := S6.out
  have e5 := S8.out
  have e6 := S10.out
  have t16 : Keep [] w w16 := (K1.out.trans K2.out).trans K216.out
  have t17 := t16.chain K17.out (fun x hx => .inr (Nat.le_trans e1 (GE.out x hx)))
  have t19 := (t17.trans K18b.out).chain K19.out (fun x hx => .inr (by simp at hx; omega))
  exact ((t19.trans K21.out).chain K22.out (fun x hx => .inr (by simp at hx; omega))).trans K23.out
end Go.Proofs.YtdkdeiofjoccnaaGreat.Lit
