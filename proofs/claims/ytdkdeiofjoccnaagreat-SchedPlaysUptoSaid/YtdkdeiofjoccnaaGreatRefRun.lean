/- strataref03: a bench's Play, a program's Outcome, Run. -/
import Derived.Test.YtdkdeiofjoccnaaGreatRefLay
namespace Go.Proofs.YtdkdeiofjoccnaaGreat.Ref
open Go.RowKit Go.Proofs.YtdkdeiofjoccnaaGreat.Mem Go.Proofs.YtdkdeiofjoccnaaGreat.Ar Go.Proofs.YtdkdeiofjoccnaaGreat.Un Go.Proofs.YtdkdeiofjoccnaaGreat.Lit
open Go.Proofs.YtdkdeiofjoccnaaGreat.Har (Job Ev evs Apart pend pend_of dueQ due_put playC Conf)
set_option linter.unusedVariables false
set_option maxRecDepth 100000

section
variable {w0 w w' : World} {bb b pb : Nat} {B : RB} {H : Har.Har} {S : RP}

/-- a budget of 2^40 -/
def begunR (H : Har.Har) (S : RP) : Conf RP := ⟨H, S, 1099511627776, false⟩

theorem playR (h : BenchR w0 w bb b B H S) (s : ByteArray) (hs : s.size ≤ 2097152) :
    Calls Tryz.prog 61 #[.pointer (some ⟨bb, 0, none⟩), .string s] w fun e w' => e = .returned (.int .i64 (1099511627776 - ((playC refM (Pick.dec s.data.toList) (begunR H S)).left : Int))) ∧
      BenchR w0 w' bb b B (playC refM (Pick.dec s.data.toList) (begunR H S)).H (playC refM (Pick.dec s.data.toList) (begunR H S)).s := by
  have c2 := h.c2
  have HB := Lib.hid h
  have hl := Lib.hid (Pick.dec_length s.data.toList)
  have hsz := Lib.hid (Pick.size_data s)
  clear h
  go_enter Tryz.func61, Tryz.ntmps61
  go_wp2_with fail
  go_region_held3 (fun w' => w'.cell? ⟨bb, 2, none⟩ = some (.pointer (some ⟨b, 0, none⟩))) (go_keep)
    (first
      | (go_at_call 87; refine (Pick.refDecode s _ hs).mono ?_; rintro e w2 ⟨v, rfl, hrow, k2⟩; have hk2 := ((Keep.refl [] w).drew.trans k2); obtain ⟨F1, R1, hn1, hlt1, hF1, back⟩ := HB.out.rs.rebase hk2; obtain ⟨a, cap, rfl, hh⟩ := handed_of (T := F1 ++ B.mem) hrow (fun x hx => (dec_small _ x hx).2) (fun x hx => hlt1 x hx); have HH := Lib.hid hh; have K2 := Lib.hid hk2; have RR := Lib.hid (And.intro R1 (And.intro hn1 back)); have c22 := k2.cell (show w.drew.cell? ⟨bb, 2, none⟩ = _ from c2) (by simp); clear hh k2 hk2 hrow R1 hn1 back hlt1 hF1)
      | (go_at_call 36; refine (play (c := begunR H S) RR.out.1 rfl (by show 1099511627776 ≤ _; omega) a cap (Pick.dec s.data.toList) HH.out (by have := hl.out; have := hsz.out; omega)).mono ?_; rintro e w3 ⟨rfl, hS⟩; have B3 := Lib.hid ((HB.out.keep0 K2.out).turn RR.out.2.1 RR.out.2.2 hS); have c33 := B3.out.c2; clear hS))
  go_wp2_with fail
  go_ret
  exact ⟨rfl, B3.out⟩

/-- an outcome of the document's as it lies -/
structure OutR (w : World) (base : Nat) (cv rv : Value) (cells regs : List Int) : Prop where
  cells : w.ownsRow base 75 1 cv cells.length (cells.map (.int .u64))
  regs : w.ownsRow base 75 1 rv regs.length (regs.map (.int .u64))

set_option maxHeartbeats 1000000 in
theorem outcomeR (h : PAt w pb B S) :
    Calls Tryz.prog 58 #[.pointer (some ⟨pb, 0, none⟩)] w fun e w' => ∃ cv rv, e = .returned (.agg #[cv, rv]) ∧ OutR w' w.heap.size cv rv S.cells (regsOf S.ths) ∧ Keep [] w w' := by
  have c0 := h.c0
  have HP := Lib.hid h
  have HC := Lib.hid (sees_of h.cells)
  have hfew := h.few
  obtain ⟨n, hn⟩ : ∃ n, n = S.ths.length := ⟨_, rfl⟩
  obtain ⟨nc, hnc⟩ : ∃ nc, nc = S.cells.length := ⟨_, rfl⟩
  have HN := Lib.hid (And.intro hn hnc)
  rw [← hnc] at c0
  have hn4 : n ≤ 4 ∧ nc ≤ 4 := by omega
  obtain ⟨w1, hw1⟩ : ∃ w1, w1 = w.alloc (.cells #[.slice none 0 0, .slice none 0 0] 68) := ⟨_, rfl⟩
  have k1 : Keep [] w w1 := by rw [hw1]; exact (Keep.refl _ _).alloc _
  have K1 := Lib.hid k1
  have r1 : Hid (w1.heap[w.heap.size]? = some (.cells #[.slice none 0 0, .slice none 0 0] 68 (0, 0))) := Lib.hid (by rw [hw1]; exact alloc_new _ _)
  have s1 : w1.heap.size = w.heap.size + 1 := by rw [hw1]; simp
  have S1 := Lib.hid s1
  have x0 := k1.cell c0 (by simp)
  have HW := Lib.hid (words (HC.out.keep0 k1) B.cc (by omega))
  rw [← hnc] at HW
  have n0 : ∀ o : Obj, (w.alloc o).cell? ⟨pb, 0, none⟩ = some (.slice (some ⟨B.cb, 0, none⟩) nc B.cc) := fun o => ((Keep.refl [] w).alloc o).cell c0 (by simp)
  clear h hn hnc k1 s1 hfew x0
  go_enter Tryz.func58, Tryz.ntmps58
  go_wp2_with fail
  rw [show w.alloc (.cells #[.slice none 0 0, .slice none 0 0] 68 (0, 0)) = w1 from hw1.symm]
  clear hw1
  refine HW.out.mono ?_
  rintro e w2 ⟨ca, cc, rfl, hc⟩
  have C2 := Lib.hid hc.own
  have K2 := Lib.hid hc.keep
  clear hc c0 n0
  go_wp2_with fail
  obtain ⟨vb, hvb⟩ : ∃ vb, vb = w2.heap.size := ⟨_, rfl⟩
  obtain ⟨w3, hw3⟩ : ∃ w3, w3 = w2.alloc (.cells #[.slice ca nc cc, .slice none 0 0] 68) := ⟨_, rfl⟩
  have K3 := Lib.hid (show Keep [] w2 w3 by rw [hw3]; exact (Keep.refl _ _).alloc _)
  have V3 := Lib.hid (show w3.heap[vb]? = some (.cells #[.slice ca nc cc, .slice none 0 0] 68 (0, 0)) by rw [hw3, hvb]; exact alloc_new _ _)
  rw [← hw3, ← hvb]
  have HV := Lib.hid hvb
  clear hw3 hvb
  obtain ⟨i0, hi0, hz0, hz1, hz2⟩ := info_parts infoW64
  have HI := Lib.hid hi0
  have HZ := Lib.hid (And.intro hz0 (And.intro hz1 hz2))
  clear hi0 hz0 hz1 hz2
  have LV := Lib.hid (show w.heap.size < vb by have := S1.out; have := K2.out.size; have := HV.out; omega)
  go_loopw [4] (fun i wr => ∃ (k : Nat) (v : Value), i = .int .i64 k ∧ k ≤ n ∧ wr.heap[vb]? = some (.cells #[.slice ca nc cc, v] 68 (0, 0)) ∧ wr.ownsRow (vb + 1) 75 1 v (k * 4) ((regsOf (S.ths.take k)).map (.int .u64)) ∧ Keep [] w2 wr) (fun i _ => n - (intOf i).toNat)
  case atStart => exact ⟨0, _, rfl, Nat.zero_le _, V3.out, World.ownsRow_nil _ _ _ _, K3.out⟩
  case round =>
    obtain ⟨k, v, rfl, hk, hV, hR, hK⟩ := hrel
    have VR := Lib.hid hV
    have RR := Lib.hid hR
    have KR := Lib.hid hK
    have PR := Lib.hid (HP.out.keep0 ((K1.out.trans K2.out).trans hK))
    clear hV hR hK
    obtain ⟨va, vc, rfl⟩ : ∃ a c, v = .slice a (k * 4) c := by
      rcases RR.out.2 with ⟨e, h0⟩ | ⟨g, cap, cur, e, -⟩
      · exact ⟨none, 0, by rw [e, h0]⟩
      · exact ⟨_, _, e⟩
    have o1 := (cell_of VR.out 1).trans rfl
    have m1 := PR.out.c1
    rw [← HN.out.1] at m1
    by_cases hlt : k < n
    · have hk1 : k < S.ths.length := by have := HN.out.1; omega
      have hk2 : k < B.ss.length := by rw [HP.out.len]; exact hk1
      have m2 := PR.out.tail1 k hk2 hk1
      obtain ⟨rb, hrb⟩ : ∃ rb, rb = B.ss[k].rb := ⟨_, rfl⟩
      obtain ⟨t, ht⟩ : ∃ t, t = S.ths[k] := ⟨_, rfl⟩
      have hreg := PR.out.regs k hk2 hk1
      rw [← hrb, ← ht] at hreg
      rw [← hrb] at m2
      have HT := Lib.hid (show S.ths[k]? = some t by rw [ht]; exact List.getElem?_eq_getElem hk1)
      have of1 := free_of VR.out 1
      have RG := Lib.hid hreg
      have r1 := Lib.hid (one_nums t.regs)
      have r2 := Lib.hid (show (t.regs.map (Value.int .u64)).length = 4 * 1 by rw [List.length_map, hreg.2])
      have RC : Hid (∀ j u, (t.regs.map (Value.int .u64))[j]? = some u → wr.drew.cell? ((⟨rb, 0, none⟩ : Addr).add j) = some u) := Lib.hid (fun j u hu => by
        have e2 : (⟨rb, 0, none⟩ : Addr).add j = ⟨rb, j, none⟩ := by unfold Addr.add; split <;> simp_all
        rw [e2, cell_of (show wr.drew.heap[rb]? = _ from hreg.1), List.getElem?_toArray]
        exact hu)
      have HBS := Lib.hid (show vb + 1 ≤ wr.heap.size by have := lt_of VR.out; omega)
      have OLT := Lib.hid (lt_of (show wr.drew.heap[vb]? = _ from VR.out))
      have HOV := Lib.hid (show some vb ≠ (Value.slice va (k * 4) vc).ownBlock from fun e => by have h1 := (RR.out.lt vb e.symm).1; omega)
      clear hrb ht hreg hk1 hk2
      go_wp2_with fail
      go_region_law
        (first
          | (refine step_append_lies _ (by rfl) _ _ _ (by rfl) (vb + 1) 75 i0 _ 1 8 Tryz.underlying22 HI.out HZ.out.1 HZ.out.2.1 HZ.out.2.2 rfl (by decide) (.slice va (k * 4) vc) (k * 4) _ (by rfl) RR.out.drew ⟨rb, 0, none⟩ 4 4 (t.regs.map (.int .u64)) (by rfl) r2.out RC.out r1.out (by decide) (by unfold maxLen; omega) (by omega) HBS.out _ rfl ?_; intro g8 cap8 w8 hown8 hgrow8 hat8 hlt8; have q8 := hgrow8.block vb OLT.out HOV.out; have b8 := q8.trans (show wr.drew.heap[vb]? = _ from VR.out); have n1 := (cell_of b8 1).trans rfl; have n2 := free_of b8 1; have B8 := Lib.hid b8; have W8 := Lib.hid hown8; have R8 := Lib.hid hgrow8; have A8 := Lib.hid hat8; clear q8 b8 hown8 hgrow8 hat8))
      all_goals
        go_wp2_with fail
        go_roundw
        case rel =>
          have hk1 : k < S.ths.length := by have := HN.out.1; omega
          have htk : S.ths[k] = t := by
            have := HT.out
            rw [List.getElem?_eq_getElem hk1] at this
            exact Option.some.inj this
          have e : (regsOf (S.ths.take (k + 1))).map (Value.int .u64) = (regsOf (S.ths.take k)).map (Value.int .u64) ++ t.regs.map (.int .u64) := by
            rw [List.take_succ_eq_append_getElem hk1, htk]
            simp [regsOf]
          have hg8 : vb + 1 ≤ g8 := by
            rcases A8.out with h1 | h1
            · exact (RR.out.lt g8 h1).1
            · rw [h1]; exact HBS.out
          refine ⟨k + 1, .slice (some ⟨g8, 0, none⟩) (k * 4 + 4) cap8, by go_num, hlt, ?_, ?_, ?_⟩
          · rw [set_same B8.out]; rfl
          · rw [e, show (k + 1) * 4 = k * 4 + 4 by omega]
            exact Har.owns_block W8.out fun x hx => set_other (by have hx' : g8 = x := by simpa [Value.ownBlock] using hx
                                                                  omega) _ _
          · have k8 : Keep (Value.slice va (k * 4) vc).ownBlock.toList wr.drew w8 := ⟨R8.out.os, R8.out.tape, R8.out.output, R8.out.size, fun i hi hn => R8.out.block i hi fun e => hn (by rw [← e]; simp)⟩
            have k9 : Keep [] w2 w8 := KR.out.drew.chain k8 fun x hx => .inr (by
              have := (RR.out.lt x (by simpa using hx)).1
              have := HV.out
              omega)
            exact k9.set (.inr (by have := HV.out; omega)) _ _
        case measure => simp [intOf]; omega
    · have hkn : k = n := by omega
      have HKN := Lib.hid hkn
      have o0 := (cell_of VR.out 0).trans rfl
      clear hkn
      have b0 := Lib.hid (KR.out.old (K2.out.old r1.out (by simp)) (by simp))
      have p0 := (cell_of b0.out 0).trans rfl
      have p1 := (cell_of b0.out 1).trans rfl
      have pf := free_of b0.out
      go_wp2_with fail
      obtain ⟨h3, k3⟩ := two_set b0.out (.slice ca nc cc) (.slice va (k * 4) vc)
      refine bodyPost_ret (results_cell_row rfl _ _ w.heap.size 68 _ (0, 0) _ rfl h3 Tryz.underlying68 rfl (by kernel_rfl)) rfl ?_
      have htk : S.ths.take k = S.ths := List.take_of_length_le (by have := HN.out.1; have := HKN.out; omega)
      have hV := RR.out
      rw [htk] at hV
      have hreg : (regsOf S.ths).length = k * 4 := by simpa using hV.1
      have hc2 := C2.out
      refine ⟨_, _, rfl, ⟨?_, ?_⟩, ((K1.out.trans K2.out).trans KR.out).chain k3 fun x hx => .inr (by simp at hx; omega)⟩
      · rw [← HN.out.2]
        have q := Har.owns_block hc2 fun g hg => KR.out.block g (hc2.lt g hg).2 (by simp)
        exact Pick.owns_mono (Har.owns_block q fun g hg => (k3.block g (q.lt g hg).2 (by simp; have := (q.lt g hg).1; have := S1.out; omega))) (by have := S1.out; omega)
      · rw [hreg]
        exact Pick.owns_mono (Har.owns_block hV fun g hg => (k3.block g (hV.lt g hg).2 (by simp; have := (hV.lt g hg).1; have := LV.out; omega))) (by have := LV.out; omega)

/-- the document's playing -/
def playedR (l : LP) (s : ByteArray) : Conf RP := playC refM (Pick.dec s.data.toList) (begunR (harR l.threads.length l.threads.length) ⟨l.cells, l.threads.map th0⟩)
/-- the byte 160: a drain -/
def drainS : ByteArray := { data := #[160] }
def drainedR (l : LP) (s : ByteArray) : Conf RP := playC refM (Pick.dec drainS.data.toList) (begunR (playedR l s).H (playedR l s).s)

theorem runR_bad {w : World} {cv tv : Value} {l : LP} (hs : Small l) (hl : LitAt w cv tv l) (h : soundB l = false) (s : ByteArray) :
    Calls Tryz.prog 19 #[.agg #[cv, tv], .string s] w fun e w' => e = .returned (.tuple #[.agg #[.slice none 0 0, .slice none 0 0], .int .i64 35]) ∧ Keep [] w w' := by
  obtain ⟨w1, hw1⟩ : ∃ w1, w1 = rw0 w cv tv := ⟨_, rfl⟩
  have B1 := Lib.hid (rw0_b w cv tv)
  have K1 := Lib.hid (rw0_k w cv tv)
  have q0 := (cell_of (rw0_a w cv tv) 0).trans rfl
  have q1 := (cell_of (rw0_a w cv tv) 1).trans rfl
  have HW := Lib.hid (layR_bad hs (hl.keep0 K1.out) h)
  obtain ⟨a1, c1, rfl, -⟩ := hl.cells
  obtain ⟨a2, c2, ps, rfl, -⟩ := hl.threads
  clear hs hl h
  go_enter Tryz.func19, Tryz.ntmps19
  go_wp2_with fail
  have hw1' : (w.alloc (.cells #[.slice a1 l.cells.length c1, .slice a2 l.threads.length c2] 25)).alloc (.cells #[.slice none 0 0, .slice none 0 0] 68) = w1 := hw1.symm
  rw [hw1']
  rw [← hw1] at B1 K1 q0 q1 HW
  clear hw1 hw1'
  refine HW.out.mono ?_
  rintro e w2 ⟨rfl, k2⟩
  have K2 := Lib.hid k2
  have b2 := k2.old B1.out (by simp)
  have z0 := (cell_of b2 0).trans rfl
  have z1 := (cell_of b2 1).trans rfl
  have zf := free_of b2
  have B2 := Lib.hid b2
  clear k2 b2
  go_wp2_with fail
  obtain ⟨h3, k3⟩ := two_set B2.out (.slice none 0 0) (.slice none 0 0)
  refine bodyPost_ret (Lit.results_cell_tmp rfl _ _ _ rfl (run_loadVar_row (P := Tryz.prog) _ (w.heap.size + 1) 68 68 _ (0, 0) _ h3 Tryz.underlying68 rfl (by kernel_rfl))) rfl ?_
  exact ⟨rfl, (K1.out.trans K2.out).chain k3 fun x hx => .inr (by simp at hx; omega)⟩

set_option maxHeartbeats 1000000 in
theorem runR_ok {w : World} {cv tv : Value} {l : LP} (hs : Small l) (hl : LitAt w cv tv l) (h : soundB l = true) (s : ByteArray) (hsz : s.size ≤ 2097152) :
    Calls Tryz.prog 19 #[.agg #[cv, tv], .string s] w fun e w' => ∃ cv rv, e = .returned (.tuple #[.agg #[cv, rv], .int .i64 0]) ∧
      OutR w' w.heap.size cv rv (drainedR l s).s.cells (regsOf (drainedR l s).s.ths) ∧ Keep [] w w' := by
  obtain ⟨w1, hw1⟩ : ∃ w1, w1 = rw0 w cv tv := ⟨_, rfl⟩
  have B1 := Lib.hid (rw0_b w cv tv)
  have K1 := Lib.hid (rw0_k w cv tv)
  have q0 := (cell_of (rw0_a w cv tv) 0).trans rfl
  have q1 := (cell_of (rw0_a w cv tv) 1).trans rfl
  have HW := Lib.hid (layR_ok hs (hl.keep0 K1.out) h)
  obtain ⟨a1, c1, rfl, -⟩ := hl.cells
  obtain ⟨a2, c2, ps, rfl, -⟩ := hl.threads
  clear hs hl h
  go_enter Tryz.func19, Tryz.ntmps19
  go_wp2_with fail
  have hw1' : (w.alloc (.cells #[.slice a1 l.cells.length c1, .slice a2 l.threads.length c2] 25)).alloc (.cells #[.slice none 0 0, .slice none 0 0] 68) = w1 := hw1.symm
  rw [hw1']
  rw [← hw1] at B1 K1 q0 q1 HW
  clear hw1 hw1'
  refine HW.out.mono ?_
  rintro e w2 ⟨bb, b, Bk, rfl, hB⟩
  have B2 := Lib.hid hB
  clear hB q0 q1
  go_wp2_with fail
  refine (playR B2.out s hsz).mono ?_
  rintro e w3 ⟨rfl, hB⟩
  have B3 := Lib.hid hB
  clear hB
  go_wp2_with fail
  refine (playR B3.out drainS (by decide)).mono ?_
  rintro e w4 ⟨rfl, hB⟩
  obtain ⟨D, hD⟩ : ∃ D, D = drainedR l s := ⟨_, rfl⟩
  have hB' : BenchR w1 w4 bb b Bk D.H D.s := by rw [hD]; exact hB
  have HD := Lib.hid hD
  have B4 := Lib.hid hB'
  clear hB hB' hD
  obtain ⟨⟨bq, vs, ve, vd, hS⟩, -⟩ := B4.out.rs
  have P4 := Lib.hid hS.prog
  clear hS
  go_wp2_with fail
  refine (outcomeR P4.out).mono ?_
  rintro e w5 ⟨cv5, rv5, rfl, ho5, k5⟩
  have B5 := Lib.hid (k5.old (B4.out.kept.old B1.out (by simp)) (by simp))
  obtain ⟨ca, cn, cc, rfl⟩ : ∃ a n c, cv5 = .slice a n c := by
    rcases ho5.cells.2 with ⟨e, -⟩ | ⟨g, cap, cur, e, -⟩
    · exact ⟨_, _, _, e⟩
    · exact ⟨_, _, _, e⟩
  obtain ⟨ra, rn, rc, rfl⟩ : ∃ a n c, rv5 = .slice a n c := by
    rcases ho5.regs.2 with ⟨e, -⟩ | ⟨g, cap, cur, e, -⟩
    · exact ⟨_, _, _, e⟩
    · exact ⟨_, _, _, e⟩
  have O5 := Lib.hid ho5
  have K5 := Lib.hid k5
  have z0 := (cell_of B5.out 0).trans rfl
  have z1 := (cell_of B5.out 1).trans rfl
  have zf := free_of B5.out
  have LW := Lib.hid (show w.heap.size + 2 ≤ w4.heap.size by have := lt_of B1.out; have := B4.out.kept.size; omega)
  clear ho5 k5
  go_wp2_with fail
  obtain ⟨h6, k6⟩ := two_set B5.out (.slice ca cn cc) (.slice ra rn rc)
  refine bodyPost_ret (Lit.results_cell_tmp rfl _ _ _ rfl (run_loadVar_row (P := Tryz.prog) _ (w.heap.size + 1) 68 68 _ (0, 0) _ h6 Tryz.underlying68 rfl (by kernel_rfl))) rfl ?_
  have key : ∀ {v : Value} {n : Nat} {xs : List Value}, w5.ownsRow w4.heap.size 75 1 v n xs → ((w5.setCell ⟨w.heap.size + 1, 0, none⟩ (.slice ca cn cc)).setCell ⟨w.heap.size + 1, 1, none⟩ (.slice ra rn rc)).ownsRow w.heap.size 75 1 v n xs := fun q =>
    Pick.owns_mono (Har.owns_block q fun g hg => (k6.block g (q.lt g hg).2 (by simp; have := (q.lt g hg).1; have := LW.out; omega))) (by have := LW.out; omega)
  rw [← HD.out]
  exact ⟨_, _, rfl, ⟨key O5.out.cells, key O5.out.regs⟩, ((K1.out.trans B4.out.kept).trans K5.out).chain k6 fun x hx => .inr (by simp at hx; omega)⟩
end
end Go.Proofs.YtdkdeiofjoccnaaGreat.Ref
