/- SchedFirstWins: the walk. -/
import Derived.Test.YtdkdeiofjoccnaaFirst
namespace Go.Proofs.Ytdkdeiofjoccnaa.Lit
open Go.RowKit Go.Proofs.Ytdkdeiofjoccnaa.Mem Go.Proofs.Ytdkdeiofjoccnaa.Ar Go.Proofs.Ytdkdeiofjoccnaa.Un
set_option linter.unusedVariables false
set_option maxRecDepth 100000

theorem infoIs : (Try.prog.info? 88).map (fun i => (i.zero, i.size, i.bytes)) = some (some (.slice none 0 0), 1, 24) := by kernel_rfl
theorem one_slice (a : Option Addr) (n c : Nat) : ∀ u ∈ [Value.slice a n c], u.oneCell' = true := by simp [Value.oneCell']

/-- how many threads -/
theorem fw_n (thr : Int) : ∃ n : Nat, 1 ≤ n ∧ n ≤ 4 ∧ wrap64 (1 + wrap64 ((IntKind.u64.wrap thr).tmod 4)) = n := by
  have h0 : 0 ≤ IntKind.u64.wrap thr := by
    unfold IntKind.wrap
    simp only [IntKind.bits, IntKind.signed]
    simp
    omega
  obtain ⟨x, hx⟩ : ∃ x : Nat, IntKind.u64.wrap thr = x := ⟨(IntKind.u64.wrap thr).toNat, by omega⟩
  rw [hx]
  have e : (x : Int).tmod 4 = ((x % 4 : Nat) : Int) := by
    rw [Int.tmod_eq_emod_of_nonneg (by omega)]
    omega
  rw [e]
  have h4 : x % 4 < 4 := Nat.mod_lt _ (by omega)
  refine ⟨1 + x % 4, by omega, by omega, ?_⟩
  have e1 : wrap64 ((x % 4 : Nat) : Int) = ((x % 4 : Nat) : Int) := IntWalk.wrap64_in _ (by omega)
  rw [e1]
  have e2 : wrap64 (1 + ((x % 4 : Nat) : Int)) = 1 + ((x % 4 : Nat) : Int) := IntWalk.wrap64_in _ (by omega)
  rw [e2]
  omega

/-- a program's own instruction lies in its block -/
structure FwRow (w : World) (base : Nat) (tv : Value) (b : Int) (ps : List Value) : Prop where
  row : w.ownsRow base 88 1 tv ps.length ps
  each : ∀ (j : Nat) (hj : j < ps.length), ∃ g, ps[j] = .slice (some ⟨g, 0, none⟩) 1 1 ∧ w.heap[g]? = some (.cells (fwIns b j).cells.toArray 92 (0, 0)) ∧ base ≤ g ∧ tv.ownBlock ≠ some g

/-- the block of a thread's instruction, as the code makes it -/
abbrev fwObj (b : Int) (k : Nat) : Obj := .cells #[.int .i64 3, .int .i64 1, .int .i64 2, .int .i64 (-1), .int .u64 (IntKind.u64.wrap (IntKind.u64.wrap (b + 1) + (k : Int))), .int .i64 (-1), .int .u64 b, .int .i64 0] 92

theorem fw_small (b : Int) (n : Nat) (hn : n ≤ 4) : Small (fwLit b n) := by
  refine ⟨by simp [fwLit], by simp [fwLit]; omega, fun p hp => ?_⟩
  simp only [fwLit, List.mem_map] at hp
  obtain ⟨i, -, rfl⟩ := hp
  simp

theorem fw_lit {w : World} {b : Int} {n cb : Nat} {va : Option Addr} {vc : Nat} {ps : List Value} (hc : w.heap[cb]? = some (.cells #[.int .u64 7, .int .u64 b] 46 (0, 0))) (hr : FwRow w (cb + 2) (.slice va n vc) b ps) (hn : ps.length = n) :
    LitAt w (.slice (some ⟨cb, 0, none⟩) 2 2) (.slice va n vc) (fwLit b n) := by
  refine ⟨⟨some ⟨cb, 0, none⟩, 2, rfl, ⟨fun i hi => ⟨cb, 0, rfl, ?_⟩⟩⟩, ⟨va, vc, ps, by simp [fwLit], by simp [fwLit, hn], ⟨fun i hi => ?_⟩, fun i h1 h2 => ?_⟩⟩
  · rw [Nat.zero_add, cell_of hc]
    have hi' : i = 0 ∨ i = 1 := by simp [fwLit] at hi; omega
    rcases hi' with rfl | rfl <;> rfl
  · rcases hr.row.2 with ⟨e, h0⟩ | ⟨g, cap, cur, e, -⟩
    · omega
    · have hv : va = some ⟨g, 0, none⟩ := by simp only [Value.slice.injEq] at e; exact e.1
      have h1 := hr.row.cells (g := g) (by rw [e]; rfl) i ps[i] (List.getElem?_eq_getElem hi)
      have e2 : (⟨g, 0, none⟩ : Addr).add i = ⟨g, 0 + i, none⟩ := by unfold Addr.add; split <;> simp_all
      rw [e2] at h1
      exact ⟨g, 0, hv, h1⟩
  · obtain ⟨g, e, hg, -, -⟩ := hr.each i h1
    have e3 : (fwLit b n).threads[i] = [fwIns b i] := by simp [fwLit]
    rw [e3]
    refine ⟨some ⟨g, 0, none⟩, 1, e, ⟨fun j hj => ⟨g, 0, rfl, ?_⟩⟩⟩
    have e4 : flatI [fwIns b i] = (fwIns b i).cells := by simp [flatI]
    rw [Nat.zero_add, cell_of hg, List.getElem?_toArray]
    simp only [e4]
    exact List.getElem?_eq_getElem (by simpa [e4] using hj)

set_option maxHeartbeats 1000000 in
theorem first_walk (b : Int) (hb : 0 ≤ b ∧ b < 18446744073709551616) (thr : Int) (s : ByteArray) (hs : s.size ≤ 2097152) (w : World) :
    Calls Try.prog 12 #[.int .u64 b, .int .i64 thr, .string s] w fun e w' => e = .returned (.bool true) ∧ Keep [] w w' := by
  obtain ⟨n, hn1, hn4, hn⟩ := fw_n thr
  obtain ⟨i0, hi0, hz0, hz1, hz2⟩ := info_parts infoIs
  have HI := Lib.hid hi0
  have HZ := Lib.hid (And.intro hz0 (And.intro hz1 hz2))
  have HB := Lib.hid hb
  clear hi0 hz0 hz1 hz2 hb
  go_enter Try.func12, Try.ntmps12
  go_wp2_with fail
  rw [hn]
  have HN := Lib.hid hn
  clear hn
  obtain ⟨cb, hcb⟩ : ∃ cb, cb = w.heap.size := ⟨_, rfl⟩
  obtain ⟨w1, hw1⟩ : ∃ w1, w1 = (w.alloc (.cells #[.int .u64 7, .int .u64 b] 46)).alloc (.cells #[.slice (some ⟨w.heap.size, 0, none⟩) 2 2, .slice none 0 0] 40) := ⟨_, rfl⟩
  have C1 := Lib.hid (show w1.heap[cb]? = some (.cells #[.int .u64 7, .int .u64 b] 46 (0, 0)) by rw [hw1, hcb]; exact alloc_some _ (alloc_new w _))
  have L1 := Lib.hid (show w1.heap[cb + 1]? = some (.cells #[.slice (some ⟨cb, 0, none⟩) 2 2, .slice none 0 0] 40 (0, 0)) by
    rw [hw1, hcb]
    have := alloc_new (w.alloc (.cells #[.int .u64 7, .int .u64 b] 46)) (.cells #[.slice (some ⟨w.heap.size, 0, none⟩) 2 2, .slice none 0 0] 40)
    rw [World.size_alloc] at this
    exact this)
  have K1 := Lib.hid (show Keep [] w w1 by rw [hw1]; exact ((Keep.refl _ _).alloc _).alloc _)
  have S1 := Lib.hid (And.intro hcb (show w1.heap.size = cb + 2 by rw [hw1, hcb]; simp))
  rw [← hw1, ← hcb]
  clear hw1 hcb
  go_loopw [9] (fun i wr => ∃ (k : Nat) (tv : Value) (ps : List Value), i = .int .i64 k ∧ k ≤ n ∧ ps.length = k ∧ wr.heap[cb]? = some (.cells #[.int .u64 7, .int .u64 b] 46 (0, 0)) ∧ wr.heap[cb + 1]? = some (.cells #[.slice (some ⟨cb, 0, none⟩) 2 2, tv] 40 (0, 0)) ∧
      FwRow wr (cb + 2) tv b ps ∧ Keep [] w wr) (fun i _ => n - (intOf i).toNat)
  case atStart => exact ⟨0, _, [], rfl, Nat.zero_le _, rfl, C1.out, L1.out, ⟨World.ownsRow_nil _ _ _ _, fun j hj => absurd hj (by simp)⟩, K1.out⟩
  case round =>
    obtain ⟨k, tv, ps, rfl, hk, hpl, hc, hl, hr, hK⟩ := hrel
    have CR := Lib.hid hc
    have LR := Lib.hid hl
    have RR := Lib.hid hr
    have KR := Lib.hid hK
    have PL := Lib.hid hpl
    clear hc hl hK hpl
    by_cases hlt : k < n
    · obtain ⟨va, vn, vc, rfl⟩ : ∃ a n c, tv = .slice a n c := by
        rcases hr.row.2 with ⟨e, h0⟩ | ⟨g, cap, cur, e, -⟩
        · exact ⟨none, 0, 0, e⟩
        · exact ⟨_, _, _, e⟩
      have r1 : IntKind.u64.wrap (k : Int) = (k : Int) := by
        unfold IntKind.wrap
        simp only [IntKind.bits, IntKind.signed]
        simp
        omega
      have z1 := (cell_of LR.out 1).trans rfl
      clear hr
      have d1 := Lib.hid (show ps.length + 1 ≤ maxLen by unfold maxLen; have := PL.out; omega)
      have d2 := Lib.hid (show (ps.length + 1) * 24 ≤ 140737488355328 by have := PL.out; omega)
      have HOWN := Lib.hid ((RR.out.row.alloc (fwObj b k)).alloc (.cells #[.slice (some ⟨wr.heap.size, 0, none⟩) 1 1] 88))
      have hbase : cb + 2 ≤ ((wr.alloc (fwObj b k)).alloc (.cells #[.slice (some ⟨wr.heap.size, 0, none⟩) 1 1] 88)).heap.size := by
        have := KR.out.size
        have := S1.out
        have := lt_of LR.out
        simp
        omega
      have HBS := Lib.hid hbase
      have hnew : ((wr.alloc (fwObj b k)).alloc (.cells #[.slice (some ⟨wr.heap.size, 0, none⟩) 1 1] 88)).heap[wr.heap.size + 1]? = some (.cells #[.slice (some ⟨wr.heap.size, 0, none⟩) 1 1] 88 (0, 0)) := by
        have := alloc_new (wr.alloc (fwObj b k)) (.cells #[.slice (some ⟨wr.heap.size, 0, none⟩) 1 1] 88)
        rw [World.size_alloc] at this
        exact this
      have HNEW := Lib.hid hnew
      clear hbase hnew
      go_wp2_with (at_builtin; refine wpList_append_lies _ rfl _ _ 38 rfl (cb + 2) 88 i0 _ 1 24 Try.underlying38 HI.out HZ.out.1 HZ.out.2.1 HZ.out.2.2 rfl (by decide) (.slice va vn vc) ps.length ps rfl HOWN.out ⟨wr.heap.size + 1, 0, none⟩ 1 1 [.slice (some ⟨wr.heap.size, 0, none⟩) 1 1] rfl rfl (World.news_of_block (cs := #[.slice (some ⟨wr.heap.size, 0, none⟩) 1 1]) (fr := (0, 0)) HNEW.out) (one_slice _ _ _) (by decide) d1.out d2.out HBS.out _ rfl ?_)
      intro g8 cap8 w8 hown8 hgrow8 hat8 hlt8
      have K0 : Keep [] wr ((wr.alloc (fwObj b k)).alloc (.cells #[.slice (some ⟨wr.heap.size, 0, none⟩) 1 1] 88)) := ((Keep.refl _ _).alloc _).alloc _
      have hL0 := K0.old LR.out (by simp)
      have hC0 := K0.old CR.out (by simp)
      have hI0 : ((wr.alloc (fwObj b k)).alloc (.cells #[.slice (some ⟨wr.heap.size, 0, none⟩) 1 1] 88)).heap[wr.heap.size]? = some (fwObj b k) := alloc_some _ (alloc_new wr _)
      have hvo : ∀ x, x < cb + 2 → some x ≠ (Value.slice va vn vc).ownBlock := fun x hx e => by have := (RR.out.row.lt x e.symm).1; omega
      have hvn : some wr.heap.size ≠ (Value.slice va vn vc).ownBlock := fun e => by have := (RR.out.row.lt _ e.symm).2; omega
      have hsz : cb + 2 ≤ wr.heap.size := by have := lt_of LR.out; omega
      have hL8 := (hgrow8.block (cb + 1) (lt_of hL0) (hvo _ (by omega))).trans hL0
      have hC8 := (hgrow8.block cb (lt_of hC0) (hvo _ (by omega))).trans hC0
      have hI8 := (hgrow8.block wr.heap.size (lt_of hI0) hvn).trans hI0
      have hg8 : (Value.slice va vn vc).ownBlock = some g8 ∨ g8 = wr.heap.size + 2 := hat8
      have hgb : cb + 2 ≤ g8 := by
        rcases hg8 with h | h
        · exact (RR.out.row.lt g8 h).1
        · omega
      have k8 : Keep (Value.slice va vn vc).ownBlock.toList ((wr.alloc (fwObj b k)).alloc (.cells #[.slice (some ⟨wr.heap.size, 0, none⟩) 1 1] 88)) w8 := ⟨hgrow8.os, hgrow8.tape, hgrow8.output, hgrow8.size, fun i hi hn => hgrow8.block i hi fun e => hn (by rw [← e]; simp)⟩
      have kk : Keep [] w w8 := (KR.out.trans K0).chain k8 fun x hx => .inr (by
        have := (RR.out.row.lt x (by simpa using hx)).1
        have := S1.out.1
        omega)
      have hrow : FwRow w8 (cb + 2) (.slice (some ⟨g8, 0, none⟩) (ps.length + 1) cap8) b (ps ++ [.slice (some ⟨wr.heap.size, 0, none⟩) 1 1]) := by
        refine ⟨by simpa using hown8, fun j hj => ?_⟩
        by_cases hjk : j < ps.length
        · obtain ⟨g, e, hg, hgb', hgo⟩ := RR.out.each j hjk
          refine ⟨g, by rw [List.getElem_append_left hjk]; exact e, ?_, hgb', fun e' => ?_⟩
          · exact (hgrow8.block g (lt_of (K0.old hg (by simp))) (Ne.symm hgo)).trans (K0.old hg (by simp))
          · have hgg : g8 = g := by simpa [Value.ownBlock] using e'
            subst hgg
            rcases hg8 with h | h
            · exact hgo h
            · have := lt_of hg; omega
        · have hj' : j = ps.length := by simp at hj; omega
          subst hj'
          refine ⟨wr.heap.size, by simp, ?_, hsz, fun e' => ?_⟩
          · rw [hI8, PL.out]
            rfl
          · have hgg : g8 = wr.heap.size := by simpa [Value.ownBlock] using e'
            rcases hg8 with h | h
            · exact hvn (by rw [← hgg]; exact h.symm)
            · omega
      have n1 := (cell_of hL8 1).trans rfl
      have n2 := free_of hL8 1
      have L8 := Lib.hid hL8
      have C8 := Lib.hid hC8
      have R8 := Lib.hid hrow
      have K8 := Lib.hid kk
      have GB := Lib.hid hgb
      clear hL0 hC0 hI0 hvo hvn hL8 hC8 hI8 hg8 k8 kk hrow hown8 hgrow8 hat8 hlt8 hgb K0 HNEW HOWN HBS d1 d2
      go_wp2_with fail
      go_roundw
      case rel =>
        have hne : ∀ x, x ≠ cb + 1 → (w8.setCell ⟨cb + 1, 1, none⟩ (.slice (some ⟨g8, 0, none⟩) (ps.length + 1) cap8)).heap[x]? = w8.heap[x]? := fun x hx => set_other hx _ _
        refine ⟨k + 1, .slice (some ⟨g8, 0, none⟩) (ps.length + 1) cap8, ps ++ [.slice (some ⟨wr.heap.size, 0, none⟩) 1 1], by go_num, hlt, by simp [PL.out], (hne cb (by omega)).trans C8.out, by rw [set_same L8.out]; rfl, ⟨?_, fun j hj => ?_⟩, K8.out.set (.inr (by have := S1.out.1; omega)) _ _⟩
        · exact Har.owns_block R8.out.row fun x hx => hne x (by have := (R8.out.row.lt x hx).1; omega)
        · obtain ⟨g, e, hg, hgb', hgo⟩ := R8.out.each j hj
          exact ⟨g, e, (hne g (by omega)).trans hg, hgb', hgo⟩
      case measure => simp [intOf]; omega
    · have hkn : k = n := by omega
      have HKN := Lib.hid hkn
      have hpn : ps.length = n := by have := PL.out; omega
      obtain ⟨va, vc, rfl⟩ : ∃ a c, tv = .slice a n c := by
        rcases hr.row.2 with ⟨e, h0⟩ | ⟨g, cap, cur, e, -⟩
        · omega
        · exact ⟨_, _, by rw [e, hpn]⟩
      have z0 := (cell_of LR.out 0).trans rfl
      have z1 := (cell_of LR.out 1).trans rfl
      have PN := Lib.hid hpn
      clear hr hkn hpn
      go_wp2_with fail
      refine (run_ok (fw_small b n hn4) (fw_lit CR.out RR.out PN.out) (fw_sound b n hn1 hn4) s hs).mono ?_
      rintro e w2 ⟨P, cv, rv, A, hP, hA, -, rfl, hout, k2⟩
      obtain ⟨A', wn, hA', hwn, hwords, hlen, hregs⟩ := fw_law HB.out hn1 hn4 hP s
      obtain rfl : A = A' := by rw [hA] at hA'; simpa using hA'
      obtain ⟨rs, hrs⟩ : ∃ rs, rs = regsOf (drained (fwLit b n) P s).s.ths := ⟨_, rfl⟩
      rw [← hrs] at hlen hregs hout
      rw [hwords] at hout
      obtain ⟨g, c, rfl, hg1, hg2, hg3⟩ := hout.cells
      have hrow := hout.regs
      obtain ⟨ra, rc, rfl⟩ : ∃ a c, rv = .slice a (4 * n) c := by
        rcases hrow.2 with ⟨e, h0⟩ | ⟨g, cap, cur, e, -⟩
        · omega
        · exact ⟨_, _, by rw [e, hlen]⟩
      have K2 := Lib.hid (KR.out.trans k2)
      have G2 := Lib.hid hg3
      have R2 := Lib.hid hrow
      have RS := Lib.hid (And.intro hlen hregs)
      have WN := Lib.hid hwn
      clear hP hA hA' hwords hrs hout hg1 hg2 hg3 hrow hlen hregs k2 hwn z0 z1
      have x0 : ∀ o : Obj, (w2.alloc o).cell? ⟨g, 0, none⟩ = some (.int .u64 7) := fun o => (cell_of (alloc_some o G2.out) 0).trans rfl
      have r4 : wrap64 (4 * (n : Int)) = ((4 * n : Nat) : Int) := by rw [IntWalk.wrap64_in _ (by omega)]; omega
      simp only [List.length_cons, List.length_nil, Nat.zero_add, Nat.reduceAdd]
      go_wp2_with fail
      obtain ⟨w3, hw3⟩ : ∃ w3, w3 = w2.alloc (.cells #[.slice (some ⟨g, 0, none⟩) 2 c, .slice ra (4 * n) rc] 42) := ⟨_, rfl⟩
      obtain ⟨ob, hob⟩ : ∃ ob, ob = w2.heap.size := ⟨_, rfl⟩
      have K3 := Lib.hid (show Keep [] w w3 by rw [hw3]; exact K2.out.alloc _)
      have hO : w3.heap[ob]? = some (.cells #[.slice (some ⟨g, 0, none⟩) 2 c, .slice ra (4 * n) rc] 42 (0, 0)) := by rw [hw3, hob]; exact alloc_new _ _
      obtain ⟨W, hW⟩ : ∃ W, W = fwWord b wn := ⟨_, rfl⟩
      have hG : w3.heap[g]? = some (.cells #[.int .u64 7, .int .u64 W] 46 (0, 0)) := by rw [hw3, hW]; exact alloc_some _ G2.out
      have R3 := Lib.hid (show w3.ownsRow w.heap.size 46 1 (.slice ra (4 * n) rc) rs.length (rs.map (.int .u64)) by rw [hw3]; exact Pick.owns_mono ((R2.out).alloc _) KR.out.size)
      have o0 := (cell_of hO 0).trans rfl
      have o1 := (cell_of hO 1).trans rfl
      have g1 := (cell_of hG 1).trans rfl
      have HWW := Lib.hid hW
      rw [← hw3, ← hob]
      clear hw3 hob hO hG hW x0 r4
      go_loopw [12, 13] (fun won i wr => ∃ m : Nat, i = .int .i64 m ∧ m ≤ n ∧ won = .int .i64 (if wn < m then 1 else 0) ∧ wr = w3) (fun _ i _ => n - (intOf i).toNat)
      case atStart => exact ⟨0, rfl, Nat.zero_le _, rfl, rfl⟩
      case round =>
        obtain ⟨m, rfl, hm, rfl, rfl⟩ := hrel
        by_cases hlm : m < n
        · have hr2 := RS.out.2 m hlm
          have hml : 4 * m + 2 < rs.length := by have := RS.out.1; omega
          obtain ⟨rg, hra, hcell⟩ : ∃ rg, ra = some ⟨rg, 0, none⟩ ∧ wr.cell? ⟨rg, 4 * m + 2, none⟩ = some (.int .u64 (if m = wn then 1 else 0)) := by
            rcases R3.out.2 with ⟨e, h0⟩ | ⟨rg, cap, cur, e, -⟩
            · omega
            · refine ⟨rg, by simp only [Value.slice.injEq] at e; exact e.1, ?_⟩
              have h1 := R3.out.cells (g := rg) (by rw [e]; rfl) (4 * m + 2) (.int .u64 rs[4 * m + 2]) (by rw [List.getElem?_map, List.getElem?_eq_getElem hml]; rfl)
              have e2 : (⟨rg, 0, none⟩ : Addr).add (4 * m + 2) = ⟨rg, 4 * m + 2, none⟩ := by unfold Addr.add; split <;> simp_all
              rw [e2] at h1
              rw [h1, ← hr2]
              simp [nth, List.getD_eq_getElem?_getD, List.getElem?_eq_getElem hml]
          subst hra
          have r1 : IntKind.u64.wrap (m : Int) = (m : Int) := by
            unfold IntKind.wrap
            simp only [IntKind.bits, IntKind.signed]
            simp
            omega
          have r2 : wrap64 (4 * (m : Int)) = 4 * (m : Int) := IntWalk.wrap64_in _ (by omega)
          have r3 : wrap64 (4 * (m : Int) + 2) = ((4 * m + 2 : Nat) : Int) := by rw [IntWalk.wrap64_in _ (by omega)]; omega
          have hq : m = wn ↔ W = IntKind.u64.wrap (IntKind.u64.wrap (b + 1) + (m : Int)) := by
            rw [HWW.out]
            constructor
            · rintro rfl; rfl
            · intro e
              exact (fw_inj b wn m (by have := WN.out; omega) (by omega) e).symm
          have HML := Lib.hid hml
          clear hr2 hml
          by_cases hmw : m = wn
          · have e1 : (W == IntKind.u64.wrap (IntKind.u64.wrap (b + 1) + (m : Int))) = true := by simpa using hq.1 hmw
            rw [if_pos hmw] at hcell
            have HMW := Lib.hid hmw
            have e2 : (if wn < m then (1 : Int) else 0) = 0 := if_neg (by omega)
            rw [e2]
            clear hq hmw
            go_wp2_with fail
            go_roundw
            case rel =>
              refine ⟨m + 1, by go_num, hlm, ?_, trivial⟩
              rw [if_pos (by have := HMW.out; omega)]
            case measure => simp [intOf]; omega
          · have e1 : (W == IntKind.u64.wrap (IntKind.u64.wrap (b + 1) + (m : Int))) = false := by
              simp only [beq_eq_false_iff_ne, ne_eq]
              exact fun e => hmw (hq.2 e)
            rw [if_neg hmw] at hcell
            have HMW := Lib.hid hmw
            obtain ⟨c0, hc0, hc1⟩ : ∃ c0 : Int, c0 = (if wn < m then (1 : Int) else 0) ∧ wrap64 c0 = c0 := ⟨_, rfl, by split <;> exact IntWalk.wrap64_in _ (by omega)⟩
            rw [← hc0]
            have HC := Lib.hid hc0
            clear hq hmw hc0
            go_wp2_with fail
            go_roundw
            case rel =>
              refine ⟨m + 1, by go_num, hlm, ?_, trivial⟩
              try rw [hc1]
              rw [HC.out]
              have := HMW.out
              by_cases h : wn < m
              · rw [if_pos h, if_pos (by omega)]
              · rw [if_neg h, if_neg (by omega)]
            case measure => simp [intOf]; omega
        · have hmn : m = n := by omega
          have e2 : (if wn < m then (1 : Int) else 0) = 1 := if_pos (by have := WN.out; omega)
          rw [e2]
          clear hmn
          go_wp2_with fail
          go_ret
          exact ⟨rfl, K3.out⟩
end Go.Proofs.Ytdkdeiofjoccnaa.Lit
