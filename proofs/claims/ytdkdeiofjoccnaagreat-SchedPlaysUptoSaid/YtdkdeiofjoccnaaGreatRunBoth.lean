import Derived.Test.YtdkdeiofjoccnaaGreatRunA
import Derived.BigQuiet
import Derived.Test.YtdkdeiofjoccnaaGreatRefLaw
/- stratalaw03: sameWords, sameOutcome. -/
namespace Go.Proofs.YtdkdeiofjoccnaaGreat.Lit
open Go.RowKit Go.Proofs.YtdkdeiofjoccnaaGreat.Mem Go.Proofs.YtdkdeiofjoccnaaGreat.Ar Go.Proofs.YtdkdeiofjoccnaaGreat.Un
set_option linter.unusedVariables false
set_option maxRecDepth 100000

theorem sees_nth {w : World} {a : Option Addr} {l : List Int} (h : Sees w a (l.map (.int .u64))) {i : Nat} (hi : i < l.length) : ∃ g o, a = some ⟨g, o, none⟩ ∧ w.cell? ⟨g, o + i, none⟩ = some (.int .u64 l[i]) := by
  obtain ⟨g, o, e, c⟩ := h.at_ i (by simpa using hi)
  exact ⟨g, o, e, by rw [c]; simp⟩

/-- are two lists of words the same? -/
def sameB (x y : List Int) : Bool := decide (x = y)

theorem drewN_more {w wr : World} (h : ∃ d, wr = w.drewN d) (n : Nat) : ∃ d, wr.drewN n = w.drewN d := by
  obtain ⟨d, rfl⟩ := h
  exact ⟨d + n, by simp [World.drewN, Nat.add_assoc]⟩
theorem keep_of_drewN {w w' : World} (h : ∃ d, w' = w.drewN d) : Keep [] w w' := by
  obtain ⟨d, rfl⟩ := h
  exact (Keep.refl _ _).drewN d

theorem sameWords {w : World} {a b : Option Addr} {x y : List Int} (ca cb : Nat) (hx : Sees w a (x.map (.int .u64))) (hy : Sees w b (y.map (.int .u64))) (hlx : x.length ≤ 1000000000000000000) :
    Calls Tryz.prog 56 #[.slice a x.length ca, .slice b y.length cb] w fun e w' => e = .returned (.bool (sameB x y)) ∧ ∃ d, w' = w.drewN d := by
  obtain ⟨n, hn⟩ : ∃ n, n = x.length := ⟨_, rfl⟩
  obtain ⟨m, hm⟩ : ∃ m, m = y.length := ⟨_, rfl⟩
  have HN := Lib.hid (And.intro hn hm)
  have HX := Lib.hid hx
  have HY := Lib.hid hy
  rw [← hn, ← hm]
  rw [← hn] at hlx
  by_cases hnm : n = m
  · subst hnm
    clear hn hm hx hy
    go_enter Tryz.func56, Tryz.ntmps56
    go_wp2_with fail
    go_loopw [5] (fun i wr => ∃ k : Nat, i = .int .i64 k ∧ k ≤ n ∧ x.take k = y.take k ∧ ∃ d, wr = w.drewN d) (fun i _ => n - (intOf i).toNat)
    case atStart => exact ⟨0, rfl, Nat.zero_le _, by simp, 0, rfl⟩
    case round =>
      obtain ⟨k, rfl, hk, htk, hD⟩ := hrel
      have hK : Keep [] w wr := by obtain ⟨d, rfl⟩ := hD; exact (Keep.refl _ _).drewN d
      have TK := Lib.hid htk
      have KR := Lib.hid hD
      clear hD
      by_cases hlt : k < n
      · have hkx : k < x.length := by have := HN.out.1; omega
        have hky : k < y.length := by have := HN.out.2; omega
        obtain ⟨g, o, rfl, c1⟩ := sees_nth (HX.out.keep0 hK) hkx
        obtain ⟨g2, o2, rfl, c2⟩ := sees_nth (HY.out.keep0 hK) hky
        obtain ⟨p, hp⟩ : ∃ p, p = x[k] := ⟨_, rfl⟩
        obtain ⟨q, hq⟩ : ∃ q, q = y[k] := ⟨_, rfl⟩
        rw [← hp] at c1
        rw [← hq] at c2
        have HPQ := Lib.hid (show ∃ (h1 : k < x.length) (h2 : k < y.length), p = x[k] ∧ q = y[k] from ⟨hkx, hky, hp, hq⟩)
        clear hkx hky hp hq htk hK
        by_cases he : p = q
        · have he1 : (p != q) = false := by simp [he]
          have he2 : (p == q) = true := by simp [he]
          have HE := Lib.hid he
          clear he
          go_wp2_with fail
          go_quiet (fail)
          go_wp2_with fail
          go_roundw
          case rel =>
            refine ⟨k + 1, by go_num, hlt, ?_, drewN_more KR.out _⟩
            obtain ⟨h1, h2, h3, h4⟩ := HPQ.out
            rw [List.take_succ_eq_append_getElem h1, List.take_succ_eq_append_getElem h2, TK.out, ← h3, ← h4, HE.out]
          case measure => simp [intOf]; omega
        · have he1 : (p != q) = true := by simp [he]
          have he2 : (p == q) = false := by simp [he]
          have HE := Lib.hid he
          clear he
          go_wp2_with fail
          go_quiet (fail)
          go_wp2_with fail
          go_ret
          refine ⟨?_, drewN_more KR.out _⟩
          obtain ⟨h1, h2, h3, h4⟩ := HPQ.out
          have : sameB x y = false := by
            simp only [sameB, decide_eq_false_iff_not]
            intro e
            subst e
            exact HE.out (h3.trans h4.symm)
          rw [this]
          rfl
      · have hkn : k = n := by omega
        have hs : sameB x y = true := by
          have h1 := HN.out.1
          have h2 := HN.out.2
          rw [List.take_of_length_le (by omega), List.take_of_length_le (by omega)] at htk
          simp [sameB, htk]
        have HS := Lib.hid hs
        clear hkn hs htk hK
        go_wp2_with fail
        go_ret
        exact ⟨by rw [HS.out]; rfl, KR.out⟩
  · have hs : sameB x y = false := by
      simp only [sameB, decide_eq_false_iff_not]
      intro e
      subst e
      omega
    have h1 : ((n : Int) != (m : Int)) = true := by simp; omega
    have HS := Lib.hid hs
    clear hn hm hx hy hs
    go_enter Tryz.func56, Tryz.ntmps56
    go_wp2_with fail
    go_ret
    exact ⟨by rw [HS.out]; rfl, 0, rfl⟩

/-- an outcome's two lists, as they can be read -/
structure OutS (w : World) (cv rv : Value) (cells regs : List Int) : Prop where
  cells : ∃ a c, cv = .slice a cells.length c ∧ Sees w a (cells.map (.int .u64))
  regs : ∃ a c, rv = .slice a regs.length c ∧ Sees w a (regs.map (.int .u64))
theorem OutS.keep0 {w w' : World} {cv rv : Value} {cells regs : List Int} (h : OutS w cv rv cells regs) (k : Keep [] w w') : OutS w' cv rv cells regs := by
  obtain ⟨⟨a, c, e, s⟩, ⟨a2, c2, e2, s2⟩⟩ := h
  exact ⟨⟨a, c, e, s.keep0 k⟩, ⟨a2, c2, e2, s2.keep0 k⟩⟩

theorem sameOutcome {w : World} {cv rv cv' rv' : Value} {c r c' r' : List Int} (h : OutS w cv rv c r) (h' : OutS w cv' rv' c' r') (hc : c.length ≤ 1000000000000000) (hr : r.length ≤ 1000000000000000) :
    Calls Tryz.prog 20 #[.agg #[cv, rv], .agg #[cv', rv']] w fun e w' => e = .returned (.bool (sameB c c' && sameB r r')) ∧ Keep [] w w' := by
  obtain ⟨⟨a1, k1, rfl, s1⟩, ⟨a2, k2, rfl, s2⟩⟩ := h
  obtain ⟨⟨a3, k3, rfl, s3⟩, ⟨a4, k4, rfl, s4⟩⟩ := h'
  obtain ⟨w1, hw1⟩ : ∃ w1, w1 = (w.alloc (.cells #[.slice a1 c.length k1, .slice a2 r.length k2] 68)).alloc (.cells #[.slice a3 c'.length k3, .slice a4 r'.length k4] 68) := ⟨_, rfl⟩
  have q1 : Keep [] w w1 := by rw [hw1]; exact ((Keep.refl _ _).alloc _).alloc _
  have b1 : w1.heap[w.heap.size]? = some (.cells #[.slice a1 c.length k1, .slice a2 r.length k2] 68 (0, 0)) := by rw [hw1]; exact alloc_some _ (alloc_new w _)
  have b2 : w1.heap[w.heap.size + 1]? = some (.cells #[.slice a3 c'.length k3, .slice a4 r'.length k4] 68 (0, 0)) := by
    rw [hw1]
    have := alloc_new (w.alloc (.cells #[.slice a1 c.length k1, .slice a2 r.length k2] 68)) (.cells #[.slice a3 c'.length k3, .slice a4 r'.length k4] 68)
    rw [World.size_alloc] at this
    exact this
  have H1 := Lib.hid ((sameWords k1 k3 (s1.keep0 q1) (s3.keep0 q1) (by omega)).mono fun e w' ⟨z1, z2⟩ => (⟨z1, keep_of_drewN z2⟩ : e = Ending.returned (.bool (sameB c c')) ∧ Keep [] w1 w'))
  have H2 := Lib.hid (fun (w2 : World) (k : Keep [] w1 w2) => (sameWords k2 k4 ((s2.keep0 q1).keep0 k) ((s4.keep0 q1).keep0 k) (by omega)).mono fun e w' ⟨z1, z2⟩ => (⟨z1, keep_of_drewN z2⟩ : e = Ending.returned (.bool (sameB r r')) ∧ Keep [] w2 w'))
  have Q1 := Lib.hid q1
  have B := Lib.hid (And.intro b1 b2)
  have x0 := (cell_of b1 0).trans rfl
  have x1 := (cell_of b2 0).trans rfl
  obtain ⟨n1, e1⟩ : ∃ n, n = c.length := ⟨_, rfl⟩
  obtain ⟨n2, e2⟩ : ∃ n, n = r.length := ⟨_, rfl⟩
  obtain ⟨n3, e3⟩ : ∃ n, n = c'.length := ⟨_, rfl⟩
  obtain ⟨n4, e4⟩ : ∃ n, n = r'.length := ⟨_, rfl⟩
  obtain ⟨d1, f1⟩ : ∃ d, d = sameB c c' := ⟨_, rfl⟩
  obtain ⟨d2, f2⟩ : ∃ d, d = sameB r r' := ⟨_, rfl⟩
  rw [← f1, ← f2]
  rw [← f1] at H1
  rw [← f2] at H2
  rw [← e1, ← e2, ← e3, ← e4] at hw1 B ⊢
  rw [← e1, ← e3] at H1
  rw [← e2, ← e4] at H2
  rw [← e1] at x0
  rw [← e3] at x1
  clear q1 b1 b2 s1 s2 s3 s4 e1 e2 e3 e4 f1 f2 hc hr
  go_enter Tryz.func20, Tryz.ntmps20
  go_wp2_with fail
  rw [show (w.alloc (.cells #[.slice a1 n1 k1, .slice a2 n2 k2] 68 (0, 0))).alloc (.cells #[.slice a3 n3 k3, .slice a4 n4 k4] 68 (0, 0)) = w1 from hw1.symm]
  clear hw1
  refine H1.out.mono ?_
  rintro e w2 ⟨rfl, k⟩
  have K2 := Lib.hid k
  have y0 := (cell_of (k.old B.out.1 (by simp)) 1).trans rfl
  have y1 := (cell_of (k.old B.out.2 (by simp)) 1).trans rfl
  clear k x0 x1
  cases d1
  · go_wp2_with fail
    go_ret
    exact ⟨rfl, Q1.out.trans K2.out⟩
  · go_wp2_with fail
    refine (H2.out w2 K2.out).mono ?_
    rintro e w3 ⟨rfl, k⟩
    have K3 := Lib.hid k
    clear k
    go_wp2_with fail
    go_ret
    exact ⟨by cases d2 <;> rfl, (Q1.out.trans K2.out).trans K3.out⟩
end Go.Proofs.YtdkdeiofjoccnaaGreat.Lit

/- Run, the program's and the document's: one contract for both, whatever came in. -/
namespace Go.Proofs.YtdkdeiofjoccnaaGreat.Lit
open Go.RowKit Go.Proofs.YtdkdeiofjoccnaaGreat.Mem Go.Proofs.YtdkdeiofjoccnaaGreat.Ar Go.Proofs.YtdkdeiofjoccnaaGreat.Un
set_option linter.unusedVariables false
set_option linter.unusedSimpArgs false
set_option maxRecDepth 100000

/-- an outcome in rows of its own -/
structure OutRow (w : World) (base : Nat) (cv rv : Value) (cells regs : List Int) : Prop where
  cells : w.ownsRow base 75 1 cv cells.length (cells.map (.int .u64))
  regs : w.ownsRow base 75 1 rv regs.length (regs.map (.int .u64))
  off : ∀ g, cv.ownBlock = some g → rv.ownBlock ≠ some g

theorem row_form {w : World} {base : Nat} {e : TypeId} {size : Nat} {v : Value} {n : Nat} {xs : List Value} (h : w.ownsRow base e size v n xs) : ∃ a c, v = .slice a n c := by
  rcases h.2 with ⟨e, h0⟩ | ⟨g, cap, cur, e, -⟩
  · exact ⟨none, 0, by rw [e, h0]⟩
  · exact ⟨_, _, e⟩
theorem OutRow.outS {w : World} {base : Nat} {cv rv : Value} {c r : List Int} (h : OutRow w base cv rv c r) : OutS w cv rv c r := by
  obtain ⟨a, k, rfl⟩ := row_form h.cells
  obtain ⟨a2, k2, rfl⟩ := row_form h.regs
  exact ⟨⟨a, k, rfl, sees_of h.cells⟩, ⟨a2, k2, rfl, sees_of h.regs⟩⟩
theorem OutRow.keep {w w' : World} {base : Nat} {cv rv : Value} {c r : List Int} (h : OutRow w base cv rv c r) {T : List Nat} (k : Keep T w w') (hT : ∀ x ∈ T, x < base) : OutRow w' base cv rv c r :=
  ⟨Har.owns_block h.cells fun g hg => k.block g (h.cells.lt g hg).2 fun hm => by have := hT g hm; have := (h.cells.lt g hg).1; omega,
    Har.owns_block h.regs fun g hg => k.block g (h.regs.lt g hg).2 fun hm => by have := hT g hm; have := (h.regs.lt g hg).1; omega, h.off⟩
theorem _root_.Go.Proofs.YtdkdeiofjoccnaaGreat.Ref.OutR.outS {w : World} {base : Nat} {cv rv : Value} {c r : List Int} (h : Ref.OutR w base cv rv c r) : OutS w cv rv c r := by
  obtain ⟨a, k, rfl⟩ := row_form h.cells
  obtain ⟨a2, k2, rfl⟩ := row_form h.regs
  exact ⟨⟨a, k, rfl, sees_of h.cells⟩, ⟨a2, k2, rfl, sees_of h.regs⟩⟩
theorem _root_.Go.Proofs.YtdkdeiofjoccnaaGreat.Ref.OutR.keep {w w' : World} {base : Nat} {cv rv : Value} {c r : List Int} (h : Ref.OutR w base cv rv c r) {T : List Nat} (k : Keep T w w') (hT : ∀ x ∈ T, x < base) : Ref.OutR w' base cv rv c r :=
  ⟨Har.owns_block h.cells fun g hg => k.block g (h.cells.lt g hg).2 fun hm => by have := hT g hm; have := (h.cells.lt g hg).1; omega,
    Har.owns_block h.regs fun g hg => k.block g (h.regs.lt g hg).2 fun hm => by have := hT g hm; have := (h.regs.lt g hg).1; omega⟩

set_option maxHeartbeats 1000000 in
theorem run_ok2 {w : World} {cv tv : Value} {l : LP} (hs : Small l) (hl : LitAt w cv tv l) (h : soundB l = true) (s : ByteArray) (hsz : s.size ≤ 2097152) :
    Calls Tryz.prog 18 #[.agg #[cv, tv], .string s] w fun e w' => ∃ P cv rv A, Laid l P ∧ (drained l P s).s.ars = [A] ∧ e = .returned (.tuple #[.agg #[cv, rv], .int .i64 0]) ∧
      OutRow w' w.heap.size cv rv (slotWords A 1) (regsOf (drained l P s).s.ths) ∧ Keep [] w w' := by
  obtain ⟨a1, c1, rfl, s1⟩ := hl.cells
  obtain ⟨a2, c2, ps, rfl, hps, s2, s3⟩ := hl.threads
  have HS := Lib.hid hs
  have H := Lib.hid h
  have HL := Lib.hid hl
  clear hs hl s1 s2 s3 hps h
  obtain ⟨w1, hw1⟩ : ∃ w1, w1 = rw0 w (.slice a1 l.cells.length c1) (.slice a2 l.threads.length c2) := ⟨_, rfl⟩
  have B1 := Lib.hid (rw0_b w (.slice a1 l.cells.length c1) (.slice a2 l.threads.length c2))
  have K1 := Lib.hid (rw0_k w (.slice a1 l.cells.length c1) (.slice a2 l.threads.length c2))
  have q0 := (cell_of (rw0_a w (.slice a1 l.cells.length c1) (.slice a2 l.threads.length c2)) 0).trans rfl
  have q1 := (cell_of (rw0_a w (.slice a1 l.cells.length c1) (.slice a2 l.threads.length c2)) 1).trans rfl
  go_enter Tryz.func18, Tryz.ntmps18
  go_wp2_with fail
  have hw1' : (w.alloc (.cells #[.slice a1 l.cells.length c1, .slice a2 l.threads.length c2] 25)).alloc (.cells #[.slice none 0 0, .slice none 0 0] 68) = w1 := hw1.symm
  rw [hw1']
  rw [← hw1] at B1 K1 q0 q1
  clear hw1 hw1'
  refine (lay_ok HS.out (HL.out.keep0 K1.out) H.out).mono ?_
  rintro e w2 ⟨bb, L, hb, hq, vs, ve, vd, P, tsv, rfl, hB, hPn⟩
  have B2 := Lib.hid hB
  have PN := Lib.hid hPn
  clear hB hPn q0 q1
  go_wp2_with fail
  refine (B2.out.play s hsz).mono ?_
  rintro e w3 ⟨rfl, hq3, vs3, ve3, vd3, hB⟩
  have c3 := (cell_of hB.hbb 3).trans rfl
  have B3 := Lib.hid hB
  clear hB
  go_wp2_with fail
  refine (B3.out.drain 14 (by omega)).mono ?_
  rintro e w4 ⟨rfl, hq4, vs4, ve4, vd4, hB⟩
  obtain ⟨n4, e4, hn4⟩ : ∃ (n4 e4 : Int), True := ⟨0, 0, trivial⟩
  obtain ⟨D, hD⟩ : ∃ D, D = drained l P s := ⟨_, rfl⟩
  have hB' : Bench w1 w4 bb L 1 hb hq4 vs4 ve4 vd4 P D.s tsv D.H := by rw [hD]; exact hB
  have B4 := Lib.hid hB'
  have HD := Lib.hid hD
  clear hB hB' c3 hD
  obtain ⟨A, hA⟩ : ∃ A, D.s.ars = [A] := by
    have h1 := B4.out.stand.la
    rw [B4.out.ars] at h1
    match hq : D.s.ars with
    | [] => rw [hq] at h1; simp at h1
    | [A] => exact ⟨A, rfl⟩
    | _ :: _ :: _ => rw [hq] at h1; simp at h1
  have h0 := B4.out.stand.ar 0 (by rw [B4.out.ars]; simp) (by rw [hA]; simp)
  simp only [B4.out.ars, hA, List.getElem_cons_zero] at h0
  have HA := Lib.hid hA
  have H0 := Lib.hid h0
  clear hA h0
  go_wp2_with fail
  have hin : inUseB (D.s.ars.getD 0 (arena0 ⟨[], []⟩)) 1 = true := by rw [HA.out]; exact H0.out.2
  refine (B4.out.outcome (by
    have := PN.out
    have h1 := H.out
    simp only [soundB, betB, Bool.and_eq_true, decide_eq_true_eq] at h1
    omega) ⟨A, HA.out⟩ hin).mono ?_
  clear hin
  rintro e w5 ⟨g, v, rfl, h5, h6, h7, h8, k5⟩
  rw [HA.out] at h5 ⊢
  rw [List.getD_cons_zero] at h5 ⊢
  have B5 := Lib.hid (k5.old (B4.out.keep.old B1.out (by simp)) (by simp))
  have O5 := Lib.hid (And.intro h5 (And.intro h6 (And.intro h7 h8)))
  have K5 := Lib.hid k5
  have hv5 : ∃ a n c, v = .slice a n c := by
    rcases h6.2 with ⟨e, -⟩ | ⟨g, cap, cur, e, -⟩
    · exact ⟨_, _, _, e⟩
    · exact ⟨_, _, _, e⟩
  obtain ⟨va, vn, vc, rfl⟩ := hv5
  have z0 := fun o => (cell_of (alloc_some o B5.out) 0).trans rfl
  have z1 := fun o => (cell_of (alloc_some o B5.out) 1).trans rfl
  have zf := fun o => free_of (alloc_some o B5.out)
  clear h5 h6 h7 h8 k5
  go_wp2_with fail
  have a6 := (Keep.refl [] w5).alloc (.cells #[.slice (some ⟨g, 0, none⟩) A.width A.width, .slice va vn vc] 68)
  obtain ⟨b6, k6⟩ := two_set (alloc_some (.cells #[.slice (some ⟨g, 0, none⟩) A.width A.width, .slice va vn vc] 68) B5.out) (.slice (some ⟨g, 0, none⟩) A.width A.width) (.slice va vn vc)
  refine bodyPost_ret (results_cell_tmp rfl _ _ _ rfl (run_loadVar_row (P := Tryz.prog) _ (w.heap.size + 1) 68 68 _ (0, 0) _ b6 Tryz.underlying68 rfl (by kernel_rfl))) rfl ?_
  have hle : w.heap.size + 2 ≤ w4.heap.size := by
    have h1 := lt_of B1.out
    have h2 := B4.out.keep.size
    omega
  have KK : Keep [] w w5 := (K1.out.trans B4.out.keep).trans K5.out
  obtain ⟨h5, h6, h7, h8⟩ := O5.out
  have hwl : (slotWords A 1).length = A.width := slotWords_length A 1
  refine ⟨P, _, _, A, ⟨PN.out, ⟨L, B4.out.ars⟩, fun i j hi hj e => ?_, fun i hi => ?_⟩, by rw [← HD.out]; exact HA.out, rfl, ⟨?_, ?_, ?_⟩, (KK.trans a6).chain k6 fun x hx => .inr (by simp at hx; omega)⟩
  · apply Decidable.byContradiction
    intro hne
    exact B4.out.stand.apart (.th i) (.th j) (by simpa using hne) P.seats[i].tb (by rw [own_th hi]; simp) (by rw [own_th hj, e]; simp)
  · obtain ⟨h3, -⟩ := B4.out.stand.th i hi (by rw [B4.out.stand.lt]; exact hi)
    rw [B4.out.ars] at h3
    simpa using h3
  · rw [hwl]
    have hx := k6.old (a6.old h5 (by simp)) (by simp; omega)
    refine ⟨by simp [hwl], .inr ⟨g, A.width, _, rfl, by omega, hx, Nat.le_refl _, ?_, ?_, ?_⟩⟩
    · have := H0.out.1.fits.w2
      unfold maxLen
      omega
    · simp [hwl]
    · rw [Nat.mul_one]
      exact List.take_of_length_le (by simp [hwl])
  · rw [← HD.out]
    exact Pick.owns_mono (Pick.owns_keep (Pick.owns_keep h6 a6 (by simp)) k6 (by simp; omega)) (by omega)
  · intro g' hg' e'
    have e2 : g = g' := by simpa [Value.ownBlock] using hg'
    subst e2
    exact h8 e'

/-- the error and the outcome of Run -/
def outE (l : LP) : Int := if soundB l = true then 0 else 35
def outC (l : LP) (s : ByteArray) : List Int := if soundB l = true then (Ref.drainedR l s).s.cells else []
def outG (l : LP) (s : ByteArray) : List Int := if soundB l = true then regsOf (Ref.drainedR l s).s.ths else []

theorem run_any {w : World} {cv tv : Value} {l : LP} (hs : Small l) (hi : Ref.InR l) (hl : LitAt w cv tv l) (s : ByteArray) (hsz : s.size ≤ 2097152) :
    Calls Tryz.prog 18 #[.agg #[cv, tv], .string s] w fun e w' => ∃ ov rv, e = .returned (.tuple #[.agg #[ov, rv], .int .i64 (outE l)]) ∧ OutRow w' w.heap.size ov rv (outC l s) (outG l s) ∧ Keep [] w w' := by
  by_cases h : soundB l = true
  · have e1 : outE l = 0 := by simp [outE, h]
    have e2 : outC l s = (Ref.drainedR l s).s.cells := by simp [outC, h]
    have e3 : outG l s = regsOf (Ref.drainedR l s).s.ths := by simp [outG, h]
    rw [e1, e2, e3]
    refine (run_ok2 hs hl h s hsz).mono ?_
    rintro e w' ⟨P, ov, rv, A, hP, hA, rfl, hO, hk⟩
    obtain ⟨q1, q2⟩ := Ref.run_same hP h hi s hA
    rw [q1, q2] at hO
    exact ⟨_, _, rfl, hO, hk⟩
  · have h' : soundB l = false := by simpa using h
    have e1 : outE l = 35 := by simp [outE, h']
    have e2 : outC l s = [] := by simp [outC, h']
    have e3 : outG l s = [] := by simp [outG, h']
    rw [e1, e2, e3]
    refine (run_bad hs hl h' s).mono ?_
    rintro e w' ⟨rfl, hk⟩
    exact ⟨_, _, rfl, ⟨World.ownsRow_nil _ _ _ _, World.ownsRow_nil _ _ _ _, fun g hg => by simp [Value.ownBlock] at hg⟩, hk⟩

theorem runR_any {w : World} {cv tv : Value} {l : LP} (hs : Small l) (hl : LitAt w cv tv l) (s : ByteArray) (hsz : s.size ≤ 2097152) :
    Calls Tryz.prog 19 #[.agg #[cv, tv], .string s] w fun e w' => ∃ ov rv, e = .returned (.tuple #[.agg #[ov, rv], .int .i64 (outE l)]) ∧ Ref.OutR w' w.heap.size ov rv (outC l s) (outG l s) ∧ Keep [] w w' := by
  by_cases h : soundB l = true
  · have e1 : outE l = 0 := by simp [outE, h]
    have e2 : outC l s = (Ref.drainedR l s).s.cells := by simp [outC, h]
    have e3 : outG l s = regsOf (Ref.drainedR l s).s.ths := by simp [outG, h]
    rw [e1, e2, e3]
    exact Ref.runR_ok hs hl h s hsz
  · have h' : soundB l = false := by simpa using h
    have e1 : outE l = 35 := by simp [outE, h']
    have e2 : outC l s = [] := by simp [outC, h']
    have e3 : outG l s = [] := by simp [outG, h']
    rw [e1, e2, e3]
    refine (Ref.runR_bad hs hl h' s).mono ?_
    rintro e w' ⟨rfl, hk⟩
    exact ⟨_, _, rfl, ⟨World.ownsRow_nil _ _ _ _, World.ownsRow_nil _ _ _ _⟩, hk⟩

theorem refAct_regs (cells : List Int) (t : Th) (x : Ins) : (Ref.refAct cells t x).2.regs.length = t.regs.length := by
  unfold Ref.refAct
  repeat' split
  all_goals first | rfl | exact List.length_set ..
/-- what no step turns -/
def Shape (l : LP) (S : Ref.RP) : Prop := S.cells.length = l.cells.length ∧ S.ths.length = l.threads.length ∧ ∀ t ∈ S.ths, t.regs.length = 4
theorem Shape.step {l : LP} {S : Ref.RP} (h : Shape l S) (i : Nat) : Shape l (Ref.refStep S i).1 := by
  refine ⟨(Ref.refStep_len S i).2.trans h.1, (Ref.refStep_len S i).1.trans h.2.1, ?_⟩
  unfold Ref.refStep
  cases ht : S.ths[i]? with
  | none => exact h.2.2
  | some t =>
    simp only
    cases hx : t.prog[t.at_]? with
    | none => exact h.2.2
    | some x =>
      intro t' ht'
      rcases List.mem_or_eq_of_mem_set ht' with hm | rfl
      · exact h.2.2 t' hm
      · rw [refAct_regs]
        exact h.2.2 t (List.mem_of_getElem? ht)
theorem Shape.play {l : LP} {H : Har.Har} {S : Ref.RP} (h : Shape l S) (pl : List Pick.Pk) : Shape l (Har.playC Ref.refM pl (Ref.begunR H S)).s := by
  have c := Har.playC_came (M := Ref.refM) pl (Ref.begunR H S)
  refine c.path.inv (I := fun x => Shape l x.2) (fun x y hx hm => ?_) h
  obtain ⟨k, j, q, hk, hq, rfl⟩ := hm.ex
  show Shape l (Har.stepH Ref.refM x.1 x.2 k).2
  unfold Har.stepH
  split
  · exact hx
  · split
    · exact hx.step _
    · exact hx.step _
theorem out_len (l : LP) (s : ByteArray) : (outC l s).length ≤ 1000 ∧ (outG l s).length ≤ 1000 := by
  by_cases h : soundB l = true
  · have e2 : outC l s = (Ref.drainedR l s).s.cells := by simp [outC, h]
    have e3 : outG l s = regsOf (Ref.drainedR l s).s.ths := by simp [outG, h]
    rw [e2, e3]
    have h0 : Shape l (⟨l.cells, l.threads.map th0⟩ : Ref.RP) := ⟨rfl, by simp, fun t ht => by
      obtain ⟨p, -, rfl⟩ := List.mem_map.1 ht
      rfl⟩
    have h1 : Shape l (Ref.playedR l s).s := h0.play _
    have h2 : Shape l (Ref.drainedR l s).s := h1.play _
    have hb := h
    simp only [soundB, betB, Bool.and_eq_true, decide_eq_true_eq] at hb
    have q1 := h2.1
    have q2 := h2.2.1
    rw [regsOf_length _ h2.2.2]
    omega
  · have h' : soundB l = false := by simpa using h
    have e2 : outC l s = [] := by simp [outC, h']
    have e3 : outG l s = [] := by simp [outG, h']
    rw [e2, e3]
    exact ⟨Nat.zero_le _, Nat.zero_le _⟩
end Go.Proofs.YtdkdeiofjoccnaaGreat.Lit
