/- stratalaw03: sameWords, sameOutcome. -/
import Derived.Test.YtdkdeiofjoccnaaGreatRunA
import Derived.BigQuiet
namespace Go.Proofs.YtdkdeiofjoccnaaGreat.Lit
open Go.RowKit Go.Proofs.YtdkdeiofjoccnaaGreat.Mem Go.Proofs.YtdkdeiofjoccnaaGreat.Ar Go.Proofs.YtdkdeiofjoccnaaGreat.Un
set_option linter.unusedVariables false
set_option maxRecDepth 100000

theorem sees_nth {w : World} {a : Option Addr} {l : List Int} (h : Sees w a (l.map (.int .u64))) {i : Nat} (hi : i < l.length) : ∃ g o, a = some ⟨g, o, none⟩ ∧ w.cell? ⟨g, o + i, none⟩ = some (.int .u64 l[i]) := by
  obtain ⟨g, o, e, c⟩ := h.at_ i (by simpa using hi)
  exact ⟨g, o, e, by rw [c]; simp⟩

/-- are two lists of words the same? -/
def sameB (x y : List Int) : Bool := decide (x = y)

theorem drewN_more {w wr : World} (h : ∃ d, wr = w.drewN d) (n : Nat) : ∃ d, wr.drewN n = w.drewN d := by
  obtain ⟨d, rfl⟩ := h
  exact ⟨d + n, by simp [World.drewN, Nat.add_assoc]⟩
theorem keep_of_drewN {w w' : World} (h : ∃ d, w' = w.drewN d) : Keep [] w w' := by
  obtain ⟨d, rfl⟩ := h
  exact (Keep.refl _ _).drewN d

theorem sameWords {w : World} {a b : Option Addr} {x y : List Int} (ca cb : Nat) (hx : Sees w a (x.map (.int .u64))) (hy : Sees w b (y.map (.int .u64))) (hlx : x.length ≤ 1000000000000000000) :
    Calls Tryz.prog 56 #[.slice a x.length ca, .slice b y.length cb] w fun e w' => e = .returned (.bool (sameB x y)) ∧ ∃ d, w' = w.drewN d := by
  obtain ⟨n, hn⟩ : ∃ n, n = x.length := ⟨_, rfl⟩
  obtain ⟨m, hm⟩ : ∃ m, m = y.length := ⟨_, rfl⟩
  have HN := Lib.hid (And.intro hn hm)
  have HX := Lib.hid hx
  have HY := Lib.hid hy
  rw [← hn, ← hm]
  rw [← hn] at hlx
  by_cases hnm : n = m
  · subst hnm
    clear hn hm hx hy
    go_enter Tryz.func56, Tryz.ntmps56
    go_wp2_with fail
    go_loopw [5] (fun i wr => ∃ k : Nat, i = .int .i64 k ∧ k ≤ n ∧ x.take k = y.take k ∧ ∃ d, wr = w.drewN d) (fun i _ => n - (intOf i).toNat)
    case atStart => exact ⟨0, rfl, Nat.zero_le _, by simp, 0, rfl⟩
    case round =>
      obtain ⟨k, rfl, hk, htk, hD⟩ := hrel
      have hK : Keep [] w wr := by obtain ⟨d, rfl⟩ := hD; exact (Keep.refl _ _).drewN d
      have TK := Lib.hid htk
      have KR := Lib.hid hD
      clear hD
      by_cases hlt : k < n
      · have hkx : k < x.length := by have := HN.out.1; omega
        have hky : k < y.length := by have := HN.out.2; omega
        obtain ⟨g, o, rfl, c1⟩ := sees_nth (HX.out.keep0 hK) hkx
        obtain ⟨g2, o2, rfl, c2⟩ := sees_nth (HY.out.keep0 hK) hky
        obtain ⟨p, hp⟩ : ∃ p, p = x[k] := ⟨_, rfl⟩
        obtain ⟨q, hq⟩ : ∃ q, q = y[k] := ⟨_, rfl⟩
        rw [← hp] at c1
        rw [← hq] at c2
        have HPQ := Lib.hid (show ∃ (h1 : k < x.length) (h2 : k < y.length), p = x[k] ∧ q = y[k] from ⟨hkx, hky, hp, hq⟩)
        clear hkx hky hp hq htk hK
        by_cases he : p = q
        · have he1 : (p != q) = false := by simp [he]
          have he2 : (p == q) = true := by simp [he]
          have HE := Lib.hid he
          clear he
          go_wp2_with fail
          go_quiet (fail)
          go_wp2_with fail
          go_roundw
          case rel =>
            refine ⟨k + 1, by go_num, hlt, ?_, drewN_more KR.out _⟩
            obtain ⟨h1, h2, h3, h4⟩ := HPQ.out
            rw [List.take_succ_eq_append_getElem h1, List.take_succ_eq_append_getElem h2, TK.out, ← h3, ← h4, HE.out]
          case measure => simp [intOf]; omega
        · have he1 : (p != q) = true := by simp [he]
          have he2 : (p == q) = false := by simp [he]
          have HE := Lib.hid he
          clear he
          go_wp2_with fail
          go_quiet (fail)
          go_wp2_with fail
          go_ret
          refine ⟨?_, drewN_more KR.out _⟩
          obtain ⟨h1, h2, h3, h4⟩ := HPQ.out
          have : sameB x y = false := by
            simp only [sameB, decide_eq_false_iff_not]
            intro e
            subst e
            exact HE.out (h3.trans h4.symm)
          rw [this]
          rfl
      · have hkn : k = n := by omega
        have hs : sameB x y = true := by
          have h1 := HN.out.1
          have h2 := HN.out.2
          rw [List.take_of_length_le (by omega), List.take_of_length_le (by omega)] at htk
          simp [sameB, htk]
        have HS := Lib.hid hs
        clear hkn hs htk hK
        go_wp2_with fail
        go_ret
        exact ⟨by rw [HS.out]; rfl, KR.out⟩
  · have hs : sameB x y = false := by
      simp only [sameB, decide_eq_false_iff_not]
      intro e
      subst e
      omega
    have h1 : ((n : Int) != (m : Int)) = true := by simp; omega
    have HS := Lib.hid hs
    clear hn hm hx hy hs
    go_enter Tryz.func56, Tryz.ntmps56
    go_wp2_with fail
    go_ret
    exact ⟨by rw [HS.out]; rfl, 0, rfl⟩

/-- an outcome's two lists, as they can be read -/
structure OutS (w : World) (cv rv : Value) (cells regs : List Int) : Prop where
  cells : ∃ a c, cv = .slice a cells.length c ∧ Sees w a (cells.map (.int .u64))
  regs : ∃ a c, rv = .slice a regs.length c ∧ Sees w a (regs.map (.int .u64))
theorem OutS.keep0 {w w' : World} {cv rv : Value} {cells regs : List Int} (h : OutS w cv rv cells regs) (k : Keep [] w w') : OutS w' cv rv cells regs := by
  obtain ⟨⟨a, c, e, s⟩, ⟨a2, c2, e2, s2⟩⟩ := h
  exact ⟨⟨a, c, e, s.keep0 k⟩, ⟨a2, c2, e2, s2.keep0 k⟩⟩

theorem sameOutcome {w : World} {cv rv cv' rv' : Value} {c r c' r' : List Int} (h : OutS w cv rv c r) (h' : OutS w cv' rv' c' r') (hc : c.length ≤ 1000000000000000) (hr : r.length ≤ 1000000000000000) :
    Calls Tryz.prog 20 #[.agg #[cv, rv], .agg #[cv', rv']] w fun e w' => e = .returned (.bool (sameB c c' && sameB r r')) ∧ Keep [] w w' := by
  obtain ⟨⟨a1, k1, rfl, s1⟩, ⟨a2, k2, rfl, s2⟩⟩ := h
  obtain ⟨⟨a3, k3, rfl, s3⟩, ⟨a4, k4, rfl, s4⟩⟩ := h'
  obtain ⟨w1, hw1⟩ : ∃ w1, w1 = (w.alloc (.cells #[.slice a1 c.length k1, .slice a2 r.length k2] 68)).alloc (.cells #[.slice a3 c'.length k3, .slice a4 r'.length k4] 68) := ⟨_, rfl⟩
  have q1 : Keep [] w w1 := by rw [hw1]; exact ((Keep.refl _ _).alloc _).alloc _
  have b1 : w1.heap[w.heap.size]? = some (.cells #[.slice a1 c.length k1, .slice a2 r.length k2] 68 (0, 0)) := by rw [hw1]; exact alloc_some _ (alloc_new w _)
  have b2 : w1.heap[w.heap.size + 1]? = some (.cells #[.slice a3 c'.length k3, .slice a4 r'.length k4] 68 (0, 0)) := by
    rw [hw1]
    have := alloc_new (w.alloc (.cells #[.slice a1 c.length k1, .slice a2 r.length k2] 68)) (.cells #[.slice a3 c'.length k3, .slice a4 r'.length k4] 68)
    rw [World.size_alloc] at this
    exact this
  have H1 := Lib.hid ((sameWords k1 k3 (s1.keep0 q1) (s3.keep0 q1) (by omega)).mono fun e w' ⟨z1, z2⟩ => (⟨z1, keep_of_drewN z2⟩ : e = Ending.returned (.bool (sameB c c')) ∧ Keep [] w1 w'))
  have H2 := Lib.hid (fun (w2 : World) (k : Keep [] w1 w2) => (sameWords k2 k4 ((s2.keep0 q1).keep0 k) ((s4.keep0 q1).keep0 k) (by omega)).mono fun e w' ⟨z1, z2⟩ => (⟨z1, keep_of_drewN z2⟩ : e = Ending.returned (.bool (sameB r r')) ∧ Keep [] w2 w'))
  have Q1 := Lib.hid q1
  have B := Lib.hid (And.intro b1 b2)
  have x0 := (cell_of b1 0).trans rfl
  have x1 := (cell_of b2 0).trans rfl
  obtain ⟨n1, e1⟩ : ∃ n, n = c.length := ⟨_, rfl⟩
  obtain ⟨n2, e2⟩ : ∃ n, n = r.length := ⟨_, rfl⟩
  obtain ⟨n3, e3⟩ : ∃ n, n = c'.length := ⟨_, rfl⟩
  obtain ⟨n4, e4⟩ : ∃ n, n = r'.length := ⟨_, rfl⟩
  obtain ⟨d1, f1⟩ : ∃ d, d = sameB c c' := ⟨_, rfl⟩
  obtain ⟨d2, f2⟩ : ∃ d, d = sameB r r' := ⟨_, rfl⟩
  rw [← f1, ← f2]
  rw [← f1] at H1
  rw [← f2] at H2
  rw [← e1, ← e2, ← e3, ← e4] at hw1 B ⊢
  rw [← e1, ← e3] at H1
  rw [← e2, ← e4] at H2
  rw [← e1] at x0
  rw [← e3] at x1
  clear q1 b1 b2 s1 s2 s3 s4 e1 e2 e3 e4 f1 f2 hc hr
  go_enter Tryz.func20, Tryz.ntmps20
  go_wp2_with fail
  rw [show (w.alloc (.cells #[.slice a1 n1 k1, .slice a2 n2 k2] 68 (0, 0))).alloc (.cells #[.slice a3 n3 k3, .slice a4 n4 k4] 68 (0, 0)) = w1 from hw1.symm]
  clear hw1
  refine H1.out.mono ?_
  rintro e w2 ⟨rfl, k⟩
  have K2 := Lib.hid k
  have y0 := (cell_of (k.old B.out.1 (by simp)) 1).trans rfl
  have y1 := (cell_of (k.old B.out.2 (by simp)) 1).trans rfl
  clear k x0 x1
  cases d1
  · go_wp2_with fail
    go_ret
    exact ⟨rfl, Q1.out.trans K2.out⟩
  · go_wp2_with fail
    refine (H2.out w2 K2.out).mono ?_
    rintro e w3 ⟨rfl, k⟩
    have K3 := Lib.hid k
    clear k
    go_wp2_with fail
    go_ret
    exact ⟨by cases d2 <;> rfl, (Q1.out.trans K2.out).trans K3.out⟩
end Go.Proofs.YtdkdeiofjoccnaaGreat.Lit
