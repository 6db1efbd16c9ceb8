/- Run, the program's and the document's: one contract for both, whatever came in. -/
import Derived.Test.YtdkdeiofjoccnaaGreatRefLaw
import Derived.Test.YtdkdeiofjoccnaaGreatWords3
namespace Go.Proofs.YtdkdeiofjoccnaaGreat.Lit
open Go.RowKit Go.Proofs.YtdkdeiofjoccnaaGreat.Mem Go.Proofs.YtdkdeiofjoccnaaGreat.Ar Go.Proofs.YtdkdeiofjoccnaaGreat.Un
set_option linter.unusedVariables false
set_option linter.unusedSimpArgs false
set_option maxRecDepth 100000

/-- an outcome in rows of its own -/
structure OutRow (w : World) (base : Nat) (cv rv : Value) (cells regs : List Int) : Prop where
  cells : w.ownsRow base 75 1 cv cells.length (cells.map (.int .u64))
  regs : w.ownsRow base 75 1 rv regs.length (regs.map (.int .u64))
  off : ∀ g, cv.ownBlock = some g → rv.ownBlock ≠ some g

theorem row_form {w : World} {base : Nat} {e : TypeId} {size : Nat} {v : Value} {n : Nat} {xs : List Value} (h : w.ownsRow base e size v n xs) : ∃ a c, v = .slice a n c := by
  rcases h.2 with ⟨e, h0⟩ | ⟨g, cap, cur, e, -⟩
  · exact ⟨none, 0, by rw [e, h0]⟩
  · exact ⟨_, _, e⟩
theorem OutRow.outS {w : World} {base : Nat} {cv rv : Value} {c r : List Int} (h : OutRow w base cv rv c r) : OutS w cv rv c r := by
  obtain ⟨a, k, rfl⟩ := row_form h.cells
  obtain ⟨a2, k2, rfl⟩ := row_form h.regs
  exact ⟨⟨a, k, rfl, sees_of h.cells⟩, ⟨a2, k2, rfl, sees_of h.regs⟩⟩
theorem OutRow.keep {w w' : World} {base : Nat} {cv rv : Value} {c r : List Int} (h : OutRow w base cv rv c r) {T : List Nat} (k : Keep T w w') (hT : ∀ x ∈ T, x < base) : OutRow w' base cv rv c r :=
  ⟨Har.owns_block h.cells fun g hg => k.block g (h.cells.lt g hg).2 fun hm => by have := hT g hm; have := (h.cells.lt g hg).1; omega,
    Har.owns_block h.regs fun g hg => k.block g (h.regs.lt g hg).2 fun hm => by have := hT g hm; have := (h.regs.lt g hg).1; omega, h.off⟩
theorem _root_.Go.Proofs.YtdkdeiofjoccnaaGreat.Ref.OutR.outS {w : World} {base : Nat} {cv rv : Value} {c r : List Int} (h : Ref.OutR w base cv rv c r) : OutS w cv rv c r := by
  obtain ⟨a, k, rfl⟩ := row_form h.cells
  obtain ⟨a2, k2, rfl⟩ := row_form h.regs
  exact ⟨⟨a, k, rfl, sees_of h.cells⟩, ⟨a2, k2, rfl, sees_of h.regs⟩⟩
theorem _root_.Go.Proofs.YtdkdeiofjoccnaaGreat.Ref.OutR.keep {w w' : World} {base : Nat} {cv rv : Value} {c r : List Int} (h : Ref.OutR w base cv rv c r) {T : List Nat} (k : Keep T w w') (hT : ∀ x ∈ T, x < base) : Ref.OutR w' base cv rv c r :=
  ⟨Har.owns_block h.cells fun g hg => k.block g (h.cells.lt g hg).2 fun hm => by have := hT g hm; have := (h.cells.lt g hg).1; omega,
    Har.owns_block h.regs fun g hg => k.block g (h.regs.lt g hg).2 fun hm => by have := hT g hm; have := (h.regs.lt g hg).1; omega⟩

set_option maxHeartbeats 1000000 in
theorem run_ok2 {w : World} {cv tv : Value} {l : LP} (hs : Small l) (hl : LitAt w cv tv l) (h : soundB l = true) (s : ByteArray) (hsz : s.size ≤ 2097152) :
    Calls Tryz.prog 18 #[.agg #[cv, tv], .string s] w fun e w' => ∃ P cv rv A, Laid l P ∧ (drained l P s).s.ars = [A] ∧ e = .returned (.tuple #[.agg #[cv, rv], .int .i64 0]) ∧
      OutRow w' w.heap.size cv rv (slotWords A 1) (regsOf (drained l P s).s.ths) ∧ Keep [] w w' := by
  obtain ⟨a1, c1, rfl, s1⟩ := hl.cells
  obtain ⟨a2, c2, ps, rfl, hps, s2, s3⟩ := hl.threads
  have HS := Lib.hid hs
  have H := Lib.hid h
  have HL := Lib.hid hl
  clear hs hl s1 s2 s3 hps h
  obtain ⟨w1, hw1⟩ : ∃ w1, w1 = rw0 w (.slice a1 l.cells.length c1) (.slice a2 l.threads.length c2) := ⟨_, rfl⟩
  have B1 := Lib.hid (rw0_b w (.slice a1 l.cells.length c1) (.slice a2 l.threads.length c2))
  have K1 := Lib.hid (rw0_k w (.slice a1 l.cells.length c1) (.slice a2 l.threads.length c2))
  have q0 := (cell_of (rw0_a w (.slice a1 l.cells.length c1) (.slice a2 l.threads.length c2)) 0).trans rfl
  have q1 := (cell_of (rw0_a w (.slice a1 l.cells.length c1) (.slice a2 l.threads.length c2)) 1).trans rfl
  go_enter Tryz.func18, Tryz.ntmps18
  go_wp2_with fail
  have hw1' : (w.alloc (.cells #[.slice a1 l.cells.length c1, .slice a2 l.threads.length c2] 25)).alloc (.cells #[.slice none 0 0, .slice none 0 0] 68) = w1 := hw1.symm
  rw [hw1']
  rw [← hw1] at B1 K1 q0 q1
  clear hw1 hw1'
  refine (lay_ok HS.out (HL.out.keep0 K1.out) H.out).mono ?_
  rintro e w2 ⟨bb, L, hb, hq, vs, ve, vd, P, tsv, rfl, hB, hPn⟩
  have B2 := Lib.hid hB
  have PN := Lib.hid hPn
  clear hB hPn q0 q1
  go_wp2_with fail
  refine (B2.out.play s hsz).mono ?_
  rintro e w3 ⟨rfl, hq3, vs3, ve3, vd3, hB⟩
  have c3 := (cell_of hB.hbb 3).trans rfl
  have B3 := Lib.hid hB
  clear hB
  go_wp2_with fail
  refine (B3.out.drain 14 (by omega)).mono ?_
  rintro e w4 ⟨rfl, hq4, vs4, ve4, vd4, hB⟩
  obtain ⟨n4, e4, hn4⟩ : ∃ (n4 e4 : Int), True := ⟨0, 0, trivial⟩
  obtain ⟨D, hD⟩ : ∃ D, D = drained l P s := ⟨_, rfl⟩
  have hB' : Bench w1 w4 bb L 1 hb hq4 vs4 ve4 vd4 P D.s tsv D.H := by rw [hD]; exact hB
  have B4 := Lib.hid hB'
  have HD := Lib.hid hD
  clear hB hB' c3 hD
  obtain ⟨A, hA⟩ : ∃ A, D.s.ars = [A] := by
    have h1 := B4.out.stand.la
    rw [B4.out.ars] at h1
    match hq : D.s.ars with
    | [] => rw [hq] at h1; simp at h1
    | [A] => exact ⟨A, rfl⟩
    | _ :: _ :: _ => rw [hq] at h1; simp at h1
  have h0 := B4.out.stand.ar 0 (by rw [B4.out.ars]; simp) (by rw [hA]; simp)
  simp only [B4.out.ars, hA, List.getElem_cons_zero] at h0
  have HA := Lib.hid hA
  have H0 := Lib.hid h0
  clear hA h0
  go_wp2_with fail
  have hin : inUseB (D.s.ars.getD 0 (arena0 ⟨[], []⟩)) 1 = true := by rw [HA.out]; exact H0.out.2
  refine (B4.out.outcome (by
    have := PN.out
    have h1 := H.out
    simp only [soundB, betB, Bool.and_eq_true, decide_eq_true_eq] at h1
    omega) ⟨A, HA.out⟩ hin).mono ?_
  clear hin
  rintro e w5 ⟨g, v, rfl, h5, h6, h7, h8, k5⟩
  rw [HA.out] at h5 ⊢
  rw [List.getD_cons_zero] at h5 ⊢
  have B5 := Lib.hid (k5.old (B4.out.keep.old B1.out (by simp)) (by simp))
  have O5 := Lib.hid (And.intro h5 (And.intro h6 (And.intro h7 h8)))
  have K5 := Lib.hid k5
  have hv5 : ∃ a n c, v = .slice a n c := by
    rcases h6.2 with ⟨e, -⟩ | ⟨g, cap, cur, e, -⟩
    · exact ⟨_, _, _, e⟩
    · exact ⟨_, _, _, e⟩
  obtain ⟨va, vn, vc, rfl⟩ := hv5
  have z0 := fun o => (cell_of (alloc_some o B5.out) 0).trans rfl
  have z1 := fun o => (cell_of (alloc_some o B5.out) 1).trans rfl
  have zf := fun o => free_of (alloc_some o B5.out)
  clear h5 h6 h7 h8 k5
  go_wp2_with fail
  have a6 := (Keep.refl [] w5).alloc (.cells #[.slice (some ⟨g, 0, none⟩) A.width A.width, .slice va vn vc] 68)
  obtain ⟨b6, k6⟩ := two_set (alloc_some (.cells #[.slice (some ⟨g, 0, none⟩) A.width A.width, .slice va vn vc] 68) B5.out) (.slice (some ⟨g, 0, none⟩) A.width A.width) (.slice va vn vc)
  refine bodyPost_ret (results_cell_tmp rfl _ _ _ rfl (run_loadVar_row (P := Tryz.prog) _ (w.heap.size + 1) 68 68 _ (0, 0) _ b6 Tryz.underlying68 rfl (by kernel_rfl))) rfl ?_
  have hle : w.heap.size + 2 ≤ w4.heap.size := by
    have h1 := lt_of B1.out
    have h2 := B4.out.keep.size
    omega
  have KK : Keep [] w w5 := (K1.out.trans B4.out.keep).trans K5.out
  obtain ⟨h5, h6, h7, h8⟩ := O5.out
  have hwl : (slotWords A 1).length = A.width := slotWords_length A 1
  refine ⟨P, _, _, A, ⟨PN.out, ⟨L, B4.out.ars⟩, fun i j hi hj e => ?_, fun i hi => ?_⟩, by rw [← HD.out]; exact HA.out, rfl, ⟨?_, ?_, ?_⟩, (KK.trans a6).chain k6 fun x hx => .inr (by simp at hx; omega)⟩
  · apply Decidable.byContradiction
    intro hne
    exact B4.out.stand.apart (.th i) (.th j) (by simpa using hne) P.seats[i].tb (by rw [own_th hi]; simp) (by rw [own_th hj, e]; simp)
  · obtain ⟨h3, -⟩ := B4.out.stand.th i hi (by rw [B4.out.stand.lt]; exact hi)
    rw [B4.out.ars] at h3
    simpa using h3
  · rw [hwl]
    have hx := k6.old (a6.old h5 (by simp)) (by simp; omega)
    refine ⟨by simp [hwl], .inr ⟨g, A.width, _, rfl, by omega, hx, Nat.le_refl _, ?_, ?_, ?_⟩⟩
    · have := H0.out.1.fits.w2
      unfold maxLen
      omega
    · simp [hwl]
    · rw [Nat.mul_one]
      exact List.take_of_length_le (by simp [hwl])
  · rw [← HD.out]
    exact Pick.owns_mono (Pick.owns_keep (Pick.owns_keep h6 a6 (by simp)) k6 (by simp; omega)) (by omega)
  · intro g' hg' e'
    have e2 : g = g' := by simpa [Value.ownBlock] using hg'
    subst e2
    exact h8 e'

/-- the error and the outcome of Run -/
def outE (l : LP) : Int := if soundB l = true then 0 else 35
def outC (l : LP) (s : ByteArray) : List Int := if soundB l = true then (Ref.drainedR l s).s.cells else []
def outG (l : LP) (s : ByteArray) : List Int := if soundB l = true then regsOf (Ref.drainedR l s).s.ths else []

theorem run_any {w : World} {cv tv : Value} {l : LP} (hs : Small l) (hi : Ref.InR l) (hl : LitAt w cv tv l) (s : ByteArray) (hsz : s.size ≤ 2097152) :
    Calls Tryz.prog 18 #[.agg #[cv, tv], .string s] w fun e w' => ∃ ov rv, e = .returned (.tuple #[.agg #[ov, rv], .int .i64 (outE l)]) ∧ OutRow w' w.heap.size ov rv (outC l s) (outG l s) ∧ Keep [] w w' := by
  by_cases h : soundB l = true
  · have e1 : outE l = 0 := by simp [outE, h]
    have e2 : outC l s = (Ref.drainedR l s).s.cells := by simp [outC, h]
    have e3 : outG l s = regsOf (Ref.drainedR l s).s.ths := by simp [outG, h]
    rw [e1, e2, e3]
    refine (run_ok2 hs hl h s hsz).mono ?_
    rintro e w' ⟨P, ov, rv, A, hP, hA, rfl, hO, hk⟩
    obtain ⟨q1, q2⟩ := Ref.run_same hP h hi s hA
    rw [q1, q2] at hO
    exact ⟨_, _, rfl, hO, hk⟩
  · have h' : soundB l = false := by simpa using h
    have e1 : outE l = 35 := by simp [outE, h']
    have e2 : outC l s = [] := by simp [outC, h']
    have e3 : outG l s = [] := by simp [outG, h']
    rw [e1, e2, e3]
    refine (run_bad hs hl h' s).mono ?_
    rintro e w' ⟨rfl, hk⟩
    exact ⟨_, _, rfl, ⟨World.ownsRow_nil _ _ _ _, World.ownsRow_nil _ _ _ _, fun g hg => by simp [Value.ownBlock] at hg⟩, hk⟩

theorem runR_any {w : World} {cv tv : Value} {l : LP} (hs : Small l) (hl : LitAt w cv tv l) (s : ByteArray) (hsz : s.size ≤ 2097152) :
    Calls Tryz.prog 19 #[.agg #[cv, tv], .string s] w fun e w' => ∃ ov rv, e = .returned (.tuple #[.agg #[ov, rv], .int .i64 (outE l)]) ∧ Ref.OutR w' w.heap.size ov rv (outC l s) (outG l s) ∧ Keep [] w w' := by
  by_cases h : soundB l = true
  · have e1 : outE l = 0 := by simp [outE, h]
    have e2 : outC l s = (Ref.drainedR l s).s.cells := by simp [outC, h]
    have e3 : outG l s = regsOf (Ref.drainedR l s).s.ths := by simp [outG, h]
    rw [e1, e2, e3]
    exact Ref.runR_ok hs hl h s hsz
  · have h' : soundB l = false := by simpa using h
    have e1 : outE l = 35 := by simp [outE, h']
    have e2 : outC l s = [] := by simp [outC, h']
    have e3 : outG l s = [] := by simp [outG, h']
    rw [e1, e2, e3]
    refine (Ref.runR_bad hs hl h' s).mono ?_
    rintro e w' ⟨rfl, hk⟩
    exact ⟨_, _, rfl, ⟨World.ownsRow_nil _ _ _ _, World.ownsRow_nil _ _ _ _⟩, hk⟩

theorem refAct_regs (cells : List Int) (t : Th) (x : Ins) : (Ref.refAct cells t x).2.regs.length = t.regs.length := by
  unfold Ref.refAct
  repeat' split
  all_goals first | rfl | exact List.length_set ..
/-- what no step turns -/
def Shape (l : LP) (S : Ref.RP) : Prop := S.cells.length = l.cells.length ∧ S.ths.length = l.threads.length ∧ ∀ t ∈ S.ths, t.regs.length = 4
theorem Shape.step {l : LP} {S : Ref.RP} (h : Shape l S) (i : Nat) : Shape l (Ref.refStep S i).1 := by
  refine ⟨(Ref.refStep_len S i).2.trans h.1, (Ref.refStep_len S i).1.trans h.2.1, ?_⟩
  unfold Ref.refStep
  cases ht : S.ths[i]? with
  | none => exact h.2.2
  | some t =>
    simp only
    cases hx : t.prog[t.at_]? with
    | none => exact h.2.2
    | some x =>
      intro t' ht'
      rcases List.mem_or_eq_of_mem_set ht' with hm | rfl
      · exact h.2.2 t' hm
      · rw [refAct_regs]
        exact h.2.2 t (List.mem_of_getElem? ht)
theorem Shape.play {l : LP} {H : Har.Har} {S : Ref.RP} (h : Shape l S) (pl : List Pick.Pk) : Shape l (Har.playC Ref.refM pl (Ref.begunR H S)).s := by
  have c := Har.playC_came (M := Ref.refM) pl (Ref.begunR H S)
  refine c.path.inv (I := fun x => Shape l x.2) (fun x y hx hm => ?_) h
  obtain ⟨k, j, q, hk, hq, rfl⟩ := hm.ex
  show Shape l (Har.stepH Ref.refM x.1 x.2 k).2
  unfold Har.stepH
  split
  · exact hx
  · split
    · exact hx.step _
    · exact hx.step _
theorem out_len (l : LP) (s : ByteArray) : (outC l s).length ≤ 1000 ∧ (outG l s).length ≤ 1000 := by
  by_cases h : soundB l = true
  · have e2 : outC l s = (Ref.drainedR l s).s.cells := by simp [outC, h]
    have e3 : outG l s = regsOf (Ref.drainedR l s).s.ths := by simp [outG, h]
    rw [e2, e3]
    have h0 : Shape l (⟨l.cells, l.threads.map th0⟩ : Ref.RP) := ⟨rfl, by simp, fun t ht => by
      obtain ⟨p, -, rfl⟩ := List.mem_map.1 ht
      rfl⟩
    have h1 : Shape l (Ref.playedR l s).s := h0.play _
    have h2 : Shape l (Ref.drainedR l s).s := h1.play _
    have hb := h
    simp only [soundB, betB, Bool.and_eq_true, decide_eq_true_eq] at hb
    have q1 := h2.1
    have q2 := h2.2.1
    rw [regsOf_length _ h2.2.2]
    omega
  · have h' : soundB l = false := by simpa using h
    have e2 : outC l s = [] := by simp [outC, h']
    have e3 : outG l s = [] := by simp [outG, h']
    rw [e2, e3]
    exact ⟨Nat.zero_le _, Nat.zero_le _⟩
end Go.Proofs.YtdkdeiofjoccnaaGreat.Lit
