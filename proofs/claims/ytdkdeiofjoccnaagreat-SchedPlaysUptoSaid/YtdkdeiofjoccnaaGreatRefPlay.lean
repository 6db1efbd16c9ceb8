/- strataref03.Harness: Step as a whole; many, finish, rounds, one, Play. -/
import Derived.Test.YtdkdeiofjoccnaaGreatRefGo
namespace Go.Proofs.YtdkdeiofjoccnaaGreat.Ref
open Go.RowKit Go.Proofs.YtdkdeiofjoccnaaGreat.Mem Go.Proofs.YtdkdeiofjoccnaaGreat.Ar Go.Proofs.YtdkdeiofjoccnaaGreat.Un Go.Proofs.YtdkdeiofjoccnaaGreat.Lit
open Go.Proofs.YtdkdeiofjoccnaaGreat.Har (Job Ev evs Apart pend pend_of idleB payC sweepC roundC roundsC runC finishC pickC playC dueB stepI Conf Rounding)
set_option linter.unusedVariables false
set_option maxRecDepth 100000

/-- a harness of the document's, wherever its slices lie -/
def RS (w0 : World) (F : List Nat) (w : World) (b pb : Nat) (B : RB) (H : Har.Har) (S : RP) : Prop :=
  (∃ bq vs ve vd, RSince w0 F w b pb bq vs ve vd B H S) ∧ H.events.length + Har.due H ≤ 1000000000000

section
variable {w0 w w' : World} {F : List Nat} {b pb : Nat} {B : RB} {H : Har.Har} {S : RP} {c : Conf RP}

theorem RS.keep0 (h : RS w0 F w b pb B H S) (k : Keep [] w w') : RS w0 F w' b pb B H S := by
  obtain ⟨⟨bq, vs, ve, vd, h⟩, hf⟩ := h
  exact ⟨⟨bq, vs, ve, vd, h.keep0 k⟩, hf⟩
theorem RS.kept (h : RS w0 F w b pb B H S) : Keep (F ++ B.mem) w0 w := by
  obtain ⟨⟨bq, vs, ve, vd, h⟩, hf⟩ := h
  exact h.keep

theorem pending' (h : RS w0 F w b pb B H S) (who : Int) :
    Calls Tryz.prog 42 #[.pointer (some ⟨b, 0, none⟩), .int .i64 who] w fun e w' => e = .returned (.int .i64 (pend H who)) ∧ w = w' := by
  obtain ⟨⟨bq, vs, ve, vd, h⟩, hf⟩ := h
  exact pending h.at_ who
theorem idle' (h : RS w0 F w b pb B H S) :
    Calls Tryz.prog 44 #[.pointer (some ⟨b, 0, none⟩)] w fun e w' => e = .returned (.bool (idleB H)) ∧ Keep [] w w' := by
  obtain ⟨⟨bq, vs, ve, vd, h⟩, hf⟩ := h
  exact idle h.at_

/-- Step -/
theorem step (h : RS w0 F w b pb B H S) (who : Int) :
    Calls Tryz.prog 34 #[.pointer (some ⟨b, 0, none⟩), .int .i64 who] w fun e w' => e = .returned (.bool (dueB H who)) ∧ RS w0 F w' b pb B (stepI refM H S who).1 (stepI refM H S who).2 := by
  obtain ⟨⟨bq, vs, ve, vd, h⟩, hf⟩ := h
  by_cases hp : pend H who = 0
  · have e1 : dueB H who = false := by simp [dueB, hp]
    have e2 : stepI refM H S who = (H, S) := by
      unfold stepI
      by_cases h0 : 0 ≤ who
      · rw [if_pos h0]
        unfold pend at hp
        rw [if_pos h0] at hp
        unfold Har.stepH
        rw [List.eq_nil_of_length_eq_zero hp]
      · rw [if_neg h0]
    rw [e1, e2]
    exact (step_idle h.at_ who hp).mono fun e w' ⟨q1, q2⟩ => ⟨q1, ⟨bq, vs, ve, vd, q2 ▸ h⟩, hf⟩
  · have e1 : dueB H who = true := by simp [dueB, hp]
    obtain ⟨k, j, l, rfl, hk, hq⟩ := Har.pend_pos hp
    have hq' : H.queues[k] = j :: l := by rw [List.getElem?_eq_getElem hk] at hq; exact Option.some.inj hq
    have e2 : stepI refM H S (k : Int) = Har.stepH refM H S k := by
      unfold stepI
      rw [if_pos (by omega), Int.toNat_natCast]
    rw [e1, e2]
    obtain ⟨i, hji, hi⟩ := h.ok _ (List.getElem_mem hk) j (by rw [hq']; simp)
    exact (step_made h k hk j l hq' hf).mono fun e w' ⟨q1, vs', ve', vd', q2⟩ => ⟨q1, ⟨bq, vs', ve', vd', q2⟩, by rw [stepH_few H S hk hq' hji]; exact hf⟩

/-- what a conf is after a step that was due and could be paid -/
theorem paid (hd : c.dry = false) (who : Int) (hp : ¬ pend c.H who = 0) (hl : ¬ c.left = 0) : payC refM c who = ({ c with H := (stepI refM c.H c.s who).1, s := (stepI refM c.H c.s who).2, left := c.left - 1 }, true) := by
  rw [Har.payC_wet c who hd, if_neg hp, if_neg hl]
theorem broke (hd : c.dry = false) (who : Int) (hp : ¬ pend c.H who = 0) (hl : c.left = 0) : payC refM c who = ({ c with dry := true }, false) := by
  rw [Har.payC_wet c who hd, if_neg hp, if_pos hl]
theorem none' (hd : c.dry = false) (who : Int) (hp : pend c.H who = 0) : payC refM c who = (c, false) := by
  rw [Har.payC_wet c who hd, if_pos hp]

/-- what the document's playing answers -/
def Played (w0 : World) (F : List Nat) (b pb : Nat) (B : RB) (left : Nat) (c' : Conf RP) (e : Ending) (w' : World) : Prop :=
  e = .returned (.tuple #[.int .i64 ((left : Int) - c'.left), .bool c'.dry]) ∧ RS w0 F w' b pb B c'.H c'.s

set_option maxHeartbeats 1000000 in
theorem many (h : RS w0 F w b pb B c.H c.s) (hd : c.dry = false) (hl : c.left ≤ 9223372036854775807) (who n : Int) :
    Calls Tryz.prog 100 #[.pointer (some ⟨b, 0, none⟩), .int .i64 who, .int .i64 n, .int .i64 c.left] w fun e w' => Played w0 F b pb B c.left (runC refM who n.toNat c) e w' := by
  have HH := Lib.hid h
  have HD := Lib.hid hd
  clear h hd
  obtain ⟨L, hL⟩ : ∃ L, L = c.left := ⟨_, rfl⟩
  rw [← hL] at hl ⊢
  have HL := Lib.hid hL
  clear hL
  go_enter Tryz.func100, Tryz.ntmps100
  go_wp2_with fail
  go_loopw [10] (fun i wr => ∃ (m : Nat) (cr : Conf RP), i = .int .i64 m ∧ ((m : Int) ≤ n ∨ m = 0) ∧ RS w0 F wr b pb B cr.H cr.s ∧ cr.dry = false ∧ cr.left + m = L ∧ runC refM who (n.toNat - m) cr = runC refM who n.toNat c) (fun i _ => n.toNat - (intOf i).toNat)
  case atStart => exact ⟨0, c, rfl, .inr rfl, HH.out, HD.out, HL.out.symm, rfl⟩
  case round =>
    obtain ⟨m, cr, rfl, hm, hS, hd, hle, hR⟩ := hrel
    have SR := Lib.hid hS
    have RR := Lib.hid hR
    have DR := Lib.hid hd
    clear hS hR hd
    by_cases hlt : (m : Int) < n
    · have hrun : runC refM who n.toNat c = if (payC refM cr who).2 then runC refM who (n.toNat - (m + 1)) (payC refM cr who).1 else (payC refM cr who).1 := by
        rw [← RR.out, show n.toNat - m = (n.toNat - (m + 1)) + 1 by omega]
        rfl
      have HR := Lib.hid hrun
      clear hrun
      by_cases hp : pend cr.H who = 0
      · have HP := Lib.hid hp
        clear hp
        go_wp2_with fail
        refine (pending' SR.out who).mono ?_
        rintro e w2 ⟨rfl, rfl⟩
        rw [HP.out]
        go_wp2_with fail
        go_ret2
        have e1 : runC refM who n.toNat c = cr := by rw [HR.out, none' DR.out who HP.out]; rfl
        rw [e1]
        exact ⟨by rw [DR.out, show (L : Int) - cr.left = m by omega]; rfl, SR.out⟩
      · have hp0 : 0 < pend cr.H who := by omega
        have HP := Lib.hid hp
        clear hp
        by_cases hz : cr.left = 0
        · have HZ := Lib.hid hz
          have hmL : m = L := by omega
          subst hmL
          clear hz
          go_wp2_with fail
          refine (pending' SR.out who).mono ?_
          rintro e w2 ⟨rfl, rfl⟩
          go_wp2_with fail
          go_ret2
          have e1 : runC refM who n.toNat c = { cr with dry := true } := by rw [HR.out, broke DR.out who HP.out HZ.out]; rfl
          rw [e1]
          exact ⟨by show _ = Ending.returned (.tuple #[.int .i64 ((m : Int) - cr.left), .bool true]); rw [show (m : Int) - cr.left = m by omega]; rfl, SR.out⟩
        · have HZ := Lib.hid hz
          have hmL : ((m : Int) == (L : Int)) = false := by simp; omega
          have hm1 : (m : Int) + 1 ≤ 9223372036854775807 := by omega
          go_wp2_with fail
          refine (pending' SR.out who).mono ?_
          rintro e w2 ⟨rfl, rfl⟩
          go_wp2_with fail
          refine (step SR.out who).mono ?_
          rintro e w3 ⟨rfl, h3⟩
          have S3 := Lib.hid h3
          clear h3
          go_wp2_with fail
          have hpd := Lib.hid (paid DR.out who HP.out HZ.out)
          go_roundw
          case rel => exact ⟨m + 1, (payC refM cr who).1, by go_num, .inl (by omega), by rw [hpd.out]; exact S3.out, by rw [hpd.out]; exact DR.out, by rw [hpd.out]; show cr.left - 1 + (m + 1) = L; omega, by rw [HR.out, hpd.out, if_pos rfl]⟩
          case measure => simp [intOf]; omega
    · have hR : runC refM who n.toNat c = cr := by rw [← RR.out, show n.toNat - m = 0 by omega]; rfl
      have HR := Lib.hid hR
      clear hR
      go_wp2_with fail
      go_ret2
      rw [HR.out]
      exact ⟨by rw [DR.out, show (L : Int) - cr.left = m by omega]; rfl, SR.out⟩

set_option maxHeartbeats 1000000 in
theorem finish (h : RS w0 F w b pb B c.H c.s) (hd : c.dry = false) (hl : c.left ≤ 9223372036854775807) (who : Int) :
    Calls Tryz.prog 101 #[.pointer (some ⟨b, 0, none⟩), .int .i64 who, .int .i64 c.left] w fun e w' => Played w0 F b pb B c.left (finishC refM who (pend c.H who) (c.left + 2) c) e w' := by
  have HH := Lib.hid h
  have HD := Lib.hid hd
  clear h hd
  obtain ⟨L, hL⟩ : ∃ L, L = c.left := ⟨_, rfl⟩
  obtain ⟨N, hN⟩ : ∃ N, N = pend c.H who := ⟨_, rfl⟩
  rw [← hL] at hl ⊢
  rw [← hN]
  have HL := Lib.hid hL
  have HN := Lib.hid hN
  clear hL hN
  go_enter Tryz.func101, Tryz.ntmps101
  go_wp2_with fail
  refine (pending' HH.out who).mono ?_
  rintro e w2 ⟨rfl, rfl⟩
  rw [← HN.out]
  go_wp2_with fail
  go_loopw [8] (fun i wr => ∃ (f m : Nat) (cr : Conf RP), i = .int .i64 m ∧ RS w0 F wr b pb B cr.H cr.s ∧ cr.dry = false ∧ cr.left + m = L ∧ cr.left + 2 ≤ f ∧ finishC refM who N f cr = finishC refM who N (L + 2) c) (fun i _ => L - (intOf i).toNat)
  case atStart => exact ⟨L + 2, 0, c, rfl, HH.out, HD.out, HL.out.symm, by rw [HL.out]; exact Nat.le_refl _, rfl⟩
  case round =>
    obtain ⟨f, m, cr, rfl, hS, hd, hle, hf, hR⟩ := hrel
    obtain ⟨f, rfl⟩ : ∃ g, f = g + 1 := ⟨f - 1, by omega⟩
    have SR := Lib.hid hS
    have DR := Lib.hid hd
    have hfin : finishC refM who N (L + 2) c = if N = 0 then cr else if pend cr.H who = N then (if (payC refM cr who).2 then finishC refM who N f (payC refM cr who).1 else (payC refM cr who).1) else cr := by rw [← hR]; rfl
    have HR := Lib.hid hfin
    clear hS hR hd hfin
    by_cases hN0 : N = 0
    · have e1 : finishC refM who N (L + 2) c = cr := by rw [HR.out, if_pos hN0]
      have HE := Lib.hid e1
      subst hN0
      clear e1
      go_wp2_with fail
      go_ret2
      rw [HE.out]
      exact ⟨by rw [DR.out, show (L : Int) - cr.left = m by omega]; rfl, SR.out⟩
    · have hN1 : 0 < N := by omega
      by_cases he : pend cr.H who = N
      · have HE := Lib.hid he
        clear he
        by_cases hz : cr.left = 0
        · have hmL : m = L := by omega
          have e1 : finishC refM who N (L + 2) c = { cr with dry := true } := by rw [HR.out, if_neg hN0, if_pos HE.out, broke DR.out who (by rw [HE.out]; exact hN0) hz]; rfl
          have HE1 := Lib.hid e1
          have HZ := Lib.hid hz
          subst hmL
          clear hz e1
          go_wp2_with fail
          refine (pending' SR.out who).mono ?_
          rintro e w3 ⟨rfl, rfl⟩
          rw [HE.out]
          go_wp2_with fail
          go_ret2
          rw [HE1.out]
          exact ⟨by show _ = Ending.returned (.tuple #[.int .i64 ((m : Int) - cr.left), .bool true]); rw [show (m : Int) - cr.left = m by omega]; rfl, SR.out⟩
        · have hmL : ((m : Int) == (L : Int)) = false := by simp; omega
          have hm1 : (m : Int) + 1 ≤ 9223372036854775807 := by omega
          have HZ := Lib.hid hz
          go_wp2_with fail
          refine (pending' SR.out who).mono ?_
          rintro e w3 ⟨rfl, rfl⟩
          rw [HE.out]
          go_wp2_with fail
          refine (step SR.out who).mono ?_
          rintro e w4 ⟨rfl, h3⟩
          have S3 := Lib.hid h3
          clear h3
          go_wp2_with fail
          have hpd := Lib.hid (paid DR.out who (by rw [HE.out]; exact hN0) HZ.out)
          go_roundw
          case rel => exact ⟨f, m + 1, (payC refM cr who).1, by go_num, by rw [hpd.out]; exact S3.out, by rw [hpd.out]; exact DR.out, by rw [hpd.out]; show cr.left - 1 + (m + 1) = L; omega, by rw [hpd.out]; show cr.left - 1 + 2 ≤ f; omega, by rw [HR.out, if_neg hN0, if_pos HE.out, hpd.out, if_pos rfl]⟩
          case measure => simp [intOf]; omega
      · have e1 : finishC refM who N (L + 2) c = cr := by rw [HR.out, if_neg hN0, if_neg he]
        have HE := Lib.hid e1
        have he' : ((pend cr.H who : Int) == N) = false := by simp; omega
        clear he e1
        go_wp2_with fail
        refine (pending' SR.out who).mono ?_
        rintro e w3 ⟨rfl, rfl⟩
        go_wp2_with fail
        go_ret2
        rw [HE.out]
        exact ⟨by rw [DR.out, show (L : Int) - cr.left = m by omega]; rfl, SR.out⟩

theorem stepI_len (H : Har.Har) (S : RP) (who : Int) : (stepI refM H S who).1.queues.length = H.queues.length := by
  unfold stepI
  split
  · unfold Har.stepH
    split
    · rfl
    · split
      · show (List.set _ _ _).length = _
        rw [List.length_set]
        exact called_len H _ _ _
      · exact called_len H _ _ _
  · rfl
theorem RS.queues (h : RS w0 F w b pb B H S) : ∃ bq, w.cell? ⟨b, 1, none⟩ = some (.slice (some ⟨bq, 0, none⟩) H.queues.length H.queues.length) ∧ H.queues.length ≤ 16 := by
  obtain ⟨⟨bq, vs, ve, vd, h⟩, hf⟩ := h
  have e := cell_of h.at_.hb 1
  rw [h.at_.len.1] at e
  exact ⟨bq, e, by rw [← h.at_.len.1]; exact h.at_.len.2⟩

set_option maxHeartbeats 1000000 in
theorem rounds (h : RS w0 F w b pb B c.H c.s) (hd : c.dry = false) (hl : c.left ≤ 9223372036854775807) (n : Int) :
    Calls Tryz.prog 102 #[.pointer (some ⟨b, 0, none⟩), .int .i64 n, .int .i64 c.left] w fun e w' => Played w0 F b pb B c.left (roundsC refM (c.left + 2) n c) e w' := by
  have HH := Lib.hid h
  have HD := Lib.hid hd
  clear h hd
  obtain ⟨L, hL⟩ : ∃ L, L = c.left := ⟨_, rfl⟩
  rw [← hL] at hl ⊢
  have HL := Lib.hid hL
  clear hL
  go_enter Tryz.func102, Tryz.ntmps102
  go_wp2_with fail
  go_loopw [8, 9] (fun i8 i9 wr => ∃ (m : Nat) (kv : Int) (cr : Conf RP), i8 = .int .i64 m ∧ i9 = .int .i64 kv ∧ 0 ≤ kv ∧ (n < 0 ∨ kv ≤ n) ∧ RS w0 F wr b pb B cr.H cr.s ∧ cr.dry = false ∧ cr.left + m = L ∧ kv + cr.left ≤ L ∧ Rounding refM c n kv cr) (fun i8 _ _ => L - (intOf i8).toNat)
  case atStart => exact ⟨0, 0, c, rfl, rfl, Int.le_refl _, by omega, HH.out, HD.out, HL.out.symm, by rw [HL.out]; omega, Rounding.start refM c n⟩
  case round =>
    obtain ⟨m, kv, cr, rfl, rfl, hk0, hkn, hS, hd, hle, hkl, hR⟩ := hrel
    have SR := Lib.hid hS
    have DR := Lib.hid hd
    have RR := Lib.hid hR
    clear hS hR hd
    by_cases hend : kv = n
    · have e1 : roundsC refM (L + 2) n c = cr := by rw [HL.out]; exact (RR.out.stop (.inl hend)).symm
      have HE := Lib.hid e1
      have hn0 : ¬ n < 0 := by omega
      have hkn' : ¬ kv < n := by omega
      clear e1 hend hkn
      go_wp2_with fail
      go_ret2
      rw [HE.out]
      exact ⟨by rw [DR.out, show (L : Int) - cr.left = m by omega]; rfl, SR.out⟩
    · have hcond : n < 0 ∨ (¬ n < 0 ∧ kv < n) := by omega
      have HEND := Lib.hid hend
      clear hend hkn
      have key : ∀ Q : Prop, (n < 0 → Q) → (¬ n < 0 → kv < n → Q) → Q := fun Q q1 q2 => hcond.elim q1 fun h => q2 h.1 h.2
      rcases hcond with hc | ⟨hc, hc2⟩
      all_goals
        go_wp2_with fail
        refine (idle' SR.out).mono ?_
        rintro e w2 ⟨rfl, k2⟩
        have S2 := Lib.hid (SR.out.keep0 k2)
        clear k2
        by_cases hi : idleB cr.H = true
        · have e1 : roundsC refM (L + 2) n c = cr := by rw [HL.out]; exact (RR.out.stop (.inr (.inl hi))).symm
          have HE := Lib.hid e1
          rw [hi]
          clear e1 hi
          go_wp2_with fail
          go_ret2
          rw [HE.out]
          exact ⟨by rw [DR.out, show (L : Int) - cr.left = m by omega]; rfl, S2.out⟩
        · have hi' : idleB cr.H = false := by simpa using hi
          have HI := Lib.hid hi'
          rw [hi']
          clear hi hi'
          obtain ⟨Q, hQ⟩ : ∃ Q, Q = cr.H.queues.length := ⟨_, rfl⟩
          have HQ := Lib.hid hQ
          have hQ16 : Q ≤ 16 := by obtain ⟨bq, -, h16⟩ := SR.out.queues; omega
          clear hQ
          go_wp2_with fail
          go_loopw [8, 10] (fun i8 i10 wi => ∃ (j mj : Nat) (cj : Conf RP), i8 = .int .i64 mj ∧ i10 = .int .i64 j ∧ j ≤ Q ∧ RS w0 F wi b pb B cj.H cj.s ∧ cj.dry = false ∧ cj.left + mj = L ∧ cj.H.queues.length = Q ∧ sweepC refM (Q - j) j cj = roundC refM cr) (fun _ i10 _ => Q - (intOf i10).toNat)
          case atStart => exact ⟨0, m, cr, rfl, rfl, Nat.zero_le _, S2.out, DR.out, hle, HQ.out.symm, by rw [Nat.sub_zero, HQ.out]; rfl⟩
          case round =>
            rename_i wi _ _
            obtain ⟨j, mj, cj, rfl, rfl, hj, hSj, hdj, hlj, hQj, hsw⟩ := hrel
            have SJ := Lib.hid hSj
            have DJ := Lib.hid hdj
            have SW := Lib.hid hsw
            have QJ := Lib.hid hQj
            obtain ⟨bq, x1, -⟩ := hSj.queues
            rw [hQj] at x1
            clear hSj hdj hsw hQj
            by_cases hlt : j < Q
            · have hsweep : roundC refM cr = sweepC refM (Q - (j + 1)) (j + 1) (payC refM cj j).1 := by
                rw [← SW.out, show Q - j = (Q - (j + 1)) + 1 by omega]
                rfl
              have HSW := Lib.hid hsweep
              clear hsweep
              by_cases hp : pend cj.H (j : Int) = 0
              · have HP := Lib.hid hp
                clear hp
                go_wp2_with fail
                refine (pending' SJ.out j).mono ?_
                rintro e w3 ⟨rfl, rfl⟩
                rw [HP.out]
                go_wp2_with fail
                go_roundw
                case rel => exact ⟨j + 1, mj, cj, rfl, by go_num, hlt, SJ.out, DJ.out, hlj, QJ.out, by rw [HSW.out, none' DJ.out _ HP.out]⟩
                case measure => simp [intOf]; omega
              · have hpb : ((pend cj.H (j : Int) : Int) == 0) = false := by simp; omega
                have HP := Lib.hid hp
                clear hp
                by_cases hz : cj.left = 0
                · have hmL : mj = L := by omega
                  have e1 : roundC refM cr = { cj with dry := true } := by
                    rw [HSW.out, broke DJ.out _ HP.out hz]
                    exact (Har.sweepC_le refM _ _ _).2 rfl
                  have e2 : roundsC refM (L + 2) n c = { cj with dry := true } := by
                    rw [HL.out, ← e1]
                    exact ((RR.out.next (kv2 := kv + 1) (by rw [← HL.out]; exact hl) (fun _ _ => rfl) HEND.out HI.out DR.out).1.stop (.inr (.inr (by rw [e1])))).symm
                  have HE := Lib.hid e2
                  have HZ := Lib.hid hz
                  subst hmL
                  clear hz e1 e2
                  go_wp2_with fail
                  refine (pending' SJ.out j).mono ?_
                  rintro e w3 ⟨rfl, rfl⟩
                  go_wp2_with fail
                  go_ret2
                  rw [HE.out]
                  exact ⟨by show _ = Ending.returned (.tuple #[.int .i64 ((mj : Int) - cj.left), .bool true]); rw [show (mj : Int) - cj.left = mj by omega]; rfl, SJ.out⟩
                · have hmL : ((mj : Int) == (L : Int)) = false := by simp; omega
                  have hm1 : (mj : Int) + 1 ≤ 9223372036854775807 := by omega
                  have HZ := Lib.hid hz
                  go_wp2_with fail
                  refine (pending' SJ.out j).mono ?_
                  rintro e w3 ⟨rfl, rfl⟩
                  go_wp2_with fail
                  refine (step SJ.out j).mono ?_
                  rintro e w4 ⟨rfl, h3⟩
                  have S3 := Lib.hid h3
                  clear h3
                  go_wp2_with fail
                  have hpd := Lib.hid (paid DJ.out (j : Int) HP.out HZ.out)
                  go_roundw
                  case rel => exact ⟨j + 1, mj + 1, (payC refM cj j).1, by go_num, by go_num, hlt, by rw [hpd.out]; exact S3.out, by rw [hpd.out]; exact DJ.out, by rw [hpd.out]; show cj.left - 1 + (mj + 1) = L; omega, by rw [hpd.out]; show (stepI refM cj.H cj.s j).1.queues.length = Q; rw [stepI_len]; exact QJ.out, HSW.out.symm⟩
                  case measure => simp [intOf]; omega
            · have hjl : j = Q := by omega
              have hq : cj = roundC refM cr := by
                have q := SW.out
                rw [hjl, Nat.sub_self] at q
                exact q
              have HJ := Lib.hid hq
              have hless : cj.left < cr.left := by
                have q := Har.roundC_less refM cr DR.out HI.out
                rw [← hq, DJ.out] at q
                exact q.resolve_left (by simp)
              have hnx := RR.out.next (kv2 := kv + 1) (by rw [← HL.out]; exact hl) (fun _ _ => rfl) HEND.out HI.out DR.out
              rw [← hq] at hnx
              have HNX := Lib.hid hnx
              have hkk : n < 0 ∨ kv + 1 ≤ n := by omega
              have hk1 : kv + 1 ≤ 9223372036854775807 := by omega
              clear hjl hq hnx
              go_wp2_with fail
              go_roundw
              case rel => exact ⟨mj, kv + 1, cj, rfl, by first | go_num | (rw [IntWalk.wrap64_in _ (by omega)]), by omega, hkk, SJ.out, DJ.out, hlj, by omega, HNX.out.1⟩
              case measure => simp [intOf]; omega

theorem max_run (m : Int) (w : World) : (Builtin.max_ #[3, 3] 3 #[.int .i64 0, .int .i64 m]).run Tryz.prog w = .ok (.int .i64 (max 0 m)) w := by
  rcases Int.lt_trichotomy 0 m with h | h | h
  · rw [Int.max_eq_right (by omega)]
    have h3 : (0 : Int) < m := h
    simp [Builtin.max_, Builtin.max2, h3]
  · subst h
    simp [Builtin.max_, Builtin.max2]
  · rw [Int.max_eq_left (by omega)]
    have h2 : ¬ (0 : Int) < m := by omega
    simp [Builtin.max_, Builtin.max2, h2]

theorem many_one (c : Conf RP) (who : Int) : runC refM who (1 : Int).toNat c = (payC refM c who).1 := by
  show (if (payC refM c who).2 then runC refM who 0 (payC refM c who).1 else (payC refM c who).1) = _
  split <;> rfl
theorem rounds_max (c : Conf RP) (n : Int) : roundsC refM (c.left + 2) (max 0 n) c = if 0 < n then roundsC refM (c.left + 2) n c else c := by
  by_cases h : 0 < n
  · rw [if_pos h, Int.max_eq_right (by omega)]
  · rw [if_neg h, Int.max_eq_left (by omega)]
    exact Har.roundsC_stop refM _ _ _ (.inl rfl)

theorem one_step (h : RS w0 F w b pb B c.H c.s) (hd : c.dry = false) (hl : c.left ≤ 9223372036854775807) (who n : Int) :
    Calls Tryz.prog 82 #[.pointer (some ⟨b, 0, none⟩), .agg #[.int .i64 1, .int .i64 who, .int .i64 n], .int .i64 c.left] w fun e w' => Played w0 F b pb B c.left ((payC refM c who).1) e w' := by
  have k1 : Keep [] w (w.alloc (.cells #[.int .i64 1, .int .i64 who, .int .i64 n] 119)) := (Keep.refl _ _).alloc _
  have HC := Lib.hid (show Calls Tryz.prog 100 _ _ (Played w0 F b pb B c.left (payC refM c who).1) from (many_one c who) ▸ many (h.keep0 k1) hd hl who 1)
  clear h k1
  obtain ⟨L, hL⟩ : ∃ L, L = c.left := ⟨_, rfl⟩
  rw [← hL] at hl HC ⊢
  clear hL
  go_enter Tryz.func82, Tryz.ntmps82
  go_wp2_with fail
  refine HC.out.mono ?_
  rintro e w2 ⟨rfl, h2⟩
  have H2 := Lib.hid h2
  clear h2
  go_wp2_with fail
  go_ret2
  exact ⟨rfl, H2.out⟩

theorem one_run (h : RS w0 F w b pb B c.H c.s) (hd : c.dry = false) (hl : c.left ≤ 9223372036854775807) (who n : Int) :
    Calls Tryz.prog 82 #[.pointer (some ⟨b, 0, none⟩), .agg #[.int .i64 2, .int .i64 who, .int .i64 n], .int .i64 c.left] w fun e w' => Played w0 F b pb B c.left (runC refM who n.toNat c) e w' := by
  have k1 : Keep [] w (w.alloc (.cells #[.int .i64 2, .int .i64 who, .int .i64 n] 119)) := (Keep.refl _ _).alloc _
  have HC := Lib.hid (many (h.keep0 k1) hd hl who n)
  clear h k1
  obtain ⟨L, hL⟩ : ∃ L, L = c.left := ⟨_, rfl⟩
  rw [← hL] at hl HC ⊢
  clear hL
  go_enter Tryz.func82, Tryz.ntmps82
  go_wp2_with fail
  refine HC.out.mono ?_
  rintro e w2 ⟨rfl, h2⟩
  have H2 := Lib.hid h2
  clear h2
  go_wp2_with fail
  go_ret2
  exact ⟨rfl, H2.out⟩

theorem one_finish (h : RS w0 F w b pb B c.H c.s) (hd : c.dry = false) (hl : c.left ≤ 9223372036854775807) (who n : Int) :
    Calls Tryz.prog 82 #[.pointer (some ⟨b, 0, none⟩), .agg #[.int .i64 5, .int .i64 who, .int .i64 n], .int .i64 c.left] w fun e w' => Played w0 F b pb B c.left (finishC refM who (pend c.H who) (c.left + 2) c) e w' := by
  have k1 : Keep [] w (w.alloc (.cells #[.int .i64 5, .int .i64 who, .int .i64 n] 119)) := (Keep.refl _ _).alloc _
  have HC := Lib.hid (finish (h.keep0 k1) hd hl who)
  clear h k1
  obtain ⟨L, hL⟩ : ∃ L, L = c.left := ⟨_, rfl⟩
  rw [← hL] at hl HC ⊢
  clear hL
  go_enter Tryz.func82, Tryz.ntmps82
  go_wp2_with fail
  refine HC.out.mono ?_
  rintro e w2 ⟨rfl, h2⟩
  have H2 := Lib.hid h2
  clear h2
  go_wp2_with fail
  go_ret2
  exact ⟨rfl, H2.out⟩

theorem one_round (h : RS w0 F w b pb B c.H c.s) (hd : c.dry = false) (hl : c.left ≤ 9223372036854775807) (who n : Int) :
    Calls Tryz.prog 82 #[.pointer (some ⟨b, 0, none⟩), .agg #[.int .i64 4, .int .i64 who, .int .i64 n], .int .i64 c.left] w fun e w' => Played w0 F b pb B c.left (if 0 < n then roundsC refM (c.left + 2) n c else c) e w' := by
  have k1 : Keep [] w (w.alloc (.cells #[.int .i64 4, .int .i64 who, .int .i64 n] 119)) := (Keep.refl _ _).alloc _
  have hmx : ∀ w : World, (Builtin.max_ #[3, 3] 3 #[.int .i64 0, .int .i64 n]).run Tryz.prog w = .ok (.int .i64 (max 0 n)) w := max_run n
  have HC := Lib.hid ((rounds_max c n) ▸ rounds (h.keep0 k1) hd hl (max 0 n))
  clear h k1
  obtain ⟨R, hR⟩ : ∃ R, R = (if 0 < n then roundsC refM (c.left + 2) n c else c) := ⟨_, rfl⟩
  rw [← hR] at HC ⊢
  clear hR
  obtain ⟨L, hL⟩ : ∃ L, L = c.left := ⟨_, rfl⟩
  rw [← hL] at hl HC ⊢
  clear hL
  go_enter Tryz.func82, Tryz.ntmps82
  go_wp2_with fail
  refine HC.out.mono ?_
  rintro e w2 ⟨rfl, h2⟩
  have H2 := Lib.hid h2
  clear h2
  go_wp2_with fail
  go_ret2
  exact ⟨rfl, H2.out⟩

theorem one_drain (h : RS w0 F w b pb B c.H c.s) (hd : c.dry = false) (hl : c.left ≤ 9223372036854775807) (who n : Int) :
    Calls Tryz.prog 82 #[.pointer (some ⟨b, 0, none⟩), .agg #[.int .i64 6, .int .i64 who, .int .i64 n], .int .i64 c.left] w fun e w' => Played w0 F b pb B c.left (roundsC refM (c.left + 2) (-1) c) e w' := by
  have k1 : Keep [] w (w.alloc (.cells #[.int .i64 6, .int .i64 who, .int .i64 n] 119)) := (Keep.refl _ _).alloc _
  have HC := Lib.hid (rounds (h.keep0 k1) hd hl (-1))
  clear h k1
  obtain ⟨L, hL⟩ : ∃ L, L = c.left := ⟨_, rfl⟩
  rw [← hL] at hl HC ⊢
  clear hL
  go_enter Tryz.func82, Tryz.ntmps82
  go_wp2_with fail
  refine HC.out.mono ?_
  rintro e w2 ⟨rfl, h2⟩
  have H2 := Lib.hid h2
  clear h2
  go_wp2_with fail
  go_ret2
  exact ⟨rfl, H2.out⟩

theorem one_none (h : RS w0 F w b pb B c.H c.s) (hd : c.dry = false) (hl : c.left ≤ 9223372036854775807) (k who n : Int) (h1 : ¬ k = 1) (h2 : ¬ k = 2) (h3 : ¬ k = 5) (h4 : ¬ k = 4) (h5 : ¬ k = 6) :
    Calls Tryz.prog 82 #[.pointer (some ⟨b, 0, none⟩), .agg #[.int .i64 k, .int .i64 who, .int .i64 n], .int .i64 c.left] w fun e w' => Played w0 F b pb B c.left c e w' := by
  have HC := Lib.hid (h.keep0 ((Keep.refl _ _).alloc (.cells #[.int .i64 k, .int .i64 who, .int .i64 n] 119)))
  have HD := Lib.hid hd
  have g1 : (k == 1) = false := by simpa using h1
  have g2 : (k == 2) = false := by simpa using h2
  have g3 : (k == 5) = false := by simpa using h3
  have g4 : (k == 4) = false := by simpa using h4
  have g5 : (k == 6) = false := by simpa using h5
  clear h h1 h2 h3 h4 h5 hd
  go_enter Tryz.func82, Tryz.ntmps82
  go_wp2_with fail
  go_ret2
  refine ⟨?_, HC.out⟩
  rw [HD.out, Int.sub_self]
  rfl

/-- one -/
theorem one (h : RS w0 F w b pb B c.H c.s) (hd : c.dry = false) (hl : c.left ≤ 9223372036854775807) (x : Pick.Pk) :
    Calls Tryz.prog 82 #[.pointer (some ⟨b, 0, none⟩), .agg #[.int .i64 x.k, .int .i64 x.who, .int .i64 x.n], .int .i64 c.left] w fun e w' => Played w0 F b pb B c.left (pickC refM c x) e w' := by
  obtain ⟨k, who, n⟩ := x
  unfold pickC
  by_cases h1 : k = 1
  · subst h1; exact one_step h hd hl who n
  by_cases h2 : k = 2
  · subst h2; exact one_run h hd hl who n
  by_cases h3 : k = 5
  · subst h3; exact one_finish h hd hl who n
  by_cases h4 : k = 4
  · subst h4; exact one_round h hd hl who n
  by_cases h5 : k = 6
  · subst h5; exact one_drain h hd hl who n
  · simp only [if_neg h1, if_neg h2, if_neg h3, if_neg h4, if_neg h5]
    exact one_none h hd hl k who n h1 h2 h3 h4 h5

theorem pickC_wet (c : Conf RP) (x : Pick.Pk) : (pickC refM c x).left ≤ c.left := Har.pickC_le refM c x

theorem play_neg (b : Nat) (w : World) (budget : Int) (hb : budget < 0) (a : Option Addr) (n cap : Nat) :
    Calls Tryz.prog 36 #[.pointer (some ⟨b, 0, none⟩), .int .i64 budget, .slice a n cap] w fun e w' => e = .returned (.tuple #[.int .i64 0, .int .i64 34]) ∧ w = w' := by
  go_enter Tryz.func36, Tryz.ntmps36
  go_wp2_with fail
  go_ret2
  exact ⟨rfl, rfl⟩

/-- the number of Play's error -/
def errOf (d : Bool) : Int := if d then 34 else 0

set_option maxHeartbeats 1000000 in
/-- Play -/
theorem play {F : List Nat} (h : RS w F w b pb B c.H c.s) (hd : c.dry = false) (hl : c.left ≤ 9223372036854775807) (a : Option Addr) (cap : Nat) (l : List Pick.Pk) (hh : Har.Handed w (F ++ B.mem) a l) (hll : l.length ≤ 9223372036854775807) :
    Calls Tryz.prog 36 #[.pointer (some ⟨b, 0, none⟩), .int .i64 c.left, .slice a l.length cap] w fun e w' =>
      e = .returned (.tuple #[.int .i64 ((c.left : Int) - (playC refM l c).left), .int .i64 (errOf (playC refM l c).dry)]) ∧ RS w F w' b pb B (playC refM l c).H (playC refM l c).s := by
  have HH := Lib.hid h
  have HD := Lib.hid hd
  have HL := Lib.hid hh
  clear h hd hh
  obtain ⟨L, hL⟩ : ∃ L, L = c.left := ⟨_, rfl⟩
  rw [← hL] at hl ⊢
  have HLL := Lib.hid hL
  clear hL
  have hL0 : ¬ (L : Int) < 0 := by omega
  go_enter Tryz.func36, Tryz.ntmps36
  go_wp2_with fail
  go_loopw [8, 9] (fun i8 i9 wr => ∃ (m k : Nat) (cr : Conf RP), i8 = .int .i64 m ∧ i9 = .int .i64 k ∧ k ≤ l.length ∧ RS w F wr b pb B cr.H cr.s ∧ cr.dry = false ∧ cr.left + m = L ∧ playC refM (l.drop k) cr = playC refM l c) (fun _ i9 _ => l.length - (intOf i9).toNat)
  case atStart => exact ⟨0, 0, c, rfl, rfl, Nat.zero_le _, HH.out, HD.out, HLL.out.symm, rfl⟩
  case round =>
    obtain ⟨m, k, cr, rfl, rfl, hk, hS, hd, hle, hR⟩ := hrel
    have SR := Lib.hid hS
    have DR := Lib.hid hd
    have RR := Lib.hid hR
    have LR := Lib.hid (HL.out.keep hS.kept)
    clear hS hd hR
    by_cases hlt : k < l.length
    · obtain ⟨g, o, rfl, x0, x1, x2⟩ := LR.out.cell k hlt
      obtain ⟨x, hx⟩ : ∃ x, x = l[k] := ⟨_, rfl⟩
      rw [← hx] at x0 x1 x2
      have HX := Lib.hid hx
      clear hx
      have hplay := Lib.hid (show playC refM l c = if (pickC refM cr x).dry then pickC refM cr x else playC refM (l.drop (k + 1)) (pickC refM cr x) by
        rw [← RR.out, List.drop_eq_getElem_cons hlt, ← HX.out]; rfl)
      have hsub : IntKind.i64.wrap ((L : Int) - m) = cr.left := by rw [IntWalk.i64_in _ (by omega)]; omega
      have hone := Lib.hid (one SR.out DR.out (by omega) x)
      have hpl := pickC_wet cr x
      go_wp2_with fail
      first
        | (rw [hsub])
        | (rw [show wrap64 ((L : Int) - m) = cr.left from hsub])
        | skip
      refine hone.out.mono ?_
      rintro e w2 ⟨rfl, h2⟩
      have S2 := Lib.hid h2
      clear h2
      have hadd : IntKind.i64.wrap ((m : Int) + ((cr.left : Int) - (pickC refM cr x).left)) = ((m + (cr.left - (pickC refM cr x).left) : Nat) : Int) := by rw [IntWalk.i64_in _ (by omega)]; omega
      by_cases hd : (pickC refM cr x).dry = true
      · have HD2 := Lib.hid hd
        rw [hd]
        clear hd
        go_wp2_with fail
        go_ret2
        rw [hplay.out, if_pos HD2.out, HD2.out]
        refine ⟨?_, S2.out⟩
        rw [show (L : Int) - (pickC refM cr x).left = (m : Int) + ((cr.left - (pickC refM cr x).left : Nat) : Int) by omega]
        rfl
      · have hd' : (pickC refM cr x).dry = false := by simpa using hd
        have HD2 := Lib.hid hd'
        rw [hd']
        clear hd hd'
        go_wp2_with fail
        go_roundw
        case rel => exact ⟨m + (cr.left - (pickC refM cr x).left), k + 1, pickC refM cr x, by first | go_num | rw [Int.natCast_add] | exact congrArg _ hadd | (rw [← hadd]; rfl), by go_num, hlt, S2.out, HD2.out, by omega, by rw [hplay.out, if_neg (by rw [HD2.out]; simp)]⟩
        case measure => simp [intOf]; omega
    · have hfin : playC refM l c = cr := by rw [← RR.out, show k = l.length by omega, List.drop_length]; rfl
      have HF := Lib.hid hfin
      clear hfin
      go_wp2_with fail
      go_ret2
      rw [HF.out]
      exact ⟨by rw [DR.out, show (L : Int) - cr.left = m by omega]; rfl, SR.out⟩
end
end Go.Proofs.YtdkdeiofjoccnaaGreat.Ref
