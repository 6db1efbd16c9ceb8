import Derived.Test.YtdkdeiofjoccnaaGreatHarB
/- The harness: pay. -/
namespace Go.Proofs.YtdkdeiofjoccnaaGreat.Har
open Go.RowKit Go.Proofs.YtdkdeiofjoccnaaGreat.Mem
set_option linter.unusedVariables false
set_option maxRecDepth 100000
variable {S : Type} {M : Mach S} {w0 w w' : World} {F : List Nat} {b p : Nat} {c : Conf S}

theorem pay_dry (h : Pays M w0 F w b p c) (who : Int) (hd : c.dry = true) :
    Calls Tryz.prog 98 #[.pointer (some ⟨b, 0, none⟩), .int .i64 who, .pointer (some ⟨p, 0, none⟩)] w fun e w' => e = .returned (.bool false) ∧ w = w' := by
  have p1 : w.cell? ⟨p, 1, none⟩ = some (.bool true) := by rw [cell_of h.hp, hd]; rfl
  clear h hd
  go_enter Tryz.func98, Tryz.ntmps98
  go_wp2_with fail
  go_ret
  exact ⟨rfl, rfl⟩

theorem pay_idle (h : Pays M w0 F w b p c) (who : Int) (hd : c.dry = false) (hp : pend c.H who = 0) :
    Calls Tryz.prog 98 #[.pointer (some ⟨b, 0, none⟩), .int .i64 who, .pointer (some ⟨p, 0, none⟩)] w fun e w' => e = .returned (.bool false) ∧ w = w' := by
  have p1 : w.cell? ⟨p, 1, none⟩ = some (.bool false) := by rw [cell_of h.hp, hd]; rfl
  obtain ⟨bq, vs, ve, vd, hS, hn⟩ := h.ex
  have HS := Lib.hid hS
  have HP := Lib.hid hp
  clear h hd hS hn hp
  go_enter Tryz.func98, Tryz.ntmps98
  go_wp2_with fail
  refine (pending HS.out.at_ who).mono ?_
  rintro e w' ⟨rfl, rfl⟩
  rw [HP.out]
  go_wp2_with fail
  go_ret
  exact ⟨rfl, rfl⟩

theorem pay_broke (h : Pays M w0 F w b p c) (who : Int) (hd : c.dry = false) (hp : ¬ pend c.H who = 0) (hl : c.left = 0) :
    Calls Tryz.prog 98 #[.pointer (some ⟨b, 0, none⟩), .int .i64 who, .pointer (some ⟨p, 0, none⟩)] w fun e w' => e = .returned (.bool false) ∧ Pays M w0 F w' b p { c with dry := true } := by
  have p1 : w.cell? ⟨p, 1, none⟩ = some (.bool false) := by rw [cell_of h.hp, hd]; rfl
  have p0 : w.cell? ⟨p, 0, none⟩ = some (.int .i64 0) := by rw [cell_of h.hp, hl]; rfl
  have f1 := free_of h.hp 1
  obtain ⟨bq, vs, ve, vd, hS, hn⟩ := h.ex
  have HS := Lib.hid hS
  have HH := Lib.hid h
  have hp' : ((pend c.H who : Int) == 0) = false := by simp; omega
  clear h hd hS hn hp hl
  go_enter Tryz.func98, Tryz.ntmps98
  go_wp2_with fail
  refine (pending HS.out.at_ who).mono ?_
  rintro e w' ⟨rfl, rfl⟩
  go_wp2_with fail
  go_ret
  exact ⟨rfl, HH.out.set (l := c.left) (d := true) rfl HH.out.big⟩

theorem pay_made (h : Pays M w0 F w b p c) (who : Int) (hd : c.dry = false) (hp : ¬ pend c.H who = 0) (hl : ¬ c.left = 0) :
    Calls Tryz.prog 98 #[.pointer (some ⟨b, 0, none⟩), .int .i64 who, .pointer (some ⟨p, 0, none⟩)] w fun e w' => e = .returned (.bool true) ∧ Pays M w0 F w' b p { c with H := (stepI M c.H c.s who).1, s := (stepI M c.H c.s who).2, left := c.left - 1 } := by
  have p1 : w.cell? ⟨p, 1, none⟩ = some (.bool false) := by rw [cell_of h.hp, hd]; rfl
  have p0 : w.cell? ⟨p, 0, none⟩ = some (.int .i64 c.left) := by rw [cell_of h.hp]; rfl
  have f0 := free_of h.hp 0
  obtain ⟨bq, vs, ve, vd, hS, hn⟩ := h.ex
  have HS := Lib.hid hS
  have HH := Lib.hid h
  have hp' : ((pend c.H who : Int) == 0) = false := by simp; omega
  have hl' : ((c.left : Int) == 0) = false := by simp; omega
  have HD := Lib.hid (show dueB c.H who = true by simp [dueB, hp])
  have hb := h.big
  have h1l : 1 ≤ c.left := by omega
  clear h hd hS hn hp hl
  go_enter Tryz.func98, Tryz.ntmps98
  go_wp2_with fail
  refine (pending HS.out.at_ who).mono ?_
  rintro e w' ⟨rfl, rfl⟩
  go_wp2_with fail
  have h2 := HH.out.set (o := 0) (v := .int .i64 ((c.left : Int) - 1)) (l := c.left - 1) (d := c.dry) (by rw [show ((c.left - 1 : Nat) : Int) = (c.left : Int) - 1 by omega]; rfl) (by omega)
  obtain ⟨bq2, vs2, ve2, vd2, hS2, hn2⟩ := h2.ex
  have H2 := Lib.hid h2
  have HS2 := Lib.hid (And.intro hS2 hn2)
  clear h2 hS2 hn2 p1 p0 f0
  refine (step HS2.out.1.rebase who).mono ?_
  rintro e w1 ⟨rfl, vs', ve', vd', h3⟩
  have H3 := Lib.hid (H2.out.turn HS2.out.1 HS2.out.2 h3)
  clear h3
  rw [HD.out]
  go_wp2_with fail
  go_ret
  exact ⟨rfl, H3.out⟩

/-- pay -/
theorem pay (h : Pays M w0 F w b p c) (who : Int) :
    Calls Tryz.prog 98 #[.pointer (some ⟨b, 0, none⟩), .int .i64 who, .pointer (some ⟨p, 0, none⟩)] w fun e w' => e = .returned (.bool (payC M c who).2) ∧ Pays M w0 F w' b p (payC M c who).1 := by
  unfold payC
  by_cases hd : c.dry = true
  · rw [if_pos hd]
    exact (pay_dry h who hd).mono fun e w' ⟨q1, q2⟩ => ⟨q1, q2 ▸ h⟩
  · rw [if_neg hd]
    have hd' : c.dry = false := by simpa using hd
    by_cases hp : pend c.H who = 0
    · rw [if_pos hp]
      exact (pay_idle h who hd' hp).mono fun e w' ⟨q1, q2⟩ => ⟨q1, q2 ▸ h⟩
    · rw [if_neg hp]
      by_cases hl : c.left = 0
      · rw [if_pos hl]
        exact pay_broke h who hd' hp hl
      · rw [if_neg hl]
        exact pay_made h who hd' hp hl
end Go.Proofs.YtdkdeiofjoccnaaGreat.Har

/- The harness: rounds. -/
namespace Go.Proofs.YtdkdeiofjoccnaaGreat.Har
open Go.RowKit Go.Proofs.YtdkdeiofjoccnaaGreat.Mem
set_option linter.unusedVariables false
set_option maxRecDepth 100000
variable {S : Type} {M : Mach S} {w0 w w' : World} {F : List Nat} {b p : Nat} {c : Conf S}

/-- what is left and whether it is dry, read out of memory -/
def numOf : Option Value → Nat
  | some (.int _ l) => l.toNat
  | _ => 0
def offOf : Option Value → Nat
  | some (.bool false) => 1
  | _ => 0
def restOf (w : World) (p : Nat) : Nat := numOf (w.cell? ⟨p, 0, none⟩) + offOf (w.cell? ⟨p, 1, none⟩)
theorem Pays.rest (h : Pays M w0 F w b p c) : restOf w p = c.left + (if c.dry then 0 else 1) := by
  unfold restOf
  rw [cell_of h.hp, cell_of h.hp]
  show (c.left : Int).toNat + offOf (some (.bool c.dry)) = _
  rw [Int.toNat_natCast]
  cases c.dry <;> rfl

theorem payC_le (M : Mach S) (c : Conf S) (who : Int) : (payC M c who).1.left ≤ c.left ∧ (c.dry = true → payC M c who = (c, false)) ∧ ((payC M c who).2 = true → (payC M c who).1.left < c.left ∧ (payC M c who).1.dry = false) ∧ (c.dry = false → ¬ pend c.H who = 0 → (payC M c who).1.dry = true ∨ (payC M c who).1.left < c.left) := by
  unfold payC
  by_cases hd : c.dry = true
  · rw [if_pos hd]
    exact ⟨Nat.le_refl _, fun _ => rfl, fun h => by simp at h, fun h => by rw [hd] at h; simp at h⟩
  · rw [if_neg hd]
    by_cases hp : pend c.H who = 0
    · rw [if_pos hp]
      exact ⟨Nat.le_refl _, fun h => absurd h hd, fun h => by simp at h, fun _ h => absurd hp h⟩
    · rw [if_neg hp]
      by_cases hl : c.left = 0
      · rw [if_pos hl]
        exact ⟨Nat.le_refl _, fun h => absurd h hd, fun h => by simp at h, fun _ _ => .inl rfl⟩
      · rw [if_neg hl]
        exact ⟨by show c.left - 1 ≤ c.left; omega, fun h => absurd h hd, fun _ => ⟨by show c.left - 1 < c.left; omega, by simpa using hd⟩, fun _ _ => .inr (by show c.left - 1 < c.left; omega)⟩
theorem payC_idle (M : Mach S) (c : Conf S) (who : Int) (h : pend c.H who = 0) : (payC M c who).1 = c := by
  unfold payC
  by_cases hd : c.dry = true
  · rw [if_pos hd]
  · rw [if_neg hd, if_pos h]
theorem sweepC_le (M : Mach S) : ∀ (k i : Nat) (c : Conf S), (sweepC M k i c).left ≤ c.left ∧ (c.dry = true → (sweepC M k i c) = c)
  | 0, i, c => ⟨Nat.le_refl _, fun _ => rfl⟩
  | k + 1, i, c => by
    obtain ⟨h1, h2, -, -⟩ := payC_le M c i
    obtain ⟨h3, h4⟩ := sweepC_le M k (i + 1) (payC M c i).1
    refine ⟨Nat.le_trans h3 h1, fun hd => ?_⟩
    have e : (payC M c i).1 = c := by rw [h2 hd]
    show sweepC M k (i + 1) (payC M c i).1 = c
    rw [e] at h4 ⊢
    exact h4 hd
theorem sweepC_less (M : Mach S) : ∀ (k i : Nat) (c : Conf S), c.dry = false → (∃ j, i ≤ j ∧ j < i + k ∧ ¬ pend c.H (j : Nat) = 0) → (sweepC M k i c).dry = true ∨ (sweepC M k i c).left < c.left
  | 0, i, c => fun _ ⟨j, h1, h2, _⟩ => absurd h2 (by omega)
  | k + 1, i, c => fun hd ⟨j, h1, h2, h3⟩ => by
    show (sweepC M k (i + 1) (payC M c i).1).dry = true ∨ (sweepC M k (i + 1) (payC M c i).1).left < c.left
    by_cases hp : pend c.H (i : Nat) = 0
    · rw [payC_idle M c i hp]
      refine sweepC_less M k (i + 1) c hd ⟨j, ?_, by omega, h3⟩
      rcases Nat.eq_or_lt_of_le h1 with rfl | h1
      · exact absurd hp h3
      · exact h1
    · obtain ⟨g1, g2⟩ := sweepC_le M k (i + 1) (payC M c i).1
      rcases (payC_le M c i).2.2.2 hd hp with h4 | h4
      · left
        rw [g2 h4]
        exact h4
      · right
        omega
theorem not_idle {H : Har} (h : idleB H = false) : ∃ j, 0 ≤ j ∧ j < 0 + H.queues.length ∧ ¬ pend H (j : Nat) = 0 := by
  unfold idleB at h
  rw [List.all_eq_false] at h
  obtain ⟨q, hq, hn⟩ := h
  obtain ⟨j, hj, rfl⟩ := List.getElem_of_mem hq
  refine ⟨j, Nat.zero_le _, by omega, fun h0 => hn ?_⟩
  rw [pend_of hj] at h0
  rw [List.eq_nil_of_length_eq_zero h0]
  rfl
theorem roundC_less (M : Mach S) (c : Conf S) (hd : c.dry = false) (hi : idleB c.H = false) : (roundC M c).dry = true ∨ (roundC M c).left < c.left := sweepC_less M _ 0 c hd (not_idle hi)
theorem roundsC_stop (M : Mach S) (f : Nat) (n : Int) (c : Conf S) (h : n = 0 ∨ idleB c.H = true ∨ c.dry = true) : roundsC M f n c = c := by
  cases f with
  | zero => rfl
  | succ f => show (if n = 0 ∨ idleB c.H = true ∨ c.dry = true then c else _) = c; rw [if_pos h]
theorem roundsC_on (M : Mach S) (f : Nat) (n : Int) (c : Conf S) (h0 : ¬ n = 0) (h1 : idleB c.H = false) (h2 : c.dry = false) : roundsC M (f + 1) n c = roundsC M f (n - 1) (roundC M c) := by
  show (if n = 0 ∨ idleB c.H = true ∨ c.dry = true then c else _) = _
  rw [if_neg (by simp [h0, h1, h2])]

/-- where the rounds stand -/
def Rounding (M : Mach S) (c : Conf S) (n kv : Int) (c' : Conf S) : Prop :=
  (c'.dry = true ∧ roundsC M (c.left + 2) n c = c') ∨ (c'.dry = false ∧ ∃ f, 0 ≤ kv ∧ kv + c'.left ≤ c.left ∧ c'.left + 2 ≤ f ∧ roundsC M f (n - kv) c' = roundsC M (c.left + 2) n c)
theorem Rounding.start (M : Mach S) (c : Conf S) (n : Int) : Rounding M c n 0 c := by
  by_cases hd : c.dry = true
  · exact .inl ⟨hd, roundsC_stop M _ _ _ (.inr (.inr hd))⟩
  · exact .inr ⟨by simpa using hd, c.left + 2, Int.le_refl _, by omega, Nat.le_refl _, by rw [Int.sub_zero]⟩
theorem Rounding.stop {c c' : Conf S} {n kv : Int} (h : Rounding M c n kv c') (hs : kv = n ∨ idleB c'.H = true ∨ c'.dry = true) : c' = roundsC M (c.left + 2) n c := by
  rcases h with ⟨-, h⟩ | ⟨hd, f, -, -, -, h⟩
  · exact h.symm
  · rw [← h]
    refine (roundsC_stop M f _ _ ?_).symm
    rcases hs with rfl | hs
    · exact .inl (by omega)
    · exact .inr hs
theorem Rounding.on {c c' : Conf S} {n kv : Int} (h : Rounding M c n kv c') (hn : ¬ kv = n) (hi : idleB c'.H = false) (hd : c'.dry = false) : Rounding M c n (kv + 1) (roundC M c') ∧ (roundC M c').left + (if (roundC M c').dry then 0 else 1) < c'.left + 1 := by
  rcases h with ⟨h, -⟩ | ⟨-, f, h0, h1, h2, h⟩
  · rw [hd] at h; simp at h
  obtain ⟨f, rfl⟩ : ∃ g, f = g + 1 := ⟨f - 1, by omega⟩
  rw [roundsC_on M f _ _ (by omega) hi hd] at h
  have hless := roundC_less M c' hd hi
  have hle : (roundC M c').left ≤ c'.left := (sweepC_le M _ 0 c').1
  by_cases hd2 : (roundC M c').dry = true
  · refine ⟨.inl ⟨hd2, ?_⟩, by rw [if_pos hd2]; omega⟩
    rw [← h]
    exact roundsC_stop M f _ _ (.inr (.inr hd2))
  · have hlt : (roundC M c').left < c'.left := hless.resolve_left hd2
    refine ⟨.inr ⟨by simpa using hd2, f, by omega, by omega, by omega, ?_⟩, by rw [if_neg hd2]; omega⟩
    rw [← h]
    congr 1
    omega

theorem Rounding.next {c c' : Conf S} {n kv kv2 : Int} (h : Rounding M c n kv c') (hb : c.left ≤ 9223372036854775807) (hw : kv + 1 ≤ 9223372036854775807 → 0 ≤ kv → kv2 = kv + 1) (hn : ¬ kv = n) (hi : idleB c'.H = false) (hd : c'.dry = false) : Rounding M c n kv2 (roundC M c') ∧ (roundC M c').left + (if (roundC M c').dry then 0 else 1) < c'.left + 1 := by
  have h0 : 0 ≤ kv ∧ kv + c'.left ≤ c.left := by
    rcases h with ⟨h, -⟩ | ⟨-, f, h0, h1, -⟩
    · rw [hd] at h; simp at h
    · exact ⟨h0, h1⟩
  obtain ⟨h1, h2⟩ := h.on hn hi hd
  refine ⟨?_, h2⟩
  rcases h1 with h1 | ⟨g1, f, g2, g3, g4⟩
  · exact .inl h1
  · have hz : kv2 = kv + 1 := hw (by omega) h0.1
    subst hz
    exact .inr ⟨g1, f, g2, g3, g4⟩

set_option maxHeartbeats 1000000 in
theorem rounds (h : Pays M w0 F w b p c) (n : Int) :
    Calls Tryz.prog 99 #[.pointer (some ⟨b, 0, none⟩), .int .i64 n, .pointer (some ⟨p, 0, none⟩)] w fun e w' => e = .returned (.tuple #[]) ∧ Pays M w0 F w' b p (roundsC M (c.left + 2) n c) := by
  have HH := Lib.hid h
  have HB := Lib.hid h.big
  clear h
  go_enter Tryz.func99, Tryz.ntmps99
  go_wp2_with fail
  go_loopw [6] (fun i wr => ∃ (kv : Int) (c' : Conf S), i = .int .i64 kv ∧ Pays M w0 F wr b p c' ∧ Rounding M c n kv c') (fun _ wr => restOf wr p)
  case atStart => exact ⟨0, c, rfl, HH.out, Rounding.start M c n⟩
  case round =>
    obtain ⟨kv, c', rfl, hP, hR⟩ := hrel
    have HR := Lib.hid hR
    have HP := Lib.hid hP
    obtain ⟨bq, vs, ve, vd, hS, hn⟩ := hP.ex
    have HS := Lib.hid (And.intro hS hn)
    have p1 : wr.cell? ⟨p, 1, none⟩ = some (.bool c'.dry) := by rw [cell_of hP.hp]; rfl
    have c0 : wr.cell? ⟨b, 0, none⟩ = some (.slice (some ⟨bq, 0, none⟩) vs.length vs.length) := cell_of hS.at_.hb 0
    have HL := Lib.hid hS.at_.len
    clear hR hP hS hn
    by_cases hn : kv = n
    · have hn' : (kv == n) = true := by simpa using hn
      have HN := Lib.hid hn
      clear hn
      have hn2 : (kv != n) = false := by simp [HN.out]
      go_wp2_with fail
      refine bodyPost_end (results_none rfl _ _ _) rfl ?_
      exact ⟨rfl, HR.out.stop (.inl HN.out) ▸ HP.out⟩
    · have hn' : (kv == n) = false := by simpa using hn
      have HN := Lib.hid hn
      clear hn
      have hn2 : (kv != n) = true := by simp [HN.out]
      go_wp2_with fail
      refine (idle HS.out.1.at_).mono ?_
      rintro e w1 ⟨rfl, k1⟩
      have P1 := Lib.hid (HP.out.keep k1)
      have p1' := k1.cell p1 (by simp)
      have c0' := k1.cell c0 (by simp)
      clear p1 c0 k1
      by_cases hi : idleB c'.H = true
      · have HI := Lib.hid hi
        rw [hi]
        clear hi
        go_wp2_with fail
        refine bodyPost_end (results_none rfl _ _ _) rfl ?_
        exact ⟨rfl, HR.out.stop (.inr (.inl HI.out)) ▸ P1.out⟩
      · have hi' : idleB c'.H = false := by simpa using hi
        have HI := Lib.hid hi'
        rw [hi']
        clear hi hi'
        by_cases hd : c'.dry = true
        · have HD := Lib.hid hd
          rw [hd] at p1'
          clear hd
          go_wp2_with fail
          refine bodyPost_end (results_none rfl _ _ _) rfl ?_
          exact ⟨rfl, HR.out.stop (.inr (.inr HD.out)) ▸ P1.out⟩
        · have hd' : c'.dry = false := by simpa using hd
          have HD := Lib.hid hd'
          rw [hd'] at p1'
          clear hd hd'
          go_wp2_with fail
          obtain ⟨L, hL⟩ : ∃ L, L = vs.length := ⟨_, rfl⟩
          rw [← hL]
          have HLL := Lib.hid hL
          have HLQ : Hid (L = c'.H.queues.length) := Lib.hid (hL.trans HL.out.1)
          have hL16 : L ≤ 16 := by have := HL.out.2; omega
          clear hL c0' p1'
          go_loopw [30] (fun i wi => ∃ (j : Nat) (cj : Conf S), j ≤ L ∧ i = .int .i64 j ∧ Pays M w0 F wi b p cj ∧ sweepC M (L - j) j cj = roundC M c') (fun i _ => L - (intOf i).toNat)
          case atStart => exact ⟨0, c', Nat.zero_le _, rfl, P1.out, by rw [Nat.sub_zero, HLQ.out]; rfl⟩
          case round =>
            rename_i wi _ _
            obtain ⟨j, cj, hj, rfl, hPj, hsw⟩ := hrel
            have PJ := Lib.hid hPj
            have SW := Lib.hid hsw
            clear hPj hsw
            by_cases hlt : j < L
            · go_wp2_with fail
              refine (pay PJ.out j).mono ?_
              rintro e w2 ⟨rfl, h2⟩
              have H2 := Lib.hid h2
              clear h2
              go_wp2_with fail
              go_roundw
              case rel =>
                refine ⟨j + 1, _, hlt, by go_num, H2.out, ?_⟩
                have q := SW.out
                rw [show L - j = (L - (j + 1)) + 1 by omega] at q
                exact q
              case measure => simp [intOf]; omega
            · have hjl : j = L := by omega
              have HJ := Lib.hid hjl
              clear hjl
              have hq : cj = roundC M c' := by
                have q := SW.out
                rw [HJ.out, Nat.sub_self] at q
                exact q
              have HQ := Lib.hid hq
              clear hq
              go_wp2_with fail
              have hx : ¬ kv = n := HN.out
              have hfin := fun kv2 (hw : kv + 1 ≤ 9223372036854775807 → 0 ≤ kv → kv2 = kv + 1) => HR.out.next (kv2 := kv2) HB.out hw hx HI.out HD.out
              go_roundw
              case rel => exact ⟨_, _, rfl, HQ.out ▸ PJ.out, (hfin _ (fun h1 h2 => IntWalk.wrap64_in _ (by omega))).1⟩
              case measure =>
                have e1 := (HQ.out ▸ PJ.out : Pays M w0 F _ b p (roundC M c')).rest
                have e2 := HP.out.rest
                have e3 := (hfin _ (fun _ _ => rfl)).2
                rw [HD.out] at e2
                rw [e1, e2]
                exact e3
end Go.Proofs.YtdkdeiofjoccnaaGreat.Har

/- The harness: pick. -/
namespace Go.Proofs.YtdkdeiofjoccnaaGreat.Har
open Go.RowKit Go.Proofs.YtdkdeiofjoccnaaGreat.Mem
set_option linter.unusedVariables false
set_option maxRecDepth 100000
variable {S : Type} {M : Mach S} {w0 w w' : World} {F : List Nat} {b p : Nat} {c : Conf S}

/-- the pick as it lies in memory when it is handed on -/
def boxed (w : World) (k who n : Int) : World := w.alloc (.cells #[.int .i64 k, .int .i64 who, .int .i64 n] 119 (0, 0))
structure Boxed (M : Mach S) (F1 : List Nat) (w w1 : World) (k who n : Int) : Prop where
  c0 : w1.cell? ⟨w.heap.size, 0, none⟩ = some (.int .i64 k)
  c1 : w1.cell? ⟨w.heap.size, 1, none⟩ = some (.int .i64 who)
  c2 : w1.cell? ⟨w.heap.size, 2, none⟩ = some (.int .i64 n)
  off : w.heap.size ∉ F1 ++ M.B
theorem Boxed.keep {F1 : List Nat} {w1 w2 : World} {k who n : Int} (h : Boxed M F1 w w1 k who n) (kk : Keep (F1 ++ M.B) w1 w2) : Boxed M F1 w w2 k who n :=
  ⟨kk.cell h.c0 h.off, kk.cell h.c1 h.off, kk.cell h.c2 h.off, h.off⟩
theorem box (h : Pays M w0 F w b p c) (k who n : Int) : ∃ F1, Pays M (boxed w k who n) F1 (boxed w k who n) b p c ∧ Boxed M F1 w (boxed w k who n) k who n ∧ ∀ (w' : World) (c' : Conf S), Pays M (boxed w k who n) F1 w' b p c' → Pays M w0 F w' b p c' := by
  have hal : Keep [] w (boxed w k who n) := (Keep.refl _ _).alloc _
  obtain ⟨F1, P1, hlt, hF⟩ := h.rebase hal
  have hn : (boxed w k who n).heap[w.heap.size]? = some (.cells #[.int .i64 k, .int .i64 who, .int .i64 n] 119 (0, 0)) := alloc_new w _
  exact ⟨F1, P1, ⟨by rw [cell_of hn]; rfl, by rw [cell_of hn]; rfl, by rw [cell_of hn]; rfl, fun hm => by have := hlt _ hm; omega⟩, fun w' c' h' => h.compose hal hF h'⟩

theorem pick_step (h : Pays M w0 F w b p c) (who n : Int) :
    Calls Tryz.prog 81 #[.pointer (some ⟨b, 0, none⟩), .agg #[.int .i64 1, .int .i64 who, .int .i64 n], .pointer (some ⟨p, 0, none⟩)] w fun e w' => e = .returned (.tuple #[]) ∧ Pays M w0 F w' b p (payC M c who).1 := by
  obtain ⟨F1, P1, X1, back⟩ := box h 1 who n
  have HP := Lib.hid P1
  have HB := Lib.hid back
  clear h P1 X1 back
  go_enter Tryz.func81, Tryz.ntmps81
  go_wp2_with fail
  refine (pay HP.out who).mono ?_
  rintro e w2 ⟨rfl, h2⟩
  have H2 := Lib.hid h2
  clear h2
  go_wp2_with fail
  refine bodyPost_end (results_none rfl _ _ _) rfl ?_
  exact ⟨rfl, HB.out _ _ H2.out⟩

theorem pick_drain (h : Pays M w0 F w b p c) (who n : Int) :
    Calls Tryz.prog 81 #[.pointer (some ⟨b, 0, none⟩), .agg #[.int .i64 6, .int .i64 who, .int .i64 n], .pointer (some ⟨p, 0, none⟩)] w fun e w' => e = .returned (.tuple #[]) ∧ Pays M w0 F w' b p (roundsC M (c.left + 2) (-1) c) := by
  obtain ⟨F1, P1, X1, back⟩ := box h 6 who n
  have HP := Lib.hid P1
  have HB := Lib.hid back
  clear h P1 X1 back
  go_enter Tryz.func81, Tryz.ntmps81
  go_wp2_with fail
  refine (rounds HP.out (-1)).mono ?_
  rintro e w2 ⟨rfl, h2⟩
  have H2 := Lib.hid h2
  clear h2
  go_wp2_with fail
  refine bodyPost_end (results_none rfl _ _ _) rfl ?_
  exact ⟨rfl, HB.out _ _ H2.out⟩

theorem pick_round (h : Pays M w0 F w b p c) (who n : Int) :
    Calls Tryz.prog 81 #[.pointer (some ⟨b, 0, none⟩), .agg #[.int .i64 4, .int .i64 who, .int .i64 n], .pointer (some ⟨p, 0, none⟩)] w fun e w' => e = .returned (.tuple #[]) ∧ Pays M w0 F w' b p (if 0 < n then roundsC M (c.left + 2) n c else c) := by
  obtain ⟨F1, P1, X1, back⟩ := box h 4 who n
  have HP := Lib.hid P1
  have HB := Lib.hid back
  clear h P1 X1 back
  by_cases hn : 0 < n
  · rw [if_pos hn]
    go_enter Tryz.func81, Tryz.ntmps81
    go_wp2_with fail
    refine (rounds HP.out n).mono ?_
    rintro e w2 ⟨rfl, h2⟩
    have H2 := Lib.hid h2
    clear h2
    go_wp2_with fail
    refine bodyPost_end (results_none rfl _ _ _) rfl ?_
    exact ⟨rfl, HB.out _ _ H2.out⟩
  · rw [if_neg hn]
    go_enter Tryz.func81, Tryz.ntmps81
    go_wp2_with fail
    refine bodyPost_end (results_none rfl _ _ _) rfl ?_
    exact ⟨rfl, HB.out _ _ HP.out⟩

theorem pick_none (h : Pays M w0 F w b p c) (k who n : Int) (h1 : ¬ k = 1) (h2 : ¬ k = 2) (h3 : ¬ k = 5) (h4 : ¬ k = 4) (h5 : ¬ k = 6) :
    Calls Tryz.prog 81 #[.pointer (some ⟨b, 0, none⟩), .agg #[.int .i64 k, .int .i64 who, .int .i64 n], .pointer (some ⟨p, 0, none⟩)] w fun e w' => e = .returned (.tuple #[]) ∧ Pays M w0 F w' b p c := by
  obtain ⟨F1, P1, X1, back⟩ := box h k who n
  have HP := Lib.hid P1
  have HB := Lib.hid back
  have g1 : (k == 1) = false := by simpa using h1
  have g2 : (k == 2) = false := by simpa using h2
  have g3 : (k == 5) = false := by simpa using h3
  have g4 : (k == 4) = false := by simpa using h4
  have g5 : (k == 6) = false := by simpa using h5
  clear h P1 X1 back h1 h2 h3 h4 h5
  go_enter Tryz.func81, Tryz.ntmps81
  go_wp2_with fail
  refine bodyPost_end (results_none rfl _ _ _) rfl ?_
  exact ⟨rfl, HB.out _ _ HP.out⟩

set_option maxHeartbeats 1000000 in
theorem pick_run (h : Pays M w0 F w b p c) (who n : Int) (hn : n ≤ 9223372036854775807) :
    Calls Tryz.prog 81 #[.pointer (some ⟨b, 0, none⟩), .agg #[.int .i64 2, .int .i64 who, .int .i64 n], .pointer (some ⟨p, 0, none⟩)] w fun e w' => e = .returned (.tuple #[]) ∧ Pays M w0 F w' b p (runC M who n.toNat c) := by
  obtain ⟨F1, P1, X1, back⟩ := box h 2 who n
  have HP := Lib.hid P1
  have HB := Lib.hid back
  have HX := Lib.hid X1
  clear h P1 X1 back
  go_enter Tryz.func81, Tryz.ntmps81
  go_wp2_with fail
  obtain ⟨w1, hw1⟩ : ∃ w1, w1 = boxed w 2 who n := ⟨_, rfl⟩
  have hw1' : w.alloc (.cells #[.int .i64 2, .int .i64 who, .int .i64 n] 119 (0, 0)) = w1 := hw1.symm
  rw [hw1']
  rw [← hw1] at HP HB HX
  clear hw1 hw1'
  go_loopw [6] (fun i wr => ∃ (k : Nat) (cr : Conf S), i = .int .i64 k ∧ ((k : Int) ≤ n ∨ k = 0) ∧ Pays M w1 F1 wr b p cr ∧ runC M who (n.toNat - k) cr = runC M who n.toNat c) (fun i _ => n.toNat - (intOf i).toNat)
  case atStart => exact ⟨0, c, rfl, .inr rfl, HP.out, rfl⟩
  case round =>
    obtain ⟨k, cr, rfl, hk, hP, hR⟩ := hrel
    have PR := Lib.hid hP
    have RR := Lib.hid hR
    have XR := HX.out.keep hP.kept
    have x1 := XR.c1
    have x2 := XR.c2
    clear hP hR XR
    by_cases hlt : (k : Int) < n
    · by_cases hp : (payC M cr who).2 = true
      · have hp' := Lib.hid hp
        clear hp
        go_wp2_with fail
        refine (pay PR.out who).mono ?_
        rintro e w2 ⟨rfl, h2⟩
        have H2 := Lib.hid h2
        clear h2
        rw [hp'.out]
        go_wp2_with fail
        go_roundw
        case rel =>
          refine ⟨k + 1, _, by go_num, .inl (by omega), H2.out, ?_⟩
          have q := RR.out
          rw [show n.toNat - k = (n.toNat - (k + 1)) + 1 by omega] at q
          rw [← q]
          show _ = if (payC M cr who).2 = true then _ else _
          rw [if_pos hp'.out]
        case measure => simp [intOf]; omega
      · have hp' := Lib.hid (show (payC M cr who).2 = false by simpa using hp)
        clear hp
        go_wp2_with fail
        refine (pay PR.out who).mono ?_
        rintro e w2 ⟨rfl, h2⟩
        have H2 := Lib.hid h2
        clear h2
        rw [hp'.out]
        go_wp2_with fail
        refine bodyPost_end (results_none rfl _ _ _) rfl ?_
        refine ⟨rfl, HB.out _ _ ?_⟩
        have q := RR.out
        rw [show n.toNat - k = (n.toNat - (k + 1)) + 1 by omega] at q
        rw [← q]
        show Pays M w1 F1 _ b p (if (payC M cr who).2 = true then _ else _)
        rw [if_neg (by rw [hp'.out]; simp)]
        exact H2.out
    · go_wp2_with fail
      refine bodyPost_end (results_none rfl _ _ _) rfl ?_
      refine ⟨rfl, HB.out _ _ ?_⟩
      have q := RR.out
      rw [show n.toNat - k = 0 by omega] at q
      rw [← q]
      exact PR.out

set_option maxHeartbeats 1000000 in
theorem pick_finish (h : Pays M w0 F w b p c) (who n : Int) :
    Calls Tryz.prog 81 #[.pointer (some ⟨b, 0, none⟩), .agg #[.int .i64 5, .int .i64 who, .int .i64 n], .pointer (some ⟨p, 0, none⟩)] w fun e w' => e = .returned (.tuple #[]) ∧ Pays M w0 F w' b p (finishC M who (pend c.H who) (c.left + 2) c) := by
  obtain ⟨F1, P1, X1, back⟩ := box h 5 who n
  obtain ⟨N, hN⟩ : ∃ N, N = pend c.H who := ⟨_, rfl⟩
  rw [← hN]
  have HN := Lib.hid hN
  clear hN
  have HP := Lib.hid P1
  have HB := Lib.hid back
  have HX := Lib.hid X1
  obtain ⟨bq, vs, ve, vd, hS, hn⟩ := P1.ex
  have HS := Lib.hid hS
  clear h P1 X1 back hS hn
  go_enter Tryz.func81, Tryz.ntmps81
  go_wp2_with fail
  refine (pending HS.out.at_ who).mono ?_
  rintro e w' ⟨rfl, hw⟩
  have hww := hw.symm
  subst hww
  rw [← HN.out]
  clear hw
  go_wp2_with fail
  obtain ⟨w1, hw1⟩ : ∃ w1, w1 = boxed w 5 who n := ⟨_, rfl⟩
  rw [← hw1] at HP HB HX HS ⊢
  clear hw1
  go_loopw [] (fun wr => ∃ (f : Nat) (cr : Conf S), Pays M w1 F1 wr b p cr ∧ cr.left + 2 ≤ f ∧ finishC M who N f cr = finishC M who N (c.left + 2) c) (fun wr => restOf wr p)
  case atStart => exact ⟨_, c, HP.out, Nat.le_refl _, rfl⟩
  case round =>
    obtain ⟨f, cr, hP, hf, hR⟩ := hrel
    obtain ⟨f, rfl⟩ : ∃ g, f = g + 1 := ⟨f - 1, by omega⟩
    have PR := Lib.hid hP
    have RR := Lib.hid hR
    have XR := HX.out.keep hP.kept
    have x1 := XR.c1
    obtain ⟨bq', vs', ve', vd', hS', -⟩ := hP.ex
    have HS' := Lib.hid hS'
    clear hP hR XR hS'
    by_cases hN0 : N = 0
    · have HN0 := Lib.hid hN0
      subst hN0
      go_wp2_with fail
      refine bodyPost_end (results_none rfl _ _ _) rfl ?_
      refine ⟨rfl, HB.out _ _ ?_⟩
      have q := RR.out
      rw [← q]
      show Pays M w1 F1 _ b p (if 0 = 0 then _ else _)
      rw [if_pos rfl]
      exact PR.out
    · have hN1 : 0 < N := by omega
      by_cases he : pend cr.H who = N
      · have HE := Lib.hid he
        clear he
        by_cases hp : (payC M cr who).2 = true
        · have hp' := Lib.hid hp
          have hless := Lib.hid ((payC_le M cr who).2.2.1 hp)
          clear hp
          go_wp2_with fail
          refine (pending HS'.out.at_ who).mono ?_
          rintro e w3 ⟨rfl, rfl⟩
          rw [HE.out]
          go_wp2_with fail
          refine (pay PR.out who).mono ?_
          rintro e w2 ⟨rfl, h2⟩
          have H2 := Lib.hid h2
          clear h2
          rw [hp'.out]
          go_wp2_with fail
          go_roundw
          case rel =>
            have := hless.out.1
            refine ⟨f, _, H2.out, by omega, ?_⟩
            have q := RR.out
            rw [← q]
            show _ = if N = 0 then _ else if pend cr.H who = N then (if (payC M cr who).2 = true then _ else _) else _
            rw [if_neg hN0, if_pos HE.out, if_pos hp'.out]
          case measure =>
            have e1 := H2.out.rest
            have e2 := PR.out.rest
            have e3 := hless.out
            have e4 : cr.dry = false := by
              cases hd : cr.dry with
              | false => rfl
              | true =>
                have q := hp'.out
                rw [(payC_le M cr who).2.1 hd] at q
                simp at q
            rw [e1, e2, e3.2, e4]
            have := e3.1
            simp
            omega
        · have hp' := Lib.hid (show (payC M cr who).2 = false by simpa using hp)
          clear hp
          go_wp2_with fail
          refine (pending HS'.out.at_ who).mono ?_
          rintro e w3 ⟨rfl, rfl⟩
          rw [HE.out]
          go_wp2_with fail
          refine (pay PR.out who).mono ?_
          rintro e w2 ⟨rfl, h2⟩
          have H2 := Lib.hid h2
          clear h2
          rw [hp'.out]
          go_wp2_with fail
          refine bodyPost_end (results_none rfl _ _ _) rfl ?_
          refine ⟨rfl, HB.out _ _ ?_⟩
          have q := RR.out
          rw [← q]
          show Pays M w1 F1 _ b p (if N = 0 then _ else if pend cr.H who = N then (if (payC M cr who).2 = true then _ else _) else _)
          rw [if_neg hN0, if_pos HE.out, if_neg (by rw [hp'.out]; simp)]
          exact H2.out
      · have HE := Lib.hid he
        have he' : ((pend cr.H who : Int) == N) = false := by simp; omega
        clear he
        go_wp2_with fail
        refine (pending HS'.out.at_ who).mono ?_
        rintro e w3 ⟨rfl, rfl⟩
        go_wp2_with fail
        refine bodyPost_end (results_none rfl _ _ _) rfl ?_
        refine ⟨rfl, HB.out _ _ ?_⟩
        have q := RR.out
        rw [← q]
        show Pays M w1 F1 _ b p (if N = 0 then _ else if pend cr.H who = N then (if (payC M cr who).2 = true then _ else _) else _)
        rw [if_neg hN0, if_neg HE.out]
        exact PR.out

/-- pick -/
theorem pick (h : Pays M w0 F w b p c) (x : Pick.Pk) (hn : x.n ≤ 9223372036854775807) :
    Calls Tryz.prog 81 #[.pointer (some ⟨b, 0, none⟩), .agg #[.int .i64 x.k, .int .i64 x.who, .int .i64 x.n], .pointer (some ⟨p, 0, none⟩)] w fun e w' => e = .returned (.tuple #[]) ∧ Pays M w0 F w' b p (pickC M c x) := by
  obtain ⟨k, who, n⟩ := x
  unfold pickC
  by_cases h1 : k = 1
  · subst h1; exact pick_step h who n
  by_cases h2 : k = 2
  · subst h2; exact pick_run h who n hn
  by_cases h3 : k = 5
  · subst h3; exact pick_finish h who n
  by_cases h4 : k = 4
  · subst h4; exact pick_round h who n
  by_cases h5 : k = 6
  · subst h5; exact pick_drain h who n
  · simp only [if_neg h1, if_neg h2, if_neg h3, if_neg h4, if_neg h5]
    exact pick_none h k who n h1 h2 h3 h4 h5
end Go.Proofs.YtdkdeiofjoccnaaGreat.Har

/- The harness: Play, Drain. -/
namespace Go.Proofs.YtdkdeiofjoccnaaGreat.Har
open Go.RowKit Go.Proofs.YtdkdeiofjoccnaaGreat.Mem
set_option linter.unusedVariables false
set_option maxRecDepth 100000
variable {S : Type} {M : Mach S} {w0 w w' : World} {F : List Nat} {b p : Nat} {c : Conf S} {H : Har} {s : S}

/-- a list of picks that is handed in -/
structure Handed (w : World) (T : List Nat) (a : Option Addr) (l : List Pick.Pk) : Prop where
  cell : ∀ (i : Nat) (hi : i < l.length), ∃ b o, a = some ⟨b, o, none⟩ ∧ w.cell? ⟨b, o + i * 3, none⟩ = some (.int .i64 l[i].k) ∧ w.cell? ⟨b, o + i * 3 + 1, none⟩ = some (.int .i64 l[i].who) ∧ w.cell? ⟨b, o + i * 3 + 2, none⟩ = some (.int .i64 l[i].n)
  off : ∀ g o, a = some ⟨g, o, none⟩ → g ∉ T ∧ g < w.heap.size
  small : ∀ x ∈ l, x.n ≤ 9223372036854775807

variable {bq : Nat} {vs : List Value} {ve vd : Value}

/-- the purse as it is made -/
def pursed (w : World) (budget : Nat) : World := w.alloc (.cells #[.int .i64 budget, .bool false] 193 (0, 0))
theorem purse (h : Since M w0 F w b bq vs ve vd H s) (budget : Nat) (hb : budget ≤ 9223372036854775807) : Pays M (pursed w budget) (w.heap.size :: blocks b bq (ve :: vd :: vs)) (pursed w budget) b w.heap.size ⟨H, s, budget, false⟩ ∧
    ∀ (w' : World) (c' : Conf S), Pays M (pursed w budget) (w.heap.size :: blocks b bq (ve :: vd :: vs)) w' b w.heap.size c' → Stands M w0 F w' b c'.H c'.s := by
  have k : Keep [] w (pursed w budget) := (Keep.refl _ _).alloc _
  have hn : w.heap.size ∉ blocks b bq (ve :: vd :: vs) := fun hm => by have := h.at_.lt _ hm; omega
  refine ⟨⟨⟨bq, vs, ve, vd, ⟨h.at_.keep k (by simp), M.stable h.mach k (by simp), h.apart, h.ok, h.few, fun x hx => .inl (List.mem_cons_of_mem _ hx), Keep.refl _ _⟩, hn⟩, alloc_new w _, fun hm => by have := M.lt h.mach _ hm; omega, .inl (by simp), hb⟩, fun w' c' h' => ?_⟩
  obtain ⟨bq', vs', ve', vd', hS, hn'⟩ := h'.ex
  have hx1 : ∀ x, x ∈ w.heap.size :: blocks b bq (ve :: vd :: vs) ∨ (pursed w budget).heap.size ≤ x → x ∈ F ∨ w0.heap.size ≤ x := by
    rintro x (hx | hx)
    · rcases List.mem_cons.1 hx with rfl | hx
      · exact .inr h.keep.size
      · exact h.own x hx
    · exact .inr (Nat.le_trans h.keep.size (Nat.le_trans k.size hx))
  refine ⟨bq', vs', ve', vd', ⟨hS.at_, hS.mach, hS.apart, hS.ok, hS.few, fun x hx => hx1 x (hS.own x hx), (h.keep.chain k (by simp)).chain hS.keep fun x hx => ?_⟩⟩
  rcases List.mem_append.1 hx with hx | hx
  · exact (hx1 x (.inl hx)).imp (List.mem_append_left _) id
  · exact .inl (List.mem_append_right _ hx)

theorem play_neg (budget : Int) (hb : budget < 0) (a : Option Addr) (n cap : Nat) :
    Calls Tryz.prog 35 #[.pointer (some ⟨b, 0, none⟩), .int .i64 budget, .slice a n cap] w fun e w' => e = .returned (.tuple #[.int .i64 0, .int .i64 34]) ∧ w = w' := by
  go_enter Tryz.func35, Tryz.ntmps35
  go_wp2_with fail
  go_ret2
  exact ⟨rfl, rfl⟩

/-- what Play answers -/
def playN (budget : Nat) (c : Conf S) : Int := if c.dry then budget else budget - c.left
def playE (c : Conf S) : Int := if c.dry then 34 else 0

theorem Handed.keep {T : List Nat} {a : Option Addr} {l : List Pick.Pk} {w' : World} (h : Handed w T a l) (k : Keep T w w') : Handed w' T a l :=
  ⟨fun i hi => let ⟨g, o, e, c0, c1, c2⟩ := h.cell i hi; ⟨g, o, e, k.cell c0 (h.off g o e).1, k.cell c1 (h.off g o e).1, k.cell c2 (h.off g o e).1⟩, fun g o e => ⟨(h.off g o e).1, Nat.lt_of_lt_of_le (h.off g o e).2 k.size⟩, h.small⟩

theorem roundsC_le (M : Mach S) : ∀ (f : Nat) (n : Int) (c : Conf S), (roundsC M f n c).left ≤ c.left
  | 0, n, c => Nat.le_refl _
  | f + 1, n, c => by
    show (if n = 0 ∨ idleB c.H = true ∨ c.dry = true then c else roundsC M f (n - 1) (roundC M c)).left ≤ c.left
    split
    · exact Nat.le_refl _
    · exact Nat.le_trans (roundsC_le M f (n - 1) (roundC M c)) (sweepC_le M _ 0 c).1
theorem runC_le (M : Mach S) (who : Int) : ∀ (n : Nat) (c : Conf S), (runC M who n c).left ≤ c.left
  | 0, c => Nat.le_refl _
  | n + 1, c => by
    show (if (payC M c who).2 then runC M who n (payC M c who).1 else (payC M c who).1).left ≤ c.left
    split
    · exact Nat.le_trans (runC_le M who n _) (payC_le M c who).1
    · exact (payC_le M c who).1
theorem finishC_le (M : Mach S) (who : Int) (n : Nat) : ∀ (f : Nat) (c : Conf S), (finishC M who n f c).left ≤ c.left
  | 0, c => Nat.le_refl _
  | f + 1, c => by
    show (if n = 0 then c else if pend c.H who = n then (if (payC M c who).2 then finishC M who n f (payC M c who).1 else (payC M c who).1) else c).left ≤ c.left
    split
    · exact Nat.le_refl _
    · split
      · split
        · exact Nat.le_trans (finishC_le M who n f _) (payC_le M c who).1
        · exact (payC_le M c who).1
      · exact Nat.le_refl _
theorem pickC_le (M : Mach S) (c : Conf S) (x : Pick.Pk) : (pickC M c x).left ≤ c.left := by
  unfold pickC
  split
  · exact (payC_le M c x.who).1
  split
  · exact runC_le M _ _ _
  split
  · exact finishC_le M _ _ _ _
  split
  · split
    · exact roundsC_le M _ _ _
    · exact Nat.le_refl _
  split
  · exact roundsC_le M _ _ _
  · exact Nat.le_refl _
theorem playC_le (M : Mach S) : ∀ (l : List Pick.Pk) (c : Conf S), (playC M l c).left ≤ c.left
  | [], c => Nat.le_refl _
  | x :: l, c => by
    show (if (pickC M c x).dry then pickC M c x else playC M l (pickC M c x)).left ≤ c.left
    split
    · exact pickC_le M c x
    · exact Nat.le_trans (playC_le M l _) (pickC_le M c x)

set_option maxHeartbeats 1000000 in
theorem play (h : Since M w0 F w b bq vs ve vd H s) (budget : Nat) (hb : budget ≤ 9223372036854775807) (a : Option Addr) (cap : Nat) (l : List Pick.Pk) (hl : Handed w (blocks b bq (ve :: vd :: vs) ++ M.B) a l) (hll : l.length ≤ 9223372036854775807) :
    Calls Tryz.prog 35 #[.pointer (some ⟨b, 0, none⟩), .int .i64 budget, .slice a l.length cap] w fun e w' =>
      e = .returned (.tuple #[.int .i64 (playN budget (playC M l ⟨H, s, budget, false⟩)), .int .i64 (playE (playC M l ⟨H, s, budget, false⟩))]) ∧ Stands M w0 F w' b (playC M l ⟨H, s, budget, false⟩).H (playC M l ⟨H, s, budget, false⟩).s := by
  have hb' : ¬ (budget : Int) < 0 := by omega
  obtain ⟨P1, back⟩ := purse h budget hb
  have hl1 : Handed (pursed w budget) ((w.heap.size :: blocks b bq (ve :: vd :: vs)) ++ M.B) a l := by
    refine ⟨fun i hi => ?_, fun g o e => ?_, hl.small⟩
    · obtain ⟨g, o, e, c0, c1, c2⟩ := hl.cell i hi
      have k : Keep [] w (pursed w budget) := (Keep.refl _ _).alloc _
      exact ⟨g, o, e, k.cell c0 (by simp), k.cell c1 (by simp), k.cell c2 (by simp)⟩
    · obtain ⟨h1, h2⟩ := hl.off g o e
      have k : Keep [] w (pursed w budget) := (Keep.refl _ _).alloc _
      refine ⟨fun hm => ?_, Nat.lt_of_lt_of_le h2 k.size⟩
      rw [List.cons_append] at hm
      rcases List.mem_cons.1 hm with rfl | hm
      · omega
      · exact h1 hm
  have HP := Lib.hid P1
  have HB := Lib.hid back
  have HL := Lib.hid hl1
  clear h hl P1 back hl1
  go_enter Tryz.func35, Tryz.ntmps35
  go_wp2_with fail
  obtain ⟨p, hp⟩ : ∃ p, p = w.heap.size := ⟨_, rfl⟩
  obtain ⟨w1, hw1⟩ : ∃ w1, w1 = pursed w budget := ⟨_, rfl⟩
  rw [← hw1, ← hp] at HP HB HL
  have hw1' : w.alloc (.cells #[.int .i64 budget, .bool false] 193 (0, 0)) = w1 := hw1.symm
  rw [hw1', ← hp]
  clear hw1 hw1' hp
  go_loopw [20] (fun i wr => ∃ (k : Nat) (c' : Conf S), i = .int .i64 k ∧ k ≤ l.length ∧ Pays M w1 (p :: blocks b bq (ve :: vd :: vs)) wr b p c' ∧ c'.dry = false ∧ playC M (l.drop k) c' = playC M l ⟨H, s, budget, false⟩) (fun i _ => l.length - (intOf i).toNat)
  case atStart => exact ⟨0, _, rfl, Nat.zero_le _, HP.out, rfl, rfl⟩
  case round =>
    obtain ⟨k, c', rfl, hk, hP, hd, hR⟩ := hrel
    have PR := Lib.hid hP
    have RR := Lib.hid hR
    have LR := Lib.hid (HL.out.keep hP.kept)
    have DR := Lib.hid hd
    clear hP hR hd
    by_cases hlt : k < l.length
    · obtain ⟨g, o, rfl, x0, x1, x2⟩ := LR.out.cell k hlt
      have hsm := Lib.hid (LR.out.small l[k] (List.getElem_mem hlt))
      obtain ⟨x, hx⟩ : ∃ x, x = l[k] := ⟨_, rfl⟩
      rw [← hx] at x0 x1 x2 hsm
      have HX := Lib.hid hx
      clear hx
      have hdrop := Lib.hid (show l.drop k = x :: l.drop (k + 1) by rw [HX.out]; exact List.drop_eq_getElem_cons hlt)
      go_wp2_with fail
      refine (pick (PR.out.keep ((Keep.refl [] wr).alloc _)) x hsm.out).mono ?_
      rintro e w2 ⟨rfl, h2⟩
      have H2 := Lib.hid h2
      have hplay := Lib.hid (show playC M l ⟨H, s, budget, false⟩ = if (pickC M c' x).dry then pickC M c' x else playC M (l.drop (k + 1)) (pickC M c' x) by rw [← RR.out, hdrop.out]; rfl)
      by_cases hd : (pickC M c' x).dry = true
      · have p1 : w2.cell? ⟨p, 1, none⟩ = some (.bool true) := by rw [cell_of h2.hp, hd]; rfl
        have HD := Lib.hid hd
        clear h2 hd
        go_wp2_with fail
        go_ret2
        have hfin : playC M l ⟨H, s, budget, false⟩ = pickC M c' x := by rw [hplay.out, if_pos HD.out]
        rw [hfin]
        have e1 : playN budget (pickC M c' x) = budget := by unfold playN; rw [if_pos HD.out]
        have e2 : playE (pickC M c' x) = 34 := by unfold playE; rw [if_pos HD.out]
        rw [e1, e2]
        exact ⟨rfl, HB.out _ _ H2.out⟩
      · have hd' : (pickC M c' x).dry = false := by simpa using hd
        have p1 : w2.cell? ⟨p, 1, none⟩ = some (.bool false) := by rw [cell_of h2.hp, hd']; rfl
        have HD := Lib.hid hd'
        clear h2 hd hd'
        go_wp2_with fail
        go_roundw
        case rel => exact ⟨k + 1, _, by go_num, hlt, H2.out, HD.out, by rw [hplay.out, if_neg (by rw [HD.out]; simp)]⟩
        case measure => simp [intOf]; omega
    · have hkl : k = l.length := by omega
      have HKL := Lib.hid hkl
      have hfin : playC M l ⟨H, s, budget, false⟩ = c' := by rw [← RR.out, hkl, List.drop_length]; rfl
      have HF := Lib.hid hfin
      have p0 : wr.cell? ⟨p, 0, none⟩ = some (.int .i64 c'.left) := by rw [cell_of PR.out.hp]; rfl
      have hbig := PR.out.big
      clear hkl hfin
      have hle : c'.left ≤ budget := by
        have := playC_le M l ⟨H, s, budget, false⟩
        rw [HF.out] at this
        exact this
      have hsub := IntWalk.i64_in ((budget : Int) - c'.left) (by omega)
      go_wp2_with fail
      go_ret2
      have q := HF.out
      rw [q]
      have e1 : playN budget c' = budget - c'.left := by unfold playN; rw [if_neg (by rw [DR.out]; simp)]
      have e2 : playE c' = 0 := by unfold playE; rw [if_neg (by rw [DR.out]; simp)]
      rw [e1, e2]
      exact ⟨rfl, HB.out _ _ PR.out⟩
end Go.Proofs.YtdkdeiofjoccnaaGreat.Har

/- The harness: Drain, Steps, New. -/
namespace Go.Proofs.YtdkdeiofjoccnaaGreat.Har
open Go.RowKit Go.Proofs.YtdkdeiofjoccnaaGreat.Mem
set_option linter.unusedVariables false
set_option maxRecDepth 100000
variable {S : Type} {M : Mach S} {w0 w w' : World} {F : List Nat} {b p : Nat} {c : Conf S} {H : Har} {s : S} {bq : Nat} {vs : List Value} {ve vd : Value}

theorem Since.later (h : Since M w0 F w b bq vs ve vd H s) (k : Keep [] w w') : Since M w0 F w' b bq vs ve vd H s :=
  ⟨h.at_.keep k (by simp), M.stable h.mach k (by simp), h.apart, h.ok, h.few, h.own, h.keep.chain k (by simp)⟩

def drainPick : Pick.Pk := ⟨6, 0, 0⟩

theorem drain_neg (budget : Int) (hb : budget < 0) :
    Calls Tryz.prog 38 #[.pointer (some ⟨b, 0, none⟩), .int .i64 budget] w fun e w' => e = .returned (.tuple #[.int .i64 0, .int .i64 34]) ∧ Keep [] w w' := by
  go_enter Tryz.func38, Tryz.ntmps38
  go_wp2_with fail
  refine (play_neg budget hb _ _ _).mono ?_
  rintro e w' ⟨rfl, rfl⟩
  go_wp2_with fail
  go_ret2
  exact ⟨rfl, (Keep.refl _ _).alloc _⟩

theorem drain (h : Since M w0 F w b bq vs ve vd H s) (budget : Nat) (hb : budget ≤ 9223372036854775807) :
    Calls Tryz.prog 38 #[.pointer (some ⟨b, 0, none⟩), .int .i64 budget] w fun e w' =>
      e = .returned (.tuple #[.int .i64 (playN budget (playC M [drainPick] ⟨H, s, budget, false⟩)), .int .i64 (playE (playC M [drainPick] ⟨H, s, budget, false⟩))]) ∧ Stands M w0 F w' b (playC M [drainPick] ⟨H, s, budget, false⟩).H (playC M [drainPick] ⟨H, s, budget, false⟩).s := by
  have HS := Lib.hid h
  clear h
  go_enter Tryz.func38, Tryz.ntmps38
  go_wp2_with fail
  have k1 : Keep [] w (w.alloc (.cells #[.int .i64 6, .int .i64 0, .int .i64 0] 119 (0, 0))) := (Keep.refl _ _).alloc _
  have hn : (w.alloc (.cells #[.int .i64 6, .int .i64 0, .int .i64 0] 119 (0, 0))).heap[w.heap.size]? = some (.cells #[.int .i64 6, .int .i64 0, .int .i64 0] 119 (0, 0)) := alloc_new w _
  have hh : Handed (w.alloc (.cells #[.int .i64 6, .int .i64 0, .int .i64 0] 119 (0, 0))) (blocks b bq (ve :: vd :: vs) ++ M.B) (some ⟨w.heap.size, 0, none⟩) [drainPick] := by
    refine ⟨fun i hi => ?_, fun g o e => ?_, fun x hx => ?_⟩
    · obtain rfl : i = 0 := by simpa using hi
      exact ⟨_, _, rfl, by rw [cell_of hn]; rfl, by rw [cell_of hn]; rfl, by rw [cell_of hn]; rfl⟩
    · simp only [Option.some.injEq, Addr.mk.injEq] at e
      obtain ⟨rfl, -, -⟩ := e
      refine ⟨fun hm => ?_, lt_of hn⟩
      rcases List.mem_append.1 hm with hm | hm
      · have := HS.out.at_.lt _ hm; omega
      · have := M.lt HS.out.mach _ hm; omega
    · simp only [List.mem_singleton] at hx
      subst hx
      show (0 : Int) ≤ _
      omega
  refine (play (HS.out.later k1) budget hb _ 1 [drainPick] hh (by simp)).mono ?_
  rintro e w2 ⟨rfl, h2⟩
  have H2 := Lib.hid h2
  clear h2 hh hn k1
  go_wp2_with fail
  go_ret2
  exact ⟨rfl, H2.out⟩

theorem steps (h : Since M w0 F w b bq vs ve vd H s) :
    Calls Tryz.prog 45 #[.pointer (some ⟨b, 0, none⟩)] w fun e w' => e = .returned (.int .i64 H.steps) ∧ w = w' := by
  have c1 : w.cell? ⟨b, 1, none⟩ = some (.int .i64 H.steps) := cell_of h.at_.hb 1
  clear h
  go_enter Tryz.func45, Tryz.ntmps45
  go_wp2_with fail
  go_ret
  exact ⟨rfl, rfl⟩

theorem make_row (t e : TypeId) (z zc : Value) (bytes : Nat) (ht : Tryz.prog.underlying t = some (.slice e)) (hinfo : (Tryz.prog.info? e).map (fun i => (i.zero, i.size, i.bytes)) = some (some z, 1, bytes)) (hzc : z.cells = #[zc])
    (n : Nat) (hbytes : bytes * n ≤ 281474976710656) (h63 : n ≤ 9223372036854775807) (w : World) :
    (Instr.makeSlice t (.int .i64 (n : Int)) (.int .i64 (n : Int))).run Tryz.prog w = .ok (.slice (some ⟨w.heap.size, 0, none⟩) n n) (w.alloc (.cells (madeCells #[zc] n) e)) := by
  obtain ⟨i, hi, hzz⟩ := Option.map_eq_some_iff.1 hinfo
  simp only [Prod.mk.injEq] at hzz
  obtain ⟨hz, hs, hb⟩ := hzz
  have h := run_make (P := Tryz.prog) w t e i z ht hi hz .i64 .i64 (n : Int) (n : Int) (by omega) (Int.le_refl _) (by rw [hb]; omega) (by omega)
  rw [hs, hzc, Nat.mul_one, Int.toNat_natCast] at h
  exact h
theorem made_list (z : Value) (n : Nat) : madeCells #[z] n = (List.replicate n z).toArray := by
  rw [← toList_madeCells_one, Array.toArray_toList]
theorem infoQ : (Tryz.prog.info? 180).map (fun i => (i.zero, i.size, i.bytes)) = some (some (.slice none 0 0), 1, 24) := by kernel_rfl

theorem new_bad (n : Int) (hn : n < 1 ∨ 16 < n) :
    Calls Tryz.prog 10 #[.int .i64 n] w fun e w' => e = .returned (.tuple #[.pointer none, .int .i64 30]) ∧ w = w' := by
  rcases hn with hn | hn
  · go_enter Tryz.func10, Tryz.ntmps10
    go_wp2_with fail
    go_ret2
    exact ⟨rfl, rfl⟩
  · have hn' : ¬ n < 1 := by omega
    go_enter Tryz.func10, Tryz.ntmps10
    go_wp2_with fail
    go_ret2
    exact ⟨rfl, rfl⟩

theorem new_at (w : World) (n : Nat) (h2 : n ≤ 16) :
    At ((w.alloc (.cells (madeCells #[.slice none 0 0] n) 180)).alloc (.cells #[.slice (some ⟨w.heap.size, 0, none⟩) n n, .int .i64 0, .slice none 0 0, .slice none 0 0] 105))
      (w.heap.size + 1) w.heap.size (List.replicate n (.slice none 0 0)) (.slice none 0 0) (.slice none 0 0) ⟨List.replicate n [], 0, [], []⟩ := by
  have e0 : ∀ v ∈ (.slice none 0 0) :: (.slice none 0 0) :: List.replicate n (Value.slice none 0 0), v = .slice none 0 0 := by
    intro v hv
    simp only [List.mem_cons, List.mem_replicate] at hv
    rcases hv with rfl | rfl | ⟨-, rfl⟩ <;> rfl
  have hno : ∀ i (hi : i < ((Value.slice none 0 0) :: (.slice none 0 0) :: List.replicate n (Value.slice none 0 0)).length) g, ((Value.slice none 0 0) :: (.slice none 0 0) :: List.replicate n (Value.slice none 0 0))[i].ownBlock = some g → False := by
    intro i hi g hg
    rw [e0 _ (List.getElem_mem hi)] at hg
    simp [Value.ownBlock] at hg
  refine ⟨⟨by omega, fun i hi g hg => (hno i hi g hg).elim, fun i j hi hj g hg _ => (hno i hi g hg).elim⟩, ?_, ?_, by simpa using h2, fun i h1 h3 => ⟨.inl ?_⟩, ⟨rfl, .inl ⟨rfl, rfl⟩⟩, ⟨rfl, .inl ⟨rfl, rfl⟩⟩⟩
  · have q := alloc_new (w.alloc (.cells (madeCells #[.slice none 0 0] n) 180)) (.cells #[.slice (some ⟨w.heap.size, 0, none⟩) n n, .int .i64 0, .slice none 0 0, .slice none 0 0] 105)
    rw [World.size_alloc] at q
    rw [q]
    simp
  · refine alloc_some _ ?_
    rw [← made_list]
    exact alloc_new _ _
  · simp

theorem new_ok (n : Nat) (h1 : 1 ≤ n) (h2 : n ≤ 16) :
    Calls Tryz.prog 10 #[.int .i64 n] w fun e w' => ∃ b bq vs ve vd, e = .returned (.tuple #[.pointer (some ⟨b, 0, none⟩), .int .i64 0]) ∧ At w' b bq vs ve vd ⟨List.replicate n [], 0, [], []⟩ ∧ (∀ x ∈ blocks b bq (ve :: vd :: vs), w.heap.size ≤ x) ∧ Keep [] w w' := by
  have k1 := make_row 102 180 _ (.slice none 0 0) 24 Tryz.underlying102 infoQ rfl n (by omega) (by omega)
  go_enter Tryz.func10, Tryz.ntmps10
  go_wp2_with fail
  go_ret2
  refine ⟨_, _, _, _, _, rfl, new_at w n h2, ?_, ((Keep.refl _ _).alloc _).alloc _⟩
  intro x hx
  rw [mem_blocks] at hx
  rcases hx with rfl | rfl | ⟨i, hi, hx⟩
  · omega
  · omega
  · have hv := List.getElem_mem hi
    simp only [List.mem_cons, List.mem_replicate] at hv
    rcases hv with hv | hv | ⟨-, hv⟩ <;> (rw [hv] at hx; simp [Value.ownBlock] at hx)
end Go.Proofs.YtdkdeiofjoccnaaGreat.Har
