/- bench: a look at a bench, the program's and the document's side by side. -/
import Derived.Test.YtdkdeiofjoccnaaGreatDuo
import Derived.WalkSpells
namespace Go.Proofs.YtdkdeiofjoccnaaGreat.Ref
open Go.RowKit Go.Proofs.YtdkdeiofjoccnaaGreat.Mem Go.Proofs.YtdkdeiofjoccnaaGreat.Har Go.Proofs.YtdkdeiofjoccnaaGreat.Lit Go.Proofs.YtdkdeiofjoccnaaGreat.Ar Go.Proofs.YtdkdeiofjoccnaaGreat.Un
set_option linter.unusedVariables false
set_option maxRecDepth 100000

theorem idle_queues : ∀ {α β γ : Type} (f : α → γ) (g : β → γ) (q : List (List α)) (r : List (List β)), q.map (List.map f) = r.map (List.map g) → q.all List.isEmpty = r.all List.isEmpty
  | _, _, _, _, _, [], [], _ => rfl
  | _, _, _, _, _, [], _ :: _, h => by simp at h
  | _, _, _, _, _, _ :: _, [], h => by simp at h
  | _, _, _, f, g, a :: q, b :: r, h => by
    simp only [List.map_cons, List.cons.injEq] at h
    have h2 := idle_queues f g q r h.2
    have h1 : a.isEmpty = b.isEmpty := by
      have := congrArg List.length h.1
      simp only [List.length_map] at this
      cases a <;> cases b <;> simp_all
    simp only [List.all_cons, h1, h2]
theorem Pair.idle {P : Park} {x : Har.Har × St} {y : Har.Har × RP} (h : Pair P x y) : idleB x.1 = idleB y.1 := idle_queues _ _ _ _ h.queues
theorem Pair.words {P : Park} {x : Har.Har × St} {y : Har.Har × RP} (h : Pair P x y) {A : Arena Unit} (hA : x.2.ars = [A]) : slotWords A 1 = y.2.cells ∧ regsOf x.2.ths = regsOf y.2.ths := by
  obtain ⟨A', hA', hS⟩ := h.same
  rw [hA] at hA'
  simp only [List.cons.injEq, and_true] at hA'
  subst hA'
  exact ⟨words_same hS, congrArg regsOf h.ths⟩

section
variable {w0 w w' : World} {T : List Nat} {bb pb : Nat}
set_option maxHeartbeats 4000000 in
theorem benchLook (h : Duo w0 T w bb pb) (second : Bool) (s : ByteArray) :
    Calls Tryz.prog 17 #[.pointer (some ⟨bb, 0, none⟩), .pointer (some ⟨pb, 0, none⟩), .agg #[.bool second, .bool true, .string s]] w fun e w' => e = .returned (.bool true) ∧ Keep [] w w' := by
  obtain ⟨T1, T2, P, H, S, H', S', h1, h2, h3, h4, h5, h6, rfl⟩ := h
  have hid : idleB H = idleB H' := h4.idle
  have hev : H.events = H'.events := h4.events
  have hwd := fun A (hA : S.ars = [A]) => h4.words hA
  obtain ⟨tb, htb⟩ : ∃ tb, tb = w.heap.size := ⟨_, rfl⟩
  obtain ⟨w1, hw1⟩ : ∃ w1, w1 = w.alloc (.cells #[.bool second, .bool true, .string s] 64) := ⟨_, rfl⟩
  have b1 : w1.heap[tb]? = some (.cells #[.bool second, .bool true, .string s] 64 (0, 0)) := by rw [hw1, htb]; exact alloc_new _ _
  have hk : Keep [] w w1 := by rw [hw1]; exact (Keep.refl _ _).alloc _
  have R1 := Lib.hid (h1.frame0 hk)
  obtain ⟨b, B, bq, vs, ve, vd, c2, r2, r3, -, -, -⟩ := h2.frame0 hk
  have R2 := Lib.hid r2
  have R3 := Lib.hid r3
  have C2 := Lib.hid c2
  have K1 := Lib.hid hk
  have ID := Lib.hid hid
  have EV := Lib.hid hev
  have WD := Lib.hid hwd
  have y1 := (cell_of b1 1).trans rfl
  clear h1 h2 h3 h4 h5 hk b1 r2 r3 c2 hid hev hwd
  go_enter Tryz.func17, Tryz.ntmps17
  go_upto_region 1 with fail
  rw [show w.alloc (.cells #[.bool second, .bool true, .string s] 64 (0, 0)) = w1 from hw1.symm, ← htb]
  clear hw1 htb
  go_wp2_with fail
  refine (R1.out.outcome (by omega)).mono ?_
  rintro e w2 ⟨cv, rv, A, hA, rfl, hO, k2⟩
  obtain ⟨e1, e2⟩ := WD.out A hA
  rw [e1, e2] at hO
  obtain ⟨ac, cc, rfl⟩ := row_form hO.cells
  obtain ⟨ar, cr, rfl⟩ := row_form hO.regs
  obtain ⟨nc, hnc⟩ : ∃ n, n = S'.cells.length := ⟨_, rfl⟩
  obtain ⟨nr, hnr⟩ : ∃ n, n = (regsOf S'.ths).length := ⟨_, rfl⟩
  obtain ⟨ob, hob⟩ : ∃ b, b = w2.heap.size := ⟨_, rfl⟩
  obtain ⟨w3, hw3⟩ : ∃ w3, w3 = w2.alloc (.cells #[.slice ac nc cc, .slice ar nr cr] 68) := ⟨_, rfl⟩
  have k3 : Keep [] w2 w3 := by rw [hw3]; exact (Keep.refl _ _).alloc _
  have b3 : w3.heap[ob]? = some (.cells #[.slice ac nc cc, .slice ar nr cr] 68 (0, 0)) := by rw [hw3, hob]; exact alloc_new _ _
  have k13 := k2.trans k3
  have K13 := Lib.hid k13
  have O3 : Hid (OutS w3 (.slice ac nc cc) (.slice ar nr cr) S'.cells (regsOf S'.ths)) := Lib.hid (by
    have := hO.outS.keep0 k3
    rw [hnc, hnr]
    exact this)
  have HL : Hid (S'.cells.length ≤ 1000 ∧ (regsOf S'.ths).length ≤ 1000) := Lib.hid (by
    have f1 := R2.out.prog.few
    have f2 : (regsOf S'.ths).length = S'.ths.length * 4 := regsOf_length _ (fun t ht => by
      obtain ⟨i, hi, rfl⟩ := List.getElem_of_mem ht
      exact (R2.out.prog.regs i (by rw [R2.out.prog.len]; exact hi) hi).2)
    omega)
  rw [← hnc, ← hnr]
  clear hnc hnr hO e1 e2 hA k2 y1
  go_upto_region 4 with fail
  rw [← hob, ← hw3]
  clear hw3 hob
  rw [ID.out]
  have q0 := (cell_of b3 0).trans rfl
  have q1 := (cell_of b3 1).trans rfl
  have q2 := k13.cell C2.out (by simp)
  have HP := Lib.hid (R2.out.keep0 k13)
  clear b3 k13 k3
  have hfew : H'.events.length ≤ 1000000000000 := by have := R3.out; omega
  have HF := Lib.hid hfew
  clear hfew
  go_region_held3 (fun w' => w'.cell? ⟨ob, 0, none⟩ = some (.slice ac nc cc) ∧ w'.cell? ⟨ob, 1, none⟩ = some (.slice ar nr cr) ∧ w'.cell? ⟨pb, 2, none⟩ = some (.pointer (some ⟨b, 0, none⟩))) (go_keep)
    (first
      | (go_at_call 58; refine (outcomeR (HP.out.prog.keep0 (Keep.refl [] w3).drew)).mono ?_; rintro e wA ⟨cvA, rvA, rfl, hA, kA⟩; have OA := Lib.hid hA.outS; have kA2 := (Keep.refl [] w3).drew.trans kA; have KA := Lib.hid kA2; have q0A := kA2.cell q0 (by simp); have q1A := kA2.cell q1 (by simp); have q2A := kA2.cell q2 (by simp); clear hA kA kA2)
      | (go_at_call 20; refine (sameOutcome (O3.out.keep0 KA.out) OA.out (by have := HL.out; omega) (by have := HL.out; omega)).mono ?_; rintro e wB ⟨he, kB⟩; rw [show (sameB S'.cells S'.cells && sameB (regsOf S'.ths) (regsOf S'.ths)) = true by simp [sameB]] at he; subst he; have KB := Lib.hid (KA.out.trans kB); have q0B := kB.cell q0A (by simp); have q1B := kB.cell q1A (by simp); have q2B := kB.cell q2A (by simp); clear kB)
      | (go_at_call 44; refine (idle' (F := Har.blocks b bq (ve :: vd :: vs)) (w0 := w1) (pb := pb) (B := B) (S := S') ⟨⟨bq, vs, ve, vd, HP.out.keep0 KB.out⟩, R3.out⟩).mono ?_; rintro e wC ⟨rfl, kC⟩; have KC := Lib.hid (KB.out.trans kC); have q0C := kC.cell q0B (by simp); have q1C := kC.cell q1B (by simp); have q2C := kC.cell q2B (by simp); clear kC)
      | (go_at_call 48; refine ((R1.out.frame0 (K13.out.trans KC.out)).events).mono ?_; rintro e wD ⟨v1, rfl, hv, kD⟩; rw [EV.out] at hv; obtain ⟨a1, c1, rfl, hv1⟩ := evsIn_of hv; have E1 := Lib.hid hv1; have KD := Lib.hid (KC.out.trans kD); have q0D := kD.cell q0C (by simp); have q1D := kD.cell q1C (by simp); have q2D := kD.cell q2C (by simp); clear kD hv hv1)
      | (go_at_call 49; refine (RAt.eventsR (HP.out.keep0 KD.out).at_ HF.out).mono ?_; rintro e wE ⟨v2, rfl, hv, kE⟩; obtain ⟨a2, c2, rfl, hv1⟩ := evsIn_of hv; have E2 := Lib.hid hv1; have E1b := Lib.hid (E1.out.keep kE); have KE := Lib.hid (KD.out.trans kE); have q0E := kE.cell q0D (by simp); have q1E := kE.cell q1D (by simp); have q2E := kE.cell q2D (by simp); clear kE hv hv1)
      | (go_at_call 50; refine (sameEv E1b.out E2.out HF.out).mono ?_; rintro e wF ⟨rfl, m, rfl⟩; have KF := Lib.hid (KE.out.trans (keep_of_drewN ⟨m, rfl⟩)); have q0F := KF.out.cell q0 (by simp); have q1F := KF.out.cell q1 (by simp); have q2F := KF.out.cell q2 (by simp)))
  go_wp2_with fail
  exact bodyPost_ret (results_tmp rfl _ _ _) rfl ⟨rfl, (K1.out.trans K13.out).trans KF.out⟩
end
end Go.Proofs.YtdkdeiofjoccnaaGreat.Ref
