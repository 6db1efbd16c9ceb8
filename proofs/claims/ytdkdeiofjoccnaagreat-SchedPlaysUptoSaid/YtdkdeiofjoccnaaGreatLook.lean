import Derived.Test.YtdkdeiofjoccnaaGreatBenchTwo
import Derived.Test.YtdkdeiofjoccnaaGreatRefLaw
import Derived.Test.YtdkdeiofjoccnaaGreatSameEv
import Derived.WalkSpells
/- bench: one turn of a bench, the program's and the document's side by side. -/
namespace Go.Proofs.YtdkdeiofjoccnaaGreat.Ref
open Go.RowKit Go.Proofs.YtdkdeiofjoccnaaGreat.Mem Go.Proofs.YtdkdeiofjoccnaaGreat.Har Go.Proofs.YtdkdeiofjoccnaaGreat.Lit
set_option linter.unusedVariables false
set_option maxRecDepth 100000

/-- two benches that are one: T holds the blocks of both -/
def Duo (w0 : World) (T : List Nat) (w : World) (bb pb : Nat) : Prop :=
  ∃ T1 T2 P H S H' S', Lit.Rest w0 T1 w bb P H S ∧ RestR w0 T2 w pb H' S' ∧ (∀ x ∈ T1, x ∉ T2) ∧ Pair P (H, S) (H', S') ∧ muP P (H, S) ≤ 14 ∧ P.seats.length ≤ 4 ∧ T = T1 ++ T2
section
variable {w0 w w' : World} {T : List Nat} {bb pb : Nat}
theorem Duo.lt (h : Duo w0 T w bb pb) : ∀ x ∈ T, x < w.heap.size := by
  obtain ⟨T1, T2, P, H, S, H', S', h1, h2, h3, h4, h5, h6, rfl⟩ := h
  intro x hx
  rcases List.mem_append.1 hx with hx | hx
  · exact h1.lt x hx
  · exact h2.lt x hx
theorem Duo.ge (h : Duo w0 T w bb pb) : ∀ x ∈ T, w0.heap.size ≤ x := by
  obtain ⟨T1, T2, P, H, S, H', S', h1, h2, h3, h4, h5, h6, rfl⟩ := h
  intro x hx
  rcases List.mem_append.1 hx with hx | hx
  · exact h1.ge x hx
  · exact h2.ge x hx
theorem Duo.kept (h : Duo w0 T w bb pb) : Keep [] w0 w := by
  obtain ⟨T1, T2, P, H, S, H', S', h1, -⟩ := h
  exact h1.kept
theorem Duo.frame (h : Duo w0 T w bb pb) {U : List Nat} (k : Keep U w w') (hU : ∀ x ∈ U, x ∉ T ∧ w0.heap.size ≤ x) : Duo w0 T w' bb pb := by
  obtain ⟨T1, T2, P, H, S, H', S', h1, h2, h3, h4, h5, h6, rfl⟩ := h
  exact ⟨T1, T2, P, H, S, H', S', h1.frame k fun x hx => ⟨fun hm => (hU x hx).1 (List.mem_append_left _ hm), (hU x hx).2⟩, h2.frame k fun x hx => ⟨fun hm => (hU x hx).1 (List.mem_append_right _ hm), (hU x hx).2⟩, h3, h4, h5, h6, rfl⟩
theorem Duo.frame0 (h : Duo w0 T w bb pb) (k : Keep [] w w') : Duo w0 T w' bb pb := h.frame k (by simp)

set_option maxHeartbeats 2000000 in
theorem benchPlay (h : Duo w0 T w bb pb) (second : Bool) (s : ByteArray) (hs : s.size ≤ 2097152) :
    Calls Tryz.prog 17 #[.pointer (some ⟨bb, 0, none⟩), .pointer (some ⟨pb, 0, none⟩), .agg #[.bool second, .bool false, .string s]] w fun e w' => e = .returned (.bool true) ∧
      ∃ T', Duo w0 T' w' bb pb ∧ Keep T w w' ∧ ∀ x ∈ T', x ∈ T ∨ w.heap.size ≤ x := by
  obtain ⟨T1, T2, P, H, S, H', S', h1, h2, h3, h4, h5, h6, rfl⟩ := h
  obtain ⟨p1, d1, d2, el, m1⟩ := both h4 h5 (Pick.dec s.data.toList)
  have hval : (1099511627776 - ((playC refM (Pick.dec s.data.toList) (begunR H' S')).left : Int)) = playN 14 (playC (machs P) (Pick.dec s.data.toList) ⟨H, S, 14, false⟩) := by
    unfold playN
    rw [d1, if_neg (by simp)]
    have el' : (playC refM (Pick.dec s.data.toList) (begunR H' S')).left + 14 = (playC (machs P) (Pick.dec s.data.toList) ⟨H, S, 14, false⟩).left + 1099511627776 := el
    omega
  have hk : Keep [] w (w.alloc (.cells #[.bool second, .bool false, .string s] 64)) := (Keep.refl _ _).alloc _
  obtain ⟨tb, htb⟩ : ∃ tb, tb = w.heap.size := ⟨_, rfl⟩
  obtain ⟨w1, hw1⟩ : ∃ w1, w1 = w.alloc (.cells #[.bool second, .bool false, .string s] 64) := ⟨_, rfl⟩
  have b1 : w1.heap[tb]? = some (.cells #[.bool second, .bool false, .string s] 64 (0, 0)) := by rw [hw1, htb]; exact alloc_new _ _
  rw [← hw1] at hk
  have R1 := Lib.hid (h1.frame0 hk.drew)
  have R2 := Lib.hid (h2.frame0 hk.drew)
  have LT := Lib.hid (And.intro h1.lt h2.lt)
  have GE := Lib.hid (And.intro h1.ge h2.ge)
  have K1 := Lib.hid hk
  have DS := Lib.hid h3
  have PP := Lib.hid (And.intro p1 (And.intro m1 h6))
  have HV := Lib.hid hval
  have y1 := (cell_of b1 1).trans rfl
  have y2 := (cell_of b1 2).trans rfl
  have TB := Lib.hid htb
  clear h1 h2 h3 h4 h5 p1 d1 d2 el m1 hk hval b1
  go_enter Tryz.func17, Tryz.ntmps17
  go_upto_region 1 with fail
  rw [show w.alloc (.cells #[.bool second, .bool false, .string s] 64 (0, 0)) = w1 from hw1.symm, ← htb]
  clear hw1 htb
  go_wp2_with fail
  go_region_held3 (fun w' => w'.cell? ⟨tb, 2, none⟩ = some (.string s)) (go_keep)
    (first
      | (go_at_call 60; refine (R1.out.play s hs).mono ?_; rintro e w2 ⟨rfl, T1', hr, hk2, hn2⟩; have N1 := Lib.hid (And.intro hr (And.intro hk2 hn2)); have c22 := hk2.cell (show w1.drew.cell? ⟨tb, 2, none⟩ = _ from y2) (fun hm => by have := LT.out.1 tb hm; have := TB.out; omega); clear hr hk2 hn2)
      | (go_at_call 61; have hp := (R2.out.frame N1.out.2.1 (fun x hx => ⟨fun hm => DS.out x hx hm, GE.out.1 x hx⟩)).play s hs; rw [HV.out] at hp; refine hp.mono ?_; rintro e w3 ⟨rfl, T2', hr, hk3, hn3⟩; have N2 := Lib.hid (And.intro hr (And.intro hk3 hn3)); have c33 := hk3.cell c22 (fun hm => by have := LT.out.2 tb hm; have := TB.out; omega); clear hp hr hk3 hn3))
  go_wp2_with fail
  refine bodyPost_ret (results_tmp rfl _ _ _) rfl ⟨rfl, ?_⟩
  obtain ⟨hr1, hk2, hn2⟩ := N1.out
  obtain ⟨hr2, hk3, hn3⟩ := N2.out
  have hk1 : Keep [] w w1.drew := K1.out.drew
  have hd : ∀ x ∈ T1', x ∉ T2' := by
    intro x hx hm
    have q1 := hr1.lt x hx
    rcases hn2 x hx with h1 | h1
    · rcases hn3 x hm with h2 | h2
      · exact DS.out x h1 h2
      · omega
    · rcases hn3 x hm with h2 | h2
      · have := LT.out.2 x h2
        have := hk1.size
        omega
      · omega
  have hd2 : ∀ x ∈ T2, x ∉ T1' := by
    intro x hm hx
    rcases hn2 x hx with h1 | h1
    · exact DS.out x h1 hm
    · have := LT.out.2 x hm
      have := hk1.size
      omega
  obtain ⟨p1, m1, h6⟩ := PP.out
  refine ⟨T1' ++ T2', ⟨T1', T2', P, _, _, _, _, hr1.frame hk3 fun x hx => ⟨hd2 x hx, GE.out.2 x hx⟩, hr2, hd, p1, m1, h6, rfl⟩, ?_, fun x hx => ?_⟩
  · exact ((hk1.mono (fun x hx => by simp at hx)).trans (hk2.mono fun x hx => List.mem_append_left _ hx)).trans (hk3.mono fun x hx => List.mem_append_right _ hx)
  · have q1 := hk1.size
    have q2 := hk2.size
    rcases List.mem_append.1 hx with hx | hx
    · rcases hn2 x hx with h1 | h1
      · exact .inl (List.mem_append_left _ h1)
      · exact .inr (by omega)
    · rcases hn3 x hx with h1 | h1
      · exact .inl (List.mem_append_right _ h1)
      · exact .inr (by omega)
end
end Go.Proofs.YtdkdeiofjoccnaaGreat.Ref

/- bench: a look at a bench, the program's and the document's side by side. -/
namespace Go.Proofs.YtdkdeiofjoccnaaGreat.Ref
open Go.RowKit Go.Proofs.YtdkdeiofjoccnaaGreat.Mem Go.Proofs.YtdkdeiofjoccnaaGreat.Har Go.Proofs.YtdkdeiofjoccnaaGreat.Lit Go.Proofs.YtdkdeiofjoccnaaGreat.Ar Go.Proofs.YtdkdeiofjoccnaaGreat.Un
set_option linter.unusedVariables false
set_option maxRecDepth 100000

theorem idle_queues : ∀ {α β γ : Type} (f : α → γ) (g : β → γ) (q : List (List α)) (r : List (List β)), q.map (List.map f) = r.map (List.map g) → q.all List.isEmpty = r.all List.isEmpty
  | _, _, _, _, _, [], [], _ => rfl
  | _, _, _, _, _, [], _ :: _, h => by simp at h
  | _, _, _, _, _, _ :: _, [], h => by simp at h
  | _, _, _, f, g, a :: q, b :: r, h => by
    simp only [List.map_cons, List.cons.injEq] at h
    have h2 := idle_queues f g q r h.2
    have h1 : a.isEmpty = b.isEmpty := by
      have := congrArg List.length h.1
      simp only [List.length_map] at this
      cases a <;> cases b <;> simp_all
    simp only [List.all_cons, h1, h2]
theorem Pair.idle {P : Park} {x : Har.Har × St} {y : Har.Har × RP} (h : Pair P x y) : idleB x.1 = idleB y.1 := idle_queues _ _ _ _ h.queues
theorem Pair.words {P : Park} {x : Har.Har × St} {y : Har.Har × RP} (h : Pair P x y) {A : Arena Unit} (hA : x.2.ars = [A]) : slotWords A 1 = y.2.cells ∧ regsOf x.2.ths = regsOf y.2.ths := by
  obtain ⟨A', hA', hS⟩ := h.same
  rw [hA] at hA'
  simp only [List.cons.injEq, and_true] at hA'
  subst hA'
  exact ⟨words_same hS, congrArg regsOf h.ths⟩

section
variable {w0 w w' : World} {T : List Nat} {bb pb : Nat}
set_option maxHeartbeats 4000000 in
theorem benchLook (h : Duo w0 T w bb pb) (second : Bool) (s : ByteArray) :
    Calls Tryz.prog 17 #[.pointer (some ⟨bb, 0, none⟩), .pointer (some ⟨pb, 0, none⟩), .agg #[.bool second, .bool true, .string s]] w fun e w' => e = .returned (.bool true) ∧ Keep [] w w' := by
  obtain ⟨T1, T2, P, H, S, H', S', h1, h2, h3, h4, h5, h6, rfl⟩ := h
  have hid : idleB H = idleB H' := h4.idle
  have hev : H.events = H'.events := h4.events
  have hwd := fun A (hA : S.ars = [A]) => h4.words hA
  obtain ⟨tb, htb⟩ : ∃ tb, tb = w.heap.size := ⟨_, rfl⟩
  obtain ⟨w1, hw1⟩ : ∃ w1, w1 = w.alloc (.cells #[.bool second, .bool true, .string s] 64) := ⟨_, rfl⟩
  have b1 : w1.heap[tb]? = some (.cells #[.bool second, .bool true, .string s] 64 (0, 0)) := by rw [hw1, htb]; exact alloc_new _ _
  have hk : Keep [] w w1 := by rw [hw1]; exact (Keep.refl _ _).alloc _
  have R1 := Lib.hid (h1.frame0 hk)
  obtain ⟨b, B, bq, vs, ve, vd, c2, r2, r3, -, -, -⟩ := h2.frame0 hk
  have R2 := Lib.hid r2
  have R3 := Lib.hid r3
  have C2 := Lib.hid c2
  have K1 := Lib.hid hk
  have ID := Lib.hid hid
  have EV := Lib.hid hev
  have WD := Lib.hid hwd
  have y1 := (cell_of b1 1).trans rfl
  clear h1 h2 h3 h4 h5 hk b1 r2 r3 c2 hid hev hwd
  go_enter Tryz.func17, Tryz.ntmps17
  go_upto_region 1 with fail
  rw [show w.alloc (.cells #[.bool second, .bool true, .string s] 64 (0, 0)) = w1 from hw1.symm, ← htb]
  clear hw1 htb
  go_wp2_with fail
  refine (R1.out.outcome (by omega)).mono ?_
  rintro e w2 ⟨cv, rv, A, hA, rfl, hO, k2⟩
  obtain ⟨e1, e2⟩ := WD.out A hA
  rw [e1, e2] at hO
  obtain ⟨ac, cc, rfl⟩ := row_form hO.cells
  obtain ⟨ar, cr, rfl⟩ := row_form hO.regs
  obtain ⟨nc, hnc⟩ : ∃ n, n = S'.cells.length := ⟨_, rfl⟩
  obtain ⟨nr, hnr⟩ : ∃ n, n = (regsOf S'.ths).length := ⟨_, rfl⟩
  obtain ⟨ob, hob⟩ : ∃ b, b = w2.heap.size := ⟨_, rfl⟩
  obtain ⟨w3, hw3⟩ : ∃ w3, w3 = w2.alloc (.cells #[.slice ac nc cc, .slice ar nr cr] 68) := ⟨_, rfl⟩
  have k3 : Keep [] w2 w3 := by rw [hw3]; exact (Keep.refl _ _).alloc _
  have b3 : w3.heap[ob]? = some (.cells #[.slice ac nc cc, .slice ar nr cr] 68 (0, 0)) := by rw [hw3, hob]; exact alloc_new _ _
  have k13 := k2.trans k3
  have K13 := Lib.hid k13
  have O3 : Hid (OutS w3 (.slice ac nc cc) (.slice ar nr cr) S'.cells (regsOf S'.ths)) := Lib.hid (by
    have := hO.outS.keep0 k3
    rw [hnc, hnr]
    exact this)
  have HL : Hid (S'.cells.length ≤ 1000 ∧ (regsOf S'.ths).length ≤ 1000) := Lib.hid (by
    have f1 := R2.out.prog.few
    have f2 : (regsOf S'.ths).length = S'.ths.length * 4 := regsOf_length _ (fun t ht => by
      obtain ⟨i, hi, rfl⟩ := List.getElem_of_mem ht
      exact (R2.out.prog.regs i (by rw [R2.out.prog.len]; exact hi) hi).2)
    omega)
  rw [← hnc, ← hnr]
  clear hnc hnr hO e1 e2 hA k2 y1
  go_upto_region 4 with fail
  rw [← hob, ← hw3]
  clear hw3 hob
  rw [ID.out]
  have q0 := (cell_of b3 0).trans rfl
  have q1 := (cell_of b3 1).trans rfl
  have q2 := k13.cell C2.out (by simp)
  have HP := Lib.hid (R2.out.keep0 k13)
  clear b3 k13 k3
  have hfew : H'.events.length ≤ 1000000000000 := by have := R3.out; omega
  have HF := Lib.hid hfew
  clear hfew
  go_region_held3 (fun w' => w'.cell? ⟨ob, 0, none⟩ = some (.slice ac nc cc) ∧ w'.cell? ⟨ob, 1, none⟩ = some (.slice ar nr cr) ∧ w'.cell? ⟨pb, 2, none⟩ = some (.pointer (some ⟨b, 0, none⟩))) (go_keep)
    (first
      | (go_at_call 58; refine (outcomeR (HP.out.prog.keep0 (Keep.refl [] w3).drew)).mono ?_; rintro e wA ⟨cvA, rvA, rfl, hA, kA⟩; have OA := Lib.hid hA.outS; have kA2 := (Keep.refl [] w3).drew.trans kA; have KA := Lib.hid kA2; have q0A := kA2.cell q0 (by simp); have q1A := kA2.cell q1 (by simp); have q2A := kA2.cell q2 (by simp); clear hA kA kA2)
      | (go_at_call 20; refine (sameOutcome (O3.out.keep0 KA.out) OA.out (by have := HL.out; omega) (by have := HL.out; omega)).mono ?_; rintro e wB ⟨he, kB⟩; rw [show (sameB S'.cells S'.cells && sameB (regsOf S'.ths) (regsOf S'.ths)) = true by simp [sameB]] at he; subst he; have KB := Lib.hid (KA.out.trans kB); have q0B := kB.cell q0A (by simp); have q1B := kB.cell q1A (by simp); have q2B := kB.cell q2A (by simp); clear kB)
      | (go_at_call 44; refine (idle' (F := Har.blocks b bq (ve :: vd :: vs)) (w0 := w1) (pb := pb) (B := B) (S := S') ⟨⟨bq, vs, ve, vd, HP.out.keep0 KB.out⟩, R3.out⟩).mono ?_; rintro e wC ⟨rfl, kC⟩; have KC := Lib.hid (KB.out.trans kC); have q0C := kC.cell q0B (by simp); have q1C := kC.cell q1B (by simp); have q2C := kC.cell q2B (by simp); clear kC)
      | (go_at_call 48; refine ((R1.out.frame0 (K13.out.trans KC.out)).events).mono ?_; rintro e wD ⟨v1, rfl, hv, kD⟩; rw [EV.out] at hv; obtain ⟨a1, c1, rfl, hv1⟩ := evsIn_of hv; have E1 := Lib.hid hv1; have KD := Lib.hid (KC.out.trans kD); have q0D := kD.cell q0C (by simp); have q1D := kD.cell q1C (by simp); have q2D := kD.cell q2C (by simp); clear kD hv hv1)
      | (go_at_call 49; refine (RAt.eventsR (HP.out.keep0 KD.out).at_ HF.out).mono ?_; rintro e wE ⟨v2, rfl, hv, kE⟩; obtain ⟨a2, c2, rfl, hv1⟩ := evsIn_of hv; have E2 := Lib.hid hv1; have E1b := Lib.hid (E1.out.keep kE); have KE := Lib.hid (KD.out.trans kE); have q0E := kE.cell q0D (by simp); have q1E := kE.cell q1D (by simp); have q2E := kE.cell q2D (by simp); clear kE hv hv1)
      | (go_at_call 50; refine (sameEv E1b.out E2.out HF.out).mono ?_; rintro e wF ⟨rfl, m, rfl⟩; have KF := Lib.hid (KE.out.trans (keep_of_drewN ⟨m, rfl⟩)); have q0F := KF.out.cell q0 (by simp); have q1F := KF.out.cell q1 (by simp); have q2F := KF.out.cell q2 (by simp)))
  go_wp2_with fail
  exact bodyPost_ret (results_tmp rfl _ _ _) rfl ⟨rfl, (K1.out.trans K13.out).trans KF.out⟩
end
end Go.Proofs.YtdkdeiofjoccnaaGreat.Ref

/- Lay, the program's and the document's: one contract for both, whatever came in. -/
namespace Go.Proofs.YtdkdeiofjoccnaaGreat.Ref
open Go.RowKit Go.Proofs.YtdkdeiofjoccnaaGreat.Mem Go.Proofs.YtdkdeiofjoccnaaGreat.Har Go.Proofs.YtdkdeiofjoccnaaGreat.Lit Go.Proofs.YtdkdeiofjoccnaaGreat.Ar Go.Proofs.YtdkdeiofjoccnaaGreat.Un
set_option linter.unusedVariables false
set_option maxRecDepth 100000

/-- what Lay made, at rest -/
def Half (w0 : World) (T : List Nat) (w : World) (l : LP) : Option Nat → Prop
  | none => soundB l = false ∧ T = [] ∧ Keep [] w0 w
  | some bb => soundB l = true ∧ ∃ P, Laid l P ∧ Lit.Rest w0 T w bb P (Lit.begun l P).H (Lit.begun l P).s
def HalfR (w0 : World) (T : List Nat) (w : World) (l : LP) : Option Nat → Prop
  | none => soundB l = false ∧ T = [] ∧ Keep [] w0 w
  | some pb => soundB l = true ∧ RestR w0 T w pb (harR l.threads.length l.threads.length) ⟨l.cells, l.threads.map th0⟩
/-- both, or neither -/
def TwoM (w0 : World) (T : List Nat) (w : World) : Option Nat → Option Nat → Prop
  | none, none => T = [] ∧ Keep [] w0 w
  | some bb, some pb => Duo w0 T w bb pb
  | _, _ => False
/-- a pointer that may be nil -/
def ptrO (o : Option Nat) : Value := .pointer (o.map fun b => ⟨b, 0, none⟩)

section
variable {w0 w w' : World} {T U : List Nat} {l : LP} {o o' : Option Nat}
theorem Half.frame (h : Half w0 T w l o) (k : Keep U w w') (hU : ∀ x ∈ U, x ∉ T ∧ w0.heap.size ≤ x) : Half w0 T w' l o := by
  cases o with
  | none => exact ⟨h.1, h.2.1, h.2.2.chain k fun x hx => .inr (hU x hx).2⟩
  | some bb =>
    obtain ⟨h1, P, hP, hr⟩ := h
    exact ⟨h1, P, hP, hr.frame k hU⟩
theorem HalfR.frame (h : HalfR w0 T w l o) (k : Keep U w w') (hU : ∀ x ∈ U, x ∉ T ∧ w0.heap.size ≤ x) : HalfR w0 T w' l o := by
  cases o with
  | none => exact ⟨h.1, h.2.1, h.2.2.chain k fun x hx => .inr (hU x hx).2⟩
  | some bb => exact ⟨h.1, h.2.frame k hU⟩
theorem Half.since {w1 : World} (h : Half w1 T w l o) (k : Keep [] w0 w1) : Half w0 T w l o := by
  cases o with
  | none => exact ⟨h.1, h.2.1, k.trans h.2.2⟩
  | some bb =>
    obtain ⟨h1, P, hP, L, hb, hq, vs, ve, vd, tsv, hB, rfl⟩ := h
    exact ⟨h1, P, hP, Lit.Rest.of hB k⟩
theorem HalfR.since {w1 : World} (h : HalfR w1 T w l o) (k : Keep [] w0 w1) : HalfR w0 T w l o := by
  cases o with
  | none => exact ⟨h.1, h.2.1, k.trans h.2.2⟩
  | some bb =>
    obtain ⟨h1, b, B, bq, vs, ve, vd, c1, c2, c3, c4, c5, c6⟩ := h
    exact ⟨h1, b, B, bq, vs, ve, vd, c1, c2, c3, c4, fun x hx => Nat.le_trans k.size (c5 x hx), k.trans c6⟩
theorem TwoM.lt (h : TwoM w0 T w o o') : ∀ x ∈ T, x < w.heap.size := by
  cases o <;> cases o'
  · rw [h.1]; simp
  · exact h.elim
  · exact h.elim
  · exact Duo.lt h
theorem TwoM.ge (h : TwoM w0 T w o o') : ∀ x ∈ T, w0.heap.size ≤ x := by
  cases o <;> cases o'
  · rw [h.1]; simp
  · exact h.elim
  · exact h.elim
  · exact Duo.ge h
theorem TwoM.kept (h : TwoM w0 T w o o') : Keep [] w0 w := by
  cases o <;> cases o'
  · exact h.2
  · exact h.elim
  · exact h.elim
  · exact Duo.kept h
theorem TwoM.nil (h : TwoM w0 T w o o') : o.isNone = o'.isNone := by
  cases o <;> cases o' <;> first | rfl | exact h.elim
theorem TwoM.frame (h : TwoM w0 T w o o') (k : Keep U w w') (hU : ∀ x ∈ U, x ∉ T ∧ w0.heap.size ≤ x) : TwoM w0 T w' o o' := by
  cases o <;> cases o'
  · exact ⟨h.1, h.2.chain k fun x hx => .inr (hU x hx).2⟩
  · exact h.elim
  · exact h.elim
  · exact Duo.frame h k hU
theorem two_of {T1 T2 : List Nat} (hi : InR l) (h1 : Half w0 T1 w l o) (h2 : HalfR w0 T2 w l o') (hd : ∀ x ∈ T1, x ∉ T2) : TwoM w0 (T1 ++ T2) w o o' := by
  cases o <;> cases o'
  · obtain ⟨-, rfl, k⟩ := h1
    obtain ⟨-, rfl, -⟩ := h2
    exact ⟨rfl, k⟩
  · have a1 := h1.1
    have a2 := h2.1
    rw [a1] at a2
    cases a2
  · have a1 := h1.1
    have a2 := h2.1
    rw [a1] at a2
    cases a2
  · obtain ⟨hs, P, hP, hr⟩ := h1
    have hb := hs
    simp only [soundB, betB, Bool.and_eq_true, decide_eq_true_eq] at hb
    exact ⟨T1, T2, P, _, _, _, _, hr, h2.2, hd, begun_pair hP hs hi, begun_mu hP hs, by rw [hP.n]; omega, rfl⟩

theorem lay_any {cv tv : Value} (hs : Small l) (hl : LitAt w cv tv l) :
    Calls Tryz.prog 7 #[.agg #[cv, tv]] w fun e w' => ∃ o T, e = .returned (.tuple #[ptrO o, .int .i64 (outE l)]) ∧ Half w T w' l o ∧ (∀ x ∈ T, w.heap.size ≤ x ∧ x < w'.heap.size) ∧ Keep [] w w' := by
  by_cases h : soundB l = true
  · refine (lay_ok hs hl h).mono ?_
    rintro e w' ⟨bb, L, hb, hq, vs, ve, vd, P, tsv, rfl, hB, hn⟩
    have hR := Lit.Rest.of hB (Keep.refl [] w)
    refine ⟨some bb, _, by simp [outE, h, ptrO], ⟨h, P, ⟨hn, ⟨L, hB.ars⟩, fun i j hi hj e => ?_, fun i hi => ?_⟩, hR⟩, fun x hx => ⟨hR.ge x hx, hR.lt x hx⟩, hB.keep⟩
    · apply Decidable.byContradiction
      intro hne
      exact hB.stand.apart (.th i) (.th j) (by simpa using hne) P.seats[i].tb (by rw [own_th hi]; simp) (by rw [own_th hj, e]; simp)
    · obtain ⟨h3, -⟩ := hB.stand.th i hi (by rw [hB.stand.lt]; exact hi)
      rw [hB.ars] at h3
      simpa using h3
  · have h' : soundB l = false := by simpa using h
    refine (lay_bad hs hl h').mono ?_
    rintro e w' ⟨rfl, k⟩
    exact ⟨none, [], by simp [outE, h', ptrO], ⟨h', rfl, k⟩, by simp, k⟩
theorem layR_any {cv tv : Value} (hs : Small l) (hl : LitAt w cv tv l) :
    Calls Tryz.prog 9 #[.agg #[cv, tv]] w fun e w' => ∃ o T, e = .returned (.tuple #[ptrO o, .int .i64 (outE l)]) ∧ HalfR w T w' l o ∧ (∀ x ∈ T, w.heap.size ≤ x ∧ x < w'.heap.size) ∧ Keep [] w w' := by
  by_cases h : soundB l = true
  · refine (layR_ok hs hl h).mono ?_
    rintro e w' ⟨bb, b, B, rfl, hB⟩
    obtain ⟨T, hR, hT⟩ := RestR.of hB (Keep.refl [] w)
    exact ⟨some bb, T, by simp [outE, h, ptrO], ⟨h, hR⟩, fun x hx => ⟨hT x hx, hR.lt x hx⟩, hB.kept⟩
  · have h' : soundB l = false := by simpa using h
    refine (layR_bad hs hl h').mono ?_
    rintro e w' ⟨rfl, k⟩
    exact ⟨none, [], by simp [outE, h', ptrO], ⟨h', rfl, k⟩, by simp, k⟩

/-- a turn, whichever -/
theorem bench_any {bb pb : Nat} (h : Duo w0 T w bb pb) (second look : Bool) (s : ByteArray) (hs : s.size ≤ 2097152) :
    Calls Tryz.prog 17 #[.pointer (some ⟨bb, 0, none⟩), .pointer (some ⟨pb, 0, none⟩), .agg #[.bool second, .bool look, .string s]] w fun e w' => e = .returned (.bool true) ∧
      ∃ T', Duo w0 T' w' bb pb ∧ Keep T w w' ∧ ∀ x ∈ T', x ∈ T ∨ w.heap.size ≤ x := by
  cases look with
  | false => exact benchPlay h second s hs
  | true =>
    refine (benchLook h second s).mono ?_
    rintro e w' ⟨rfl, k⟩
    exact ⟨rfl, T, h.frame0 k, k.mono (fun x hx => by simp at hx), fun x hx => .inl hx⟩
end
end Go.Proofs.YtdkdeiofjoccnaaGreat.Ref
