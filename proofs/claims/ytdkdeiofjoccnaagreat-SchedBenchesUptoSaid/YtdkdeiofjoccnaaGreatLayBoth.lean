/- Lay, the program's and the document's: one contract for both, whatever came in. -/
import Derived.Test.YtdkdeiofjoccnaaGreatLook
namespace Go.Proofs.YtdkdeiofjoccnaaGreat.Ref
open Go.RowKit Go.Proofs.YtdkdeiofjoccnaaGreat.Mem Go.Proofs.YtdkdeiofjoccnaaGreat.Har Go.Proofs.YtdkdeiofjoccnaaGreat.Lit Go.Proofs.YtdkdeiofjoccnaaGreat.Ar Go.Proofs.YtdkdeiofjoccnaaGreat.Un
set_option linter.unusedVariables false
set_option maxRecDepth 100000

/-- what Lay made, at rest -/
def Half (w0 : World) (T : List Nat) (w : World) (l : LP) : Option Nat → Prop
  | none => soundB l = false ∧ T = [] ∧ Keep [] w0 w
  | some bb => soundB l = true ∧ ∃ P, Laid l P ∧ Lit.Rest w0 T w bb P (Lit.begun l P).H (Lit.begun l P).s
def HalfR (w0 : World) (T : List Nat) (w : World) (l : LP) : Option Nat → Prop
  | none => soundB l = false ∧ T = [] ∧ Keep [] w0 w
  | some pb => soundB l = true ∧ RestR w0 T w pb (harR l.threads.length l.threads.length) ⟨l.cells, l.threads.map th0⟩
/-- both, or neither -/
def TwoM (w0 : World) (T : List Nat) (w : World) : Option Nat → Option Nat → Prop
  | none, none => T = [] ∧ Keep [] w0 w
  | some bb, some pb => Duo w0 T w bb pb
  | _, _ => False
/-- a pointer that may be nil -/
def ptrO (o : Option Nat) : Value := .pointer (o.map fun b => ⟨b, 0, none⟩)

section
variable {w0 w w' : World} {T U : List Nat} {l : LP} {o o' : Option Nat}
theorem Half.frame (h : Half w0 T w l o) (k : Keep U w w') (hU : ∀ x ∈ U, x ∉ T ∧ w0.heap.size ≤ x) : Half w0 T w' l o := by
  cases o with
  | none => exact ⟨h.1, h.2.1, h.2.2.chain k fun x hx => .inr (hU x hx).2⟩
  | some bb =>
    obtain ⟨h1, P, hP, hr⟩ := h
    exact ⟨h1, P, hP, hr.frame k hU⟩
theorem HalfR.frame (h : HalfR w0 T w l o) (k : Keep U w w') (hU : ∀ x ∈ U, x ∉ T ∧ w0.heap.size ≤ x) : HalfR w0 T w' l o := by
  cases o with
  | none => exact ⟨h.1, h.2.1, h.2.2.chain k fun x hx => .inr (hU x hx).2⟩
  | some bb => exact ⟨h.1, h.2.frame k hU⟩
theorem Half.since {w1 : World} (h : Half w1 T w l o) (k : Keep [] w0 w1) : Half w0 T w l o := by
  cases o with
  | none => exact ⟨h.1, h.2.1, k.trans h.2.2⟩
  | some bb =>
    obtain ⟨h1, P, hP, L, hb, hq, vs, ve, vd, tsv, hB, rfl⟩ := h
    exact ⟨h1, P, hP, Lit.Rest.of hB k⟩
theorem HalfR.since {w1 : World} (h : HalfR w1 T w l o) (k : Keep [] w0 w1) : HalfR w0 T w l o := by
  cases o with
  | none => exact ⟨h.1, h.2.1, k.trans h.2.2⟩
  | some bb =>
    obtain ⟨h1, b, B, bq, vs, ve, vd, c1, c2, c3, c4, c5, c6⟩ := h
    exact ⟨h1, b, B, bq, vs, ve, vd, c1, c2, c3, c4, fun x hx => Nat.le_trans k.size (c5 x hx), k.trans c6⟩
theorem TwoM.lt (h : TwoM w0 T w o o') : ∀ x ∈ T, x < w.heap.size := by
  cases o <;> cases o'
  · rw [h.1]; simp
  · exact h.elim
  · exact h.elim
  · exact Duo.lt h
theorem TwoM.ge (h : TwoM w0 T w o o') : ∀ x ∈ T, w0.heap.size ≤ x := by
  cases o <;> cases o'
  · rw [h.1]; simp
  · exact h.elim
  · exact h.elim
  · exact Duo.ge h
theorem TwoM.kept (h : TwoM w0 T w o o') : Keep [] w0 w := by
  cases o <;> cases o'
  · exact h.2
  · exact h.elim
  · exact h.elim
  · exact Duo.kept h
theorem TwoM.nil (h : TwoM w0 T w o o') : o.isNone = o'.isNone := by
  cases o <;> cases o' <;> first | rfl | exact h.elim
theorem TwoM.frame (h : TwoM w0 T w o o') (k : Keep U w w') (hU : ∀ x ∈ U, x ∉ T ∧ w0.heap.size ≤ x) : TwoM w0 T w' o o' := by
  cases o <;> cases o'
  · exact ⟨h.1, h.2.chain k fun x hx => .inr (hU x hx).2⟩
  · exact h.elim
  · exact h.elim
  · exact Duo.frame h k hU
theorem two_of {T1 T2 : List Nat} (hi : InR l) (h1 : Half w0 T1 w l o) (h2 : HalfR w0 T2 w l o') (hd : ∀ x ∈ T1, x ∉ T2) : TwoM w0 (T1 ++ T2) w o o' := by
  cases o <;> cases o'
  · obtain ⟨-, rfl, k⟩ := h1
    obtain ⟨-, rfl, -⟩ := h2
    exact ⟨rfl, k⟩
  · have a1 := h1.1
    have a2 := h2.1
    rw [a1] at a2
    cases a2
  · have a1 := h1.1
    have a2 := h2.1
    rw [a1] at a2
    cases a2
  · obtain ⟨hs, P, hP, hr⟩ := h1
    have hb := hs
    simp only [soundB, betB, Bool.and_eq_true, decide_eq_true_eq] at hb
    exact ⟨T1, T2, P, _, _, _, _, hr, h2.2, hd, begun_pair hP hs hi, begun_mu hP hs, by rw [hP.n]; omega, rfl⟩

theorem lay_any {cv tv : Value} (hs : Small l) (hl : LitAt w cv tv l) :
    Calls Tryz.prog 7 #[.agg #[cv, tv]] w fun e w' => ∃ o T, e = .returned (.tuple #[ptrO o, .int .i64 (outE l)]) ∧ Half w T w' l o ∧ (∀ x ∈ T, w.heap.size ≤ x ∧ x < w'.heap.size) ∧ Keep [] w w' := by
  by_cases h : soundB l = true
  · refine (lay_ok hs hl h).mono ?_
    rintro e w' ⟨bb, L, hb, hq, vs, ve, vd, P, tsv, rfl, hB, hn⟩
    have hR := Lit.Rest.of hB (Keep.refl [] w)
    refine ⟨some bb, _, by simp [outE, h, ptrO], ⟨h, P, ⟨hn, ⟨L, hB.ars⟩, fun i j hi hj e => ?_, fun i hi => ?_⟩, hR⟩, fun x hx => ⟨hR.ge x hx, hR.lt x hx⟩, hB.keep⟩
    · apply Decidable.byContradiction
      intro hne
      exact hB.stand.apart (.th i) (.th j) (by simpa using hne) P.seats[i].tb (by rw [own_th hi]; simp) (by rw [own_th hj, e]; simp)
    · obtain ⟨h3, -⟩ := hB.stand.th i hi (by rw [hB.stand.lt]; exact hi)
      rw [hB.ars] at h3
      simpa using h3
  · have h' : soundB l = false := by simpa using h
    refine (lay_bad hs hl h').mono ?_
    rintro e w' ⟨rfl, k⟩
    exact ⟨none, [], by simp [outE, h', ptrO], ⟨h', rfl, k⟩, by simp, k⟩
theorem layR_any {cv tv : Value} (hs : Small l) (hl : LitAt w cv tv l) :
    Calls Tryz.prog 9 #[.agg #[cv, tv]] w fun e w' => ∃ o T, e = .returned (.tuple #[ptrO o, .int .i64 (outE l)]) ∧ HalfR w T w' l o ∧ (∀ x ∈ T, w.heap.size ≤ x ∧ x < w'.heap.size) ∧ Keep [] w w' := by
  by_cases h : soundB l = true
  · refine (layR_ok hs hl h).mono ?_
    rintro e w' ⟨bb, b, B, rfl, hB⟩
    obtain ⟨T, hR, hT⟩ := RestR.of hB (Keep.refl [] w)
    exact ⟨some bb, T, by simp [outE, h, ptrO], ⟨h, hR⟩, fun x hx => ⟨hT x hx, hR.lt x hx⟩, hB.kept⟩
  · have h' : soundB l = false := by simpa using h
    refine (layR_bad hs hl h').mono ?_
    rintro e w' ⟨rfl, k⟩
    exact ⟨none, [], by simp [outE, h', ptrO], ⟨h', rfl, k⟩, by simp, k⟩

/-- a turn, whichever -/
theorem bench_any {bb pb : Nat} (h : Duo w0 T w bb pb) (second look : Bool) (s : ByteArray) (hs : s.size ≤ 2097152) :
    Calls Tryz.prog 17 #[.pointer (some ⟨bb, 0, none⟩), .pointer (some ⟨pb, 0, none⟩), .agg #[.bool second, .bool look, .string s]] w fun e w' => e = .returned (.bool true) ∧
      ∃ T', Duo w0 T' w' bb pb ∧ Keep T w w' ∧ ∀ x ∈ T', x ∈ T ∨ w.heap.size ≤ x := by
  cases look with
  | false => exact benchPlay h second s hs
  | true =>
    refine (benchLook h second s).mono ?_
    rintro e w' ⟨rfl, k⟩
    exact ⟨rfl, T, h.frame0 k, k.mono (fun x hx => by simp at hx), fun x hx => .inl hx⟩
end
end Go.Proofs.YtdkdeiofjoccnaaGreat.Ref
