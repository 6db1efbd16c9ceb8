/- A bench beside others: Play and what it turns in memory; a bench that stands while others are played. -/
import Derived.Test.YtdkdeiofjoccnaaGreatRunBoth
import Derived.WalkSpells
namespace Go.Proofs.YtdkdeiofjoccnaaGreat.Lit
open Go.RowKit Go.Proofs.YtdkdeiofjoccnaaGreat.Mem Go.Proofs.YtdkdeiofjoccnaaGreat.Ar Go.Proofs.YtdkdeiofjoccnaaGreat.Un
set_option linter.unusedVariables false
set_option maxRecDepth 100000

section
variable {w0 w wr w' : World} {bb : Nat} {L : Bk} {slot hb hq : Nat} {vs : List Value} {ve vd : Value} {P : Park} {S : St} {tsv : Value} {H : Har.Har} {T : List Nat}

/-- a bench at rest, since w0: T holds its blocks -/
def Rest (w0 : World) (T : List Nat) (w : World) (bb : Nat) (P : Park) (H : Har.Har) (S : St) : Prop :=
  ∃ L hb hq vs ve vd tsv, Bench w0 w bb L 1 hb hq vs ve vd P S tsv H ∧ T = benchAll bb hb hq vs ve vd P tsv
theorem Rest.of (h : Bench w wr bb L 1 hb hq vs ve vd P S tsv H) (k : Keep [] w0 w) : Rest w0 (benchAll bb hb hq vs ve vd P tsv) wr bb P H S :=
  ⟨L, hb, hq, vs, ve, vd, tsv, ⟨h.hbb, h.ars, h.stand, h.har, h.ok, h.few, h.thr, h.ap1, h.ap2, h.ap3, fun x hx => Nat.le_trans k.size (h.new x hx), k.trans h.keep⟩, rfl⟩
theorem Rest.lt (h : Rest w0 T w bb P H S) : ∀ x ∈ T, x < w.heap.size := by
  obtain ⟨L, hb, hq, vs, ve, vd, tsv, h, rfl⟩ := h
  exact h.lt
theorem Rest.ge (h : Rest w0 T w bb P H S) : ∀ x ∈ T, w0.heap.size ≤ x := by
  obtain ⟨L, hb, hq, vs, ve, vd, tsv, h, rfl⟩ := h
  intro x hx
  simp only [benchAll, List.mem_cons, List.mem_append, Option.mem_toList] at hx
  rcases hx with rfl | hx | hx | hx
  · exact h.new _ (.inr (.inr (.inl rfl)))
  · exact h.new _ (.inr (.inr (.inr hx)))
  · exact h.new _ (.inl hx)
  · exact h.new _ (.inr (.inl hx))
theorem Rest.kept (h : Rest w0 T w bb P H S) : Keep [] w0 w := by
  obtain ⟨L, hb, hq, vs, ve, vd, tsv, h, rfl⟩ := h
  exact h.keep
theorem Rest.frame (h : Rest w0 T w bb P H S) {U : List Nat} (k : Keep U w w') (hU : ∀ x ∈ U, x ∉ T ∧ w0.heap.size ≤ x) : Rest w0 T w' bb P H S := by
  obtain ⟨L, hb, hq, vs, ve, vd, tsv, h, rfl⟩ := h
  exact ⟨L, hb, hq, vs, ve, vd, tsv, h.frame k (fun x hx => (hU x hx).1) (h.keep.chain k fun x hx => .inr (hU x hx).2), rfl⟩
theorem Rest.frame0 (h : Rest w0 T w bb P H S) (k : Keep [] w w') : Rest w0 T w' bb P H S := h.frame k (by simp)

theorem Rest.play (h : Rest w0 T wr bb P H S) (s : ByteArray) (hs : s.size ≤ 2097152) :
    Calls Tryz.prog 60 #[.pointer (some ⟨bb, 0, none⟩), .string s] wr fun e w' => e = .returned (.int .i64 (Har.playN 14 (Har.playC (machs P) (Pick.dec s.data.toList) ⟨H, S, 14, false⟩))) ∧
      ∃ T', Rest w0 T' w' bb P (Har.playC (machs P) (Pick.dec s.data.toList) ⟨H, S, 14, false⟩).H (Har.playC (machs P) (Pick.dec s.data.toList) ⟨H, S, 14, false⟩).s ∧ Keep T wr w' ∧ ∀ x ∈ T', x ∈ T ∨ wr.heap.size ≤ x := by
  obtain ⟨L, hb, hq, vs, ve, vd, tsv, h, hT⟩ := h
  have c3 := (cell_of h.hbb 3).trans rfl
  have HB := Lib.hid h
  have HT := Lib.hid hT
  have hl := Lib.hid (Pick.dec_length s.data.toList)
  have hsz := Lib.hid (Pick.size_data s)
  clear h hT
  go_enter Tryz.func60, Tryz.ntmps60
  go_wp2_with fail
  go_region_held3 (fun w' => w'.cell? ⟨bb, 3, none⟩ = some (.pointer (some ⟨hb, 0, none⟩))) (go_keep)
    (first
      | (go_at_call 86; refine (Pick.decode s _ hs).mono ?_; rintro e w2 ⟨v, rfl, hrow, k2⟩; obtain ⟨a, cap, rfl, hh⟩ := handed_of (T := Har.blocks hb hq (ve :: vd :: vs) ++ (machs P).B) hrow (fun x hx => (dec_small _ x hx).2) (benchT HB.out); have HH := Lib.hid hh; have K2 := Lib.hid k2; have c32 := k2.cell (show wr.drew.cell? ⟨bb, 3, none⟩ = _ from c3) (by simp); clear hh k2 hrow)
      | (go_at_call 35; refine (Har.play (HB.out.since.later ((Keep.refl [] wr).drew.trans K2.out)) 14 (by omega) a cap (Pick.dec s.data.toList) HH.out (by have := hl.out; have := hsz.out; omega)).mono ?_; rintro e w3 ⟨rfl, hq', vs', ve', vd', hS⟩; have HS := Lib.hid hS; have c33 := (cell_of (HB.out.after hS).hbb 3).trans rfl; clear hS))
  go_wp2_with fail
  go_ret
  refine ⟨rfl, _, ⟨L, hb, hq', vs', ve', vd', tsv, HB.out.after HS.out, rfl⟩, ?_, fun x hx => ?_⟩
  · rw [HT.out]
    refine HS.out.keep.mono fun x hx => ?_
    rcases List.mem_append.1 hx with hx | hx
    · simp [benchAll, hx]
    · have hx' : x ∈ P.all := hx
      simp [benchAll, hx']
  · rw [HT.out]
    simp only [benchAll, List.mem_cons, List.mem_append, Option.mem_toList] at hx ⊢
    rcases hx with rfl | hx | hx | hx
    · exact .inl (.inl rfl)
    · exact .inl (.inr (.inl hx))
    · exact .inl (.inr (.inr (.inl hx)))
    · rcases HS.out.own x hx with hx | hx
      · exact .inl (.inr (.inr (.inr hx)))
      · exact .inr hx

theorem Rest.one (h : Rest w0 T w bb P H S) : ∃ A, S.ars = [A] ∧ inUseB A 1 = true := by
  obtain ⟨L, hb, hq, vs, ve, vd, tsv, h, -⟩ := h
  have h1 := h.stand.la
  rw [h.ars] at h1
  match hq : S.ars with
  | [] => rw [hq] at h1; simp at h1
  | _ :: _ :: _ => rw [hq] at h1; simp at h1
  | [A] =>
    refine ⟨A, rfl, ?_⟩
    have h0 := h.stand.ar 0 (by rw [h.ars]; simp) (by rw [hq]; simp)
    simp only [h.ars, hq, List.getElem_cons_zero] at h0
    exact h0.2
theorem Rest.outcome (h : Rest w0 T w bb P H S) (hn : P.seats.length ≤ 16) :
    Calls Tryz.prog 57 #[.pointer (some ⟨bb, 0, none⟩)] w fun e w' => ∃ cv rv A, S.ars = [A] ∧ e = .returned (.tuple #[.agg #[cv, rv], .bool (Har.idleB H)]) ∧ OutRow w' w.heap.size cv rv (slotWords A 1) (regsOf S.ths) ∧ Keep [] w w' := by
  obtain ⟨A, hA, hin⟩ := h.one
  obtain ⟨L, hb, hq, vs, ve, vd, tsv, h, -⟩ := h
  have hf : A.width ≤ maxLen := by
    have h0 := h.stand.ar 0 (by rw [h.ars]; simp) (by rw [hA]; simp)
    simp only [h.ars, hA, List.getElem_cons_zero] at h0
    have := h0.1.fits.w2
    unfold maxLen
    omega
  refine (h.outcome hn ⟨A, hA⟩ (by rw [hA]; exact hin)).mono ?_
  rw [hA, List.getD_cons_zero]
  rintro e w' ⟨g, v, rfl, h5, h6, h7, h8, k⟩
  have hwl : (slotWords A 1).length = A.width := slotWords_length A 1
  refine ⟨_, _, A, rfl, rfl, ⟨?_, h6, fun g' hg' e' => ?_⟩, k⟩
  · rw [hwl]
    refine ⟨by simp [hwl], .inr ⟨g, A.width, _, rfl, h7, h5, Nat.le_refl _, hf, ?_, ?_⟩⟩
    · simp [hwl]
    · rw [Nat.mul_one]
      exact List.take_of_length_le (by simp [hwl])
  · have e2 : g = g' := by simpa [Value.ownBlock] using hg'
    subst e2
    exact h8 e'
theorem Rest.events (h : Rest w0 T w bb P H S) :
    Calls Tryz.prog 48 #[.pointer (some ⟨bb, 0, none⟩)] w fun e w' => ∃ v, e = .returned v ∧ w'.ownsRow w.heap.size 190 4 v H.events.length (Har.evs H.events) ∧ Keep [] w w' := by
  obtain ⟨L, hb, hq, vs, ve, vd, tsv, h, -⟩ := h
  have c3 := (cell_of h.hbb 3).trans rfl
  have HE := Lib.hid (Har.events h.har (by have := h.few; omega))
  clear h
  go_enter Tryz.func48, Tryz.ntmps48
  go_wp2_with fail
  refine HE.out.mono ?_
  clear HE
  rintro e w' ⟨v, rfl, hv, k⟩
  go_wp2_with fail
  go_ret
  exact ⟨_, rfl, hv, k⟩
end
end Go.Proofs.YtdkdeiofjoccnaaGreat.Lit
