import Derived.Test.YtdkdeiofjoccnaaGreatRunBoth
import Derived.WalkSpells
import Derived.Test.YtdkdeiofjoccnaaGreatCopyLit
/- A bench beside others: Play and what it turns in memory; a bench that stands while others are played. -/
namespace Go.Proofs.YtdkdeiofjoccnaaGreat.Lit
open Go.RowKit Go.Proofs.YtdkdeiofjoccnaaGreat.Mem Go.Proofs.YtdkdeiofjoccnaaGreat.Ar Go.Proofs.YtdkdeiofjoccnaaGreat.Un
set_option linter.unusedVariables false
set_option maxRecDepth 100000

section
variable {w0 w wr w' : World} {bb : Nat} {L : Bk} {slot hb hq : Nat} {vs : List Value} {ve vd : Value} {P : Park} {S : St} {tsv : Value} {H : Har.Har} {T : List Nat}

/-- a bench at rest, since w0: T holds its blocks -/
def Rest (w0 : World) (T : List Nat) (w : World) (bb : Nat) (P : Park) (H : Har.Har) (S : St) : Prop :=
  ∃ L hb hq vs ve vd tsv, Bench w0 w bb L 1 hb hq vs ve vd P S tsv H ∧ T = benchAll bb hb hq vs ve vd P tsv
theorem Rest.of (h : Bench w wr bb L 1 hb hq vs ve vd P S tsv H) (k : Keep [] w0 w) : Rest w0 (benchAll bb hb hq vs ve vd P tsv) wr bb P H S :=
  ⟨L, hb, hq, vs, ve, vd, tsv, ⟨h.hbb, h.ars, h.stand, h.har, h.ok, h.few, h.thr, h.ap1, h.ap2, h.ap3, fun x hx => Nat.le_trans k.size (h.new x hx), k.trans h.keep⟩, rfl⟩
theorem Rest.lt (h : Rest w0 T w bb P H S) : ∀ x ∈ T, x < w.heap.size := by
  obtain ⟨L, hb, hq, vs, ve, vd, tsv, h, rfl⟩ := h
  exact h.lt
theorem Rest.ge (h : Rest w0 T w bb P H S) : ∀ x ∈ T, w0.heap.size ≤ x := by
  obtain ⟨L, hb, hq, vs, ve, vd, tsv, h, rfl⟩ := h
  intro x hx
  simp only [benchAll, List.mem_cons, List.mem_append, Option.mem_toList] at hx
  rcases hx with rfl | hx | hx | hx
  · exact h.new _ (.inr (.inr (.inl rfl)))
  · exact h.new _ (.inr (.inr (.inr hx)))
  · exact h.new _ (.inl hx)
  · exact h.new _ (.inr (.inl hx))
theorem Rest.kept (h : Rest w0 T w bb P H S) : Keep [] w0 w := by
  obtain ⟨L, hb, hq, vs, ve, vd, tsv, h, rfl⟩ := h
  exact h.keep
theorem Rest.frame (h : Rest w0 T w bb P H S) {U : List Nat} (k : Keep U w w') (hU : ∀ x ∈ U, x ∉ T ∧ w0.heap.size ≤ x) : Rest w0 T w' bb P H S := by
  obtain ⟨L, hb, hq, vs, ve, vd, tsv, h, rfl⟩ := h
  exact ⟨L, hb, hq, vs, ve, vd, tsv, h.frame k (fun x hx => (hU x hx).1) (h.keep.chain k fun x hx => .inr (hU x hx).2), rfl⟩
theorem Rest.frame0 (h : Rest w0 T w bb P H S) (k : Keep [] w w') : Rest w0 T w' bb P H S := h.frame k (by simp)

theorem Rest.play (h : Rest w0 T wr bb P H S) (s : ByteArray) (hs : s.size ≤ 2097152) :
    Calls Tryz.prog 60 #[.pointer (some ⟨bb, 0, none⟩), .string s] wr fun e w' => e = .returned (.int .i64 (Har.playN 14 (Har.playC (machs P) (Pick.dec s.data.toList) ⟨H, S, 14, false⟩))) ∧
      ∃ T', Rest w0 T' w' bb P (Har.playC (machs P) (Pick.dec s.data.toList) ⟨H, S, 14, false⟩).H (Har.playC (machs P) (Pick.dec s.data.toList) ⟨H, S, 14, false⟩).s ∧ Keep T wr w' ∧ ∀ x ∈ T', x ∈ T ∨ wr.heap.size ≤ x := by
  obtain ⟨L, hb, hq, vs, ve, vd, tsv, h, hT⟩ := h
  have c3 := (cell_of h.hbb 3).trans rfl
  have HB := Lib.hid h
  have HT := Lib.hid hT
  have hl := Lib.hid (Pick.dec_length s.data.toList)
  have hsz := Lib.hid (Pick.size_data s)
  clear h hT
  go_enter Tryz.func60, Tryz.ntmps60
  go_wp2_with fail
  go_region_held3 (fun w' => w'.cell? ⟨bb, 3, none⟩ = some (.pointer (some ⟨hb, 0, none⟩))) (go_keep)
    (first
      | (go_at_call 86; refine (Pick.decode s _ hs).mono ?_; rintro e w2 ⟨v, rfl, hrow, k2⟩; obtain ⟨a, cap, rfl, hh⟩ := handed_of (T := Har.blocks hb hq (ve :: vd :: vs) ++ (machs P).B) hrow (fun x hx => (dec_small _ x hx).2) (benchT HB.out); have HH := Lib.hid hh; have K2 := Lib.hid k2; have c32 := k2.cell (show wr.drew.cell? ⟨bb, 3, none⟩ = _ from c3) (by simp); clear hh k2 hrow)
      | (go_at_call 35; refine (Har.play (HB.out.since.later ((Keep.refl [] wr).drew.trans K2.out)) 14 (by omega) a cap (Pick.dec s.data.toList) HH.out (by have := hl.out; have := hsz.out; omega)).mono ?_; rintro e w3 ⟨rfl, hq', vs', ve', vd', hS⟩; have HS := Lib.hid hS; have c33 := (cell_of (HB.out.after hS).hbb 3).trans rfl; clear hS))
  go_wp2_with fail
  go_ret
  refine ⟨rfl, _, ⟨L, hb, hq', vs', ve', vd', tsv, HB.out.after HS.out, rfl⟩, ?_, fun x hx => ?_⟩
  · rw [HT.out]
    refine HS.out.keep.mono fun x hx => ?_
    rcases List.mem_append.1 hx with hx | hx
    · simp [benchAll, hx]
    · have hx' : x ∈ P.all := hx
      simp [benchAll, hx']
  · rw [HT.out]
    simp only [benchAll, List.mem_cons, List.mem_append, Option.mem_toList] at hx ⊢
    rcases hx with rfl | hx | hx | hx
    · exact .inl (.inl rfl)
    · exact .inl (.inr (.inl hx))
    · exact .inl (.inr (.inr (.inl hx)))
    · rcases HS.out.own x hx with hx | hx
      · exact .inl (.inr (.inr (.inr hx)))
      · exact .inr hx

theorem Rest.one (h : Rest w0 T w bb P H S) : ∃ A, S.ars = [A] ∧ inUseB A 1 = true := by
  obtain ⟨L, hb, hq, vs, ve, vd, tsv, h, -⟩ := h
  have h1 := h.stand.la
  rw [h.ars] at h1
  match hq : S.ars with
  | [] => rw [hq] at h1; simp at h1
  | _ :: _ :: _ => rw [hq] at h1; simp at h1
  | [A] =>
    refine ⟨A, rfl, ?_⟩
    have h0 := h.stand.ar 0 (by rw [h.ars]; simp) (by rw [hq]; simp)
    simp only [h.ars, hq, List.getElem_cons_zero] at h0
    exact h0.2
theorem Rest.outcome (h : Rest w0 T w bb P H S) (hn : P.seats.length ≤ 16) :
    Calls Tryz.prog 57 #[.pointer (some ⟨bb, 0, none⟩)] w fun e w' => ∃ cv rv A, S.ars = [A] ∧ e = .returned (.tuple #[.agg #[cv, rv], .bool (Har.idleB H)]) ∧ OutRow w' w.heap.size cv rv (slotWords A 1) (regsOf S.ths) ∧ Keep [] w w' := by
  obtain ⟨A, hA, hin⟩ := h.one
  obtain ⟨L, hb, hq, vs, ve, vd, tsv, h, -⟩ := h
  have hf : A.width ≤ maxLen := by
    have h0 := h.stand.ar 0 (by rw [h.ars]; simp) (by rw [hA]; simp)
    simp only [h.ars, hA, List.getElem_cons_zero] at h0
    have := h0.1.fits.w2
    unfold maxLen
    omega
  refine (h.outcome hn ⟨A, hA⟩ (by rw [hA]; exact hin)).mono ?_
  rw [hA, List.getD_cons_zero]
  rintro e w' ⟨g, v, rfl, h5, h6, h7, h8, k⟩
  have hwl : (slotWords A 1).length = A.width := slotWords_length A 1
  refine ⟨_, _, A, rfl, rfl, ⟨?_, h6, fun g' hg' e' => ?_⟩, k⟩
  · rw [hwl]
    refine ⟨by simp [hwl], .inr ⟨g, A.width, _, rfl, h7, h5, Nat.le_refl _, hf, ?_, ?_⟩⟩
    · simp [hwl]
    · rw [Nat.mul_one]
      exact List.take_of_length_le (by simp [hwl])
  · have e2 : g = g' := by simpa [Value.ownBlock] using hg'
    subst e2
    exact h8 e'
theorem Rest.events (h : Rest w0 T w bb P H S) :
    Calls Tryz.prog 48 #[.pointer (some ⟨bb, 0, none⟩)] w fun e w' => ∃ v, e = .returned v ∧ w'.ownsRow w.heap.size 190 4 v H.events.length (Har.evs H.events) ∧ Keep [] w w' := by
  obtain ⟨L, hb, hq, vs, ve, vd, tsv, h, -⟩ := h
  have c3 := (cell_of h.hbb 3).trans rfl
  have HE := Lib.hid (Har.events h.har (by have := h.few; omega))
  clear h
  go_enter Tryz.func48, Tryz.ntmps48
  go_wp2_with fail
  refine HE.out.mono ?_
  clear HE
  rintro e w' ⟨v, rfl, hv, k⟩
  go_wp2_with fail
  go_ret
  exact ⟨_, rfl, hv, k⟩
end
end Go.Proofs.YtdkdeiofjoccnaaGreat.Lit

/- The document's bench beside others: Play and what it turns in memory; Events. -/
namespace Go.Proofs.YtdkdeiofjoccnaaGreat.Ref
open Go.RowKit Go.Proofs.YtdkdeiofjoccnaaGreat.Mem Go.Proofs.YtdkdeiofjoccnaaGreat.Har Go.Proofs.YtdkdeiofjoccnaaGreat.Lit
set_option linter.unusedVariables false
set_option maxRecDepth 100000

section
variable {w0 w w' : World} {F T : List Nat} {b bb pb bq : Nat} {vs : List Value} {ve vd : Value} {B : RB} {H : Har.Har} {S : RP}

theorem RAt.eventsR (h : RAt w b pb bq vs ve vd H) (hn : H.events.length ≤ 1000000000000) :
    Calls Tryz.prog 49 #[.pointer (some ⟨b, 0, none⟩)] w fun e w' => ∃ v, e = .returned v ∧ w'.ownsRow w.heap.size 190 4 v H.events.length (evs H.events) ∧ Keep [] w w' := by
  obtain ⟨i0, hi, hz0, hz1, hz2⟩ := info_parts infoE
  obtain ⟨a, c, rfl⟩ := row_form h.he
  have c3 := fun o => (cell_of (alloc_some o h.hb) 3).trans rfl
  have SE := Lib.hid (sees_of h.he)
  have d1 := Lib.hid (ev_one H.events)
  have d2 := Lib.hid (evs_length H.events)
  have HI := Lib.hid hi
  have HZ := Lib.hid (And.intro hz0 (And.intro hz1 hz2))
  clear h hi hz0 hz1 hz2
  go_enter Tryz.func49, Tryz.ntmps49
  go_wp2_with (at_builtin; refine wpList_copyE (w := w) rfl _ _ 103 rfl 190 i0 _ 4 32 Tryz.underlying103 HI.out HZ.out.1 HZ.out.2.1 HZ.out.2.2 rfl (by decide) rfl rfl a H.events.length c (evs H.events) rfl d2.out SE.out d1.out (by unfold maxLen; omega) (by omega) ?_)
  intro a7 c7 w7 hc7
  have C7 := Lib.hid hc7
  clear hc7
  go_wp2_with fail
  go_ret
  exact ⟨_, rfl, C7.out.own, C7.out.keep⟩

/-- a bench of the document's at rest, since w0: T holds its blocks -/
def RestR (w0 : World) (T : List Nat) (w : World) (bb : Nat) (H : Har.Har) (S : RP) : Prop :=
  ∃ b B bq vs ve vd, w.cell? ⟨bb, 2, none⟩ = some (.pointer (some ⟨b, 0, none⟩)) ∧ RSince w (Har.blocks b bq (ve :: vd :: vs)) w b bb bq vs ve vd B H S ∧ H.events.length + Har.due H ≤ 1000000000000 ∧
    T = bb :: (B.all ++ Har.blocks b bq (ve :: vd :: vs)) ∧ (∀ x ∈ T, w0.heap.size ≤ x) ∧ Keep [] w0 w
theorem RestR.of {w1 : World} (h : BenchR w1 w bb b B H S) (k : Keep [] w0 w1) : ∃ T, RestR w0 T w bb H S ∧ ∀ x ∈ T, w1.heap.size ≤ x := by
  obtain ⟨⟨bq, vs, ve, vd, hr⟩, hf⟩ := h.rs
  have hT : ∀ x ∈ bb :: (B.all ++ Har.blocks b bq (ve :: vd :: vs)), w1.heap.size ≤ x := by
    intro x hx
    simp only [List.mem_cons, List.mem_append] at hx
    rcases hx with rfl | hx | hx
    · exact h.new x (by simp)
    · exact h.new x (List.mem_cons_of_mem _ hx)
    · rcases hr.own x hx with h1 | h1
      · simp at h1
      · exact h1
  exact ⟨_, ⟨b, B, bq, vs, ve, vd, h.c2, hr.rebase, hf, rfl, fun x hx => Nat.le_trans k.size (hT x hx), k.trans h.kept⟩, hT⟩
theorem RestR.lt (h : RestR w0 T w bb H S) : ∀ x ∈ T, x < w.heap.size := by
  obtain ⟨b, B, bq, vs, ve, vd, h1, h2, h3, rfl, h5, h6⟩ := h
  intro x hx
  rw [← List.cons_append] at hx
  rcases List.mem_append.1 hx with hx | hx
  · exact h2.prog.ltAll x hx
  · exact h2.at_.lt x hx
theorem RestR.ge (h : RestR w0 T w bb H S) : ∀ x ∈ T, w0.heap.size ≤ x := by
  obtain ⟨b, B, bq, vs, ve, vd, h1, h2, h3, rfl, h5, h6⟩ := h
  exact h5
theorem RestR.kept (h : RestR w0 T w bb H S) : Keep [] w0 w := by
  obtain ⟨b, B, bq, vs, ve, vd, h1, h2, h3, rfl, h5, h6⟩ := h
  exact h6
theorem RestR.frame (h : RestR w0 T w bb H S) {U : List Nat} (k : Keep U w w') (hU : ∀ x ∈ U, x ∉ T ∧ w0.heap.size ≤ x) : RestR w0 T w' bb H S := by
  obtain ⟨b, B, bq, vs, ve, vd, h1, h2, h3, rfl, h5, h6⟩ := h
  have hn : ∀ x, x ∈ bb :: (B.all ++ Har.blocks b bq (ve :: vd :: vs)) → x ∉ U := fun x hx hm => (hU x hm).1 hx
  refine ⟨b, B, bq, vs, ve, vd, k.cell h1 (hn bb (by simp)), ⟨h2.at_.keep k fun x hx hm => hn x (by simp [hm]) hx, h2.prog.keep k fun x hx => ⟨fun e => hn bb (by simp) (e ▸ hx), fun hm => hn x (by simp [hm]) hx⟩, h2.apart, h2.ok, h2.few, fun x hx => .inl hx, Keep.refl _ _⟩, h3, rfl, h5, h6.chain k fun x hx => .inr (hU x hx).2⟩
theorem RestR.frame0 (h : RestR w0 T w bb H S) (k : Keep [] w w') : RestR w0 T w' bb H S := h.frame k (by simp)

theorem RestR.play (h : RestR w0 T w bb H S) (s : ByteArray) (hs : s.size ≤ 2097152) :
    Calls Tryz.prog 61 #[.pointer (some ⟨bb, 0, none⟩), .string s] w fun e w' => e = .returned (.int .i64 (1099511627776 - ((playC refM (Pick.dec s.data.toList) (begunR H S)).left : Int))) ∧
      ∃ T', RestR w0 T' w' bb (playC refM (Pick.dec s.data.toList) (begunR H S)).H (playC refM (Pick.dec s.data.toList) (begunR H S)).s ∧ Keep T w w' ∧ ∀ x ∈ T', x ∈ T ∨ w.heap.size ≤ x := by
  obtain ⟨b, B, bq, vs, ve, vd, c2, h2, h3, rfl, h5, h6⟩ := h
  have R0 : Hid (RS w (Har.blocks b bq (ve :: vd :: vs)) w b bb B H S) := Lib.hid ⟨⟨bq, vs, ve, vd, h2⟩, h3⟩
  have HA := Lib.hid h2.apart
  have HO := Lib.hid h2.prog.off
  have HG := Lib.hid h5
  have HK := Lib.hid h6
  have hl := Lib.hid (Pick.dec_length s.data.toList)
  have hsz := Lib.hid (Pick.size_data s)
  have HC := Lib.hid c2
  clear h2 h3 h5 h6
  go_enter Tryz.func61, Tryz.ntmps61
  go_wp2_with fail
  go_region_held3 (fun w' => w'.cell? ⟨bb, 2, none⟩ = some (.pointer (some ⟨b, 0, none⟩))) (go_keep)
    (first
      | (go_at_call 87; refine (Pick.refDecode s _ hs).mono ?_; rintro e w2 ⟨v, rfl, hrow, k2⟩; have hk2 := ((Keep.refl [] w).drew.trans k2); obtain ⟨F1, R1, hn1, hlt1, hF1, back⟩ := R0.out.rebase hk2; obtain ⟨a, cap, rfl, hh⟩ := handed_of (T := F1 ++ B.mem) hrow (fun x hx => (dec_small _ x hx).2) (fun x hx => hlt1 x hx); have HH := Lib.hid hh; have RR := Lib.hid (And.intro R1 (And.intro hn1 back)); have c22 := k2.cell (show w.drew.cell? ⟨bb, 2, none⟩ = _ from c2) (by simp); clear hh k2 hk2 hrow R1 hn1 back hlt1 hF1)
      | (go_at_call 36; refine (play (c := begunR H S) RR.out.1 rfl (by show 1099511627776 ≤ _; omega) a cap (Pick.dec s.data.toList) HH.out (by have := hl.out; have := hsz.out; omega)).mono ?_; rintro e w3 ⟨rfl, hS⟩; have B3 := Lib.hid (RR.out.2.2 _ _ _ hS); have c33 := B3.out.kept.cell HC.out (by
          intro hm
          rcases List.mem_append.1 hm with hm | hm
          · exact HA.out bb (by simp) hm
          · exact HO.out.1 hm); clear hS))
  have C33 := Lib.hid c33
  go_wp2_with fail
  go_ret
  obtain ⟨⟨bq', vs', ve', vd', hr⟩, hf⟩ := B3.out
  have hk := hr.keep
  have hlt := R0.out
  refine ⟨rfl, _, ⟨b, B, bq', vs', ve', vd', C33.out, hr.rebase, hf, rfl, fun x hx => ?_, ?_⟩, ?_, fun x hx => ?_⟩
  · simp only [List.mem_cons, List.mem_append] at hx
    rcases hx with rfl | hx | hx
    · exact HG.out x (by simp)
    · exact HG.out x (by simp [hx])
    · rcases hr.own x hx with h1 | h1
      · exact HG.out x (by simp [h1])
      · exact Nat.le_trans HK.out.size h1
  · exact HK.out.chain hk fun x hx => .inr (HG.out x (by
      rcases List.mem_append.1 hx with hx | hx
      · simp [hx]
      · simp [RB.all, hx]))
  · refine hk.mono fun x hx => ?_
    rcases List.mem_append.1 hx with hx | hx
    · simp [hx]
    · simp [RB.all, hx]
  · simp only [List.mem_cons, List.mem_append] at hx ⊢
    rcases hx with rfl | hx | hx
    · exact .inl (.inl rfl)
    · exact .inl (.inr (.inl hx))
    · rcases hr.own x hx with h1 | h1
      · exact .inl (.inr (.inr h1))
      · exact .inr h1
end
end Go.Proofs.YtdkdeiofjoccnaaGreat.Ref
