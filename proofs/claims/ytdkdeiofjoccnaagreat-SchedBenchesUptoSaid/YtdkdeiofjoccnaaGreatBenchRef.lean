/- The document's bench beside others: Play and what it turns in memory; Events. -/
import Derived.Test.YtdkdeiofjoccnaaGreatBenchTwo
import Derived.Test.YtdkdeiofjoccnaaGreatCopyLit
namespace Go.Proofs.YtdkdeiofjoccnaaGreat.Ref
open Go.RowKit Go.Proofs.YtdkdeiofjoccnaaGreat.Mem Go.Proofs.YtdkdeiofjoccnaaGreat.Har Go.Proofs.YtdkdeiofjoccnaaGreat.Lit
set_option linter.unusedVariables false
set_option maxRecDepth 100000

section
variable {w0 w w' : World} {F T : List Nat} {b bb pb bq : Nat} {vs : List Value} {ve vd : Value} {B : RB} {H : Har.Har} {S : RP}

theorem RAt.eventsR (h : RAt w b pb bq vs ve vd H) (hn : H.events.length ≤ 1000000000000) :
    Calls Tryz.prog 49 #[.pointer (some ⟨b, 0, none⟩)] w fun e w' => ∃ v, e = .returned v ∧ w'.ownsRow w.heap.size 190 4 v H.events.length (evs H.events) ∧ Keep [] w w' := by
  obtain ⟨i0, hi, hz0, hz1, hz2⟩ := info_parts infoE
  obtain ⟨a, c, rfl⟩ := row_form h.he
  have c3 := fun o => (cell_of (alloc_some o h.hb) 3).trans rfl
  have SE := Lib.hid (sees_of h.he)
  have d1 := Lib.hid (ev_one H.events)
  have d2 := Lib.hid (evs_length H.events)
  have HI := Lib.hid hi
  have HZ := Lib.hid (And.intro hz0 (And.intro hz1 hz2))
  clear h hi hz0 hz1 hz2
  go_enter Tryz.func49, Tryz.ntmps49
  go_wp2_with (at_builtin; refine wpList_copyE (w := w) rfl _ _ 103 rfl 190 i0 _ 4 32 Tryz.underlying103 HI.out HZ.out.1 HZ.out.2.1 HZ.out.2.2 rfl (by decide) rfl rfl a H.events.length c (evs H.events) rfl d2.out SE.out d1.out (by unfold maxLen; omega) (by omega) ?_)
  intro a7 c7 w7 hc7
  have C7 := Lib.hid hc7
  clear hc7
  go_wp2_with fail
  go_ret
  exact ⟨_, rfl, C7.out.own, C7.out.keep⟩

/-- a bench of the document's at rest, since w0: T holds its blocks -/
def RestR (w0 : World) (T : List Nat) (w : World) (bb : Nat) (H : Har.Har) (S : RP) : Prop :=
  ∃ b B bq vs ve vd, w.cell? ⟨bb, 2, none⟩ = some (.pointer (some ⟨b, 0, none⟩)) ∧ RSince w (Har.blocks b bq (ve :: vd :: vs)) w b bb bq vs ve vd B H S ∧ H.events.length + Har.due H ≤ 1000000000000 ∧
    T = bb :: (B.all ++ Har.blocks b bq (ve :: vd :: vs)) ∧ (∀ x ∈ T, w0.heap.size ≤ x) ∧ Keep [] w0 w
theorem RestR.of {w1 : World} (h : BenchR w1 w bb b B H S) (k : Keep [] w0 w1) : ∃ T, RestR w0 T w bb H S ∧ ∀ x ∈ T, w1.heap.size ≤ x := by
  obtain ⟨⟨bq, vs, ve, vd, hr⟩, hf⟩ := h.rs
  have hT : ∀ x ∈ bb :: (B.all ++ Har.blocks b bq (ve :: vd :: vs)), w1.heap.size ≤ x := by
    intro x hx
    simp only [List.mem_cons, List.mem_append] at hx
    rcases hx with rfl | hx | hx
    · exact h.new x (by simp)
    · exact h.new x (List.mem_cons_of_mem _ hx)
    · rcases hr.own x hx with h1 | h1
      · simp at h1
      · exact h1
  exact ⟨_, ⟨b, B, bq, vs, ve, vd, h.c2, hr.rebase, hf, rfl, fun x hx => Nat.le_trans k.size (hT x hx), k.trans h.kept⟩, hT⟩
theorem RestR.lt (h : RestR w0 T w bb H S) : ∀ x ∈ T, x < w.heap.size := by
  obtain ⟨b, B, bq, vs, ve, vd, h1, h2, h3, rfl, h5, h6⟩ := h
  intro x hx
  rw [← List.cons_append] at hx
  rcases List.mem_append.1 hx with hx | hx
  · exact h2.prog.ltAll x hx
  · exact h2.at_.lt x hx
theorem RestR.ge (h : RestR w0 T w bb H S) : ∀ x ∈ T, w0.heap.size ≤ x := by
  obtain ⟨b, B, bq, vs, ve, vd, h1, h2, h3, rfl, h5, h6⟩ := h
  exact h5
theorem RestR.kept (h : RestR w0 T w bb H S) : Keep [] w0 w := by
  obtain ⟨b, B, bq, vs, ve, vd, h1, h2, h3, rfl, h5, h6⟩ := h
  exact h6
theorem RestR.frame (h : RestR w0 T w bb H S) {U : List Nat} (k : Keep U w w') (hU : ∀ x ∈ U, x ∉ T ∧ w0.heap.size ≤ x) : RestR w0 T w' bb H S := by
  obtain ⟨b, B, bq, vs, ve, vd, h1, h2, h3, rfl, h5, h6⟩ := h
  have hn : ∀ x, x ∈ bb :: (B.all ++ Har.blocks b bq (ve :: vd :: vs)) → x ∉ U := fun x hx hm => (hU x hm).1 hx
  refine ⟨b, B, bq, vs, ve, vd, k.cell h1 (hn bb (by simp)), ⟨h2.at_.keep k fun x hx hm => hn x (by simp [hm]) hx, h2.prog.keep k fun x hx => ⟨fun e => hn bb (by simp) (e ▸ hx), fun hm => hn x (by simp [hm]) hx⟩, h2.apart, h2.ok, h2.few, fun x hx => .inl hx, Keep.refl _ _⟩, h3, rfl, h5, h6.chain k fun x hx => .inr (hU x hx).2⟩
theorem RestR.frame0 (h : RestR w0 T w bb H S) (k : Keep [] w w') : RestR w0 T w' bb H S := h.frame k (by simp)

theorem RestR.play (h : RestR w0 T w bb H S) (s : ByteArray) (hs : s.size ≤ 2097152) :
    Calls Tryz.prog 61 #[.pointer (some ⟨bb, 0, none⟩), .string s] w fun e w' => e = .returned (.int .i64 (1099511627776 - ((playC refM (Pick.dec s.data.toList) (begunR H S)).left : Int))) ∧
      ∃ T', RestR w0 T' w' bb (playC refM (Pick.dec s.data.toList) (begunR H S)).H (playC refM (Pick.dec s.data.toList) (begunR H S)).s ∧ Keep T w w' ∧ ∀ x ∈ T', x ∈ T ∨ w.heap.size ≤ x := by
  obtain ⟨b, B, bq, vs, ve, vd, c2, h2, h3, rfl, h5, h6⟩ := h
  have R0 : Hid (RS w (Har.blocks b bq (ve :: vd :: vs)) w b bb B H S) := Lib.hid ⟨⟨bq, vs, ve, vd, h2⟩, h3⟩
  have HA := Lib.hid h2.apart
  have HO := Lib.hid h2.prog.off
  have HG := Lib.hid h5
  have HK := Lib.hid h6
  have hl := Lib.hid (Pick.dec_length s.data.toList)
  have hsz := Lib.hid (Pick.size_data s)
  have HC := Lib.hid c2
  clear h2 h3 h5 h6
  go_enter Tryz.func61, Tryz.ntmps61
  go_wp2_with fail
  go_region_held3 (fun w' => w'.cell? ⟨bb, 2, none⟩ = some (.pointer (some ⟨b, 0, none⟩))) (go_keep)
    (first
      | (go_at_call 87; refine (Pick.refDecode s _ hs).mono ?_; rintro e w2 ⟨v, rfl, hrow, k2⟩; have hk2 := ((Keep.refl [] w).drew.trans k2); obtain ⟨F1, R1, hn1, hlt1, hF1, back⟩ := R0.out.rebase hk2; obtain ⟨a, cap, rfl, hh⟩ := handed_of (T := F1 ++ B.mem) hrow (fun x hx => (dec_small _ x hx).2) (fun x hx => hlt1 x hx); have HH := Lib.hid hh; have RR := Lib.hid (And.intro R1 (And.intro hn1 back)); have c22 := k2.cell (show w.drew.cell? ⟨bb, 2, none⟩ = _ from c2) (by simp); clear hh k2 hk2 hrow R1 hn1 back hlt1 hF1)
      | (go_at_call 36; refine (play (c := begunR H S) RR.out.1 rfl (by show 1099511627776 ≤ _; omega) a cap (Pick.dec s.data.toList) HH.out (by have := hl.out; have := hsz.out; omega)).mono ?_; rintro e w3 ⟨rfl, hS⟩; have B3 := Lib.hid (RR.out.2.2 _ _ _ hS); have c33 := B3.out.kept.cell HC.out (by
          intro hm
          rcases List.mem_append.1 hm with hm | hm
          · exact HA.out bb (by simp) hm
          · exact HO.out.1 hm); clear hS))
  have C33 := Lib.hid c33
  go_wp2_with fail
  go_ret
  obtain ⟨⟨bq', vs', ve', vd', hr⟩, hf⟩ := B3.out
  have hk := hr.keep
  have hlt := R0.out
  refine ⟨rfl, _, ⟨b, B, bq', vs', ve', vd', C33.out, hr.rebase, hf, rfl, fun x hx => ?_, ?_⟩, ?_, fun x hx => ?_⟩
  · simp only [List.mem_cons, List.mem_append] at hx
    rcases hx with rfl | hx | hx
    · exact HG.out x (by simp)
    · exact HG.out x (by simp [hx])
    · rcases hr.own x hx with h1 | h1
      · exact HG.out x (by simp [h1])
      · exact Nat.le_trans HK.out.size h1
  · exact HK.out.chain hk fun x hx => .inr (HG.out x (by
      rcases List.mem_append.1 hx with hx | hx
      · simp [hx]
      · simp [RB.all, hx]))
  · refine hk.mono fun x hx => ?_
    rcases List.mem_append.1 hx with hx | hx
    · simp [hx]
    · simp [RB.all, hx]
  · simp only [List.mem_cons, List.mem_append] at hx ⊢
    rcases hx with rfl | hx | hx
    · exact .inl (.inl rfl)
    · exact .inl (.inr (.inl hx))
    · rcases hr.own x hx with h1 | h1
      · exact .inl (.inr (.inr h1))
      · exact .inr h1
end
end Go.Proofs.YtdkdeiofjoccnaaGreat.Ref
