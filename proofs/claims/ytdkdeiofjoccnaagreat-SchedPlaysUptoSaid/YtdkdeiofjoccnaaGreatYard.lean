/- A harness that plays threads of many benches. -/
import Derived.Test.YtdkdeiofjoccnaaGreatPathA
namespace Go.Proofs.YtdkdeiofjoccnaaGreat.Lit
open Go.RowKit Go.Proofs.YtdkdeiofjoccnaaGreat.Mem Go.Proofs.YtdkdeiofjoccnaaGreat.Ar Go.Proofs.YtdkdeiofjoccnaaGreat.Un
set_option linter.unusedVariables false
set_option maxRecDepth 100000

def Park.moreAr (P : Park) (x : Bk × Nat) : Park := { P with ars := P.ars ++ [x] }
def St.moreAr (S : St) (A : Arena Unit) : St := { S with ars := S.ars ++ [A] }

section
variable {P : Park} {w w' : World} {S : St} {L : Bk} {slot : Nat} {A : Arena Unit}

theorem own_ar_new : (P.moreAr (L, slot)).own (.ar P.ars.length) = L.blocks := by simp [Park.own, Park.moreAr]
theorem own_ar_old (k : Key) (h1 : k ≠ .ar P.ars.length) : (P.moreAr (L, slot)).own k = P.own k := by
  have key : ∀ j, j ≠ P.ars.length → (P.ars ++ [(L, slot)])[j]? = P.ars[j]? := by
    intro j hj
    by_cases hlt : j < P.ars.length
    · rw [List.getElem?_append_left hlt]
    · rw [List.getElem?_eq_none (by simp; omega), List.getElem?_eq_none (by omega)]
  cases k with
  | ar i => simp only [Park.own, Park.moreAr, key i (fun e => h1 (by rw [e]))]
  | th j => rfl
  | pr j => rfl
theorem all_moreAr {x : Nat} : x ∈ (P.moreAr (L, slot)).all ↔ x ∈ P.all ∨ x ∈ L.blocks := by
  simp only [Park.all, Park.moreAr, List.flatMap_append, List.mem_append, List.flatMap_cons, List.flatMap_nil, List.append_nil]
  constructor
  · rintro ((h | h) | h)
    · exact .inl (.inl h)
    · exact .inr h
    · exact .inl (.inr h)
  · rintro ((h | h) | h)
    · exact .inl (.inl h)
    · exact .inr h
    · exact .inl (.inr h)

theorem Stand.moreAr (h : Stand P w S) (hA : Un.At 0 w L A) (hin : inUseB A slot = true) (n : ∀ x ∈ L.blocks, x ∉ P.all) : Stand (P.moreAr (L, slot)) w (S.moreAr A) := by
  refine ⟨fun k k' hne x hx hx' => ?_, by simp [Park.moreAr, St.moreAr, h.la], h.lt, fun i h1 h2 => ?_, fun j h1 h2 => ?_⟩
  · have key : ∀ k, x ∈ (P.moreAr (L, slot)).own k → (k = .ar P.ars.length ∧ x ∈ L.blocks) ∨ x ∈ P.own k := by
      intro k hk
      by_cases e1 : k = .ar P.ars.length
      · subst e1
        rw [own_ar_new] at hk
        exact .inl ⟨rfl, hk⟩
      · rw [own_ar_old k e1] at hk
        exact .inr hk
    rcases key k hx with ⟨rfl, e⟩ | e <;> rcases key k' hx' with ⟨rfl, e'⟩ | e'
    · exact hne rfl
    · exact n x e (Park.mem_all.2 ⟨k', e'⟩)
    · exact n x e' (Park.mem_all.2 ⟨k, e⟩)
    · exact h.apart k k' hne x e e'
  · have hla := h.la
    by_cases hi : i < P.ars.length
    · have e1 : (P.moreAr (L, slot)).ars[i] = P.ars[i] := List.getElem_append_left hi
      have hi2 : i < S.ars.length := by omega
      have e2 : (S.moreAr A).ars[i] = S.ars[i] := List.getElem_append_left hi2
      rw [e1, e2]
      exact h.ar i hi hi2
    · have hi' : i = P.ars.length := by
        simp only [Park.moreAr, List.length_append, List.length_singleton] at h1
        omega
      subst hi'
      have e1 : (P.moreAr (L, slot)).ars[P.ars.length] = (L, slot) := by simp [Park.moreAr]
      have e2 : (S.moreAr A).ars[P.ars.length] = A := get_last S.ars A hla h2
      rw [e1, e2]
      exact ⟨hA, hin⟩
  · obtain ⟨h3, h4, r⟩ := h.th j h1 h2
    have e1 : (P.moreAr (L, slot)).ars[P.seats[j].ar]'(by simp [Park.moreAr]; omega) = P.ars[P.seats[j].ar] := List.getElem_append_left h3
    have e2 : (S.moreAr A).ars[P.seats[j].ar]'(by simp [St.moreAr]; omega) = S.ars[P.seats[j].ar] := List.getElem_append_left h4
    refine ⟨by show P.seats[j].ar < (P.ars ++ [(L, slot)]).length; simp; omega, by show P.seats[j].ar < (S.ars ++ [A]).length; simp; omega, ?_⟩
    rw [← e1, ← e2] at r
    exact r
end

/-- a harness and all that it may play -/
structure Yard (w wr : World) (hb hq : Nat) (vs : List Value) (ve vd : Value) (P : Park) (S : St) (H : Har.Har) : Prop where
  stand : Stand P wr S
  har : Har.At wr hb hq vs ve vd H
  ok : ∀ q ∈ H.queues, ∀ j ∈ q, ∃ (i : Nat) (hi : i < P.seats.length), j.mach = ptr P.seats[i].tb
  few : H.events.length + Har.due H ≤ 1000000000000 ∧ H.ended.length ≤ H.events.length
  ap1 : ∀ x ∈ P.all, x ∉ Har.blocks hb hq (ve :: vd :: vs)
  new : ∀ x, (x ∈ P.all ∨ x ∈ Har.blocks hb hq (ve :: vd :: vs)) → w.heap.size ≤ x
  keep : Keep [] w wr

section
variable {w wr w' w1 : World} {bb : Nat} {L : Bk} {slot hb hq : Nat} {vs : List Value} {ve vd : Value} {P P2 : Park} {S : St} {tsv : Value} {H : Har.Har} {A : Arena Unit} {t : Th}

theorem Yard.lt (h : Yard w wr hb hq vs ve vd P S H) : ∀ x, x ∈ P.all ∨ x ∈ Har.blocks hb hq (ve :: vd :: vs) → x < wr.heap.size := by
  rintro x (hx | hx)
  · exact h.stand.lt_heap x hx
  · exact h.har.lt x hx
theorem Yard.frame0 (h : Yard w wr hb hq vs ve vd P S H) (k : Keep [] wr w') : Yard w w' hb hq vs ve vd P S H :=
  ⟨h.stand.keep k (by simp), h.har.keep k (by simp), h.ok, h.few, h.ap1, h.new, h.keep.trans k⟩
theorem Yard.since (h : Yard w wr hb hq vs ve vd P S H) : Har.Since (machs P) wr (Har.blocks hb hq (ve :: vd :: vs)) wr hb hq vs ve vd H S :=
  ⟨h.har, h.stand, h.ap1, h.ok, h.few, fun x hx => .inl hx, Keep.refl _ _⟩
theorem Yard.after (h : Yard w wr hb hq vs ve vd P S H) {hq' : Nat} {vs' : List Value} {ve' vd' : Value} {H' : Har.Har} {S' : St} (hS : Har.Since (machs P) wr (Har.blocks hb hq (ve :: vd :: vs)) w' hb hq' vs' ve' vd' H' S') : Yard w w' hb hq' vs' ve' vd' P S' H' := by
  have hsz : w.heap.size ≤ wr.heap.size := h.keep.size
  refine ⟨hS.mach, hS.at_, hS.ok, hS.few, hS.apart, ?_, ?_⟩
  · rintro x (hx | hx)
    · exact h.new x (.inl hx)
    · rcases hS.own x hx with h1 | h1
      · exact h.new x (.inr h1)
      · omega
  · refine h.keep.chain hS.keep fun x hx => .inr ?_
    rcases List.mem_append.1 hx with hx | hx
    · exact h.new x (.inr hx)
    · exact h.new x (.inl hx)

/-- a bench of one thread laid beside: its thread is one more that the harness may play -/
def Park.plus (P : Park) (L : Bk) (s : Seat) : Park := (P.moreAr (L, 1)).more ⟨s.tb, s.pv, P.ars.length⟩
def St.plus (S : St) (A : Arena Unit) (t : Th) : St := (S.moreAr A).more t

theorem Yard.plus (h : Yard w w1 hb hq vs ve vd P S H) {hb2 hq2 : Nat} {vs2 : List Value} {ve2 vd2 : Value} {H2 : Har.Har} (hB : Bench w1 wr bb L 1 hb2 hq2 vs2 ve2 vd2 P2 ⟨[A], [t]⟩ tsv H2) (hn : P2.seats.length = 1) :
    ∃ s, P2.seats = [s] ∧ Yard w wr hb hq vs ve vd (P.plus L s) (S.plus A t) H ∧ wr.cell? ⟨bb, 2, none⟩ = some tsv := by
  have h1 := h.frame0 hB.keep
  obtain ⟨s, hs⟩ : ∃ s, P2.seats = [s] := by
    match hq : P2.seats, hn with
    | [s], _ => exact ⟨s, rfl⟩
  have hnew : ∀ x ∈ P2.all, x ∉ P.all ∧ x ∉ Har.blocks hb hq (ve :: vd :: vs) := fun x hx => by
    have := hB.new x (.inl hx)
    exact ⟨fun hm => by have := h.lt x (.inl hm); omega, fun hm => by have := h.lt x (.inr hm); omega⟩
  have hLA := hB.stand.ar 0 (by rw [hB.ars]; simp) (by simp)
  obtain ⟨g3, g4, hth, r1, r2, r3⟩ := hB.stand.th 0 (by rw [hs]; simp) (by simp)
  have e0 : P2.seats[0]'(by rw [hs]; simp) = s := by simp only [hs]; rfl
  rw [e0] at g3 g4
  have har0 : s.ar = 0 := by rw [hB.ars] at g3; simpa using g3
  have mL : ∀ x ∈ L.blocks, x ∈ P2.all := fun x hx => Park.mem_all.2 ⟨.ar 0, by rw [own_ar (by rw [hB.ars]; simp)]; simp only [hB.ars]; exact hx⟩
  have mT : s.tb ∈ P2.all := Park.mem_all.2 ⟨.th 0, by rw [own_th (by rw [hs]; simp)]; simp only [hs]; simp⟩
  have mV : ∀ g, s.pv.ownBlock = some g → g ∈ P2.all := fun g hg => Park.mem_all.2 ⟨.pr 0, by rw [own_pr (by rw [hs]; simp)]; simp only [hs]; simp [hg]⟩
  simp only [hB.ars, List.getElem_cons_zero] at hLA
  have st1 := h1.stand.moreAr hLA.1 hLA.2 fun x hx => (hnew x (mL x hx)).1
  have aT : s.tb ∉ L.blocks := fun hm => hB.stand.apart (.th 0) (.ar 0) (by simp) s.tb (by rw [own_th (by rw [hs]; simp)]; simp only [hs]; simp) (by rw [own_ar (by rw [hB.ars]; simp)]; simp only [hB.ars]; exact hm)
  have aV : ∀ g, s.pv.ownBlock = some g → g ∉ L.blocks := fun g hg hm => hB.stand.apart (.pr 0) (.ar 0) (by simp) g (by rw [own_pr (by rw [hs]; simp)]; simp only [hs]; simp [hg]) (by rw [own_ar (by rw [hB.ars]; simp)]; simp only [hB.ars]; exact hm)
  have e5 : (P.moreAr (L, 1)).ars[P.ars.length]'(by simp [Park.moreAr]) = (L, 1) := by simp [Park.moreAr]
  have hla := h1.stand.la
  have e6 : (S.moreAr A).ars[P.ars.length]'(by simp [St.moreAr]; omega) = A := get_last S.ars A hla _
  have hth' : ThAt wr s.tb s.pv L.b 1 t := by
    have := hth
    simp only [e0, har0, hB.ars, List.getElem_cons_zero] at this
    exact this
  have st2 := st1.more (s := ⟨s.tb, s.pv, P.ars.length⟩) (t := t) (by simp [Park.moreAr]) (by simp [St.moreAr]; omega) (by rw [e5]; exact hth') (fun x hx => by
      rw [e6]
      have := r1 x hx
      simp only [e0, har0, List.getElem_cons_zero] at this
      exact this) r2 r3 (fun hm => by
      rcases all_moreAr.1 hm with hm | hm
      · exact (hnew _ mT).1 hm
      · exact aT hm) (fun g hg hm => by
      rcases all_moreAr.1 hm with hm | hm
      · exact (hnew _ (mV g hg)).1 hm
      · exact aV g hg hm)
  have hall : ∀ x ∈ (P.plus L s).all, x ∈ P.all ∨ x ∈ P2.all := by
    intro x hx
    rcases all_more.1 hx with hx | rfl | hx
    · rcases all_moreAr.1 hx with hx | hx
      · exact .inl hx
      · exact .inr (mL x hx)
    · exact .inr mT
    · exact .inr (mV x hx)
  refine ⟨s, hs, ⟨st2, h1.har, fun q hq j hj => ok_more (h.ok q hq j hj), h.few, fun x hx => ?_, ?_, h1.keep⟩, (cell_of hB.hbb 2).trans rfl⟩
  · rcases hall x hx with hx | hx
    · exact h.ap1 x hx
    · exact (hnew x hx).2
  · rintro x (hx | hx)
    · rcases hall x hx with hx | hx
      · exact h.new x (.inl hx)
      · exact Nat.le_trans h.keep.size (hB.new x (.inl hx))
    · exact h.new x (.inr hx)

/-- a bench's thread -/
theorem Bench.thread (h : Bench w wr bb L slot hb hq vs ve vd P S tsv H) (i : Nat) (hi : i < P.seats.length) (hn : P.seats.length ≤ 16) :
    Calls Tryz.prog 32 #[.pointer (some ⟨bb, 0, none⟩), .int .i64 i] wr fun e w' => e = .returned (ptr P.seats[i].tb) ∧ w' = wr := by
  obtain ⟨g, cap, hts, hc⟩ : ∃ g c, tsv = .slice (some ⟨g, 0, none⟩) P.seats.length c ∧ wr.cell? ⟨g, i, none⟩ = some (.pointer (some ⟨P.seats[i].tb, 0, none⟩)) := by
    rcases h.thr.2 with ⟨e, h0⟩ | ⟨g, cap, cur, e, -⟩
    · omega
    · refine ⟨g, cap, e, ?_⟩
      have h1 := h.thr.cells (g := g) (by rw [e]; rfl) i (ptr P.seats[i].tb) (by rw [List.getElem?_map, List.getElem?_eq_getElem hi]; rfl)
      have e2 : (⟨g, 0, none⟩ : Addr).add i = ⟨g, i, none⟩ := by unfold Addr.add; split <;> simp_all
      rw [e2] at h1
      exact h1
  have c2 := (cell_of h.hbb 2).trans rfl
  rw [hts] at c2
  obtain ⟨n, hnn⟩ : ∃ n, n = P.seats.length := ⟨_, rfl⟩
  obtain ⟨tb, htb⟩ : ∃ tb, tb = P.seats[i].tb := ⟨_, rfl⟩
  rw [← htb] at hc ⊢
  rw [← hnn] at c2 hi hn
  clear h hts htb hnn
  go_enter Tryz.func32, Tryz.ntmps32
  go_wp2_with fail
  go_ret
  exact ⟨rfl, rfl⟩
end
end Go.Proofs.YtdkdeiofjoccnaaGreat.Lit
