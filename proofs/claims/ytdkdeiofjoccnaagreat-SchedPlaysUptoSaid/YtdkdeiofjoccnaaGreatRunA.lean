import Derived.Test.YtdkdeiofjoccnaaGreatLay
import Derived.Test.YtdkdeiofjoccnaaGreatUnB
import Derived.Test.YtdkdeiofjoccnaaGreatDecWalk
/- A bench: Play, Thread, Regs, Outcome. -/
namespace Go.Proofs.YtdkdeiofjoccnaaGreat.Lit
open Go.RowKit Go.Proofs.YtdkdeiofjoccnaaGreat.Mem Go.Proofs.YtdkdeiofjoccnaaGreat.Ar Go.Proofs.YtdkdeiofjoccnaaGreat.Un
set_option linter.unusedVariables false
set_option maxRecDepth 100000

theorem one_small (n : Nat) (h : n < 256) : 0 ≤ (Pick.one n).n ∧ (Pick.one n).n ≤ 1000 := by
  unfold Pick.one
  split
  · simp
  split
  · simp
  split
  · simp; omega
  split
  · simp
  split
  · simp
  · simp; omega
theorem dec_small : ∀ l : List UInt8, ∀ x ∈ Pick.dec l, 0 ≤ x.n ∧ x.n ≤ 1000
  | [], x, hx => by simp [Pick.dec] at hx
  | [b], x, hx => by
    simp only [Pick.dec, List.mem_singleton] at hx
    subst hx
    exact one_small _ b.toNat_lt
  | b :: c :: r, x, hx => by
    have h1 := dec_small r x
    have h2 := dec_small (c :: r) x
    have hc := c.toNat_lt
    simp only [Pick.dec] at hx
    split at hx
    · rcases List.mem_cons.1 hx with rfl | hx
      · simp; omega
      · exact h1 hx
    · rcases List.mem_cons.1 hx with rfl | hx
      · exact one_small _ b.toNat_lt
      · exact h2 hx

/-- what was read lies so that a harness can play it -/
theorem handed_of {w : World} {base : Nat} {v : Value} {l : List Pick.Pk} {T : List Nat} (h : Pick.Row w base v l) (hs : ∀ x ∈ l, x.n ≤ 1000) (hT : ∀ x ∈ T, x < base) : ∃ a cap, v = .slice a l.length cap ∧ Har.Handed w T a l := by
  obtain ⟨a, cap, rfl, hh⟩ := h.shape
  rcases l with _ | ⟨x0, l⟩
  · rcases h.2 with ⟨e, -⟩ | ⟨g, cap', cur, e, hb, hg, -⟩
    · simp only [Value.slice.injEq] at e
      obtain ⟨rfl, -, -⟩ := e
      exact ⟨none, cap, rfl, ⟨fun i hi => absurd hi (by simp), (fun g o e => by cases e), by simp⟩⟩
    · simp only [Value.slice.injEq] at e
      obtain ⟨rfl, -, -⟩ := e
      refine ⟨_, cap, rfl, ⟨fun i hi => absurd hi (by simp), fun g' o e => ?_, by simp⟩⟩
      simp only [Option.some.injEq, Addr.mk.injEq] at e
      obtain ⟨rfl, -, -⟩ := e
      exact ⟨fun hm => by have := hT _ hm; omega, lt_of hg⟩
  · refine ⟨a, cap, rfl, ⟨fun i hi => ?_, fun g o e => ?_, fun x hx => by have := hs x hx; omega⟩⟩
    · obtain ⟨g, rfl, -, -, -, c0, c1, c2, -⟩ := hh i hi
      exact ⟨g, 0, rfl, by rw [Nat.zero_add]; exact c0, by rw [Nat.zero_add]; exact c1, by rw [Nat.zero_add]; exact c2⟩
    · obtain ⟨g', rfl, -, hb, hlt, -⟩ := hh 0 (by simp)
      simp only [Option.some.injEq, Addr.mk.injEq] at e
      obtain ⟨rfl, -, -⟩ := e
      exact ⟨fun hm => by have := hT _ hm; omega, hlt⟩

section
variable {w wr w' : World} {bb : Nat} {L : Bk} {slot hb hq : Nat} {vs : List Value} {ve vd : Value} {P : Park} {S : St} {tsv : Value} {H : Har.Har}

theorem benchT (h : Bench w wr bb L slot hb hq vs ve vd P S tsv H) : ∀ x ∈ Har.blocks hb hq (ve :: vd :: vs) ++ (machs P).B, x < wr.drew.heap.size := fun x hx => by
  rcases List.mem_append.1 hx with hx | hx
  · exact h.har.lt x hx
  · exact h.stand.lt_heap x hx

theorem Bench.play (h : Bench w wr bb L slot hb hq vs ve vd P S tsv H) (s : ByteArray) (hs : s.size ≤ 2097152) :
    Calls Tryz.prog 60 #[.pointer (some ⟨bb, 0, none⟩), .string s] wr fun e w' => e = .returned (.int .i64 (Har.playN 14 (Har.playC (machs P) (Pick.dec s.data.toList) ⟨H, S, 14, false⟩))) ∧
      ∃ hq' vs' ve' vd', Bench w w' bb L slot hb hq' vs' ve' vd' P (Har.playC (machs P) (Pick.dec s.data.toList) ⟨H, S, 14, false⟩).s tsv (Har.playC (machs P) (Pick.dec s.data.toList) ⟨H, S, 14, false⟩).H := by
  have c3 := (cell_of h.hbb 3).trans rfl
  have HB := Lib.hid h
  have hl := Lib.hid (Pick.dec_length s.data.toList)
  have hsz := Lib.hid (Pick.size_data s)
  clear h
  go_enter Tryz.func60, Tryz.ntmps60
  go_wp2_with fail
  go_region_held3 (fun w' => w'.cell? ⟨bb, 3, none⟩ = some (.pointer (some ⟨hb, 0, none⟩))) (go_keep)
    (first
      | (go_at_call 86; refine (Pick.decode s _ hs).mono ?_; rintro e w2 ⟨v, rfl, hrow, k2⟩; obtain ⟨a, cap, rfl, hh⟩ := handed_of (T := Har.blocks hb hq (ve :: vd :: vs) ++ (machs P).B) hrow (fun x hx => (dec_small _ x hx).2) (benchT HB.out); have HH := Lib.hid hh; have K2 := Lib.hid k2; have c32 := k2.cell (show wr.drew.cell? ⟨bb, 3, none⟩ = _ from c3) (by simp); clear hh k2 hrow)
      | (go_at_call 35; refine (Har.play (HB.out.since.later ((Keep.refl [] wr).drew.trans K2.out)) 14 (by omega) a cap (Pick.dec s.data.toList) HH.out (by have := hl.out; have := hsz.out; omega)).mono ?_; rintro e w3 ⟨rfl, hq', vs', ve', vd', hS⟩; have HS := Lib.hid hS; have c33 := (cell_of (HB.out.after hS).hbb 3).trans rfl; clear hS))
  go_wp2_with fail
  go_ret
  exact ⟨rfl, hq', vs', ve', vd', HB.out.after HS.out⟩

theorem Bench.drain (h : Bench w wr bb L slot hb hq vs ve vd P S tsv H) (budget : Nat) (hbud : budget ≤ 9223372036854775807) :
    Calls Tryz.prog 38 #[.pointer (some ⟨hb, 0, none⟩), .int .i64 budget] wr fun e w' =>
      e = .returned (.tuple #[.int .i64 (Har.playN budget (Har.playC (machs P) [Har.drainPick] ⟨H, S, budget, false⟩)), .int .i64 (Har.playE (Har.playC (machs P) [Har.drainPick] ⟨H, S, budget, false⟩))]) ∧
      ∃ hq' vs' ve' vd', Bench w w' bb L slot hb hq' vs' ve' vd' P (Har.playC (machs P) [Har.drainPick] ⟨H, S, budget, false⟩).s tsv (Har.playC (machs P) [Har.drainPick] ⟨H, S, budget, false⟩).H :=
  (Har.drain h.since budget hbud).mono fun e w' ⟨e1, hq', vs', ve', vd', hS⟩ => ⟨e1, hq', vs', ve', vd', h.after hS⟩
end
end Go.Proofs.YtdkdeiofjoccnaaGreat.Lit

/- A bench: Outcome, Thread, Regs. -/
namespace Go.Proofs.YtdkdeiofjoccnaaGreat.Lit
open Go.RowKit Go.Proofs.YtdkdeiofjoccnaaGreat.Mem Go.Proofs.YtdkdeiofjoccnaaGreat.Ar Go.Proofs.YtdkdeiofjoccnaaGreat.Un
set_option linter.unusedVariables false
set_option maxRecDepth 100000

/-- what the registers hold -/
def regsOf (l : List Th) : List Int := l.flatMap Th.regs

variable {w wr wq w' : World} {bb : Nat} {L : Bk} {slot hb hq : Nat} {vs : List Value} {ve vd : Value} {P : Park} {S : St} {tsv : Value} {H : Har.Har}

theorem regs_cells {wr : World} {tb b slot : Nat} {pv : Value} {t : Th} (h : ThAt wr tb pv b slot t) : ∀ j u, (t.regs.map (.int .u64))[j]? = some u → wr.cell? ((⟨tb, 2, none⟩ : Addr).add j) = some u := by
  intro j u hu
  have e2 : (⟨tb, 2, none⟩ : Addr).add j = ⟨tb, 2 + j, none⟩ := by unfold Addr.add; split <;> simp_all
  rw [e2]
  rw [List.getElem?_map] at hu
  have hj : j < t.regs.length := by
    apply Decidable.byContradiction
    intro hn
    rw [List.getElem?_eq_none (by omega)] at hu
    cases hu
  rw [List.getElem?_eq_getElem hj] at hu
  have hr := h.regs
  rw [h.reg (by omega), ← Option.some.inj hu]
  simp [nth, List.getD_eq_getElem?_getD, List.getElem?_eq_getElem hj]
theorem one_nums (l : List Int) : ∀ u ∈ l.map (Value.int .u64), u.oneCell' = true := by
  intro u hu
  obtain ⟨x, -, rfl⟩ := List.mem_map.1 hu
  rfl
theorem regsOf_length : ∀ (l : List Th), (∀ t ∈ l, t.regs.length = 4) → (regsOf l).length = l.length * 4
  | [], _ => rfl
  | t :: l, h => by
    rw [show regsOf (t :: l) = t.regs ++ regsOf l from rfl, List.length_append, h t (by simp), regsOf_length l fun x hx => h x (by simp [hx])]
    simp; omega

/-- a result of two: a struct out of its block, a value -/
theorem results_cell_tmp {fn : Func} {a t : Tmp} {ty : TypeId} (h : fn.results = #[.cell a ty, .tmp t]) (tmps : Array Value) (P : Program) (w : World) {g : Nat} {v : Value} (ha : tmps.getD a undef = .pointer (some ⟨g, 0, none⟩)) (hv : (loadVar ty ⟨g, 0, none⟩).run P w = .ok v w) :
    (results fn tmps).run P w = .ok (.tuple #[v, tmps.getD t undef]) w := by
  have ha' : tmps[a]?.getD undef = .pointer (some ⟨g, 0, none⟩) := by simpa using ha
  simp [results, h, ha', asAddr, hv]

set_option maxHeartbeats 1000000 in
theorem Bench.outcome (h : Bench w wq bb L slot hb hq vs ve vd P S tsv H) (hn : P.seats.length ≤ 16) (hA : ∃ A, S.ars = [A]) (hin : inUseB (S.ars.getD 0 (arena0 ⟨[], []⟩)) slot = true) :
    Calls Tryz.prog 57 #[.pointer (some ⟨bb, 0, none⟩)] wq fun e w' => ∃ g v, e = .returned (.tuple #[.agg #[.slice (some ⟨g, 0, none⟩) (S.ars.getD 0 (arena0 ⟨[], []⟩)).width (S.ars.getD 0 (arena0 ⟨[], []⟩)).width, v], .bool (Har.idleB H)]) ∧
      w'.heap[g]? = some (.cells ((slotWords (S.ars.getD 0 (arena0 ⟨[], []⟩)) slot).map (.int .u64)).toArray 75 (0, 0)) ∧
      w'.ownsRow wq.heap.size 75 1 v (regsOf S.ths).length ((regsOf S.ths).map (.int .u64)) ∧ wq.heap.size ≤ g ∧ v.ownBlock ≠ some g ∧ Keep [] wq w' := by
  obtain ⟨A, hA⟩ := hA
  rw [hA] at hin ⊢
  rw [List.getD_cons_zero] at hin ⊢
  have hAt : Un.At 0 wq L A := by
    have h0 := h.stand.ar 0 (by rw [h.ars]; simp) (by rw [hA]; simp)
    simp only [h.ars, hA, List.getElem_cons_zero] at h0
    exact h0.1
  have HAT := Lib.hid hAt
  have c0 := (cell_of h.hbb 0).trans rfl
  have c1 := (cell_of h.hbb 1).trans rfl
  have c2 := (cell_of h.hbb 2).trans rfl
  have c3 := (cell_of h.hbb 3).trans rfl
  obtain ⟨ta, tc, hts, htr⟩ : ∃ a c, tsv = .slice a P.seats.length c ∧ ∀ (i : Nat) (hi : i < P.seats.length), ∃ g, a = some ⟨g, 0, none⟩ ∧ tsv.ownBlock = some g ∧ g < wq.heap.size ∧ wq.cell? ⟨g, i, none⟩ = some (.pointer (some ⟨P.seats[i].tb, 0, none⟩)) := by
    rcases h.thr.2 with ⟨e, h0⟩ | ⟨g, cap, cur, e, -⟩
    · exact ⟨none, 0, by rw [e, h0], fun i hi => by omega⟩
    · refine ⟨_, cap, e, fun i hi => ⟨g, rfl, by rw [e]; rfl, (h.thr.lt g (by rw [e]; rfl)).2, ?_⟩⟩
      have h1 := h.thr.cells (g := g) (by rw [e]; rfl) i (ptr P.seats[i].tb) (by rw [List.getElem?_map, List.getElem?_eq_getElem hi]; rfl)
      have e2 : (⟨g, 0, none⟩ : Addr).add i = ⟨g, i, none⟩ := by unfold Addr.add; split <;> simp_all
      rw [e2] at h1
      exact h1
  rw [hts] at c2
  have HTR := Lib.hid (And.intro hts htr)
  have HB := Lib.hid h
  clear h hAt hts htr
  go_enter Tryz.func57, Tryz.ntmps57
  go_wp2_with fail
  obtain ⟨ob, hob⟩ : ∃ ob, ob = wq.heap.size + 1 := ⟨_, rfl⟩
  obtain ⟨w1, hw1⟩ : ∃ w1, w1 = (wq.alloc (.cells #[.slice none 0 0, .slice none 0 0] 68)).alloc (.cells #[.slice none 0 0, .slice none 0 0] 68) := ⟨_, rfl⟩
  have b1 : w1.heap[ob]? = some (.cells #[.slice none 0 0, .slice none 0 0] 68 (0, 0)) := by
    rw [hw1, hob]
    have := alloc_new (wq.alloc (.cells #[.slice none 0 0, .slice none 0 0] 68)) (.cells #[.slice none 0 0, .slice none 0 0] 68)
    rw [World.size_alloc] at this
    exact this
  have r1 : w1.heap[wq.heap.size]? = some (.cells #[.slice none 0 0, .slice none 0 0] 68 (0, 0)) := by
    rw [hw1]
    exact alloc_some _ (alloc_new wq _)
  have RB1 := Lib.hid r1
  clear r1
  have k1 : Keep [] wq w1 := by rw [hw1]; exact ((Keep.refl _ _).alloc _).alloc _
  have hsz : w1.heap.size = wq.heap.size + 2 := by rw [hw1]; simp
  have HS := Lib.hid (And.intro hob hsz)
  rw [← hob, ← hw1]
  clear hob hw1 hsz
  have K1 := Lib.hid k1
  have B1 := Lib.hid b1
  have x0 := k1.cell c0 (by simp)
  have x1 := k1.cell c1 (by simp)
  clear c0 c1 k1 b1
  have hbo : bb ≠ ob := by have := lt_of HB.out.hbb; have := HS.out.1; omega
  have HBO := Lib.hid hbo
  go_region_held3 (fun w' => w'.cell? ⟨bb, 0, none⟩ = some (.pointer (some ⟨L.b, 0, none⟩)) ∧ w'.cell? ⟨bb, 1, none⟩ = some (.int .i64 slot)) (first | go_keep | exact ⟨cell_aside v0 (ne_block HBO.out), cell_aside v1 (ne_block HBO.out)⟩)
    (first | (go_at_call 85; refine (peek_ok (HAT.out.keep (K1.out.drew) (by simp)) slot hin).mono ?_; rintro e w2 ⟨rfl, hg, k2⟩; have G2 := Lib.hid hg; have K2 := Lib.hid k2; have v0 := k2.cell (show w1.drew.cell? ⟨bb, 0, none⟩ = _ from x0) (by simp); have v1 := k2.cell (show w1.drew.cell? ⟨bb, 1, none⟩ = _ from x1) (by simp); have b2 := k2.old (show w1.drew.heap[ob]? = _ from B1.out) (by simp); have v2 := (cell_of b2 0).trans rfl; have v3 := free_of b2 0; have B2 := Lib.hid b2; clear hg k2 b2))
  obtain ⟨w3, hw3⟩ : ∃ w3, w3 = w2.setCell ⟨ob, 0, none⟩ (.slice (some ⟨w1.heap.size, 0, none⟩) A.width A.width) := ⟨_, rfl⟩
  have b3 : w3.heap[ob]? = some (.cells #[.slice (some ⟨w1.heap.size, 0, none⟩) A.width A.width, .slice none 0 0] 68 (0, 0)) := by rw [hw3, set_same B2.out]; rfl
  have g3 : w3.heap[w1.heap.size]? = some (.cells ((slotWords A slot).map (.int .u64)).toArray 75 (0, 0)) := by rw [hw3]; exact (set_other (by have := HS.out; omega) _ _).trans G2.out
  have RB3 : Hid (w3.heap[wq.heap.size]? = some (.cells #[.slice none 0 0, .slice none 0 0] 68 (0, 0))) := Lib.hid (by rw [hw3]; exact (set_other (by have := HS.out; omega) _ _).trans (K2.out.old (show w1.drew.heap[wq.heap.size]? = _ from RB1.out) (by simp)))
  have K3 : Hid (Keep [] wq w3) := Lib.hid (by rw [hw3]; exact (K1.out.drew.trans K2.out).set (.inr (by have := HS.out; omega)) _ _)
  have s3 : w2.heap.size ≤ w3.heap.size := by rw [hw3]; simp
  obtain ⟨gb, hgb⟩ : ∃ gb, gb = w1.heap.size := ⟨_, rfl⟩
  rw [← hw3, ← hgb]
  rw [← hgb] at b3 g3
  have HGB := Lib.hid (And.intro (show gb = wq.heap.size + 2 by rw [hgb]; exact HS.out.2) (lt_of g3))
  clear hw3 v0 v1 v2 v3 hgb x0 x1 B2 B1 G2 hbo
  have B3 := Lib.hid (And.intro b3 g3)
  have z2 := K3.out.cell c2 (by simp)
  clear b3 g3 c2
  go_wp2_with fail
  obtain ⟨n, hnn⟩ : ∃ n, n = P.seats.length := ⟨_, rfl⟩
  rw [← hnn]
  rw [← hnn] at hn z2
  have HN := Lib.hid (And.intro hnn HB.out.stand.lt)
  clear hnn
  obtain ⟨i0, hi0, hz0, hz1, hz2⟩ := info_parts infoW64
  have HI := Lib.hid hi0
  have HZ := Lib.hid (And.intro hz0 (And.intro hz1 hz2))
  clear hi0 hz0 hz1 hz2
  go_loopw [30] (fun i wx => ∃ (k : Nat) (v : Value), i = .int .i64 k ∧ k ≤ n ∧ wx.heap[ob]? = some (.cells #[.slice (some ⟨gb, 0, none⟩) A.width A.width, v] 68 (0, 0)) ∧
      wx.heap[gb]? = some (.cells ((slotWords A slot).map (.int .u64)).toArray 75 (0, 0)) ∧ wx.ownsRow (wq.heap.size + 3) 75 1 v (k * 4) ((regsOf (S.ths.take k)).map (.int .u64)) ∧ Keep [] wq wx ∧ wx.heap[wq.heap.size]? = some (.cells #[.slice none 0 0, .slice none 0 0] 68 (0, 0))) (fun i _ => n - (intOf i).toNat)
  case atStart => exact ⟨0, _, rfl, Nat.zero_le _, B3.out.1, B3.out.2, World.ownsRow_nil _ _ _ _, K3.out, RB3.out⟩
  case round =>
    obtain ⟨k, v, rfl, hk, hob, hgb, hv, hK, hrb⟩ := hrel
    have RB := Lib.hid hrb
    have OB := Lib.hid hob
    have GB := Lib.hid hgb
    have VR := Lib.hid hv
    have KR := Lib.hid hK
    clear hob hgb hv hK hrb
    by_cases hlt : k < n
    · have hk1 : k < P.seats.length := by have := HN.out; omega
      have hk2 : k < S.ths.length := by have := HN.out; omega
      obtain ⟨g, rfl, hg2, hg3, hg4⟩ := HTR.out.2 k hk1
      obtain ⟨yb, ys, yp, hth⟩ : ∃ b s v, ThAt wr P.seats[k].tb v b s S.ths[k] := by
        obtain ⟨h3, h4, h, -⟩ := (HB.out.stand.keep KR.out (by simp)).th k hk1 hk2
        exact ⟨_, _, _, h⟩
      obtain ⟨tb, htb⟩ : ∃ tb, tb = P.seats[k].tb := ⟨_, rfl⟩
      obtain ⟨t, ht⟩ : ∃ t, t = S.ths[k] := ⟨_, rfl⟩
      rw [← htb, ← ht] at hth
      rw [← htb] at hg4
      have c4 := KR.out.cell hg4 (by simp)
      have TH := Lib.hid hth
      have HT := Lib.hid (show S.ths[k]? = some t by rw [ht]; exact List.getElem?_eq_getElem hk2)
      have HG := Lib.hid (And.intro hg2 hg3)
      clear hth hg2 hg3 hg4 htb ht hk1 hk2
      obtain ⟨va, vc, rfl⟩ : ∃ a c, v = .slice a (k * 4) c := by
        rcases VR.out.2 with ⟨e, h0⟩ | ⟨g, cap, cur, e, -⟩
        · exact ⟨none, 0, by rw [e, h0]⟩
        · exact ⟨_, _, e⟩
      have o1 := (cell_of OB.out 1).trans rfl
      have of1 := free_of OB.out 1
      have r0 := regs_cells TH.out
      have r1 := Lib.hid (one_nums t.regs)
      have r2 := Lib.hid (show (t.regs.map (Value.int .u64)).length = 4 * 1 by rw [List.length_map, TH.out.regs])
      have RC := Lib.hid r0
      have HBS := Lib.hid (show wq.heap.size + 3 ≤ wr.heap.size by have := HGB.out.1; have := lt_of GB.out; omega)
      have OLT := Lib.hid (lt_of (show wr.drew.heap[ob]? = _ from OB.out))
      have HOV := Lib.hid (show some ob ≠ (Value.slice va (k * 4) vc).ownBlock from fun e => by have h1 := (VR.out.lt ob e.symm).1; have := HS.out.1; omega)
      have GLT := Lib.hid (lt_of (show wr.drew.heap[gb]? = _ from GB.out))
      have GOV := Lib.hid (show some gb ≠ (Value.slice va (k * 4) vc).ownBlock from fun e => by have h1 := (VR.out.lt gb e.symm).1; have := HGB.out.1; omega)
      have ht0 := cell_of TH.out.hb 2
      clear r0
      go_wp2_with fail
      go_region_law
        (first
          | (refine step_append_lies _ (by rfl) _ _ _ (by rfl) (wq.heap.size + 3) 75 i0 _ 1 8 Tryz.underlying22 HI.out HZ.out.1 HZ.out.2.1 HZ.out.2.2 rfl (by decide) (.slice va (k * 4) vc) (k * 4) _ (by rfl) VR.out.drew ⟨tb, 2, none⟩ 4 4 (t.regs.map (.int .u64)) (by rfl) r2.out RC.out r1.out (by decide) (by unfold maxLen; omega) (by omega) HBS.out _ rfl ?_; intro g8 cap8 w8 hown8 hgrow8 hat8 hlt8; have q8 := hgrow8.block ob OLT.out HOV.out; have b8 := q8.trans (show wr.drew.heap[ob]? = _ from OB.out); have n1 := (cell_of b8 1).trans rfl; have n2 := free_of b8 1; have B8 := Lib.hid b8; have W8 := Lib.hid hown8; have R8 := Lib.hid hgrow8; have A8 := Lib.hid hat8; clear q8 b8 hown8 hgrow8 hat8))
      all_goals
        go_wp2_with fail
        go_roundw
        case rel =>
          have hk1 : k < S.ths.length := by have := HN.out; omega
          have htk : S.ths[k] = t := by
            have := HT.out
            rw [List.getElem?_eq_getElem hk1] at this
            exact Option.some.inj this
          have e : (regsOf (S.ths.take (k + 1))).map (Value.int .u64) = (regsOf (S.ths.take k)).map (Value.int .u64) ++ t.regs.map (.int .u64) := by
            rw [List.take_succ_eq_append_getElem hk1, htk]
            simp [regsOf]
          have hg8 : wq.heap.size + 3 ≤ g8 := by
            rcases A8.out with h1 | h1
            · exact (VR.out.lt g8 h1).1
            · rw [h1]; exact HBS.out
          have hne : g8 ≠ ob := by have := HS.out.1; omega
          refine ⟨k + 1, .slice (some ⟨g8, 0, none⟩) (k * 4 + 4) cap8, by go_num, hlt, ?_, ?_, ?_, ?_, ?_⟩
          · rw [set_same B8.out]; rfl
          · refine (set_other (by have := HS.out.1; have := HGB.out.1; omega) _ _).trans ((R8.out.block gb GLT.out GOV.out).trans (show wr.drew.heap[gb]? = _ from GB.out))
          · rw [e, show (k + 1) * 4 = k * 4 + 4 by omega]
            exact Har.owns_block W8.out fun x hx => set_other (by have hx' : g8 = x := by simpa [Value.ownBlock] using hx
                                                                  omega) _ _
          · have k8 : Keep (Value.slice va (k * 4) vc).ownBlock.toList wr.drew w8 := ⟨R8.out.os, R8.out.tape, R8.out.output, R8.out.size, fun i hi hn => R8.out.block i hi fun e => hn (by rw [← e]; simp)⟩
            have k9 : Keep [] wq w8 := KR.out.drew.chain k8 fun x hx => .inr (by
              have := (VR.out.lt x (by simpa using hx)).1
              omega)
            exact k9.set (.inr (by have := HS.out.1; omega)) _ _
          · have h1 : some wq.heap.size ≠ (Value.slice va (k * 4) vc).ownBlock := fun e => by have h1 := (VR.out.lt _ e.symm).1; omega
            exact (set_other (by have := HS.out.1; omega) _ _).trans ((R8.out.block _ (lt_of (show wr.drew.heap[wq.heap.size]? = _ from RB.out)) h1).trans (show wr.drew.heap[wq.heap.size]? = _ from RB.out))
        case measure => simp [intOf]; omega
    · have hkn : k = n := by omega
      have HKN := Lib.hid hkn
      obtain ⟨va, vc, rfl⟩ : ∃ a c, v = .slice a (k * 4) c := by
        rcases VR.out.2 with ⟨e, h0⟩ | ⟨g, cap, cur, e, -⟩
        · exact ⟨none, 0, by rw [e, h0]⟩
        · exact ⟨_, _, e⟩
      have o0 := (cell_of OB.out 0).trans rfl
      have o1 := (cell_of OB.out 1).trans rfl
      have c33 := KR.out.cell c3 (by simp)
      clear hkn c3
      go_wp2_with fail
      have q1 : bb ≠ wq.heap.size := by have := lt_of HB.out.hbb; omega
      have q2 : ob ≠ wq.heap.size := by have := HS.out.1; omega
      have q3 : gb ≠ wq.heap.size := by have := HGB.out.1; omega
      have HA := Lib.hid (HB.out.frame0 KR.out)
      go_region_held3 (fun w' => w'.cell? ⟨bb, 3, none⟩ = some (.pointer (some ⟨hb, 0, none⟩)) ∧ w'.cell? ⟨ob, 0, none⟩ = some (.slice (some ⟨gb, 0, none⟩) A.width A.width) ∧ w'.cell? ⟨ob, 1, none⟩ = some (.slice va (k * 4) vc))
        (first | go_keep | exact ⟨cell_aside (cell_aside y1 (ne_block q1)) (ne_block q1), cell_aside (cell_aside y2 (ne_block q2)) (ne_block q2), cell_aside (cell_aside y3 (ne_block q2)) (ne_block q2)⟩)
        (first | (go_at_call 43; refine (Har.idle (HA.out.har.keep (Keep.refl [] wr).drew (by simp))).mono ?_; rintro e w5 ⟨rfl, k5⟩; have K5 := Lib.hid k5; have y1 := k5.cell (show wr.drew.cell? ⟨bb, 3, none⟩ = _ from c33) (by simp); have y2 := k5.cell (show wr.drew.cell? ⟨ob, 0, none⟩ = _ from o0) (by simp); have y3 := k5.cell (show wr.drew.cell? ⟨ob, 1, none⟩ = _ from o1) (by simp); have b5 := k5.old (show wr.drew.heap[wq.heap.size]? = _ from RB.out) (by simp); have z0 := (cell_of b5 0).trans rfl; have z1 := (cell_of b5 1).trans rfl; have zf := free_of b5; have B5 := Lib.hid b5; clear b5 k5))
      obtain ⟨w6, hw6⟩ : ∃ w6, w6 = (w5.setCell ⟨wq.heap.size, 0, none⟩ (.slice (some ⟨gb, 0, none⟩) A.width A.width)).setCell ⟨wq.heap.size, 1, none⟩ (.slice va (k * 4) vc) := ⟨_, rfl⟩
      have b6 : w6.heap[wq.heap.size]? = some (.cells #[.slice (some ⟨gb, 0, none⟩) A.width A.width, .slice va (k * 4) vc] 68 (0, 0)) := by
        rw [hw6, set_same (w := w5.setCell ⟨wq.heap.size, 0, none⟩ (.slice (some ⟨gb, 0, none⟩) A.width A.width)) (b := wq.heap.size) (set_same B5.out _ _)]
        rfl
      have o6 : ∀ x, x ≠ wq.heap.size → w6.heap[x]? = w5.heap[x]? := fun x hx => by rw [hw6]; exact (set_other hx _ _).trans (set_other hx _ _)
      have k6 : Keep [] wq w6 := by rw [hw6]; exact (((KR.out.drew.trans K5.out).set (.inr (Nat.le_refl _)) _ _).set (.inr (Nat.le_refl _)) _ _)
      rw [← hw6]
      have K6 := Lib.hid k6
      have O6 := Lib.hid o6
      have lv := run_loadVar_row (P := Tryz.prog) w6 wq.heap.size 68 68 _ (0, 0) _ b6 Tryz.underlying68 rfl (by kernel_rfl)
      have g6 := Lib.hid (show w6.heap[gb]? = some (.cells ((slotWords A slot).map (.int .u64)).toArray 75 (0, 0)) from (o6 gb q3).trans (K5.out.old (show wr.drew.heap[gb]? = _ from GB.out) (by simp)))
      have v6 := Lib.hid (show w6.ownsRow (wq.heap.size + 3) 75 1 (.slice va (k * 4) vc) (k * 4) ((regsOf (S.ths.take k)).map (.int .u64)) from Har.owns_block (Pick.owns_keep (show wr.drew.ownsRow _ _ _ _ _ _ from VR.out) K5.out (by simp)) fun x hx => o6 x (by have := (VR.out.lt x hx).1; omega))
      clear hw6 b6 o6 k6 y1 y2 y3 z0 z1 zf o0 o1 c33 q1 q2 q3
      go_wp2_with fail
      refine bodyPost_ret (results_cell_tmp rfl _ _ _ rfl lv) rfl ?_
      have hl : S.ths.length = n := by have := HN.out; omega
      have htk : S.ths.take k = S.ths := List.take_of_length_le (by have := HKN.out; omega)
      have hV := v6.out
      rw [htk] at hV
      have hreg : (regsOf S.ths).length = k * 4 := by
        have := hV.1
        simpa using this
      exact ⟨gb, .slice va (k * 4) vc, rfl, g6.out, by rw [hreg]; exact Pick.owns_mono (base := wq.heap.size + 3) hV (by omega), by have := HGB.out.1; omega, fun e => by have := (hV.lt gb e).1; have := HGB.out.1; omega, K6.out⟩
end Go.Proofs.YtdkdeiofjoccnaaGreat.Lit

/- sched.Run. -/
namespace Go.Proofs.YtdkdeiofjoccnaaGreat.Lit
open Go.RowKit Go.Proofs.YtdkdeiofjoccnaaGreat.Mem Go.Proofs.YtdkdeiofjoccnaaGreat.Ar Go.Proofs.YtdkdeiofjoccnaaGreat.Un
set_option linter.unusedVariables false
set_option maxRecDepth 100000

/-- a program begun, played, drained -/
def begun (l : LP) (P : Park) : Har.Conf St := ⟨harK P l.threads.length, ⟨[arena0 l], l.threads.map th0⟩, 14, false⟩
def played (l : LP) (P : Park) (s : ByteArray) : Har.Conf St := Har.playC (machs P) (Pick.dec s.data.toList) (begun l P)
def drained (l : LP) (P : Park) (s : ByteArray) : Har.Conf St := Har.playC (machs P) [Har.drainPick] ⟨(played l P s).H, (played l P s).s, 14, false⟩

/-- where a program's threads lie, for the plain law -/
structure Laid (l : LP) (P : Park) : Prop where
  n : P.seats.length = l.threads.length
  one : ∃ L, P.ars = [(L, 1)]
  apart : ∀ (i j : Nat) (hi : i < P.seats.length) (hj : j < P.seats.length), P.seats[i].tb = P.seats[j].tb → i = j
  ar : ∀ (i : Nat) (hi : i < P.seats.length), P.seats[i].ar = 0

/-- an outcome as it lies in memory -/
structure OutAt (w : World) (base : Nat) (cv rv : Value) (cells regs : List Int) : Prop where
  cells : ∃ g c, cv = .slice (some ⟨g, 0, none⟩) cells.length c ∧ base ≤ g ∧ rv.ownBlock ≠ some g ∧ w.heap[g]? = some (.cells (cells.map (.int .u64)).toArray 75 (0, 0))
  regs : w.ownsRow base 75 1 rv regs.length (regs.map (.int .u64))

/-- the two blocks that Run begins with -/
def rw0 (w : World) (cv tv : Value) : World := (w.alloc (.cells #[cv, tv] 25)).alloc (.cells #[.slice none 0 0, .slice none 0 0] 68)
theorem rw0_b (w : World) (cv tv : Value) : (rw0 w cv tv).heap[w.heap.size + 1]? = some (.cells #[.slice none 0 0, .slice none 0 0] 68 (0, 0)) := by
  have := alloc_new (w.alloc (.cells #[cv, tv] 25)) (.cells #[.slice none 0 0, .slice none 0 0] 68)
  rw [World.size_alloc] at this
  exact this
theorem rw0_a (w : World) (cv tv : Value) : (rw0 w cv tv).heap[w.heap.size]? = some (.cells #[cv, tv] 25 (0, 0)) := alloc_some _ (alloc_new w _)
theorem rw0_k (w : World) (cv tv : Value) : Keep [] w (rw0 w cv tv) := ((Keep.refl _ _).alloc _).alloc _

/-- a block of two, both cells written -/
theorem two_set {w : World} {b : Nat} {x y : Value} {t : TypeId} (h : w.heap[b]? = some (.cells #[x, y] t (0, 0))) (u v : Value) : ((w.setCell ⟨b, 0, none⟩ u).setCell ⟨b, 1, none⟩ v).heap[b]? = some (.cells #[u, v] t (0, 0)) ∧ Keep [b] w ((w.setCell ⟨b, 0, none⟩ u).setCell ⟨b, 1, none⟩ v) := by
  refine ⟨?_, ((Keep.refl _ _).set (.inl (by simp)) _ _).set (.inl (by simp)) _ _⟩
  rw [set_same (set_same h 0 u) 1 v]
  rfl

theorem run_bad {w : World} {cv tv : Value} {l : LP} (hs : Small l) (hl : LitAt w cv tv l) (h : soundB l = false) (s : ByteArray) :
    Calls Tryz.prog 18 #[.agg #[cv, tv], .string s] w fun e w' => e = .returned (.tuple #[.agg #[.slice none 0 0, .slice none 0 0], .int .i64 35]) ∧ Keep [] w w' := by
  obtain ⟨a1, c1, rfl, s1⟩ := hl.cells
  obtain ⟨a2, c2, ps, rfl, hps, s2, s3⟩ := hl.threads
  have HS := Lib.hid hs
  have H := Lib.hid h
  have HL := Lib.hid hl
  clear hs hl s1 s2 s3 hps h
  obtain ⟨w1, hw1⟩ : ∃ w1, w1 = rw0 w (.slice a1 l.cells.length c1) (.slice a2 l.threads.length c2) := ⟨_, rfl⟩
  have B1 := Lib.hid (rw0_b w (.slice a1 l.cells.length c1) (.slice a2 l.threads.length c2))
  have K1 := Lib.hid (rw0_k w (.slice a1 l.cells.length c1) (.slice a2 l.threads.length c2))
  have q0 := (cell_of (rw0_a w (.slice a1 l.cells.length c1) (.slice a2 l.threads.length c2)) 0).trans rfl
  have q1 := (cell_of (rw0_a w (.slice a1 l.cells.length c1) (.slice a2 l.threads.length c2)) 1).trans rfl
  go_enter Tryz.func18, Tryz.ntmps18
  go_wp2_with fail
  have hw1' : (w.alloc (.cells #[.slice a1 l.cells.length c1, .slice a2 l.threads.length c2] 25)).alloc (.cells #[.slice none 0 0, .slice none 0 0] 68) = w1 := hw1.symm
  rw [hw1']
  rw [← hw1] at B1 K1 q0 q1
  clear hw1 hw1'
  refine (lay_bad HS.out (HL.out.keep0 K1.out) H.out).mono ?_
  rintro e w2 ⟨rfl, k2⟩
  have K2 := Lib.hid k2
  have b2 := k2.old B1.out (by simp)
  have z0 := (cell_of b2 0).trans rfl
  have z1 := (cell_of b2 1).trans rfl
  have zf := free_of b2
  have B2 := Lib.hid b2
  clear k2 b2
  go_wp2_with fail
  obtain ⟨h3, k3⟩ := two_set B2.out (.slice none 0 0) (.slice none 0 0)
  refine bodyPost_ret (results_cell_tmp rfl _ _ _ rfl (run_loadVar_row (P := Tryz.prog) _ (w.heap.size + 1) 68 68 _ (0, 0) _ h3 Tryz.underlying68 rfl (by kernel_rfl))) rfl ?_
  exact ⟨rfl, (K1.out.trans K2.out).chain k3 fun x hx => .inr (by simp at hx; omega)⟩

set_option maxHeartbeats 1000000 in
theorem run_ok {w : World} {cv tv : Value} {l : LP} (hs : Small l) (hl : LitAt w cv tv l) (h : soundB l = true) (s : ByteArray) (hsz : s.size ≤ 2097152) :
    Calls Tryz.prog 18 #[.agg #[cv, tv], .string s] w fun e w' => ∃ P cv rv A, Laid l P ∧ (drained l P s).s.ars = [A] ∧ A.width ≤ 16 ∧ e = .returned (.tuple #[.agg #[cv, rv], .int .i64 0]) ∧
      OutAt w' w.heap.size cv rv (slotWords A 1) (regsOf (drained l P s).s.ths) ∧ Keep [] w w' := by
  obtain ⟨a1, c1, rfl, s1⟩ := hl.cells
  obtain ⟨a2, c2, ps, rfl, hps, s2, s3⟩ := hl.threads
  have HS := Lib.hid hs
  have H := Lib.hid h
  have HL := Lib.hid hl
  clear hs hl s1 s2 s3 hps h
  obtain ⟨w1, hw1⟩ : ∃ w1, w1 = rw0 w (.slice a1 l.cells.length c1) (.slice a2 l.threads.length c2) := ⟨_, rfl⟩
  have B1 := Lib.hid (rw0_b w (.slice a1 l.cells.length c1) (.slice a2 l.threads.length c2))
  have K1 := Lib.hid (rw0_k w (.slice a1 l.cells.length c1) (.slice a2 l.threads.length c2))
  have q0 := (cell_of (rw0_a w (.slice a1 l.cells.length c1) (.slice a2 l.threads.length c2)) 0).trans rfl
  have q1 := (cell_of (rw0_a w (.slice a1 l.cells.length c1) (.slice a2 l.threads.length c2)) 1).trans rfl
  go_enter Tryz.func18, Tryz.ntmps18
  go_wp2_with fail
  have hw1' : (w.alloc (.cells #[.slice a1 l.cells.length c1, .slice a2 l.threads.length c2] 25)).alloc (.cells #[.slice none 0 0, .slice none 0 0] 68) = w1 := hw1.symm
  rw [hw1']
  rw [← hw1] at B1 K1 q0 q1
  clear hw1 hw1'
  refine (lay_ok HS.out (HL.out.keep0 K1.out) H.out).mono ?_
  rintro e w2 ⟨bb, L, hb, hq, vs, ve, vd, P, tsv, rfl, hB, hPn⟩
  have B2 := Lib.hid hB
  have PN := Lib.hid hPn
  clear hB hPn q0 q1
  go_wp2_with fail
  refine (B2.out.play s hsz).mono ?_
  rintro e w3 ⟨rfl, hq3, vs3, ve3, vd3, hB⟩
  have c3 := (cell_of hB.hbb 3).trans rfl
  have B3 := Lib.hid hB
  clear hB
  go_wp2_with fail
  refine (B3.out.drain 14 (by omega)).mono ?_
  rintro e w4 ⟨rfl, hq4, vs4, ve4, vd4, hB⟩
  obtain ⟨n4, e4, hn4⟩ : ∃ (n4 e4 : Int), True := ⟨0, 0, trivial⟩
  obtain ⟨D, hD⟩ : ∃ D, D = drained l P s := ⟨_, rfl⟩
  have hB' : Bench w1 w4 bb L 1 hb hq4 vs4 ve4 vd4 P D.s tsv D.H := by rw [hD]; exact hB
  have B4 := Lib.hid hB'
  have HD := Lib.hid hD
  clear hB hB' c3 hD
  obtain ⟨A, hA⟩ : ∃ A, D.s.ars = [A] := by
    have h1 := B4.out.stand.la
    rw [B4.out.ars] at h1
    match hq : D.s.ars with
    | [] => rw [hq] at h1; simp at h1
    | [A] => exact ⟨A, rfl⟩
    | _ :: _ :: _ => rw [hq] at h1; simp at h1
  have h0 := B4.out.stand.ar 0 (by rw [B4.out.ars]; simp) (by rw [hA]; simp)
  simp only [B4.out.ars, hA, List.getElem_cons_zero] at h0
  have HA := Lib.hid hA
  have H0 := Lib.hid h0
  clear hA h0
  go_wp2_with fail
  have hin : inUseB (D.s.ars.getD 0 (arena0 ⟨[], []⟩)) 1 = true := by rw [HA.out]; exact H0.out.2
  refine (B4.out.outcome (by
    have := PN.out
    have h1 := H.out
    simp only [soundB, betB, Bool.and_eq_true, decide_eq_true_eq] at h1
    omega) ⟨A, HA.out⟩ hin).mono ?_
  clear hin
  rintro e w5 ⟨g, v, rfl, h5, h6, h7, h8, k5⟩
  rw [HA.out] at h5 ⊢
  rw [List.getD_cons_zero] at h5 ⊢
  have B5 := Lib.hid (k5.old (B4.out.keep.old B1.out (by simp)) (by simp))
  have O5 := Lib.hid (And.intro h5 (And.intro h6 (And.intro h7 h8)))
  have K5 := Lib.hid k5
  have hv5 : ∃ a n c, v = .slice a n c := by
    rcases h6.2 with ⟨e, -⟩ | ⟨g, cap, cur, e, -⟩
    · exact ⟨_, _, _, e⟩
    · exact ⟨_, _, _, e⟩
  obtain ⟨va, vn, vc, rfl⟩ := hv5
  have z0 := fun o => (cell_of (alloc_some o B5.out) 0).trans rfl
  have z1 := fun o => (cell_of (alloc_some o B5.out) 1).trans rfl
  have zf := fun o => free_of (alloc_some o B5.out)
  clear h5 h6 h7 h8 k5
  go_wp2_with fail
  have a6 := (Keep.refl [] w5).alloc (.cells #[.slice (some ⟨g, 0, none⟩) A.width A.width, .slice va vn vc] 68)
  obtain ⟨b6, k6⟩ := two_set (alloc_some (.cells #[.slice (some ⟨g, 0, none⟩) A.width A.width, .slice va vn vc] 68) B5.out) (.slice (some ⟨g, 0, none⟩) A.width A.width) (.slice va vn vc)
  refine bodyPost_ret (results_cell_tmp rfl _ _ _ rfl (run_loadVar_row (P := Tryz.prog) _ (w.heap.size + 1) 68 68 _ (0, 0) _ b6 Tryz.underlying68 rfl (by kernel_rfl))) rfl ?_
  have hle : w.heap.size + 2 ≤ w4.heap.size := by
    have h1 := lt_of B1.out
    have h2 := B4.out.keep.size
    omega
  have KK : Keep [] w w5 := (K1.out.trans B4.out.keep).trans K5.out
  obtain ⟨h5, h6, h7, h8⟩ := O5.out
  have hwl : (slotWords A 1).length = A.width := slotWords_length A 1
  refine ⟨P, _, _, A, ⟨PN.out, ⟨L, B4.out.ars⟩, fun i j hi hj e => ?_, fun i hi => ?_⟩, by rw [← HD.out]; exact HA.out, H0.out.1.fits.w2, rfl, ⟨⟨g, A.width, by rw [hwl], by omega, h8, (k6.old (a6.old h5 (by simp)) (by simp; omega))⟩, ?_⟩, (KK.trans a6).chain k6 fun x hx => .inr (by simp at hx; omega)⟩
  · apply Decidable.byContradiction
    intro hne
    exact B4.out.stand.apart (.th i) (.th j) (by simpa using hne) P.seats[i].tb (by rw [own_th hi]; simp) (by rw [own_th hj, e]; simp)
  · obtain ⟨h3, -⟩ := B4.out.stand.th i hi (by rw [B4.out.stand.lt]; exact hi)
    rw [B4.out.ars] at h3
    simpa using h3
  · rw [← HD.out]
    exact Pick.owns_mono (Pick.owns_keep (Pick.owns_keep h6 a6 (by simp)) k6 (by simp; omega)) (by omega)
end Go.Proofs.YtdkdeiofjoccnaaGreat.Lit
