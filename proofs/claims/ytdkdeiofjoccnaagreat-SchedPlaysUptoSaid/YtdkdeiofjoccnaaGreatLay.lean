/- Lay: a litmus program laid out. -/
import Derived.Test.YtdkdeiofjoccnaaGreatParkA
import Derived.Deep.RegionLaw
namespace Go.Proofs.YtdkdeiofjoccnaaGreat.Lit
open Go.RowKit Go.Proofs.YtdkdeiofjoccnaaGreat.Mem Go.Proofs.YtdkdeiofjoccnaaGreat.Ar Go.Proofs.YtdkdeiofjoccnaaGreat.Un
set_option linter.unusedVariables false
set_option maxRecDepth 100000

theorem lay_bad {w : World} {cv tv : Value} {l : LP} (hs : Small l) (hl : LitAt w cv tv l) (h : soundB l = false) :
    Calls Tryz.prog 7 #[.agg #[cv, tv]] w fun e w' => e = .returned (.tuple #[.pointer none, .int .i64 35]) ∧ Keep [] w w' := by
  obtain ⟨a1, c1, rfl, s1⟩ := hl.cells
  obtain ⟨a2, c2, ps, rfl, hps, s2, s3⟩ := hl.threads
  have HS := Lib.hid hs
  have H := Lib.hid h
  have HL := Lib.hid hl
  clear hs hl s1 s2 s3 hps h
  go_enter Tryz.func7, Tryz.ntmps7
  go_wp2_with fail
  refine (sound HS.out (HL.out.keep0 ((Keep.refl [] w).alloc _))).mono ?_
  rintro e w1 ⟨rfl, k1⟩
  have K1 := Lib.hid k1
  rw [H.out]
  clear k1
  go_wp2_with fail
  go_ret2
  exact ⟨rfl, ((Keep.refl [] w).alloc _).trans K1.out⟩

theorem infoInstr : (Tryz.prog.info? 140).map (fun i => (i.zero, i.size, i.bytes)) = some (some (.agg #[.int .i64 0, .int .i64 0, .int .i64 0, .int .i64 0, .int .u64 0, .int .i64 0, .int .u64 0, .int .i64 0]), 8, 64) := by kernel_rfl
theorem flatI_one (l : List Ins) : ∀ u ∈ flatI l, u.oneCell' = true := by
  intro u hu
  simp only [flatI, List.mem_flatMap] at hu
  obtain ⟨e, -, hu⟩ := hu
  simp only [Ins.cells, List.mem_cons, List.not_mem_nil, or_false] at hu
  rcases hu with rfl | rfl | rfl | rfl | rfl | rfl | rfl | rfl <;> rfl
theorem soundGo_len {nc : Nat} : ∀ (n : Nat) (l : List (List Ins)), soundGo nc n l = true → ∀ p ∈ l, p.length ≤ 10 ∧ ∀ x ∈ p, fitB x nc = true
  | _, [], _, p, hp => by simp at hp
  | n, q :: r, h, p, hp => by
    unfold soundGo at h
    split at h
    · cases h
    · split at h
      · rename_i h1 h2
        rcases List.mem_cons.1 hp with rfl | hp
        · exact ⟨by omega, fun x hx => List.all_eq_true.1 h2 x hx⟩
        · exact soundGo_len _ r h p hp
      · cases h
theorem sound_all {l : LP} (h : soundB l = true) : ∀ p ∈ l.threads, p.length ≤ 10 ∧ ∀ x ∈ p, fitB x l.cells.length = true := by
  unfold soundB at h
  simp only [Bool.and_eq_true] at h
  exact soundGo_len 0 l.threads h.2.2
theorem sound_len {l : LP} (h : soundB l = true) : ∀ p ∈ l.threads, p.length ≤ 10 := fun p hp => (sound_all h p hp).1

/-- a thread at its begin -/
def th0 (p : List Ins) : Th := ⟨p, [0, 0, 0, 0], 0⟩
/-- the harness with the first threads handed in -/
def harK (P : Park) (nt : Nat) : Har.Har := ⟨(List.range nt).map fun i => match P.seats[i]? with
  | some s => [⟨ptr s.tb, (i : Int), false⟩]
  | none => [], 0, [], []⟩

theorem harK_len (P : Park) (nt : Nat) : (harK P nt).queues.length = nt := by simp [harK]
theorem harK_empty (P : Park) (nt : Nat) {k : Nat} (hk : k < (harK P nt).queues.length) (hP : P.seats.length ≤ k) : (harK P nt).queues[k] = [] := by
  simp only [harK, List.getElem_map, List.getElem_range, List.getElem?_eq_none hP]
theorem harK_zero (x : Bk × Nat) (nt : Nat) : harK ⟨[x], []⟩ nt = ⟨List.replicate nt [], 0, [], []⟩ := by
  unfold harK
  have e : ((List.range nt).map fun i => match ((⟨[x], []⟩ : Park).seats[i]? : Option Seat) with
    | some s => ([⟨ptr s.tb, (i : Int), false⟩] : List Har.Job)
    | none => []) = List.replicate nt [] := by
    apply List.ext_getElem (by simp)
    intro i h1 h2
    simp
  rw [e]
theorem sum_le2 {α : Type} (f : α → Nat) (hf : ∀ x, f x ≤ 2) : ∀ l : List α, (l.map f).sum ≤ 2 * l.length
  | [] => by simp
  | x :: l => by
    have := sum_le2 f hf l
    have := hf x
    simp only [List.map_cons, List.sum_cons, List.length_cons]
    omega
theorem harK_due (P : Park) (nt : Nat) : Har.due (harK P nt) ≤ 2 * nt := by
  unfold Har.due harK
  rw [List.map_map]
  refine Nat.le_trans (sum_le2 _ (fun i => ?_) _) (by simp)
  simp only [Function.comp]
  split <;> simp [Har.dueQ, Har.Job.due]
theorem harK_pend (P : Park) (nt : Nat) {k : Nat} (hk : k < nt) (hP : P.seats.length ≤ k) : Har.pend (harK P nt) (k : Int) = 0 := by
  have hk' : k < (harK P nt).queues.length := by rw [harK_len]; exact hk
  rw [Har.pend_of hk', harK_empty P nt hk' hP]
  rfl
theorem harK_more (P : Park) (s : Seat) (nt : Nat) {k : Nat} (hn : nt ≤ 16) (hk : k < (harK P nt).queues.length) (hP : P.seats.length = k) :
    (harK P nt).put k ((harK P nt).queues[k] ++ Har.jobsOf (k : Int) 0 [⟨s.tb, 0, none⟩]) = harK (P.more s) nt := by
  have hk' : k < nt := by simpa [harK] using hk
  rw [harK_empty P nt hk (by omega)]
  unfold Har.Har.put
  have e1 : Har.jobsOf (k : Int) 0 [⟨s.tb, 0, none⟩] = [⟨ptr s.tb, (k : Int), false⟩] := by
    simp only [Har.jobsOf, ptr]
    rw [IntWalk.i64_in _ (by omega)]
    simp
  rw [e1, List.nil_append]
  have e2 : ((harK P nt).queues.set k [⟨ptr s.tb, (k : Int), false⟩]) = (harK (P.more s) nt).queues := by
    apply List.ext_getElem (by simp [harK])
    intro i h1 h2
    rw [List.getElem_set]
    simp only [harK, List.getElem_map, List.getElem_range, Park.more]
    split
    · rename_i e
      subst e
      rw [← hP]
      simp
    · rename_i e
      by_cases hi : i < P.seats.length
      · rw [List.getElem?_append_left hi]
      · rw [List.getElem?_eq_none (by omega), List.getElem?_eq_none (by simp; omega)]
  rw [e2]
  rfl

/-- the arena of a program laid out -/
def arena0 (l : LP) : Arena Unit := allocd (fresh Unit 1 l.cells.length) () l.cells

theorem given_of {w : World} {a : Option Addr} {l : LP} {L : Bk} (h : Sees w a (l.cells.map (.int .u64))) (hL : ∀ g o, a = some ⟨g, o, none⟩ → g ∉ L.blocks) : Given w L a l.cells :=
  ⟨fun i hi => let ⟨g, o, e, c⟩ := h.at_ i (by simpa using hi)
    ⟨g, o, e, hL g o e, by rw [c]; simp [nth, List.getD_eq_getElem?_getD, List.getElem?_eq_getElem hi]⟩⟩
theorem Sees.lt {w : World} {a : Option Addr} {xs : List Value} (h : Sees w a xs) (hn : 0 < xs.length) : ∀ g o, a = some ⟨g, o, none⟩ → g < w.heap.size := by
  intro g o e
  obtain ⟨g', o', e', c⟩ := h.at_ 0 hn
  rw [e] at e'
  simp only [Option.some.injEq, Addr.mk.injEq, and_true] at e'
  obtain ⟨rfl, rfl⟩ := e'
  apply Decidable.byContradiction
  intro hge
  have : w.heap[g]? = none := Array.getElem?_eq_none (by omega)
  simp [World.cell?, this] at c

set_option maxHeartbeats 1000000 in
theorem lay_ok {w : World} {cv tv : Value} {l : LP} (hs : Small l) (hl : LitAt w cv tv l) (h : soundB l = true) :
    Calls Tryz.prog 7 #[.agg #[cv, tv]] w fun e w' => ∃ bb L hb hq vs ve vd P tsv, e = .returned (.tuple #[.pointer (some ⟨bb, 0, none⟩), .int .i64 0]) ∧
      Bench w w' bb L 1 hb hq vs ve vd P ⟨[arena0 l], l.threads.map th0⟩ tsv (harK P l.threads.length) ∧ P.seats.length = l.threads.length := by
  obtain ⟨a1, c1, rfl, s1⟩ := hl.cells
  obtain ⟨a2, c2, ps, rfl, hps, s2, s3⟩ := hl.threads
  have hb : betB 1 l.threads.length 4 = true ∧ betB 1 l.cells.length 4 = true := by
    unfold soundB at h
    simp only [Bool.and_eq_true] at h
    exact ⟨h.1, h.2.1⟩
  have hnt : 1 ≤ l.threads.length ∧ l.threads.length ≤ 4 := by
    have := hb.1
    simp only [betB, Bool.and_eq_true, decide_eq_true_eq] at this
    omega
  have hnc : 1 ≤ l.cells.length ∧ l.cells.length ≤ 4 := by
    have := hb.2
    simp only [betB, Bool.and_eq_true, decide_eq_true_eq] at this
    omega
  obtain ⟨nt, hnt'⟩ : ∃ n, n = l.threads.length := ⟨_, rfl⟩
  obtain ⟨nc, hnc'⟩ : ∃ n, n = l.cells.length := ⟨_, rfl⟩
  obtain ⟨i0, hi, hz0, hz1, hz2⟩ := info_parts infoInstr
  have HI := Lib.hid hi
  have HZ := Lib.hid (And.intro hz0 (And.intro hz1 hz2))
  clear hi hz0 hz1 hz2
  have HS := Lib.hid hs
  have H := Lib.hid h
  have HL := Lib.hid hl
  have S1 := Lib.hid s1
  have S2 := Lib.hid s2
  have S3 := Lib.hid s3
  have HP := Lib.hid hps
  have HN := Lib.hid (And.intro hnt' hnc')
  rw [← hnt'] at hnt HL
  rw [← hnc'] at hnc HL
  rw [← hnt', ← hnc']
  obtain ⟨hnt1, hnt2⟩ := hnt
  obtain ⟨hnc1, hnc2⟩ := hnc
  clear hs hl s1 s2 s3 hps h hb hnt' hnc'
  go_enter Tryz.func7, Tryz.ntmps7
  go_wp2_with fail
  have hbox := alloc_new w (.cells #[.slice a1 nc c1, .slice a2 nt c2] 25)
  refine (sound HS.out (HL.out.keep0 ((Keep.refl [] w).alloc _))).mono ?_
  rintro e w1 ⟨rfl, k1⟩
  have B1 : Hid (w1.heap[w.heap.size]? = some (.cells #[.slice a1 nc c1, .slice a2 nt c2] 25 (0, 0))) := Lib.hid (k1.old hbox (by simp))
  have K1 := Lib.hid (((Keep.refl [] w).alloc (.cells #[.slice a1 nc c1, .slice a2 nt c2] 25)).trans k1)
  rw [H.out]
  clear k1 hbox
  have z0 : ∀ o : Obj, (w1.alloc o).cell? ⟨w.heap.size, 0, none⟩ = some (.slice a1 nc c1) := fun o => by rw [cell_of (alloc_some o B1.out)]; rfl
  go_wp2_with fail
  obtain ⟨bb, hbb⟩ : ∃ bb, bb = w1.heap.size := ⟨_, rfl⟩
  obtain ⟨w2, hw2⟩ : ∃ w2, w2 = w1.alloc (.cells #[.pointer none, .int .i64 0, .slice none 0 0, .pointer none] 87) := ⟨_, rfl⟩
  have b2 : w2.heap[bb]? = some (.cells #[.pointer none, .int .i64 0, .slice none 0 0, .pointer none] 87 (0, 0)) := by rw [hw2, hbb]; exact alloc_new w1 _
  have x2 : w2.heap[w.heap.size]? = some (.cells #[.slice a1 nc c1, .slice a2 nt c2] 25 (0, 0)) := by rw [hw2]; exact alloc_some _ B1.out
  have K2 := Lib.hid (show Keep [] w1 w2 by rw [hw2]; exact (Keep.refl _ _).alloc _)
  have hxlt : w.heap.size < bb := by rw [hbb]; exact lt_of B1.out
  rw [← hw2, ← hbb]
  have BB := Lib.hid hbb
  clear hw2 z0 hbb
  refine (new_ok 1 nc (by omega) (by omega) (by omega) (by omega)).mono ?_
  rintro e w3 ⟨L, rfl, hL, hA, k3⟩
  have hLo : ∀ g, g < w2.heap.size → g ∉ L.blocks := fun g hg hm => by have := hL g hm; omega
  have b3 := k3.old b2 (by simp)
  have x3 := k3.old x2 (by simp)
  have A3 := Lib.hid hA
  have K3 := Lib.hid k3
  have HLO := Lib.hid (And.intro hL hLo)
  have hbl := hLo bb (lt_of b2)
  have hxl := hLo w.heap.size (lt_of x2)
  clear hL hLo hA k3 b2 x2
  have y0 : w3.cell? ⟨bb, 0, none⟩ = some (.pointer none) := by rw [cell_of b3]; rfl
  have f0 := free_of b3 0
  go_wp2_with fail
  obtain ⟨w4, hw4⟩ : ∃ w4, w4 = w3.setCell ⟨bb, 0, none⟩ (.pointer (some ⟨L.b, 0, none⟩)) := ⟨_, rfl⟩
  have b4 : w4.heap[bb]? = some (.cells #[.pointer (some ⟨L.b, 0, none⟩), .int .i64 0, .slice none 0 0, .pointer none] 87 (0, 0)) := by rw [hw4, set_same b3]; rfl
  have x4 : w4.heap[w.heap.size]? = some (.cells #[.slice a1 nc c1, .slice a2 nt c2] 25 (0, 0)) := by rw [hw4]; exact (set_other (by omega) _ _).trans x3
  have K4 : Hid (Keep [bb] w3 w4) := Lib.hid (by rw [hw4]; exact (Keep.refl _ _).set (.inl (by simp)) _ _)
  have A4 := Lib.hid (A3.out.keep K4.out (by simpa using hbl))
  rw [← hw4]
  clear hw4 y0 f0 b3 x3
  have y0 : w4.cell? ⟨bb, 0, none⟩ = some (.pointer (some ⟨L.b, 0, none⟩)) := by rw [cell_of b4]; rfl
  have q0 : w4.cell? ⟨w.heap.size, 0, none⟩ = some (.slice a1 nc c1) := by rw [cell_of x4]; rfl
  have B4 := Lib.hid (And.intro b4 x4)
  have HXL := Lib.hid (And.intro hbl hxl)
  clear b4 x4 hbl hxl
  have hal : Calls Tryz.prog 27 #[.pointer (some ⟨L.b, 0, none⟩), .agg #[], .slice a1 nc c1] w4.drew fun e w' => e = .returned (.tuple #[.int .i64 1, .int .i64 0]) ∧ Un.At 0 w' L (arena0 l) ∧ Keep L.blocks w4.drew w' := by
    have hg : Given w4.drew L a1 l.cells := by
      have s1' := ((((S1.out.keep0 K1.out).keep0 K2.out).keep0 K3.out).keep K4.out (fun g o e => by
        have := S1.out.lt (by rw [List.length_map, ← HN.out.2]; exact hnc1) g o e
        have := BB.out
        have := K1.out.size
        simp
        omega))
      refine given_of (s1'.keep0 ((Keep.refl [] w4).drew)) fun g o e => HLO.out.2 g ?_
      have := S1.out.lt (by rw [List.length_map, ← HN.out.2]; exact hnc1) g o e
      have := K1.out.size
      have := K2.out.size
      omega
    have hA := A4.out.keep ((Keep.refl [] w4).drew) (by simp)
    have hn := HN.out.2
    subst hn
    exact alloc_ok hA () a1 c1 l.cells hg (Nat.le_refl _) (Nat.le_refl _)
  have AL := Lib.hid hal
  clear hal
  go_wp2_with fail
  go_region_held3 (fun w' => w'.cell? ⟨bb, 0, none⟩ = some (.pointer (some ⟨L.b, 0, none⟩)) ∧ w'.cell? ⟨w.heap.size, 0, none⟩ = some (.slice a1 nc c1)) (first | go_keep | exact ⟨cell_aside v0 (ne_off (by omega)), cell_aside v1 (ne_block (by omega))⟩)
    (first | (go_at_call 27; refine AL.out.mono ?_; rintro e w5 ⟨rfl, h5, k5⟩; have A5 := Lib.hid h5; have K5 := Lib.hid k5; have B5 := Lib.hid (And.intro (k5.old (show w4.drew.heap[bb]? = _ from B4.out.1) HXL.out.1) (k5.old (show w4.drew.heap[w.heap.size]? = _ from B4.out.2) HXL.out.2)); have v0 : w5.cell? ⟨bb, 0, none⟩ = some (.pointer (some ⟨L.b, 0, none⟩)) := (cell_of B5.out.1 0).trans rfl; have v1 : w5.cell? ⟨w.heap.size, 0, none⟩ = some (.slice a1 nc c1) := (cell_of B5.out.2 0).trans rfl; have v2 : w5.cell? ⟨bb, 1, none⟩ = some (.int .i64 0) := (cell_of B5.out.1 1).trans rfl; have v3 := free_of B5.out.1 1; clear h5 k5))
  obtain ⟨w6, hw6⟩ : ∃ w6, w6 = w5.setCell ⟨bb, 1, none⟩ (.int .i64 1) := ⟨_, rfl⟩
  have b6 : w6.heap[bb]? = some (.cells #[.pointer (some ⟨L.b, 0, none⟩), .int .i64 1, .slice none 0 0, .pointer none] 87 (0, 0)) := by rw [hw6, set_same B5.out.1]; rfl
  have x6 : w6.heap[w.heap.size]? = some (.cells #[.slice a1 nc c1, .slice a2 nt c2] 25 (0, 0)) := by rw [hw6]; exact (set_other (by omega) _ _).trans B5.out.2
  have K6 : Hid (Keep [bb] w5 w6) := Lib.hid (by rw [hw6]; exact (Keep.refl _ _).set (.inl (by simp)) _ _)
  have A6 := Lib.hid (A5.out.keep K6.out (by simpa using HXL.out.1))
  rw [← hw6]
  clear hw6 v0 v1 v2 v3 y0 q0
  have q1 : w6.cell? ⟨w.heap.size, 1, none⟩ = some (.slice a2 nt c2) := (cell_of x6 1).trans rfl
  have B6 := Lib.hid (And.intro b6 x6)
  clear b6 x6
  go_wp2_with fail
  refine (Har.new_ok nt hnt1 (by omega)).mono ?_
  rintro e w7 ⟨hb, hq, vs, ve, vd, rfl, hH, hnew, k7⟩
  have H7 := Lib.hid hH
  have K7 := Lib.hid k7
  have N7 := Lib.hid hnew
  have B7 := Lib.hid (And.intro (k7.old B6.out.1 (by simp)) (k7.old B6.out.2 (by simp)))
  have A7 := Lib.hid (A6.out.keep k7 (by simp))
  clear hH hnew k7 q1
  have y3 : w7.cell? ⟨bb, 3, none⟩ = some (.pointer none) := (cell_of B7.out.1 3).trans rfl
  have f3 := free_of B7.out.1 3
  have q1 : w7.cell? ⟨w.heap.size, 1, none⟩ = some (.slice a2 nt c2) := (cell_of B7.out.2 1).trans rfl
  have hne : w.heap.size ≠ bb := by omega
  have hne2 := hne.symm
  go_wp2_with fail
  obtain ⟨w8, hw8⟩ : ∃ w8, w8 = w7.setCell ⟨bb, 3, none⟩ (.pointer (some ⟨hb, 0, none⟩)) := ⟨_, rfl⟩
  have b8 : w8.heap[bb]? = some (.cells #[.pointer (some ⟨L.b, 0, none⟩), .int .i64 1, .slice none 0 0, .pointer (some ⟨hb, 0, none⟩)] 87 (0, 0)) := by rw [hw8, set_same B7.out.1]; rfl
  have K8 : Hid (Keep [bb] w7 w8) := Lib.hid (by rw [hw8]; exact (Keep.refl _ _).set (.inl (by simp)) _ _)
  rw [← hw8]
  clear hw8 y3 f3 q1
  have himm : True := trivial
  have hbench : Bench w w8 bb L 1 hb hq vs ve vd ⟨[(L, 1)], []⟩ ⟨[arena0 l], []⟩ (.slice none 0 0) ⟨List.replicate nt [], 0, [], []⟩ := by
    have hnew := N7.out
    have hsz1 := K1.out.size
    have hsz2 := K2.out.size
    have hsz3 := K3.out.size
    have hsz4 := K4.out.size
    have hsz5 : w4.heap.size ≤ w5.heap.size := K5.out.size
    have hsz6 := K6.out.size
    have hbb1 := BB.out
    have hbb2 := lt_of B6.out.1
    have hL := HLO.out.1
    have hnb : bb ∉ Har.blocks hb hq (ve :: vd :: vs) := fun hm => by have := hnew _ hm; omega
    have hA := A7.out.keep K8.out (by simpa using HXL.out.1)
    have hall : Park.all ⟨[(L, 1)], []⟩ = L.blocks := by simp [Park.all]
    refine ⟨b8, rfl, ⟨fun k k' hne x hx hx' => ?_, rfl, rfl, fun i h1 h2 => ?_, fun j h1 _ => by simp at h1⟩, H7.out.keep K8.out (by simpa using hnb), fun q hq' j hj => ?_, ?_, ?_, fun x hx hm => ?_, ⟨?_, hnb⟩, fun g hg => by simp [Value.ownBlock] at hg, ?_, ?_⟩
    · have key : ∀ k, x ∈ Park.own ⟨[(L, 1)], []⟩ k → k = .ar 0 := by
        intro k hk
        cases k with
        | ar i =>
          cases i with
          | zero => rfl
          | succ i => simp [Park.own] at hk
        | th j => simp [Park.own] at hk
        | pr j => simp [Park.own] at hk
      exact hne ((key k hx).trans (key k' hx').symm)
    · obtain rfl : i = 0 := by simpa using h1
      exact ⟨hA, by simp [inUseB, arena0, allocd, nextSlot, fresh, nth]⟩
    · simp only [List.mem_replicate] at hq'
      rw [hq'.2] at hj
      simp at hj
    · have e := harK_due ⟨[(L, 1)], []⟩ nt
      have e2 := harK_zero (L, 1) nt
      rw [e2] at e
      exact ⟨by show 0 + _ ≤ _; omega, Nat.le_refl _⟩
    · exact World.ownsRow_nil _ _ _ _
    · rw [hall] at hx
      have := hnew _ hm
      have := arena_lt A6.out x hx
      omega
    · rw [hall]
      exact HXL.out.1
    · rintro x (hx | hx | rfl | hx)
      · rw [hall] at hx
        have := hL x hx
        omega
      · have := hnew x hx
        omega
      · omega
      · simp [Value.ownBlock] at hx
    · have c1 := ((K1.out.trans K2.out).trans K3.out).chain K4.out (fun x hx => .inr (by simp at hx; omega))
      have c2 := (c1.drew).chain K5.out (fun x hx => .inr (by have := hL x hx; omega))
      have c3 := c2.chain K6.out (fun x hx => .inr (by simp at hx; omega))
      exact (c3.trans K7.out).chain K8.out (fun x hx => .inr (by simp at hx; omega))
  have HB := Lib.hid hbench
  have IM := Lib.hid himm
  clear hbench himm
  go_loopw [53] (fun i wr => ∃ (k : Nat) (P : Park) (tsv : Value) (hq' : Nat) (vs' : List Value) (ve' vd' : Value), i = .int .i64 k ∧ k ≤ nt ∧ P.seats.length = k ∧ P.ars = [(L, 1)] ∧ Bench w wr bb L 1 hb hq' vs' ve' vd' P ⟨[arena0 l], (l.threads.take k).map th0⟩ tsv (harK P nt)) (fun i _ => nt - (intOf i).toNat)
  case atStart =>
    refine ⟨0, ⟨[(L, 1)], []⟩, .slice none 0 0, hq, vs, ve, vd, rfl, Nat.zero_le _, rfl, rfl, ?_⟩
    have e := harK_zero (L, 1) nt
    rw [e]
    exact HB.out
  case round =>
    obtain ⟨k, P, tsv, hq', vs', ve', vd', rfl, hk, hPl, hPa, hBench⟩ := hrel
    have BR := Lib.hid hBench
    have PL := Lib.hid (And.intro hPl hPa)
    clear hBench hPl hPa
    by_cases hlt : k < nt
    · have hkt : k < l.threads.length := by have := HN.out.1; omega
      have hkp : k < ps.length := by rw [HP.out]; exact hkt
      obtain ⟨g, o, rfl, x0⟩ := (S2.out.keep0 BR.out.keep).at_ k hkp
      obtain ⟨a', c', he, s4⟩ := S3.out k hkp hkt
      rw [he] at x0
      obtain ⟨p, hp⟩ : ∃ p, p = l.threads[k] := ⟨_, rfl⟩
      rw [← hp] at x0 s4
      obtain ⟨np, hnp⟩ : ∃ n, n = p.length := ⟨_, rfl⟩
      rw [← hnp] at x0
      have S4 := Lib.hid (s4.keep0 BR.out.keep)
      have HPP := Lib.hid (And.intro (show ∃ hk : k < l.threads.length, p = l.threads[k] from ⟨hkt, hp⟩) hnp)
      have c0 := (cell_of BR.out.hbb 0).trans rfl
      have c1' := (cell_of BR.out.hbb 1).trans rfl
      clear he s4 hp hkt hkp hnp
      have hsm : np ≤ 1000000000000000000 := by
        obtain ⟨⟨hkt, hp⟩, hnp⟩ := HPP.out
        rw [hnp, hp]
        exact HS.out.p _ (List.getElem_mem hkt)
      have hnp10 : np ≤ 10 := by
        obtain ⟨⟨hkt, hp⟩, hnp⟩ := HPP.out
        rw [hnp, hp]
        exact sound_len H.out _ (List.getElem_mem hkt)
      have d1 := Lib.hid (show (flatI p).length = np * 8 by rw [flatI_length, ← HPP.out.2])
      have d2 := Lib.hid (flatI_one p)
      go_wp2_with fail
      go_region_law
        (first
          | (refine step_copy (by rfl) _ _ (by rfl) 140 i0 _ 8 64 Tryz.underlying93 HI.out HZ.out.1 HZ.out.2.1 HZ.out.2.2 rfl (by decide) a' np c' (flatI p) (by rfl) d1.out (S4.out.keep0 ((Keep.refl [] _).drew)) d2.out (by unfold maxLen; omega) (by omega) ?_; intro a7 c7 w7 hc7; have C7 := Lib.hid hc7; have m0 := hc7.keep.cell (show World.cell? (World.drew _) ⟨bb, 0, none⟩ = _ from c0) (by simp); have m1 := hc7.keep.cell (show World.cell? (World.drew _) ⟨bb, 1, none⟩ = _ from c1') (by simp); clear hc7))
      all_goals
        obtain ⟨tb, htb⟩ : ∃ tb, tb = w7.heap.size := ⟨_, rfl⟩
        obtain ⟨wa, hwa⟩ : ∃ wa, wa = w7.alloc (.cells #[.slice a7 np c7, .iface 84 (.agg #[.pointer (some ⟨L.b, 0, none⟩), .int .i64 1]), .int .u64 0, .int .u64 0, .int .u64 0, .int .u64 0, .int .i64 0] 98) := ⟨_, rfl⟩
        have hT : ThAt wa tb (.slice a7 np c7) L.b 1 (th0 p) := by
          refine ⟨?_, rfl, ?_, fun e => ?_⟩
          · rw [hwa, htb]
            exact alloc_new w7 _
          · rw [show (th0 p).prog = p from rfl, ← HPP.out.2]
            exact Har.owns_block (owns_mono C7.out.own (Nat.zero_le _)) fun x hx => by rw [hwa]; exact alloc_old _ (C7.out.own.lt x hx).2
          · have h1 := C7.out.at_ tb e
            have h2 := C7.out.first tb e
            omega
        have KA := Lib.hid (show Keep [] wr wa by rw [hwa]; exact ((Keep.refl [] wr).drew.trans C7.out.keep).alloc _)
        have hbn : ∀ x ∈ benchAll bb hb hq' vs' ve' vd' P tsv, x < wr.heap.size := BR.out.lt
        have hs7 : wr.heap.size ≤ w7.heap.size := ((Keep.refl [] wr).drew.trans C7.out.keep).size
        have BA := Lib.hid (BR.out.frame0 KA.out)
        have hseat := BA.out.seat ⟨tb, .slice a7 np c7, 0⟩ (th0 p) rfl hT (fun x hx h0 => by
            obtain ⟨⟨hkt, hp⟩, hnp⟩ := HPP.out
            exact (sound_all H.out p (by rw [hp]; exact List.getElem_mem hkt)).2 x hx) (by show p.length ≤ 100; have := HPP.out.2; omega) (Nat.zero_le _)
          (fun hm => by have h9 : tb < wr.heap.size := hbn _ hm; omega) (fun g hg hm => by have h1 := C7.out.at_ g hg; have := hbn _ hm; simp at h1; omega) (by show w.heap.size ≤ tb; have := BR.out.keep.size; omega) (fun g hg => by have h1 := C7.out.at_ g hg; have := BR.out.keep.size; simp at h1; omega)
        have HSEAT := Lib.hid hseat
        rw [← hwa, ← htb]
        have m2 := (cell_of BA.out.hbb 2).trans rfl
        have m3 := (cell_of BA.out.hbb 3).trans rfl
        have f2 := free_of BA.out.hbb 2
        have TB := Lib.hid (And.intro htb (lt_of hT.hb))
        clear hT hwa htb hbn hs7 hseat m0 m1 c0 c1'
        obtain ⟨iT, hiT, hzT0, hzT1, hzT2⟩ := info_parts Har.infoT
        have HIT := Lib.hid hiT
        have HZT := Lib.hid (And.intro hzT0 (And.intro hzT1 hzT2))
        clear hiT hzT0 hzT1 hzT2
        have e1 := Lib.hid (Har.one_ptr ⟨tb, 0, none⟩)
        have e2 := Lib.hid (show P.seats.length + 1 ≤ maxLen by unfold maxLen; have := PL.out.1; omega)
        have e3 := Lib.hid (show (P.seats.length + 1) * 8 ≤ 140737488355328 by have := PL.out.1; omega)
        have HOWN := Lib.hid (BA.out.thr.alloc (.cells #[.pointer (some ⟨tb, 0, none⟩)] 38))
        have mz : ∀ o : Obj, (wa.alloc o).cell? ⟨bb, 2, none⟩ = some tsv := fun o => (World.cell?_of_block (w := wa) (alloc_old o (lt_of BA.out.hbb))).trans m2
        go_wp2_with (at_builtin; refine wpList_append_lies _ rfl _ _ 85 rfl 0 38 iT _ 1 8 Tryz.underlying85 HIT.out HZT.out.1 HZT.out.2.1 HZT.out.2.2 rfl (by decide) tsv P.seats.length (P.seats.map fun s => ptr s.tb) rfl HOWN.out ⟨wa.heap.size, 0, none⟩ 1 1 [.pointer (some ⟨tb, 0, none⟩)] rfl rfl (cell_one_new _ _ _) e1.out (by decide) e2.out e3.out (Nat.zero_le _) _ rfl ?_)
        intro g8 cap8 w9 hown9 hgrow9 hat9 hlt9
        have hB1 := BA.out.frame0 ((Keep.refl [] wa).alloc (.cells #[.pointer (some ⟨tb, 0, none⟩)] 38))
        have hs1 := And.intro (HSEAT.out.1.keep ((Keep.refl [] wa).alloc (.cells #[.pointer (some ⟨tb, 0, none⟩)] 38)) (by simp)) HSEAT.out.2
        have hpush := hB1.pushT hs1 hown9 hgrow9 (fun x hx => by
          have hx' : g8 = x := by simpa [Value.ownBlock] using hx
          subst hx'
          exact hat9.imp id (fun e => by rw [e]; simp))
        have n2 : w9.cell? ⟨bb, 2, none⟩ = some tsv := (hgrow9.cell_far _ (by simp; have := lt_of BA.out.hbb; omega) (fun e => (BA.out.ap3 bb e.symm).1 rfl)).trans (mz _)
        have n3 : w9.frozen? ⟨bb, 2, none⟩ = false := (hgrow9.frozen_far _ (by simp; have := lt_of BA.out.hbb; omega) (fun e => (BA.out.ap3 bb e.symm).1 rfl)).trans (free_of (alloc_some _ BA.out.hbb) 2)
        have BP := Lib.hid hpush
        have p3 := (cell_of hpush.hbb 3).trans rfl
        have pz := fun o : Obj => (cell_of (alloc_some o hpush.hbb) 3).trans rfl
        have TB2 := Lib.hid (show tb < (w9.setCell ⟨bb, 2, none⟩ (.slice (some ⟨g8, 0, none⟩) (P.seats.length + 1) cap8)).heap.size by
          have := hgrow9.size
          have := TB.out.2
          simp at *
          omega)
        clear hown9 hgrow9 hat9 hlt9 hB1 hs1 hpush m2 m3 mz f2
        go_wp2_with fail
        have hkn := PL.out.1
        have BX := Lib.hid (BP.out.frame0 ((Keep.refl [] _).alloc (.cells #[.pointer (some ⟨tb, 0, none⟩)] 38)))
        have hkq : k < (harK P nt).queues.length := by rw [harK_len]; exact hlt
        have hpz := harK_pend P nt hlt (by omega)
        refine (Har.submit BX.out.since k hkq (k : Int) (some ⟨w9.heap.size, 0, none⟩) 1 [⟨tb, 0, none⟩] ⟨fun i hi => ?_, fun g o e => ?_⟩ (fun m hm => ?_) ?_ ?_ ?_).mono ?_
        · obtain rfl : i = 0 := by simpa using hi
          refine ⟨_, _, rfl, ?_⟩
          have := alloc_new (w9.setCell ⟨bb, 2, none⟩ (.slice (some ⟨g8, 0, none⟩) (P.seats.length + 1) cap8)) (.cells #[.pointer (some ⟨tb, 0, none⟩)] 38)
          rw [size_set] at this
          rw [cell_of this]
          rfl
        · simp only [Option.some.injEq, Addr.mk.injEq] at e
          obtain ⟨rfl, -, -⟩ := e
          refine ⟨fun hm => ?_, by simp⟩
          have hlt' := BP.out.lt w9.heap.size (by
            simp only [benchAll, List.mem_cons, List.mem_append]
            rcases List.mem_append.1 hm with hm | hm
            · exact .inr (.inr (.inr hm))
            · exact .inr (.inr (.inl hm)))
          simp at hlt'
        · simp only [List.mem_singleton] at hm
          subst hm
          exact ⟨P.seats.length, by simp [Park.more], by simp [Park.more, ptr]⟩
        · rw [hpz]; simp
        · rw [hpz]; omega
        · have := harK_due P nt
          show 0 + _ + 2 * 1 ≤ _
          omega
        rintro e wz ⟨rfl, hq2, vs2, ve2, vd2, hS⟩
        have hfin := BX.out.after hS
        rw [harK_more P ⟨tb, .slice a7 np c7, 0⟩ nt (by omega) hkq hkn] at hfin
        have BF := Lib.hid hfin
        clear hS hfin hkq hpz p3 pz n2 n3
        go_wp2_with fail
        go_roundw
        case rel =>
          refine ⟨k + 1, P.more ⟨tb, .slice a7 np c7, 0⟩, .slice (some ⟨g8, 0, none⟩) (P.seats.length + 1) cap8, hq2, vs2, ve2, vd2, by go_num, hlt, by simp [Park.more, hkn], PL.out.2, ?_⟩
          obtain ⟨⟨hkt, hp⟩, -⟩ := HPP.out
          have e : (⟨[arena0 l], (l.threads.take (k + 1)).map th0⟩ : St) = St.more ⟨[arena0 l], (l.threads.take k).map th0⟩ (th0 p) := by
            unfold St.more
            rw [List.take_succ_eq_append_getElem hkt, List.map_append, hp]
            rfl
          rw [e]
          exact BF.out
        case measure => simp [intOf]; omega
    · have hkn : k = nt := by omega
      have HKN := Lib.hid hkn
      clear hkn
      go_wp2_with fail
      go_ret2
      have hB := BR.out
      have e : l.threads.take k = l.threads := List.take_of_length_le (by have := HN.out.1; have := HKN.out; omega)
      rw [e] at hB
      exact ⟨bb, L, hb, hq', vs', ve', vd', P, tsv, rfl, hB, by rw [PL.out.1, HKN.out]⟩
end Go.Proofs.YtdkdeiofjoccnaaGreat.Lit
