/- strataref03.Harness: Step. -/
import Derived.Test.YtdkdeiofjoccnaaGreatRefTurn
import Derived.WalkSpells
namespace Go.Proofs.YtdkdeiofjoccnaaGreat.Ref
open Go.RowKit Go.Proofs.YtdkdeiofjoccnaaGreat.Mem Go.Proofs.YtdkdeiofjoccnaaGreat.Ar Go.Proofs.YtdkdeiofjoccnaaGreat.Un Go.Proofs.YtdkdeiofjoccnaaGreat.Lit
open Go.Proofs.YtdkdeiofjoccnaaGreat.Har (Job Ev evs Apart mem_blocks mem_b mem_bq mem_ve mem_vd mem_vs owns_block dueQ due_put)
set_option linter.unusedVariables false
set_option maxRecDepth 100000

section
variable {w0 w w' : World} {F T : List Nat} {b pb bq : Nat} {vs vs' : List Value} {ve ve' vd vd' : Value} {B : RB} {H H' : Har.Har} {S S' : RP}

theorem step_idle (h : RAt w b pb bq vs ve vd H) (who : Int) (hp : Har.pend H who = 0) :
    Calls Tryz.prog 34 #[.pointer (some ⟨b, 0, none⟩), .int .i64 who] w fun e w' => e = .returned (.bool false) ∧ w = w' := by
  have HW := Lib.hid (worker h who)
  have c1 : w.cell? ⟨b, 1, none⟩ = some (.slice (some ⟨bq, 0, none⟩) vs.length vs.length) := cell_of h.hb 1
  rw [h.len.1] at c1
  by_cases hin : 0 ≤ who ∧ who < H.queues.length
  · obtain ⟨k, rfl⟩ : ∃ k : Nat, who = k := ⟨who.toNat, by omega⟩
    have hk : k < H.queues.length := by omega
    obtain ⟨a, c, hq⟩ := h.queue hk
    have hwk : (decide (0 ≤ (k : Int)) && decide ((k : Int) < H.queues.length)) = true := by simp; omega
    obtain ⟨n, hn⟩ : ∃ n, n = H.queues.length := ⟨_, rfl⟩
    rw [hp] at hq
    rw [hwk] at HW
    rw [← hn] at c1 hk
    clear h hn hp hin hwk
    go_enter Tryz.func34, Tryz.ntmps34
    go_wp2_with fail
    refine HW.out.mono ?_
    rintro e w2 ⟨rfl, rfl⟩
    go_wp2_with fail
    go_ret
    exact ⟨rfl, rfl⟩
  · have hwk : (decide (0 ≤ who) && decide (who < H.queues.length)) = false := by
      cases h1 : decide (0 ≤ who) <;> simp at h1 ⊢
      omega
    rw [hwk] at HW
    clear h c1 hin hwk hp
    go_enter Tryz.func34, Tryz.ntmps34
    go_wp2_with fail
    refine HW.out.mono ?_
    rintro e w2 ⟨rfl, rfl⟩
    go_wp2_with fail
    go_ret
    exact ⟨rfl, rfl⟩

theorem infoI : (Tryz.prog.info? 3).map (fun i => (i.zero, i.size, i.bytes)) = some (some (.int .i64 0), 1, 8) := by kernel_rfl
theorem one_int (i : Nat) : ∀ u ∈ [Value.int .i64 i], u.oneCell' = true := by simp [Value.oneCell']
theorem infoP : (Tryz.prog.info? 186).map (fun i => (i.zero, i.size, i.bytes)) = some (some (.agg #[.int .i64 0, .int .i64 0, .bool false]), 3, 24) := by kernel_rfl

theorem cut_place (g n cap : Nat) (h : n + 1 ≤ cap) (w : World) :
    (Instr.slice 184 (.slice (some ⟨g, 0, none⟩) (n + 1) cap) (some (.int .i64 1)) none none).run Tryz.prog w = .ok (.slice (some ⟨g, if cap = 1 then 0 else 3, none⟩) n (cap - 1)) w := by
  rw [run_slice_l w 184 _ _ _ (by kernel_rfl) .i64 1 (by omega) (by omega)]
  have hs : (sizeOf (Tryz.prog.elem 184)).run Tryz.prog w = .ok 3 w := by kernel_rfl
  rw [hs]
  have e1 : (1 : Int).toNat = 1 := rfl
  simp only [Result.andThen, sliced, e1, Nat.add_sub_cancel, Option.map_some]
  by_cases e : cap = 1
  · rw [if_pos e, if_pos e]
  · rw [if_neg e, if_neg e]
    simp [Addr.add]
theorem one_jobs {n : Nat} {l : List Job} (h : ∀ j ∈ l, okJ n j) : ∀ u ∈ l.flatMap Job.cells, u.oneCell' = true := by
  intro u hu
  obtain ⟨j, hj, hu⟩ := List.mem_flatMap.1 hu
  obtain ⟨i, hi, -⟩ := h j hj
  simp only [Job.cells, hi, List.mem_cons, List.not_mem_nil, or_false] at hu
  rcases hu with rfl | rfl | rfl <;> simp [Value.oneCell']
theorem due_len (H : Har.Har) {k : Nat} (hk : k < H.queues.length) {j : Job} {l : List Job} (hq : H.queues[k] = j :: l) : l.length ≤ Har.due H := by
  have h1 := due_put H hk []
  rw [hq] at h1
  have h2 : ∀ q : List Job, q.length ≤ dueQ q := by
    intro q
    induction q with
    | nil => simp
    | cons x q ih =>
      simp only [dueQ, List.map_cons, List.sum_cons, List.length_cons] at ih ⊢
      have : 1 ≤ x.due := by unfold Har.Job.due; split <;> omega
      omega
  have h3 := h2 (j :: l)
  simp only [List.length_cons] at h3
  have h4 : dueQ ([] : List Job) = 0 := rfl
  omega

set_option maxHeartbeats 4000000 in
theorem step_made (h : RSince w0 F w b pb bq vs ve vd B H S) (k : Nat) (hk : k < H.queues.length) (j : Job) (l : List Job) (hq : H.queues[k] = j :: l) (hf : H.events.length + Har.due H ≤ 1000000000000) :
    Calls Tryz.prog 34 #[.pointer (some ⟨b, 0, none⟩), .int .i64 k] w fun e w' => e = .returned (.bool true) ∧ ∃ vs' ve' vd', RSince w0 F w' b pb bq vs' ve' vd' B (Har.stepH refM H S k).1 (Har.stepH refM H S k).2 := by
  have HW := Lib.hid (worker h.at_ k)
  have hkv : k < vs.length := by rw [h.at_.len.1]; exact hk
  have c1 : w.cell? ⟨b, 1, none⟩ = some (.slice (some ⟨bq, 0, none⟩) vs.length vs.length) := cell_of h.at_.hb 1
  have c3 : w.cell? ⟨b, 3, none⟩ = some ve := cell_of h.at_.hb 3
  have c2 : w.cell? ⟨b, 2, none⟩ = some (.int .i64 H.steps) := cell_of h.at_.hb 2
  obtain ⟨g, cap, hv, hcap, hglt, q0, q1, q2, z, hr, hsee⟩ := h.at_.head hkv hk hq
  have cq : w.cell? ⟨bq, k, none⟩ = some (.slice (some ⟨g, 0, none⟩) (l.length + 1) cap) := by
    rw [cell_of h.at_.hq, List.getElem?_toArray, List.getElem?_eq_getElem hkv, hv]
  have hwk : (decide (0 ≤ (k : Int)) && decide ((k : Int) < H.queues.length)) = true := by simp; omega
  rw [hwk] at HW
  obtain ⟨i, hji, hi⟩ := h.ok _ (List.getElem_mem hk) j (by rw [hq]; simp)
  rw [hji] at q0
  have HJ := Lib.hid (And.intro hji hi)
  have HS := Lib.hid h
  have HL := Lib.hid (And.intro h.at_.len hk)
  have HQ := Lib.hid (show ∃ hk : k < H.queues.length, H.queues[k] = j :: l from ⟨hk, hq⟩)
  have HF := Lib.hid hf
  have HV := Lib.hid (And.intro hv (And.intro hcap hglt))
  clear hf h hk hv hcap hr hsee hwk hq hglt hji hi
  go_enter Tryz.func34, Tryz.ntmps34
  go_wp2_with fail
  refine HW.out.mono ?_
  rintro e w2 ⟨rfl, rfl⟩
  go_upto_if 34 with fail
  go_cut [34] (fun v34 wx => ∃ ve1, RSince w0 F wx b pb bq vs ve1 vd B (H.called k j l) S)
  case first =>
    by_cases hc : j.called = true
    · have e := H.called_yes k j l hc
      have HE := Lib.hid e
      rw [hc]
      clear e hc
      go_wp2_with fail
      go_meet
      case rel => exact ⟨ve, by rw [HE.out]; exact HS.out⟩
    · have hc' : j.called = false := by simpa using hc
      have HC := Lib.hid hc'
      rw [hc'] at q2
      rw [hc']
      clear hc hc'
      have z3 : w.frozen? ⟨b, 3, none⟩ = false := free_of HS.out.at_.hb 3
      have n3 := World.new_ne w _ c3
      have za : ∀ o : Obj, (w.alloc o).drew.frozen? ⟨b, 3, none⟩ = false := fun o => free_of (show (w.alloc o).drew.heap[b]? = _ from alloc_some o HS.out.at_.hb) 3
      have zc : ∀ o : Obj, (w.alloc o).drew.cell? ⟨b, 3, none⟩ = some ve := fun o => cell_of (show (w.alloc o).drew.heap[b]? = _ from alloc_some o HS.out.at_.hb) 3
      have hsz : Hid (b < w.heap.size) := Lib.hid (lt_of HS.out.at_.hb)
      have hvo : Hid (some b ≠ ve.ownBlock) := Lib.hid (fun e => HS.out.at_.ne_b.2.1 b e.symm rfl)
      have hvg : Hid (some g ≠ ve.ownBlock) := Lib.hid (fun e => by have := HS.out.at_.apart.two 0 (k + 2) (by simp) (by simpa using hkv) g e.symm (by simp [HV.out.1, Value.ownBlock]); omega)
      have hgb : g ≠ b := (HS.out.at_.apart.off (k + 2) (by simpa using hkv) g (by simp [HV.out.1, Value.ownBlock])).1
      have hbg : b ≠ g := hgb.symm
      have d1 := Lib.hid (Har.one_ev 1 k j.tag H.steps)
      have d2 := Lib.hid (show H.events.length + 1 ≤ maxLen by unfold maxLen; have := HS.out.few; omega)
      have d3 := Lib.hid (show (H.events.length + 1) * 32 ≤ 140737488355328 by have := HS.out.few; omega)
      obtain ⟨i0, hi, hz0, hz1, hz2⟩ := info_parts Har.infoE
      have HI := Lib.hid hi; clear hi
      have HZ := Lib.hid (And.intro hz0 (And.intro hz1 hz2)); clear hz0 hz1 hz2
      go_wp2_with fail
      go_region_law
        (first
          | (refine step_append_lies _ (by rfl) _ _ _ (by rfl) 0 190 i0 _ 4 32 Tryz.underlying103 HI.out HZ.out.1 HZ.out.2.1 HZ.out.2.2 rfl (by decide) ve H.events.length (evs H.events) (by rfl) ((HS.out.at_.he.alloc _).drew) ⟨w.heap.size, 0, none⟩ 1 1 [.int .i64 1, .int .i64 k, .int .i64 j.tag, .int .i64 H.steps] (by rfl) (by rfl) (World.news_of_block (cs := #[.int .i64 1, .int .i64 k, .int .i64 j.tag, .int .i64 H.steps]) (fr := (0, 0)) (alloc_new w _)) d1.out (by decide) d2.out d3.out (Nat.zero_le _) _ rfl ?_; intro g7 cap7 w7 hown7 hgrow7 hat7 hlt7; have HO7 := Lib.hid hown7; have G7 := Lib.hid hgrow7; have A7 := Lib.hid hat7; have y1 : w7.cell? ⟨b, 3, none⟩ = some ve := (hgrow7.cell_far _ (by have := hsz.out; simp; omega) hvo.out).trans (zc _); have y2 : w7.frozen? ⟨b, 3, none⟩ = false := (hgrow7.frozen_far _ (by have := hsz.out; simp; omega) hvo.out).trans (za _); have y3 : w7.cell? ⟨g, 2, none⟩ = some (.bool false) := (hgrow7.cell_far _ (by have := HV.out.2.2; simp; omega) hvg.out).trans ((Keep.refl [] w).alloc _ |>.drew.cell q2 (by simp)); have y4 : w7.frozen? ⟨g, 2, none⟩ = false := (hgrow7.frozen_far _ (by have := HV.out.2.2; simp; omega) hvg.out).trans ((World.frozen?_of_block (((Keep.refl [] w).alloc _).drew.block g HV.out.2.2 (by simp))).trans (z 2)); clear hown7 hgrow7 hat7))
      all_goals
        go_wp2_with fail
        go_meet
        case rel =>
          obtain ⟨hk', hq'⟩ := HQ.out
          exact ⟨_, HS.out.callEvent (w' := (w.alloc (.cells #[.int .i64 1, .int .i64 k, .int .i64 j.tag, .int .i64 H.steps] 190)).drew) (((Keep.refl _ _).alloc _).drew) hkv hk' hq' HC.out (by rw [HV.out.1]; rfl) HO7.out G7.out A7.out⟩
  case rest =>
    obtain ⟨ve1, h1⟩ := hcut
    obtain ⟨hk, hq⟩ := HQ.out
    obtain ⟨j1, hj1⟩ : ∃ j1 : Job, j1 = { j with called := true } := ⟨_, rfl⟩
    obtain ⟨H1, hH1⟩ : ∃ H1, H1 = H.called k j l := ⟨_, rfl⟩
    have hk1 : k < H1.queues.length := by rw [hH1, called_len]; exact hk
    have hq1 : H1.queues[k] = j1 :: l := by rw [hj1]; subst hH1; exact called_head H hk hq
    have hc1 : j1.called = true := by rw [hj1]
    have hm1 : j1.mach = .int .i64 i := by rw [hj1]; exact HJ.out.1
    have ht1 : j1.tag = j.tag := by rw [hj1]
    have hf1 : H1.events.length + Har.due H1 ≤ 1000000000000 := by rw [hH1, called_few H hk hq]; exact HF.out
    have HF1 := Lib.hid hf1
    rw [← hH1] at h1
    have hst : Har.stepH refM H S k = if (refStep S i).2 then (H1.count.done k j1 l, (refStep S i).1) else (H1.count, (refStep S i).1) := by
      rw [hH1, hj1]
      exact stepH_at H S hk hq HJ.out.1
    have HST := Lib.hid hst
    have H2 := Lib.hid (h1.count (wrap64 (H1.steps + 1)))
    have c2 : wc.cell? ⟨b, 2, none⟩ = some (.int .i64 H1.steps) := cell_of h1.at_.hb 2
    have f2 : wc.frozen? ⟨b, 2, none⟩ = false := free_of h1.at_.hb 2
    obtain ⟨hcs, -⟩ := h1.cells hkv hk1 hq1 HV.out.1
    have HK1 := Lib.hid (And.intro hk1 hq1)
    clear h1 hst hq1 hj1 hH1 hcs hf1
    go_wp2_with fail
    obtain ⟨w2, hw2⟩ : ∃ w2, w2 = wc.setCell ⟨b, 2, none⟩ (.int .i64 (wrap64 (H1.steps + 1))) := ⟨_, rfl⟩
    rw [← hw2] at H2
    rw [← hw2]
    have HK2 := Lib.hid (And.intro HK1.out.1 HK1.out.2)
    obtain ⟨hcs, -⟩ := H2.out.cells hkv HK1.out.1 HK1.out.2 HV.out.1
    have x0 := hcs.c0
    have x1 := hcs.q0
    rw [hm1] at x1
    clear hw2 c2 f2 hcs
    go_region_held3 (fun w' => w'.cell? ⟨b, 0, none⟩ = some (.pointer (some ⟨pb, 0, none⟩)) ∧ w'.cell? ⟨g, 0, none⟩ = some (.int .i64 i)) (go_keep)
      (first | (go_at_call 40; refine (step_any (H2.out.prog.keep0 ((Keep.refl [] w2).drew)) i HJ.out.2).mono ?_; rintro e w3 ⟨rfl, hR, hK⟩; have H3 := Lib.hid ((H2.out.keep0 ((Keep.refl [] w2).drew)).step i hR hK); obtain ⟨hc3, -⟩ := H3.out.cells hkv HK1.out.1 HK1.out.2 HV.out.1; have y0 := hc3.c0; have y1 := hc3.q0; rw [hm1] at y1; have C3 := Lib.hid hc3; clear hR hK hc3))
    obtain ⟨S1, hS1⟩ : ∃ S1, S1 = (refStep S i).1 := ⟨_, rfl⟩
    rw [← hS1] at H3 HST
    by_cases hd : (refStep S i).2 = true
    · rw [hd]
      have HD := Lib.hid hd
      rw [hd, if_pos rfl] at HST
      clear hd hS1
      obtain ⟨Hc, hHc⟩ : ∃ Hc : Har.Har, Hc = { H1 with steps := wrap64 (H1.steps + 1) } := ⟨_, rfl⟩
      have hHc' : Hc = H1.count := hHc
      rw [← hHc'] at HST
      rw [← hHc] at H3
      have HKc := Lib.hid (show ∃ hk : k < Hc.queues.length, Hc.queues[k] = j1 :: l by subst hHc; exact ⟨HK1.out.1, HK1.out.2⟩)
      have e2 : wrap64 (H1.steps + 1) = Hc.steps := by rw [hHc]
      have c3 := C3.out.c3
      have c2 := C3.out.c2
      rw [e2] at c2
      have qt := C3.out.q1
      have hfc : Hc.events.length + Har.due Hc ≤ 1000000000000 := by rw [hHc]; exact HF1.out
      have HFC := Lib.hid hfc
      have hdue := due_called Hc HKc.out.1 HKc.out.2 hc1
      have HDU := Lib.hid hdue
      have HJ1 := Lib.hid (And.intro hc1 hm1)
      clear hHc hHc' e2 hdue hfc hc1 hm1 ht1
      go_wp2_with fail
      go_cut [74] (fun v74 wx => ∃ ve2, RSince w0 F wx b pb bq vs ve2 vd B (Hc.event 2 k j1.tag) S1)
      case first =>
        have z3 : w3.frozen? ⟨b, 3, none⟩ = false := C3.out.zb 3
        have n3 := World.new_ne w3 _ c3
        have za : ∀ o : Obj, (w3.alloc o).drew.frozen? ⟨b, 3, none⟩ = false := fun o => free_of (show (w3.alloc o).drew.heap[b]? = _ from alloc_some o H3.out.at_.hb) 3
        have zc : ∀ o : Obj, (w3.alloc o).drew.cell? ⟨b, 3, none⟩ = some ve1 := fun o => cell_of (show (w3.alloc o).drew.heap[b]? = _ from alloc_some o H3.out.at_.hb) 3
        have hsz : Hid (b < w3.heap.size) := Lib.hid C3.out.lb
        have hvo : Hid (some b ≠ ve1.ownBlock) := Lib.hid (fun e => H3.out.at_.ne_b.2.1 b e.symm rfl)
        have d1 := Lib.hid (Har.one_ev 2 k j1.tag Hc.steps)
        have d2 := Lib.hid (show Hc.events.length + 1 ≤ maxLen by unfold maxLen; have := H3.out.few; omega)
        have d3 := Lib.hid (show (Hc.events.length + 1) * 32 ≤ 140737488355328 by have := H3.out.few; omega)
        obtain ⟨i0, hi, hz0, hz1, hz2⟩ := info_parts Har.infoE
        have HI := Lib.hid hi; clear hi
        have HZ := Lib.hid (And.intro hz0 (And.intro hz1 hz2)); clear hz0 hz1 hz2
        go_region_law
          (first
            | (refine step_append_lies _ (by rfl) _ _ _ (by rfl) 0 190 i0 _ 4 32 Tryz.underlying103 HI.out HZ.out.1 HZ.out.2.1 HZ.out.2.2 rfl (by decide) ve1 Hc.events.length (evs Hc.events) (by rfl) ((H3.out.at_.he.alloc _).drew) ⟨w3.heap.size, 0, none⟩ 1 1 [.int .i64 2, .int .i64 k, .int .i64 j1.tag, .int .i64 Hc.steps] (by rfl) (by rfl) (World.news_of_block (cs := #[.int .i64 2, .int .i64 k, .int .i64 j1.tag, .int .i64 Hc.steps]) (fr := (0, 0)) (alloc_new w3 _)) d1.out (by decide) d2.out d3.out (Nat.zero_le _) _ rfl ?_; intro g7 cap7 w7 hown7 hgrow7 hat7 hlt7; have HO7 := Lib.hid hown7; have G7 := Lib.hid hgrow7; have A7 := Lib.hid hat7; have y1 : w7.cell? ⟨b, 3, none⟩ = some ve1 := (hgrow7.cell_far _ (by have := hsz.out; simp; omega) hvo.out).trans (zc _); have y2 : w7.frozen? ⟨b, 3, none⟩ = false := (hgrow7.frozen_far _ (by have := hsz.out; simp; omega) hvo.out).trans (za _); clear hown7 hgrow7 hat7))
        all_goals
          go_wp2_with fail
          go_meet
          case rel =>
            exact ⟨_, H3.out.event (w' := (w3.alloc (.cells #[.int .i64 2, .int .i64 k, .int .i64 j1.tag, .int .i64 Hc.steps] 190)).drew) (((Keep.refl _ _).alloc _).drew) 2 k j1.tag HO7.out G7.out A7.out (by have := HFC.out; omega)⟩
      case rest =>
        obtain ⟨ve2, h4⟩ := hcut
        obtain ⟨He, hHe⟩ : ∃ He : Har.Har, He = Hc.event 2 k j1.tag := ⟨_, rfl⟩
        obtain ⟨w4, hw4⟩ : ∃ w4, w4 = wc := ⟨_, rfl⟩
        rw [← hHe, ← hw4] at h4
        rw [← hw4]
        have HKe := Lib.hid (show ∃ hk : k < He.queues.length, He.queues[k] = j1 :: l by subst hHe; exact HKc.out)
        have e5 : He.ended.length + 1 ≤ He.events.length := by
          subst hHe
          show Hc.ended.length + 1 ≤ (Hc.events ++ [_]).length
          have := H3.out.few.2
          simp; omega
        have E5 := Lib.hid e5
        have e6 : He.events.length + Har.due (He.put k l) ≤ 1000000000000 := by
          subst hHe
          show (Hc.events ++ [_]).length + Har.due (Hc.put k l) ≤ 1000000000000
          rw [List.length_append, List.length_singleton]
          have := HFC.out
          have := HDU.out
          omega
        have E6 := Lib.hid e6
        have hdn : Hc.done k j1 l = { He with ended := He.ended ++ [Value.int .i64 i] }.put k l := by
          subst hHe
          unfold Har.Har.done
          rw [HJ1.out.2]
          rfl
        rw [hdn] at HST
        have H4 := Lib.hid h4
        obtain ⟨hc4, -⟩ := h4.cells hkv HKe.out.1 HKe.out.2 HV.out.1
        have C4 := Lib.hid hc4
        have c4 := hc4.c4
        have q0 := hc4.q0
        rw [HJ1.out.2] at q0
        clear hw4 hHe h4 e5 e6 hdn hc4 c3 c2 qt
        go_wp2_with fail
        go_cut [93] (fun v93 wx => ∃ vd2, RSince w0 F wx b pb bq vs ve2 vd2 B { He with ended := He.ended ++ [Value.int .i64 i] } S1)
        case first =>
          have z4 : w4.frozen? ⟨b, 4, none⟩ = false := C4.out.zb 4
          have n4 := World.new_ne w4 _ c4
          have za : ∀ o : Obj, (w4.alloc o).drew.frozen? ⟨b, 4, none⟩ = false := fun o => free_of (show (w4.alloc o).drew.heap[b]? = _ from alloc_some o H4.out.at_.hb) 4
          have zc : ∀ o : Obj, (w4.alloc o).drew.cell? ⟨b, 4, none⟩ = some vd := fun o => cell_of (show (w4.alloc o).drew.heap[b]? = _ from alloc_some o H4.out.at_.hb) 4
          have hsz : Hid (b < w4.heap.size) := Lib.hid C4.out.lb
          have hvo : Hid (some b ≠ vd.ownBlock) := Lib.hid (fun e => H4.out.at_.ne_b.2.2.1 b e.symm rfl)
          have d1 := Lib.hid (one_int i)
          have d2 := Lib.hid (show He.ended.length + 1 ≤ maxLen by unfold maxLen; have := H4.out.few; omega)
          have d3 := Lib.hid (show (He.ended.length + 1) * 8 ≤ 140737488355328 by have := H4.out.few; omega)
          obtain ⟨i0, hi, hz0, hz1, hz2⟩ := info_parts infoI
          have HI := Lib.hid hi; clear hi
          have HZ := Lib.hid (And.intro hz0 (And.intro hz1 hz2)); clear hz0 hz1 hz2
          go_region_law
            (first
              | (refine step_append_lies _ (by rfl) _ _ _ (by rfl) 0 3 i0 _ 1 8 Tryz.underlying52 HI.out HZ.out.1 HZ.out.2.1 HZ.out.2.2 rfl (by decide) vd He.ended.length He.ended (by rfl) ((H4.out.at_.hd.alloc _).drew) ⟨w4.heap.size, 0, none⟩ 1 1 [.int .i64 i] (by rfl) (by rfl) (World.news_of_block (cs := #[.int .i64 i]) (fr := (0, 0)) (alloc_new w4 _)) d1.out (by decide) d2.out d3.out (Nat.zero_le _) _ rfl ?_; intro g7 cap7 w7 hown7 hgrow7 hat7 hlt7; have HO7 := Lib.hid hown7; have G7 := Lib.hid hgrow7; have A7 := Lib.hid hat7; have y1 : w7.cell? ⟨b, 4, none⟩ = some vd := (hgrow7.cell_far _ (by have := hsz.out; simp; omega) hvo.out).trans (zc _); have y2 : w7.frozen? ⟨b, 4, none⟩ = false := (hgrow7.frozen_far _ (by have := hsz.out; simp; omega) hvo.out).trans (za _); clear hown7 hgrow7 hat7))
          all_goals
            go_wp2_with fail
            go_meet
            case rel =>
              exact ⟨_, H4.out.ended (w' := (w4.alloc (.cells #[.int .i64 i] 3)).drew) (((Keep.refl _ _).alloc _).drew) HO7.out G7.out A7.out E5.out⟩
        case rest =>
          obtain ⟨vd2, h5⟩ := hcut
          obtain ⟨Hn, hHn⟩ : ∃ Hn : Har.Har, Hn = { He with ended := He.ended ++ [Value.int .i64 i] } := ⟨_, rfl⟩
          obtain ⟨w5, hw5⟩ : ∃ w5, w5 = wc := ⟨_, rfl⟩
          have HKn := Lib.hid (show ∃ hk : k < Hn.queues.length, Hn.queues[k] = j1 :: l by subst hHn; exact HKe.out)
          have e6 : Hn.events.length + Har.due (Hn.put k l) ≤ 1000000000001 := by subst hHn; exact Nat.le_succ_of_le E6.out
          have E7 := Lib.hid e6
          rw [← hHn, ← hw5] at h5
          rw [← hHn] at HST
          rw [← hw5]
          have H5 := Lib.hid h5
          have hokl : ∀ x ∈ l, okJ S1.ths.length x := fun x hx => h5.ok _ (List.getElem_mem HKn.out.1) x (by rw [HKn.out.2]; exact List.mem_cons_of_mem _ hx)
          have HOK := Lib.hid hokl
          obtain ⟨hc5, hnq, hcap, hsee⟩ := h5.cells hkv HKn.out.1 HKn.out.2 HV.out.1
          have C5 := Lib.hid hc5
          have SE := Lib.hid hsee
          have c1 := hc5.c1
          have cq := hc5.cq
          have hkv1 : (k : Int) < vs.length := by omega
          have hkv0 : 0 ≤ (k : Int) := by omega
          have hl1 : 1 ≤ l.length + 1 := by omega
          clear hw5 hHn h5 e6 hokl hc5 hsee hnq c4 q0
          have hgq : Hid (bq ≠ g) := Lib.hid (fun e => by have := (H5.out.at_.apart.off (k + 2) (by simpa using hkv) g (by simp [HV.out.1, Value.ownBlock])).2; exact this e.symm)
          have hll : l.length ≤ 1000000000001 := by
            have h1 := due_len Hn HKn.out.1 HKn.out.2
            have h2 := H5.out.few.1
            omega
          have d1 := Lib.hid (one_jobs HOK.out)
          have d2 := Lib.hid (Har.jobs_length l)
          have d3 := Lib.hid (show l.length ≤ maxLen by unfold maxLen; omega)
          have d4 := Lib.hid (show l.length * 24 ≤ 140737488355328 by omega)
          obtain ⟨y, hY, hsl⟩ : ∃ y, y = (if cap = 1 then 0 else 3) ∧ ∀ w : World, (Instr.slice 184 (.slice (some ⟨g, 0, none⟩) (l.length + 1) cap) (some (.int .i64 1)) none none).run Tryz.prog w = .ok (.slice (some ⟨g, y, none⟩) l.length (cap - 1)) w :=
            ⟨_, rfl, fun w => cut_place g l.length cap hcap w⟩
          have SY : Hid (Sees w5.drew (some ⟨g, y, none⟩) (l.flatMap Job.cells)) := Lib.hid (by rw [hY]; exact SE.out.keep0 ((Keep.refl [] _).drew))
          clear hY hll hcap
          have z5 := C5.out.zq k
          have zc1 : ∀ o : Obj, (w5.alloc o).cell? ⟨b, 1, none⟩ = some (.slice (some ⟨bq, 0, none⟩) vs.length vs.length) := fun o => ((Keep.refl [] w5).alloc o).cell c1 (by simp)
          have zcq : ∀ o : Obj, (w5.alloc o).cell? ⟨bq, k, none⟩ = some (.slice (some ⟨g, 0, none⟩) (l.length + 1) cap) := fun o => ((Keep.refl [] w5).alloc o).cell cq (by simp)
          obtain ⟨i0, hi, hz0, hz1, hz2⟩ := info_parts infoP
          have HI := Lib.hid hi; clear hi
          have HZ := Lib.hid (And.intro hz0 (And.intro hz1 hz2)); clear hz0 hz1 hz2
          go_wp2_with fail
          go_region_law
            (first
              | (refine step_copyE (w := w5.drew) (by rfl) _ _ _ (by rfl) 186 i0 _ 3 24 Tryz.underlying184 HI.out HZ.out.1 HZ.out.2.1 HZ.out.2.2 (by rfl) (by decide) (by rfl) (by rfl) (some ⟨g, y, none⟩) l.length (cap - 1) (l.flatMap Job.cells) (by rfl) d2.out SY.out d1.out d3.out d4.out ?_; intro a7 c7 w7 hc7; have C7 := Lib.hid hc7; have y1 := hc7.keep.cell (show w5.drew.cell? ⟨bq, k, none⟩ = _ from cq) (by simp); have y2 : w7.frozen? ⟨bq, k, none⟩ = false := (World.frozen?_of_block (hc7.keep.block bq C5.out.lq (by simp))).trans z5; have y3 := hc7.keep.cell (show w5.drew.cell? ⟨b, 1, none⟩ = _ from c1) (by simp); clear hc7))
          all_goals
            go_wp2_with fail
            go_ret
            refine ⟨rfl, vs.set k (.slice a7 l.length c7), ve2, vd2, ?_⟩
            rw [HST.out]
            exact (H5.out.keep0 ((Keep.refl [] w5).drew)).queueE C7.out.keep hkv C7.out.own HOK.out E7.out
    · have hd' : (refStep S i).2 = false := by simpa using hd
      rw [hd']
      rw [hd', if_neg (by simp)] at HST
      clear hd hd' hS1
      go_wp2_with fail
      go_ret
      exact ⟨rfl, vs, ve1, vd, by rw [HST.out]; exact H3.out⟩
end
end Go.Proofs.YtdkdeiofjoccnaaGreat.Ref
