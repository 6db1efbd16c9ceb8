/- strataref03.Harness: Submit. -/
import Derived.Test.YtdkdeiofjoccnaaGreatRefPlay
namespace Go.Proofs.YtdkdeiofjoccnaaGreat.Ref
open Go.RowKit Go.Proofs.YtdkdeiofjoccnaaGreat.Mem Go.Proofs.YtdkdeiofjoccnaaGreat.Ar Go.Proofs.YtdkdeiofjoccnaaGreat.Un Go.Proofs.YtdkdeiofjoccnaaGreat.Lit
open Go.Proofs.YtdkdeiofjoccnaaGreat.Har (Job Ev evs Apart pend pend_of dueQ due_put)
set_option linter.unusedVariables false
set_option maxRecDepth 100000

/-- numbers that are handed in -/
structure Nums (w : World) (T : List Nat) (a : Option Addr) (ms : List Nat) : Prop where
  cell : ∀ (i : Nat) (hi : i < ms.length), ∃ g o, a = some ⟨g, o, none⟩ ∧ w.cell? ⟨g, o + i, none⟩ = some (.int .i64 ms[i])
  off : ∀ g o, a = some ⟨g, o, none⟩ → g ∉ T ∧ g < w.heap.size
theorem Nums.keep {w w' : World} {T : List Nat} {a : Option Addr} {ms : List Nat} (h : Nums w T a ms) (k : Keep T w w') : Nums w' T a ms :=
  ⟨fun i hi => by
    obtain ⟨g, o, e, c⟩ := h.cell i hi
    exact ⟨g, o, e, k.cell c (h.off g o e).1⟩, fun g o e => ⟨(h.off g o e).1, Nat.lt_of_lt_of_le (h.off g o e).2 k.size⟩⟩

/-- the places of machines that are handed in -/
def jobsR (tag : Int) : Nat → List Nat → List Job
  | _, [] => []
  | i, m :: l => ⟨.int .i64 m, IntKind.i64.wrap (tag + i), false⟩ :: jobsR tag (i + 1) l
theorem jobsR_snoc (tag : Int) : ∀ (l : List Nat) (i : Nat) (m : Nat), jobsR tag i (l ++ [m]) = jobsR tag i l ++ [⟨.int .i64 m, IntKind.i64.wrap (tag + ((i + l.length : Nat) : Int)), false⟩]
  | [], i, m => by simp [jobsR]
  | x :: l, i, m => by
    show _ :: jobsR tag (i + 1) (l ++ [m]) = _
    rw [jobsR_snoc tag l (i + 1) m]
    simp only [jobsR, List.cons_append, List.length_cons]
    rw [show i + 1 + l.length = i + (l.length + 1) by omega]
theorem jobsR_length (tag : Int) : ∀ (l : List Nat) (i : Nat), (jobsR tag i l).length = l.length
  | [], i => rfl
  | x :: l, i => by simp [jobsR, jobsR_length tag l (i + 1)]
theorem jobsR_due (tag : Int) : ∀ (l : List Nat) (i : Nat), dueQ (jobsR tag i l) = 2 * l.length
  | [], i => rfl
  | x :: l, i => by
    have := jobsR_due tag l (i + 1)
    simp only [jobsR, dueQ, List.map_cons, List.sum_cons, List.length_cons] at this ⊢
    rw [this]
    simp [Har.Job.due]
    omega
theorem jobsR_ok (tag : Int) {n : Nat} : ∀ (l : List Nat) (i : Nat), (∀ m ∈ l, m < n) → ∀ j ∈ jobsR tag i l, okJ n j
  | [], i, h, j, hj => by simp [jobsR] at hj
  | x :: l, i, h, j, hj => by
    rcases List.mem_cons.1 hj with rfl | hj
    · exact ⟨x, rfl, h x (by simp)⟩
    · exact jobsR_ok tag l (i + 1) (fun m hm => h m (by simp [hm])) j hj

section
variable {w : World} {F : List Nat} {b pb : Nat} {B : RB} {H : Har.Har} {S : RP}

theorem submit_worker (h : RS w F w b pb B H S) (who tag : Int) (hk : pend H who = 0 ∧ ¬ (0 ≤ who ∧ who < H.queues.length)) (v : Value) :
    Calls Tryz.prog 30 #[.pointer (some ⟨b, 0, none⟩), .int .i64 who, .int .i64 tag, v] w fun e w' => e = .returned (.int .i64 31) ∧ w = w' := by
  obtain ⟨⟨bq, vs, ve, vd, h⟩, hf⟩ := h
  have HW := Lib.hid (worker h.at_ who)
  have hwk : (decide (0 ≤ who) && decide (who < H.queues.length)) = false := by
    cases h1 : decide (0 ≤ who) <;> simp at h1 ⊢
    omega
  rw [hwk] at HW
  clear h hf hk hwk
  go_enter Tryz.func30, Tryz.ntmps30
  go_wp2_with fail
  refine HW.out.mono ?_
  rintro e w2 ⟨rfl, rfl⟩
  go_wp2_with fail
  go_ret
  exact ⟨rfl, rfl⟩

set_option maxHeartbeats 4000000 in
theorem submit (h : RS w F w b pb B H S) (k : Nat) (hk : k < H.queues.length) (tag : Int) (a : Option Addr) (cap : Nat) (ms : List Nat) (hm : Nums w (F ++ B.mem) a ms) (hok : ∀ m ∈ ms, m < S.ths.length)
    (hq : pend H k + ms.length ≤ 64) (hfew : H.events.length + Har.due H + 2 * ms.length ≤ 1000000000000) :
    Calls Tryz.prog 30 #[.pointer (some ⟨b, 0, none⟩), .int .i64 k, .int .i64 tag, .slice a ms.length cap] w fun e w' => e = .returned (.int .i64 0) ∧ RS w F w' b pb B (H.put k (H.queues.getD k [] ++ jobsR tag 0 ms)) S := by
  have hp := pend_of hk
  obtain ⟨⟨bq, vs, ve, vd, h⟩, hf⟩ := h
  have HW := Lib.hid (worker h.at_ k)
  have hwk : (decide (0 ≤ (k : Int)) && decide ((k : Int) < H.queues.length)) = true := by simp; omega
  rw [hwk] at HW
  have c1 : w.cell? ⟨b, 1, none⟩ = some (.slice (some ⟨bq, 0, none⟩) vs.length vs.length) := cell_of h.at_.hb 1
  rw [h.at_.len.1] at c1
  obtain ⟨a1, cc, hcq⟩ := h.at_.queue hk
  have HS := Lib.hid (show RS w F w b pb B H S from ⟨⟨bq, vs, ve, vd, h⟩, hf⟩)
  have HPQ := Lib.hid hp
  have HM := Lib.hid hm
  have HOK := Lib.hid hok
  have HF := Lib.hid hfew
  obtain ⟨n, hn⟩ : ∃ n, n = ms.length := ⟨_, rfl⟩
  obtain ⟨N, hN⟩ : ∃ N, N = H.queues.length := ⟨_, rfl⟩
  rw [← hn] at hq ⊢
  rw [← hN] at c1 hk
  have HN := Lib.hid (And.intro hn hN)
  have b3 : decide ((64 : Int) < (pend H k : Int) + (n : Int)) = false := by simp; omega
  have b4 : ¬ (64 : Int) < (pend H k : Int) + (n : Int) := by omega
  have w4 : IntKind.i64.wrap ((pend H k : Int) + (n : Int)) = (pend H k : Int) + (n : Int) := IntWalk.i64_in _ (by omega)
  clear h hf hm hok hfew hp hn hN hwk
  go_enter Tryz.func30, Tryz.ntmps30
  go_wp2_with fail
  refine HW.out.mono ?_
  rintro e w2 ⟨rfl, rfl⟩
  go_wp2_with fail
  clear c1 hcq
  go_loopw [9] (fun i wr => ∃ (j : Nat), i = .int .i64 j ∧ j ≤ n ∧ RS w F wr b pb B (H.put k (H.queues.getD k [] ++ jobsR tag 0 (ms.take j))) S) (fun i _ => n - (intOf i).toNat)
  case atStart =>
    refine ⟨0, rfl, Nat.zero_le _, ?_⟩
    have hk2 : k < H.queues.length := by have := HN.out.2; omega
    have e : H.put k (H.queues.getD k [] ++ jobsR tag 0 (ms.take 0)) = H := by
      unfold Har.Har.put
      rw [List.take_zero]
      simp only [jobsR, List.append_nil]
      rw [List.getD_eq_getElem?_getD, List.getElem?_eq_getElem hk2]
      simp
    rw [e]
    exact HS.out
  case round =>
    obtain ⟨j, rfl, hj, hR⟩ := hrel
    have HR := Lib.hid hR
    by_cases hlt : j < n
    · have hjm : j < ms.length := by have := HN.out.1; omega
      have hk2 : k < H.queues.length := by have := HN.out.2; omega
      obtain ⟨q, hqq⟩ : ∃ q, q = H.queues.getD k [] ++ jobsR tag 0 (ms.take j) := ⟨_, rfl⟩
      rw [← hqq] at hR HR
      obtain ⟨⟨bq', vs', ve', vd', hr⟩, hfr⟩ := hR
      obtain ⟨g, o, rfl, x0⟩ := (HM.out.keep hr.keep).cell j hjm
      obtain ⟨m, hm⟩ : ∃ m, m = ms[j] := ⟨_, rfl⟩
      rw [← hm] at x0
      have HMM := Lib.hid hm
      have hkv : k < vs'.length := by
        have e1 := hr.at_.len.1
        simp only [Har.Har.put, List.length_set] at e1
        omega
      have r1 : wr.cell? ⟨b, 1, none⟩ = some (.slice (some ⟨bq', 0, none⟩) N N) := by
        have e1 := hr.at_.len.1
        have e3 := HN.out.2
        simp only [Har.Har.put, List.length_set] at e1
        rw [show N = vs'.length by omega]
        exact cell_of hr.at_.hb 1
      have hrow := hr.at_.rows k hkv (by simpa [Har.Har.put] using hk2)
      simp only [Har.Har.put, List.getElem_set_self] at hrow
      obtain ⟨a2, c2, hv⟩ : ∃ a2 c2, vs'[k] = .slice a2 q.length c2 := by
        rcases hrow.2 with ⟨hv, hl⟩ | ⟨g, cap, cur, hv, -⟩
        · exact ⟨none, 0, by rw [hv, hl]⟩
        · exact ⟨_, _, hv⟩
      rw [hv] at hrow
      have r2 : wr.cell? ⟨bq', k, none⟩ = some (.slice a2 q.length c2) := by
        rw [cell_of hr.at_.hq, List.getElem?_toArray, List.getElem?_eq_getElem hkv, hv]
      have f2 := free_of hr.at_.hq k
      have hqlen : q.length + 1 ≤ 1000000 := by
        rw [hqq, List.length_append, jobsR_length, List.length_take]
        have e := HPQ.out
        rw [List.getD_eq_getElem?_getD, List.getElem?_eq_getElem hk2]
        simp only [Option.getD_some]
        omega
      obtain ⟨T, hT⟩ : ∃ T, T = IntKind.i64.wrap (tag + (j : Int)) := ⟨_, rfl⟩
      have HT := Lib.hid hT
      have hT' := hT.symm
      have HROW := Lib.hid hrow
      have HRR := Lib.hid hr
      have HQQ := Lib.hid (And.intro hqq (And.intro hk2 hjm))
      have HV := Lib.hid (show ∃ hk : k < vs'.length, vs'[k] = .slice a2 q.length c2 from ⟨hkv, hv⟩)
      have hsz : Hid (bq' < wr.heap.size) := Lib.hid (lt_of hr.at_.hq)
      have hsb : Hid (b < wr.heap.size) := Lib.hid (lt_of hr.at_.hb)
      have hvo : Hid (some bq' ≠ (Value.slice a2 q.length c2).ownBlock) := Lib.hid (fun e => (hr.at_.apart.off (k + 2) (by simpa using hkv) bq' (by simp only [List.getElem_cons_succ]; rw [hv]; exact e.symm)).2 rfl)
      have hvb : Hid (some b ≠ (Value.slice a2 q.length c2).ownBlock) := Lib.hid (fun e => (hr.at_.apart.off (k + 2) (by simpa using hkv) b (by simp only [List.getElem_cons_succ]; rw [hv]; exact e.symm)).1 rfl)
      have z1 : ∀ o : Obj, (wr.alloc o).cell? ⟨b, 1, none⟩ = some (.slice (some ⟨bq', 0, none⟩) N N) := fun o => ((Keep.refl [] wr).alloc o).cell r1 (by simp)
      have z2 : ∀ o : Obj, (wr.alloc o).cell? ⟨bq', k, none⟩ = some (.slice a2 q.length c2) := fun o => ((Keep.refl [] wr).alloc o).cell r2 (by simp)
      have zc : ∀ o : Obj, (wr.alloc o).drew.cell? ⟨bq', k, none⟩ = some (.slice a2 q.length c2) := fun o => (((Keep.refl [] wr).alloc o).drew).cell r2 (by simp)
      have za : ∀ o : Obj, (wr.alloc o).drew.frozen? ⟨bq', k, none⟩ = false := fun o => free_of (show (wr.alloc o).drew.heap[bq']? = _ from alloc_some o HRR.out.at_.hq) k
      have d1 := Lib.hid (show ∀ u ∈ [Value.int .i64 m, .int .i64 T, .bool false], u.oneCell' = true by simp [Value.oneCell'])
      have d2 := Lib.hid (show q.length + 1 ≤ maxLen by unfold maxLen; omega)
      have d3 := Lib.hid (show (q.length + 1) * 24 ≤ 140737488355328 by omega)
      have hkN : (k : Int) < N := by omega
      have hk0 : 0 ≤ (k : Int) := by omega
      obtain ⟨i0, hi, hz0, hz1, hz2⟩ := info_parts infoP
      have HI := Lib.hid hi; clear hi
      have HZ := Lib.hid (And.intro hz0 (And.intro hz1 hz2)); clear hz0 hz1 hz2
      clear hm hrow hqlen hqq hv hkv hT hr hfr
      go_wp2_with fail
      go_region_law
        (first
          | (refine step_append_lies _ (by rfl) _ _ _ (by rfl) 0 186 i0 _ 3 24 Tryz.underlying184 HI.out HZ.out.1 HZ.out.2.1 HZ.out.2.2 (by rfl) (by decide) (.slice a2 q.length c2) q.length (q.flatMap Job.cells) (by rfl) ((HROW.out.alloc _).drew) ⟨wr.heap.size, 0, none⟩ 1 1 [.int .i64 m, .int .i64 T, .bool false] (by rfl) (by rfl) (World.news_of_block (cs := #[.int .i64 m, .int .i64 T, .bool false]) (fr := (0, 0)) (alloc_new wr _)) d1.out (by decide) d2.out d3.out (Nat.zero_le _) _ rfl ?_; intro g7 cap7 w7 hown7 hgrow7 hat7 hlt7; have HO7 := Lib.hid hown7; have G7 := Lib.hid hgrow7; have A7 := Lib.hid hat7; have y1 : w7.cell? ⟨bq', k, none⟩ = some (.slice a2 q.length c2) := (hgrow7.cell_far _ (by have := hsz.out; simp; omega) hvo.out).trans (zc _); have y0 : w7.cell? ⟨b, 1, none⟩ = some (.slice (some ⟨bq', 0, none⟩) N N) := (hgrow7.cell_far _ (by have := hsb.out; simp; omega) hvb.out).trans (z1 _); have y2 : w7.frozen? ⟨bq', k, none⟩ = false := (hgrow7.frozen_far _ (by have := hsz.out; simp; omega) hvo.out).trans (za _); clear hown7 hgrow7 hat7))
      all_goals
        go_wp2_with fail
        go_roundw
        case rel =>
          refine ⟨j + 1, by go_num, hlt, ?_⟩
          obtain ⟨hk3, hv⟩ := HV.out
          obtain ⟨hqq, hk2, hjm⟩ := HQQ.out
          have e1 : H.queues.getD k [] ++ jobsR tag 0 (ms.take (j + 1)) = q ++ [⟨.int .i64 m, T, false⟩] := by
            rw [List.take_succ_eq_append_getElem hjm, jobsR_snoc, hqq, List.append_assoc, HT.out, HMM.out, List.length_take, Nat.zero_add, Nat.min_eq_left (Nat.le_of_lt hjm)]
          have e2 : (H.put k q).put k (q ++ [⟨.int .i64 m, T, false⟩]) = H.put k (q ++ [⟨.int .i64 m, T, false⟩]) := H.put_put k q _
          have e3 : H.events.length + Har.due (H.put k (q ++ [⟨.int .i64 m, T, false⟩])) ≤ 1000000000000 := by
            have e4 := due_put H hk2 (H.queues.getD k [] ++ jobsR tag 0 (ms.take (j + 1)))
            have e5 := HF.out
            have e6 := HN.out.1
            rw [Har.dueQ_append, jobsR_due, List.length_take, List.getD_eq_getElem?_getD, List.getElem?_eq_getElem hk2] at e4
            simp only [Option.getD_some] at e4
            rw [← e1, List.getD_eq_getElem?_getD, List.getElem?_eq_getElem hk2]
            simp only [Option.getD_some]
            omega
          rw [e1, ← e2]
          refine ⟨⟨bq', vs'.set k (.slice (some ⟨g7, 0, none⟩) (q.length + 1) cap7), ve', vd', HRR.out.queue (w' := (wr.alloc (.cells #[.int .i64 m, .int .i64 T, .bool false] 186)).drew) (((Keep.refl _ _).alloc _).drew) hk3 ?_ (by rw [hv]; exact G7.out) (fun x hx => ?_) ?_ ?_⟩, ?_⟩
          · have q7 := HO7.out
            rw [show q.length + 1 = (q ++ [(⟨.int .i64 m, T, false⟩ : Job)]).length by simp] at q7 ⊢
            rw [List.flatMap_append]
            exact q7
          · have hx' : g7 = x := by simpa [Value.ownBlock] using hx
            subst hx'
            rw [hv]
            exact A7.out.imp id (fun e => by rw [e]; exact Nat.le_refl _)
          · intro x hx
            rcases List.mem_append.1 hx with hx | hx
            · exact HRR.out.ok q (List.mem_of_getElem (i := k) (h := by simpa [Har.Har.put] using hk2) (by simp [Har.Har.put])) x hx
            · simp only [List.mem_singleton] at hx
              subst hx
              exact ⟨m, rfl, HOK.out m (by rw [HMM.out]; exact List.getElem_mem _)⟩
          · rw [e2]
            exact Nat.le_succ_of_le e3
          · rw [e2]
            exact e3
        case measure => simp [intOf]; omega
    · have hjn : ms.take j = ms := by
        have := HN.out.1
        exact List.take_of_length_le (by omega)
      have HJ := Lib.hid hjn
      clear hjn hR
      go_wp2_with fail
      go_ret
      exact ⟨rfl, by have q := HR.out; rw [HJ.out] at q; exact q⟩
end
end Go.Proofs.YtdkdeiofjoccnaaGreat.Ref
