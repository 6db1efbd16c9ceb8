/- strataref03.Harness: how it lies in memory; worker, Pending, Idle, Steps. -/
import Derived.Test.YtdkdeiofjoccnaaGreatRefStep
import Derived.Test.YtdkdeiofjoccnaaGreatRefSim
namespace Go.Proofs.YtdkdeiofjoccnaaGreat.Ref
open Go.RowKit Go.Proofs.YtdkdeiofjoccnaaGreat.Mem Go.Proofs.YtdkdeiofjoccnaaGreat.Ar Go.Proofs.YtdkdeiofjoccnaaGreat.Un Go.Proofs.YtdkdeiofjoccnaaGreat.Lit
open Go.Proofs.YtdkdeiofjoccnaaGreat.Har (Job Ev evs Apart)
set_option linter.unusedVariables false
set_option maxRecDepth 100000

section
variable {w w' : World} {pb : Nat} {B : RB} {S : RP}
/-- a step, wherever the thread stands -/
theorem step_any (h : PAt w pb B S) (i : Nat) (hi : i < S.ths.length) :
    Calls Tryz.prog 40 #[.pointer (some ⟨pb, 0, none⟩), .int .i64 i] w fun e w' => e = .returned (.bool (refStep S i).2) ∧ PAt w' pb B (refStep S i).1 ∧ Keep B.mem w w' := by
  by_cases he : S.ths[i].at_ < S.ths[i].prog.length
  · exact step_go h i hi he
  · have e0 : refStep S i = (S, true) := by
      unfold refStep
      simp only [List.getElem?_eq_getElem hi, List.getElem?_eq_none (show S.ths[i].prog.length ≤ S.ths[i].at_ by omega)]
    rw [e0]
    exact (step_end h i hi he).mono fun e w' ⟨q1, q2⟩ => ⟨q1, h.keep0 q2, q2.mono (by simp)⟩
end

/-- a harness of the document's as it lies -/
structure RAt (w : World) (b pb bq : Nat) (vs : List Value) (ve vd : Value) (H : Har.Har) : Prop where
  apart : Apart b bq (ve :: vd :: vs)
  hb : w.heap[b]? = some (.cells #[.pointer (some ⟨pb, 0, none⟩), .slice (some ⟨bq, 0, none⟩) vs.length vs.length, .int .i64 H.steps, ve, vd] 108 (0, 0))
  hq : w.heap[bq]? = some (.cells vs.toArray 184 (0, 0))
  len : vs.length = H.queues.length ∧ vs.length ≤ 16
  rows : ∀ i (h1 : i < vs.length) (h2 : i < H.queues.length), w.ownsRow 0 186 3 vs[i] H.queues[i].length (H.queues[i].flatMap Job.cells)
  he : w.ownsRow 0 190 4 ve H.events.length (evs H.events)
  hd : w.ownsRow 0 3 1 vd H.ended.length H.ended

section
variable {w w' : World} {b pb bq : Nat} {vs : List Value} {ve vd : Value} {H : Har.Har}

theorem worker (h : RAt w b pb bq vs ve vd H) (who : Int) :
    Calls Tryz.prog 79 #[.pointer (some ⟨b, 0, none⟩), .int .i64 who] w fun e w' => e = .returned (.bool (decide (0 ≤ who) && decide (who < H.queues.length))) ∧ w = w' := by
  have c1 : w.cell? ⟨b, 1, none⟩ = some (.slice (some ⟨bq, 0, none⟩) vs.length vs.length) := cell_of h.hb 1
  rw [h.len.1] at c1
  obtain ⟨n, hn⟩ : ∃ n, n = H.queues.length := ⟨_, rfl⟩
  rw [← hn] at c1 ⊢
  clear h hn
  by_cases h0 : 0 ≤ who
  · have e0 : decide (0 ≤ who) = true := by simpa using h0
    rw [e0, Bool.true_and]
    go_enter Tryz.func79, Tryz.ntmps79
    go_wp2_with fail
    go_ret
    exact ⟨rfl, rfl⟩
  · have e0 : decide (0 ≤ who) = false := by simpa using h0
    rw [e0, Bool.false_and]
    go_enter Tryz.func79, Tryz.ntmps79
    go_wp2_with fail
    go_ret
    exact ⟨rfl, rfl⟩

theorem RAt.queue (h : RAt w b pb bq vs ve vd H) {k : Nat} (hk : k < H.queues.length) : ∃ a c, w.cell? ⟨bq, k, none⟩ = some (.slice a (Har.pend H k) c) := by
  have hk' : k < vs.length := by rw [h.len.1]; exact hk
  rw [Har.pend_of hk]
  have hc : w.cell? ⟨bq, k, none⟩ = some vs[k] := by rw [cell_of h.hq, List.getElem?_toArray, List.getElem?_eq_getElem hk']
  rcases (h.rows k hk' hk).2 with ⟨e, h0⟩ | ⟨g, cap, cur, e, -⟩
  · exact ⟨none, 0, by rw [hc, e, h0]⟩
  · exact ⟨_, _, by rw [hc, e]⟩

theorem pending (h : RAt w b pb bq vs ve vd H) (who : Int) :
    Calls Tryz.prog 42 #[.pointer (some ⟨b, 0, none⟩), .int .i64 who] w fun e w' => e = .returned (.int .i64 (Har.pend H who)) ∧ w = w' := by
  have HW := Lib.hid (worker h who)
  have c1 : w.cell? ⟨b, 1, none⟩ = some (.slice (some ⟨bq, 0, none⟩) vs.length vs.length) := cell_of h.hb 1
  rw [h.len.1] at c1
  by_cases hin : 0 ≤ who ∧ who < H.queues.length
  · obtain ⟨k, rfl⟩ : ∃ k : Nat, who = k := ⟨who.toNat, by omega⟩
    have hk : k < H.queues.length := by omega
    obtain ⟨a, c, hq⟩ := h.queue hk
    have hwk : (decide (0 ≤ (k : Int)) && decide ((k : Int) < H.queues.length)) = true := by simp; omega
    obtain ⟨n, hn⟩ : ∃ n, n = H.queues.length := ⟨_, rfl⟩
    obtain ⟨p, hp⟩ : ∃ p, p = Har.pend H k := ⟨_, rfl⟩
    rw [← hp] at hq ⊢
    rw [hwk] at HW
    rw [← hn] at c1 hk
    clear h hn hp hin hwk
    go_enter Tryz.func42, Tryz.ntmps42
    go_wp2_with fail
    refine HW.out.mono ?_
    rintro e w2 ⟨rfl, rfl⟩
    go_wp2_with fail
    go_ret
    exact ⟨rfl, rfl⟩
  · have hp : Har.pend H who = 0 := by
      unfold Har.pend
      split
      · rw [List.getD_eq_getElem?_getD, List.getElem?_eq_none (by omega)]
        rfl
      · rfl
    have hwk : (decide (0 ≤ who) && decide (who < H.queues.length)) = false := by
      cases h1 : decide (0 ≤ who) <;> simp at h1 ⊢
      omega
    rw [hwk] at HW
    have HP := Lib.hid hp
    rw [HP.out]
    clear h c1 hin hwk hp
    go_enter Tryz.func42, Tryz.ntmps42
    go_wp2_with fail
    refine HW.out.mono ?_
    rintro e w2 ⟨rfl, rfl⟩
    go_wp2_with fail
    go_ret
    exact ⟨rfl, rfl⟩

theorem idle (h : RAt w b pb bq vs ve vd H) :
    Calls Tryz.prog 44 #[.pointer (some ⟨b, 0, none⟩)] w fun e w' => e = .returned (.bool (Har.idleB H)) ∧ Keep [] w w' := by
  obtain ⟨n, hn⟩ : ∃ n, n = vs.length := ⟨_, rfl⟩
  have c1 : w.cell? ⟨b, 1, none⟩ = some (.slice (some ⟨bq, 0, none⟩) n n) := by rw [hn]; exact cell_of h.hb 1
  have hnq : n = H.queues.length := hn.trans h.len.1
  have HN := Lib.hid hnq
  have hw : n ≤ 16 := by have := h.len.2; omega
  have HA := Lib.hid h
  clear h hn hnq
  go_enter Tryz.func44, Tryz.ntmps44
  go_wp2_with fail
  go_loopw [3] (fun i wr => ∃ k : Nat, k ≤ n ∧ i = .int .i64 k ∧ (∀ j (hj : j < k) (h2 : j < H.queues.length), H.queues[j] = []) ∧ Keep [] w wr) (fun i _ => n - (intOf i).toNat)
  case atStart => exact ⟨0, Nat.zero_le _, rfl, fun j hj => absurd hj (by omega), Keep.refl _ _⟩
  case round =>
    obtain ⟨k, hk, rfl, hall, hK⟩ := hrel
    have HALL := Lib.hid hall
    have HKK := Lib.hid hK
    have c1' := hK.cell c1 (by simp)
    by_cases hlt : k < n
    · have hkq : k < H.queues.length := by have := HN.out; omega
      obtain ⟨a, c, hc⟩ := HA.out.queue hkq
      have cq := hK.cell hc (by simp)
      have HKQ := Lib.hid hkq
      by_cases hp : 0 < Har.pend H k
      · have hi : Har.idleB H = false := by
          rw [Har.pend_of hkq] at hp
          unfold Har.idleB
          rw [List.all_eq_false]
          refine ⟨H.queues[k], List.getElem_mem hkq, ?_⟩
          intro e
          have e2 := congrArg List.length (List.isEmpty_iff.1 e)
          simp only [List.length_nil] at e2
          omega
        have HI := Lib.hid hi
        clear hi hkq hc hall hK
        go_wp2_with fail
        go_ret
        exact ⟨by rw [HI.out]; rfl, HKK.out⟩
      · have he : H.queues[k] = [] := by
          rw [Har.pend_of hkq] at hp
          exact List.eq_nil_of_length_eq_zero (by omega)
        have HE := Lib.hid he
        clear he hkq hc hall hK
        go_wp2_with fail
        go_roundw
        case rel =>
          refine ⟨k + 1, hlt, by go_num, fun j hj h2 => ?_, HKK.out⟩
          by_cases hjk : j = k
          · subst hjk
            exact HE.out
          · exact HALL.out j (by omega) h2
        case measure => simp [intOf]; omega
    · have hi : Har.idleB H = true := by
        unfold Har.idleB
        rw [List.all_eq_true]
        intro q hq
        obtain ⟨j, hj, rfl⟩ := List.getElem_of_mem hq
        rw [hall j (by have := HN.out; omega) hj]
        rfl
      have HI := Lib.hid hi
      clear hi hall hK
      go_wp2_with fail
      go_ret
      exact ⟨by rw [HI.out]; rfl, HKK.out⟩

theorem infoPl : (Tryz.prog.info? 184).map (fun i => (i.zero, i.size, i.bytes)) = some (some (.slice none 0 0), 1, 24) := by kernel_rfl

theorem new_at (w : World) (pb n : Nat) (h2 : n ≤ 16) :
    RAt ((w.alloc (.cells (madeCells #[.slice none 0 0] n) 184)).alloc (.cells #[.pointer (some ⟨pb, 0, none⟩), .slice (some ⟨w.heap.size, 0, none⟩) n n, .int .i64 0, .slice none 0 0, .slice none 0 0] 108))
      (w.heap.size + 1) pb w.heap.size (List.replicate n (.slice none 0 0)) (.slice none 0 0) (.slice none 0 0) ⟨List.replicate n [], 0, [], []⟩ := by
  have e0 : ∀ v ∈ (.slice none 0 0) :: (.slice none 0 0) :: List.replicate n (Value.slice none 0 0), v = .slice none 0 0 := by
    intro v hv
    simp only [List.mem_cons, List.mem_replicate] at hv
    rcases hv with rfl | rfl | ⟨-, rfl⟩ <;> rfl
  have hno : ∀ i (hi : i < ((Value.slice none 0 0) :: (.slice none 0 0) :: List.replicate n (Value.slice none 0 0)).length) g, ((Value.slice none 0 0) :: (.slice none 0 0) :: List.replicate n (Value.slice none 0 0))[i].ownBlock = some g → False := by
    intro i hi g hg
    rw [e0 _ (List.getElem_mem hi)] at hg
    simp [Value.ownBlock] at hg
  refine ⟨⟨by omega, fun i hi g hg => (hno i hi g hg).elim, fun i j hi hj g hg _ => (hno i hi g hg).elim⟩, ?_, ?_, by simpa using h2, fun i h1 h3 => ⟨?_, .inl ⟨?_, ?_⟩⟩, ⟨rfl, .inl ⟨rfl, rfl⟩⟩, ⟨rfl, .inl ⟨rfl, rfl⟩⟩⟩
  · have q := alloc_new (w.alloc (.cells (madeCells #[.slice none 0 0] n) 184)) (.cells #[.pointer (some ⟨pb, 0, none⟩), .slice (some ⟨w.heap.size, 0, none⟩) n n, .int .i64 0, .slice none 0 0, .slice none 0 0] 108)
    rw [World.size_alloc] at q
    rw [q]
    simp
  · refine alloc_some _ ?_
    rw [← Har.made_list]
    exact alloc_new _ _
  · simp
  · simp
  · simp

theorem new_ok (pb n : Nat) (h1 : 1 ≤ n) (h2 : n ≤ 16) (w : World) :
    Calls Tryz.prog 11 #[.int .i64 n, .pointer (some ⟨pb, 0, none⟩)] w fun e w' => ∃ b bq vs ve vd, e = .returned (.tuple #[.pointer (some ⟨b, 0, none⟩), .int .i64 0]) ∧ RAt w' b pb bq vs ve vd ⟨List.replicate n [], 0, [], []⟩ ∧ (∀ x ∈ Har.blocks b bq (ve :: vd :: vs), w.heap.size ≤ x) ∧ Keep [] w w' := by
  have k1 := Har.make_row 106 184 _ (.slice none 0 0) 24 Tryz.underlying106 infoPl rfl n (by omega) (by omega)
  go_enter Tryz.func11, Tryz.ntmps11
  go_wp2_with fail
  go_ret2
  refine ⟨_, _, _, _, _, rfl, new_at w pb n h2, ?_, ((Keep.refl _ _).alloc _).alloc _⟩
  intro x hx
  rw [Har.mem_blocks] at hx
  rcases hx with rfl | rfl | ⟨i, hi, hx⟩
  · omega
  · omega
  · have hv := List.getElem_mem hi
    simp only [List.mem_cons, List.mem_replicate] at hv
    rcases hv with hv | hv | ⟨-, hv⟩ <;> (rw [hv] at hx; simp [Value.ownBlock] at hx)
end
end Go.Proofs.YtdkdeiofjoccnaaGreat.Ref
