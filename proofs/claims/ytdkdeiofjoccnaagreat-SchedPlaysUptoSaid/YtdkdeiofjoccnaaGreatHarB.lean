import Derived.Test.YtdkdeiofjoccnaaGreatHarA
import Derived.StillTailTactics
import Derived.Test.YtdkdeiofjoccnaaGreatPick
/- The harness: Step of a worker that has something to do. -/
namespace Go.Proofs.YtdkdeiofjoccnaaGreat.Har
open Go.RowKit Go.Proofs.YtdkdeiofjoccnaaGreat.Mem
set_option linter.unusedVariables false
set_option maxRecDepth 100000

def Har.event (H : Har) (kind who tag : Int) : Har := { H with events := H.events ++ [⟨kind, who, tag, H.steps⟩] }
/-- the head of a queue called, if it was not -/
def Har.called (H : Har) (k : Nat) (j : Job) (l : List Job) : Har := if j.called then H else (H.put k ({ j with called := true } :: l)).event 1 k j.tag
def Har.count (H : Har) : Har := { H with steps := wrap64 (H.steps + 1) }
def Har.done (H : Har) (k : Nat) (j : Job) (l : List Job) : Har := ({ H.event 2 k j.tag with ended := H.ended ++ [j.mach] }).put k l

variable {S : Type} {M : Mach S} {w0 w w' : World} {F : List Nat} {b bq : Nat} {vs : List Value} {ve vd : Value} {H : Har} {s : S}

set_option maxHeartbeats 1000000 in
/-- called, and not done -/
theorem go_more (h : Since M w0 F w b bq vs ve vd H s) (k : Nat) (hk : k < H.queues.length) (j : Job) (l : List Job) (hq : H.queues[k] = j :: l) (hc : j.called = true) (hd : (M.step s j.mach).2 = false) :
    Calls Tryz.prog 33 #[.pointer (some ⟨b, 0, none⟩), .int .i64 k] w fun e w' => e = .returned (.bool true) ∧ Since M w0 F w' b bq vs ve vd H.count (M.step s j.mach).1 := by
  have hl := h.at_.len
  have hkv : k < vs.length := by omega
  have hp : pend H k = l.length + 1 := by rw [pend_of hk, hq]; rfl
  have hrow := h.at_.rows k hkv hk
  rw [hq] at hrow
  obtain ⟨g, d, cap, hv, -, -, -, q0, q1, q2, -, -, -⟩ := hrow.head
  have hok : M.ok s j.mach := h.ok _ (List.getElem_mem hk) j (by rw [hq]; simp)
  obtain ⟨a, ha⟩ := M.addr hok
  rw [ha] at hok hd q0 ⊢
  have HOK := Lib.hid hok
  have HS := Lib.hid h
  have HD := Lib.hid hd
  have HP := Lib.hid hp
  have c0 : w.cell? ⟨b, 0, none⟩ = some (.slice (some ⟨bq, 0, none⟩) vs.length vs.length) := cell_of h.at_.hb 0
  have c1 : w.cell? ⟨b, 1, none⟩ = some (.int .i64 H.steps) := cell_of h.at_.hb 1
  have f1 : w.frozen? ⟨b, 1, none⟩ = false := free_of h.at_.hb 1
  have cq : w.cell? ⟨bq, k, none⟩ = some (.slice (some ⟨g, d * 3, none⟩) (l.length + 1) cap) := by
    rw [cell_of h.at_.hq, List.getElem?_toArray, List.getElem?_eq_getElem hkv, hv]
  rw [hc] at q2
  have hm : ∀ w : World, (method 388 38 (.pointer (some a)) "Step").run Tryz.prog w = .ok (39, .pointer (some a)) w := fun w => step_method a w
  have hna : ∀ w : World, (nilAhead 388 38 (.pointer (some a)) "Step").run Tryz.prog w = .ok (some false) w := fun w => step_ahead a w
  clear h hok hd hp hrow hv hq
  go_enter Tryz.func33, Tryz.ntmps33
  go_wp2_with fail
  refine (pending HS.out.at_ k).mono ?_
  rintro e w' ⟨rfl, rfl⟩
  rw [HP.out]
  go_wp2_with fail
  have h1 : Since M w0 F (w.setCell ⟨b, 1, none⟩ (.int .i64 (wrap64 (H.steps + 1)))) b bq vs ve vd H.count s :=
    HS.out.turn (HS.out.at_.setSteps _) ((Keep.refl [b] w).set (.inl (by simp)) 1 _) (fun x hx => by simp at hx; subst hx; exact mem_b) (fun x hx => .inl hx) HS.out.ok HS.out.few
  refine (M.calls h1.mach HOK.out).mono ?_
  rintro e w1 ⟨rfl, hR, hK⟩
  have H2 := Lib.hid (h1.step hR hK)
  clear h1 hR hK
  rw [HD.out]
  go_wp2_with fail
  go_ret
  exact ⟨rfl, H2.out⟩

theorem put_ok (h : Since M w0 F w b bq vs ve vd H s) {k : Nat} {q : List Job} (hq : ∀ j ∈ q, M.ok s j.mach) : ∀ q' ∈ (H.put k q).queues, ∀ j ∈ q', M.ok s j.mach := by
  intro q' hq' j hj
  rcases List.mem_or_eq_of_mem_set hq' with h1 | rfl
  · exact h.ok _ h1 j hj
  · exact hq j hj

/-- the head is marked as called and the event is noted -/
theorem Since.call (h : Since M w0 F w b bq vs ve vd H s) {k : Nat} (hk : k < H.queues.length) {j : Job} {l : List Job} (hq : H.queues[k] = j :: l) (hc : j.called = false) {g d cap : Nat} (hkv : k < vs.length) (hv : vs[k] = .slice (some ⟨g, d * 3, none⟩) (l.length + 1) cap)
    (hr : QRow (w.setCell ⟨g, d * 3 + 2, none⟩ (.bool true)) vs[k] ({ j with called := true } :: l)) :
    At (w.setCell ⟨g, d * 3 + 2, none⟩ (.bool true)) b bq vs ve vd (H.put k ({ j with called := true } :: l)) ∧
    ∀ (w' : World) (ve' : Value), (∀ x, ve'.ownBlock = some x → ve.ownBlock = some x ∨ (w.setCell ⟨g, d * 3 + 2, none⟩ (.bool true)).heap.size ≤ x) →
      At w' b bq vs ve' vd ((H.put k ({ j with called := true } :: l)).event 1 k j.tag) → Keep (b :: ve.ownBlock.toList) (w.setCell ⟨g, d * 3 + 2, none⟩ (.bool true)) w' →
      Since M w0 F w' b bq vs ve' vd ((H.put k ({ j with called := true } :: l)).event 1 k j.tag) s := by
  obtain ⟨hA, hg⟩ := h.at_.setJob hkv (by rw [hv]; rfl) hr
  refine ⟨hA, fun w' ve' hn hB hK => ?_⟩
  have hT : ∀ x ∈ g :: b :: ve.ownBlock.toList, x ∈ blocks b bq (ve :: vd :: vs) := by
    intro x hx
    simp only [List.mem_cons, Option.mem_toList] at hx
    rcases hx with rfl | rfl | hx
    · exact hg
    · exact mem_b
    · exact mem_ve hx
  have k1 : Keep (g :: b :: ve.ownBlock.toList) w (w.setCell ⟨g, d * 3 + 2, none⟩ (.bool true)) := (Keep.refl _ w).set (.inl (by simp)) _ _
  have k2 : Keep (g :: b :: ve.ownBlock.toList) w w' := k1.chain hK fun x hx => .inl (List.mem_cons_of_mem _ hx)
  have hj : ∀ i ∈ ({ j with called := true } :: l : List Job), M.ok s i.mach := by
    intro i hi
    rcases List.mem_cons.1 hi with rfl | hi
    · exact h.ok _ (List.getElem_mem hk) j (by rw [hq]; simp)
    · exact h.ok _ (List.getElem_mem hk) i (by rw [hq]; simp [hi])
  refine h.turn hB k2 hT (fun x hx => ?_) (put_ok h hj) ?_
  · rw [mem_blocks] at hx
    rcases hx with rfl | rfl | ⟨i, hi, hx⟩
    · exact .inl mem_b
    · exact .inl mem_bq
    · rcases i with _ | i
      · rcases hn x hx with h1 | h1
        · exact .inl (mem_ve h1)
        · exact .inr (by simpa using h1)
      · exact .inl (mem_blocks.2 (.inr (.inr ⟨i + 1, by simpa using hi, hx⟩)))
  · have h1 := due_put H hk ({ j with called := true } :: l)
    have h2 := h.few
    rw [hq] at h1
    simp only [dueQ, List.map_cons, List.sum_cons, Job.due, hc, if_true, Bool.false_eq_true, if_false] at h1
    show (H.events ++ _).length + due (H.put k _) ≤ _ ∧ H.ended.length ≤ (H.events ++ _).length
    rw [List.length_append, List.length_singleton]
    simp only [Har.put] at h1 ⊢
    omega

set_option maxHeartbeats 1000000 in
/-- not yet called, and not done -/
theorem go_first (h : Since M w0 F w b bq vs ve vd H s) (k : Nat) (hk : k < H.queues.length) (j : Job) (l : List Job) (hq : H.queues[k] = j :: l) (hc : j.called = false) (hd : (M.step s j.mach).2 = false) :
    Calls Tryz.prog 33 #[.pointer (some ⟨b, 0, none⟩), .int .i64 k] w fun e w' => e = .returned (.bool true) ∧ ∃ ve', Since M w0 F w' b bq vs ve' vd ((H.put k ({ j with called := true } :: l)).event 1 k j.tag).count (M.step s j.mach).1 := by
  have hl := h.at_.len
  have hkv : k < vs.length := by omega
  have hp : pend H k = l.length + 1 := by rw [pend_of hk, hq]; rfl
  have hrow := h.at_.rows k hkv hk
  rw [hq] at hrow
  obtain ⟨g, d, cap, hv, -, -, hglt, q0, q1, q2, z, hr, -⟩ := hrow.head
  have hok : M.ok s j.mach := h.ok _ (List.getElem_mem hk) j (by rw [hq]; simp)
  have hev : H.events.length ≤ 1000000000000 := by have := h.few; omega
  obtain ⟨hA, hnext⟩ := h.call hk hq hc hkv hv hr
  obtain ⟨a, ha⟩ := M.addr hok
  have hgb : g ≠ b ∧ g ≠ bq := h.at_.apart.off (k + 2) (by simpa using hkv) g (by simp [hv, Value.ownBlock])
  have hge : ve.ownBlock ≠ some g := fun e => by have := h.at_.apart.two 0 (k + 2) (by simp) (by simpa using hkv) g e (by simp [hv, Value.ownBlock]); omega
  rw [ha] at hok hd q0
  have hy : (w.setCell ⟨g, d * 3 + 2, none⟩ (.bool true)).cell? ⟨g, d * 3, none⟩ = some (.pointer (some a)) := by
    obtain ⟨g', d', cap', hv', -, -, -, r0, -⟩ := hr.head
    rw [hv] at hv'
    simp only [Value.slice.injEq, Option.some.injEq, Addr.mk.injEq] at hv'
    obtain ⟨⟨rfl, e, -⟩, -, -⟩ := hv'
    obtain rfl : d = d' := by omega
    rw [r0]
    exact congrArg some ha
  have HY := Lib.hid hy
  clear hy
  have HOK := Lib.hid hok
  have HS := Lib.hid h
  have HD := Lib.hid hd
  have HP := Lib.hid hp
  have HA := Lib.hid hA
  have HN := Lib.hid hnext
  have HEV := Lib.hid hev
  have HG := Lib.hid (And.intro hgb (And.intro hge hglt))
  have c0 : w.cell? ⟨b, 0, none⟩ = some (.slice (some ⟨bq, 0, none⟩) vs.length vs.length) := cell_of h.at_.hb 0
  have cq : w.cell? ⟨bq, k, none⟩ = some (.slice (some ⟨g, d * 3, none⟩) (l.length + 1) cap) := by
    rw [cell_of h.at_.hq, List.getElem?_toArray, List.getElem?_eq_getElem hkv, hv]
  have z2 := z (d * 3 + 2)
  rw [hc] at q2
  have hm : ∀ w : World, (method 388 38 (.pointer (some a)) "Step").run Tryz.prog w = .ok (39, .pointer (some a)) w := fun w => step_method a w
  have hna : ∀ w : World, (nilAhead 388 38 (.pointer (some a)) "Step").run Tryz.prog w = .ok (some false) w := fun w => step_ahead a w
  clear h hok hd hp hrow hv hq hr hA hnext hev z hgb hge hglt
  go_enter Tryz.func33, Tryz.ntmps33
  go_wp2_with fail
  refine (pending HS.out.at_ k).mono ?_
  rintro e w' ⟨rfl, rfl⟩
  rw [HP.out]
  go_wp2_with fail
  refine (note HA.out 1 k j.tag HEV.out).mono ?_
  rintro e w1 ⟨rfl, ve', hn, hB, hK⟩
  have h1 := HN.out w1 ve' hn hB hK
  have HB := Lib.hid h1
  have y0 : w1.cell? ⟨g, d * 3, none⟩ = some (.pointer (some a)) := hK.cell HY.out (by
    have := HG.out
    simp only [List.mem_cons, Option.mem_toList, not_or]
    exact ⟨this.1.1, this.2.1⟩)
  have c1 : w1.cell? ⟨b, 1, none⟩ = some (.int .i64 H.steps) := cell_of hB.hb 1
  have f1 : w1.frozen? ⟨b, 1, none⟩ = false := free_of hB.hb 1
  clear h1 hn hB hK
  go_wp2_with fail
  have h2 : Since M w0 F (w1.setCell ⟨b, 1, none⟩ (.int .i64 (wrap64 (H.steps + 1)))) b bq vs ve' vd ((H.put k ({ j with called := true } :: l)).event 1 k j.tag).count s :=
    HB.out.turn (HB.out.at_.setSteps _) ((Keep.refl [b] w1).set (.inl (by simp)) 1 _) (fun x hx => by simp at hx; subst hx; exact mem_b) (fun x hx => .inl hx) HB.out.ok HB.out.few
  refine (M.calls h2.mach HOK.out).mono ?_
  rintro e w3 ⟨rfl, hR, hK⟩
  have H2 := Lib.hid (h2.step hR hK)
  clear h2 hR hK
  rw [HD.out]
  go_wp2_with fail
  go_ret
  exact ⟨rfl, ve', by have q := H2.out; rw [← ha] at q; exact q⟩
end Go.Proofs.YtdkdeiofjoccnaaGreat.Har

/- The harness: Step of a machine that is then done. -/
namespace Go.Proofs.YtdkdeiofjoccnaaGreat.Har
open Go.RowKit Go.Proofs.YtdkdeiofjoccnaaGreat.Mem
set_option linter.unusedVariables false
set_option maxRecDepth 100000

variable {S : Type} {M : Mach S} {w0 w w' : World} {F : List Nat} {b bq : Nat} {vs : List Value} {ve vd : Value} {H : Har} {s : S}

theorem infoT : (Tryz.prog.info? 38).map (fun i => (i.zero, i.size, i.bytes)) = some (some (.pointer none), 1, 8) := by kernel_rfl
theorem one_ptr (a : Addr) : ∀ u ∈ [Value.pointer (some a)], u.oneCell' = true := by simp [Value.oneCell']

/-- q[1:] -/
theorem cut_one (g d n cap : Nat) (h : n + 1 ≤ cap) (w : World) :
    (Instr.slice 180 (.slice (some ⟨g, d * 3, none⟩) (n + 1) cap) (some (.int .i64 1)) none none).run Tryz.prog w = .ok (.slice (some ⟨g, if cap = 1 then d * 3 else d * 3 + 3, none⟩) n (cap - 1)) w := by
  rw [run_slice_l w 180 _ _ _ (by kernel_rfl) .i64 1 (by omega) (by omega)]
  have hs : (sizeOf (Tryz.prog.elem 180)).run Tryz.prog w = .ok 3 w := by kernel_rfl
  rw [hs]
  have e1 : (1 : Int).toNat = 1 := rfl
  simp only [Result.andThen, sliced, e1, Nat.add_sub_cancel, Option.map_some]
  by_cases e : cap = 1
  · rw [if_pos e, if_pos e]
  · rw [if_neg e, if_neg e]
    simp [Addr.add]

/-- the head is let go, the event noted, the machine among the ended ones -/
theorem Since.finish {w1 w9 : World} {ve' vd' : Value} (h : Since M w0 F w1 b bq vs ve vd H s) {k : Nat} (hk : k < H.queues.length) {j : Job} {l : List Job} (hq : H.queues[k] = j :: l) (hc : j.called = true) {g d cap : Nat} (hkv : k < vs.length) (hv : vs[k] = .slice (some ⟨g, d * 3, none⟩) (l.length + 1) cap)
    (hn : ∀ x, ve'.ownBlock = some x → ve.ownBlock = some x ∨ w1.heap.size ≤ x) (hd : ∀ x, vd'.ownBlock = some x → vd.ownBlock = some x ∨ w1.heap.size ≤ x)
    (h9 : At w9 b bq vs ve' vd' { H.event 2 k j.tag with ended := H.ended ++ [j.mach] }) (k9 : Keep (b :: (ve.ownBlock.toList ++ vd.ownBlock.toList)) w1 w9) {y : Nat} (hy : y = if cap = 1 then d * 3 else d * 3 + 3) :
    Since M w0 F (w9.setCell ⟨bq, k, none⟩ (.slice (some ⟨g, y, none⟩) l.length (cap - 1))) b bq (vs.set k (.slice (some ⟨g, y, none⟩) l.length (cap - 1))) ve' vd' (H.done k j l) s := by
  have hrow : QRow w9 vs[k] (j :: l) := hq ▸ (h9.rows k hkv hk : QRow w9 vs[k] H.queues[k])
  obtain ⟨g', d', cap', hv', -, -, -, -, -, -, -, -, hr⟩ := hrow.head
  rw [hv] at hv'
  simp only [Value.slice.injEq, Option.some.injEq, Addr.mk.injEq] at hv'
  obtain ⟨⟨rfl, e, -⟩, -, rfl⟩ := hv'
  obtain rfl : d = d' := by omega
  rw [← hy] at hr
  have hA := h9.setQ (v := .slice (some ⟨g, y, none⟩) l.length (cap - 1)) hkv (fun x hx => .inl (by rw [hv]; exact hx)) hr
  have hT : ∀ x ∈ bq :: b :: (ve.ownBlock.toList ++ vd.ownBlock.toList), x ∈ blocks b bq (ve :: vd :: vs) := by
    intro x hx
    simp only [List.mem_cons, List.mem_append, Option.mem_toList] at hx
    rcases hx with rfl | rfl | hx | hx
    · exact mem_bq
    · exact mem_b
    · exact mem_ve hx
    · exact mem_vd hx
  have kk : Keep (bq :: b :: (ve.ownBlock.toList ++ vd.ownBlock.toList)) w1 (w9.setCell ⟨bq, k, none⟩ (.slice (some ⟨g, y, none⟩) l.length (cap - 1))) :=
    (k9.mono fun x hx => List.mem_cons_of_mem _ hx).set (.inl (by simp)) _ _
  refine h.turn hA kk hT (fun x hx => ?_) (put_ok h fun i hi => h.ok _ (List.getElem_mem hk) i (by rw [hq]; simp [hi])) ?_
  · rw [mem_blocks] at hx
    rcases hx with rfl | rfl | ⟨i, hi, hx⟩
    · exact .inl mem_b
    · exact .inl mem_bq
    · rcases i with _ | _ | i
      · rcases hn x hx with h1 | h1
        · exact .inl (mem_ve h1)
        · exact .inr h1
      · rcases hd x hx with h1 | h1
        · exact .inl (mem_vd h1)
        · exact .inr h1
      · simp only [List.getElem_cons_succ, List.getElem_set] at hx
        have hi' : i < vs.length := by simpa using hi
        split at hx
        · rename_i e
          subst e
          exact .inl (mem_vs hi' (by rw [hv]; exact hx))
        · exact .inl (mem_vs hi' hx)
  · have h1 := due_put H hk l
    have h2 := h.few
    rw [hq] at h1
    simp only [dueQ, List.map_cons, List.sum_cons, Job.due, hc, if_true] at h1
    show (H.events ++ _).length + due (H.put k _) ≤ _ ∧ (H.ended ++ _).length ≤ (H.events ++ _).length
    simp only [List.length_append, List.length_singleton]
    simp only [Har.put] at h1 ⊢
    omega

set_option maxHeartbeats 1000000 in
/-- called, and now done -/
theorem go_last (h : Since M w0 F w b bq vs ve vd H s) (k : Nat) (hk : k < H.queues.length) (j : Job) (l : List Job) (hq : H.queues[k] = j :: l) (hc : j.called = true) (hd : (M.step s j.mach).2 = true) :
    Calls Tryz.prog 33 #[.pointer (some ⟨b, 0, none⟩), .int .i64 k] w fun e w' => e = .returned (.bool true) ∧ ∃ vs' ve' vd', Since M w0 F w' b bq vs' ve' vd' (H.count.done k j l) (M.step s j.mach).1 := by
  obtain ⟨i0, hi, hz0, hz1, hz2⟩ := info_parts infoT
  have HI := Lib.hid hi; clear hi
  have HZ := Lib.hid (And.intro hz0 (And.intro hz1 hz2)); clear hz0 hz1 hz2
  have hl := h.at_.len
  have hkv : k < vs.length := by omega
  have hp : pend H k = l.length + 1 := by rw [pend_of hk, hq]; rfl
  have hrow := h.at_.rows k hkv hk
  rw [hq] at hrow
  obtain ⟨g, d, cap, hv, hcap, -, hglt, q0, q1, q2, -, -, -⟩ := hrow.head
  have hok : M.ok s j.mach := h.ok _ (List.getElem_mem hk) j (by rw [hq]; simp)
  have hen : H.ended.length ≤ 1000000000000 := by have := h.few; omega
  obtain ⟨a, ha⟩ := M.addr hok
  have hgm : g ∈ blocks b bq (ve :: vd :: vs) := mem_vs hkv (by rw [hv]; rfl)
  have hgb : g ≠ b ∧ g ≠ bq := h.at_.apart.off (k + 2) (by simpa using hkv) g (by simp [hv, Value.ownBlock])
  have hge : ve.ownBlock ≠ some g := fun e => by have := h.at_.apart.two 0 (k + 2) (by simp) (by simpa using hkv) g e (by simp [hv, Value.ownBlock]); omega
  have hgd : vd.ownBlock ≠ some g := fun e => by have := h.at_.apart.two 1 (k + 2) (by simp) (by simpa using hkv) g e (by simp [hv, Value.ownBlock]); omega
  rw [ha] at hok hd q0
  have HG := Lib.hid (And.intro hgm (And.intro hgb (And.intro hge (And.intro hgd hglt))))
  have HQ := Lib.hid (And.intro hk (And.intro hq (And.intro hv hcap)))
  have HOK := Lib.hid hok
  have HS := Lib.hid h
  have HD := Lib.hid hd
  have HP := Lib.hid hp
  have HEN := Lib.hid hen
  have HL := Lib.hid (And.intro hl hkv)
  have hl1 : 1 ≤ l.length + 1 := by omega
  have c0 : w.cell? ⟨b, 0, none⟩ = some (.slice (some ⟨bq, 0, none⟩) vs.length vs.length) := cell_of h.at_.hb 0
  have c1 : w.cell? ⟨b, 1, none⟩ = some (.int .i64 H.steps) := cell_of h.at_.hb 1
  have f1 : w.frozen? ⟨b, 1, none⟩ = false := free_of h.at_.hb 1
  have cq : w.cell? ⟨bq, k, none⟩ = some (.slice (some ⟨g, d * 3, none⟩) (l.length + 1) cap) := by
    rw [cell_of h.at_.hq, List.getElem?_toArray, List.getElem?_eq_getElem hkv, hv]
  rw [hc] at q2
  have hm : ∀ w : World, (method 388 38 (.pointer (some a)) "Step").run Tryz.prog w = .ok (39, .pointer (some a)) w := fun w => step_method a w
  have hna : ∀ w : World, (nilAhead 388 38 (.pointer (some a)) "Step").run Tryz.prog w = .ok (some false) w := fun w => step_ahead a w
  clear h hok hd hp hrow hv hq hen hgm hgb hge hgd hglt hl
  obtain ⟨y, hY, hsl⟩ : ∃ y, y = (if cap = 1 then d * 3 else d * 3 + 3) ∧ ∀ w : World, (Instr.slice 180 (.slice (some ⟨g, d * 3, none⟩) (l.length + 1) cap) (some (.int .i64 1)) none none).run Tryz.prog w = .ok (.slice (some ⟨g, y, none⟩) l.length (cap - 1)) w :=
    ⟨_, rfl, fun w => cut_one g d l.length cap hcap w⟩
  have HY := Lib.hid hY
  clear hY
  go_enter Tryz.func33, Tryz.ntmps33
  go_wp2_with fail
  refine (pending HS.out.at_ k).mono ?_
  rintro e w' ⟨rfl, rfl⟩
  rw [HP.out]
  go_wp2_with fail
  have h1 : Since M w0 F (w.setCell ⟨b, 1, none⟩ (.int .i64 (wrap64 (H.steps + 1)))) b bq vs ve vd H.count s :=
    HS.out.turn (HS.out.at_.setSteps _) ((Keep.refl [b] w).set (.inl (by simp)) 1 _) (fun x hx => by simp at hx; subst hx; exact mem_b) (fun x hx => .inl hx) HS.out.ok HS.out.few
  refine (M.calls h1.mach HOK.out).mono ?_
  rintro e w1 ⟨rfl, hR, hK⟩
  have H2 := Lib.hid (h1.step hR hK)
  have r0 : w1.cell? ⟨g, d * 3, none⟩ = some (.pointer (some a)) := hK.cell (by rw [World.cell?_of_block (w := w) (set_other HG.out.2.1.1 _ _)]; exact q0) (fun hm => h1.apart g hm HG.out.1)
  have r1 : w1.cell? ⟨g, d * 3 + 1, none⟩ = some (.int .i64 j.tag) := hK.cell (by rw [World.cell?_of_block (w := w) (set_other HG.out.2.1.1 _ _)]; exact q1) (fun hm => h1.apart g hm HG.out.1)
  clear h1 hR hK q0 q1 c0 c1 f1 cq q2
  rw [HD.out]
  go_wp2_with fail
  refine (note H2.out.at_ 2 k j.tag (by have := H2.out.few; omega)).mono ?_
  rintro e w3 ⟨rfl, ve', hn, hB, hK⟩
  have HN := Lib.hid hn
  have HB := Lib.hid hB
  have HK := Lib.hid hK
  have b3 : w3.cell? ⟨b, 3, none⟩ = some vd := cell_of hB.hb 3
  have z3 : w3.frozen? ⟨b, 3, none⟩ = false := free_of hB.hb 3
  have n3 := World.new_ne w3 _ b3
  have r3 : w3.cell? ⟨g, d * 3, none⟩ = some (.pointer (some a)) := hK.cell r0 (by
    have := HG.out
    simp only [List.mem_cons, Option.mem_toList, not_or]
    exact ⟨this.2.1.1, this.2.2.1⟩)
  have za : ∀ o : Obj, (w3.alloc o).drew.frozen? ⟨b, 3, none⟩ = false := fun o => free_of (show (w3.alloc o).drew.heap[b]? = _ from alloc_some o hB.hb) 3
  have zc : ∀ o : Obj, (w3.alloc o).drew.cell? ⟨b, 3, none⟩ = some vd := fun o => cell_of (show (w3.alloc o).drew.heap[b]? = _ from alloc_some o hB.hb) 3
  have hsz : Hid (b < w3.heap.size) := Lib.hid (lt_of hB.hb)
  have hvo : Hid (some b ≠ vd.ownBlock) := Lib.hid (fun e => hB.ne_b.2.2.1 b e.symm rfl)
  have d1 := Lib.hid (one_ptr a)
  have d2 := Lib.hid (show H.ended.length + 1 ≤ maxLen by unfold maxLen; have := HEN.out; omega)
  have d3 := Lib.hid (show (H.ended.length + 1) * 8 ≤ 140737488355328 by have := HEN.out; omega)
  clear hn hB hK r0 r1
  go_wp2_with fail
  go_region_law
    (first
      | (refine step_append_lies _ (by rfl) _ _ _ (by rfl) 0 38 i0 _ 1 8 Tryz.underlying85 HI.out HZ.out.1 HZ.out.2.1 HZ.out.2.2 rfl (by decide) vd H.ended.length H.ended (by rfl) ((HB.out.hd.alloc _).drew) ⟨w3.heap.size, 0, none⟩ 1 1 [.pointer (some a)] (by rfl) (by rfl) (World.news_of_block (cs := #[.pointer (some a)]) (fr := (0, 0)) (alloc_new w3 _)) d1.out (by decide) d2.out d3.out (Nat.zero_le _) _ rfl ?_; intro g' cap' w7 hown7 hgrow7 hat7 hlt7; have HO7 := Lib.hid hown7; have G7 := Lib.hid hgrow7; have A7 := Lib.hid hat7; have y1 : w7.cell? ⟨b, 3, none⟩ = some vd := (hgrow7.cell_far _ (by have := hsz.out; simp; omega) hvo.out).trans (zc _); have y2 : w7.frozen? ⟨b, 3, none⟩ = false := (hgrow7.frozen_far _ (by have := hsz.out; simp; omega) hvo.out).trans (za _); clear hown7 hgrow7 hat7))
  all_goals
    go_wp2_with fail
    have hA := HB.out.keep (((Keep.refl [] w3).alloc (.cells #[.pointer (some a)] 38 (0, 0))).drew) (by simp)
    have hO := HO7.out
    rw [show H.ended.length + 1 = (H.ended ++ [Value.pointer (some a)]).length by simp] at hO
    obtain ⟨q1, q2⟩ := hA.setEnded hO G7.out (fun x hx => by
      have hx' : g' = x := by simpa [Value.ownBlock] using hx
      subst hx'
      exact A7.out.imp id (fun e => by rw [e]; exact Nat.le_refl _))
    rw [show (H.ended ++ [Value.pointer (some a)]).length = H.ended.length + 1 by simp] at q1 q2
    have k8 := Keep.trans (((Keep.refl _ w3).alloc (.cells #[.pointer (some a)] 38 (0, 0))).drew) q2
    obtain ⟨w9, hw9⟩ : ∃ w9, w9 = (w7.setCell ⟨b, 3, none⟩ (.slice (some ⟨g', 0, none⟩) (H.ended.length + 1) cap')).drew := ⟨_, rfl⟩
    have H9 := Lib.hid (q1.keep (((Keep.refl [] _).drew)) (by simp))
    have K9 := Lib.hid (k8.drew)
    rw [← hw9] at H9 K9
    clear q1 q2 k8 hA hO HO7 G7 y1 y2
    have c0 : w9.cell? ⟨b, 0, none⟩ = some (.slice (some ⟨bq, 0, none⟩) vs.length vs.length) := cell_of H9.out.hb 0
    have cq : w9.cell? ⟨bq, k, none⟩ = some (.slice (some ⟨g, d * 3, none⟩) (l.length + 1) cap) := by
      rw [cell_of H9.out.hq, List.getElem?_toArray, List.getElem?_eq_getElem hkv, HQ.out.2.2.1]
    have fq := free_of H9.out.hq k
    refine wp_region_still_tail 8 (by kernel_rfl) (by kernel_rfl) ?_
    have hw9' : { heap := (w7.setCell ⟨b, 3, none⟩ (.slice (some ⟨g', 0, none⟩) (H.ended.length + 1) cap')).heap, tape := (w7.setCell ⟨b, 3, none⟩ (.slice (some ⟨g', 0, none⟩) (H.ended.length + 1) cap')).tape, drawn := (w7.setCell ⟨b, 3, none⟩ (.slice (some ⟨g', 0, none⟩) (H.ended.length + 1) cap')).drawn + 1, os := (w7.setCell ⟨b, 3, none⟩ (.slice (some ⟨g', 0, none⟩) (H.ended.length + 1) cap')).os, output := (w7.setCell ⟨b, 3, none⟩ (.slice (some ⟨g', 0, none⟩) (H.ended.length + 1) cap')).output : World } = w9 := hw9.symm
    rw [hw9']
    clear hw9 hw9'
    simp only [List.take_succ_cons, List.take_zero, List.drop_succ_cons, List.drop_zero]
    repeat still_step
    refine wpStill_nil ?_
    go_wp2_with fail
    go_ret
    have h1q : k < H.count.queues.length := hk
    have fin := H2.out.finish (vd' := .slice (some ⟨g', 0, none⟩) (H.ended.length + 1) cap') h1q HQ.out.2.1 hc hkv HQ.out.2.2.1 HN.out (fun x hx => by
      have hx' : g' = x := by simpa [Value.ownBlock] using hx
      subst hx'
      exact A7.out.imp id (fun e => by rw [e]; exact Nat.le_trans HK.out.size (by simp))) (by have q := H9.out; rw [← ha] at q; exact q)
      (Keep.trans (HK.out.mono (by simp +contextual)) (K9.out.mono (by simp +contextual))) HY.out
    exact ⟨rfl, _, ve', _, fin⟩
end Go.Proofs.YtdkdeiofjoccnaaGreat.Har

/- The harness: Step of a machine that was not called and is then done. -/
namespace Go.Proofs.YtdkdeiofjoccnaaGreat.Har
open Go.RowKit Go.Proofs.YtdkdeiofjoccnaaGreat.Mem
set_option linter.unusedVariables false
set_option maxRecDepth 100000

variable {S : Type} {M : Mach S} {w0 w w' : World} {F : List Nat} {b bq : Nat} {vs : List Value} {ve vd : Value} {H : Har} {s : S}

set_option maxHeartbeats 1000000 in
/-- not yet called, and now done -/
theorem go_only (h : Since M w0 F w b bq vs ve vd H s) (k : Nat) (hk : k < H.queues.length) (j : Job) (l : List Job) (hq : H.queues[k] = j :: l) (hc : j.called = false) (hd : (M.step s j.mach).2 = true) :
    Calls Tryz.prog 33 #[.pointer (some ⟨b, 0, none⟩), .int .i64 k] w fun e w' => e = .returned (.bool true) ∧ ∃ vs' ve' vd', Since M w0 F w' b bq vs' ve' vd' (((H.put k ({ j with called := true } :: l)).event 1 k j.tag).count.done k { j with called := true } l) (M.step s j.mach).1 := by
  obtain ⟨i0, hi, hz0, hz1, hz2⟩ := info_parts infoT
  have HI := Lib.hid hi; clear hi
  have HZ := Lib.hid (And.intro hz0 (And.intro hz1 hz2)); clear hz0 hz1 hz2
  have hl := h.at_.len
  have hkv : k < vs.length := by omega
  have hp : pend H k = l.length + 1 := by rw [pend_of hk, hq]; rfl
  have hrow := h.at_.rows k hkv hk
  rw [hq] at hrow
  obtain ⟨g, d, cap, hv, hcap, -, hglt, q0, q1, q2, z, hr, -⟩ := hrow.head
  have hok : M.ok s j.mach := h.ok _ (List.getElem_mem hk) j (by rw [hq]; simp)
  have hev : H.events.length ≤ 1000000000000 := by have := h.few; omega
  obtain ⟨hA, hnext⟩ := h.call hk hq hc hkv hv hr
  obtain ⟨a, ha⟩ := M.addr hok
  have hgb : g ≠ b ∧ g ≠ bq := h.at_.apart.off (k + 2) (by simpa using hkv) g (by simp [hv, Value.ownBlock])
  have hge : ve.ownBlock ≠ some g := fun e => by have := h.at_.apart.two 0 (k + 2) (by simp) (by simpa using hkv) g e (by simp [hv, Value.ownBlock]); omega
  rw [ha] at hok hd q0
  have hy : (w.setCell ⟨g, d * 3 + 2, none⟩ (.bool true)).cell? ⟨g, d * 3, none⟩ = some (.pointer (some a)) := by
    obtain ⟨g', d', cap', hv', -, -, -, r0, -⟩ := hr.head
    rw [hv] at hv'
    simp only [Value.slice.injEq, Option.some.injEq, Addr.mk.injEq] at hv'
    obtain ⟨⟨rfl, e, -⟩, -, -⟩ := hv'
    obtain rfl : d = d' := by omega
    rw [r0]
    exact congrArg some ha
  have hy1 : (w.setCell ⟨g, d * 3 + 2, none⟩ (.bool true)).cell? ⟨g, d * 3 + 1, none⟩ = some (.int .i64 j.tag) := by
    obtain ⟨g', d', cap', hv', -, -, -, -, r1, -⟩ := hr.head
    rw [hv] at hv'
    simp only [Value.slice.injEq, Option.some.injEq, Addr.mk.injEq] at hv'
    obtain ⟨⟨rfl, e, -⟩, -, -⟩ := hv'
    obtain rfl : d = d' := by omega
    exact r1
  have HYY := Lib.hid (And.intro hy hy1)
  clear hy1
  clear hy
  have HOK := Lib.hid hok
  have HS := Lib.hid h
  have HD := Lib.hid hd
  have HP := Lib.hid hp
  have HA := Lib.hid hA
  have HN := Lib.hid hnext
  have HEV := Lib.hid hev
  have HL := Lib.hid (And.intro hl hkv)
  have HQ := Lib.hid (And.intro hk (And.intro hq (And.intro hv hcap)))
  have hl1 : 1 ≤ l.length + 1 := by omega
  have HG := Lib.hid (And.intro hgb (And.intro hge hglt))
  have c0 : w.cell? ⟨b, 0, none⟩ = some (.slice (some ⟨bq, 0, none⟩) vs.length vs.length) := cell_of h.at_.hb 0
  have cq : w.cell? ⟨bq, k, none⟩ = some (.slice (some ⟨g, d * 3, none⟩) (l.length + 1) cap) := by
    rw [cell_of h.at_.hq, List.getElem?_toArray, List.getElem?_eq_getElem hkv, hv]
  have z2 := z (d * 3 + 2)
  rw [hc] at q2
  have hm : ∀ w : World, (method 388 38 (.pointer (some a)) "Step").run Tryz.prog w = .ok (39, .pointer (some a)) w := fun w => step_method a w
  have hna : ∀ w : World, (nilAhead 388 38 (.pointer (some a)) "Step").run Tryz.prog w = .ok (some false) w := fun w => step_ahead a w
  clear h hok hd hp hrow hv hq hr hA hnext hev z hgb hge hglt hl
  obtain ⟨y, hY, hsl⟩ : ∃ y, y = (if cap = 1 then d * 3 else d * 3 + 3) ∧ ∀ w : World, (Instr.slice 180 (.slice (some ⟨g, d * 3, none⟩) (l.length + 1) cap) (some (.int .i64 1)) none none).run Tryz.prog w = .ok (.slice (some ⟨g, y, none⟩) l.length (cap - 1)) w :=
    ⟨_, rfl, fun w => cut_one g d l.length cap hcap w⟩
  have HY := Lib.hid hY
  clear hY
  go_enter Tryz.func33, Tryz.ntmps33
  go_wp2_with fail
  refine (pending HS.out.at_ k).mono ?_
  rintro e w' ⟨rfl, rfl⟩
  rw [HP.out]
  go_wp2_with fail
  refine (note HA.out 1 k j.tag HEV.out).mono ?_
  rintro e w1 ⟨rfl, ve1, hn, hB, hK⟩
  have h1 := HN.out w1 ve1 hn hB hK
  have HB := Lib.hid h1
  have y0 : w1.cell? ⟨g, d * 3, none⟩ = some (.pointer (some a)) := hK.cell HYY.out.1 (by
    have := HG.out
    simp only [List.mem_cons, Option.mem_toList, not_or]
    exact ⟨this.1.1, this.2.1⟩)
  have y1 : w1.cell? ⟨g, d * 3 + 1, none⟩ = some (.int .i64 j.tag) := hK.cell HYY.out.2 (by
    have := HG.out
    simp only [List.mem_cons, Option.mem_toList, not_or]
    exact ⟨this.1.1, this.2.1⟩)
  have c1 : w1.cell? ⟨b, 1, none⟩ = some (.int .i64 H.steps) := cell_of hB.hb 1
  have f1 : w1.frozen? ⟨b, 1, none⟩ = false := free_of hB.hb 1
  clear h1 hn hB hK
  go_wp2_with fail
  have h2 : Since M w0 F (w1.setCell ⟨b, 1, none⟩ (.int .i64 (wrap64 (H.steps + 1)))) b bq vs ve1 vd ((H.put k ({ j with called := true } :: l)).event 1 k j.tag).count s :=
    HB.out.turn (HB.out.at_.setSteps _) ((Keep.refl [b] w1).set (.inl (by simp)) 1 _) (fun x hx => by simp at hx; subst hx; exact mem_b) (fun x hx => .inl hx) HB.out.ok HB.out.few
  refine (M.calls h2.mach HOK.out).mono ?_
  rintro e w5 ⟨rfl, hR, hK⟩
  have H2 := Lib.hid (h2.step hR hK)
  have hg2 : ve1.ownBlock ≠ some g ∧ vd.ownBlock ≠ some g ∧ g ∈ blocks b bq (ve1 :: vd :: vs) := by
    have hA := h2.at_
    have hv := HQ.out.2.2.1
    have hkv := HL.out.2
    exact ⟨fun e => by have := hA.apart.two 0 (k + 2) (by simp) (by simpa using hkv) g e (by simp [hv, Value.ownBlock]); omega, fun e => by have := hA.apart.two 1 (k + 2) (by simp) (by simpa using hkv) g e (by simp [hv, Value.ownBlock]); omega, mem_vs hkv (by rw [hv]; rfl)⟩
  have HG2 := Lib.hid hg2
  have r0 : w5.cell? ⟨g, d * 3, none⟩ = some (.pointer (some a)) := hK.cell (by rw [World.cell?_of_block (w := w1) (set_other HG.out.1.1 _ _)]; exact y0) (fun hm => h2.apart g hm hg2.2.2)
  have r1 : w5.cell? ⟨g, d * 3 + 1, none⟩ = some (.int .i64 j.tag) := hK.cell (by rw [World.cell?_of_block (w := w1) (set_other HG.out.1.1 _ _)]; exact y1) (fun hm => h2.apart g hm hg2.2.2)
  have hen : (((H.put k ({ j with called := true } :: l)).event 1 k j.tag).count).ended.length ≤ 1000000000000 := by have := H2.out.few; omega
  have HEN := Lib.hid (show H.ended.length ≤ 1000000000000 from hen)
  clear h2 hR hK hg2 hen y0 y1 c1 f1 c0 cq q2 z2 q0 q1
  rw [HD.out]
  go_wp2_with fail
  refine (note H2.out.at_ 2 k j.tag (by have := H2.out.few; omega)).mono ?_
  rintro e w3 ⟨rfl, ve', hn, hB, hK⟩
  have HN := Lib.hid hn
  have HB := Lib.hid hB
  have HK := Lib.hid hK
  have b3 : w3.cell? ⟨b, 3, none⟩ = some vd := cell_of hB.hb 3
  have z3 : w3.frozen? ⟨b, 3, none⟩ = false := free_of hB.hb 3
  have n3 := World.new_ne w3 _ b3
  have r3 : w3.cell? ⟨g, d * 3, none⟩ = some (.pointer (some a)) := hK.cell r0 (by
    have := HG.out
    simp only [List.mem_cons, Option.mem_toList, not_or]
    exact ⟨this.1.1, HG2.out.1⟩)
  have za : ∀ o : Obj, (w3.alloc o).drew.frozen? ⟨b, 3, none⟩ = false := fun o => free_of (show (w3.alloc o).drew.heap[b]? = _ from alloc_some o hB.hb) 3
  have zc : ∀ o : Obj, (w3.alloc o).drew.cell? ⟨b, 3, none⟩ = some vd := fun o => cell_of (show (w3.alloc o).drew.heap[b]? = _ from alloc_some o hB.hb) 3
  have hsz : Hid (b < w3.heap.size) := Lib.hid (lt_of hB.hb)
  have hvo : Hid (some b ≠ vd.ownBlock) := Lib.hid (fun e => hB.ne_b.2.2.1 b e.symm rfl)
  have d1 := Lib.hid (one_ptr a)
  have d2 := Lib.hid (show H.ended.length + 1 ≤ maxLen by unfold maxLen; have := HEN.out; omega)
  have d3 := Lib.hid (show (H.ended.length + 1) * 8 ≤ 140737488355328 by have := HEN.out; omega)
  clear hn hB hK r0 r1
  go_wp2_with fail
  go_region_law
    (first
      | (refine step_append_lies _ (by rfl) _ _ _ (by rfl) 0 38 i0 _ 1 8 Tryz.underlying85 HI.out HZ.out.1 HZ.out.2.1 HZ.out.2.2 rfl (by decide) vd H.ended.length H.ended (by rfl) ((HB.out.hd.alloc _).drew) ⟨w3.heap.size, 0, none⟩ 1 1 [.pointer (some a)] (by rfl) (by rfl) (World.news_of_block (cs := #[.pointer (some a)]) (fr := (0, 0)) (alloc_new w3 _)) d1.out (by decide) d2.out d3.out (Nat.zero_le _) _ rfl ?_; intro g' cap' w7 hown7 hgrow7 hat7 hlt7; have HO7 := Lib.hid hown7; have G7 := Lib.hid hgrow7; have A7 := Lib.hid hat7; have y1 : w7.cell? ⟨b, 3, none⟩ = some vd := (hgrow7.cell_far _ (by have := hsz.out; simp; omega) hvo.out).trans (zc _); have y2 : w7.frozen? ⟨b, 3, none⟩ = false := (hgrow7.frozen_far _ (by have := hsz.out; simp; omega) hvo.out).trans (za _); clear hown7 hgrow7 hat7))
  all_goals
    go_wp2_with fail
    have hA := HB.out.keep (((Keep.refl [] w3).alloc (.cells #[.pointer (some a)] 38 (0, 0))).drew) (by simp)
    have hO := HO7.out
    rw [show H.ended.length + 1 = (H.ended ++ [Value.pointer (some a)]).length by simp] at hO
    obtain ⟨q1, q2⟩ := hA.setEnded hO G7.out (fun x hx => by
      have hx' : g' = x := by simpa [Value.ownBlock] using hx
      subst hx'
      exact A7.out.imp id (fun e => by rw [e]; exact Nat.le_refl _))
    rw [show (H.ended ++ [Value.pointer (some a)]).length = H.ended.length + 1 by simp] at q1 q2
    have k8 := Keep.trans (((Keep.refl _ w3).alloc (.cells #[.pointer (some a)] 38 (0, 0))).drew) q2
    obtain ⟨w9, hw9⟩ : ∃ w9, w9 = (w7.setCell ⟨b, 3, none⟩ (.slice (some ⟨g', 0, none⟩) (H.ended.length + 1) cap')).drew := ⟨_, rfl⟩
    have H9 := Lib.hid (q1.keep (((Keep.refl [] _).drew)) (by simp))
    have K9 := Lib.hid (k8.drew)
    rw [← hw9] at H9 K9
    clear q1 q2 k8 hA hO HO7 G7 y1 y2
    have c0 : w9.cell? ⟨b, 0, none⟩ = some (.slice (some ⟨bq, 0, none⟩) vs.length vs.length) := cell_of H9.out.hb 0
    have cq : w9.cell? ⟨bq, k, none⟩ = some (.slice (some ⟨g, d * 3, none⟩) (l.length + 1) cap) := by
      rw [cell_of H9.out.hq, List.getElem?_toArray, List.getElem?_eq_getElem hkv, HQ.out.2.2.1]
    have fq := free_of H9.out.hq k
    refine wp_region_still_tail 8 (by kernel_rfl) (by kernel_rfl) ?_
    have hw9' : { heap := (w7.setCell ⟨b, 3, none⟩ (.slice (some ⟨g', 0, none⟩) (H.ended.length + 1) cap')).heap, tape := (w7.setCell ⟨b, 3, none⟩ (.slice (some ⟨g', 0, none⟩) (H.ended.length + 1) cap')).tape, drawn := (w7.setCell ⟨b, 3, none⟩ (.slice (some ⟨g', 0, none⟩) (H.ended.length + 1) cap')).drawn + 1, os := (w7.setCell ⟨b, 3, none⟩ (.slice (some ⟨g', 0, none⟩) (H.ended.length + 1) cap')).os, output := (w7.setCell ⟨b, 3, none⟩ (.slice (some ⟨g', 0, none⟩) (H.ended.length + 1) cap')).output : World } = w9 := hw9.symm
    rw [hw9']
    clear hw9 hw9'
    simp only [List.take_succ_cons, List.take_zero, List.drop_succ_cons, List.drop_zero]
    repeat still_step
    refine wpStill_nil ?_
    go_wp2_with fail
    go_ret
    have h1q : k < (((H.put k ({ j with called := true } :: l)).event 1 k j.tag).count).queues.length := by simpa [Har.put, Har.event, Har.count] using hk
    have fin := H2.out.finish (vd' := .slice (some ⟨g', 0, none⟩) (H.ended.length + 1) cap') h1q (List.getElem_set_self (by simpa using hk)) rfl hkv HQ.out.2.2.1 HN.out (fun x hx => by
      have hx' : g' = x := by simpa [Value.ownBlock] using hx
      subst hx'
      exact A7.out.imp id (fun e => by rw [e]; exact Nat.le_trans HK.out.size (by simp))) (by have q := H9.out; rw [← ha] at q; exact q)
      (Keep.trans (HK.out.mono (by simp +contextual)) (K9.out.mono (by simp +contextual))) HY.out
    rw [ha] at fin
    exact ⟨rfl, _, ve', _, fin⟩
end Go.Proofs.YtdkdeiofjoccnaaGreat.Har

/- The harness: Step as a whole; the playing as plain functions. -/
namespace Go.Proofs.YtdkdeiofjoccnaaGreat.Har
open Go.RowKit Go.Proofs.YtdkdeiofjoccnaaGreat.Mem
set_option linter.unusedVariables false

variable {S : Type}

/-- a step of a worker's -/
def stepH (M : Mach S) (H : Har) (s : S) (k : Nat) : Har × S :=
  match H.queues.getD k [] with
  | [] => (H, s)
  | j :: l =>
    if (M.step s j.mach).2 then ((H.called k j l).count.done k { j with called := true } l, (M.step s j.mach).1) else ((H.called k j l).count, (M.step s j.mach).1)
def stepI (M : Mach S) (H : Har) (s : S) (who : Int) : Har × S := if 0 ≤ who then stepH M H s who.toNat else (H, s)

/-- a harness that is played with a budget -/
structure Conf (S : Type) where
  H : Har
  s : S
  left : Nat
  dry : Bool

def payC (M : Mach S) (c : Conf S) (who : Int) : Conf S × Bool :=
  if c.dry then (c, false) else if pend c.H who = 0 then (c, false) else if c.left = 0 then ({ c with dry := true }, false)
  else ({ c with H := (stepI M c.H c.s who).1, s := (stepI M c.H c.s who).2, left := c.left - 1 }, true)
/-- a round: k workers from i on -/
def sweepC (M : Mach S) : Nat → Nat → Conf S → Conf S
  | 0, _, c => c
  | k + 1, i, c => sweepC M k (i + 1) (payC M c i).1
def roundC (M : Mach S) (c : Conf S) : Conf S := sweepC M c.H.queues.length 0 c
/-- n rounds (below 0: without end), in f rounds at most -/
def roundsC (M : Mach S) : Nat → Int → Conf S → Conf S
  | 0, _, c => c
  | f + 1, n, c => if n = 0 ∨ idleB c.H = true ∨ c.dry = true then c else roundsC M f (n - 1) (roundC M c)
def runC (M : Mach S) (who : Int) : Nat → Conf S → Conf S
  | 0, c => c
  | n + 1, c => if (payC M c who).2 then runC M who n (payC M c who).1 else (payC M c who).1
def finishC (M : Mach S) (who : Int) (n : Nat) : Nat → Conf S → Conf S
  | 0, c => c
  | f + 1, c => if n = 0 then c else if pend c.H who = n then (if (payC M c who).2 then finishC M who n f (payC M c who).1 else (payC M c who).1) else c
def pickC (M : Mach S) (c : Conf S) (p : Pick.Pk) : Conf S :=
  if p.k = 1 then (payC M c p.who).1 else if p.k = 2 then runC M p.who p.n.toNat c else if p.k = 5 then finishC M p.who (pend c.H p.who) (c.left + 2) c
  else if p.k = 4 then (if 0 < p.n then roundsC M (c.left + 2) p.n c else c) else if p.k = 6 then roundsC M (c.left + 2) (-1) c else c
def playC (M : Mach S) : List Pick.Pk → Conf S → Conf S
  | [], c => c
  | p :: l, c => if (pickC M c p).dry then pickC M c p else playC M l (pickC M c p)

section
variable {M : Mach S} {w0 w w' : World} {F : List Nat} {b bq : Nat} {vs : List Value} {ve vd : Value} {H : Har} {s : S}

theorem Har.called_yes (H : Har) (k : Nat) (j : Job) (l : List Job) (h : j.called = true) : H.called k j l = H := by unfold Har.called; rw [if_pos h]
theorem Har.called_no (H : Har) (k : Nat) (j : Job) (l : List Job) (h : j.called = false) : H.called k j l = (H.put k ({ j with called := true } :: l)).event 1 k j.tag := by unfold Har.called; rw [if_neg (by simp [h])]

/-- is anything due at who? -/
def dueB (H : Har) (who : Int) : Bool := pend H who != 0

set_option maxRecDepth 100000 in
/-- Step -/
theorem step (h : Since M w0 F w b bq vs ve vd H s) (who : Int) :
    Calls Tryz.prog 33 #[.pointer (some ⟨b, 0, none⟩), .int .i64 who] w fun e w' => e = .returned (.bool (dueB H who)) ∧ ∃ vs' ve' vd', Since M w0 F w' b bq vs' ve' vd' (stepI M H s who).1 (stepI M H s who).2 := by
  by_cases hp : pend H who = 0
  · have e1 : dueB H who = false := by simp [dueB, hp]
    have e2 : stepI M H s who = (H, s) := by
      unfold stepI
      by_cases h0 : 0 ≤ who
      · rw [if_pos h0]
        unfold pend at hp
        rw [if_pos h0] at hp
        unfold stepH
        rw [List.eq_nil_of_length_eq_zero hp]
      · rw [if_neg h0]
    rw [e1, e2]
    exact (step_none h.at_ who hp).mono fun e w' ⟨q1, q2⟩ => ⟨q1, vs, ve, vd, q2 ▸ h⟩
  · have e1 : dueB H who = true := by simp [dueB, hp]
    have h0 : 0 ≤ who := by
      apply Decidable.byContradiction
      intro h0
      unfold pend at hp
      rw [if_neg h0] at hp
      exact hp rfl
    obtain ⟨k, rfl⟩ : ∃ k : Nat, who = k := ⟨who.toNat, by omega⟩
    have hk : k < H.queues.length := by
      apply Decidable.byContradiction
      intro hk
      unfold pend at hp
      rw [if_pos h0, Int.toNat_natCast, List.getD_eq_getElem?_getD, List.getElem?_eq_none (by omega)] at hp
      exact hp rfl
    have hg : H.queues.getD k [] = H.queues[k] := by rw [List.getD_eq_getElem?_getD, List.getElem?_eq_getElem hk]; rfl
    obtain ⟨j, l, hq⟩ : ∃ j l, H.queues[k] = j :: l := by
      rw [pend_of hk] at hp
      cases hq : H.queues[k] with
      | nil => rw [hq] at hp; exact absurd rfl hp
      | cons j l => exact ⟨j, l, rfl⟩
    have e2 : stepI M H s (k : Int) = if (M.step s j.mach).2 then ((H.called k j l).count.done k { j with called := true } l, (M.step s j.mach).1) else ((H.called k j l).count, (M.step s j.mach).1) := by
      unfold stepI
      rw [if_pos h0, Int.toNat_natCast]
      unfold stepH
      rw [hg, hq]
    rw [e1, e2]
    by_cases hc : j.called = true
    · rw [H.called_yes k j l hc]
      by_cases hd : (M.step s j.mach).2 = true
      · rw [if_pos hd]
        exact go_last h k hk j l hq hc hd
      · rw [if_neg hd]
        exact (go_more h k hk j l hq hc (by simpa using hd)).mono fun e w' ⟨q1, q2⟩ => ⟨q1, vs, ve, vd, q2⟩
    · have hc' : j.called = false := by simpa using hc
      rw [H.called_no k j l hc']
      by_cases hd : (M.step s j.mach).2 = true
      · rw [if_pos hd]
        exact go_only h k hk j l hq hc' hd
      · rw [if_neg hd]
        exact (go_first h k hk j l hq hc' (by simpa using hd)).mono fun e w' ⟨q1, ve', q2⟩ => ⟨q1, vs, ve', vd, q2⟩

/-- from here on, anew -/
theorem Since.rebase (h : Since M w0 F w b bq vs ve vd H s) : Since M w (blocks b bq (ve :: vd :: vs)) w b bq vs ve vd H s :=
  ⟨h.at_, h.mach, h.apart, h.ok, h.few, fun x hx => .inl hx, Keep.refl _ _⟩
theorem Since.compose {bq' : Nat} {vs' : List Value} {ve' vd' : Value} {H' : Har} {s' : S} (h : Since M w0 F w b bq vs ve vd H s) (h' : Since M w (blocks b bq (ve :: vd :: vs)) w' b bq' vs' ve' vd' H' s') : Since M w0 F w' b bq' vs' ve' vd' H' s' := by
  refine ⟨h'.at_, h'.mach, h'.apart, h'.ok, h'.few, fun x hx => ?_, h.keep.chain h'.keep fun x hx => ?_⟩
  · rcases h'.own x hx with h1 | h1
    · exact h.own x h1
    · exact .inr (Nat.le_trans h.keep.size h1)
  · rcases List.mem_append.1 hx with h1 | h1
    · rcases h.own x h1 with h2 | h2
      · exact .inl (List.mem_append_left _ h2)
      · exact .inr h2
    · exact .inl (List.mem_append_right _ h1)

/-- A harness that is played: its purse lies at p. -/
structure Pays (M : Mach S) (w0 : World) (F : List Nat) (w : World) (b p : Nat) (c : Conf S) : Prop where
  ex : ∃ bq vs ve vd, Since M w0 F w b bq vs ve vd c.H c.s ∧ p ∉ blocks b bq (ve :: vd :: vs)
  hp : w.heap[p]? = some (.cells #[.int .i64 c.left, .bool c.dry] 193 (0, 0))
  off : p ∉ M.B
  new : p ∈ F ∨ w0.heap.size ≤ p
  big : c.left ≤ 9223372036854775807

variable {c : Conf S} {p : Nat}

/-- the purse written -/
theorem Pays.set (h : Pays M w0 F w b p c) {o : Nat} {v : Value} {l : Nat} {d : Bool} (hv : (#[.int .i64 c.left, .bool c.dry] : Array Value).setIfInBounds o v = #[.int .i64 l, .bool d]) (hl : l ≤ 9223372036854775807) : Pays M w0 F (w.setCell ⟨p, o, none⟩ v) b p { c with left := l, dry := d } := by
  obtain ⟨bq, vs, ve, vd, hS, hn⟩ := h.ex
  have k : Keep [p] w (w.setCell ⟨p, o, none⟩ v) := (Keep.refl _ w).set (.inl (by simp)) _ _
  refine ⟨⟨bq, vs, ve, vd, ⟨hS.at_.keep k (by simpa using hn), M.stable hS.mach k (by simpa using h.off), hS.apart, hS.ok, hS.few, hS.own, hS.keep.chain k fun x hx => (by simp at hx; subst hx; exact h.new.imp (List.mem_append_left _) id)⟩, hn⟩, by rw [set_same h.hp, hv], h.off, h.new, hl⟩
/-- the harness turned, the purse left alone -/
theorem Pays.turn (h : Pays M w0 F w b p c) {bq : Nat} {vs : List Value} {ve vd : Value} (hS : Since M w0 F w b bq vs ve vd c.H c.s) (hn : p ∉ blocks b bq (ve :: vd :: vs)) {vs' : List Value} {ve' vd' : Value} {H' : Har} {s' : S} (h' : Since M w (blocks b bq (ve :: vd :: vs)) w' b bq vs' ve' vd' H' s') : Pays M w0 F w' b p { c with H := H', s := s' } := by
  have hlt : p < w.heap.size := lt_of h.hp
  refine ⟨⟨bq, vs', ve', vd', hS.compose h', fun hx => ?_⟩, ?_, h.off, h.new, h.big⟩
  · rcases h'.own p hx with h1 | h1
    · exact hn h1
    · omega
  · rw [h'.keep.block p hlt (by simp only [List.mem_append, not_or]; exact ⟨hn, h.off⟩)]
    exact h.hp
theorem Pays.keep (h : Pays M w0 F w b p c) (k : Keep [] w w') : Pays M w0 F w' b p c := by
  obtain ⟨bq, vs, ve, vd, hS, hn⟩ := h.ex
  refine ⟨⟨bq, vs, ve, vd, ⟨hS.at_.keep k (by simp), M.stable hS.mach k (by simp), hS.apart, hS.ok, hS.few, hS.own, hS.keep.chain k (by simp)⟩, hn⟩, (k.block p (lt_of h.hp) (by simp)).trans h.hp, h.off, h.new, h.big⟩
/-- from a later world on, anew: only F1 and the machines' blocks may be turned from there on, all of them elder -/
theorem Pays.rebase {w1 : World} (h : Pays M w0 F w b p c) (k : Keep [] w w1) : ∃ F1, Pays M w1 F1 w1 b p c ∧ (∀ x ∈ F1 ++ M.B, x < w.heap.size) ∧ (∀ x ∈ F1, x ∈ F ∨ w0.heap.size ≤ x) := by
  have h1 := h.keep k
  obtain ⟨bq, vs, ve, vd, hS, hn⟩ := h.ex
  refine ⟨p :: blocks b bq (ve :: vd :: vs), ⟨⟨bq, vs, ve, vd, ⟨hS.at_.keep k (by simp), M.stable hS.mach k (by simp), hS.apart, hS.ok, hS.few, fun x hx => .inl (List.mem_cons_of_mem _ hx), Keep.refl _ _⟩, hn⟩, h1.hp, h.off, .inl (by simp), h.big⟩, fun x hx => ?_, fun x hx => ?_⟩
  · rcases List.mem_append.1 hx with hx | hx
    · rcases List.mem_cons.1 hx with rfl | hx
      · exact lt_of h.hp
      · exact hS.at_.lt x hx
    · exact M.lt hS.mach x hx
  · rcases List.mem_cons.1 hx with rfl | hx
    · exact h.new
    · exact hS.own x hx
theorem Pays.compose {w1 : World} {F1 : List Nat} {c' : Conf S} (h : Pays M w0 F w b p c) (k : Keep [] w w1) (hF : ∀ x ∈ F1, x ∈ F ∨ w0.heap.size ≤ x) (h' : Pays M w1 F1 w' b p c') : Pays M w0 F w' b p c' := by
  obtain ⟨bq0, vs0, ve0, vd0, hS0, -⟩ := h.ex
  obtain ⟨bq, vs, ve, vd, hS, hn⟩ := h'.ex
  have hsz : w0.heap.size ≤ w1.heap.size := Nat.le_trans hS0.keep.size k.size
  have hx1 : ∀ x, x ∈ F1 ∨ w1.heap.size ≤ x → x ∈ F ∨ w0.heap.size ≤ x := by
    rintro x (hx | hx)
    · exact hF x hx
    · exact .inr (Nat.le_trans hsz hx)
  refine ⟨⟨bq, vs, ve, vd, ⟨hS.at_, hS.mach, hS.apart, hS.ok, hS.few, fun x hx => hx1 x (hS.own x hx), ((hS0.keep.chain k (by simp)).chain hS.keep fun x hx => ?_)⟩, hn⟩, h'.hp, h'.off, hx1 p h'.new, h'.big⟩
  rcases List.mem_append.1 hx with hx | hx
  · exact (hF x hx).imp (List.mem_append_left _) id
  · exact .inl (List.mem_append_right _ hx)
theorem Pays.kept (h : Pays M w0 F w b p c) : Keep (F ++ M.B) w0 w := by
  obtain ⟨bq, vs, ve, vd, hS, -⟩ := h.ex
  exact hS.keep
end
end Go.Proofs.YtdkdeiofjoccnaaGreat.Har
