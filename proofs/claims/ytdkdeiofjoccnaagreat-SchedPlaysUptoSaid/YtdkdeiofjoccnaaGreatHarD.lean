import Derived.Test.YtdkdeiofjoccnaaGreatHarC
import Derived.Deep.AppendLies
/- A queue that is appended to, wherever its slice begins. -/
namespace Go.Proofs.YtdkdeiofjoccnaaGreat.Har
open Go.RowKit Go.Proofs.YtdkdeiofjoccnaaGreat.Mem
set_option linter.unusedVariables false
set_option maxRecDepth 100000
variable {w w' : World}

theorem infoJ : (Tryz.prog.info? 182).map (fun i => (i.zero, i.size, i.bytes)) = some (some (.agg #[.pointer none, .int .i64 0, .bool false]), 3, 24) := by kernel_rfl

theorem cellsAtQ {l : List Job} {g d : Nat} {cur : Array Value} (hg : w.heap[g]? = some (.cells cur 182 (0, 0))) (hc : (cur.toList.drop (d * 3)).take (l.length * 3) = l.flatMap Job.cells) :
    ∀ j u, (l.flatMap Job.cells)[j]? = some u → w.cell? ((⟨g, d * 3, none⟩ : Addr).add j) = some u := by
  intro j u hu
  have hadd : (⟨g, d * 3, none⟩ : Addr).add j = ⟨g, d * 3 + j, none⟩ := by unfold Addr.add; split <;> simp_all
  rw [hadd, cell_of hg]
  rw [← hc, List.getElem?_take] at hu
  split at hu
  · rw [List.getElem?_drop, Array.getElem?_toList] at hu
    exact hu
  · cases hu

theorem run_push {v : Value} {l : List Job} (h : QRow w v l) (x : Job) (hx : x.mach.oneCell' = true) (ty : TypeId) (ad : Addr) (c : Nat) (hnews : ∀ j u, x.cells[j]? = some u → w.cell? (ad.add j) = some u) (hl : l.length + 1 ≤ 1000000) :
    ∃ g o cap w', (Builtin.append_ #[180, 180] ty #[v, .slice (some ad) 1 c]).run Tryz.prog w = .ok (.slice (some ⟨g, o, none⟩) (l.length + 1) cap) w' ∧
      QRow w' (.slice (some ⟨g, o, none⟩) (l.length + 1) cap) (l ++ [x]) ∧ w.grownBy w' v.ownBlock ∧ (v.ownBlock = some g ∨ g = w.heap.size) := by
  obtain ⟨i, hi, hz, hs, hb⟩ := info_parts infoJ
  have ht := Tryz.underlying180
  have h3 : x.cells.length = 1 * i.size := by rw [hs]; rfl
  have h1 : ∀ u ∈ x.cells, u.oneCell' = true := by
    intro u hu
    simp only [Job.cells, List.mem_cons, List.not_mem_nil, or_false] at hu
    rcases hu with rfl | rfl | rfl
    · exact hx
    · rfl
    · rfl
  have hlen : ((l ++ [x]).flatMap Job.cells).length = (l.length + 1) * 3 := by rw [jobs_length]; simp
  have hflat : (l ++ [x]).flatMap Job.cells = l.flatMap Job.cells ++ x.cells := by simp
  have hzc : (Value.agg #[.pointer none, .int .i64 0, .bool false]).cells = #[.pointer none, .int .i64 0, .bool false] := rfl
  have hzs : (#[.pointer none, .int .i64 0, .bool false] : Array Value).size = 3 := rfl
  have hmax : l.length + 1 ≤ maxLen := by unfold maxLen; omega
  -- a new block
  have grown : ∀ old, QRow (w.drew.alloc (.cells ((l.flatMap Job.cells).toArray ++ x.cells.toArray ++ Builtin.zeroCells #[.pointer none, .int .i64 0, .bool false] (grownCap w (l.length + 1) old 182 - (l.length + 1))) 182))
      (.slice (some ⟨w.heap.size, 0, none⟩) (l.length + 1) (grownCap w (l.length + 1) old 182)) (l ++ [x]) := by
    intro old
    have hge := grownCap_ge w (l.length + 1) old 182
    have hcm : grownCap w (l.length + 1) old 182 ≤ maxLen := grownCap_le_maxLen w (l.length + 1) old 182 hmax
    refine ⟨.inr ⟨w.heap.size, 0, _, _, by simp, heap_alloc_new w.drew _, by simpa using hge, hcm, ?_, ?_⟩⟩
    · simp only [Array.size_append, List.size_toArray, size_zeroCells, hzs, jobs_length]
      have : x.cells.length = 3 := rfl
      omega
    · rw [List.length_append, List.length_singleton]
      simp only [Nat.zero_mul, List.drop_zero, Array.toList_append, hflat, List.append_assoc]
      rw [← List.append_assoc, ← hlen, hflat]
      exact List.take_left
  rcases h.row with ⟨rfl, rfl⟩ | ⟨g, d, cap, cur, rfl, hg, k1, k2, k3, k4⟩
  · have hr := run_append_nil (P := Tryz.prog) w 180 ty 182 i _ ht hi hz ad 1 c x.cells h3 hnews (by omega) (by omega) (by rw [hb]; omega)
    have q := grown 0
    simp only [List.length_nil, Nat.zero_add, List.flatMap_nil, List.nil_append] at q ⊢
    rw [show (#[] : Array Value) ++ x.cells.toArray = x.cells.toArray by simp] at q
    exact ⟨_, _, _, _, hr, q, ⟨rfl, rfl, rfl, by simp, fun k hk _ => alloc_old (w := w.drew) _ hk⟩, .inr rfl⟩
  · by_cases hroom : l.length + 1 ≤ cap
    · have hsz : ∀ j, j < 3 → d * 3 + l.length * 3 + j < cur.size := by intro j hj; omega
      have hr := run_append_room_cells (P := Tryz.prog) w 180 ty 182 i ht hi g (d * 3) l.length cap ad 1 c x.cells h3 hnews h1 hroom
        (fun j hj => by rw [hs, cell_of hg, Array.getElem?_eq_getElem (hsz j hj)]; rfl) (fun j hj => free_of hg _)
      rw [hs] at hr
      have e0 : w.setCells g (d * 3 + l.length * 3) x.cells = ((w.setCell ⟨g, d * 3 + l.length * 3, none⟩ x.mach).setCell ⟨g, d * 3 + l.length * 3 + 1, none⟩ (.int .i64 x.tag)).setCell ⟨g, d * 3 + l.length * 3 + 1 + 1, none⟩ (.bool x.called) := rfl
      have hb' := set_same (set_same (set_same hg (d * 3 + l.length * 3) x.mach) (d * 3 + l.length * 3 + 1) (.int .i64 x.tag)) (d * 3 + l.length * 3 + 1 + 1) (.bool x.called)
      rw [← e0] at hb'
      refine ⟨g, d * 3, cap, _, hr, ⟨.inr ⟨g, d, cap, _, by simp, hb', by simpa using hroom, k2, by simpa using k3, ?_⟩⟩, ⟨rfl, rfl, rfl, by rw [e0]; simp, fun k hk hne => ?_⟩, .inl rfl⟩
      · rw [List.length_append, List.length_singleton]
        apply List.ext_getElem?
        intro j
        rw [List.getElem?_take, List.getElem?_drop, Array.getElem?_toList]
        have k4' : ∀ j, j < l.length * 3 → cur[d * 3 + j]? = (l.flatMap Job.cells)[j]? := by
          intro j hj
          rw [← k4, List.getElem?_take, if_pos hj, List.getElem?_drop, Array.getElem?_toList]
        simp only [Array.getElem?_setIfInBounds, Array.size_setIfInBounds]
        rw [hflat]
        by_cases hj : j < l.length * 3
        · rw [if_pos (by omega), if_neg (by omega), if_neg (by omega), if_neg (by omega), k4' j hj, List.getElem?_append_left (by rw [jobs_length]; exact hj)]
        · rw [List.getElem?_append_right (by rw [jobs_length]; omega), jobs_length]
          by_cases hj2 : j < (l.length + 1) * 3
          · rw [if_pos hj2]
            obtain ⟨r, rfl⟩ : ∃ r, j = l.length * 3 + r := ⟨j - l.length * 3, by omega⟩
            have hr3 : r < 3 := by omega
            have hz0 := hsz 0 (by omega)
            have hz1 := hsz 1 (by omega)
            have hz2 := hsz 2 (by omega)
            rw [show l.length * 3 + r - l.length * 3 = r by omega]
            rcases r with _ | _ | _ | r
            · rw [if_neg (by omega), if_neg (by omega), if_pos (by omega), if_pos (by omega)]
              rfl
            · rw [if_neg (by omega), if_pos (by omega), if_pos (by omega)]
              rfl
            · rw [if_pos (by omega), if_pos (by omega)]
              rfl
            · omega
          · rw [if_neg hj2]
            exact (List.getElem?_eq_none (by show 3 ≤ _; omega)).symm
      · rw [e0]
        have hkg : k ≠ g := fun e => hne (by simp [Value.ownBlock, e])
        exact (set_other hkg _ _).trans ((set_other hkg _ _).trans (set_other hkg _ _))
    · have hr := run_append_grow (P := Tryz.prog) w 180 ty 182 i _ ht hi hz ⟨g, d * 3, none⟩ l.length cap (l.flatMap Job.cells) (by rw [jobs_length, hs]) (cellsAtQ hg k4) ad 1 c x.cells h3 hnews (by omega) (by omega) (growslice_fits (by omega) (by rw [hb]; omega))
      exact ⟨_, _, _, _, hr, grown cap, ⟨rfl, rfl, rfl, by simp, fun k hk _ => alloc_old (w := w.drew) _ hk⟩, .inr rfl⟩

/-- at a step of a region that draws -/
theorem step_push {ops : Array Oper} {o : Oper} {a : Act} {K : Act → World → Prop} {Q : Exit → Act → World → Prop} {E : Prop} (hgd : o.guard = none) (s y : Operand)
    (ho : o.op = .call { callee := .builtin .append, args := #[s, y], argTypes := #[180, 180] })
    {v : Value} {l : List Job} (hs : a.eval s = v) (h : QRow w v l) (x : Job) (hx : x.mach.oneCell' = true) (ad : Addr) (c : Nat) (hy : a.eval y = .slice (some ad) 1 c) (hnews : ∀ j u, x.cells[j]? = some u → w.cell? (ad.add j) = some u) (hl : l.length + 1 ≤ 1000000)
    (hk : ∀ g o' cap w', QRow w' (.slice (some ⟨g, o', none⟩) (l.length + 1) cap) (l ++ [x]) → w.grownBy w' v.ownBlock → (v.ownBlock = some g ∨ g = w.heap.size) → K (a.put o.dst (.slice (some ⟨g, o', none⟩) (l.length + 1) cap)) w') :
    if Region.wanted o (yielded ops a.tmps) = true then Oper.wp Tryz.prog o a w K Q else E := by
  have hw : Region.wanted o (yielded ops a.tmps) = true := by simp [Region.wanted, hgd]
  rw [if_pos hw]
  obtain ⟨g, o', cap, w', hr, h2, h3, h4⟩ := run_push h x hx o.type ad c hnews hl
  unfold Oper.wp execOp
  simp only [ho, resolve, invoke, builtin, Sem.run_bind, Sem.run_pure, Result.andThen_ok, List.map_toArray, List.map_cons, List.map_nil, hs, hy, hr]
  exact hk g o' cap w' h2 h3 h4
end Go.Proofs.YtdkdeiofjoccnaaGreat.Har

/- The harness: Submit. -/
namespace Go.Proofs.YtdkdeiofjoccnaaGreat.Har
open Go.RowKit Go.Proofs.YtdkdeiofjoccnaaGreat.Mem
set_option linter.unusedVariables false
set_option maxRecDepth 100000
variable {S : Type} {M : Mach S} {w0 w w' : World} {F : List Nat} {b p : Nat} {c : Conf S} {H : Har} {s : S} {bq : Nat} {vs : List Value} {ve vd : Value}

/-- a queue was appended to and its slice is stored -/
theorem At.pushQ (h : At w b bq vs ve vd H) {k : Nat} (hk : k < vs.length) {w7 : World} {v : Value} {q : List Job} (hq : QRow w7 v q) (hg : w.grownBy w7 vs[k].ownBlock) (hat : ∀ g, v.ownBlock = some g → vs[k].ownBlock = some g ∨ w.heap.size ≤ g) :
    At (w7.setCell ⟨bq, k, none⟩ v) b bq (vs.set k v) ve vd (H.put k q) ∧ Keep (bq :: vs[k].ownBlock.toList) w (w7.setCell ⟨bq, k, none⟩ v) := by
  have hb : ∀ x ∈ blocks b bq (ve :: vd :: vs), some x ≠ vs[k].ownBlock → w7.heap[x]? = w.heap[x]? := fun x hx hn => hg.block x (h.lt x hx) hn
  have hbo : ∀ (i : Nat) (hi : i < (ve :: vd :: vs).length), i ≠ k + 2 → ∀ x, (ve :: vd :: vs)[i].ownBlock = some x → w7.heap[x]? = w.heap[x]? := fun i hi hne x hx =>
    hb x (mem_blocks.2 (.inr (.inr ⟨i, hi, hx⟩))) fun e => hne (h.apart.two i (k + 2) hi (by simpa using hk) x hx (by simpa using e.symm))
  have hko := h.apart.off (k + 2) (by simpa using hk)
  have ha : Apart b bq (ve :: vd :: vs.set k v) := h.apart.set (k + 2) v fun _ g hg' => (hat g hg').imp id fun hs hm => by have := h.lt g hm; omega
  refine ⟨⟨ha, ?_, ?_, by simpa [Har.put] using h.len, fun i h1 h2 => ?_, owns_block h.he fun x hx => ?_, owns_block h.hd fun x hx => ?_⟩, ?_⟩
  · rw [List.length_set]
    exact (set_other h.apart.ne _ _).trans ((hb b mem_b fun e => (hko b (by simpa using e.symm)).1 rfl).trans h.hb)
  · rw [set_same ((hb bq mem_bq fun e => (hko bq (by simpa using e.symm)).2 rfl).trans h.hq)]
    simp
  · simp only [Har.put, List.getElem_set]
    split
    · rename_i e
      subst e
      exact hq.block fun x hx => set_other (ha.off (k + 2) (by simpa using hk) x (by simpa using hx)).2 _ _
    · rename_i e
      have h1' : i < vs.length := by simpa using h1
      have h2' : i < H.queues.length := by simpa [Har.put] using h2
      exact (h.rows i h1' h2').block fun x hx => (set_other (h.apart.off (i + 2) (by simpa using h1') x hx).2 _ _).trans (hbo (i + 2) (by simpa using h1') (by omega) x hx)
  · exact (set_other (h.apart.off 0 (by simp) x hx).2 _ _).trans (hbo 0 (by simp) (by omega) x hx)
  · exact (set_other (h.apart.off 1 (by simp) x hx).2 _ _).trans (hbo 1 (by simp) (by omega) x hx)
  · have k7 : Keep (bq :: vs[k].ownBlock.toList) w w7 := ⟨hg.os, hg.tape, hg.output, hg.size, fun i hi hn => hg.block i hi fun e => hn (by rw [← e]; simp)⟩
    exact k7.set (.inl (by simp)) _ _

/-- machines that are handed in -/
structure Machs (w : World) (T : List Nat) (a : Option Addr) (ms : List Addr) : Prop where
  cell : ∀ (i : Nat) (hi : i < ms.length), ∃ g o, a = some ⟨g, o, none⟩ ∧ w.cell? ⟨g, o + i, none⟩ = some (.pointer (some ms[i]))
  off : ∀ g o, a = some ⟨g, o, none⟩ → g ∉ T ∧ g < w.heap.size
theorem Machs.keep {T : List Nat} {a : Option Addr} {ms : List Addr} {w' : World} (h : Machs w T a ms) (k : Keep T w w') : Machs w' T a ms :=
  ⟨fun i hi => let ⟨g, o, e, c0⟩ := h.cell i hi; ⟨g, o, e, k.cell c0 (h.off g o e).1⟩, fun g o e => ⟨(h.off g o e).1, Nat.lt_of_lt_of_le (h.off g o e).2 k.size⟩⟩

/-- the jobs that they make -/
def jobsOf (tag : Int) : Nat → List Addr → List Job
  | _, [] => []
  | i, m :: l => ⟨.pointer (some m), IntKind.i64.wrap (tag + i), false⟩ :: jobsOf tag (i + 1) l
theorem jobsOf_snoc (tag : Int) : ∀ (l : List Addr) (i : Nat) (m : Addr), jobsOf tag i (l ++ [m]) = jobsOf tag i l ++ [⟨.pointer (some m), IntKind.i64.wrap (tag + ((i + l.length : Nat) : Int)), false⟩]
  | [], i, m => by simp [jobsOf]
  | x :: l, i, m => by
    have e := jobsOf_snoc tag l (i + 1) m
    simp only [jobsOf, List.cons_append, List.length_cons] at e ⊢
    rw [e, show i + 1 + l.length = i + (l.length + 1) by omega]
theorem jobsOf_length (tag : Int) : ∀ (l : List Addr) (i : Nat), (jobsOf tag i l).length = l.length
  | [], _ => rfl
  | x :: l, i => by simp [jobsOf, jobsOf_length tag l (i + 1)]
theorem jobsOf_due (tag : Int) : ∀ (l : List Addr) (i : Nat), dueQ (jobsOf tag i l) = 2 * l.length
  | [], _ => rfl
  | x :: l, i => by
    have e := jobsOf_due tag l (i + 1)
    unfold dueQ at e ⊢
    simp only [jobsOf, List.map_cons, List.sum_cons, e, Job.due, List.length_cons]
    simp
    omega
theorem jobsOf_mem (tag : Int) {Q : Value → Prop} : ∀ (l : List Addr) (i : Nat), (∀ m ∈ l, Q (.pointer (some m))) → ∀ j ∈ jobsOf tag i l, Q j.mach
  | [], _, _, j, hj => by simp [jobsOf] at hj
  | x :: l, i, h, j, hj => by
    rcases List.mem_cons.1 hj with rfl | hj
    · exact h x (by simp)
    · exact jobsOf_mem tag l (i + 1) (fun m hm => h m (by simp [hm])) j hj
theorem dueQ_append (a c : List Job) : dueQ (a ++ c) = dueQ a + dueQ c := by simp [dueQ]

theorem Har.put_put (H : Har) (k : Nat) (q q' : List Job) : (H.put k q).put k q' = H.put k q' := by simp [Har.put]
theorem Since.push (h : Since M w0 F w b bq vs ve vd H s) {k : Nat} (hk : k < vs.length) (hkq : k < H.queues.length) {o : Obj} {w7 : World} {v7 : Value} {q : List Job} {x : Job} (hq : H.queues[k] = q) (hq7 : QRow w7 v7 (q ++ [x])) (hg : (w.alloc o).drew.grownBy w7 vs[k].ownBlock)
    (hat : ∀ g, v7.ownBlock = some g → vs[k].ownBlock = some g ∨ (w.alloc o).drew.heap.size ≤ g) (hok : M.ok s x.mach) (hfew : H.events.length + due H + 2 ≤ 1000000000000) :
    Since M w0 F (w7.setCell ⟨bq, k, none⟩ v7) b bq (vs.set k v7) ve vd (H.put k (q ++ [x])) s := by
  have ka : Keep [] w (w.alloc o).drew := ((Keep.refl [] w).alloc o).drew
  have hA := h.at_.keep ka (by simp)
  obtain ⟨h1, h2⟩ := hA.pushQ hk hq7 hg hat
  have hT : ∀ y ∈ bq :: vs[k].ownBlock.toList, y ∈ blocks b bq (ve :: vd :: vs) := by
    intro y hy
    simp only [List.mem_cons, Option.mem_toList] at hy
    rcases hy with rfl | hy
    · exact mem_bq
    · exact mem_vs hk hy
  refine h.turn h1 ((ka.mono (by simp)).trans h2) hT (fun y hy => ?_) (put_ok h fun i hi => ?_) ?_
  · rw [mem_blocks] at hy
    rcases hy with rfl | rfl | ⟨i, hi, hy⟩
    · exact .inl mem_b
    · exact .inl mem_bq
    · rcases i with _ | _ | i
      · exact .inl (mem_ve hy)
      · exact .inl (mem_vd hy)
      · simp only [List.getElem_cons_succ, List.getElem_set] at hy
        have hi' : i < vs.length := by simpa using hi
        split at hy
        · rename_i e
          subst e
          rcases hat y hy with h3 | h3
          · exact .inl (mem_vs hi' h3)
          · exact .inr (Nat.le_trans ka.size h3)
        · exact .inl (mem_vs hi' hy)
  · rcases List.mem_append.1 hi with hi | hi
    · exact h.ok _ (List.getElem_mem hkq) i (by rw [hq]; exact hi)
    · simp only [List.mem_singleton] at hi
      subst hi
      exact hok
  · have e1 := due_put H hkq (q ++ [x])
    have e2 := h.few
    rw [hq, dueQ_append] at e1
    have e3 : dueQ [x] ≤ 2 := by
      simp only [dueQ, List.map_cons, List.map_nil, List.sum_cons, List.sum_nil, Job.due]
      split <;> omega
    show H.events.length + due (H.put k _) ≤ _ ∧ H.ended.length ≤ H.events.length
    omega

set_option maxHeartbeats 4000000 in
theorem submit (h : Since M w0 F w b bq vs ve vd H s) (k : Nat) (hkq : k < H.queues.length) (tag : Int) (a : Option Addr) (cap : Nat) (ms : List Addr) (hm : Machs w (blocks b bq (ve :: vd :: vs) ++ M.B) a ms) (hok : ∀ m ∈ ms, M.ok s (.pointer (some m)))
    (hq : ms.length ≤ 64 - pend H k) (hq2 : pend H k ≤ 64) (hfew : H.events.length + due H + 2 * ms.length ≤ 1000000000000) :
    Calls Tryz.prog 28 #[.pointer (some ⟨b, 0, none⟩), .int .i64 k, .int .i64 tag, .slice a ms.length cap] w fun e w' => e = .returned (.int .i64 0) ∧ Stands M w0 F w' b (H.put k (H.queues[k] ++ jobsOf tag 0 ms)) s := by
  have hl := h.at_.len
  have hkv : k < vs.length := by omega
  have c0 : w.cell? ⟨b, 0, none⟩ = some (.slice (some ⟨bq, 0, none⟩) vs.length vs.length) := cell_of h.at_.hb 0
  obtain ⟨a1, cc, hcq⟩ := h.at_.queue hkq
  have hp := pend_of hkq
  have HPQ := Lib.hid hp
  have HL := Lib.hid (And.intro hl hkq)
  have HS := Lib.hid h
  have HM := Lib.hid hm
  have HOK := Lib.hid hok
  have HF := Lib.hid hfew
  have hms : ms.length ≤ 64 := by omega
  obtain ⟨n, hn⟩ : ∃ n, n = ms.length := ⟨_, rfl⟩
  obtain ⟨N, hN⟩ : ∃ N, N = vs.length := ⟨_, rfl⟩
  rw [← hn] at hq hms ⊢
  rw [← hN] at c0 hkv
  have HN := Lib.hid (And.intro hn hN)
  have b1 : decide ((k : Int) < 0) = false := by simp
  have b2 : decide (N ≤ k) = false := by simpa using hkv
  have b3 : decide ((64 : Int) - (pend H k : Int) < (n : Int)) = false := by simp; omega
  clear h hl hm hok hfew hp hn hN
  go_enter Tryz.func28, Tryz.ntmps28
  go_wp2_with fail
  clear c0 hcq
  go_loopw [38] (fun i wr => ∃ (j : Nat) (vs' : List Value), i = .int .i64 j ∧ j ≤ n ∧ Since M w (blocks b bq (ve :: vd :: vs)) wr b bq vs' ve vd (H.put k (H.queues.getD k [] ++ jobsOf tag 0 (ms.take j))) s) (fun i _ => n - (intOf i).toNat)
  case atStart =>
    refine ⟨0, vs, rfl, Nat.zero_le _, ?_⟩
    have e : H.put k (H.queues.getD k [] ++ jobsOf tag 0 (ms.take 0)) = H := by
      have hk := HL.out.2
      unfold Har.put
      rw [List.take_zero]
      simp only [jobsOf, List.append_nil]
      rw [List.getD_eq_getElem?_getD, List.getElem?_eq_getElem hk]
      simp
    rw [e]
    exact HS.out.rebase
  case round =>
    obtain ⟨j, vs', rfl, hj, hR⟩ := hrel
    have HR := Lib.hid hR
    clear hR
    by_cases hlt : j < n
    · have hjm : j < ms.length := by have := HN.out.1; omega
      obtain ⟨g, o, rfl, x0⟩ := (HM.out.keep HR.out.keep).cell j hjm
      obtain ⟨m, hm⟩ : ∃ m, m = ms[j] := ⟨_, rfl⟩
      rw [← hm] at x0
      have HMM := Lib.hid hm
      clear hm
      have r0 : wr.cell? ⟨b, 0, none⟩ = some (.slice (some ⟨bq, 0, none⟩) N N) := by
        have e1 := HR.out.at_.len
        have e2 := HL.out
        have e3 := HN.out.2
        simp only [Har.put, List.length_set] at e1
        rw [show N = vs'.length by omega]
        exact cell_of HR.out.at_.hb 0
      have hk2 : k < vs'.length := by
        have e1 := HR.out.at_.len
        have e2 := HL.out
        simp only [Har.put, List.length_set] at e1
        omega
      obtain ⟨q, hqq⟩ : ∃ q, q = H.queues.getD k [] ++ jobsOf tag 0 (ms.take j) := ⟨_, rfl⟩
      have hrow : QRow wr vs'[k] q := by
        have e := HR.out.at_.rows k hk2 (by simpa [Har.put] using HL.out.2)
        simp only [Har.put, List.getElem_set_self] at e
        rw [hqq]
        exact e
      obtain ⟨a2, c2, hv⟩ : ∃ a2 c2, vs'[k] = .slice a2 q.length c2 := by
        rcases hrow.row with ⟨hv, hl⟩ | ⟨g, d, cap, cur, hv, -⟩
        · exact ⟨none, 0, by rw [hv, hl]; rfl⟩
        · exact ⟨_, _, hv⟩
      have r1 : wr.cell? ⟨bq, k, none⟩ = some (.slice a2 q.length c2) := by
        rw [cell_of HR.out.at_.hq, List.getElem?_toArray, List.getElem?_eq_getElem hk2, hv]
      have f1 := free_of HR.out.at_.hq k
      have z0 : ∀ o : Obj, (wr.alloc o).cell? ⟨b, 0, none⟩ = some (.slice (some ⟨bq, 0, none⟩) N N) := fun o => (World.cell?_of_block (w := wr) (alloc_old o (lt_of HR.out.at_.hb))).trans r0
      have z1 : ∀ o : Obj, (wr.alloc o).cell? ⟨bq, k, none⟩ = some (.slice a2 q.length c2) := fun o => (World.cell?_of_block (w := wr) (alloc_old o (lt_of HR.out.at_.hq))).trans r1
      have hqlen : q.length + 1 ≤ 1000000 := by
        rw [hqq, List.length_append, jobsOf_length, List.length_take]
        have e := HPQ.out
        rw [List.getD_eq_getElem?_getD, List.getElem?_eq_getElem HL.out.2]
        simp only [Option.getD_some]
        omega
      rw [hv] at hrow
      have HROW := Lib.hid hrow
      have HQL := Lib.hid hqlen
      have HV := Lib.hid (show ∃ hk2 : k < vs'.length, vs'[k] = .slice a2 q.length c2 from ⟨hk2, hv⟩)
      have HQQ := Lib.hid hqq
      clear hrow hqlen hqq
      clear hv hk2
      obtain ⟨T, hT⟩ : ∃ T, T = IntKind.i64.wrap (tag + (j : Int)) := ⟨_, rfl⟩
      have HT := Lib.hid hT
      have hT' := hT.symm
      clear hT
      have hsz : Hid (bq < wr.heap.size) := Lib.hid (lt_of HR.out.at_.hq)
      have hvo : Hid (some bq ≠ (Value.slice a2 q.length c2).ownBlock) := Lib.hid (fun e => by
        obtain ⟨hk2, hv⟩ := HV.out
        have := HR.out.at_.apart.off (k + 2) (by simpa using hk2) bq
        simp only [List.getElem_cons_succ] at this
        rw [hv] at this
        exact (this e.symm).2 rfl)
      have hsb : Hid (b < wr.heap.size) := Lib.hid (lt_of HR.out.at_.hb)
      have hvb : Hid (some b ≠ (Value.slice a2 q.length c2).ownBlock) := Lib.hid (fun e => by
        obtain ⟨hk2, hv⟩ := HV.out
        have := HR.out.at_.apart.off (k + 2) (by simpa using hk2) b
        simp only [List.getElem_cons_succ] at this
        rw [hv] at this
        exact (this e.symm).1 rfl)
      have zc : ∀ o : Obj, (wr.alloc o).drew.cell? ⟨bq, k, none⟩ = some (.slice a2 q.length c2) := fun o => (World.cell?_of_block (w := wr) (show (wr.alloc o).drew.heap[bq]? = _ from alloc_old o hsz.out)).trans r1
      have za : ∀ o : Obj, (wr.alloc o).drew.frozen? ⟨bq, k, none⟩ = false := fun o => free_of (show (wr.alloc o).drew.heap[bq]? = _ from alloc_some o HR.out.at_.hq) k
      go_wp2_with fail
      go_region_law
        (first
          | (refine step_push (by rfl) _ _ (by rfl) (v := .slice a2 q.length c2) (l := q) (by rfl) ((HROW.out.block fun g hg => (show (wr.alloc _).drew.heap[g]? = _ from alloc_old _ (HROW.out.lt g hg)))) ⟨.pointer (some m), T, false⟩ rfl ⟨wr.heap.size, 0, none⟩ 1 (by rfl) (World.news_of_block (cs := #[.pointer (some m), .int .i64 T, .bool false]) (fr := (0, 0)) (alloc_new wr _)) HQL.out ?_; intro g7 o7 c7 w7 hq7 hgrow7 hat7; have Q7 := Lib.hid hq7; have G7 := Lib.hid hgrow7; have A7 := Lib.hid hat7; have y1 : w7.cell? ⟨bq, k, none⟩ = some (.slice a2 q.length c2) := (hgrow7.cell_far _ (by have := hsz.out; simp; omega) hvo.out).trans (zc _); have y0 : w7.cell? ⟨b, 0, none⟩ = some (.slice (some ⟨bq, 0, none⟩) N N) := (hgrow7.cell_far _ (by have := hsb.out; simp; omega) hvb.out).trans (z0 _); have y2 : w7.frozen? ⟨bq, k, none⟩ = false := (hgrow7.frozen_far _ (by have := hsz.out; simp; omega) hvo.out).trans (za _); clear hq7 hgrow7 hat7))
      all_goals
        go_wp2_with fail
        obtain ⟨hk2, hv⟩ := HV.out
        have hnext : Since M w (blocks b bq (ve :: vd :: vs)) (w7.setCell ⟨bq, k, none⟩ (.slice (some ⟨g7, o7, none⟩) (q.length + 1) c7)) b bq (vs'.set k (.slice (some ⟨g7, o7, none⟩) (q.length + 1) c7)) ve vd (H.put k (H.queues.getD k [] ++ jobsOf tag 0 (ms.take (j + 1)))) s := by
          have e1 : H.queues.getD k [] ++ jobsOf tag 0 (ms.take (j + 1)) = q ++ [⟨.pointer (some m), T, false⟩] := by
            have hjm : j < ms.length := by have := HN.out.1; omega
            rw [List.take_succ_eq_append_getElem hjm, jobsOf_snoc, HQQ.out, List.append_assoc, HT.out, HMM.out, List.length_take, Nat.zero_add, Nat.min_eq_left (Nat.le_of_lt hjm)]
          rw [e1, ← H.put_put k (H.queues.getD k [] ++ jobsOf tag 0 (ms.take j))]
          refine HR.out.push hk2 (by simpa [Har.put] using HL.out.2) ?_ Q7.out (by rw [hv]; exact G7.out) (fun x hx => ?_) ?_ ?_
          · rw [HQQ.out]
            simp [Har.put]
          · have hx' : g7 = x := by simpa [Value.ownBlock] using hx
            subst hx'
            rw [hv]
            exact A7.out.imp id (fun e => by rw [e]; exact Nat.le_refl _)
          · exact HOK.out m (by rw [HMM.out]; exact List.getElem_mem _)
          · have e2 := due_put H HL.out.2 (H.queues.getD k [] ++ jobsOf tag 0 (ms.take j))
            have e3 := HF.out
            have e4 := HN.out.1
            rw [dueQ_append, jobsOf_due, List.length_take, List.getD_eq_getElem?_getD, List.getElem?_eq_getElem HL.out.2] at e2
            simp only [Option.getD_some] at e2
            show H.events.length + due (H.put k _) + 2 ≤ _
            rw [List.getD_eq_getElem?_getD, List.getElem?_eq_getElem HL.out.2]
            simp only [Option.getD_some]
            omega
        have HX := Lib.hid hnext
        clear hnext
        go_roundw
        case rel => exact ⟨j + 1, _, by go_num, hlt, HX.out⟩
        case measure => simp [intOf]; omega
    · have hjn : j = n := by omega
      have hjn' : ms.take j = ms := by
        have := HN.out.1
        exact List.take_of_length_le (by omega)
      have HJ := Lib.hid hjn'
      clear hjn hjn'
      go_wp2_with fail
      go_ret
      refine ⟨rfl, bq, vs', ve, vd, ?_⟩
      have q := HR.out
      rw [HJ.out, List.getD_eq_getElem?_getD, List.getElem?_eq_getElem HL.out.2] at q
      exact HS.out.compose q
end Go.Proofs.YtdkdeiofjoccnaaGreat.Har

/- The harness: Events, Take. -/
namespace Go.Proofs.YtdkdeiofjoccnaaGreat.Har
open Go.RowKit Go.Proofs.YtdkdeiofjoccnaaGreat.Mem
set_option linter.unusedVariables false
set_option maxRecDepth 100000
variable {S : Type} {M : Mach S} {w0 w w' : World} {F : List Nat} {b p : Nat} {c : Conf S} {H : Har} {s : S} {bq : Nat} {vs : List Value} {ve vd : Value}

theorem ev_one (l : List Ev) : ∀ u ∈ evs l, u.oneCell' = true := by
  intro u hu
  simp only [evs, List.mem_flatMap] at hu
  obtain ⟨e, -, hu⟩ := hu
  simp only [Ev.cells, List.mem_cons, List.not_mem_nil, or_false] at hu
  rcases hu with rfl | rfl | rfl | rfl <;> rfl

set_option maxHeartbeats 1000000 in
theorem events (h : At w b bq vs ve vd H) (hn : H.events.length ≤ 1000000000000) :
    Calls Tryz.prog 47 #[.pointer (some ⟨b, 0, none⟩)] w fun e w' => ∃ v, e = .returned v ∧ w'.ownsRow w.heap.size 190 4 v H.events.length (evs H.events) ∧ Keep [] w w' := by
  obtain ⟨i0, hi, hz0, hz1, hz2⟩ := info_parts infoE
  have c2 : w.cell? ⟨b, 2, none⟩ = some ve := cell_of h.hb 2
  have d0 := h.he
  rcases h.he.2 with ⟨hv, h0⟩ | ⟨g, cap, cur, hv, -⟩
  · rw [hv] at c2
    have HE := Lib.hid h0
    clear h hi hz0 hz1 hz2 d0 hv h0
    go_enter Tryz.func47, Tryz.ntmps47
    go_wp2_with fail
    go_ret
    refine ⟨_, rfl, ?_, Keep.refl _ _⟩
    have e0 : H.events = [] := List.eq_nil_of_length_eq_zero HE.out
    rw [e0]
    exact World.ownsRow_nil _ _ _ _
  · have hcells := h.he.cells (g := g) (by rw [hv]; rfl)
    rw [hv] at c2
    have HC := Lib.hid hcells
    have d1 := Lib.hid (ev_one H.events)
    have d2 := Lib.hid (evs_length H.events)
    have HI := Lib.hid hi
    have HZ := Lib.hid (And.intro hz0 (And.intro hz1 hz2))
    clear h hi hz0 hz1 hz2 hcells d0
    go_enter Tryz.func47, Tryz.ntmps47
    go_wp2_with (at_builtin; refine wpList_append_own_at _ rfl _ _ 103 rfl w.heap.size 190 i0 _ 4 32 Tryz.underlying103 HI.out HZ.out.1 HZ.out.2.1 HZ.out.2.2 rfl (by decide) (.slice none 0 0) 0 [] rfl (World.ownsRow_nil _ _ _ _) ⟨g, 0, none⟩ H.events.length cap (evs H.events) rfl d2.out HC.out d1.out (by unfold maxLen; omega) (by omega) (Nat.le_refl _) ?_)
    intro v' w1 hown hgrow _ _
    have H1 := Lib.hid hown
    have K1 : Hid (Keep [] w w1) := Lib.hid ⟨hgrow.os, hgrow.tape, hgrow.output, hgrow.size, fun k hk _ => hgrow.block k hk (by simp [Value.ownBlock])⟩
    clear hown hgrow
    go_wp2_with fail
    go_ret
    exact ⟨_, rfl, H1.out, K1.out⟩

/-- Take -/
theorem take (h : Since M w0 F w b bq vs ve vd H s) :
    Calls Tryz.prog 53 #[.pointer (some ⟨b, 0, none⟩)] w fun e w' => e = .returned vd ∧ w'.ownsRow 0 38 1 vd H.ended.length H.ended ∧ (∀ g, vd.ownBlock = some g → g ∉ M.B) ∧ Since M w0 F w' b bq vs ve (.slice none 0 0) { H with ended := [] } s := by
  have c3 : w.cell? ⟨b, 3, none⟩ = some vd := cell_of h.at_.hb 3
  have f3 := free_of h.at_.hb 3
  have HS := Lib.hid h
  clear h
  rcases HS.out.at_.hd.2 with ⟨hv, -⟩ | ⟨g, cap, cur, hv, -⟩
  all_goals
    rw [hv] at c3
    have HV := Lib.hid hv
    clear hv
    go_enter Tryz.func53, Tryz.ntmps53
    go_wp2_with fail
    go_ret
    have hS := HS.out
    have hg : w.grownBy w vd.ownBlock := ⟨rfl, rfl, rfl, Nat.le_refl _, fun _ _ _ => rfl⟩
    obtain ⟨h1, -⟩ := hS.at_.setEnded (vd' := .slice none 0 0) (l := []) ⟨rfl, .inl ⟨rfl, rfl⟩⟩ hg (by simp [Value.ownBlock])
    have k : Keep [b] w (w.setCell ⟨b, 3, none⟩ (.slice none 0 0)) := (Keep.refl _ _).set (.inl (by simp)) _ _
    refine ⟨by rw [HV.out]; rfl, owns_block hS.at_.hd fun x hx => set_other (hS.at_.ne_b.2.2.1 x hx) _ _, fun x hx hm => hS.apart x hm (mem_vd hx), hS.turn h1 k (fun x hx => by simp at hx; subst hx; exact mem_b) (fun x hx => .inl ?_) hS.ok ⟨hS.few.1, Nat.zero_le _⟩⟩
    rw [mem_blocks] at hx
    rcases hx with rfl | rfl | ⟨i, hi, hx⟩
    · exact mem_b
    · exact mem_bq
    · rcases i with _ | _ | i
      · exact mem_ve hx
      · simp [Value.ownBlock] at hx
      · exact mem_vs (by simpa using hi) hx
end Go.Proofs.YtdkdeiofjoccnaaGreat.Har
