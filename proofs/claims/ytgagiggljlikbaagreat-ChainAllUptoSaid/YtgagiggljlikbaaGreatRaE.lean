/- The document's arena: Alloc without words. -/
import Derived.Test.YtgagiggljlikbaaGreatRaD
import Derived.LoopN
namespace Go.Proofs.YtgagiggljlikbaaGreat.Ra
open Go.RowKit Go.Proofs.YtgagiggljlikbaaGreat.Mem Go.Proofs.YtgagiggljlikbaaGreat.Ar Go.Proofs.YtgagiggljlikbaaGreat.En
open Go.Proofs.YtgagiggljlikbaaGreat.Ref (one_int' news_at owns_shape)
set_option linter.unusedVariables false
set_option linter.unusedSimpArgs false
set_option maxRecDepth 100000

section
variable {w w' : World} {b sg sc : Nat} {qv : Value} {bs : List (Option Nat)} {A A' : Ars} {Q : List Nat}
/-- what Alloc leaves -/
theorem RAt.allocd_ {s : Nat} {Q' : List Nat} (h : RAt w b sg sc qv bs A (s :: Q')) (p : Ent) {qv' : Value} {g : Nat} {w4 : World} (k : Keep [b] w w4)
    (hb4 : w4.heap[b]? = some (.cells #[.int .i64 A.width, .slice (some ⟨sg, 0, none⟩) (A.slots + 1) sc, qv', .int .i64 (wrap64 (A.acc + 1)), .int .i64 A.miss] 182 (0, 0)))
    (hq4 : w4.ownsRow w.heap.size 3 1 qv' Q'.length (ints Q')) (hg : w4.heap[g]? = some (.cells ((List.replicate A.width (0 : Int)).map (.int .u64)).toArray 83 (0, 0))) (hgn : w.heap.size ≤ g) (hqg : qv'.ownBlock ≠ some g) :
    RAt (w4.setCells sg (s * 6) [.bool true, .string p.name, .string p.data, .int .i64 p.tall, .slice (some ⟨g, 0, none⟩) A.width A.width, .int .i64 (wrap64 (nth A.turns s 0 + 1))]) b sg sc qv' (bs.set s (some g)) (allocd A p []) Q' ∧
      Keep (rBlocks b sg qv bs) w (w4.setCells sg (s * 6) [.bool true, .string p.name, .string p.data, .int .i64 p.tall, .slice (some ⟨g, 0, none⟩) A.width A.width, .int .i64 (wrap64 (nth A.turns s 0 + 1))]) ∧ ∀ x ∈ rBlocks b sg qv' (bs.set s (some g)), x ∈ rBlocks b sg qv bs ∨ w.heap.size ≤ x := by
  obtain ⟨n1, n2, n3, n4⟩ := h.sep
  have hlt := h.lt
  have hn := h.inv.next h.fits
  obtain ⟨s1, s2, -⟩ := (h.inv.mem s).1 (by simp)
  have blt := hlt b (by simp [rBlocks])
  have slt := hlt sg (by simp [rBlocks])
  have hs4 : w4.ownsRow 0 184 6 (.slice (some ⟨sg, 0, none⟩) (A.slots + 1) sc) (A.slots + 1) (rows A bs (A.slots + 1)) := owns_block h.hs fun x hx => by
    simp only [Value.ownBlock, Option.some.injEq] at hx
    subst hx
    exact k.block _ slt (by simpa using n1.symm)
  obtain ⟨p1, p2⟩ := put6 (w := w4) (k := s * 6) hs4 (.bool true) (.string p.name) (.string p.data) (.int .i64 p.tall) (.slice (some ⟨g, 0, none⟩) A.width A.width) (.int .i64 (wrap64 (nth A.turns s 0 + 1)))
  generalize hw5 : w4.setCells sg (s * 6) [.bool true, .string p.name, .string p.data, .int .i64 p.tall, .slice (some ⟨g, 0, none⟩) A.width A.width, .int .i64 (wrap64 (nth A.turns s 0 + 1))] = w5 at *
  have hin : sg ∈ rBlocks b sg qv bs := by simp [rBlocks]
  have hib : b ∈ rBlocks b sg qv bs := by simp [rBlocks]
  have hin2 : ∀ i x, nth bs i none = some x → x ∈ rBlocks b sg qv bs := fun i x e => by have := nth_block e; simp only [rBlocks, List.mem_cons, List.mem_append]; exact .inr (.inr (.inr this))
  have k5 : Keep (rBlocks b sg qv bs) w w5 := by
    rw [← hw5]
    have k' : Keep (rBlocks b sg qv bs) w w4 := k.mono (fun x hx => by rw [List.mem_singleton.1 hx]; exact hib)
    exact (((((k'.set (.inl hin) _ _).set (.inl hin) _ _).set (.inl hin) _ _).set (.inl hin) _ _).set (.inl hin) _ _).set (.inl hin) _ _
  have gsg : g ≠ sg := by omega
  have gnew : ∀ i, nth bs i none ≠ some g := fun i e => by have := hlt g (hin2 i g e); omega
  obtain ⟨d1, d2⟩ := fm_set bs s (some g) n4 (fun x e hx => by cases e; obtain ⟨i, -, e⟩ := block_nth hx; exact gnew i e)
  have hnb : ∀ i, nth (bs.set s (some g)) i none = if i = s then some g else nth bs i none := fun i => nth_set _ _ _ _ _ (by have := h.len; omega)
  have hqb : ∀ x, qv'.ownBlock = some x → x ≠ b ∧ x ≠ sg ∧ (∀ i, nth bs i none ≠ some x) := fun x hx => by
    have := (hq4.lt x hx).1
    exact ⟨by omega, by omega, fun i e => by have := hlt x (hin2 i x e); omega⟩
  refine ⟨⟨?_, h.inv.alloc h.fits p [], ?_, ?_, ?_, ?_, fun i x e => ?_, fun i i1 i2 e => ?_, ?_, ?_⟩, k5, fun x hx => ?_⟩
  · have hq := h.fits
    have hfe := hq.free
    have hw := fill_len A.words ((nextSlot A - 1) * A.width) [] A.width
    exact { s1 := hq.s1, s2 := hq.s2, w1 := hq.w1, w2 := hq.w2, words := hw.trans hq.words, used := by simpa [allocd] using hq.used, queue := hq.queue, items := by simpa [allocd] using hq.items, turns := by simpa [allocd] using hq.turns, front := Nat.mod_lt _ (by have := hq.s1; show 0 < A.slots; omega), free := by show A.free - 1 ≤ A.slots; omega, queued := hq.queued }
  · rw [p2 b n1, hb4]
    rfl
  · have e : rows (allocd A p []) (bs.set s (some g)) (A.slots + 1) = _ := (rows_put (A := A) (bs := bs) (A' := allocd A p []) (bs' := bs.set s (some g)) (k := A.slots + 1) (s := s) (by omega) (c0 := .bool true) (c1 := .string p.name) (c2 := .string p.data) (c3 := .int .i64 p.tall) (c4 := .slice (some ⟨g, 0, none⟩) A.width A.width) (c5 := .int .i64 (wrap64 (nth A.turns s 0 + 1))) (by
        simp only [sRow, allocd, hn]
        rw [nth_set _ _ _ _ _ (by have := h.fits.used; omega), nth_set _ _ _ _ _ (by have := h.fits.items; omega), hnb, nth_set _ _ _ _ _ (by have := h.fits.turns; omega), if_pos rfl, if_pos rfl, if_pos rfl, if_pos rfl]
        rfl) (fun i hi hne => by
        simp only [sRow, allocd, hn]
        rw [nth_set _ _ _ _ _ (by have := h.fits.used; omega), nth_set _ _ _ _ _ (by have := h.fits.items; omega), hnb, nth_set _ _ _ _ _ (by have := h.fits.turns; omega), if_neg hne, if_neg hne, if_neg hne, if_neg hne])).symm
    show World.ownsRow _ _ _ _ _ _ (rows (allocd A p []) (bs.set s (some g)) (A.slots + 1))
    rw [e]
    exact p1
  · have q := owns_block hq4 (w' := w5) fun x hx => p2 x (hqb x hx).2.1
    exact owns_mono q (Nat.zero_le _)
  · show (bs.set s (some g)).length = A.slots + 1
    rw [List.length_set]
    exact h.len
  · rw [hnb] at e
    by_cases his : i = s
    · rw [if_pos his] at e
      cases e
      subst his
      have hw : slotWords (allocd A p []) i = List.replicate A.width 0 := by
        have := slot_self (p := p) (ws := []) h.fits
        rw [hn] at this
        rw [this]
        apply List.ext_getElem (by simp)
        intro j h1 h2
        simp [nth]
      rw [hw, p2 _ gsg]
      exact hg
    · rw [if_neg his] at e
      obtain ⟨m1, m2, m3⟩ := n3 i x e
      have hi1 : 1 ≤ i := by
        rcases Nat.eq_zero_or_pos i with rfl | hp
        · rw [h.zero] at e; cases e
        · exact hp
      have hw : slotWords (allocd A p []) i = slotWords A i := slot_other h.fits hi1 (by rw [hn]; exact his)
      rw [hw, p2 x m2.symm]
      exact k.old (h.words i x e) (by simpa using m1.symm)
  · simp only [allocd, hn] at e
    rw [nth_set _ _ _ _ _ (by have := h.fits.used; omega)] at e
    rw [hnb]
    by_cases his : i = s
    · exact ⟨g, if_pos his⟩
    · rw [if_neg his] at e ⊢
      exact h.use i i1 i2 e
  · rw [hnb, if_neg (by omega)]
    exact h.zero
  · simp only [rBlocks, List.nodup_cons, List.mem_cons, List.mem_append, not_or, Option.mem_toList, List.nodup_append]
    have hin3 : ∀ x ∈ (bs.set s (some g)).filterMap id, x = g ∨ ∃ i, nth bs i none = some x := fun x hx => by
      rcases d2 x hx with hx | e
      · obtain ⟨i, -, e⟩ := block_nth hx
        exact .inr ⟨i, e⟩
      · cases e
        exact .inl rfl
    refine ⟨⟨n1, fun e => (hqb b e).1 rfl, fun hm => ?_⟩, ⟨fun e => (hqb sg e).2.1 rfl, fun hm => ?_⟩, ?_, d1, fun x hx y hy e => ?_⟩
    · rcases hin3 b hm with e | ⟨i, e⟩
      · omega
      · exact (n3 i b e).1 rfl
    · rcases hin3 sg hm with e | ⟨i, e⟩
      · exact gsg e.symm
      · exact (n3 i sg e).2.1 rfl
    · cases qv'.ownBlock <;> simp
    · subst e
      rcases hin3 x hy with e | ⟨i, e⟩
      · subst e
        exact hqg hx
      · exact (hqb x hx).2.2 i e
  · simp only [rBlocks, List.mem_cons, List.mem_append, Option.mem_toList] at hx ⊢
    rcases hx with rfl | rfl | hx | hx
    · exact .inl (.inl rfl)
    · exact .inl (.inr (.inl rfl))
    · exact .inr (hq4.lt x hx).1
    · rcases d2 x hx with hx | e
      · exact .inl (.inr (.inr (.inr hx)))
      · cases e
        exact .inr hgn

theorem alloc_full (h : RAt w b sg sc qv bs A []) (p : Ent) (c : Nat) (a : Option Addr) :
    Calls Tryz.prog 79 #[.pointer (some ⟨b, 0, none⟩), .agg #[.string p.name, .string p.data, .int .i64 p.tall], .slice a 0 c] w fun e w' => e = .returned (.tuple #[.int .i64 0, .int .i64 21]) ∧ RAt w' b sg sc qv bs (counted A) [] ∧ Keep (rBlocks b sg qv bs) w w' := by
  obtain ⟨aq, cq, rfl⟩ := owns_shape h.hq
  obtain ⟨wb, hwb⟩ : ∃ wb, wb = w.alloc (.cells #[.string p.name, .string p.data, .int .i64 p.tall] 55) := ⟨_, rfl⟩
  have kb : Keep [] w wb := by rw [hwb]; exact (Keep.refl _ _).alloc _
  have hb := h.keep0 kb
  have H3 := Lib.hid hb.setAcc
  have K3 : Hid (Keep (rBlocks b sg (.slice aq 0 cq) bs) w (wb.setCell ⟨b, 3, none⟩ (.int .i64 (wrap64 (A.acc + 1))))) := Lib.hid ((kb.mono (by simp)).set (.inl inB) _ _)
  have c0 := hb.c0
  have c2 : wb.cell? ⟨b, 2, none⟩ = some (.slice aq 0 cq) := hb.c2
  have c3 := hb.c3
  have f3 := hb.fz 3
  have hw := hb.fits.w2
  have y2 : (wb.setCell ⟨b, 3, none⟩ (.int .i64 (wrap64 (A.acc + 1)))).cell? ⟨b, 2, none⟩ = some (.slice aq 0 cq) := H3.out.c2
  clear h hb kb
  go_enter Tryz.func79, Tryz.ntmps79
  go_upto_region 1 with fail
  rw [show w.alloc (.cells #[.string p.name, .string p.data, .int .i64 p.tall] 55 (0, 0)) = wb from hwb.symm]
  clear hwb
  go_wp2_with fail
  go_ret2
  exact ⟨rfl, H3.out, K3.out⟩

theorem infoW64' : (Tryz.prog.info? 83).map (fun i => (i.zero, i.size, i.bytes)) = some (some (.int .u64 0), 1, 8) := by kernel_rfl
theorem q_at (h : RAt w b sg sc qv bs A Q) (hne : 1 ≤ Q.length) : ∃ gq cq, qv = .slice (some ⟨gq, 0, none⟩) Q.length cq ∧ gq ∈ rBlocks b sg qv bs ∧ ∀ i (hi : i < Q.length), w.cell? ⟨gq, i, none⟩ = some (.int .i64 Q[i]) := by
  obtain ⟨aq, cq, rfl⟩ := owns_shape h.hq
  rcases h.hq.2 with ⟨e, -⟩ | ⟨g, cap, cur, e, -⟩
  · simp only [Value.slice.injEq] at e
    omega
  · simp only [Value.slice.injEq] at e
    obtain ⟨rfl, -, rfl⟩ := e
    refine ⟨g, cq, rfl, by simp [rBlocks, Value.ownBlock], fun i hi => ?_⟩
    rw [h.hq.cellAt i (by omega)]
    simp [ints, hi]

set_option maxHeartbeats 8000000 in
theorem alloc_ok {s : Nat} {Q' : List Nat} (h : RAt w b sg sc qv bs A (s :: Q')) (p : Ent) (c : Nat) (a : Option Addr) :
    Calls Tryz.prog 79 #[.pointer (some ⟨b, 0, none⟩), .agg #[.string p.name, .string p.data, .int .i64 p.tall], .slice a 0 c] w fun e w' => e = .returned (.tuple #[.int .i64 s, .int .i64 0]) ∧
      ∃ qv' bs', RAt w' b sg sc qv' bs' (allocd A p []) Q' ∧ Keep (rBlocks b sg qv bs) w w' ∧ ∀ x ∈ rBlocks b sg qv' bs', x ∈ rBlocks b sg qv bs ∨ w.heap.size ≤ x := by
  have hql := q_le h
  obtain ⟨gq, cq, rfl, hgm, hqc⟩ := q_at h (by simp)
  have hgl := h.lt gq hgm
  obtain ⟨s1, s2, -⟩ := (h.inv.mem s).1 (by simp)
  obtain ⟨wb, hwb⟩ : ∃ wb, wb = w.alloc (.cells #[.string p.name, .string p.data, .int .i64 p.tall] 55) := ⟨_, rfl⟩
  have kb : Keep [] w wb := by rw [hwb]; exact (Keep.refl _ _).alloc _
  have bb : wb.heap[w.heap.size]? = some (.cells #[.string p.name, .string p.data, .int .i64 p.tall] 55 (0, 0)) := by rw [hwb]; exact alloc_new _ _
  have hb := h.keep0 kb
  obtain ⟨wa, hwa⟩ : ∃ wa, wa = wb.setCell ⟨b, 3, none⟩ (.int .i64 (wrap64 (A.acc + 1))) := ⟨_, rfl⟩
  have h3 := hb.setAcc
  rw [← hwa] at h3
  have ka : Keep [b] wb wa := by rw [hwa]; exact (Keep.refl _ _).set (.inl (by simp)) _ _
  have blt := h.lt b (by simp [rBlocks])
  have ba : wa.heap[w.heap.size]? = some (.cells #[.string p.name, .string p.data, .int .i64 p.tall] 55 (0, 0)) := ka.old bb (by simp; omega)
  have za : wa.heap.size = w.heap.size + 1 := by rw [hwa, size_set, hwb]; simp
  have hqa : ∀ i (hi : i < (s :: Q').length), wa.cell? ⟨gq, i, none⟩ = some (.int .i64 (s :: Q')[i]) := fun i hi => ka.cell (kb.cell (hqc i hi) (by simp)) (by
    have := (h.sep.2.1 gq rfl).1
    simpa using this.symm)
  have c0 := hb.c0
  have c2 := hb.c2
  have c3 := hb.c3
  have f3 := hb.fz 3
  have hw1 := hb.fits.w1
  have hw2 := hb.fits.w2
  have hsl := h.fits.s2
  have y2 : wa.cell? ⟨b, 2, none⟩ = some (.slice (some ⟨gq, 0, none⟩) (s :: Q').length cq) := h3.c2
  have q0 := hqa 0 (by simp)
  have H0 := Lib.hid h
  have H3 := Lib.hid h3
  have KB := Lib.hid kb
  have KA := Lib.hid ka
  have BA := Lib.hid ba
  have QA := Lib.hid hqa
  have ZA := Lib.hid za
  have BLT := Lib.hid blt
  have S12 := Lib.hid (And.intro s1 s2)
  obtain ⟨n, hn⟩ : ∃ n, n = Q'.length := ⟨_, rfl⟩
  have HN := Lib.hid hn
  have hnl : n ≤ 4096 := by rw [hn]; simp at hql; omega
  rw [List.length_cons, ← hn] at c2 y2
  have hn0 : (((n : Nat) : Int) + 1 == 0) = false := by simp; omega
  obtain ⟨i0, hi0, hz0, hz1, hz2⟩ := info_parts infoI
  have I0 := Lib.hid hi0
  have Z0 := Lib.hid (And.intro hz0 (And.intro hz1 hz2))
  clear h hb h3 ka kb bb ba hql hgm hqc hqa hgl hi0 hz0 hz1 hz2 za blt hn
  go_enter Tryz.func79, Tryz.ntmps79
  go_upto_region 1 with fail
  rw [show w.alloc (.cells #[.string p.name, .string p.data, .int .i64 p.tall] 55 (0, 0)) = wb from hwb.symm]
  clear hwb
  go_upto_region 6 with fail
  rw [← hwa]
  clear hwa c0 c2 c3 f3
  have q0' : wa.cell? ⟨gq, 0, none⟩ = some (.int .i64 s) := q0
  clear q0
  go_wp2_with fail
  go_loopw [9, 10] (fun v i wr => ∃ k : Nat, k ≤ n ∧ i = .int .i64 (k + 1) ∧ wr.ownsRow wa.heap.size 3 1 v k (ints (Q'.take k)) ∧ Keep [] wa wr) (fun _ i _ => n + 1 - (intOf i).toNat)
  case atStart => exact ⟨0, Nat.zero_le _, rfl, World.ownsRow_nil _ _ _ _, Keep.refl _ _⟩
  case round =>
    obtain ⟨k, hk, rfl, ho, hK⟩ := hrel
    obtain ⟨av, cv, rfl⟩ := owns_shape ho
    have KR := Lib.hid hK
    have HO := Lib.hid ho
    have y2' := hK.cell y2 (by simp)
    clear ho hK
    by_cases hlt : k < n
    · have hkq : k < Q'.length := by rw [← HN.out]; exact hlt
      have q1 := KR.out.cell (QA.out (k + 1) (by simp; omega)) (by simp)
      rw [List.getElem_cons_succ] at q1
      obtain ⟨x, hx⟩ : ∃ x, x = Q'[k] := ⟨_, rfl⟩
      rw [← hx] at q1
      have q1' : wr.cell? ⟨gq, k + 1, none⟩ = some (.int .i64 x) := q1
      have TK : Hid (Q'.take (k + 1) = Q'.take k ++ [x]) := Lib.hid (by rw [hx, List.take_succ_eq_append_getElem hkq])
      have d1 := Lib.hid (show k + 1 ≤ maxLen by unfold maxLen; omega)
      have d2 := Lib.hid (show (k + 1) * 8 ≤ 140737488355328 by omega)
      have d3 := Lib.hid (one_int' ((x : Nat) : Int))
      have d4 := Lib.hid KR.out.size
      clear hx q1
      go_wp2_with (at_builtin; refine wpList_append_own_at _ rfl _ _ 31 rfl wa.heap.size 3 i0 (.int .i64 0) 1 8 Tryz.underlying31 I0.out Z0.out.1 Z0.out.2.1 Z0.out.2.2 rfl (by decide) (.slice av k cv) k (ints (Q'.take k)) rfl (HO.out.alloc _) ⟨_, 0, none⟩ 1 1 [.int .i64 x] rfl rfl (news_at rfl) d3.out d1.out d2.out (Nat.le_trans d4.out (alloc_le _ _)) ?_; intro v' w3 a1 g1 _ p1; obtain ⟨ap, cp, rfl⟩ := owns_shape a1; have A1 := Lib.hid a1; have G1 := Lib.hid g1; clear a1 g1 p1)
      go_roundw
      case rel =>
        refine ⟨k + 1, hlt, by go_num, ?_, ?_⟩
        · rw [TK.out]
          have e : ints (Q'.take k ++ [x]) = ints (Q'.take k) ++ [.int .i64 x] := by simp [ints]
          rw [e]
          exact A1.out
        · exact Keep.grown (KR.out.alloc _) G1.out fun y hy => (HO.out.lt y hy).1
      case measure => simp [intOf]; omega
    · have hkn : k = n := by omega
      subst hkn
      have TK : Hid (Q'.take k = Q') := Lib.hid (by rw [HN.out, List.take_length])
      have fz2 : wr.frozen? ⟨b, 2, none⟩ = false := free_of (KR.out.old H3.out.hb (by simp)) 2
      go_upto_region 15 with fail
      obtain ⟨wv4, hwv⟩ : ∃ wv4, wv4 = wr.setCell ⟨b, 2, none⟩ (.slice av k cv) := ⟨_, rfl⟩
      have hb5 : wv4.heap[b]? = some (.cells #[.int .i64 A.width, .slice (some ⟨sg, 0, none⟩) (A.slots + 1) sc, .slice av k cv, .int .i64 (wrap64 (A.acc + 1)), .int .i64 A.miss] 182 (0, 0)) := by
        rw [hwv, set_same (KR.out.old H3.out.hb (by simp))]
        rfl
      have KV : Hid (Keep [b] w wv4) := Lib.hid (by
        rw [hwv]
        exact (((KB.out.mono (by simp)).trans KA.out).trans (KR.out.mono (by simp))).set (.inl (by simp)) _ _)
      have OV : Hid (wv4.ownsRow wa.heap.size 3 1 (.slice av k cv) k (ints Q')) := Lib.hid (by
        have q := HO.out
        rw [TK.out] at q
        rw [hwv]
        exact ownsRow_setCell_below q (by have := ZA.out; have := BLT.out; show b < wa.heap.size; omega) _)
      have BV : Hid (wv4.heap[w.heap.size]? = some (.cells #[.string p.name, .string p.data, .int .i64 p.tall] 55 (0, 0))) := Lib.hid (by
        rw [hwv, set_other (by have := BLT.out; omega)]
        exact KR.out.old BA.out (by simp))
      rw [← hwv]
      have HB5 := Lib.hid hb5
      have v0 := (cell_of hb5 0).trans rfl
      have SV : Hid (wa.heap.size ≤ wv4.heap.size) := Lib.hid (by rw [hwv, size_set]; exact KR.out.size)
      have km := make_row 122 83 _ (.int .u64 0) 8 Tryz.underlying122 infoW64' rfl A.width (by omega) (by omega)
      clear hwv hb5 y2' fz2 q0' y2
      go_upto_region 16 with fail
      clear km
      obtain ⟨g, hg⟩ : ∃ g, g = wv4.heap.size := ⟨_, rfl⟩
      obtain ⟨w6, hw6⟩ : ∃ w6, w6 = (wv4.alloc (.cells (madeCells #[.int .u64 0] A.width) 83)).drew := ⟨_, rfl⟩
      have k6 : Keep [] wv4 w6 := by rw [hw6]; exact ((Keep.refl _ _).alloc _).drew
      have g6 : w6.heap[g]? = some (.cells ((List.replicate A.width (0 : Int)).map (.int .u64)).toArray 83 (0, 0)) := by
        rw [hw6, hg, List.map_replicate, ← made_list]
        exact alloc_new _ _
      rw [← hg]
      go_wp2_with fail
      refine wp_loop_rounds 1 ?_
      rw [rounds_succ]
      go_wp2_with fail
      refine wp_region_still_tail 18 (by kernel_rfl) (by kernel_rfl) ?_
      have hw6' : ({ heap := (wv4.alloc (.cells (madeCells #[.int .u64 0] A.width) 83)).heap, tape := (wv4.alloc (.cells (madeCells #[.int .u64 0] A.width) 83)).tape, drawn := (wv4.alloc (.cells (madeCells #[.int .u64 0] A.width) 83)).drawn + 1, os := (wv4.alloc (.cells (madeCells #[.int .u64 0] A.width) 83)).os, output := (wv4.alloc (.cells (madeCells #[.int .u64 0] A.width) 83)).output } : World) = w6 := hw6.symm
      rw [hw6']
      have S6 := Lib.hid (show w6.heap.size = wv4.heap.size + 1 by rw [hw6]; simp)
      clear hw6 hw6'
      have b6 := k6.old HB5.out (by simp)
      have c1 := (cell_of b6 1).trans rfl
      have x6 := k6.old BV.out (by simp)
      have z0 := (cell_of x6 0).trans rfl
      have z1 := (cell_of x6 1).trans rfl
      have z2 := (cell_of x6 2).trans rfl
      have K6 := Lib.hid (KV.out.trans (k6.mono (by simp)) : Keep [b] w w6)
      have nsg := H0.out.sep.1
      have slt := H0.out.lt sg (by simp [rBlocks])
      have c5 : w6.cell? ⟨sg, s * 6 + 5, none⟩ = some (.int .i64 (nth A.turns s 0)) := K6.out.cell ((H0.out.sl (i := s) S12.out.2 (j := 5) (by omega)).trans rfl) (by simpa using nsg.symm)
      have hs6 : w6.ownsRow 0 184 6 (.slice (some ⟨sg, 0, none⟩) (A.slots + 1) sc) (A.slots + 1) (rows A bs (A.slots + 1)) := owns_block H0.out.hs fun x hx => by
        simp only [Value.ownBlock, Option.some.injEq] at hx
        subst hx
        exact K6.out.block _ slt (by simpa using nsg.symm)
      have ht := there6 hs6 (i := s) (by have := S12.out.2; omega)
      have hsb : s < A.slots + 1 := by have := S12.out.2; omega
      have hsb' : (s : Int) < (A.slots : Int) + 1 := by omega
      have B6 := Lib.hid b6
      have G6 := Lib.hid g6
      have HG := Lib.hid hg
      have OQ := Lib.hid (owns_mono (owns_keep OV.out k6 (by simp)) (base' := w.heap.size) (by rw [ZA.out]; omega))
      have OL := Lib.hid (fun x hx => (OV.out.lt x hx).2 : ∀ x, (Value.slice av k cv).ownBlock = some x → x < wv4.heap.size)
      clear k6 g6 hg b6 x6 nsg slt hs6 v0
      simp only [List.take_succ_cons, List.take_zero, List.drop_succ_cons, List.drop_zero]
      repeat still_step
      refine wpStill_nil ?_
      rw [show IntKind.i64.wrap (nth A.turns s 0 + 1) = wrap64 (nth A.turns s 0 + 1) from IntWalk.i64_left _]
      refine wpList_store_mid rfl 184 (.tmp 99) (.tmp 98) rfl sg (s * 6) #[.bool true, .string p.name, .string p.data, .int .i64 p.tall, .slice (some ⟨g, 0, none⟩) A.width A.width, .int .i64 (wrap64 (nth A.turns s 0 + 1))] rfl rfl ht (by kernel_rfl) (by simp [Value.oneCell']) ?_
      clear z0 z1 z2 c1 c5 ht
      obtain ⟨r1, r2, r3⟩ := H0.out.allocd_ p K6.out B6.out (by rw [← HN.out]; exact OQ.out) G6.out (by rw [HG.out]; have := KV.out.size; omega) (fun e => by have := OL.out g e; have := HG.out; omega)
      have R1 := Lib.hid (And.intro r1 (And.intro r2 r3))
      clear r1 r2 r3
      go_wp2_with fail
      go_ret2
      exact ⟨rfl, _, _, R1.out⟩
end
end Go.Proofs.YtgagiggljlikbaaGreat.Ra
