/- The document's arena: Free. -/
import Derived.Test.YtgagiggljlikbaaGreatRaC
import Derived.StillTailTactics
import Derived.Deep.MidRow
import Derived.Deep.Cut
namespace Go.Proofs.YtgagiggljlikbaaGreat.Ra
open Go.RowKit Go.Proofs.YtgagiggljlikbaaGreat.Mem Go.Proofs.YtgagiggljlikbaaGreat.Ar Go.Proofs.YtgagiggljlikbaaGreat.En
open Go.Proofs.YtgagiggljlikbaaGreat.Ref (one_int' news_at owns_shape)
set_option linter.unusedVariables false
set_option linter.unusedSimpArgs false
set_option maxRecDepth 100000

theorem fm_set : ∀ (bs : List (Option Nat)) (s : Nat) (o : Option Nat), (bs.filterMap id).Nodup → (∀ g, o = some g → g ∉ bs.filterMap id) → ((bs.set s o).filterMap id).Nodup ∧ ∀ x ∈ (bs.set s o).filterMap id, x ∈ bs.filterMap id ∨ o = some x
  | [], s, o, h, _ => by simp
  | p :: bs, 0, o, h, hg => by
    have h' : (bs.filterMap id).Nodup := by
      cases p with
      | none => simpa using h
      | some x => rw [List.filterMap_cons] at h; exact (List.nodup_cons.1 h).2
    have hm : ∀ x ∈ bs.filterMap id, x ∈ (p :: bs).filterMap id := fun x hx => by
      rw [List.filterMap_cons]
      cases p with
      | none => exact hx
      | some y => exact List.mem_cons_of_mem _ hx
    rw [List.set_cons_zero, List.filterMap_cons]
    cases o with
    | none => exact ⟨h', fun x hx => .inl (hm x hx)⟩
    | some g =>
      refine ⟨List.nodup_cons.2 ⟨fun hx => hg g rfl (hm g hx), h'⟩, fun x hx => ?_⟩
      rcases List.mem_cons.1 hx with rfl | hx
      · exact .inr rfl
      · exact .inl (hm x hx)
  | p :: bs, s + 1, o, h, hg => by
    have h' : (bs.filterMap id).Nodup := by
      cases p with
      | none => simpa using h
      | some x => rw [List.filterMap_cons] at h; exact (List.nodup_cons.1 h).2
    have hm : ∀ x ∈ bs.filterMap id, x ∈ (p :: bs).filterMap id := fun x hx => by
      rw [List.filterMap_cons]
      cases p with
      | none => exact hx
      | some y => exact List.mem_cons_of_mem _ hx
    obtain ⟨i1, i2⟩ := fm_set bs s o h' (fun g e hx => hg g e (hm g hx))
    rw [List.set_cons_succ, List.filterMap_cons]
    cases p with
    | none => exact ⟨i1, fun x hx => (i2 x hx).imp (hm x) id⟩
    | some y =>
      refine ⟨List.nodup_cons.2 ⟨fun hx => ?_, i1⟩, fun x hx => ?_⟩
      · rcases i2 y hx with hx | e
        · rw [List.filterMap_cons] at h
          exact (List.nodup_cons.1 h).1 hx
        · exact hg y e (by rw [List.filterMap_cons]; exact List.mem_cons_self ..)
      · rcases List.mem_cons.1 hx with rfl | hx
        · exact .inl (by rw [List.filterMap_cons]; exact List.mem_cons_self ..)
        · exact (i2 x hx).imp (hm x) id

section
variable {w w' : World} {b sg sc : Nat} {qv : Value} {bs : List (Option Nat)} {A A' : Ars} {Q : List Nat}
theorem put6 {k n : Nat} {xs : List Value} (h : w.ownsRow 0 184 6 (.slice (some ⟨sg, 0, none⟩) n sc) n xs) (c0 c1 c2 c3 c4 c5 : Value) :
    (w.setCells sg k [c0, c1, c2, c3, c4, c5]).ownsRow 0 184 6 (.slice (some ⟨sg, 0, none⟩) n sc) n ((((((xs.set k c0).set (k + 1) c1).set (k + 2) c2).set (k + 3) c3).set (k + 4) c4).set (k + 5) c5) ∧
      ∀ g, g ≠ sg → (w.setCells sg k [c0, c1, c2, c3, c4, c5]).heap[g]? = w.heap[g]? := by
  refine ⟨((((((h.stored k c0).1.stored (k + 1) c1).1.stored (k + 2) c2).1.stored (k + 3) c3).1.stored (k + 4) c4).1.stored (k + 5) c5).1, fun g hg => ?_⟩
  show (((((((w.setCell ⟨sg, k, none⟩ c0).setCell ⟨sg, k + 1, none⟩ c1).setCell ⟨sg, k + 2, none⟩ c2).setCell ⟨sg, k + 3, none⟩ c3).setCell ⟨sg, k + 4, none⟩ c4).setCell ⟨sg, k + 5, none⟩ c5)).heap[g]? = _
  rw [set_other hg, set_other hg, set_other hg, set_other hg, set_other hg, set_other hg]

/-- what Free leaves -/
theorem RAt.freed_ (h : RAt w b sg sc qv bs A Q) {s : Nat} (h1 : 1 ≤ s) (h2 : s ≤ A.slots) (hu : nth A.used s false = true) {c : Array Value} {t : TypeId} {qv' : Value} {w3 : World}
    (hown : w3.ownsRow 0 3 1 qv' (Q.length + 1) (ints Q ++ [.int .i64 s]))
    (hg : (((w.setCell ⟨b, 3, none⟩ (.int .i64 (wrap64 (A.acc + 1)))).drew.setCells sg (s * 6) [.bool false, .string ⟨#[]⟩, .string ⟨#[]⟩, .int .i64 0, .slice none 0 0, .int .i64 (nth A.turns s 0)]).alloc (.cells c t)).grownBy w3 qv.ownBlock)
    (hp : qv'.ownBlock = qv.ownBlock ∨ ∀ g, qv'.ownBlock = some g → w.heap.size ≤ g) :
    RAt (w3.setCell ⟨b, 2, none⟩ qv') b sg sc qv' (bs.set s none) (En.freed A s) (Q ++ [s]) ∧ Keep (rBlocks b sg qv bs) w (w3.setCell ⟨b, 2, none⟩ qv') ∧ ∀ x ∈ rBlocks b sg qv' (bs.set s none), x ∈ rBlocks b sg qv bs ∨ w.heap.size ≤ x := by
  obtain ⟨n1, n2, n3, n4⟩ := h.sep
  have hlt := h.lt
  have hA := h.setAcc
  obtain ⟨p1, p2⟩ := put6 (w := (w.setCell ⟨b, 3, none⟩ (.int .i64 (wrap64 (A.acc + 1)))).drew) (k := s * 6) (show (w.setCell ⟨b, 3, none⟩ (.int .i64 (wrap64 (A.acc + 1)))).drew.ownsRow 0 _ 6 (.slice (some ⟨sg, 0, none⟩) (A.slots + 1) sc) (A.slots + 1) (rows (counted A) bs (A.slots + 1)) from hA.hs.drew) (.bool false) (.string ⟨#[]⟩) (.string ⟨#[]⟩) (.int .i64 0) (.slice none 0 0) (.int .i64 (nth A.turns s 0))
  generalize hw2 : (w.setCell ⟨b, 3, none⟩ (.int .i64 (wrap64 (A.acc + 1)))).drew.setCells sg (s * 6) [.bool false, .string ⟨#[]⟩, .string ⟨#[]⟩, .int .i64 0, .slice none 0 0, .int .i64 (nth A.turns s 0)] = w2 at *
  have k2 : Keep (rBlocks b sg qv bs) w w2 := by
    rw [← hw2]
    have hin : sg ∈ rBlocks b sg qv bs := by simp [rBlocks]
    have hib : b ∈ rBlocks b sg qv bs := by simp [rBlocks]
    exact ((((((((Keep.refl _ w).set (.inl hib) _ _).drew).set (.inl hin) _ _).set (.inl hin) _ _).set (.inl hin) _ _).set (.inl hin) _ _).set (.inl hin) _ _).set (.inl hin) _ _
  have z2 := k2.size
  -- a block of the old ones, not the queue's, not the slots' row, not the head
  have far : ∀ x, x < w.heap.size → some x ≠ qv.ownBlock → w3.heap[x]? = w2.heap[x]? := fun x hx hq => (hg.block x (by simp; omega) hq).trans (alloc_old _ (by omega))
  have hbq : some b ≠ qv.ownBlock := fun e => (n2 b e.symm).1 rfl
  have hsq : some sg ≠ qv.ownBlock := fun e => (n2 sg e.symm).2 rfl
  have blt := hlt b (by simp [rBlocks])
  have slt := hlt sg (by simp [rBlocks])
  have fw : ∀ i g, nth bs i none = some g → (w3.setCell ⟨b, 2, none⟩ qv').heap[g]? = w.heap[g]? := by
    intro i g e
    obtain ⟨m1, m2, m3⟩ := n3 i g e
    rw [set_other m1.symm, far g (hlt g (by have := nth_block e; simp only [rBlocks, List.mem_cons, List.mem_append]; exact .inr (.inr (.inr this)))) (fun e2 => m3 e2.symm), p2 g m2.symm]
    exact set_other m1.symm _ _
  have hqb : ∀ g, qv'.ownBlock = some g → g ≠ b ∧ g ≠ sg ∧ ∀ i, nth bs i none ≠ some g := by
    intro g hg'
    rcases hp with hp | hp
    · rw [hp] at hg'
      exact ⟨fun e => (n2 g hg').1 e.symm, fun e => (n2 g hg').2 e.symm, fun i e => (n3 i g e).2.2 hg'⟩
    · have hge := hp g hg'
      exact ⟨by omega, by omega, fun i e => by have := hlt g (by have := nth_block e; simp only [rBlocks, List.mem_cons, List.mem_append]; exact .inr (.inr (.inr this))); omega⟩
  obtain ⟨d1, d2⟩ := fm_set bs s none n4 (by simp)
  have hnb : ∀ i, nth (bs.set s none) i none = if i = s then none else nth bs i none := fun i => nth_set _ _ _ _ _ (by have := h.len; omega)
  refine ⟨⟨?_, h.inv.free h.fits h1 h2 hu, ?_, ?_, ?_, (by show (bs.set s none).length = A.slots + 1; rw [List.length_set]; exact h.len), fun i g e => ?_, fun i i1 i2 e => ?_, ?_, ?_⟩, ?_, fun x hx => ?_⟩
  · have q := ((h.fits.used_set s false).items_set s (Lies.zero : Ent)).queue_set ((A.front + A.free) % A.slots) h1 h2
    have hfr := h.inv.room h1 h2 hu
    exact { q with free := hfr }
  · have e1 : w2.heap[b]? = (w.setCell ⟨b, 3, none⟩ (.int .i64 (wrap64 (A.acc + 1)))).heap[b]? := p2 b n1
    have e2 : w3.heap[b]? = some _ := (far b blt hbq).trans (e1.trans hA.hb)
    rw [set_same e2]
    rfl
  · have hr : w3.ownsRow 0 184 6 (.slice (some ⟨sg, 0, none⟩) (A.slots + 1) sc) (A.slots + 1) (rows (En.freed A s) (bs.set s none) (A.slots + 1)) := by
      have e : rows (En.freed A s) (bs.set s none) (A.slots + 1) = _ := (rows_put (A := counted A) (bs := bs) (A' := En.freed A s) (bs' := bs.set s none) (k := A.slots + 1) (s := s) (by omega) (c0 := .bool false) (c1 := .string ⟨#[]⟩) (c2 := .string ⟨#[]⟩) (c3 := .int .i64 0) (c4 := .slice none 0 0) (c5 := .int .i64 (nth A.turns s 0)) (by
        simp only [sRow, En.freed]
        rw [nth_set _ _ _ _ _ (by have := h.fits.used; omega), nth_set _ _ _ _ _ (by have := h.fits.items; omega), hnb, if_pos rfl, if_pos rfl, if_pos rfl]
        rfl) (fun i hi hne => by
        simp only [sRow, En.freed, counted]
        rw [nth_set _ _ _ _ _ (by have := h.fits.used; omega), nth_set _ _ _ _ _ (by have := h.fits.items; omega), hnb, if_neg hne, if_neg hne, if_neg hne])).symm
      rw [e]
      refine owns_block p1 fun g hg' => ?_
      simp only [Value.ownBlock, Option.some.injEq] at hg'
      subst hg'
      exact far _ slt hsq
    exact owns_block hr fun g hg' => set_other (by simp only [Value.ownBlock, Option.some.injEq] at hg'; rw [← hg']; exact n1.symm) _ _
  · have e : ints (Q ++ [s]) = ints Q ++ [.int .i64 s] := by simp [ints]
    rw [e, List.length_append]
    exact owns_block hown fun g hg' => set_other (hqb g hg').1 _ _
  · rw [hnb] at e
    by_cases his : i = s
    · rw [if_pos his] at e; cases e
    · rw [if_neg his] at e
      rw [fw i g e]
      exact h.words i g e
  · simp only [En.freed] at e
    rw [nth_set _ _ _ _ _ (by have := h.fits.used; omega)] at e
    by_cases his : i = s
    · rw [if_pos his] at e; cases e
    · rw [if_neg his] at e
      rw [hnb, if_neg his]
      exact h.use i i1 i2 e
  · rw [hnb]
    split
    · rfl
    · exact h.zero
  · simp only [rBlocks, List.nodup_cons, List.mem_cons, List.mem_append, not_or, Option.mem_toList, List.nodup_append]
    have hin : ∀ x ∈ (bs.set s none).filterMap id, ∃ i, nth bs i none = some x := fun x hx => by
      rcases d2 x hx with hx | e
      · obtain ⟨i, -, e⟩ := block_nth hx
        exact ⟨i, e⟩
      · cases e
    refine ⟨⟨n1, fun e => (hqb b e).1 rfl, fun hm => ?_⟩, ⟨fun e => (hqb sg e).2.1 rfl, fun hm => ?_⟩, ?_, d1, fun x hx y hy e => ?_⟩
    · obtain ⟨i, e⟩ := hin b hm
      exact (n3 i b e).1 rfl
    · obtain ⟨i, e⟩ := hin sg hm
      exact (n3 i sg e).2.1 rfl
    · cases qv'.ownBlock <;> simp
    · subst e
      obtain ⟨i, e⟩ := hin x hy
      exact (hqb x hx).2.2 i e
  · have k3 : Keep (rBlocks b sg qv bs) w w3 := by
      have q := k2.alloc (.cells c t)
      refine ⟨hg.os.trans q.os, hg.tape.trans q.tape, hg.output.trans q.output, Nat.le_trans q.size hg.size, fun i hi hn => ?_⟩
      rw [far i hi (fun e => hn (by simp only [rBlocks, List.mem_cons, List.mem_append, Option.mem_toList]; exact .inr (.inr (.inl e.symm))))]
      exact k2.block i hi hn
    exact k3.set (.inl inB) _ _
  · simp only [rBlocks, List.mem_cons, List.mem_append, Option.mem_toList] at hx ⊢
    rcases hx with rfl | rfl | hx | hx
    · exact .inl (.inl rfl)
    · exact .inl (.inr (.inl rfl))
    · rcases hp with hp | hp
      · rw [hp] at hx
        exact .inl (.inr (.inr (.inl hx)))
      · exact .inr (hp x hx)
    · rcases d2 x hx with hx | e
      · exact .inl (.inr (.inr (.inr hx)))
      · cases e

theorem free_no (h : RAt w b sg sc qv bs A Q) (slot : Int) (hin : inUseB A slot = false) :
    Calls Tryz.prog 81 #[.pointer (some ⟨b, 0, none⟩), .int .i64 slot] w fun e w' => e = .returned (.int .i64 22) ∧ RAt w' b sg sc qv bs (missed A) Q ∧ Keep (rBlocks b sg qv bs) w w' := by
  have HI := Lib.hid hin
  have HA := Lib.hid h
  clear h hin
  go_enter Tryz.func81, Tryz.ntmps81
  go_wp2_with fail
  refine (used HA.out slot).mono ?_
  rw [HI.out]
  rintro e w' ⟨rfl, rfl⟩
  go_wp2_with fail
  refine (missed_ HA.out).mono ?_
  rintro e w' ⟨rfl, h', k⟩
  have HR := Lib.hid (And.intro h' k)
  clear h' k
  go_wp2_with fail
  go_ret
  exact ⟨rfl, HR.out⟩
theorem there6 {n : Nat} {xs : List Value} (h : w.ownsRow 0 184 6 (.slice (some ⟨sg, 0, none⟩) n sc) n xs) {i : Nat} (hi : i < n) : w.there sg (i * 6) 6 := by
  intro j hj
  refine ⟨?_, h.frozenAt _⟩
  rw [h.cellAt (i * 6 + j) (by omega)]
  have := h.1
  rw [List.getElem?_eq_getElem (by omega)]
  rfl
theorem q_le (h : RAt w b sg sc qv bs A Q) : Q.length ≤ 4096 := by
  have := h.inv.len
  have := h.fits.free
  have := h.fits.s2
  omega
set_option maxHeartbeats 4000000 in
theorem free_yes (h : RAt w b sg sc qv bs A Q) {s : Nat} (h1 : 1 ≤ s) (h2 : s ≤ A.slots) (hu : nth A.used s false = true) :
    Calls Tryz.prog 81 #[.pointer (some ⟨b, 0, none⟩), .int .i64 s] w fun e w' => e = .returned (.int .i64 0) ∧ ∃ qv', RAt w' b sg sc qv' (bs.set s none) (En.freed A s) (Q ++ [s]) ∧ Keep (rBlocks b sg qv bs) w w' ∧ ∀ x ∈ rBlocks b sg qv' (bs.set s none), x ∈ rBlocks b sg qv bs ∨ w.heap.size ≤ x := by
  have hin : inUseB A (s : Int) = true := by
    have : (1 : Int) ≤ s := by omega
    simp [inUseB, this, h2, hu]
  obtain ⟨aq, cq, rfl⟩ := owns_shape h.hq
  have hsl := h.fits.s2
  have HI := Lib.hid hin
  have HA := Lib.hid h
  have H3 := Lib.hid h.setAcc
  have HU := Lib.hid hu
  have e3 := h.c3
  have f3 := h.fz 3
  obtain ⟨wa, hwa⟩ : ∃ wa, wa = w.setCell ⟨b, 3, none⟩ (.int .i64 (wrap64 (A.acc + 1))) := ⟨_, rfl⟩
  rw [← hwa] at H3
  have WA := Lib.hid hwa
  obtain ⟨i0, hi0, hz0, hz1, hz2⟩ := info_parts infoI
  have I0 := Lib.hid hi0
  have Z0 := Lib.hid (And.intro hz0 (And.intro hz1 hz2))
  clear h hin hu hi0 hz0 hz1 hz2
  go_enter Tryz.func81, Tryz.ntmps81
  go_wp2_with fail
  refine (used HA.out s).mono ?_
  rw [HI.out]
  rintro e w' ⟨rfl, rfl⟩
  go_wp2_with fail
  rw [← hwa]
  clear hwa e3 f3
  refine wp_region_still_tail 15 (by kernel_rfl) (by kernel_rfl) ?_
  obtain ⟨wm, hwm⟩ : ∃ wm, wm = wa.drew := ⟨_, rfl⟩
  have WM := Lib.hid hwm
  rw [show ({ heap := wa.heap, tape := wa.tape, drawn := wa.drawn + 1, os := wa.os, output := wa.output } : World) = wm from hwm.symm]
  have hm : RAt wm b sg sc (.slice aq Q.length cq) bs (counted A) Q := by rw [hwm]; exact H3.out.keep0 ((Keep.refl _ _).drew)
  have HM := Lib.hid hm
  have c1 : wm.cell? ⟨b, 1, none⟩ = some (.slice (some ⟨sg, 0, none⟩) (A.slots + 1) sc) := (hm.c1 :)
  have c5 : wm.cell? ⟨sg, s * 6 + 5, none⟩ = some (.int .i64 (nth A.turns s 0)) := (hm.sl (i := s) h2 (j := 5) (by omega)).trans rfl
  have ht := there6 hm.hs (i := s) (by show s < A.slots + 1; omega)
  have hsb : s < A.slots + 1 := by omega
  have hsb' : (s : Int) < (A.slots : Int) + 1 := by omega
  clear hm hwm
  simp only [List.take_succ_cons, List.take_zero, List.drop_succ_cons, List.drop_zero]
  repeat still_step
  refine wpStill_nil ?_
  refine wpList_store_mid rfl 184 (.tmp 36) (.tmp 35) rfl sg (s * 6) #[.bool false, .string ⟨#[]⟩, .string ⟨#[]⟩, .int .i64 0, .slice none 0 0, .int .i64 (nth A.turns s 0)] rfl rfl ht (by kernel_rfl) (by simp [Value.oneCell']) ?_
  obtain ⟨wx, hwx⟩ : ∃ wx, wx = wm.setCells sg (s * 6) [.bool false, .string ⟨#[]⟩, .string ⟨#[]⟩, .int .i64 0, .slice none 0 0, .int .i64 (nth A.turns s 0)] := ⟨_, rfl⟩
  obtain ⟨-, p2⟩ := put6 (w := wm) (k := s * 6) HM.out.hs (.bool false) (.string ⟨#[]⟩) (.string ⟨#[]⟩) (.int .i64 0) (.slice none 0 0) (.int .i64 (nth A.turns s 0))
  rw [← hwx] at p2
  rw [show wm.setCells sg (s * 6) (#[.bool false, .string ⟨#[]⟩, .string ⟨#[]⟩, .int .i64 0, .slice none 0 0, .int .i64 (nth A.turns s 0)] : Array Value).toList = wx from hwx.symm]
  obtain ⟨n1, n2, -, -⟩ := HM.out.sep
  have hbx : wx.heap[b]? = _ := (p2 b n1).trans HM.out.hb
  have HB := Lib.hid hbx
  have x2 := (cell_of hbx 2).trans rfl
  have HQ := Lib.hid (owns_block (w' := wx) HM.out.hq (fun g hg => p2 g (n2 g hg).2.symm))
  have HN := Lib.hid n2
  have hql := q_le HM.out
  have e1 := Lib.hid (show Q.length + 1 ≤ maxLen by unfold maxLen; omega)
  have e2 := Lib.hid (show (Q.length + 1) * 8 ≤ 140737488355328 by omega)
  have e7 := Lib.hid (one_int' ((s : Nat) : Int))
  have WX := Lib.hid hwx
  clear hwx p2 n1 n2 hbx c1 c5 ht hql
  go_wp2_with (at_builtin; go_loud (refine wpList_append_own_at _ rfl _ _ 31 rfl 0 3 i0 (.int .i64 0) 1 8 Tryz.underlying31 I0.out Z0.out.1 Z0.out.2.1 Z0.out.2.2 rfl (by decide) (.slice aq Q.length cq) Q.length (ints Q) rfl (HQ.out.alloc _) ⟨_, 0, none⟩ 1 1 [.int .i64 s] rfl rfl (news_at rfl) e7.out e1.out e2.out (Nat.zero_le _) ?_; intro v' w3 a1 g1 _ p1; obtain ⟨ap, cp, rfl⟩ := owns_shape a1; have A1 := Lib.hid a1; have G1 := Lib.hid g1; have P1 := Lib.hid p1; clear a1 g1 p1; have HB3 := Lib.hid ((G1.out.block b (Nat.lt_of_lt_of_le (lt_of HB.out) (alloc_le _ _)) (fun e => (HN.out b e.symm).1 rfl)).trans (alloc_some _ HB.out)); have y2 := (cell_of HB3.out 2).trans rfl; have y3 := free_of HB3.out 2))
  go_ret
  have hpp : (Value.slice ap (Q.length + 1) cp).ownBlock = (Value.slice aq Q.length cq).ownBlock ∨ ∀ g, (Value.slice ap (Q.length + 1) cp).ownBlock = some g → w.heap.size ≤ g := by
    rcases P1.out with e | e
    · exact .inl e
    · refine .inr fun g hg => ?_
      rw [e] at hg
      cases hg
      have z1 : wx.heap.size = w.heap.size := by rw [WX.out, WM.out, WA.out]; simp [World.setCells]
      simp only [World.size_alloc]
      omega
  have g1 := G1.out
  rw [WX.out, WM.out, WA.out] at g1
  obtain ⟨r1, r2, r3⟩ := HA.out.freed_ h1 h2 HU.out A1.out g1 hpp
  exact ⟨rfl, _, r1, r2, r3⟩
end
end Go.Proofs.YtgagiggljlikbaaGreat.Ra
