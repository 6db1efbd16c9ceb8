import Derived.Test.YtgagiggljlikbaaGreatLwD
import Derived.Deep.AppendLies
import Derived.LoopN
import Derived.Deep.RegionLaw
/- Layer 4's scripts: a machine more. -/
namespace Go.Proofs.YtgagiggljlikbaaGreat.Lw
open Go.RowKit Go.Proofs.YtgagiggljlikbaaGreat.Mem Go.Proofs.YtgagiggljlikbaaGreat.Ar Go.Proofs.YtgagiggljlikbaaGreat.En Go.Proofs.YtgagiggljlikbaaGreat.Ch Go.Proofs.YtgagiggljlikbaaGreat.Rc
open Go.Proofs.YtgagiggljlikbaaGreat.Ra (owns_block RAt rBlocks)
open Go.Proofs.YtgagiggljlikbaaGreat.Ref (owns_shape)
set_option linter.unusedVariables false
set_option linter.unusedSimpArgs false
set_option maxRecDepth 100000
section
variable {w w' w2 w3 w0 : World} {f f' : Lab} {g : Lay} {X : Nat → CI} {A A' : Ars} {Q Q' : List Nat} {ms : List One} {qv qv' : Value} {bs bs' : List (Option Nat)} {S : List Nat} {Y : CI} {k wd : Nat} {o : One} {m' : Mach} {hold : Int}
theorem keep_grown {a : World} {row : Option Nat} (h : Keep S a w) (hg : w.grownBy w' row) (hr : ∀ k, row = some k → k ∈ S ∨ a.heap.size ≤ k) : Keep S a w' :=
  ⟨hg.os.trans h.os, hg.tape.trans h.tape, hg.output.trans h.output, Nat.le_trans h.size hg.size, fun k hk hn => by
    refine (hg.block k (Nat.lt_of_lt_of_le hk h.size) ?_).trans (h.block k hk hn)
    intro e
    rcases hr k e.symm with h1 | h1
    · exact hn h1
    · omega⟩
theorem PHalf.push (h : PHalf w f g X A ms) (hm : MP w f g ms.length o) : PHalf w f g X A (ms ++ [o]) := by
  refine ⟨h.env, h.lL, h.lX, fun k p hp => ?_⟩
  by_cases hk : k < ms.length
  · rw [List.getElem?_append_left hk] at hp
    exact h.mach k p hp
  · have hl := (List.getElem?_eq_some_iff.1 hp).1
    rw [List.length_append, List.length_singleton] at hl
    obtain rfl : k = ms.length := by omega
    rw [List.getElem?_append_right (Nat.le_refl _), Nat.sub_self] at hp
    cases hp
    exact hm
theorem RHalf.push (h : RHalf w f g X A Q ms qv bs) (hm : MR_ w f g (rBlocks g.b g.sg qv bs) ms.length o) : RHalf w f g X A Q (ms ++ [o]) qv bs := by
  refine ⟨h.env, h.lL, h.lX, fun k p hp => ?_⟩
  by_cases hk : k < ms.length
  · rw [List.getElem?_append_left hk] at hp
    exact h.mach k p hp
  · have hl := (List.getElem?_eq_some_iff.1 hp).1
    rw [List.length_append, List.length_singleton] at hl
    obtain rfl : k = ms.length := by omega
    rw [List.getElem?_append_right (Nat.le_refl _), Nat.sub_self] at hp
    cases hp
    exact hm
theorem Good.push (h : Good g X A ms) (hi : o.i < 2) (ho : Lw.okM (X o.i) o.m) : Good g X A (ms ++ [o]) := by
  refine ⟨fun p hp => ?_, h.len, h.okA, h.okH, fun p hp => ?_, h.slots⟩
  · rcases List.mem_append.1 hp with hp | hp
    · exact h.idx p hp
    · rw [List.mem_singleton.1 hp]; exact hi
  · rcases List.mem_append.1 hp with hp | hp
    · exact h.okM p hp
    · rw [List.mem_singleton.1 hp]; exact ho
/-- the machine o is there on both sides: it is appended -/
theorem All.push (hp : PHalf w f g X A ms) (hr : RHalf w f g X A Q ms qv bs) (wp : WPart w0 w f g wd hold ms) (good : Good g X A ms)
    (hf : ∀ x t, f x = some t → f' x = some t) (hd : ∀ x t, f' x = some t → f x = none → w0.heap.size ≤ x ∧ x < w.heap.size)
    (hP : MP w f' g ms.length o) (hR : MR_ w f' g (rBlocks g.b g.sg qv bs) ms.length o) (hi : o.i < 2) (ho : okM (X o.i) o.m)
    {ap ap' : Option Addr} {cap cp : Nat} {ob : Obj} (h1 : w.heap[wd]? = some (.cells #[pt g.L.b, pt (g.xb 0), pt (g.xb 1), pt g.b, pt (g.rx 0), pt (g.rx 1), .slice ap ms.length cap, .int .i64 hold] 147 (0, 0)))
    (h3 : ∀ x, (Value.slice ap ms.length cap).ownBlock = some x → f x = some 1)
    (a1 : w3.ownsRow w0.heap.size 159 7 (.slice ap' (ms.length + 1) cp) (ms.length + 1) (rowsO ms ++ o.row)) (g1 : (w.alloc ob).grownBy w3 (Value.slice ap ms.length cap).ownBlock)
    (p1 : (Value.slice ap' (ms.length + 1) cp).ownBlock = (Value.slice ap ms.length cap).ownBlock ∨ (Value.slice ap' (ms.length + 1) cp).ownBlock = some (w.alloc ob).heap.size) :
    ∃ f'', All w0 (w3.setCell ⟨wd, 6, none⟩ (.slice ap' (ms.length + 1) cp)) f'' g wd hold X A Q (ms ++ [o]) := by
  obtain ⟨S, hS⟩ : ∃ S, S = wd :: (Value.slice ap ms.length cap).ownBlock.toList := ⟨_, rfl⟩
  have hSl : ∀ x ∈ S, f x = some 0 ∨ f x = some 1 := by
    intro x hx
    rw [hS] at hx
    rcases List.mem_cons.1 hx with rfl | hx
    · exact .inl wp.lw
    · exact .inr (h3 x (Option.mem_toList.1 hx))
  have k3 : Keep S w w3 := keep_grown ((Keep.refl S w).alloc ob) g1 fun k hk => .inl (by rw [hS]; exact List.mem_cons_of_mem _ (Option.mem_toList.2 hk))
  have k4 : Keep S w (w3.setCell ⟨wd, 6, none⟩ (.slice ap' (ms.length + 1) cp)) := k3.set (.inl (by rw [hS]; exact List.mem_cons_self)) _ _
  have hwd := (wp.dom wd 0 wp.lw).2
  have hn : some wd ≠ (Value.slice ap ms.length cap).ownBlock := fun e => by
    have := h3 wd e.symm
    rw [wp.lw] at this
    cases this
  have hn' : ∀ x, (Value.slice ap' (ms.length + 1) cp).ownBlock = some x → x ≠ wd := by
    intro x hx e
    subst e
    rcases p1 with p | p
    · exact hn (p ▸ hx).symm
    · rw [p, World.size_alloc] at hx
      have := Option.some.inj hx
      omega
  let f'' : Lab := fun x => match f' x with
    | some t => some t
    | none => if (Value.slice ap' (ms.length + 1) cp).ownBlock = some x then some 1 else none
  have hf1 : ∀ x t, f' x = some t → f'' x = some t := fun x t e => by simp only [f'', e]
  have hf2 : ∀ x t, f x = some t → f'' x = some t := fun x t e => hf1 x t (hf x t e)
  have hSP : ∀ x ∈ S, ∀ t, f'' x = some t → t < 2 := by
    intro x hx t ht
    rcases hSl x hx with e | e
    · rw [hf2 x _ e] at ht; cases ht; omega
    · rw [hf2 x _ e] at ht; cases ht; omega
  have hown : ∀ x, (Value.slice ap' (ms.length + 1) cp).ownBlock = some x → f'' x = some 1 := by
    intro x hx
    rcases p1 with p | p
    · exact hf2 x 1 (h3 x (p ▸ hx))
    · have hxs : x = w.heap.size + 1 := by
        rw [p, World.size_alloc] at hx
        exact (Option.some.inj hx).symm
      have e : f' x = none := by
        cases e : f' x with
        | none => rfl
        | some t =>
          cases e2 : f x with
          | some u => have := (wp.dom x u e2).2; omega
          | none => have := (hd x t e e2).2; omega
      simp only [f'', e, hx, if_true]
  have hm : MP w f'' g ms.length o := hP.relab hf1
  have hmR : MR_ w f'' g (rBlocks g.b g.sg qv bs) ms.length o := hR.relab hf1
  have nP : ∀ x ∈ S, ∀ t, f'' x = some t → ¬ Pt t := fun x hx t ht hP => by have := hSP x hx t ht; have := hP.1; omega
  have nR : ∀ x ∈ S, ∀ t, f'' x = some t → ¬ Rt t := fun x hx t ht hP => by have := hSP x hx t ht; have := hP.1; omega
  have hrow : rowsO (ms ++ [o]) = rowsO ms ++ o.row := by simp [rowsO]
  have hlen : (ms ++ [o]).length = ms.length + 1 := by simp
  refine ⟨f'', ((hp.relab hf2).push hm).keep k4 nP, ⟨qv, bs, ((hr.relab hf2).push hmR).keep k4 nR⟩, ⟨⟨ap', cp, ?_, ?_, ?_⟩, hf2 _ _ wp.lw, fun x t hx => ?_, keep_base wp.keep k4 fun x hx => ?_⟩, good.push hi ho⟩
  · have e3 : w3.heap[wd]? = _ := (g1.block wd (by simp; omega) hn).trans (alloc_some _ h1)
    rw [set_same e3, hlen]
    rfl
  · rw [hlen, hrow]
    exact owns_block a1 fun x hx => set_other (hn' x hx) _ _
  · rw [hlen]
    exact hown
  · have hz : w.heap.size ≤ (w3.setCell ⟨wd, 6, none⟩ (.slice ap' (ms.length + 1) cp)).heap.size := k4.size
    cases e : f' x with
    | some u =>
      cases e2 : f x with
      | some v => exact ⟨(wp.dom x v e2).1, Nat.lt_of_lt_of_le (wp.dom x v e2).2 hz⟩
      | none => exact ⟨(hd x u e e2).1, Nat.lt_of_lt_of_le (hd x u e e2).2 hz⟩
    | none =>
      simp only [f'', e] at hx
      split at hx
      · rename_i h5
        have := a1.lt x h5
        exact ⟨this.1, by rw [size_set]; exact this.2⟩
      · cases hx
  · rcases hSl x hx with e | e
    · exact (wp.dom x _ e).1
    · exact (wp.dom x _ e).1
end
end Go.Proofs.YtgagiggljlikbaaGreat.Lw

/- Layer 4's scripts: Alloc and Free of both arenas. -/
namespace Go.Proofs.YtgagiggljlikbaaGreat.Lw
open Go.RowKit Go.Proofs.YtgagiggljlikbaaGreat.Mem Go.Proofs.YtgagiggljlikbaaGreat.Ar Go.Proofs.YtgagiggljlikbaaGreat.En Go.Proofs.YtgagiggljlikbaaGreat.Ch Go.Proofs.YtgagiggljlikbaaGreat.Rc
open Go.Proofs.YtgagiggljlikbaaGreat.Ra (owns_block RAt rBlocks)
set_option linter.unusedVariables false
set_option linter.unusedSimpArgs false
set_option maxRecDepth 100000
/-- Alloc of an empty entry, Free: the arena, its free slots, the answer -/
def allocS (A : Ars) : List Nat → Ars × List Nat × Int
  | [] => (counted A, [], 0)
  | s :: Q => (allocd A Ent.empty [], Q, s)
def freeS (A : Ars) (Q : List Nat) (s : Int) : Ars × List Nat × Int := if inUseB A s then (freed A s.toNat, Q ++ [s.toNat], 0) else (missed A, Q, 22)
theorem okA_fill {l : List Int} (h : ∀ v ∈ l, okL v) (b : Nat) : ∀ k, ∀ v ∈ fill l b [] k, okL v := by
  intro k v hv
  obtain ⟨j, hj, rfl⟩ := List.getElem_of_mem hv
  have hz : ∀ (base n : Nat), ∀ v ∈ fill l base [] n, okL v := by
    intro base n
    induction n with
    | zero => exact h
    | succ n ih =>
      intro v hv
      unfold fill at hv
      rcases List.mem_or_eq_of_mem_set hv with hv | rfl
      · exact ih v hv
      · simp [nth, okL]
  exact hz b k _ hv
section
variable {w w' w2 w3 w0 : World} {f f' : Lab} {g : Lay} {X : Nat → CI} {A A' : Ars} {Q Q' : List Nat} {ms : List One} {qv qv' : Value} {bs bs' : List (Option Nat)} {S : List Nat} {Y : CI} {k wd : Nat} {o : One} {m' : Mach} {hold : Int}
theorem PHalf.arena (h : PHalf w f g X A ms) (ha : En.At 0 w' g.L A') (hw : A'.width = A.width) (kk : Keep g.L.blocks w w') : PHalf w' f g X A' ms := by
  refine ⟨fun i hi => ?_, h.lL, h.lX, fun k o ho => (h.mach k o ho).keep kk fun x hx e => ?_⟩
  · have h0 := h.env i hi
    refine ⟨ha, h0.ix.keep kk fun x hx => ⟨fun e => ?_, fun e => ?_⟩, h0.offx, h0.offh, by rw [hw]; exact h0.cell⟩
    · subst e; exact h0.offx hx
    · subst e; exact h0.offh hx
  · have := h.lL x hx
    rw [e] at this
    have := Option.some.inj this
    omega
theorem MR_.blocks {Bl Bl' : List Nat} (h : MR_ w f g Bl k o) (hn : o.rb ∉ Bl') : MR_ w f g Bl' k o := by
  unfold MR_ at h ⊢
  cases o with
  | mk i m mb vb sb rb =>
    cases m with
    | ins m => exact ⟨⟨h.1.hm, hn, h.1.off.2⟩, h.2⟩
    | wlk m => exact ⟨⟨h.1.hm, hn, h.1.off.2⟩, h.2⟩
    | rem m => exact ⟨⟨h.1.hm, hn, h.1.off.2⟩, h.2⟩
theorem MR_.lab {Bl : List Nat} (h : MR_ w f g Bl k o) : f o.rb = some (9 + 2 * k) := by
  unfold MR_ at h
  cases o with
  | mk i m mb vb sb rb => cases m <;> exact h.2
/-- the labels once the document's arena has new blocks -/
def labA (f : Lab) (Bl : List Nat) : Lab := fun x => match f x with
  | some t => some t
  | none => if x ∈ Bl then some 3 else none
theorem labA_old {Bl : List Nat} {x t : Nat} (h : f x = some t) : labA f Bl x = some t := by simp only [labA, h]
theorem RHalf.arena (h : RHalf w f g X A Q ms qv bs) (dom : ∀ x t, f x = some t → x < w.heap.size) (ha : RAt w' g.b g.sg g.sc qv' bs' A' Q') (hw : A'.width = A.width) (kk : Keep (rBlocks g.b g.sg qv bs) w w')
    (hnew : ∀ x ∈ rBlocks g.b g.sg qv' bs', x ∈ rBlocks g.b g.sg qv bs ∨ w.heap.size ≤ x) : RHalf w' (labA f (rBlocks g.b g.sg qv' bs')) g X A' Q' ms qv' bs' := by
  have hn : ∀ x t, f x = some t → t ≠ 3 → x ∉ rBlocks g.b g.sg qv' bs' := by
    intro x t hx ht hm
    rcases hnew x hm with hm | hm
    · have := h.lL x hm
      rw [hx] at this
      exact ht (Option.some.inj this)
    · have := dom x t hx
      omega
  have hn2 : ∀ x t, f x = some t → t ≠ 3 → x ∉ rBlocks g.b g.sg qv bs := fun x t hx ht hm => by
    have := h.lL x hm
    rw [hx] at this
    exact ht (Option.some.inj this)
  refine ⟨fun i hi => ?_, fun x hx => ?_, fun i hi => ⟨labA_old (h.lX i hi).1, labA_old (h.lX i hi).2⟩, fun k o ho => ?_⟩
  · have h0 := h.env i hi
    refine ⟨ha, h0.ix.keep kk fun x hx => ⟨fun e => ?_, fun e => ?_⟩, hn _ _ (h.lX i hi).1 (by omega), hn _ _ (h.lX i hi).2 (by omega), by rw [hw]; exact h0.cell⟩
    · subst e; exact h0.offx hx
    · subst e; exact h0.offh hx
  · cases e : f x with
    | some t =>
      rcases hnew x hx with hm | hm
      · rw [labA_old e]
        have := h.lL x hm
        rw [e] at this
        exact this
      · have := dom x t e
        omega
    | none => simp only [labA, e, if_pos hx]
  · have hm := h.mach k o ho
    have hl := hm.lab
    refine MR_.relab (f := f) ((hm.keep kk fun x hx e => ?_).blocks (hn _ _ hl (by omega))) fun x t e => labA_old e
    exact hn2 x _ e (by omega) hx
/-- both arenas have gone on -/
theorem All.arena (h : All w0 w f g wd hold X A Q ms) (hr : RHalf w f g X A Q ms qv bs) (hw : A'.width = A.width) (hA : okA A') (hs : A'.slots ≤ 4096)
    (ha : En.At 0 w2 g.L A') (k1 : Keep g.L.blocks w w2) (hb : RAt w' g.b g.sg g.sc qv' bs' A' Q') (k2 : Keep (rBlocks g.b g.sg qv bs) w2 w') (hnew : ∀ x ∈ rBlocks g.b g.sg qv' bs', x ∈ rBlocks g.b g.sg qv bs ∨ w2.heap.size ≤ x) :
    All w0 w' (labA f (rBlocks g.b g.sg qv' bs')) g wd hold X A' Q' ms := by
  have hr2 : RHalf w2 f g X A Q ms qv bs := hr.keep k1 fun x hx t ht hR => by
    have := h.p.lL x hx
    rw [ht] at this
    have := Option.some.inj this
    have := hR.2
    omega
  have hp2 : PHalf w2 f g X A' ms := h.p.arena ha hw k1
  have hw2 : WPart w0 w2 f g wd hold ms := h.wp.keep' k1 fun x hx => ⟨2, h.p.lL x hx, by omega⟩
  have hext : ∀ x t, f x = some t → labA f (rBlocks g.b g.sg qv' bs') x = some t := fun x t e => labA_old e
  have hr3 := hr2.arena (fun x t e => (hw2.dom x t e).2) hb hw k2 hnew
  have hp3 : PHalf w' f g X A' ms := hp2.keep k2 fun x hx t ht hP => by
    have := hr.lL x hx
    rw [ht] at this
    have := Option.some.inj this
    have := hP.2
    omega
  have hw3 : WPart w0 w' f g wd hold ms := hw2.keep' k2 fun x hx => ⟨3, hr.lL x hx, by omega⟩
  refine ⟨hp3.relab hext, ⟨qv', bs', hr3⟩, ⟨?_, hext _ _ hw3.lw, fun x t e => ?_, hw3.keep⟩, ⟨h.good.idx, h.good.len, hA, h.good.okH, h.good.okM, hs⟩⟩
  · obtain ⟨ap, cap, a, b, c⟩ := hw3.st
    exact ⟨ap, cap, a, b, fun x hx => hext _ _ (c x hx)⟩
  · cases e2 : f x with
    | some u => exact hw3.dom x u e2
    | none =>
      simp only [labA, e2] at e
      split at e
      · rename_i hx
        refine ⟨?_, hb.lt x hx⟩
        rcases hnew x hx with hm | hm
        · have := hr.lL x hm
          rw [e2] at this
          cases this
        · exact Nat.le_trans hw2.keep.size hm
      · cases e
/-- Alloc on both sides -/
theorem allocL (h : All w0 w f g wd hold X A Q ms) : ∃ e1 e2 : Int,
    Calls Tryz.prog 29 #[.pointer (some ⟨g.L.b, 0, none⟩), .agg #[.string ⟨#[]⟩, .string ⟨#[]⟩, .int .i64 0], .slice none 0 0] w fun r w2 => r = .returned (.tuple #[.int .i64 (allocS A Q).2.2, .int .i64 e1]) ∧
      (∀ x, w2.cell? ⟨wd, x, none⟩ = w.cell? ⟨wd, x, none⟩) ∧
      Calls Tryz.prog 79 #[.pointer (some ⟨g.b, 0, none⟩), .agg #[.string ⟨#[]⟩, .string ⟨#[]⟩, .int .i64 0], .slice none 0 0] w2 fun r w' => r = .returned (.tuple #[.int .i64 (allocS A Q).2.2, .int .i64 e2]) ∧ ∃ f', All w0 w' f' g wd hold X (allocS A Q).1 (allocS A Q).2.1 ms := by
  obtain ⟨qv, bs, hr⟩ := h.r
  have hP := (h.p.env 0 (by omega)).ar
  have hR := (hr.env 0 (by omega)).ar
  have hRk : ∀ w2, Keep g.L.blocks w w2 → RAt w2 g.b g.sg g.sc qv bs A Q := fun w2 kk => hR.keep kk fun x hx hm => by
    have h2 := h.p.lL x hx
    have h3 := hr.lL x hm
    rw [h2] at h3
    cases h3
  have hwd : ∀ w2, Keep g.L.blocks w w2 → ∀ x, w2.cell? ⟨wd, x, none⟩ = w.cell? ⟨wd, x, none⟩ := fun w2 kk x => World.cell?_of_block (kk.block wd (h.wp.dom wd 0 h.wp.lw).2 fun hm => by
    have := h.p.lL wd hm
    rw [h.wp.lw] at this
    cases this)
  cases Q with
  | nil =>
    have hfree : A.free = 0 := by have := hR.inv.len; simpa using this.symm
    refine ⟨21, 21, (En.alloc_full hP Ent.empty none 0 [] (by simp) hfree).mono ?_⟩
    rintro r w2 ⟨rfl, ha, k1⟩
    refine ⟨rfl, hwd w2 k1, (Go.Proofs.YtgagiggljlikbaaGreat.Ra.alloc_full (hRk w2 k1) Ent.empty 0 none).mono ?_⟩
    rintro r w' ⟨rfl, hb, k2⟩
    exact ⟨rfl, _, h.arena hr (A' := counted A) rfl h.good.okA h.good.slots ha k1 hb k2 fun x hx => .inl hx⟩
  | cons s Q =>
    have hfree : 1 ≤ A.free := by have := hR.inv.len; simp at this; omega
    have hns : nextSlot A = s := hR.inv.next hR.fits
    refine ⟨0, 0, (En.alloc_ok hP Ent.empty none 0 [] ⟨fun i hi => by simp at hi⟩ (by simp) hfree).mono ?_⟩
    rintro r w2 ⟨rfl, ha, k1⟩
    refine ⟨by rw [hns]; rfl, hwd w2 k1, (Go.Proofs.YtgagiggljlikbaaGreat.Ra.alloc_ok (hRk w2 k1) Ent.empty 0 none).mono ?_⟩
    rintro r w' ⟨rfl, qv', bs', hb, k2, hnew⟩
    exact ⟨rfl, _, h.arena hr (A' := allocd A Ent.empty []) rfl (okA_fill h.good.okA _ _) h.good.slots ha k1 hb k2 hnew⟩
theorem freeL (h : All w0 w f g wd hold X A Q ms) (s : Int) :
    Calls Tryz.prog 80 #[.pointer (some ⟨g.L.b, 0, none⟩), .int .i64 s] w fun r w2 => r = .returned (.int .i64 (freeS A Q s).2.2) ∧
      (∀ y ob, f y = none → w.heap[y]? = some ob → w2.heap[y]? = some ob) ∧ (∀ x, w2.cell? ⟨wd, x, none⟩ = w.cell? ⟨wd, x, none⟩) ∧
      ∀ wx, Keep [] w2 wx → Calls Tryz.prog 81 #[.pointer (some ⟨g.b, 0, none⟩), .int .i64 s] wx fun r w' => r = .returned (.int .i64 (freeS A Q s).2.2) ∧ (∀ y ob, f y = none → wx.heap[y]? = some ob → w'.heap[y]? = some ob) ∧ ∃ f', All w0 w' f' g wd hold X (freeS A Q s).1 (freeS A Q s).2.1 ms := by
  obtain ⟨qv, bs, hr⟩ := h.r
  have hP := (h.p.env 0 (by omega)).ar
  have hR := (hr.env 0 (by omega)).ar
  have hRk : ∀ w2, Keep g.L.blocks w w2 → RAt w2 g.b g.sg g.sc qv bs A Q := fun w2 kk => hR.keep kk fun x hx hm => by
    have h2 := h.p.lL x hx
    have h3 := hr.lL x hm
    rw [h2] at h3
    cases h3
  have hwd : ∀ w2, Keep g.L.blocks w w2 → ∀ x, w2.cell? ⟨wd, x, none⟩ = w.cell? ⟨wd, x, none⟩ := fun w2 kk x => World.cell?_of_block (kk.block wd (h.wp.dom wd 0 h.wp.lw).2 fun hm => by
    have := h.p.lL wd hm
    rw [h.wp.lw] at this
    cases this)
  have hout : ∀ w2, Keep g.L.blocks w w2 → ∀ y ob, f y = none → w.heap[y]? = some ob → w2.heap[y]? = some ob := fun w2 kk y ob hy hb => kk.old hb fun hm => by
    have := h.p.lL y hm
    rw [hy] at this
    cases this
  have hout2 : ∀ w2 w3, Keep (rBlocks g.b g.sg qv bs) w2 w3 → ∀ y ob, f y = none → w2.heap[y]? = some ob → w3.heap[y]? = some ob := fun w2 w3 kk y ob hy hb => kk.old hb fun hm => by
    have := hr.lL y hm
    rw [hy] at this
    cases this
  cases hin : inUseB A s with
  | false =>
    have e : freeS A Q s = (missed A, Q, 22) := by simp [freeS, hin]
    rw [e]
    refine (En.free_no hP s hin).mono ?_
    rintro r w2 ⟨rfl, ha, k1⟩
    refine ⟨rfl, hout w2 k1, hwd w2 k1, fun wx kx => ?_⟩
    have ha := ha.keep kx (by simp)
    have k1 := k1.trans (kx.mono (by simp))
    refine (Go.Proofs.YtgagiggljlikbaaGreat.Ra.free_no (hRk wx k1) s hin).mono ?_
    rintro r w' ⟨rfl, hb, k2⟩
    exact ⟨rfl, hout2 _ _ k2, _, h.arena hr (A' := missed A) rfl h.good.okA h.good.slots ha k1 hb k2 fun x hx => .inl hx⟩
  | true =>
    have e : freeS A Q s = (freed A s.toNat, Q ++ [s.toNat], 0) := by simp [freeS, hin]
    rw [e]
    obtain ⟨n, rfl, h1, h2, hu⟩ := Go.Proofs.YtgagiggljlikbaaGreat.Ra.in_slot hin
    refine (En.free_yes hP n hin (hR.inv.room h1 h2 hu)).mono ?_
    rintro r w2 ⟨rfl, ha, k1⟩
    refine ⟨rfl, hout w2 k1, hwd w2 k1, fun wx kx => ?_⟩
    have ha := ha.keep kx (by simp)
    have k1 := k1.trans (kx.mono (by simp))
    refine (Go.Proofs.YtgagiggljlikbaaGreat.Ra.free_yes (hRk wx k1) h1 h2 hu).mono ?_
    rintro r w' ⟨rfl, qv', hb, k2, hnew⟩
    exact ⟨rfl, hout2 _ _ k2, _, h.arena hr (A' := freed A n) rfl h.good.okA h.good.slots ha k1 hb k2 hnew⟩
end
end Go.Proofs.YtgagiggljlikbaaGreat.Lw

/- Rows of rows: a list of lists, each in memory of its own; an append by which the old slice is still there. -/
namespace Go.Proofs.YtgagiggljlikbaaGreat.Mem
open Go Go.RowKit
set_option linter.unusedVariables false
section
variable {P : Program}
theorem run_append_stay (w : World) (t ty : TypeId) (base : Nat) (e : TypeId) (i : TypeInfo) (z : Value) (size bytes : Nat) (ht : P.underlying t = some (.slice e)) (hi : P.info? e = some i) (hz : i.zero = some z)
    (hsize : i.size = size) (hby : i.bytes = bytes) (hzs : z.cells.size = size) (hsz : 0 < size)
    (v : Value) (n : Nat) (xs : List Value) (hown : w.ownsRow base e size v n xs)
    (ad : Addr) (m c : Nat) (news : List Value) (hl : news.length = m * size) (hnews : ∀ j u, news[j]? = some u → w.cell? (ad.add j) = some u) (h1 : ∀ u ∈ news, u.oneCell' = true)
    (hm : 0 < m) (h63 : n + m ≤ maxLen) (hbytes : (n + m) * bytes ≤ 140737488355328) (hbase : base ≤ w.heap.size) (H : Nat) (hH : w.heap.size = H) :
    ∃ g cap w', (Builtin.append_ #[t, t] ty #[v, .slice (some ad) m c]).run P w = .ok (.slice (some ⟨g, 0, none⟩) (n + m) cap) w' ∧
      w'.ownsRow base e size (.slice (some ⟨g, 0, none⟩) (n + m) cap) (n + m) (xs ++ news) ∧ w.grownBy w' v.ownBlock ∧ (v.ownBlock = some g ∨ g = H) ∧ g < w'.heap.size ∧ w'.ownsRow base e size v n xs := by
  obtain ⟨g, cap, w', hr, h2, h3, h4, h5⟩ := run_append_lies (P := P) w t ty base e i z size bytes ht hi hz hsize hby hzs hsz v n xs hown ad m c news hl hnews h1 hm h63 hbytes hbase H hH
  refine ⟨g, cap, w', hr, h2, h3, h4, h5, ?_⟩
  rcases hown.2 with ⟨rfl, h0⟩ | ⟨b, k, cur, rfl, hb, hg, hnc, hcm, hcs, htake⟩
  · exact ⟨hown.1, .inl ⟨rfl, h0⟩⟩
  · by_cases hroom : n + m ≤ k
    · have hfit : n * i.size + news.length ≤ cur.size := by
        rw [hl, hcs, hsize, ← Nat.add_mul]
        exact Nat.mul_le_mul_right _ hroom
      have hr' := run_append_room (P := P) w t ty e i ht hi b n k cur hg ad m c news (by rw [hsize]; exact hl) hnews h1 hroom hfit
      rw [hr] at hr'
      have hw : w' = w.setRow b (cur.toList.take (n * i.size) ++ news ++ cur.toList.drop (n * i.size + news.length)).toArray := by
        simp only [Result.ok.injEq] at hr'
        exact hr'.2
      refine ⟨hown.1, .inr ⟨b, k, _, rfl, hb, by rw [hw]; exact setRow_heap w b cur _ e _ hg, hnc, hcm, ?_, ?_⟩⟩
      · rw [hsize] at hfit ⊢
        simp only [List.size_toArray, List.length_append, List.length_take, List.length_drop, Array.length_toList]
        omega
      · rw [hsize] at hfit ⊢
        have hle : n * size ≤ cur.size := by omega
        simp only [List.append_assoc]
        rw [List.take_append_of_le_length (by simp; omega), List.take_take, Nat.min_self]
        exact htake
    · have hlo := hown.1
      have holds : ∀ j u, xs[j]? = some u → w.cell? ((⟨b, 0, none⟩ : Addr).add j) = some u := hown.cells (g := b) rfl
      have h63' : ((n + m : Nat) : Int) ≤ 9223372036854775807 := by unfold maxLen at h63; omega
      have hr' := run_append_grow (P := P) w t ty e i z ht hi hz ⟨b, 0, none⟩ n k xs (by rw [hsize]; exact hlo) holds ad m c news (by rw [hsize]; exact hl) hnews (by omega) h63' (growslice_fits (by omega) (by rw [hby]; exact hbytes))
      rw [hr] at hr'
      simp only [Result.ok.injEq] at hr'
      rw [hr'.2]
      refine ⟨hown.1, .inr ⟨b, k, cur, rfl, hb, ?_, hnc, hcm, hcs, htake⟩⟩
      have hlt : b < w.heap.size := lt_of hg
      exact (alloc_old (w := w.drew) _ hlt).trans hg

theorem wp_append_stay {w : World} {o : Oper} {a : Act} {K : Act → World → Prop} {Q : Exit → Act → World → Prop} (s x : Operand) (t : TypeId)
    (ho : o.op = .call { callee := .builtin .append, args := #[s, x], argTypes := #[t, t] })
    (base : Nat) (e : TypeId) (i : TypeInfo) (z : Value) (size bytes : Nat) (ht : P.underlying t = some (.slice e)) (hi : P.info? e = some i) (hz : i.zero = some z)
    (hsize : i.size = size) (hby : i.bytes = bytes) (hzs : z.cells.size = size) (hsz : 0 < size)
    (v : Value) (n : Nat) (xs : List Value) (hs : a.eval s = v) (hown : w.ownsRow base e size v n xs)
    (ad : Addr) (m c : Nat) (news : List Value) (hx : a.eval x = .slice (some ad) m c) (hl : news.length = m * size) (hnews : ∀ j u, news[j]? = some u → w.cell? (ad.add j) = some u) (h1 : ∀ u ∈ news, u.oneCell' = true)
    (hm : 0 < m) (h63 : n + m ≤ maxLen) (hbytes : (n + m) * bytes ≤ 140737488355328) (hbase : base ≤ w.heap.size) (H : Nat) (hH : w.heap.size = H)
    (h : ∀ g cap w', w'.ownsRow base e size (.slice (some ⟨g, 0, none⟩) (n + m) cap) (n + m) (xs ++ news) → w.grownBy w' v.ownBlock → (v.ownBlock = some g ∨ g = H) → g < w'.heap.size → w'.ownsRow base e size v n xs → K (a.put o.dst (.slice (some ⟨g, 0, none⟩) (n + m) cap)) w') : o.wp P a w K Q := by
  obtain ⟨g, cap, w', hr, h2, h3, h4, h5, h6⟩ := run_append_stay (P := P) w t o.type base e i z size bytes ht hi hz hsize hby hzs hsz v n xs hown ad m c news hl hnews h1 hm h63 hbytes hbase H hH
  unfold Oper.wp execOp
  simp only [ho, resolve, invoke, builtin, Sem.run_bind, Sem.run_pure, Result.andThen_ok, List.map_toArray, List.map_cons, List.map_nil, hs, hx, hr]
  exact h g cap w' h2 h3 h4 h5 h6
theorem wpList_append_stay {w : World} {ops : Array Oper} {rest : List Oper} {o : Oper} {a : Act} {Q : Exit → Act → World → Prop} (hgd : o.guard = none) (s x : Operand) (t : TypeId)
    (ho : o.op = .call { callee := .builtin .append, args := #[s, x], argTypes := #[t, t] })
    (base : Nat) (e : TypeId) (i : TypeInfo) (z : Value) (size bytes : Nat) (ht : P.underlying t = some (.slice e)) (hi : P.info? e = some i) (hz : i.zero = some z)
    (hsize : i.size = size) (hby : i.bytes = bytes) (hzs : z.cells.size = size) (hsz : 0 < size)
    (v : Value) (n : Nat) (xs : List Value) (hs : a.eval s = v) (hown : w.ownsRow base e size v n xs)
    (ad : Addr) (m c : Nat) (news : List Value) (hx : a.eval x = .slice (some ad) m c) (hl : news.length = m * size) (hnews : ∀ j u, news[j]? = some u → w.cell? (ad.add j) = some u) (h1 : ∀ u ∈ news, u.oneCell' = true)
    (hm : 0 < m) (h63 : n + m ≤ maxLen) (hbytes : (n + m) * bytes ≤ 140737488355328) (hbase : base ≤ w.heap.size) (H : Nat) (hH : w.heap.size = H)
    (h : ∀ g cap w', w'.ownsRow base e size (.slice (some ⟨g, 0, none⟩) (n + m) cap) (n + m) (xs ++ news) → w.grownBy w' v.ownBlock → (v.ownBlock = some g ∨ g = H) → g < w'.heap.size → w'.ownsRow base e size v n xs → wpList P ops Q rest (a.put o.dst (.slice (some ⟨g, 0, none⟩) (n + m) cap)) w') : wpList P ops Q (o :: rest) a w :=
  wpList_plain hgd fun _ hK => wp_append_stay s x t ho base e i z size bytes ht hi hz hsize hby hzs hsz v n xs hs hown ad m c news hx hl hnews h1 hm h63 hbytes hbase H hH fun g cap w' h2 h3 h4 h5 h6 => hK _ _ (h g cap w' h2 h3 h4 h5 h6)
end
end Go.Proofs.YtgagiggljlikbaaGreat.Mem
namespace Go.Proofs.YtgagiggljlikbaaGreat.Lw
open Go.RowKit Go.Proofs.YtgagiggljlikbaaGreat.Mem Go.Proofs.YtgagiggljlikbaaGreat.Ar Go.Proofs.YtgagiggljlikbaaGreat.En Go.Proofs.YtgagiggljlikbaaGreat.Ch Go.Proofs.YtgagiggljlikbaaGreat.Rc
open Go.Proofs.YtgagiggljlikbaaGreat.Ra (owns_block)
set_option linter.unusedVariables false
set_option linter.unusedSimpArgs false
structure Rw where
  p : Option Addr
  cap : Nat
  l : List Int
def Rw.val (r : Rw) : Value := .slice r.p r.l.length r.cap
/-- a list of lists: its own block has the label t, that of the i-th list the label 2 + i -/
structure KAt (B : Nat) (w : World) (c : Lab) (v : Value) (t : Nat) (rs : List Rw) : Prop where
  sp : w.ownsRow B 31 1 v rs.length (rs.map Rw.val)
  spl : ∀ g, v.ownBlock = some g → c g = some t
  row : ∀ i r, rs[i]? = some r → w.ownsRow B 3 1 r.val r.l.length (r.l.map (.int .i64)) ∧ ∀ g, r.val.ownBlock = some g → c g = some (2 + i)
def Dom (c : Lab) (w : World) : Prop := ∀ x t, c x = some t → x < w.heap.size
section
variable {w w' w2 w3 : World} {B t k n : Nat} {c c' : Lab} {v v' v2 v2' : Value} {rs gs : List Rw} {r s : Rw} {S : List Nat} {x : Int}
theorem KAt.relab (h : KAt B w c v t rs) (hc : ∀ x u, c x = some u → c' x = some u) : KAt B w c' v t rs :=
  ⟨h.sp, fun g hg => hc _ _ (h.spl g hg), fun i r hr => ⟨(h.row i r hr).1, fun g hg => hc _ _ ((h.row i r hr).2 g hg)⟩⟩
theorem KAt.keep (h : KAt B w c v t rs) (kk : Keep S w w') (hS : ∀ x ∈ S, ∀ u, c x = some u → u ≠ t ∧ ∀ i, i < rs.length → u ≠ 2 + i) : KAt B w' c v t rs := by
  refine ⟨owns_block h.sp fun g hg => kk.block g (h.sp.lt g hg).2 fun hm => (hS g hm _ (h.spl g hg)).1 rfl, h.spl, fun i r hr => ⟨owns_block (h.row i r hr).1 fun g hg => kk.block g ((h.row i r hr).1.lt g hg).2 fun hm => ?_, (h.row i r hr).2⟩⟩
  exact (hS g hm _ ((h.row i r hr).2 g hg)).2 i (List.getElem?_eq_some_iff.1 hr).1 rfl
theorem KAt.keep0 (h : KAt B w c v t rs) (kk : Keep [] w w') : KAt B w' c v t rs := h.keep kk (by simp)
/-- a list more -/
theorem KAt.push (h : KAt B w c v t rs) (ht : t < 2) (dom : Dom c w) (hr : w.ownsRow B 3 1 r.val r.l.length (r.l.map (.int .i64))) (fr : ∀ g, r.val.ownBlock = some g → c g = none) {ob : Obj}
    (a1 : w3.ownsRow B 31 1 v' (rs.length + 1) (rs.map Rw.val ++ [r.val])) (g1 : (w.alloc ob).grownBy w3 v.ownBlock) (p1 : v'.ownBlock = v.ownBlock ∨ v'.ownBlock = some (w.alloc ob).heap.size) :
    ∃ c', KAt B w3 c' v' t (rs ++ [r]) ∧ Dom c' w3 ∧ ∀ x u, c x = some u → c' x = some u := by
  let c' : Lab := fun x => match c x with
    | some u => some u
    | none => if r.val.ownBlock = some x then some (2 + rs.length) else if v'.ownBlock = some x then some t else none
  have hc : ∀ x u, c x = some u → c' x = some u := fun x u e => by simp only [c', e]
  have hn : ∀ (i : Nat) (q : Rw), rs[i]? = some q → ∀ g, q.val.ownBlock = some g → v.ownBlock ≠ some g := fun i q hq g hg e => by
    have e1 := h.spl g e
    have e2 := (h.row i q hq).2 g hg
    rw [e1] at e2
    have := Option.some.inj e2
    omega
  have hz : w.heap.size ≤ w3.heap.size := Nat.le_trans (alloc_le w ob) g1.size
  refine ⟨c', ⟨?_, fun g hg => ?_, fun i q hq => ?_⟩, fun x u hx => ?_, hc⟩
  · simpa using a1
  · rcases p1 with p | p
    · exact hc _ _ (h.spl g (p ▸ hg))
    · have hgs : g = w.heap.size + 1 := by
        rw [p, World.size_alloc] at hg
        exact (Option.some.inj hg).symm
      have e1 : c g = none := by
        cases e : c g with
        | none => rfl
        | some u => have := dom g u e; omega
      have e2 : r.val.ownBlock ≠ some g := fun e => by have := (hr.lt g e).2; omega
      simp only [c', e1, if_neg e2, if_pos hg]
  · by_cases hi : i < rs.length
    · rw [List.getElem?_append_left hi] at hq
      obtain ⟨o, l⟩ := h.row i q hq
      refine ⟨owns_block o fun g hg => ?_, fun g hg => hc _ _ (l g hg)⟩
      have hl := (o.lt g hg).2
      exact (g1.block g (by simp; omega) (fun e => hn i q hq g hg e.symm)).trans (alloc_old _ hl)
    · have hl := (List.getElem?_eq_some_iff.1 hq).1
      rw [List.length_append, List.length_singleton] at hl
      obtain rfl : i = rs.length := by omega
      rw [List.getElem?_append_right (Nat.le_refl _), Nat.sub_self] at hq
      cases hq
      refine ⟨owns_block hr fun g hg => ?_, fun g hg => ?_⟩
      · have hl := (hr.lt g hg).2
        exact (g1.block g (by simp; omega) (fun e => by have := h.spl g e.symm; rw [fr g hg] at this; cases this)).trans (alloc_old _ hl)
      · simp only [c', fr g hg, if_pos hg]
  · cases e : c x with
    | some y => exact Nat.lt_of_lt_of_le (dom x y e) hz
    | none =>
      simp only [c', e] at hx
      split at hx
      · rename_i h5
        exact Nat.lt_of_lt_of_le (hr.lt x h5).2 hz
      · split at hx
        · rename_i h5
          exact (a1.lt x h5).2
        · cases hx
/-- an element of a list is written -/
theorem KAt.set (h : KAt B w c v t rs) (ht : t < 2) (hk : rs[k]? = some r) {g cap : Nat} (hv : r.val = .slice (some ⟨g, 0, none⟩) r.l.length cap) {j : Nat} (hj : j < r.l.length) (x : Int) :
    KAt B (w.setCell ⟨g, j, none⟩ (.int .i64 x)) c v t (rs.set k { r with l := r.l.set j x }) := by
  obtain ⟨o, l⟩ := h.row k r hk
  have hcg : c g = some (2 + k) := l g (by rw [hv]; rfl)
  have hkl := (List.getElem?_eq_some_iff.1 hk).1
  have hval : ({ r with l := r.l.set j x } : Rw).val = r.val := by simp [Rw.val]
  refine ⟨?_, h.spl, fun i q hq => ?_⟩
  · have e : (rs.set k { r with l := r.l.set j x }).map Rw.val = rs.map Rw.val := by
      rw [List.map_set, hval]
      apply List.ext_getElem?
      intro q
      by_cases hq : q = k
      · subst hq
        rw [List.getElem?_set_self (by simpa using hkl), List.getElem?_map, hk]
        rfl
      · rw [List.getElem?_set_ne (Ne.symm hq)]
    rw [e, List.length_set]
    exact owns_block h.sp fun y hy => set_other (fun e => by
      have := h.spl y hy
      rw [e, hcg] at this
      have := Option.some.inj this
      omega) _ _
  · by_cases hi : i = k
    · subst hi
      rw [List.getElem?_set_self hkl] at hq
      cases hq
      refine ⟨?_, fun y hy => l y (by rw [← hval]; exact hy)⟩
      rw [hv] at o
      have := (o.stored j (.int .i64 x)).1
      rw [hval, hv]
      simpa [List.map_set] using this
    · rw [List.getElem?_set_ne (Ne.symm hi)] at hq
      obtain ⟨o2, l2⟩ := h.row i q hq
      exact ⟨owns_block o2 fun y hy => set_other (fun e => by
        have := l2 y hy
        rw [e, hcg] at this
        have := Option.some.inj this
        omega) _ _, l2⟩
/-- the k-th list is made longer into a list of its own, which is appended to the other one -/
theorem KAt.grow (h0 : KAt B w c v 0 rs) (h1 : KAt B w c v2 1 gs) (dom : Dom c w) (hk : rs[gs.length]? = some r) {ob1 ob2 : Obj}
    (a1 : w2.ownsRow B 3 1 s.val s.l.length (s.l.map (.int .i64))) (g1 : (w.alloc ob1).grownBy w2 r.val.ownBlock) (p1 : s.val.ownBlock = r.val.ownBlock ∨ s.val.ownBlock = some (w.alloc ob1).heap.size) (st : w2.ownsRow B 3 1 r.val r.l.length (r.l.map (.int .i64)))
    (a2 : w3.ownsRow B 31 1 v2' (gs.length + 1) (gs.map Rw.val ++ [s.val])) (g2 : (w2.alloc ob2).grownBy w3 v2.ownBlock) (p2 : v2'.ownBlock = v2.ownBlock ∨ v2'.ownBlock = some (w2.alloc ob2).heap.size) :
    ∃ c', KAt B w3 c' v 0 rs ∧ KAt B w3 c' v2' 1 (gs ++ [s]) ∧ Dom c' w3 ∧ ∀ x u, c x = some u → c' x = some u := by
  let c1 : Lab := fun x => match c x with
    | some u => some u
    | none => if s.val.ownBlock = some x then some (2 + gs.length) else none
  have hc1 : ∀ x u, c x = some u → c1 x = some u := fun x u e => by simp only [c1, e]
  have hz : w.heap.size + 1 ≤ w2.heap.size := by have := g1.size; simp at this; omega
  have hs : ∀ g, s.val.ownBlock = some g → c1 g = some (2 + gs.length) := by
    intro g hg
    rcases p1 with p | p
    · exact hc1 _ _ ((h0.row _ r hk).2 g (p ▸ hg))
    · have e1 : c g = none := by
        rw [p, World.size_alloc] at hg
        have := Option.some.inj hg
        cases e : c g with
        | none => rfl
        | some u => have := dom g u e; omega
      simp only [c1, e1, if_pos hg]
  have dom1 : Dom c1 w2 := by
    intro x u hx
    cases e : c x with
    | some y => have := dom x y e; omega
    | none =>
      simp only [c1, e] at hx
      split at hx
      · rename_i h5
        exact (a1.lt x h5).2
      · cases hx
  -- the first append leaves all but the k-th list
  obtain ⟨S, hS⟩ : ∃ S, S = r.val.ownBlock.toList := ⟨_, rfl⟩
  have hSl : ∀ x ∈ S, c x = some (2 + gs.length) := fun x hx => by
    rw [hS, Option.mem_toList] at hx
    exact (h0.row _ r hk).2 x hx
  have k1 : Keep S w w2 := keep_grown ((Keep.refl S w).alloc ob1) g1 fun y hy => .inl (by rw [hS, Option.mem_toList]; exact hy)
  have h1' : KAt B w2 c1 v2 1 gs := (h1.keep k1 fun x hx u hu => by
    rw [hSl x hx] at hu
    cases hu
    exact ⟨by omega, fun i hi => by omega⟩).relab hc1
  have h0' : KAt B w2 c1 v 0 rs := by
    refine ⟨owns_block h0.sp fun g hg => k1.block g (h0.sp.lt g hg).2 fun hm => ?_, fun g hg => hc1 _ _ (h0.spl g hg), fun i q hq => ?_⟩
    · have e1 := hSl g hm
      rw [h0.spl g hg] at e1
      have := Option.some.inj e1
      omega
    · obtain ⟨o, l⟩ := h0.row i q hq
      by_cases hi : i = gs.length
      · subst hi
        rw [hk] at hq
        cases hq
        exact ⟨st, fun g hg => hc1 _ _ (l g hg)⟩
      · refine ⟨owns_block o fun g hg => k1.block g (o.lt g hg).2 fun hm => ?_, fun g hg => hc1 _ _ (l g hg)⟩
        have e1 := hSl g hm
        rw [l g hg] at e1
        have := Option.some.inj e1
        omega
  -- the second one leaves all but the grown one's own block
  let c' : Lab := fun x => match c1 x with
    | some u => some u
    | none => if v2'.ownBlock = some x then some 1 else none
  have hc : ∀ x u, c1 x = some u → c' x = some u := fun x u e => by simp only [c', e]
  obtain ⟨T, hT⟩ : ∃ T, T = v2.ownBlock.toList := ⟨_, rfl⟩
  have hTl : ∀ x ∈ T, c1 x = some 1 := fun x hx => by
    rw [hT, Option.mem_toList] at hx
    exact hc1 _ _ (h1.spl x hx)
  have k2 : Keep T w2 w3 := keep_grown ((Keep.refl T w2).alloc ob2) g2 fun y hy => .inl (by rw [hT, Option.mem_toList]; exact hy)
  have hv2 : ∀ g, v2'.ownBlock = some g → c' g = some 1 := by
    intro g hg
    rcases p2 with p | p
    · exact hc _ _ (hc1 _ _ (h1.spl g (p ▸ hg)))
    · have e1 : c1 g = none := by
        rw [p, World.size_alloc] at hg
        have := Option.some.inj hg
        cases e : c1 g with
        | none => rfl
        | some u => have := dom1 g u e; omega
      simp only [c', e1, if_pos hg]
  refine ⟨c', (h0'.keep k2 fun x hx u hu => ?_).relab hc, ⟨by simpa using a2, hv2, fun i q hq => ?_⟩, fun x u hx => ?_, fun x u e => hc _ _ (hc1 _ _ e)⟩
  · rw [hTl x hx] at hu
    cases hu
    exact ⟨by omega, fun i hi => by omega⟩
  · by_cases hi : i < gs.length
    · rw [List.getElem?_append_left hi] at hq
      obtain ⟨o, l⟩ := h1'.row i q hq
      refine ⟨owns_block o fun g hg => k2.block g (o.lt g hg).2 fun hm => ?_, fun g hg => hc _ _ (l g hg)⟩
      have e1 := hTl g hm
      rw [l g hg] at e1
      have := Option.some.inj e1
      omega
    · have hl := (List.getElem?_eq_some_iff.1 hq).1
      rw [List.length_append, List.length_singleton] at hl
      obtain rfl : i = gs.length := by omega
      rw [List.getElem?_append_right (Nat.le_refl _), Nat.sub_self] at hq
      cases hq
      refine ⟨owns_block a1 fun g hg => k2.block g (a1.lt g hg).2 fun hm => ?_, fun g hg => hc _ _ (hs g hg)⟩
      have e1 := hTl g hm
      rw [hs g hg] at e1
      have := Option.some.inj e1
      omega
  · cases e : c1 x with
    | some y => exact Nat.lt_of_lt_of_le (dom1 x y e) k2.size
    | none =>
      simp only [c', e] at hx
      split at hx
      · rename_i h5
        exact (a2.lt x h5).2
      · cases hx
end
end Go.Proofs.YtgagiggljlikbaaGreat.Lw
/- Layer 4's scripts: world.begin. -/
namespace Go.Proofs.YtgagiggljlikbaaGreat.Lw
open Go.RowKit Go.Proofs.YtgagiggljlikbaaGreat.Mem Go.Proofs.YtgagiggljlikbaaGreat.Ar Go.Proofs.YtgagiggljlikbaaGreat.En Go.Proofs.YtgagiggljlikbaaGreat.Ch Go.Proofs.YtgagiggljlikbaaGreat.Rc
open Go.Proofs.YtgagiggljlikbaaGreat.Ra (owns_block RAt rBlocks)
open Go.Proofs.YtgagiggljlikbaaGreat.Ref (owns_shape)
set_option linter.unusedVariables false
set_option linter.unusedSimpArgs false
set_option maxRecDepth 100000
section
variable {w w' w1 w2 w3 w0 : World} {f f' : Lab} {g : Lay} {X : Nat → CI} {A A' : Ars} {Q Q' : List Nat} {ms : List One} {qv qv' : Value} {bs bs' : List (Option Nat)} {S : List Nat} {Y : CI} {k wd i mb vb sb rb n : Nat} {o : One} {m m' : Mach} {hold : Int}
theorem aside {b o p j : Nat} {v x : Value} (h : w.cell? ⟨b, o, none⟩ = some v) (hne : b ≠ p) : (w.setCell ⟨p, j, none⟩ x).cell? ⟨b, o, none⟩ = some v := (World.cell?_setCell_other w _ _ _ (fun e => hne (by cases e; rfl))).trans h
/-- a machine that is nobody's yet -/
def BP (w : World) (g : Lay) (i : Nat) (m : Mach) (mb vb sb : Nat) : Prop :=
  match m with
  | .ins m => InsP w g.L (g.xb i) (g.hb i) mb m
  | .wlk m => WlkP w g.L (g.xb i) (g.hb i) mb vb sb m
  | .rem m => RemP w g.L (g.xb i) (g.hb i) mb (g.n i) m
def BR (w : World) (g : Lay) (Bl : List Nat) (i : Nat) (m : Mach) (rb : Nat) : Prop :=
  match m with
  | .ins m => InsR w Bl (g.rx i) (g.rh i) rb m
  | .wlk m => WlkV w Bl (g.rx i) (g.rh i) rb m
  | .rem m => RemQ w Bl (g.rx i) (g.rh i) rb m
theorem BP.keep (h : BP w g i m mb vb sb) (kk : Keep S w w') (h1 : mb ∉ S) (h2 : vb ∉ S) (h3 : sb ∉ S) : BP w' g i m mb vb sb := by
  unfold BP at h ⊢
  cases m with
  | ins m => exact h.keep kk h1
  | wlk m => exact h.keep kk ⟨h1, fun _ => ⟨h2, h3⟩⟩
  | rem m => exact h.keep kk h1
theorem BR.keep {Bl : List Nat} (h : BR w g Bl i m rb) (kk : Keep S w w') (h1 : rb ∉ S) : BR w' g Bl i m rb := by
  unfold BR at h ⊢
  cases m with
  | ins m => exact h.keep kk h1
  | wlk m => exact h.keep kk h1
  | rem m => exact h.keep kk h1
def labN (f : Lab) (n mb vb sb rb : Nat) : Lab := fun x => match f x with
  | some t => some t
  | none => if x = mb ∨ x = vb ∨ x = sb then some (8 + 2 * n) else if x = rb then some (9 + 2 * n) else none
theorem labN_old {x t : Nat} (h : f x = some t) : labN f n mb vb sb rb x = some t := by simp only [labN, h]
theorem labN_p {x : Nat} (h : f x = none) (hx : x = mb ∨ x = vb ∨ x = sb) : labN f n mb vb sb rb x = some (8 + 2 * n) := by simp only [labN, h, if_pos hx]
theorem labN_r (h : f rb = none) (h1 : rb ≠ mb) (h2 : rb ≠ vb) (h3 : rb ≠ sb) : labN f n mb vb sb rb rb = some (9 + 2 * n) := by
  simp only [labN, h]
  rw [if_neg (by rintro (e | e | e) <;> contradiction)]
  simp
theorem BP.mp (h : BP w g i m mb vb sb) (l1 : f mb = some (8 + 2 * n)) (l2 : f vb = some (8 + 2 * n)) (l3 : f sb = some (8 + 2 * n)) : MP w f g n ⟨i, m, mb, vb, sb, rb⟩ := by
  unfold BP at h
  unfold MP
  cases m with
  | ins m => exact ⟨h, l1⟩
  | wlk m => exact ⟨h, l1, fun _ => ⟨l2, l3⟩⟩
  | rem m => exact ⟨h, l1⟩
theorem BR.mr {Bl : List Nat} (h : BR w g Bl i m rb) (l1 : f rb = some (9 + 2 * n)) : MR_ w f g Bl n ⟨i, m, mb, vb, sb, rb⟩ := by
  unfold BR at h
  unfold MR_
  cases m with
  | ins m => exact ⟨h, l1⟩
  | wlk m => exact ⟨h, l1⟩
  | rem m => exact ⟨h, l1⟩
/-- behind the making of both: the append -/
theorem All.born (h : All w0 w f g wd hold X A Q ms) (hr : RHalf w f g X A Q ms qv bs) (hi : i < 2) (ho : okM (X i) m)
    (hP : BP w g i m mb vb sb) (hR : BR w g (rBlocks g.b g.sg qv bs) i m rb)
    (fm : f mb = none ∧ f vb = none ∧ f sb = none ∧ f rb = none) (ne : rb ≠ mb ∧ rb ≠ vb ∧ rb ≠ sb) (hlt : mb < w.heap.size ∧ vb < w.heap.size ∧ sb < w.heap.size ∧ rb < w.heap.size) (hge : w0.heap.size ≤ mb ∧ w0.heap.size ≤ vb ∧ w0.heap.size ≤ sb ∧ w0.heap.size ≤ rb)
    {ap ap' : Option Addr} {cap cp : Nat} {ob : Obj} (h1 : w.heap[wd]? = some (.cells #[pt g.L.b, pt (g.xb 0), pt (g.xb 1), pt g.b, pt (g.rx 0), pt (g.rx 1), .slice ap ms.length cap, .int .i64 hold] 147 (0, 0)))
    (h3 : ∀ x, (Value.slice ap ms.length cap).ownBlock = some x → f x = some 1)
    (a1 : w3.ownsRow w0.heap.size 159 7 (.slice ap' (ms.length + 1) cp) (ms.length + 1) (rowsO ms ++ pairRow m.kind mb rb)) (g1 : (w.alloc ob).grownBy w3 (Value.slice ap ms.length cap).ownBlock)
    (p1 : (Value.slice ap' (ms.length + 1) cp).ownBlock = (Value.slice ap ms.length cap).ownBlock ∨ (Value.slice ap' (ms.length + 1) cp).ownBlock = some (w.alloc ob).heap.size) :
    ∃ f'', All w0 (w3.setCell ⟨wd, 6, none⟩ (.slice ap' (ms.length + 1) cp)) f'' g wd hold X A Q (ms ++ [⟨i, m, mb, vb, sb, rb⟩]) := by
  refine All.push (o := ⟨i, m, mb, vb, sb, rb⟩) (f' := labN f ms.length mb vb sb rb) h.p hr h.wp h.good (fun x t e => labN_old e) (fun x t e e2 => ?_) (hP.mp (labN_p fm.1 (.inl rfl)) (labN_p fm.2.1 (.inr (.inl rfl))) (labN_p fm.2.2.1 (.inr (.inr rfl)))) (hR.mr (labN_r fm.2.2.2 ne.1 ne.2.1 ne.2.2)) hi ho h1 h3 a1 g1 p1
  simp only [labN, e2] at e
  split at e
  · rename_i hx
    rcases hx with rfl | rfl | rfl
    · exact ⟨hge.1, hlt.1⟩
    · exact ⟨hge.2.1, hlt.2.1⟩
    · exact ⟨hge.2.2.1, hlt.2.2.1⟩
  · split at e
    · rename_i hx
      subst hx
      exact ⟨hge.2.2.2, hlt.2.2.2⟩
    · cases e
/-- what the making of the program's, of the document's machine leaves -/
def MadeP (wx : World) (g : Lay) (i : Nat) (m : Mach) (r : Ending) (w' : World) : Prop :=
  ∃ mb vb sb, r = .returned (.pointer (some ⟨mb, 0, none⟩)) ∧ (wx.heap.size ≤ mb ∧ wx.heap.size ≤ vb ∧ wx.heap.size ≤ sb) ∧ (mb < w'.heap.size ∧ vb < w'.heap.size ∧ sb < w'.heap.size) ∧ BP w' g i m mb vb sb ∧ Keep [] wx w'
def MadeR (wx : World) (g : Lay) (Bl : List Nat) (i : Nat) (m : Mach) (r : Ending) (w' : World) : Prop :=
  ∃ rb, r = .returned (.pointer (some ⟨rb, 0, none⟩)) ∧ wx.heap.size ≤ rb ∧ rb < w'.heap.size ∧ BR w' g Bl i m rb ∧ Keep [] wx w'
theorem made_ins (h : PHalf w f g X A ms) (hi : i < 2) (a b : Int) : Calls Tryz.prog 34 #[.pointer (some ⟨g.xb i, 0, none⟩), .int .i64 a, .int .i64 b] w (MadeP w g i (.ins (newI a b))) := by
  refine (new_ins (h.env i hi) a b).mono ?_
  rintro r w' ⟨rfl, hm, kk⟩
  have := lt_of hm.hm
  exact ⟨_, _, _, rfl, ⟨Nat.le_refl _, Nat.le_refl _, Nat.le_refl _⟩, ⟨this, this, this⟩, hm, kk⟩
theorem made_wlk (h : PHalf w f g X A ms) (hi : i < 2) (a : Int) : Calls Tryz.prog 22 #[.pointer (some ⟨g.xb i, 0, none⟩), .int .i64 a] w (MadeP w g i (.wlk (newW a))) := by
  refine (new_wlk (h.env i hi) a).mono ?_
  rintro r w' ⟨rfl, hm, kk⟩
  have hm := hm w.heap.size w.heap.size
  obtain ⟨sv, nx, h1, -⟩ := hm.hm
  have := lt_of h1
  exact ⟨_, _, _, rfl, ⟨Nat.le_refl _, Nat.le_refl _, Nat.le_refl _⟩, ⟨this, this, this⟩, hm, kk⟩
theorem made_beh (h : PHalf w f g X A ms) (hi : i < 2) (a : Int) : Calls Tryz.prog 111 #[.pointer (some ⟨g.xb i, 0, none⟩), .int .i64 a] w (MadeP w g i (.wlk (newB a))) := by
  refine (new_beh (h.env i hi) a).mono ?_
  rintro r w' ⟨mb, vb, sb, rfl, h1, h2, h3, hm, kk⟩
  obtain ⟨sv, nx, h4, -⟩ := hm.hm
  exact ⟨_, _, _, rfl, ⟨h1, h2, h3⟩, ⟨lt_of h4, lt_of (hm.cap rfl).1, lt_of (hm.cap rfl).2⟩, hm, kk⟩
theorem made_rem (h : PHalf w f g X A ms) (hi : i < 2) (a b : Int) : Calls Tryz.prog 36 #[.pointer (some ⟨g.xb i, 0, none⟩), .int .i64 a, .int .i64 b] w (MadeP w g i (.rem (newR a b))) := by
  refine (new_rem (n := g.n i) (h.env i hi) a b).mono ?_
  rintro r w' ⟨rfl, hm, kk⟩
  obtain ⟨nv, h1, -⟩ := hm.hm
  have := lt_of h1
  exact ⟨_, _, _, rfl, ⟨Nat.le_refl _, Nat.le_refl _, Nat.le_refl _⟩, ⟨this, this, this⟩, hm, kk⟩
theorem maderIns (h : RHalf w f g X A Q ms qv bs) (hi : i < 2) (a b : Int) : Calls Tryz.prog 109 #[.pointer (some ⟨g.rx i, 0, none⟩), .int .i64 a, .int .i64 b] w (MadeR w g (rBlocks g.b g.sg qv bs) i (.ins (newI a b))) := by
  refine (new_insR (h.env i hi) a b).mono ?_
  rintro r w' ⟨rfl, hm, kk⟩
  obtain ⟨av, h1, -⟩ := hm.hm
  exact ⟨_, rfl, Nat.le_refl _, lt_of h1, hm, kk⟩
theorem maderWlk (h : RHalf w f g X A Q ms qv bs) (hi : i < 2) (a : Int) : Calls Tryz.prog 110 #[.pointer (some ⟨g.rx i, 0, none⟩), .int .i64 a] w (MadeR w g (rBlocks g.b g.sg qv bs) i (.wlk (newW a))) := by
  refine (new_wlkV (h.env i hi) a).mono ?_
  rintro r w' ⟨rfl, hm, kk⟩
  obtain ⟨ld, nx, h1, -⟩ := hm.hm
  exact ⟨_, rfl, Nat.le_refl _, lt_of h1, hm, kk⟩
theorem maderBeh (h : RHalf w f g X A Q ms qv bs) (hi : i < 2) (a : Int) : Calls Tryz.prog 112 #[.pointer (some ⟨g.rx i, 0, none⟩), .int .i64 a] w (MadeR w g (rBlocks g.b g.sg qv bs) i (.wlk (newB a))) := by
  refine (new_behV (h.env i hi) a).mono ?_
  rintro r w' ⟨rfl, hm, kk⟩
  obtain ⟨ld, nx, h1, -⟩ := hm.hm
  exact ⟨_, rfl, Nat.le_refl _, lt_of h1, hm, kk⟩
theorem maderRem (h : RHalf w f g X A Q ms qv bs) (hi : i < 2) (a b : Int) : Calls Tryz.prog 113 #[.pointer (some ⟨g.rx i, 0, none⟩), .int .i64 a, .int .i64 b] w (MadeR w g (rBlocks g.b g.sg qv bs) i (.rem (newR a b))) := by
  refine (new_remQ (h.env i hi) a b).mono ?_
  rintro r w' ⟨rfl, hm, kk⟩
  obtain ⟨av, wd', h1, -⟩ := hm.hm
  exact ⟨_, rfl, Nat.le_refl _, lt_of h1, hm, kk⟩
theorem infoPair : (Tryz.prog.info? 159).map (fun i => (i.zero, i.size, i.bytes)) = some (some (.agg #[.int .i64 0, .pointer none, .pointer none, .pointer none, .pointer none, .pointer none, .pointer none]), 7, 56) := by kernel_rfl
theorem zero_of (kk : Keep [] w w') {y : Nat} {x : Obj} (h : w.heap[y]? = some x) : w'.heap[y]? = some x := kk.old h (by simp)
end
end Go.Proofs.YtgagiggljlikbaaGreat.Lw
