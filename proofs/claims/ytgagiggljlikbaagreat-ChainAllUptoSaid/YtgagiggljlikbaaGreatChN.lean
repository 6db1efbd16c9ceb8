/- The chain's Walk: Step whole; the making of one. -/
import Derived.Test.YtgagiggljlikbaaGreatChM
namespace Go.Proofs.YtgagiggljlikbaaGreat.Ch
open Go.RowKit Go.Proofs.YtgagiggljlikbaaGreat.Mem Go.Proofs.YtgagiggljlikbaaGreat.Ar Go.Proofs.YtgagiggljlikbaaGreat.En
set_option linter.unusedVariables false
set_option linter.unusedSimpArgs false
set_option maxRecDepth 100000

/-- what holds of a walk between its steps -/
def okW (X : CI) (m : MW) : Prop := m.whole = true → m.src = false → m.ended = false → X.has m.bucket = true
theorem has_range {X : CI} {b : Int} (hf : X.heads.length ≤ 256) (h : X.has b = true) : 0 ≤ b ∧ b ≤ 1000000 := by
  simp only [CI.has, Bool.and_eq_true, decide_eq_true_eq] at h
  omega
theorem ld_width (A : Ars) (s : Int) (c : Nat) : (ldA A s c).1.width = A.width := by unfold ldA; split <;> rfl
section
variable {w w' w2 : World} {L : Bk} {A A' : Ars} {xb hb mb vb sb : Nat} {X X' : CI} {m m' : MW}
theorem step_wlk (h : Env w L xb hb X A) (hi : WlkP w L xb hb mb vb sb m) (ho : okW X m) (hA : okA A) (hH : okH X) :
    Calls Tryz.prog 23 #[.pointer (some ⟨mb, 0, none⟩)] w (StepsW w L xb hb mb vb sb X A m) := by
  cases he : m.ended with
  | true => exact step_wlk0 h hi he
  | false =>
    obtain ⟨X', A', wv, er, hr⟩ : ∃ X' A' wv er, srcW X A m = (X', A', wv, er) := ⟨_, _, _, _, rfl⟩
    have hok : okL wv := by
      have := ok_src hA hH m
      rw [hr] at this
      exact this
    have henv : ∀ w1, Keep [mb] w w1 → Env w1 L xb hb X A := fun w1 k => h.keep k (fun x hx => by rw [List.mem_singleton.1 hx]; exact hi.off)
    cases hw : m.whole with
    | true =>
      cases hsr : m.src with
      | true =>
        have hr' := hr
        simp only [srcW, hw, hsr, Bool.and_self, if_true] at hr'
        refine step_head hi hw he hsr hok hr (fun _ e0 => ?_) (fun w1 k c0 c1 => ?_)
        · by_cases hb' : X.has m.bucket = true
          · exact has_range h.ix.few hb'
          · rw [if_neg hb'] at hr'
            have : (40 : Int) = er := congrArg (fun p => p.2.2.2) hr'
            omega
        · refine (headW (henv w1 k) m.bucket hi.off.2.1 c0 c1).mono ?_
          rintro e w' ⟨rfl, he', k'⟩
          by_cases hb' : X.has m.bucket = true
          · rw [if_pos hb'] at hr'
            simp only [hb', if_true] at he' ⊢
            obtain ⟨e1, e2, e3, e4⟩ := Prod.mk.inj hr' |>.imp id fun e => (Prod.mk.inj e).imp id fun e => Prod.mk.inj e
            subst e1 e2 e3 e4
            exact ⟨rfl, he', k'.mono (by simp)⟩
          · rw [if_neg hb'] at hr'
            simp only [hb', if_false] at he' ⊢
            obtain ⟨e1, e2, e3, e4⟩ := Prod.mk.inj hr' |>.imp id fun e => (Prod.mk.inj e).imp id fun e => Prod.mk.inj e
            subst e1 e2 e3 e4
            exact ⟨rfl, he', k'.mono (by simp)⟩
      | false =>
        have hr' := hr
        simp only [srcW, hw, hsr, Bool.false_and, if_false, Bool.false_eq_true] at hr'
        obtain ⟨e1, e2, e3, e4⟩ := Prod.mk.inj hr' |>.imp id fun e => (Prod.mk.inj e).imp id fun e => Prod.mk.inj e
        refine step_nextW hi hw he hsr hok hr (fun _ _ => has_range h.ix.few (ho hw hsr he)) h (fun w1 k => ?_)
        have h1 := henv w1 k
        refine (ldP h1.ar m.next X.cell h1.cell).mono ?_
        rintro e w' ⟨rfl, ha, k'⟩
        rw [e2] at ha
        rw [e3, e4]
        subst e1
        exact ⟨rfl, ⟨ha, h1.ix.keep k' (fun x hx => ⟨fun e => h1.offx (e ▸ hx), fun e => h1.offh (e ▸ hx)⟩), h1.offx, h1.offh, by rw [← e2, ld_width]; exact h1.cell⟩, k'.mono (fun x hx => List.mem_cons_of_mem _ hx)⟩
    | false =>
      have hld : ∀ s : Int, (X, (ldA A s X.cell).1, (ldA A s X.cell).2.1, (ldA A s X.cell).2.2) = (X', A', wv, er) → ∀ w1, Env w1 L xb hb X A → ∀ r w', (r = .returned (.tuple #[.int .u64 (ldA A s X.cell).2.1, .int .i64 (ldA A s X.cell).2.2]) ∧ Env w' L xb hb X (ldA A s X.cell).1 ∧ Keep L.blocks w1 w') → Src w1 L xb hb X' A' wv er r w' := by
        intro s e w1 h1 r w' ⟨hr1, ha, k'⟩
        obtain ⟨e1, e2, e3, e4⟩ := Prod.mk.inj e |>.imp id fun e => (Prod.mk.inj e).imp id fun e => Prod.mk.inj e
        subst e1 e2 e3 e4
        exact ⟨hr1, ha, k'.mono (fun x hx => List.mem_cons_of_mem _ hx)⟩
      have hnw : m.whole = true → er = 0 → 0 ≤ m.bucket ∧ m.bucket ≤ 1000000 := fun e => by rw [hw] at e; cases e
      have hr' := hr
      cases hsr : m.src with
      | true =>
        simp only [srcW, hw, hsr, Bool.and_false, if_false, if_true, Bool.false_eq_true] at hr'
        obtain ⟨o1, o2⟩ := hi.offc hw
        refine step_behind hi hw he hsr hok hr hnw (fun w1 k => ?_)
        have h1 := henv w1 k
        exact (behind1 h1 m.from_ (k.old (hi.cap hw).1 (by simpa using o1.2.2.2)) (k.old (hi.cap hw).2 (by simpa using o2.2.2.2)) o1.1 o2.1).mono fun r w' hp => hld m.from_ hr' w1 h1 r w' hp
      | false =>
        simp only [srcW, hw, hsr, Bool.false_and, if_false, Bool.false_eq_true] at hr'
        refine step_nextB hi hw he hsr hok hr hnw h (fun w1 k => ?_)
        have h1 := henv w1 k
        refine (ldP h1.ar m.next X.cell h1.cell).mono ?_
        rintro e w' ⟨rfl, ha, k'⟩
        exact hld m.next hr' w1 h1 _ w' ⟨rfl, ⟨ha, h1.ix.keep k' (fun x hx => ⟨fun e => h1.offx (e ▸ hx), fun e => h1.offh (e ▸ hx)⟩), h1.offx, h1.offh, by rw [ld_width]; exact h1.cell⟩, k'⟩
/-- the steps keep it -/
theorem okW_step (ho : okW X m) : okW (stepW X A m).1 (stepW X A m).2.2.1 := by
  cases he : m.ended with
  | true =>
    have hs : stepW X A m = (X, A, { m with slot := 0 }, true) := by simp only [stepW, he, if_true]
    rw [hs]
    exact ho
  | false =>
    obtain ⟨X', A', wv, er, hr⟩ : ∃ X' A' wv er, srcW X A m = (X', A', wv, er) := ⟨_, _, _, _, rfl⟩
    rw [stepW_tail he hr]
    unfold tailW
    split
    · split
      · intro _ _ h
        cases h
      · rename_i h0 _
        intro h1 _ _
        have h1' : m.whole = true := h1
        show X'.has m.bucket = true
        cases hsr : m.src with
        | true =>
          simp only [srcW, h1', hsr, Bool.and_self, if_true] at hr
          by_cases hb' : X.has m.bucket = true
          · rw [if_pos hb'] at hr
            have : X.tick = X' := congrArg Prod.fst hr
            rw [← this]
            exact hb'
          · rw [if_neg hb'] at hr
            have : (40 : Int) = er := congrArg (fun p => p.2.2.2) hr
            omega
        | false =>
          simp only [srcW, h1', hsr, Bool.false_and, if_false, Bool.false_eq_true] at hr
          have : X = X' := congrArg Prod.fst hr
          rw [← this]
          exact ho h1' hsr he
    · intro _ _ h
      cases h
theorem okW_new (b : Int) : okW X (newW b) := fun _ h => by cases h
theorem okW_beh (b : Int) : okW X (newB b) := fun _ h => by cases h
theorem new_wlk (h : Env w L xb hb X A) (b : Int) :
    Calls Tryz.prog 22 #[.pointer (some ⟨xb, 0, none⟩), .int .i64 b] w fun r w' => r = .returned (.pointer (some ⟨w.heap.size, 0, none⟩)) ∧ (∀ vb sb, WlkP w' L xb hb w.heap.size vb sb (newW b)) ∧ Keep [] w w' := by
  obtain ⟨l1, l2, l3⟩ := h.lt
  obtain ⟨mb, hmb⟩ : ∃ mb, mb = w.heap.size := ⟨_, rfl⟩
  obtain ⟨w1, hw1⟩ : ∃ w1, w1 = w.alloc (.cells #[.pointer (some ⟨xb, 0, none⟩), .int .i64 b, .nilFunc, .int .i64 0, .int .i64 0, .bool false, .int .i64 0] 82) := ⟨_, rfl⟩
  have k1 : Keep [] w w1 := by rw [hw1]; exact (Keep.refl _ _).alloc _
  have b1 : w1.heap[mb]? = some (.cells #[.pointer (some ⟨xb, 0, none⟩), .int .i64 b, .nilFunc, .int .i64 0, .int .i64 0, .bool false, .int .i64 0] 82 (0, 0)) := by rw [hw1, hmb]; exact alloc_new _ _
  have c2 := (cell_of b1 2).trans rfl
  have z2 := free_of b1 2
  have OFF : Hid (mb ∉ L.blocks ∧ mb ≠ xb ∧ mb ≠ hb) := Lib.hid ⟨fun hm => by have := l1 mb hm; omega, by omega, by omega⟩
  have hmf : ∀ (fn : Fn) (first cap : Array Value) (w : World), (Instr.makeFunc fn first cap).run Tryz.prog w = .ok (.func fn first cap) w := fun _ _ _ _ => rfl
  have B1 := Lib.hid b1
  have K1 := Lib.hid k1
  have MB := Lib.hid hmb
  rw [← hmb]
  clear h l1 l2 l3 b1 k1
  go_enter Tryz.func22, Tryz.ntmps22
  go_upto_region 4 with fail
  rw [← hmb, show w.alloc (.cells #[.pointer (some ⟨xb, 0, none⟩), .int .i64 b, .nilFunc, .int .i64 0, .int .i64 0, .bool false, .int .i64 0] 82 (0, 0)) = w1 from hw1.symm]
  clear hw1 hmb
  go_wp2_with fail
  go_ret
  refine ⟨rfl, fun vb sb => ⟨⟨_, 0, ?_, fun _ => ⟨rfl, fun h => (by cases h)⟩⟩, fun h => (by cases h), OFF.out, fun h => (by cases h)⟩, ?_⟩
  · have := set_same B1.out 2 (srcV mb vb sb (newW b))
    exact this.trans rfl
  · exact K1.out.set (.inr (by rw [MB.out]; exact Nat.le_refl _)) _ _
theorem new_beh (h : Env w L xb hb X A) (s : Int) :
    Calls Tryz.prog 111 #[.pointer (some ⟨xb, 0, none⟩), .int .i64 s] w fun r w' => ∃ mb vb sb, r = .returned (.pointer (some ⟨mb, 0, none⟩)) ∧ w.heap.size ≤ mb ∧ w.heap.size ≤ vb ∧ w.heap.size ≤ sb ∧ WlkP w' L xb hb mb vb sb (newB s) ∧ Keep [] w w' := by
  obtain ⟨l1, l2, l3⟩ := h.lt
  have hmf : ∀ (fn : Fn) (first cap : Array Value) (w : World), (Instr.makeFunc fn first cap).run Tryz.prog w = .ok (.func fn first cap) w := fun _ _ _ _ => rfl
  have HL := Lib.hid (And.intro l1 (And.intro l2 l3))
  clear h l1 l2 l3
  go_enter Tryz.func111, Tryz.ntmps111
  go_wp2_with fail
  go_ret
  obtain ⟨l1, l2, l3⟩ := HL.out
  obtain ⟨o1, ho1⟩ : ∃ o : Obj, o = .cells #[.pointer (some ⟨xb, 0, none⟩)] 30 (0, 0) := ⟨_, rfl⟩
  obtain ⟨o2, ho2⟩ : ∃ o : Obj, o = .cells #[.int .i64 s] 3 (0, 0) := ⟨_, rfl⟩
  rw [← ho1, ← ho2]
  have q1 := alloc_new w o1
  have q2 := alloc_new (w.alloc o1) o2
  have z1 : (w.alloc o1).heap.size = w.heap.size + 1 := by simp
  have z2 : ((w.alloc o1).alloc o2).heap.size = w.heap.size + 1 + 1 := by simp
  have q3 := fun o3 => alloc_new ((w.alloc o1).alloc o2) o3
  rw [z1] at q2
  simp only [z2] at q3
  have kk : ∀ (v : World) (o : Obj), Keep [] v (v.alloc o) := fun v o => (Keep.refl _ _).alloc _
  refine ⟨w.heap.size + 1 + 1, w.heap.size, w.heap.size + 1, rfl, by omega, by omega, by omega, ⟨⟨_, 0, ?_, fun _ => ⟨rfl, fun h => (by cases h)⟩⟩, fun _ => ⟨?_, ?_⟩, ?_, fun _ => ?_⟩, ((kk _ _).trans (kk _ _)).trans (kk _ _)⟩
  · exact (q3 _).trans rfl
  · rw [← ho1]
    exact (kk _ _).old ((kk _ _).old q1 (by simp)) (by simp)
  · show _ = some (Obj.cells #[.int .i64 s] _ (0, 0))
    rw [← ho2]
    exact (kk _ _).old q2 (by simp)
  · exact ⟨fun hm => by have := l1 _ hm; omega, by omega, by omega⟩
  · exact ⟨⟨fun hm => by have := l1 _ hm; omega, by omega, by omega, by omega⟩, ⟨fun hm => by have := l1 _ hm; omega, by omega, by omega, by omega⟩⟩
end
end Go.Proofs.YtgagiggljlikbaaGreat.Ch
