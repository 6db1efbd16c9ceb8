/- The chain's Insert: Step, the making of one, Code, Tries. -/
import Derived.Test.YtgagiggljlikbaaGreatChI
namespace Go.Proofs.YtgagiggljlikbaaGreat.Ch
open Go.RowKit Go.Proofs.YtgagiggljlikbaaGreat.Mem Go.Proofs.YtgagiggljlikbaaGreat.Ar Go.Proofs.YtgagiggljlikbaaGreat.En
set_option linter.unusedVariables false
set_option linter.unusedSimpArgs false
set_option maxRecDepth 100000

/-- what holds of an Insert between its steps -/
def okI (X : CI) (m : MI) : Prop := m.at_ ≤ 4 ∧ (2 ≤ m.at_ → X.has m.bucket = true ∧ 1 ≤ m.slot ∧ m.slot ≤ 4096)
section
variable {w w' : World} {L : Bk} {A A' : Ars} {xb hb mb : Nat} {X X' : CI} {m : MI}
theorem eql_func (k : Nat) (first : Array Value) (w : World) : (binOp BinOp.eql 38 (.func (.func k) first #[]) .nilFunc).run Tryz.prog w = .ok (.bool false) w := by kernel_rfl
theorem eql_nil (w : World) : (binOp BinOp.eql 38 .nilFunc .nilFunc).run Tryz.prog w = .ok (.bool true) w := by kernel_rfl
def StepsI (w : World) (L : Bk) (xb hb mb : Nat) (X : CI) (A : Ars) (m : MI) (r : Ending) (w' : World) : Prop :=
  r = .returned (.bool (stepI X A m).2.2.2) ∧ Env w' L xb hb (stepI X A m).1 (stepI X A m).2.1 ∧ InsP w' L xb hb mb (stepI X A m).2.2.1 ∧ Keep (mb :: xb :: hb :: L.blocks) w w'
theorem step_ins0 (h : Env w L xb hb X A) (hi : InsP w L xb hb mb m) (hat : m.at_ = 0) :
    Calls Tryz.prog 65 #[.pointer (some ⟨mb, 0, none⟩)] w (StepsI w L xb hb mb X A m) := by
  have c3 : w.cell? ⟨mb, 3, none⟩ = some (nextI mb m.at_) := (cell_of hi.hm 3).trans rfl
  rw [hat] at c3
  have c3' : w.cell? ⟨mb, 3, none⟩ = some .nilFunc := c3
  have e0 := eql_nil
  have hs : stepI X A m = (X, A, m, true) := by simp only [stepI, hat]
  have HH := Lib.hid (And.intro h hi)
  unfold StepsI
  rw [hs]
  clear c3 hat h hi hs
  go_enter Tryz.func65, Tryz.ntmps65
  go_wp2_with fail
  go_ret
  exact ⟨rfl, HH.out.1, HH.out.2, Keep.refl _ _⟩
theorem step_f1 (c3' : w.cell? ⟨mb, 3, none⟩ = some (.func (.func 63) #[.pointer (some ⟨mb, 0, none⟩)] #[])) (C0 : Calls Tryz.prog 63 #[.pointer (some ⟨mb, 0, none⟩)] w (StepsI w L xb hb mb X A m)) :
    Calls Tryz.prog 65 #[.pointer (some ⟨mb, 0, none⟩)] w (StepsI w L xb hb mb X A m) := by
  have e0 := eql_func 63 #[.pointer (some ⟨mb, 0, none⟩)]
  have C := Lib.hid C0
  clear C0
  go_enter Tryz.func65, Tryz.ntmps65
  go_wp2_with fail
  refine C.out.mono ?_
  rintro e w2 ⟨rfl, h2, i2, k2⟩
  have R := Lib.hid (And.intro h2 (And.intro i2 k2))
  obtain ⟨d, hd⟩ : ∃ d, d = (stepI X A m).2.2.2 := ⟨_, rfl⟩
  rw [← hd]
  have HD := Lib.hid hd
  clear h2 i2 k2 hd C
  go_wp2_with fail
  go_ret
  exact ⟨by rw [← HD.out]; rfl, R.out⟩
theorem step_f2 (c3' : w.cell? ⟨mb, 3, none⟩ = some (.func (.func 99) #[.pointer (some ⟨mb, 0, none⟩)] #[])) (C0 : Calls Tryz.prog 99 #[.pointer (some ⟨mb, 0, none⟩)] w (StepsI w L xb hb mb X A m)) :
    Calls Tryz.prog 65 #[.pointer (some ⟨mb, 0, none⟩)] w (StepsI w L xb hb mb X A m) := by
  have e0 := eql_func 99 #[.pointer (some ⟨mb, 0, none⟩)]
  have C := Lib.hid C0
  clear C0
  go_enter Tryz.func65, Tryz.ntmps65
  go_wp2_with fail
  refine C.out.mono ?_
  rintro e w2 ⟨rfl, h2, i2, k2⟩
  have R := Lib.hid (And.intro h2 (And.intro i2 k2))
  obtain ⟨d, hd⟩ : ∃ d, d = (stepI X A m).2.2.2 := ⟨_, rfl⟩
  rw [← hd]
  have HD := Lib.hid hd
  clear h2 i2 k2 hd C
  go_wp2_with fail
  go_ret
  exact ⟨by rw [← HD.out]; rfl, R.out⟩
theorem step_f3 (c3' : w.cell? ⟨mb, 3, none⟩ = some (.func (.func 134) #[.pointer (some ⟨mb, 0, none⟩)] #[])) (C0 : Calls Tryz.prog 134 #[.pointer (some ⟨mb, 0, none⟩)] w (StepsI w L xb hb mb X A m)) :
    Calls Tryz.prog 65 #[.pointer (some ⟨mb, 0, none⟩)] w (StepsI w L xb hb mb X A m) := by
  have e0 := eql_func 134 #[.pointer (some ⟨mb, 0, none⟩)]
  have C := Lib.hid C0
  clear C0
  go_enter Tryz.func65, Tryz.ntmps65
  go_wp2_with fail
  refine C.out.mono ?_
  rintro e w2 ⟨rfl, h2, i2, k2⟩
  have R := Lib.hid (And.intro h2 (And.intro i2 k2))
  obtain ⟨d, hd⟩ : ∃ d, d = (stepI X A m).2.2.2 := ⟨_, rfl⟩
  rw [← hd]
  have HD := Lib.hid hd
  clear h2 i2 k2 hd C
  go_wp2_with fail
  go_ret
  exact ⟨by rw [← HD.out]; rfl, R.out⟩
theorem step_f4 (c3' : w.cell? ⟨mb, 3, none⟩ = some (.func (.func 166) #[.pointer (some ⟨mb, 0, none⟩)] #[])) (C0 : Calls Tryz.prog 166 #[.pointer (some ⟨mb, 0, none⟩)] w (StepsI w L xb hb mb X A m)) :
    Calls Tryz.prog 65 #[.pointer (some ⟨mb, 0, none⟩)] w (StepsI w L xb hb mb X A m) := by
  have e0 := eql_func 166 #[.pointer (some ⟨mb, 0, none⟩)]
  have C := Lib.hid C0
  clear C0
  go_enter Tryz.func65, Tryz.ntmps65
  go_wp2_with fail
  refine C.out.mono ?_
  rintro e w2 ⟨rfl, h2, i2, k2⟩
  have R := Lib.hid (And.intro h2 (And.intro i2 k2))
  obtain ⟨d, hd⟩ : ∃ d, d = (stepI X A m).2.2.2 := ⟨_, rfl⟩
  rw [← hd]
  have HD := Lib.hid hd
  clear h2 i2 k2 hd C
  go_wp2_with fail
  go_ret
  exact ⟨by rw [← HD.out]; rfl, R.out⟩
theorem step_ins (h : Env w L xb hb X A) (hi : InsP w L xb hb mb m) (ho : okI X m) :
    Calls Tryz.prog 65 #[.pointer (some ⟨mb, 0, none⟩)] w (StepsI w L xb hb mb X A m) := by
  obtain ⟨o1, o2⟩ := ho
  have c3 : w.cell? ⟨mb, 3, none⟩ = some (nextI mb m.at_) := (cell_of hi.hm 3).trans rfl
  have h5 : m.at_ = 0 ∨ m.at_ = 1 ∨ m.at_ = 2 ∨ m.at_ = 3 ∨ m.at_ = 4 := by omega
  rcases h5 with e | e | e | e | e <;> rw [e] at c3
  · exact step_ins0 h hi e
  · exact step_f1 c3 (beginI h hi e)
  · obtain ⟨b1, -⟩ := o2 (by omega)
    refine step_f2 c3 ((loadI h hi e b1).mono ?_)
    rintro r w' ⟨rfl, a, b, c⟩
    have hs : stepI X A m = (X.tick, A, { m with at_ := 3, head := X.head m.bucket }, false) := by simp only [stepI, e]
    unfold StepsI
    rw [hs]
    exact ⟨rfl, a, b, c⟩
  · exact step_f3 c3 (storeI h hi e)
  · obtain ⟨b1, b2, b3⟩ := o2 (by omega)
    exact step_f4 c3 (swapI h hi e b1 ⟨by omega, by omega⟩)
/-- the steps keep it -/
theorem okI_step (ho : okI X m) (hw : A.slots ≤ 4096) : okI (stepI X A m).1 (stepI X A m).2.2.1 := by
  obtain ⟨o1, o2⟩ := ho
  have h5 : m.at_ = 0 ∨ m.at_ = 1 ∨ m.at_ = 2 ∨ m.at_ = 3 ∨ m.at_ = 4 := by omega
  have hput : ∀ b v, (X.tick.put b v).has m.bucket = X.has m.bucket := fun b v => by simp [CI.has, CI.put, CI.tick]
  have htick : X.tick.has m.bucket = X.has m.bucket := rfl
  rcases h5 with e | e | e | e | e
  · simp only [stepI, e]
    exact ⟨o1, o2⟩
  · simp only [stepI, e]
    split
    · rename_i hb
      split
      · split
        · rename_i hld _
          refine ⟨by simp, fun _ => ⟨hb, ?_⟩⟩
          unfold ldA at hld
          split at hld
          · rename_i hin
            simp only [inUseB, Bool.and_eq_true, decide_eq_true_eq] at hin
            exact ⟨hin.1.1, by have := hin.1.2; show m.slot ≤ 4096; omega⟩
          · simp at hld
        · exact ⟨by simp [MI.over], fun h => by simp [MI.over] at h⟩
      · exact ⟨by simp [MI.over], fun h => by simp [MI.over] at h⟩
    · exact ⟨by simp [MI.over], fun h => by simp [MI.over] at h⟩
  · simp only [stepI, e]
    exact ⟨by simp, fun _ => o2 (by omega)⟩
  · simp only [stepI, e]
    split
    · exact ⟨by simp, fun _ => o2 (by omega)⟩
    · exact ⟨by simp [MI.over], fun h => by simp [MI.over] at h⟩
  · simp only [stepI, e]
    split
    · exact ⟨by simp [MI.over], fun h => by simp [MI.over] at h⟩
    · exact ⟨by simp, fun _ => o2 (by omega)⟩

theorem Env.lt (h : Env w L xb hb X A) : (∀ x ∈ L.blocks, x < w.heap.size) ∧ xb < w.heap.size ∧ hb < w.heap.size := ⟨h.ar.blk_lt, lt_of h.ix.hx, lt_of h.ix.hh⟩
theorem new_ins (h : Env w L xb hb X A) (b s : Int) :
    Calls Tryz.prog 34 #[.pointer (some ⟨xb, 0, none⟩), .int .i64 b, .int .i64 s] w fun r w' => r = .returned (.pointer (some ⟨w.heap.size, 0, none⟩)) ∧ InsP w' L xb hb w.heap.size (newI b s) ∧ Keep [] w w' := by
  obtain ⟨l1, l2, l3⟩ := h.lt
  obtain ⟨mb, hmb⟩ : ∃ mb, mb = w.heap.size := ⟨_, rfl⟩
  obtain ⟨w1, hw1⟩ : ∃ w1, w1 = w.alloc (.cells #[.pointer (some ⟨xb, 0, none⟩), .int .i64 b, .int .i64 s, .nilFunc, .int .u64 0, .int .i64 0, .int .i64 0] 128) := ⟨_, rfl⟩
  have k1 : Keep [] w w1 := by rw [hw1]; exact (Keep.refl _ _).alloc _
  have b1 : w1.heap[mb]? = some (.cells #[.pointer (some ⟨xb, 0, none⟩), .int .i64 b, .int .i64 s, .nilFunc, .int .u64 0, .int .i64 0, .int .i64 0] 128 (0, 0)) := by rw [hw1, hmb]; exact alloc_new _ _
  have c3 := (cell_of b1 3).trans rfl
  have z3 := free_of b1 3
  have OFF : Hid (mb ∉ L.blocks ∧ mb ≠ xb ∧ mb ≠ hb) := Lib.hid ⟨fun hm => by have := l1 mb hm; omega, by omega, by omega⟩
  have hmf : ∀ (fn : Fn) (first cap : Array Value) (w : World), (Instr.makeFunc fn first cap).run Tryz.prog w = .ok (.func fn first cap) w := fun _ _ _ _ => rfl
  have B1 := Lib.hid b1
  have K1 := Lib.hid k1
  have MB := Lib.hid hmb
  rw [← hmb]
  clear h l1 l2 l3 b1 k1
  go_enter Tryz.func34, Tryz.ntmps34
  go_upto_region 4 with fail
  rw [← hmb, show w.alloc (.cells #[.pointer (some ⟨xb, 0, none⟩), .int .i64 b, .int .i64 s, .nilFunc, .int .u64 0, .int .i64 0, .int .i64 0] 128 (0, 0)) = w1 from hw1.symm]
  clear hw1 hmb
  go_wp2_with fail
  go_ret
  refine ⟨rfl, ⟨?_, OFF.out⟩, ?_⟩
  · have := set_same B1.out 3 (nextI mb 1)
    exact this.trans rfl
  · exact K1.out.set (.inr (by rw [MB.out]; exact Nat.le_refl _)) _ _
theorem code_ins (hi : InsP w L xb hb mb m) :
    Calls Tryz.prog 66 #[.pointer (some ⟨mb, 0, none⟩)] w fun r w' => r = .returned (.int .i64 m.code) ∧ w = w' := by
  have c5 : w.cell? ⟨mb, 5, none⟩ = some (.int .i64 m.code) := (cell_of hi.hm 5).trans rfl
  clear hi
  go_enter Tryz.func66, Tryz.ntmps66
  go_wp2_with fail
  go_ret
  exact ⟨rfl, rfl⟩
theorem tries_ins (hi : InsP w L xb hb mb m) :
    Calls Tryz.prog 117 #[.pointer (some ⟨mb, 0, none⟩)] w fun r w' => r = .returned (.int .i64 m.tries) ∧ w = w' := by
  have c6 : w.cell? ⟨mb, 6, none⟩ = some (.int .i64 m.tries) := (cell_of hi.hm 6).trans rfl
  clear hi
  go_enter Tryz.func117, Tryz.ntmps117
  go_wp2_with fail
  go_ret
  exact ⟨rfl, rfl⟩
end
end Go.Proofs.YtgagiggljlikbaaGreat.Ch
