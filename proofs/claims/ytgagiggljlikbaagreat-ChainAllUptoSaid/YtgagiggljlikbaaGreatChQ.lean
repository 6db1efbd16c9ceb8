/- The chain's Remove: Step, the making of one, Code, Marked, Helped. -/
import Derived.Test.YtgagiggljlikbaaGreatChP
namespace Go.Proofs.YtgagiggljlikbaaGreat.Ch
open Go.RowKit Go.Proofs.YtgagiggljlikbaaGreat.Mem Go.Proofs.YtgagiggljlikbaaGreat.Ar Go.Proofs.YtgagiggljlikbaaGreat.En
set_option linter.unusedVariables false
set_option linter.unusedSimpArgs false
set_option maxRecDepth 100000

/-- what holds of a Remove between its steps -/
structure okR (X : CI) (m : MR) : Prop where
  at_le : m.at_ ≤ 5
  has : 2 ≤ m.at_ → X.has m.bucket = true
  even : m.at_ = 2 → okL m.word ∧ m.word % 2 = 0
  now : m.at_ = 5 → 0 ≤ m.now ∧ m.now ≤ 4096
  now4 : m.at_ = 4 → 0 ≤ m.now ∧ m.now ≤ 4096
  word : m.at_ = 5 → okL m.word
section
variable {w w' : World} {L : Bk} {A A' : Ars} {xb hb mb n : Nat} {X X' : CI} {m : MR}
theorem stepm_begin (c3' : w.cell? ⟨mb, 3, none⟩ = some (.func (.func 64) #[.pointer (some ⟨mb, 0, none⟩)] #[])) (C0 : Calls Tryz.prog 64 #[.pointer (some ⟨mb, 0, none⟩)] w (StepsM w L xb hb mb n X A m)) :
    Calls Tryz.prog 67 #[.pointer (some ⟨mb, 0, none⟩)] w (StepsM w L xb hb mb n X A m) := by
  have e0 := eql_func 64 #[.pointer (some ⟨mb, 0, none⟩)]
  have C := Lib.hid C0
  clear C0
  go_enter Tryz.func67, Tryz.ntmps67
  go_wp2_with fail
  refine C.out.mono ?_
  rintro e w2 ⟨rfl, h2, i2, k2⟩
  have R := Lib.hid (And.intro h2 (And.intro i2 k2))
  obtain ⟨d, hd⟩ : ∃ d, d = (stepR X A m).2.2.2 := ⟨_, rfl⟩
  rw [← hd]
  have HD := Lib.hid hd
  clear h2 i2 k2 hd C
  go_wp2_with fail
  go_ret
  exact ⟨by rw [← HD.out]; rfl, R.out⟩
theorem stepm_own (c3' : w.cell? ⟨mb, 3, none⟩ = some (.func (.func 101) #[.pointer (some ⟨mb, 0, none⟩)] #[])) (C0 : Calls Tryz.prog 101 #[.pointer (some ⟨mb, 0, none⟩)] w (StepsM w L xb hb mb n X A m)) :
    Calls Tryz.prog 67 #[.pointer (some ⟨mb, 0, none⟩)] w (StepsM w L xb hb mb n X A m) := by
  have e0 := eql_func 101 #[.pointer (some ⟨mb, 0, none⟩)]
  have C := Lib.hid C0
  clear C0
  go_enter Tryz.func67, Tryz.ntmps67
  go_wp2_with fail
  refine C.out.mono ?_
  rintro e w2 ⟨rfl, h2, i2, k2⟩
  have R := Lib.hid (And.intro h2 (And.intro i2 k2))
  obtain ⟨d, hd⟩ : ∃ d, d = (stepR X A m).2.2.2 := ⟨_, rfl⟩
  rw [← hd]
  have HD := Lib.hid hd
  clear h2 i2 k2 hd C
  go_wp2_with fail
  go_ret
  exact ⟨by rw [← HD.out]; rfl, R.out⟩
theorem stepm_mark (c3' : w.cell? ⟨mb, 3, none⟩ = some (.func (.func 137) #[.pointer (some ⟨mb, 0, none⟩)] #[])) (C0 : Calls Tryz.prog 137 #[.pointer (some ⟨mb, 0, none⟩)] w (StepsM w L xb hb mb n X A m)) :
    Calls Tryz.prog 67 #[.pointer (some ⟨mb, 0, none⟩)] w (StepsM w L xb hb mb n X A m) := by
  have e0 := eql_func 137 #[.pointer (some ⟨mb, 0, none⟩)]
  have C := Lib.hid C0
  clear C0
  go_enter Tryz.func67, Tryz.ntmps67
  go_wp2_with fail
  refine C.out.mono ?_
  rintro e w2 ⟨rfl, h2, i2, k2⟩
  have R := Lib.hid (And.intro h2 (And.intro i2 k2))
  obtain ⟨d, hd⟩ : ∃ d, d = (stepR X A m).2.2.2 := ⟨_, rfl⟩
  rw [← hd]
  have HD := Lib.hid hd
  clear h2 i2 k2 hd C
  go_wp2_with fail
  go_ret
  exact ⟨by rw [← HD.out]; rfl, R.out⟩
theorem stepm_search (c3' : w.cell? ⟨mb, 3, none⟩ = some (.func (.func 136) #[.pointer (some ⟨mb, 0, none⟩)] #[])) (C0 : Calls Tryz.prog 136 #[.pointer (some ⟨mb, 0, none⟩)] w (StepsM w L xb hb mb n X A m)) :
    Calls Tryz.prog 67 #[.pointer (some ⟨mb, 0, none⟩)] w (StepsM w L xb hb mb n X A m) := by
  have e0 := eql_func 136 #[.pointer (some ⟨mb, 0, none⟩)]
  have C := Lib.hid C0
  clear C0
  go_enter Tryz.func67, Tryz.ntmps67
  go_wp2_with fail
  refine C.out.mono ?_
  rintro e w2 ⟨rfl, h2, i2, k2⟩
  have R := Lib.hid (And.intro h2 (And.intro i2 k2))
  obtain ⟨d, hd⟩ : ∃ d, d = (stepR X A m).2.2.2 := ⟨_, rfl⟩
  rw [← hd]
  have HD := Lib.hid hd
  clear h2 i2 k2 hd C
  go_wp2_with fail
  go_ret
  exact ⟨by rw [← HD.out]; rfl, R.out⟩
theorem stepm_look (c3' : w.cell? ⟨mb, 3, none⟩ = some (.func (.func 174) #[.pointer (some ⟨mb, 0, none⟩)] #[])) (C0 : Calls Tryz.prog 174 #[.pointer (some ⟨mb, 0, none⟩)] w (StepsM w L xb hb mb n X A m)) :
    Calls Tryz.prog 67 #[.pointer (some ⟨mb, 0, none⟩)] w (StepsM w L xb hb mb n X A m) := by
  have e0 := eql_func 174 #[.pointer (some ⟨mb, 0, none⟩)]
  have C := Lib.hid C0
  clear C0
  go_enter Tryz.func67, Tryz.ntmps67
  go_wp2_with fail
  refine C.out.mono ?_
  rintro e w2 ⟨rfl, h2, i2, k2⟩
  have R := Lib.hid (And.intro h2 (And.intro i2 k2))
  obtain ⟨d, hd⟩ : ∃ d, d = (stepR X A m).2.2.2 := ⟨_, rfl⟩
  rw [← hd]
  have HD := Lib.hid hd
  clear h2 i2 k2 hd C
  go_wp2_with fail
  go_ret
  exact ⟨by rw [← HD.out]; rfl, R.out⟩
theorem stepm_unlink (c3' : w.cell? ⟨mb, 3, none⟩ = some (.func (.func 176) #[.pointer (some ⟨mb, 0, none⟩)] #[])) (C0 : Calls Tryz.prog 176 #[.pointer (some ⟨mb, 0, none⟩)] w (StepsM w L xb hb mb n X A m)) :
    Calls Tryz.prog 67 #[.pointer (some ⟨mb, 0, none⟩)] w (StepsM w L xb hb mb n X A m) := by
  have e0 := eql_func 176 #[.pointer (some ⟨mb, 0, none⟩)]
  have C := Lib.hid C0
  clear C0
  go_enter Tryz.func67, Tryz.ntmps67
  go_wp2_with fail
  refine C.out.mono ?_
  rintro e w2 ⟨rfl, h2, i2, k2⟩
  have R := Lib.hid (And.intro h2 (And.intro i2 k2))
  obtain ⟨d, hd⟩ : ∃ d, d = (stepR X A m).2.2.2 := ⟨_, rfl⟩
  rw [← hd]
  have HD := Lib.hid hd
  clear h2 i2 k2 hd C
  go_wp2_with fail
  go_ret
  exact ⟨by rw [← HD.out]; rfl, R.out⟩
theorem stepm_0 (h : Env w L xb hb X A) (hi : RemP w L xb hb mb n m) (hat : m.at_ = 0) :
    Calls Tryz.prog 67 #[.pointer (some ⟨mb, 0, none⟩)] w (StepsM w L xb hb mb n X A m) := by
  obtain ⟨nv, R, hn⟩ := hi.hm
  unfold NextR at hn
  rw [hat] at hn
  have hn' : nv = .nilFunc := hn
  subst hn'
  have c3' : w.cell? ⟨mb, 3, none⟩ = some .nilFunc := (cell_of R 3).trans rfl
  have e0 := eql_nil
  have hs : stepR X A m = (X, A, m, true) := by simp only [stepR, hat]
  have HH := Lib.hid (And.intro h hi)
  unfold StepsM
  rw [hs]
  clear hat h hi hs R hn
  go_enter Tryz.func67, Tryz.ntmps67
  go_wp2_with fail
  go_ret
  exact ⟨rfl, HH.out.1, HH.out.2, Keep.refl _ _⟩
theorem has_iff {X : CI} {b : Int} (hl : X.heads.length = n) : X.has b = true ↔ 0 ≤ b ∧ b < n := by
  simp only [CI.has, Bool.and_eq_true, decide_eq_true_eq]
  rw [hl]
theorem step_rem (h : Env w L xb hb X A) (hi : RemP w L xb hb mb n m) (hl : X.heads.length = n) (ho : okR X m) (hA : okA A) (hH : okH X) :
    Calls Tryz.prog 67 #[.pointer (some ⟨mb, 0, none⟩)] w (StepsM w L xb hb mb n X A m) := by
  have h5 : m.at_ = 0 ∨ m.at_ = 1 ∨ m.at_ = 2 ∨ m.at_ = 3 ∨ m.at_ = 4 ∨ m.at_ = 5 := by have := ho.at_le; omega
  obtain ⟨nv, R, hn⟩ := hi.hm
  have c3 : w.cell? ⟨mb, 3, none⟩ = some nv := (cell_of R 3).trans rfl
  unfold NextR at hn
  rcases h5 with e | e | e | e | e | e <;> rw [e] at hn
  · exact stepm_0 h hi e
  · rcases hn with rfl | ⟨rfl, h1⟩
    · exact stepm_begin c3 (beginM h hi e hA)
    · exact stepm_own c3 (ownM h hi e ((has_iff hl).2 h1) hA)
  · obtain rfl : nv = _ := hn
    exact stepm_mark c3 (markM h hi e ((has_iff hl).1 (ho.has (by omega))) (ho.even e))
  · obtain rfl : nv = _ := hn
    exact stepm_search c3 (searchM h hi e (ho.has (by omega)) hH)
  · obtain rfl : nv = _ := hn
    exact stepm_look c3 (lookM h hi e hA)
  · obtain rfl : nv = _ := hn
    have := ho.now e
    exact stepm_unlink c3 (unlinkM h hi e (ho.has (by omega)) (ho.word e) ⟨by omega, by omega⟩)
theorem num_ok {v : Int} (h : okL v) : 0 ≤ numL v ∧ numL v ≤ 4352 := by
  obtain ⟨h0, h1⟩ := h
  unfold numL
  omega
theorem okR_done {m : MR} (e : Int) : okR X (m.over e) := ⟨by simp [MR.over], fun h => by simp [MR.over] at h, fun h => by simp [MR.over] at h, fun h => by simp [MR.over] at h, fun h => by simp [MR.over] at h, fun h => by simp [MR.over] at h⟩
theorem okR_come {m : MR} {s : Int} (hh : X.has m.bucket = true) (hs : 0 ≤ s) : okR X (m.come s).1 := by
  unfold MR.come
  cases hb : beyond s with
  | true => exact okR_done 0
  | false =>
    have h4 : s ≤ 4096 := by simpa [beyond] using hb
    exact ⟨by simp, fun _ => hh, fun h => by simp at h, fun h => by simp at h, fun _ => ⟨hs, h4⟩, fun h => by simp at h⟩
theorem has_put (b v c : Int) : (X.put b v).has c = X.has c := by simp [CI.has, CI.put]
theorem cas_slots (A : Ars) (s : Int) (c : Nat) (x y : Int) : (casA A s c x y).1.slots = A.slots := by
  unfold casA
  split
  · split <;> rfl
  · rfl
/-- the steps keep it -/
theorem okR_step (ho : okR X m) (hA : okA A) (hH : okH X) : okR (stepR X A m).1 (stepR X A m).2.2.1 := by
  have h5 : m.at_ = 0 ∨ m.at_ = 1 ∨ m.at_ = 2 ∨ m.at_ = 3 ∨ m.at_ = 4 ∨ m.at_ = 5 := by have := ho.at_le; omega
  rcases h5 with e | e | e | e | e | e
  · simp only [stepR, e]
    exact ho
  · have hok := hA.ld m.slot X.cell
    simp only [stepR, e]
    split
    · rename_i hh
      split
      · split
        · exact okR_done _
        · split
          · exact ⟨by simp, fun _ => hh, fun h => by simp at h, fun h => by simp at h, fun h => by simp at h, fun h => by simp at h⟩
          · rename_i hmk
            refine ⟨by simp, fun _ => hh, fun _ => ⟨hok, ?_⟩, fun h => by simp at h, fun h => by simp at h, fun h => by simp at h⟩
            have : ¬ (ldA A m.slot X.cell).2.1 % 2 = 1 := by simpa [mkL] using hmk
            show (ldA A m.slot X.cell).2.1 % 2 = 0
            have := hok.1
            omega
      · exact okR_done _
    · exact okR_done _
  · have hh := ho.has (by omega)
    simp only [stepR, e]
    split
    · split
      · exact ⟨by simp, fun _ => hh, fun h => by simp at h, fun h => by simp at h, fun h => by simp at h, fun h => by simp at h⟩
      · exact ⟨by simp, fun h => by simp at h, fun h => by simp at h, fun h => by simp at h, fun h => by simp at h, fun h => by simp at h⟩
    · exact okR_done _
  · have hh := ho.has (by omega)
    simp only [stepR, e]
    exact okR_come (X := X.tick) hh (num_ok (hH.head _)).1
  · have hh := ho.has (by omega)
    have hok := hA.ld m.now X.cell
    have hnow := ho.now4 e
    simp only [stepR, e]
    split
    · split
      · exact okR_done _
      · split
        · exact ⟨by simp, fun _ => hh, fun h => by simp at h, fun _ => hnow, fun h => by simp at h, fun _ => hok⟩
        · exact okR_come hh (num_ok hok).1
    · exact okR_done _
  · have hh := ho.has (by omega)
    have hwd := ho.word e
    have hX : ∀ b f x y, (swA X A b f x y).1.has m.bucket = X.has m.bucket := fun b f x y => by
      unfold swA
      split
      · split
        · exact has_put _ _ _
        · rfl
      · rfl
    simp only [stepR, e]
    split
    · split
      · split
        · exact okR_done _
        · exact okR_come (X := (swA X A m.bucket m.ahead (lk m.now) (lk (numL m.word))).1) (by rw [← hh]; exact hX _ _ _ _) (num_ok hwd).1
      · exact ⟨by simp, fun _ => by rw [← hh]; exact hX _ _ _ _, fun h => by simp at h, fun h => by simp at h, fun h => by simp at h, fun h => by simp at h⟩
    · exact okR_done _
theorem okR_new (b s : Int) : okR X (newR b s) := ⟨by simp [newR], fun h => by simp [newR] at h, fun h => by simp [newR] at h, fun h => by simp [newR] at h, fun h => by simp [newR] at h, fun h => by simp [newR] at h⟩
theorem new_rem (h : Env w L xb hb X A) (b s : Int) :
    Calls Tryz.prog 36 #[.pointer (some ⟨xb, 0, none⟩), .int .i64 b, .int .i64 s] w fun r w' => r = .returned (.pointer (some ⟨w.heap.size, 0, none⟩)) ∧ RemP w' L xb hb w.heap.size n (newR b s) ∧ Keep [] w w' := by
  obtain ⟨l1, l2, l3⟩ := h.lt
  obtain ⟨mb, hmb⟩ : ∃ mb, mb = w.heap.size := ⟨_, rfl⟩
  obtain ⟨w1, hw1⟩ : ∃ w1, w1 = w.alloc (.cells #[.pointer (some ⟨xb, 0, none⟩), .int .i64 b, .int .i64 s, .nilFunc, .int .u64 0, .int .i64 0, .int .i64 0, .int .i64 0, .bool false, .int .i64 0] 130) := ⟨_, rfl⟩
  have k1 : Keep [] w w1 := by rw [hw1]; exact (Keep.refl _ _).alloc _
  have b1 : RemM w1 xb mb b s .nilFunc 0 0 0 0 false 0 := by rw [hw1, hmb]; exact alloc_new _ _
  have c3 : w1.cell? ⟨mb, 3, none⟩ = some .nilFunc := (cell_of b1 3).trans rfl
  have z3 := free_of b1 3
  have OFF : Hid (mb ∉ L.blocks ∧ mb ≠ xb ∧ mb ≠ hb) := Lib.hid ⟨fun hm => by have := l1 mb hm; omega, by omega, by omega⟩
  have hmf : ∀ (fn : Fn) (first cap : Array Value) (w : World), (Instr.makeFunc fn first cap).run Tryz.prog w = .ok (.func fn first cap) w := fun _ _ _ _ => rfl
  have B1 := Lib.hid b1
  have K1 := Lib.hid k1
  have MB := Lib.hid hmb
  rw [← hmb]
  clear h l1 l2 l3 b1 k1
  go_enter Tryz.func36, Tryz.ntmps36
  go_upto_region 4 with fail
  rw [← hmb, show w.alloc (.cells #[.pointer (some ⟨xb, 0, none⟩), .int .i64 b, .int .i64 s, .nilFunc, .int .u64 0, .int .i64 0, .int .i64 0, .int .i64 0, .bool false, .int .i64 0] 130 (0, 0)) = w1 from hw1.symm]
  clear hw1 hmb
  go_wp2_with fail
  go_ret
  refine ⟨rfl, ⟨⟨fnR 64 mb, ?_, .inl rfl⟩, OFF.out⟩, ?_⟩
  · exact (set_same B1.out 3 (fnR 64 mb)).trans rfl
  · exact K1.out.set (.inr (by rw [MB.out]; exact Nat.le_refl _)) _ _
theorem code_rem (hi : RemP w L xb hb mb n m) :
    Calls Tryz.prog 70 #[.pointer (some ⟨mb, 0, none⟩)] w fun r w' => r = .returned (.int .i64 m.code) ∧ w = w' := by
  obtain ⟨nv, R, hn⟩ := hi.hm
  have c5 : w.cell? ⟨mb, 7, none⟩ = some (.int .i64 m.code) := (cell_of R 7).trans rfl
  clear hi R hn
  go_enter Tryz.func70, Tryz.ntmps70
  go_wp2_with fail
  go_ret
  exact ⟨rfl, rfl⟩
theorem helped_rem (hi : RemP w L xb hb mb n m) :
    Calls Tryz.prog 119 #[.pointer (some ⟨mb, 0, none⟩)] w fun r w' => r = .returned (.int .i64 m.helped) ∧ w = w' := by
  obtain ⟨nv, R, hn⟩ := hi.hm
  have c5 : w.cell? ⟨mb, 9, none⟩ = some (.int .i64 m.helped) := (cell_of R 9).trans rfl
  clear hi R hn
  go_enter Tryz.func119, Tryz.ntmps119
  go_wp2_with fail
  go_ret
  exact ⟨rfl, rfl⟩
theorem marked_rem (hi : RemP w L xb hb mb n m) :
    Calls Tryz.prog 68 #[.pointer (some ⟨mb, 0, none⟩)] w fun r w' => r = .returned (.bool m.marked) ∧ w = w' := by
  obtain ⟨nv, R, hn⟩ := hi.hm
  have c5 : w.cell? ⟨mb, 8, none⟩ = some (.bool m.marked) := (cell_of R 8).trans rfl
  clear hi R hn
  go_enter Tryz.func68, Tryz.ntmps68
  go_wp2_with fail
  go_ret
  exact ⟨rfl, rfl⟩
end
end Go.Proofs.YtgagiggljlikbaaGreat.Ch
