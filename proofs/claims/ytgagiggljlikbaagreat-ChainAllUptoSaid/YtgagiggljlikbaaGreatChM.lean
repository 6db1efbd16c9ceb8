/- The chain's Walk: Step of one that is not ended. -/
import Derived.Test.YtgagiggljlikbaaGreatChL
namespace Go.Proofs.YtgagiggljlikbaaGreat.Ch
open Go.RowKit Go.Proofs.YtgagiggljlikbaaGreat.Mem Go.Proofs.YtgagiggljlikbaaGreat.Ar Go.Proofs.YtgagiggljlikbaaGreat.En
set_option linter.unusedVariables false
set_option linter.unusedSimpArgs false
set_option maxRecDepth 100000

section
variable {w w' w2 : World} {L : Bk} {A A' : Ars} {xb hb mb vb sb : Nat} {X X' : CI} {m m' : MW} {S : List Nat} {sv : Value} {nx wv er : Int}
theorem neq_func (k : Nat) (first cap : Array Value) (w : World) : (binOp BinOp.neq 80 (.func (.func k) first cap) .nilFunc).run Tryz.prog w = .ok (.bool true) w := by kernel_rfl
theorem neq_nilf (w : World) : (binOp BinOp.neq 80 .nilFunc .nilFunc).run Tryz.prog w = .ok (.bool false) w := by kernel_rfl
theorem eqls_func (k : Nat) (first cap : Array Value) (w : World) : (binOp BinOp.eql 80 (.func (.func k) first cap) .nilFunc).run Tryz.prog w = .ok (.bool false) w := by kernel_rfl
theorem eqls_nilf (w : World) : (binOp BinOp.eql 80 .nilFunc .nilFunc).run Tryz.prog w = .ok (.bool true) w := by kernel_rfl

/-- a walk's record -/
def Rec (w : World) (xb mb : Nat) (bv : Int) (sv : Value) (nx sl : Int) (en : Bool) (co : Int) : Prop :=
  w.heap[mb]? = some (.cells #[.pointer (some ⟨xb, 0, none⟩), .int .i64 bv, sv, .int .i64 nx, .int .i64 sl, .bool en, .int .i64 co] 82 (0, 0))
/-- what a walk's source answers at this world -/
def Src (w : World) (L : Bk) (xb hb : Nat) (X' : CI) (A' : Ars) (wv er : Int) (r : Ending) (w' : World) : Prop :=
  r = .returned (.tuple #[.int .u64 wv, .int .i64 er]) ∧ Env w' L xb hb X' A' ∧ Keep (xb :: L.blocks) w w'
/-- the bucket's number in memory -/
def bvW (m : MW) : Int := if m.whole then m.bucket else -1
/-- behind a walk's step -/
theorem wl_end (hi : WlkP w L xb hb mb vb sb m) (h2 : Env w2 L xb hb X' A') (k2 : Keep (mb :: xb :: L.blocks) w w2) {sv : Value} {nx sl co : Int} {en : Bool} (hr : Rec w' xb mb (bvW m) sv nx sl en co)
    (k : Keep [mb] w2 w') (hm : m'.whole = m.whole ∧ m'.bucket = m.bucket ∧ m'.from_ = m.from_ ∧ m'.slot = sl ∧ m'.ended = en ∧ m'.code = co) (hs : m'.ended = false → sv = srcV mb vb sb m' ∧ (m'.src = false → nx = m'.next)) :
    Env w' L xb hb X' A' ∧ WlkP w' L xb hb mb vb sb m' ∧ Keep (mb :: xb :: hb :: L.blocks) w w' := by
  obtain ⟨e1, e2, e3, e4, e5, e6⟩ := hm
  refine ⟨h2.keep k (fun x hx => by rw [List.mem_singleton.1 hx]; exact hi.off), ⟨⟨sv, nx, ?_, hs⟩, fun e => ?_, hi.off, fun e => hi.offc (e1 ▸ e)⟩, (k2.mono (fun x hx => ?_)).trans (k.mono (by simp))⟩
  · rw [hr]
    unfold wlkCells
    rw [e1, e2, e4, e5, e6]
    rfl
  · have e' : m.whole = false := e1 ▸ e
    obtain ⟨o1, o2⟩ := hi.offc e'
    have n1 : vb ∉ mb :: xb :: L.blocks := by simp [o1]
    have n2 : sb ∉ mb :: xb :: L.blocks := by simp [o2]
    rw [e3]
    exact ⟨k.old (k2.old (hi.cap e').1 n1) (by simpa using o1.2.2.2), k.old (k2.old (hi.cap e').2 n2) (by simpa using o2.2.2.2)⟩
  · simp only [List.mem_cons] at hx ⊢
    rcases hx with h | h | h
    · exact .inl h
    · exact .inr (.inl h)
    · exact .inr (.inr (.inr h))
theorem sees_x (h : Env w L xb hb X A) : w.cell? ⟨xb, 0, none⟩ = some (.pointer (some ⟨L.b, 0, none⟩)) ∧ w.cell? ⟨xb, 1, none⟩ = some (.int .i64 X.cell) := ⟨(cell_of h.ix.hx 0).trans rfl, (cell_of h.ix.hx 1).trans rfl⟩

set_option maxHeartbeats 8000000 in
theorem step_head (hi : WlkP w L xb hb mb vb sb m) (hw : m.whole = true) (he : m.ended = false) (hsr : m.src = true) (ho : okL wv) (hr : srcW X A m = (X', A', wv, er)) (hbk : m.whole = true → er = 0 → 0 ≤ m.bucket ∧ m.bucket ≤ 1000000)
    (hS : ∀ w1, Keep [mb] w w1 → w1.cell? ⟨mb, 0, none⟩ = some (.pointer (some ⟨xb, 0, none⟩)) → w1.cell? ⟨mb, 1, none⟩ = some (.int .i64 m.bucket) → Calls Tryz.prog 43 #[.pointer (some ⟨mb, 0, none⟩)] w1 (Src w1 L xb hb X' A' wv er)) :
    Calls Tryz.prog 23 #[.pointer (some ⟨mb, 0, none⟩)] w (StepsW w L xb hb mb vb sb X A m) := by
  obtain ⟨sv, nx, hm, hsv⟩ := hi.hm
  obtain ⟨e1, -⟩ := hsv he
  have e1' : sv = (.func (.func 43) #[.pointer (some ⟨mb, 0, none⟩)] #[]) := by rw [e1]; unfold srcV; simp [hsr, hw]
  subst e1'
  have R : Rec w xb mb m.bucket (.func (.func 43) #[.pointer (some ⟨mb, 0, none⟩)] #[]) nx m.slot false m.code := by
    rw [Rec, hm, ← he]
    simp [wlkCells, hw]
  have R1 := set_same R 4 (.int .i64 0)
  have c4 : w.cell? ⟨mb, 4, none⟩ = some (.int .i64 m.slot) := (cell_of R 4).trans rfl
  have z4 := free_of R 4
  have d5 : (w.setCell ⟨mb, 4, none⟩ (.int .i64 0)).cell? ⟨mb, 5, none⟩ = some (.bool false) := (cell_of R1 5).trans rfl
  have d2 : (w.setCell ⟨mb, 4, none⟩ (.int .i64 0)).cell? ⟨mb, 2, none⟩ = some (.func (.func 43) #[.pointer (some ⟨mb, 0, none⟩)] #[]) := (cell_of R1 2).trans rfl
  have e0 := neq_func 43 #[.pointer (some ⟨mb, 0, none⟩)] #[]
  have e0' := eqls_func 43 #[.pointer (some ⟨mb, 0, none⟩)] #[]
  have k1 : Keep [mb] w (w.setCell ⟨mb, 4, none⟩ (.int .i64 0)) := keep_set (Keep.refl _ _) (by simp) _ _
  have C := Lib.hid (hS _ k1 ((cell_of R1 0).trans rfl) ((cell_of R1 1).trans rfl))
  have HI := Lib.hid hi
  have K1 := Lib.hid k1
  have RR := Lib.hid R1
  have HO := Lib.hid ho
  have HB := Lib.hid hbk
  have OFF : Hid (mb ∉ xb :: L.blocks) := Lib.hid (by simp [hi.off])
  obtain ⟨t, ht⟩ : ∃ t, t = tailW X' A' m wv er := ⟨_, rfl⟩
  have HT : Hid (stepW X A m = t) := Lib.hid ((stepW_tail he hr).trans ht.symm)
  have TT := Lib.hid ht
  have HW := Lib.hid (And.intro hw (And.intro hsr he))
  unfold StepsW
  rw [HT.out]
  clear ht hS hi hm hsv e1 R R1 k1 hr hbk ho hw he hsr
  go_enter Tryz.func23, Tryz.ntmps23
  go_wp2_with fail
  refine C.out.mono ?_
  rintro e w2 ⟨rfl, h2, k2⟩
  have KK := Lib.hid ((K1.out.mono (by simp)).trans (k2.mono (fun x hx => List.mem_cons_of_mem _ hx)) : Keep (mb :: xb :: L.blocks) w w2)
  have R2 : Rec w2 xb mb m.bucket (.func (.func 43) #[.pointer (some ⟨mb, 0, none⟩)] #[]) nx 0 false m.code := k2.old RR.out OFF.out
  have H2 := Lib.hid (And.intro h2 k2)
  have f0 : w2.cell? ⟨mb, 0, none⟩ = some (.pointer (some ⟨xb, 0, none⟩)) := (cell_of R2 0).trans rfl
  have f1 : w2.cell? ⟨mb, 1, none⟩ = some (.int .i64 m.bucket) := (cell_of R2 1).trans rfl
  have f2 : w2.cell? ⟨mb, 2, none⟩ = some (.func (.func 43) #[.pointer (some ⟨mb, 0, none⟩)] #[]) := (cell_of R2 2).trans rfl
  have f3 : w2.cell? ⟨mb, 3, none⟩ = some (.int .i64 nx) := (cell_of R2 3).trans rfl
  have f4 : w2.cell? ⟨mb, 4, none⟩ = some (.int .i64 0) := (cell_of R2 4).trans rfl
  have f5 : w2.cell? ⟨mb, 5, none⟩ = some (.bool false) := (cell_of R2 5).trans rfl
  have f6 : w2.cell? ⟨mb, 6, none⟩ = some (.int .i64 m.code) := (cell_of R2 6).trans rfl
  have g2 := free_of R2 2
  have g3 := free_of R2 3
  have g4 := free_of R2 4
  have g5 := free_of R2 5
  have g6 := free_of R2 6
  have RR2 := Lib.hid R2
  clear R2 c4 z4 d5 d2 h2 k2
  by_cases h0 : er = 0
  · subst h0
    by_cases hn : numL wv = 0
    · have hq : (wv / 2 == 0) = true := by have : wv / 2 = 0 := hn; simp [this]
      have T : tailW X' A' m wv 0 = (X', A', { m with slot := 0, ended := true, code := 42 }, true) := by unfold tailW; rw [if_pos rfl, if_pos hn]
      have T2 := Lib.hid (TT.out.trans T)
      clear T
      go_wp2_with fail
      go_ret
      rw [T2.out]
      exact ⟨rfl, wl_end HI.out H2.out.1 KK.out ((set_same (set_same RR2.out 5 (.bool true)) 6 (.int .i64 42)).trans (by rw [bvW, HW.out.1]; rfl)) (keep_set (keep_set (Keep.refl _ _) (by simp) _ _) (by simp) _ _) ⟨rfl, rfl, rfl, rfl, rfl, rfl⟩ (fun e => by cases e)⟩
    · have hq : (wv / 2 == 0) = false := by have : ¬ wv / 2 = 0 := hn; simp [this]
      obtain ⟨nn, hnn⟩ : ∃ nn, nn = numL wv := ⟨_, rfl⟩
      obtain ⟨mk, hmk⟩ : ∃ mk, mk = mkL wv := ⟨_, rfl⟩
      obtain ⟨by_, hby⟩ : ∃ by_, by_ = beyond nn := ⟨_, rfl⟩
      have CA : Hid (∀ wx, Calls Tryz.prog 45 #[.int .u64 wv] wx fun e w' => e = .returned (.tuple #[.int .i64 nn, .bool mk]) ∧ wx = w') := Lib.hid fun wx => by rw [hnn, hmk]; exact apart_ wv wx HO.out
      have CB : Hid (∀ wx, Calls Tryz.prog 46 #[.int .i64 nn] wx fun e w' => e = .returned (.bool by_) ∧ wx = w') := Lib.hid fun wx => by rw [hby]; exact beyond_ nn wx
      have hb1 := (HB.out HW.out.1 rfl).1
      have hb2 := (HB.out HW.out.1 rfl).2
      have CL : Hid (∀ wx, Calls Tryz.prog 47 #[.int .i64 m.bucket] wx fun e w' => e = .returned (.int .i64 (last m.bucket)) ∧ wx = w') := Lib.hid fun wx => last_ m.bucket wx hb1 hb2
      have T : tailW X' A' m wv 0 = (X', A', { m with src := false, next := nn, slot := 0, ended := by_, code := if by_ && true && decide (nn ≠ last m.bucket) then 43 else m.code }, by_ || decide (0 ≠ 0)) := by
        unfold tailW
        rw [if_pos rfl, if_neg hn, ← hnn, ← hmk, ← hby, HW.out.1, HW.out.2.1]
        simp
      have T2 := Lib.hid (TT.out.trans T)
      clear T hn hnn hmk hby
      go_wp2_with fail
      refine (CA.out _).mono ?_
      rintro e wx ⟨rfl, rfl⟩
      go_wp2_with fail
      refine (CB.out _).mono ?_
      rintro e wx ⟨rfl, rfl⟩
      cases by_
      · go_wp2_with fail
        go_ret
        rw [T2.out]
        exact ⟨rfl, wl_end HI.out H2.out.1 KK.out ((set_same (set_same RR2.out 2 .nilFunc) 3 _).trans (by rw [bvW, HW.out.1]; rfl)) (keep_set (keep_set (Keep.refl _ _) (by simp) _ _) (by simp) _ _) ⟨rfl, rfl, rfl, rfl, rfl, rfl⟩ (fun e => ⟨rfl, fun _ => rfl⟩)⟩
      · go_wp2_with fail
        refine (CL.out _).mono ?_
        rintro e wx ⟨rfl, rfl⟩
        by_cases hl : nn = last m.bucket
        · have hl' : (nn != last m.bucket) = false := by simp [hl]
          go_wp2_with fail
          go_ret
          rw [T2.out]
          rw [show (decide (nn ≠ last m.bucket)) = false from by simp [hl]]
          exact ⟨rfl, wl_end HI.out H2.out.1 KK.out ((set_same (set_same (set_same RR2.out 2 .nilFunc) 3 _) 5 (.bool true)).trans (by rw [bvW, HW.out.1]; rfl)) (keep_set (keep_set (keep_set (Keep.refl _ _) (by simp) _ _) (by simp) _ _) (by simp) _ _) ⟨rfl, rfl, rfl, rfl, rfl, rfl⟩ (fun e => by cases e)⟩
        · have hl' : (nn != last m.bucket) = true := by simp [hl]
          go_wp2_with fail
          go_ret
          rw [T2.out]
          rw [show (decide (nn ≠ last m.bucket)) = true from by simp [hl]]
          exact ⟨rfl, wl_end HI.out H2.out.1 KK.out ((set_same (set_same (set_same (set_same RR2.out 2 .nilFunc) 3 _) 5 (.bool true)) 6 (.int .i64 43)).trans (by rw [bvW, HW.out.1]; rfl)) (keep_set (keep_set (keep_set (keep_set (Keep.refl _ _) (by simp) _ _) (by simp) _ _) (by simp) _ _) (by simp) _ _) ⟨rfl, rfl, rfl, rfl, rfl, rfl⟩ (fun e => by cases e)⟩
  · have he' : (er == 0) = false := by simpa using h0
    have T : tailW X' A' m wv er = (X', A', { m with slot := 0, ended := true, code := er }, true) := by unfold tailW; rw [if_neg h0]
    have T2 := Lib.hid (TT.out.trans T)
    clear T
    go_wp2_with fail
    go_ret
    rw [T2.out]
    exact ⟨rfl, wl_end HI.out H2.out.1 KK.out ((set_same (set_same RR2.out 5 (.bool true)) 6 (.int .i64 er)).trans (by rw [bvW, HW.out.1]; rfl)) (keep_set (keep_set (Keep.refl _ _) (by simp) _ _) (by simp) _ _) ⟨rfl, rfl, rfl, rfl, rfl, rfl⟩ (fun e => by cases e)⟩
set_option maxHeartbeats 8000000 in
theorem step_behind (hi : WlkP w L xb hb mb vb sb m) (hw : m.whole = false) (he : m.ended = false) (hsr : m.src = true) (ho : okL wv) (hr : srcW X A m = (X', A', wv, er)) (hbk : m.whole = true → er = 0 → 0 ≤ m.bucket ∧ m.bucket ≤ 1000000)
    (hS : ∀ w1, Keep [mb] w w1 → Calls Tryz.prog 140 #[.pointer (some ⟨vb, 0, none⟩), .pointer (some ⟨sb, 0, none⟩)] w1 (Src w1 L xb hb X' A' wv er)) :
    Calls Tryz.prog 23 #[.pointer (some ⟨mb, 0, none⟩)] w (StepsW w L xb hb mb vb sb X A m) := by
  obtain ⟨sv, nx, hm, hsv⟩ := hi.hm
  obtain ⟨e1, -⟩ := hsv he
  have e1' : sv = (.func (.func 140) #[] #[.pointer (some ⟨vb, 0, none⟩), .pointer (some ⟨sb, 0, none⟩)]) := by rw [e1]; unfold srcV; simp [hsr, hw]
  subst e1'
  have R : Rec w xb mb (-1) (.func (.func 140) #[] #[.pointer (some ⟨vb, 0, none⟩), .pointer (some ⟨sb, 0, none⟩)]) nx m.slot false m.code := by
    rw [Rec, hm, ← he]
    simp [wlkCells, hw]
  have R1 := set_same R 4 (.int .i64 0)
  have c4 : w.cell? ⟨mb, 4, none⟩ = some (.int .i64 m.slot) := (cell_of R 4).trans rfl
  have z4 := free_of R 4
  have d5 : (w.setCell ⟨mb, 4, none⟩ (.int .i64 0)).cell? ⟨mb, 5, none⟩ = some (.bool false) := (cell_of R1 5).trans rfl
  have d2 : (w.setCell ⟨mb, 4, none⟩ (.int .i64 0)).cell? ⟨mb, 2, none⟩ = some (.func (.func 140) #[] #[.pointer (some ⟨vb, 0, none⟩), .pointer (some ⟨sb, 0, none⟩)]) := (cell_of R1 2).trans rfl
  have e0 := neq_func 140 #[] #[.pointer (some ⟨vb, 0, none⟩), .pointer (some ⟨sb, 0, none⟩)]
  have e0' := eqls_func 140 #[] #[.pointer (some ⟨vb, 0, none⟩), .pointer (some ⟨sb, 0, none⟩)]
  have k1 : Keep [mb] w (w.setCell ⟨mb, 4, none⟩ (.int .i64 0)) := keep_set (Keep.refl _ _) (by simp) _ _
  have C := Lib.hid (hS _ k1)
  have HI := Lib.hid hi
  have K1 := Lib.hid k1
  have RR := Lib.hid R1
  have HO := Lib.hid ho
  have HB := Lib.hid hbk
  have OFF : Hid (mb ∉ xb :: L.blocks) := Lib.hid (by simp [hi.off])
  obtain ⟨t, ht⟩ : ∃ t, t = tailW X' A' m wv er := ⟨_, rfl⟩
  have HT : Hid (stepW X A m = t) := Lib.hid ((stepW_tail he hr).trans ht.symm)
  have TT := Lib.hid ht
  have HW := Lib.hid (And.intro hw (And.intro hsr he))
  unfold StepsW
  rw [HT.out]
  clear ht hS hi hm hsv e1 R R1 k1 hr hbk ho hw he hsr
  go_enter Tryz.func23, Tryz.ntmps23
  go_wp2_with fail
  refine C.out.mono ?_
  rintro e w2 ⟨rfl, h2, k2⟩
  have KK := Lib.hid ((K1.out.mono (by simp)).trans (k2.mono (fun x hx => List.mem_cons_of_mem _ hx)) : Keep (mb :: xb :: L.blocks) w w2)
  have R2 : Rec w2 xb mb (-1) (.func (.func 140) #[] #[.pointer (some ⟨vb, 0, none⟩), .pointer (some ⟨sb, 0, none⟩)]) nx 0 false m.code := k2.old RR.out OFF.out
  have H2 := Lib.hid (And.intro h2 k2)
  have f0 : w2.cell? ⟨mb, 0, none⟩ = some (.pointer (some ⟨xb, 0, none⟩)) := (cell_of R2 0).trans rfl
  have f1 : w2.cell? ⟨mb, 1, none⟩ = some (.int .i64 (-1)) := (cell_of R2 1).trans rfl
  have f2 : w2.cell? ⟨mb, 2, none⟩ = some (.func (.func 140) #[] #[.pointer (some ⟨vb, 0, none⟩), .pointer (some ⟨sb, 0, none⟩)]) := (cell_of R2 2).trans rfl
  have f3 : w2.cell? ⟨mb, 3, none⟩ = some (.int .i64 nx) := (cell_of R2 3).trans rfl
  have f4 : w2.cell? ⟨mb, 4, none⟩ = some (.int .i64 0) := (cell_of R2 4).trans rfl
  have f5 : w2.cell? ⟨mb, 5, none⟩ = some (.bool false) := (cell_of R2 5).trans rfl
  have f6 : w2.cell? ⟨mb, 6, none⟩ = some (.int .i64 m.code) := (cell_of R2 6).trans rfl
  have g2 := free_of R2 2
  have g3 := free_of R2 3
  have g4 := free_of R2 4
  have g5 := free_of R2 5
  have g6 := free_of R2 6
  have RR2 := Lib.hid R2
  clear R2 c4 z4 d5 d2 h2 k2
  by_cases h0 : er = 0
  · subst h0
    by_cases hn : numL wv = 0
    · have hq : (wv / 2 == 0) = true := by have : wv / 2 = 0 := hn; simp [this]
      have T : tailW X' A' m wv 0 = (X', A', { m with slot := 0, ended := true, code := 42 }, true) := by unfold tailW; rw [if_pos rfl, if_pos hn]
      have T2 := Lib.hid (TT.out.trans T)
      clear T
      go_wp2_with fail
      go_ret
      rw [T2.out]
      exact ⟨rfl, wl_end HI.out H2.out.1 KK.out ((set_same (set_same RR2.out 5 (.bool true)) 6 (.int .i64 42)).trans (by rw [bvW, HW.out.1]; rfl)) (keep_set (keep_set (Keep.refl _ _) (by simp) _ _) (by simp) _ _) ⟨rfl, rfl, rfl, rfl, rfl, rfl⟩ (fun e => by cases e)⟩
    · have hq : (wv / 2 == 0) = false := by have : ¬ wv / 2 = 0 := hn; simp [this]
      obtain ⟨nn, hnn⟩ : ∃ nn, nn = numL wv := ⟨_, rfl⟩
      obtain ⟨mk, hmk⟩ : ∃ mk, mk = mkL wv := ⟨_, rfl⟩
      obtain ⟨by_, hby⟩ : ∃ by_, by_ = beyond nn := ⟨_, rfl⟩
      have CA : Hid (∀ wx, Calls Tryz.prog 45 #[.int .u64 wv] wx fun e w' => e = .returned (.tuple #[.int .i64 nn, .bool mk]) ∧ wx = w') := Lib.hid fun wx => by rw [hnn, hmk]; exact apart_ wv wx HO.out
      have CB : Hid (∀ wx, Calls Tryz.prog 46 #[.int .i64 nn] wx fun e w' => e = .returned (.bool by_) ∧ wx = w') := Lib.hid fun wx => by rw [hby]; exact beyond_ nn wx
      have T : tailW X' A' m wv 0 = (X', A', { m with src := false, next := nn, slot := 0, ended := by_, code := if by_ && false && decide (nn ≠ last m.bucket) then 43 else m.code }, by_ || decide (0 ≠ 0)) := by
        unfold tailW
        rw [if_pos rfl, if_neg hn, ← hnn, ← hmk, ← hby, HW.out.1, HW.out.2.1]
        simp
      have T2 := Lib.hid (TT.out.trans T)
      clear T hn hnn hmk hby
      go_wp2_with fail
      refine (CA.out _).mono ?_
      rintro e wx ⟨rfl, rfl⟩
      go_wp2_with fail
      refine (CB.out _).mono ?_
      rintro e wx ⟨rfl, rfl⟩
      cases by_
      · go_wp2_with fail
        go_ret
        rw [T2.out]
        exact ⟨rfl, wl_end HI.out H2.out.1 KK.out ((set_same (set_same RR2.out 2 .nilFunc) 3 _).trans (by rw [bvW, HW.out.1]; rfl)) (keep_set (keep_set (Keep.refl _ _) (by simp) _ _) (by simp) _ _) ⟨rfl, rfl, rfl, rfl, rfl, rfl⟩ (fun e => ⟨rfl, fun _ => rfl⟩)⟩
      · go_wp2_with fail
        go_ret
        rw [T2.out]
        exact ⟨rfl, wl_end HI.out H2.out.1 KK.out ((set_same (set_same (set_same RR2.out 2 .nilFunc) 3 _) 5 (.bool true)).trans (by rw [bvW, HW.out.1]; rfl)) (keep_set (keep_set (keep_set (Keep.refl _ _) (by simp) _ _) (by simp) _ _) (by simp) _ _) ⟨rfl, rfl, rfl, rfl, rfl, rfl⟩ (fun e => by cases e)⟩
  · have he' : (er == 0) = false := by simpa using h0
    have T : tailW X' A' m wv er = (X', A', { m with slot := 0, ended := true, code := er }, true) := by unfold tailW; rw [if_neg h0]
    have T2 := Lib.hid (TT.out.trans T)
    clear T
    go_wp2_with fail
    go_ret
    rw [T2.out]
    exact ⟨rfl, wl_end HI.out H2.out.1 KK.out ((set_same (set_same RR2.out 5 (.bool true)) 6 (.int .i64 er)).trans (by rw [bvW, HW.out.1]; rfl)) (keep_set (keep_set (Keep.refl _ _) (by simp) _ _) (by simp) _ _) ⟨rfl, rfl, rfl, rfl, rfl, rfl⟩ (fun e => by cases e)⟩
set_option maxHeartbeats 8000000 in
theorem step_nextW (hi : WlkP w L xb hb mb vb sb m) (hw : m.whole = true) (he : m.ended = false) (hsr : m.src = false) (ho : okL wv) (hr : srcW X A m = (X', A', wv, er)) (hbk : m.whole = true → er = 0 → 0 ≤ m.bucket ∧ m.bucket ≤ 1000000)
    (h : Env w L xb hb X A) (hS : ∀ w1, Keep [mb] w w1 → Calls Tryz.prog 44 #[.pointer (some ⟨L.b, 0, none⟩), .int .i64 m.next, .int .i64 X.cell] w1 (Src w1 L xb hb X' A' wv er)) :
    Calls Tryz.prog 23 #[.pointer (some ⟨mb, 0, none⟩)] w (StepsW w L xb hb mb vb sb X A m) := by
  obtain ⟨sv, nx, hm, hsv⟩ := hi.hm
  obtain ⟨e1, e2⟩ := hsv he
  obtain rfl := e2 hsr
  have hXX : X = X' := by unfold srcW at hr; rw [hsr] at hr; exact congrArg Prod.fst hr
  subst hXX
  have e1' : sv = .nilFunc := by rw [e1]; unfold srcV; simp [hsr]
  subst e1'
  have R : Rec w xb mb m.bucket .nilFunc m.next m.slot false m.code := by
    rw [Rec, hm, ← he]
    simp [wlkCells, hw]
  have R1 := set_same R 4 (.int .i64 0)
  have c4 : w.cell? ⟨mb, 4, none⟩ = some (.int .i64 m.slot) := (cell_of R 4).trans rfl
  have z4 := free_of R 4
  have d5 : (w.setCell ⟨mb, 4, none⟩ (.int .i64 0)).cell? ⟨mb, 5, none⟩ = some (.bool false) := (cell_of R1 5).trans rfl
  have d2 : (w.setCell ⟨mb, 4, none⟩ (.int .i64 0)).cell? ⟨mb, 2, none⟩ = some .nilFunc := (cell_of R1 2).trans rfl
  have e0 := neq_nilf
  have e0' := eqls_nilf
  have k1 : Keep [mb] w (w.setCell ⟨mb, 4, none⟩ (.int .i64 0)) := keep_set (Keep.refl _ _) (by simp) _ _
  obtain ⟨w1, hw1⟩ : ∃ w1, w1 = w.setCell ⟨mb, 4, none⟩ (.int .i64 0) := ⟨_, rfl⟩
  rw [← hw1] at R1 d5 d2 k1
  have C := Lib.hid (hS _ (k1.drew))
  have d0 : w1.cell? ⟨mb, 0, none⟩ = some (.pointer (some ⟨xb, 0, none⟩)) := (cell_of R1 0).trans rfl
  have d3 : w1.cell? ⟨mb, 3, none⟩ = some (.int .i64 m.next) := (cell_of R1 3).trans rfl
  have y0 : w1.cell? ⟨xb, 0, none⟩ = some (.pointer (some ⟨L.b, 0, none⟩)) := k1.cell ((cell_of h.ix.hx 0).trans rfl) (by simpa using hi.off.2.1.symm)
  have y1 : w1.cell? ⟨xb, 1, none⟩ = some (.int .i64 X.cell) := k1.cell ((cell_of h.ix.hx 1).trans rfl) (by simpa using hi.off.2.1.symm)
  have HI := Lib.hid hi
  have K1 := Lib.hid k1
  have RR := Lib.hid R1
  have HO := Lib.hid ho
  have HB := Lib.hid hbk
  have OFF : Hid (mb ∉ xb :: L.blocks) := Lib.hid (by simp [hi.off])
  obtain ⟨t, ht⟩ : ∃ t, t = tailW X A' m wv er := ⟨_, rfl⟩
  have HT : Hid (stepW X A m = t) := Lib.hid ((stepW_tail he hr).trans ht.symm)
  have TT := Lib.hid ht
  have HW := Lib.hid (And.intro hw (And.intro hsr he))
  unfold StepsW
  rw [HT.out]
  clear ht hS hi hm hsv e1 R R1 k1 hr hbk ho hw he hsr e2 h
  go_enter Tryz.func23, Tryz.ntmps23
  go_upto_region 4 with fail
  rw [← hw1]
  clear hw1
  go_wp2_with fail
  go_region_held3 (fun w' => w'.cell? ⟨mb, 0, none⟩ = some (.pointer (some ⟨xb, 0, none⟩)) ∧ w'.cell? ⟨mb, 3, none⟩ = some (.int .i64 m.next) ∧ w'.cell? ⟨xb, 0, none⟩ = some (.pointer (some ⟨L.b, 0, none⟩)) ∧ w'.cell? ⟨xb, 1, none⟩ = some (.int .i64 X.cell)) (go_keep)
    (first
      | (go_at_call 44; refine C.out.mono ?_; rintro e w2 ⟨rfl, h2, k2⟩; obtain ⟨x0, x1⟩ := sees_x h2; have b0 := k2.cell (show w1.drew.cell? ⟨mb, 0, none⟩ = _ from d0) OFF.out; have b3 := k2.cell (show w1.drew.cell? ⟨mb, 3, none⟩ = _ from d3) OFF.out; have H2 := Lib.hid (And.intro h2 k2); clear h2 k2))
  have KK := Lib.hid (((K1.out.drew).mono (by simp)).trans (H2.out.2.mono (fun x hx => List.mem_cons_of_mem _ hx)) : Keep (mb :: xb :: L.blocks) w w2)
  have R2 : Rec w2 xb mb m.bucket .nilFunc m.next 0 false m.code := H2.out.2.old (show w1.drew.heap[mb]? = _ from RR.out) OFF.out
  clear b0 b3 x0 x1 d0 d3 y0 y1
  have f0 : w2.cell? ⟨mb, 0, none⟩ = some (.pointer (some ⟨xb, 0, none⟩)) := (cell_of R2 0).trans rfl
  have f1 : w2.cell? ⟨mb, 1, none⟩ = some (.int .i64 m.bucket) := (cell_of R2 1).trans rfl
  have f2 : w2.cell? ⟨mb, 2, none⟩ = some .nilFunc := (cell_of R2 2).trans rfl
  have f3 : w2.cell? ⟨mb, 3, none⟩ = some (.int .i64 m.next) := (cell_of R2 3).trans rfl
  have f4 : w2.cell? ⟨mb, 4, none⟩ = some (.int .i64 0) := (cell_of R2 4).trans rfl
  have f5 : w2.cell? ⟨mb, 5, none⟩ = some (.bool false) := (cell_of R2 5).trans rfl
  have f6 : w2.cell? ⟨mb, 6, none⟩ = some (.int .i64 m.code) := (cell_of R2 6).trans rfl
  have g2 := free_of R2 2
  have g3 := free_of R2 3
  have g4 := free_of R2 4
  have g5 := free_of R2 5
  have g6 := free_of R2 6
  have RR2 := Lib.hid R2
  clear R2 c4 z4 d5 d2
  by_cases h0 : er = 0
  · subst h0
    by_cases hn : numL wv = 0
    · have hq : (wv / 2 == 0) = true := by have : wv / 2 = 0 := hn; simp [this]
      have T : tailW X A' m wv 0 = (X, A', { m with slot := 0, ended := true, code := 42 }, true) := by unfold tailW; rw [if_pos rfl, if_pos hn]
      have T2 := Lib.hid (TT.out.trans T)
      clear T
      go_wp2_with fail
      go_ret
      rw [T2.out]
      exact ⟨rfl, wl_end HI.out H2.out.1 KK.out ((set_same (set_same RR2.out 5 (.bool true)) 6 (.int .i64 42)).trans (by rw [bvW, HW.out.1]; rfl)) (keep_set (keep_set (Keep.refl _ _) (by simp) _ _) (by simp) _ _) ⟨rfl, rfl, rfl, rfl, rfl, rfl⟩ (fun e => by cases e)⟩
    · have hq : (wv / 2 == 0) = false := by have : ¬ wv / 2 = 0 := hn; simp [this]
      obtain ⟨nn, hnn⟩ : ∃ nn, nn = numL wv := ⟨_, rfl⟩
      obtain ⟨mk, hmk⟩ : ∃ mk, mk = mkL wv := ⟨_, rfl⟩
      obtain ⟨by_, hby⟩ : ∃ by_, by_ = beyond nn := ⟨_, rfl⟩
      have CA : Hid (∀ wx, Calls Tryz.prog 45 #[.int .u64 wv] wx fun e w' => e = .returned (.tuple #[.int .i64 nn, .bool mk]) ∧ wx = w') := Lib.hid fun wx => by rw [hnn, hmk]; exact apart_ wv wx HO.out
      have CB : Hid (∀ wx, Calls Tryz.prog 46 #[.int .i64 nn] wx fun e w' => e = .returned (.bool by_) ∧ wx = w') := Lib.hid fun wx => by rw [hby]; exact beyond_ nn wx
      have hb1 := (HB.out HW.out.1 rfl).1
      have hb2 := (HB.out HW.out.1 rfl).2
      have CL : Hid (∀ wx, Calls Tryz.prog 47 #[.int .i64 m.bucket] wx fun e w' => e = .returned (.int .i64 (last m.bucket)) ∧ wx = w') := Lib.hid fun wx => last_ m.bucket wx hb1 hb2
      have T : tailW X A' m wv 0 = (X, A', { m with src := false, next := nn, slot := (if !mk then m.next else 0), ended := by_, code := if by_ && true && decide (nn ≠ last m.bucket) then 43 else m.code }, by_ || decide ((if !mk then m.next else 0) ≠ 0)) := by
        unfold tailW
        rw [if_pos rfl, if_neg hn, ← hnn, ← hmk, ← hby, HW.out.1, HW.out.2.1]
        simp
      have T2 := Lib.hid (TT.out.trans T)
      clear T hn hnn hmk hby
      go_wp2_with fail
      refine (CA.out _).mono ?_
      rintro e wx ⟨rfl, rfl⟩
      cases mk
      · clear HO
        go_wp2_with fail
        refine (CB.out _).mono ?_
        rintro e wx ⟨rfl, rfl⟩
        cases by_
        · go_wp2_with fail
          go_ret
          rw [T2.out]
          exact ⟨by simp [bne, BEq.beq], wl_end HI.out H2.out.1 KK.out ((set_same (set_same (set_same RR2.out 4 (.int .i64 m.next)) 2 .nilFunc) 3 _).trans (by rw [bvW, HW.out.1]; rfl)) (keep_set (keep_set (keep_set (Keep.refl _ _) (by simp) _ _) (by simp) _ _) (by simp) _ _) ⟨rfl, rfl, rfl, rfl, rfl, rfl⟩ (fun e => ⟨rfl, fun _ => rfl⟩)⟩
        · go_wp2_with fail
          refine (CL.out _).mono ?_
          rintro e wx ⟨rfl, rfl⟩
          by_cases hl : nn = last m.bucket
          · have hl' : (nn != last m.bucket) = false := by simp [hl]
            go_wp2_with fail
            go_ret
            rw [T2.out]
            rw [show (decide (nn ≠ last m.bucket)) = false from by simp [hl]]
            exact ⟨rfl, wl_end HI.out H2.out.1 KK.out ((set_same (set_same (set_same (set_same RR2.out 4 (.int .i64 m.next)) 2 .nilFunc) 3 _) 5 (.bool true)).trans (by rw [bvW, HW.out.1]; rfl)) (keep_set (keep_set (keep_set (keep_set (Keep.refl _ _) (by simp) _ _) (by simp) _ _) (by simp) _ _) (by simp) _ _) ⟨rfl, rfl, rfl, rfl, rfl, rfl⟩ (fun e => by cases e)⟩
          · have hl' : (nn != last m.bucket) = true := by simp [hl]
            go_wp2_with fail
            go_ret
            rw [T2.out]
            rw [show (decide (nn ≠ last m.bucket)) = true from by simp [hl]]
            exact ⟨rfl, wl_end HI.out H2.out.1 KK.out ((set_same (set_same (set_same (set_same (set_same RR2.out 4 (.int .i64 m.next)) 2 .nilFunc) 3 _) 5 (.bool true)) 6 (.int .i64 43)).trans (by rw [bvW, HW.out.1]; rfl)) (keep_set (keep_set (keep_set (keep_set (keep_set (Keep.refl _ _) (by simp) _ _) (by simp) _ _) (by simp) _ _) (by simp) _ _) (by simp) _ _) ⟨rfl, rfl, rfl, rfl, rfl, rfl⟩ (fun e => by cases e)⟩
      · clear HO
        go_wp2_with fail
        refine (CB.out _).mono ?_
        rintro e wx ⟨rfl, rfl⟩
        cases by_
        · go_wp2_with fail
          go_ret
          rw [T2.out]
          exact ⟨rfl, wl_end HI.out H2.out.1 KK.out ((set_same (set_same RR2.out 2 .nilFunc) 3 _).trans (by rw [bvW, HW.out.1]; rfl)) (keep_set (keep_set (Keep.refl _ _) (by simp) _ _) (by simp) _ _) ⟨rfl, rfl, rfl, rfl, rfl, rfl⟩ (fun e => ⟨rfl, fun _ => rfl⟩)⟩
        · go_wp2_with fail
          refine (CL.out _).mono ?_
          rintro e wx ⟨rfl, rfl⟩
          by_cases hl : nn = last m.bucket
          · have hl' : (nn != last m.bucket) = false := by simp [hl]
            go_wp2_with fail
            go_ret
            rw [T2.out]
            rw [show (decide (nn ≠ last m.bucket)) = false from by simp [hl]]
            exact ⟨rfl, wl_end HI.out H2.out.1 KK.out ((set_same (set_same (set_same RR2.out 2 .nilFunc) 3 _) 5 (.bool true)).trans (by rw [bvW, HW.out.1]; rfl)) (keep_set (keep_set (keep_set (Keep.refl _ _) (by simp) _ _) (by simp) _ _) (by simp) _ _) ⟨rfl, rfl, rfl, rfl, rfl, rfl⟩ (fun e => by cases e)⟩
          · have hl' : (nn != last m.bucket) = true := by simp [hl]
            go_wp2_with fail
            go_ret
            rw [T2.out]
            rw [show (decide (nn ≠ last m.bucket)) = true from by simp [hl]]
            exact ⟨rfl, wl_end HI.out H2.out.1 KK.out ((set_same (set_same (set_same (set_same RR2.out 2 .nilFunc) 3 _) 5 (.bool true)) 6 (.int .i64 43)).trans (by rw [bvW, HW.out.1]; rfl)) (keep_set (keep_set (keep_set (keep_set (Keep.refl _ _) (by simp) _ _) (by simp) _ _) (by simp) _ _) (by simp) _ _) ⟨rfl, rfl, rfl, rfl, rfl, rfl⟩ (fun e => by cases e)⟩
  · have he' : (er == 0) = false := by simpa using h0
    have T : tailW X A' m wv er = (X, A', { m with slot := 0, ended := true, code := er }, true) := by unfold tailW; rw [if_neg h0]
    have T2 := Lib.hid (TT.out.trans T)
    clear T
    go_wp2_with fail
    go_ret
    rw [T2.out]
    exact ⟨rfl, wl_end HI.out H2.out.1 KK.out ((set_same (set_same RR2.out 5 (.bool true)) 6 (.int .i64 er)).trans (by rw [bvW, HW.out.1]; rfl)) (keep_set (keep_set (Keep.refl _ _) (by simp) _ _) (by simp) _ _) ⟨rfl, rfl, rfl, rfl, rfl, rfl⟩ (fun e => by cases e)⟩
set_option maxHeartbeats 8000000 in
theorem step_nextB (hi : WlkP w L xb hb mb vb sb m) (hw : m.whole = false) (he : m.ended = false) (hsr : m.src = false) (ho : okL wv) (hr : srcW X A m = (X', A', wv, er)) (hbk : m.whole = true → er = 0 → 0 ≤ m.bucket ∧ m.bucket ≤ 1000000)
    (h : Env w L xb hb X A) (hS : ∀ w1, Keep [mb] w w1 → Calls Tryz.prog 44 #[.pointer (some ⟨L.b, 0, none⟩), .int .i64 m.next, .int .i64 X.cell] w1 (Src w1 L xb hb X' A' wv er)) :
    Calls Tryz.prog 23 #[.pointer (some ⟨mb, 0, none⟩)] w (StepsW w L xb hb mb vb sb X A m) := by
  obtain ⟨sv, nx, hm, hsv⟩ := hi.hm
  obtain ⟨e1, e2⟩ := hsv he
  obtain rfl := e2 hsr
  have hXX : X = X' := by unfold srcW at hr; rw [hsr] at hr; exact congrArg Prod.fst hr
  subst hXX
  have e1' : sv = .nilFunc := by rw [e1]; unfold srcV; simp [hsr]
  subst e1'
  have R : Rec w xb mb (-1) .nilFunc m.next m.slot false m.code := by
    rw [Rec, hm, ← he]
    simp [wlkCells, hw]
  have R1 := set_same R 4 (.int .i64 0)
  have c4 : w.cell? ⟨mb, 4, none⟩ = some (.int .i64 m.slot) := (cell_of R 4).trans rfl
  have z4 := free_of R 4
  have d5 : (w.setCell ⟨mb, 4, none⟩ (.int .i64 0)).cell? ⟨mb, 5, none⟩ = some (.bool false) := (cell_of R1 5).trans rfl
  have d2 : (w.setCell ⟨mb, 4, none⟩ (.int .i64 0)).cell? ⟨mb, 2, none⟩ = some .nilFunc := (cell_of R1 2).trans rfl
  have e0 := neq_nilf
  have e0' := eqls_nilf
  have k1 : Keep [mb] w (w.setCell ⟨mb, 4, none⟩ (.int .i64 0)) := keep_set (Keep.refl _ _) (by simp) _ _
  obtain ⟨w1, hw1⟩ : ∃ w1, w1 = w.setCell ⟨mb, 4, none⟩ (.int .i64 0) := ⟨_, rfl⟩
  rw [← hw1] at R1 d5 d2 k1
  have C := Lib.hid (hS _ (k1.drew))
  have d0 : w1.cell? ⟨mb, 0, none⟩ = some (.pointer (some ⟨xb, 0, none⟩)) := (cell_of R1 0).trans rfl
  have d3 : w1.cell? ⟨mb, 3, none⟩ = some (.int .i64 m.next) := (cell_of R1 3).trans rfl
  have y0 : w1.cell? ⟨xb, 0, none⟩ = some (.pointer (some ⟨L.b, 0, none⟩)) := k1.cell ((cell_of h.ix.hx 0).trans rfl) (by simpa using hi.off.2.1.symm)
  have y1 : w1.cell? ⟨xb, 1, none⟩ = some (.int .i64 X.cell) := k1.cell ((cell_of h.ix.hx 1).trans rfl) (by simpa using hi.off.2.1.symm)
  have HI := Lib.hid hi
  have K1 := Lib.hid k1
  have RR := Lib.hid R1
  have HO := Lib.hid ho
  have HB := Lib.hid hbk
  have OFF : Hid (mb ∉ xb :: L.blocks) := Lib.hid (by simp [hi.off])
  obtain ⟨t, ht⟩ : ∃ t, t = tailW X A' m wv er := ⟨_, rfl⟩
  have HT : Hid (stepW X A m = t) := Lib.hid ((stepW_tail he hr).trans ht.symm)
  have TT := Lib.hid ht
  have HW := Lib.hid (And.intro hw (And.intro hsr he))
  unfold StepsW
  rw [HT.out]
  clear ht hS hi hm hsv e1 R R1 k1 hr hbk ho hw he hsr e2 h
  go_enter Tryz.func23, Tryz.ntmps23
  go_upto_region 4 with fail
  rw [← hw1]
  clear hw1
  go_wp2_with fail
  go_region_held3 (fun w' => w'.cell? ⟨mb, 0, none⟩ = some (.pointer (some ⟨xb, 0, none⟩)) ∧ w'.cell? ⟨mb, 3, none⟩ = some (.int .i64 m.next) ∧ w'.cell? ⟨xb, 0, none⟩ = some (.pointer (some ⟨L.b, 0, none⟩)) ∧ w'.cell? ⟨xb, 1, none⟩ = some (.int .i64 X.cell)) (go_keep)
    (first
      | (go_at_call 44; refine C.out.mono ?_; rintro e w2 ⟨rfl, h2, k2⟩; obtain ⟨x0, x1⟩ := sees_x h2; have b0 := k2.cell (show w1.drew.cell? ⟨mb, 0, none⟩ = _ from d0) OFF.out; have b3 := k2.cell (show w1.drew.cell? ⟨mb, 3, none⟩ = _ from d3) OFF.out; have H2 := Lib.hid (And.intro h2 k2); clear h2 k2))
  have KK := Lib.hid (((K1.out.drew).mono (by simp)).trans (H2.out.2.mono (fun x hx => List.mem_cons_of_mem _ hx)) : Keep (mb :: xb :: L.blocks) w w2)
  have R2 : Rec w2 xb mb (-1) .nilFunc m.next 0 false m.code := H2.out.2.old (show w1.drew.heap[mb]? = _ from RR.out) OFF.out
  clear b0 b3 x0 x1 d0 d3 y0 y1
  have f0 : w2.cell? ⟨mb, 0, none⟩ = some (.pointer (some ⟨xb, 0, none⟩)) := (cell_of R2 0).trans rfl
  have f1 : w2.cell? ⟨mb, 1, none⟩ = some (.int .i64 (-1)) := (cell_of R2 1).trans rfl
  have f2 : w2.cell? ⟨mb, 2, none⟩ = some .nilFunc := (cell_of R2 2).trans rfl
  have f3 : w2.cell? ⟨mb, 3, none⟩ = some (.int .i64 m.next) := (cell_of R2 3).trans rfl
  have f4 : w2.cell? ⟨mb, 4, none⟩ = some (.int .i64 0) := (cell_of R2 4).trans rfl
  have f5 : w2.cell? ⟨mb, 5, none⟩ = some (.bool false) := (cell_of R2 5).trans rfl
  have f6 : w2.cell? ⟨mb, 6, none⟩ = some (.int .i64 m.code) := (cell_of R2 6).trans rfl
  have g2 := free_of R2 2
  have g3 := free_of R2 3
  have g4 := free_of R2 4
  have g5 := free_of R2 5
  have g6 := free_of R2 6
  have RR2 := Lib.hid R2
  clear R2 c4 z4 d5 d2
  by_cases h0 : er = 0
  · subst h0
    by_cases hn : numL wv = 0
    · have hq : (wv / 2 == 0) = true := by have : wv / 2 = 0 := hn; simp [this]
      have T : tailW X A' m wv 0 = (X, A', { m with slot := 0, ended := true, code := 42 }, true) := by unfold tailW; rw [if_pos rfl, if_pos hn]
      have T2 := Lib.hid (TT.out.trans T)
      clear T
      go_wp2_with fail
      go_ret
      rw [T2.out]
      exact ⟨rfl, wl_end HI.out H2.out.1 KK.out ((set_same (set_same RR2.out 5 (.bool true)) 6 (.int .i64 42)).trans (by rw [bvW, HW.out.1]; rfl)) (keep_set (keep_set (Keep.refl _ _) (by simp) _ _) (by simp) _ _) ⟨rfl, rfl, rfl, rfl, rfl, rfl⟩ (fun e => by cases e)⟩
    · have hq : (wv / 2 == 0) = false := by have : ¬ wv / 2 = 0 := hn; simp [this]
      obtain ⟨nn, hnn⟩ : ∃ nn, nn = numL wv := ⟨_, rfl⟩
      obtain ⟨mk, hmk⟩ : ∃ mk, mk = mkL wv := ⟨_, rfl⟩
      obtain ⟨by_, hby⟩ : ∃ by_, by_ = beyond nn := ⟨_, rfl⟩
      have CA : Hid (∀ wx, Calls Tryz.prog 45 #[.int .u64 wv] wx fun e w' => e = .returned (.tuple #[.int .i64 nn, .bool mk]) ∧ wx = w') := Lib.hid fun wx => by rw [hnn, hmk]; exact apart_ wv wx HO.out
      have CB : Hid (∀ wx, Calls Tryz.prog 46 #[.int .i64 nn] wx fun e w' => e = .returned (.bool by_) ∧ wx = w') := Lib.hid fun wx => by rw [hby]; exact beyond_ nn wx
      have T : tailW X A' m wv 0 = (X, A', { m with src := false, next := nn, slot := (if !mk then m.next else 0), ended := by_, code := if by_ && false && decide (nn ≠ last m.bucket) then 43 else m.code }, by_ || decide ((if !mk then m.next else 0) ≠ 0)) := by
        unfold tailW
        rw [if_pos rfl, if_neg hn, ← hnn, ← hmk, ← hby, HW.out.1, HW.out.2.1]
        simp
      have T2 := Lib.hid (TT.out.trans T)
      clear T hn hnn hmk hby
      go_wp2_with fail
      refine (CA.out _).mono ?_
      rintro e wx ⟨rfl, rfl⟩
      cases mk
      · clear HO
        go_wp2_with fail
        refine (CB.out _).mono ?_
        rintro e wx ⟨rfl, rfl⟩
        cases by_
        · go_wp2_with fail
          go_ret
          rw [T2.out]
          exact ⟨by simp [bne, BEq.beq], wl_end HI.out H2.out.1 KK.out ((set_same (set_same (set_same RR2.out 4 (.int .i64 m.next)) 2 .nilFunc) 3 _).trans (by rw [bvW, HW.out.1]; rfl)) (keep_set (keep_set (keep_set (Keep.refl _ _) (by simp) _ _) (by simp) _ _) (by simp) _ _) ⟨rfl, rfl, rfl, rfl, rfl, rfl⟩ (fun e => ⟨rfl, fun _ => rfl⟩)⟩
        · go_wp2_with fail
          go_ret
          rw [T2.out]
          exact ⟨rfl, wl_end HI.out H2.out.1 KK.out ((set_same (set_same (set_same (set_same RR2.out 4 (.int .i64 m.next)) 2 .nilFunc) 3 _) 5 (.bool true)).trans (by rw [bvW, HW.out.1]; rfl)) (keep_set (keep_set (keep_set (keep_set (Keep.refl _ _) (by simp) _ _) (by simp) _ _) (by simp) _ _) (by simp) _ _) ⟨rfl, rfl, rfl, rfl, rfl, rfl⟩ (fun e => by cases e)⟩
      · clear HO
        go_wp2_with fail
        refine (CB.out _).mono ?_
        rintro e wx ⟨rfl, rfl⟩
        cases by_
        · go_wp2_with fail
          go_ret
          rw [T2.out]
          exact ⟨rfl, wl_end HI.out H2.out.1 KK.out ((set_same (set_same RR2.out 2 .nilFunc) 3 _).trans (by rw [bvW, HW.out.1]; rfl)) (keep_set (keep_set (Keep.refl _ _) (by simp) _ _) (by simp) _ _) ⟨rfl, rfl, rfl, rfl, rfl, rfl⟩ (fun e => ⟨rfl, fun _ => rfl⟩)⟩
        · go_wp2_with fail
          go_ret
          rw [T2.out]
          exact ⟨rfl, wl_end HI.out H2.out.1 KK.out ((set_same (set_same (set_same RR2.out 2 .nilFunc) 3 _) 5 (.bool true)).trans (by rw [bvW, HW.out.1]; rfl)) (keep_set (keep_set (keep_set (Keep.refl _ _) (by simp) _ _) (by simp) _ _) (by simp) _ _) ⟨rfl, rfl, rfl, rfl, rfl, rfl⟩ (fun e => by cases e)⟩
  · have he' : (er == 0) = false := by simpa using h0
    have T : tailW X A' m wv er = (X, A', { m with slot := 0, ended := true, code := er }, true) := by unfold tailW; rw [if_neg h0]
    have T2 := Lib.hid (TT.out.trans T)
    clear T
    go_wp2_with fail
    go_ret
    rw [T2.out]
    exact ⟨rfl, wl_end HI.out H2.out.1 KK.out ((set_same (set_same RR2.out 5 (.bool true)) 6 (.int .i64 er)).trans (by rw [bvW, HW.out.1]; rfl)) (keep_set (keep_set (Keep.refl _ _) (by simp) _ _) (by simp) _ _) ⟨rfl, rfl, rfl, rfl, rfl, rfl⟩ (fun e => by cases e)⟩
end
end Go.Proofs.YtgagiggljlikbaaGreat.Ch
