/- The chain's Insert in memory: its steps (begun). -/
import Derived.Test.YtgagiggljlikbaaGreatChC
import Derived.OrdersHeld
import Derived.WalkSpells
import Derived.BigQuiet
import Derived.Deep.RegionHeld3
import Derived.Laws.EntriesVeiled
namespace Go.Proofs.YtgagiggljlikbaaGreat.Ch
open Go.RowKit Go.Proofs.YtgagiggljlikbaaGreat.Mem Go.Proofs.YtgagiggljlikbaaGreat.Ar Go.Proofs.YtgagiggljlikbaaGreat.En
set_option linter.unusedVariables false
set_option linter.unusedSimpArgs false
set_option maxRecDepth 100000

/-- an arena and an index over it -/
structure Env (w : World) (L : Bk) (xb hb : Nat) (X : CI) (A : Ars) : Prop where
  ar : En.At 0 w L A
  ix : IdxP w L xb hb X
  offx : xb ∉ L.blocks
  offh : hb ∉ L.blocks
  cell : X.cell < A.width
/-- what an Insert does next -/
def nextI (mb : Nat) : Nat → Value
  | 0 => .nilFunc
  | 1 => .func (.func 63) #[.pointer (some ⟨mb, 0, none⟩)] #[]
  | 2 => .func (.func 99) #[.pointer (some ⟨mb, 0, none⟩)] #[]
  | 3 => .func (.func 134) #[.pointer (some ⟨mb, 0, none⟩)] #[]
  | _ => .func (.func 166) #[.pointer (some ⟨mb, 0, none⟩)] #[]
def insCells (xb mb : Nat) (m : MI) : Array Value := #[.pointer (some ⟨xb, 0, none⟩), .int .i64 m.bucket, .int .i64 m.slot, nextI mb m.at_, .int .u64 m.head, .int .i64 m.code, .int .i64 m.tries]
structure InsP (w : World) (L : Bk) (xb hb mb : Nat) (m : MI) : Prop where
  hm : w.heap[mb]? = some (.cells (insCells xb mb m) 128 (0, 0))
  off : mb ∉ L.blocks ∧ mb ≠ xb ∧ mb ≠ hb
section
variable {w w' : World} {L : Bk} {A A' : Ars} {xb hb mb : Nat} {X X' : CI} {m : MI}
theorem InsP.keep (h : InsP w L xb hb mb m) {S : List Nat} (k : Keep S w w') (hS : mb ∉ S) : InsP w' L xb hb mb m := ⟨k.old h.hm hS, h.off⟩
theorem Env.keep (h : Env w L xb hb X A) {S : List Nat} (k : Keep S w w') (hS : ∀ x ∈ S, x ∉ L.blocks ∧ x ≠ xb ∧ x ≠ hb) : Env w' L xb hb X A :=
  ⟨h.ar.keep k fun x hx => (hS x hx).1, h.ix.keep k fun x hx => (hS x hx).2, h.offx, h.offh, h.cell⟩
theorem cell_off {w : World} {b o o' : Nat} {v : Value} (h : o ≠ o') : (w.setCell ⟨b, o', none⟩ v).cell? ⟨b, o, none⟩ = w.cell? ⟨b, o, none⟩ := World.cell?_setCell_other w _ _ _ (fun e => h (by cases e; rfl))
theorem doneI (h : InsP w L xb hb mb m) (e : Int) :
    Calls Tryz.prog 98 #[.pointer (some ⟨mb, 0, none⟩), .int .i64 e] w fun r w' => r = .returned (.bool true) ∧ InsP w' L xb hb mb (m.over e) ∧ Keep [mb] w w' := by
  have hm := h.hm
  have hi : ∃ v, (insCells xb mb m)[3]? = some v := ⟨nextI mb m.at_, rfl⟩
  have c3 : w.cell? ⟨mb, 3, none⟩ = some (nextI mb m.at_) := (cell_of hm 3).trans rfl
  have c5 : w.cell? ⟨mb, 5, none⟩ = some (.int .i64 m.code) := (cell_of hm 5).trans rfl
  have z3 := free_of hm 3
  have z5 := free_of hm 5
  generalize nextI mb m.at_ = nv at c3
  have H1 : InsP ((w.setCell ⟨mb, 3, none⟩ .nilFunc).setCell ⟨mb, 5, none⟩ (.int .i64 e)) L xb hb mb (m.over e) := by
    refine ⟨?_, h.off⟩
    rw [set_same (set_same hm 3 .nilFunc) 5 (.int .i64 e)]
    rfl
  have K1 : Keep [mb] w ((w.setCell ⟨mb, 3, none⟩ .nilFunc).setCell ⟨mb, 5, none⟩ (.int .i64 e)) := ((Keep.refl _ _).set (.inl (by simp)) _ _).set (.inl (by simp)) _ _
  have HH := Lib.hid (And.intro H1 K1)
  clear h hm hi H1 K1
  go_enter Tryz.func98, Tryz.ntmps98
  go_wp2_with fail
  go_ret
  exact ⟨rfl, HH.out⟩

theorem loadI (h : Env w L xb hb X A) (hi : InsP w L xb hb mb m) (hat : m.at_ = 2) (hb' : X.has m.bucket = true) :
    Calls Tryz.prog 99 #[.pointer (some ⟨mb, 0, none⟩)] w fun r w' => r = .returned (.bool false) ∧ Env w' L xb hb X.tick A ∧ InsP w' L xb hb mb { m with at_ := 3, head := X.head m.bucket } ∧ Keep (mb :: xb :: hb :: L.blocks) w w' := by
  have hm := hi.hm
  have c0 : w.cell? ⟨mb, 0, none⟩ = some (.pointer (some ⟨xb, 0, none⟩)) := (cell_of hm 0).trans rfl
  have c1 : w.cell? ⟨mb, 1, none⟩ = some (.int .i64 m.bucket) := (cell_of hm 1).trans rfl
  have c4 : w.cell? ⟨mb, 4, none⟩ = some (.int .u64 m.head) := (cell_of hm 4).trans rfl
  have z4 : w.frozen? ⟨mb, 4, none⟩ = false := free_of hm 4
  have HE := Lib.hid h
  have HI := Lib.hid hi
  have HF := Lib.hid (And.intro hat hb')
  have hd : ∀ wx, Keep [] w wx → Env wx L xb hb X A := fun wx k => h.keep k (by simp)
  have HD := Lib.hid hd
  clear h hi hm hat hb' hd
  go_enter Tryz.func99, Tryz.ntmps99
  go_wp2_with fail
  go_region_held3 (fun w' => w'.cell? ⟨mb, 0, none⟩ = some (.pointer (some ⟨xb, 0, none⟩)) ∧ w'.cell? ⟨mb, 1, none⟩ = some (.int .i64 m.bucket)) (first | go_keep | (refine ⟨?_, ?_⟩ <;> (rw [cell_off (by omega)]; assumption)))
    (first
      | (go_at_call 75; refine (first (HD.out w.drew ((Keep.refl [] w).drew)).ix m.bucket HF.out.2).mono ?_; rintro e w2 ⟨rfl, hx, k2⟩; have HX := Lib.hid (And.intro hx k2); have d0 := k2.cell (show w.drew.cell? ⟨mb, 0, none⟩ = _ from c0) (by simpa using HI.out.off.2.1); have d1 := k2.cell (show w.drew.cell? ⟨mb, 1, none⟩ = _ from c1) (by simpa using HI.out.off.2.1); have d4 := k2.cell (show w.drew.cell? ⟨mb, 4, none⟩ = _ from c4) (by simpa using HI.out.off.2.1); have y4 : w2.frozen? ⟨mb, 4, none⟩ = false := free_of (k2.old (show w.drew.heap[mb]? = _ from HI.out.hm) (by simpa using HI.out.off.2.1)) 4; clear hx k2))
  have b2 : w2.heap[mb]? = _ := HX.out.2.old (show w.drew.heap[mb]? = _ from HI.out.hm) (by simpa using HI.out.off.2.1)
  have b3 := set_same b2 4 (.int .u64 (X.head m.bucket))
  obtain ⟨w3, hw3⟩ : ∃ w3, w3 = w2.setCell ⟨mb, 4, none⟩ (.int .u64 (X.head m.bucket)) := ⟨_, rfl⟩
  have k3 : Keep [mb] w2 w3 := by rw [hw3]; exact (Keep.refl _ _).set (.inl (by simp)) _ _
  rw [← hw3] at b3 ⊢
  have e3 : w3.cell? ⟨mb, 3, none⟩ = some (nextI mb 2) := by rw [← HF.out.1]; exact (cell_of b3 3).trans rfl
  have z3 := free_of b3 3
  have W3 := Lib.hid k3
  have B3 := Lib.hid b3
  clear hw3 k3 b2 b3 d0 d1 d4 y4 c0 c1 c4 z4
  unfold nextI at e3
  have hmf : ∀ (fn : Fn) (first cap : Array Value) (w : World), (Instr.makeFunc fn first cap).run Tryz.prog w = .ok (.func fn first cap) w := fun _ _ _ _ => rfl
  go_wp2_with fail
  go_ret
  have kk : Keep [xb] w w2 := ((Keep.refl [] w).drew.mono (by simp)).trans HX.out.2
  have henv : Env w2 L xb hb X.tick A := ⟨HE.out.ar.keep kk (fun x hx => by rw [List.mem_singleton.1 hx]; exact HE.out.offx), HX.out.1, HE.out.offx, HE.out.offh, HE.out.cell⟩
  have k4 : Keep [mb] w2 (w3.setCell ⟨mb, 3, none⟩ (nextI mb 3)) := W3.out.set (.inl (by simp)) 3 (nextI mb 3)
  refine ⟨rfl, henv.keep k4 (fun x hx => by rw [List.mem_singleton.1 hx]; exact ⟨HI.out.off.1, HI.out.off.2.1, HI.out.off.2.2⟩), ⟨?_, HI.out.off⟩, (kk.mono (by simp)).trans (k4.mono (by simp))⟩
  have := set_same B3.out 3 (nextI mb 3)
  refine this.trans ?_
  rfl

theorem InsP.next (h : InsP w L xb hb mb m) (k : Nat) : InsP (w.setCell ⟨mb, 3, none⟩ (nextI mb k)) L xb hb mb { m with at_ := k } := by
  refine ⟨?_, h.off⟩
  rw [set_same h.hm]
  rfl
/-- what a region reads of an Insert, its index -/
def SeesI (w : World) (L : Bk) (xb mb : Nat) (X : CI) (m : MI) : Prop :=
  w.cell? ⟨mb, 0, none⟩ = some (.pointer (some ⟨xb, 0, none⟩)) ∧ w.cell? ⟨mb, 2, none⟩ = some (.int .i64 m.slot) ∧ w.cell? ⟨mb, 4, none⟩ = some (.int .u64 m.head) ∧ w.cell? ⟨xb, 0, none⟩ = some (.pointer (some ⟨L.b, 0, none⟩)) ∧ w.cell? ⟨xb, 1, none⟩ = some (.int .i64 X.cell)
theorem sees_i (h : Env w L xb hb X A) (hi : InsP w L xb hb mb m) : SeesI w L xb mb X m :=
  ⟨(cell_of hi.hm 0).trans rfl, (cell_of hi.hm 2).trans rfl, (cell_of hi.hm 4).trans rfl, (cell_of h.ix.hx 0).trans rfl, (cell_of h.ix.hx 1).trans rfl⟩

set_option maxHeartbeats 2000000 in
theorem storeI (h : Env w L xb hb X A) (hi : InsP w L xb hb mb m) (hat : m.at_ = 3) :
    Calls Tryz.prog 134 #[.pointer (some ⟨mb, 0, none⟩)] w fun r w' => r = .returned (.bool (stepI X A m).2.2.2) ∧ Env w' L xb hb (stepI X A m).1 (stepI X A m).2.1 ∧ InsP w' L xb hb mb (stepI X A m).2.2.1 ∧ Keep (mb :: xb :: hb :: L.blocks) w w' := by
  obtain ⟨c0, c2, c4, x0, x1⟩ := sees_i h hi
  have HE := Lib.hid h
  have HI := Lib.hid hi
  obtain ⟨A', er, hst⟩ : ∃ A' er, stA A m.slot X.cell m.head = (A', er) := ⟨_, _, rfl⟩
  have hs : stepI X A m = if er = 0 then (X, A', { m with at_ := 4 }, false) else (X, A', m.over er, true) := by
    unfold stepI
    rw [hat]
    simp only [hst]
  have C : Hid (∀ wx, Keep [] w wx → Calls Tryz.prog 165 #[.pointer (some ⟨L.b, 0, none⟩), .int .i64 m.slot, .int .i64 X.cell, .int .u64 m.head] wx fun e w' => e = .returned (.int .i64 er) ∧ Env w' L xb hb X A' ∧ InsP w' L xb hb mb m ∧ Keep L.blocks wx w') := Lib.hid fun wx k => by
    have q := stP (h.ar.keep k (by simp)) m.slot X.cell h.cell m.head
    rw [hst] at q
    refine q.mono ?_
    rintro e w' ⟨rfl, ha, k'⟩
    have hw : A'.width = A.width := by
      have : A' = (stA A m.slot X.cell m.head).1 := by rw [hst]
      rw [this]
      unfold stA
      split <;> rfl
    exact ⟨rfl, ⟨ha, (h.ix.keep k (by simp)).keep k' (fun x hx => ⟨fun e => h.offx (e ▸ hx), fun e => h.offh (e ▸ hx)⟩), h.offx, h.offh, by rw [hw]; exact h.cell⟩, (hi.keep k (by simp)).keep k' hi.off.1, k'⟩
  have HAT := Lib.hid hat
  rw [hs]
  clear h hi hst hs hat
  have hmf : ∀ (fn : Fn) (first cap : Array Value) (w : World), (Instr.makeFunc fn first cap).run Tryz.prog w = .ok (.func fn first cap) w := fun _ _ _ _ => rfl
  go_enter Tryz.func134, Tryz.ntmps134
  go_wp2_with fail
  go_region_held3 (fun w' => w'.cell? ⟨mb, 0, none⟩ = some (.pointer (some ⟨xb, 0, none⟩)) ∧ w'.cell? ⟨mb, 2, none⟩ = some (.int .i64 m.slot) ∧ w'.cell? ⟨mb, 4, none⟩ = some (.int .u64 m.head) ∧ w'.cell? ⟨xb, 0, none⟩ = some (.pointer (some ⟨L.b, 0, none⟩)) ∧ w'.cell? ⟨xb, 1, none⟩ = some (.int .i64 X.cell)) (go_keep)
    (first
      | (go_at_call 165; refine (C.out w.drew ((Keep.refl [] w).drew)).mono ?_; rintro e w2 ⟨rfl, h2, i2, k2⟩; obtain ⟨d0, d2, d4, y0, y1⟩ := sees_i h2 i2; have H2 := Lib.hid (And.intro h2 (And.intro i2 k2)); clear h2 i2 k2))
  have b2 := H2.out.2.1.hm
  have e3 : w2.cell? ⟨mb, 3, none⟩ = some (nextI mb m.at_) := (cell_of b2 3).trans rfl
  rw [HAT.out] at e3
  have z3 := free_of b2 3
  clear b2 d0 d2 d4 y0 y1 c0 c2 c4 x0 x1
  have e3' : w2.cell? ⟨mb, 3, none⟩ = some (.func (.func 134) #[.pointer (some ⟨mb, 0, none⟩)] #[]) := e3
  clear e3
  by_cases he : er = 0
  · subst he
    go_wp2_with fail
    go_ret
    have k4 : Keep [mb] w2 (w2.setCell ⟨mb, 3, none⟩ (nextI mb 4)) := (Keep.refl _ _).set (.inl (by simp)) 3 (nextI mb 4)
    have kk : Keep (mb :: xb :: hb :: L.blocks) w w2 := ((Keep.refl [] w).drew.mono (by simp)).trans (H2.out.2.2.mono (fun x hx => by simp [hx]))
    exact ⟨rfl, H2.out.1.keep k4 (fun x hx => by rw [List.mem_singleton.1 hx]; exact HI.out.off), H2.out.2.1.next 4, kk.trans (k4.mono (by simp))⟩
  · have he' : (er == 0) = false := by simpa using he
    go_wp2_with fail
    refine (doneI H2.out.2.1 er).mono ?_
    rintro e w4 ⟨rfl, i4, k4⟩
    have H4 := Lib.hid (And.intro i4 k4)
    clear i4 k4 e3' z3
    go_wp2_with fail
    go_ret
    have kk : Keep (mb :: xb :: hb :: L.blocks) w w2 := ((Keep.refl [] w).drew.mono (by simp)).trans (H2.out.2.2.mono (fun x hx => by simp [hx]))
    exact ⟨rfl, H2.out.1.keep H4.out.2 (fun x hx => by rw [List.mem_singleton.1 hx]; exact HI.out.off), H4.out.1, kk.trans (H4.out.2.mono (by simp))⟩

theorem kk_of {w w2 : World} (k : Keep L.blocks w w2) : Keep (mb :: xb :: hb :: L.blocks) w w2 := k.mono (fun x hx => by simp [hx])
set_option maxHeartbeats 4000000 in
theorem beginI (h : Env w L xb hb X A) (hi : InsP w L xb hb mb m) (hat : m.at_ = 1) :
    Calls Tryz.prog 63 #[.pointer (some ⟨mb, 0, none⟩)] w fun r w' => r = .returned (.bool (stepI X A m).2.2.2) ∧ Env w' L xb hb (stepI X A m).1 (stepI X A m).2.1 ∧ InsP w' L xb hb mb (stepI X A m).2.2.1 ∧ Keep (mb :: xb :: hb :: L.blocks) w w' := by
  obtain ⟨c0, c2, c4, x0, x1⟩ := sees_i h hi
  have c1 : w.cell? ⟨mb, 1, none⟩ = some (.int .i64 m.bucket) := (cell_of hi.hm 1).trans rfl
  have HE := Lib.hid h
  have HI := Lib.hid hi
  have HH : Hid (∀ wx, Keep [] w wx → Calls Tryz.prog 40 #[.pointer (some ⟨xb, 0, none⟩), .int .i64 m.bucket] wx fun e w' => e = .returned (.bool (X.has m.bucket)) ∧ w' = wx) := Lib.hid fun wx k => (has (h.ix.keep k (by simp)) m.bucket).mono fun e w' ⟨he, hw⟩ => ⟨he, hw.symm⟩
  obtain ⟨hv, hhv⟩ : ∃ v, v = X.has m.bucket := ⟨_, rfl⟩
  rw [← hhv] at HH
  obtain ⟨A', wv, er, hld⟩ : ∃ A' wv er, ldA A m.slot X.cell = (A', wv, er) := ⟨_, _, _, rfl⟩
  have hs : stepI X A m = if hv = true then (if er = 0 then (if wv = 0 then (X, A', { m with at_ := 2 }, false) else (X, A', m.over 41, true)) else (X, A', m.over er, true)) else (X, A, m.over 40, true) := by
    unfold stepI
    rw [hat, hhv]
    simp only [hld]
  have C : Hid (∀ wx, Keep [] w wx → Calls Tryz.prog 44 #[.pointer (some ⟨L.b, 0, none⟩), .int .i64 m.slot, .int .i64 X.cell] wx fun e w' => e = .returned (.tuple #[.int .u64 wv, .int .i64 er]) ∧ Env w' L xb hb X A' ∧ InsP w' L xb hb mb m ∧ Keep L.blocks wx w') := Lib.hid fun wx k => by
    have q := ldP (h.ar.keep k (by simp)) m.slot X.cell h.cell
    rw [hld] at q
    refine q.mono ?_
    rintro e w' ⟨rfl, ha, k'⟩
    have hw : A'.width = A.width := by
      have : A' = (ldA A m.slot X.cell).1 := by rw [hld]
      rw [this]
      unfold ldA
      split <;> rfl
    exact ⟨rfl, ⟨ha, (h.ix.keep k (by simp)).keep k' (fun x hx => ⟨fun e => h.offx (e ▸ hx), fun e => h.offh (e ▸ hx)⟩), h.offx, h.offh, by rw [hw]; exact h.cell⟩, (hi.keep k (by simp)).keep k' hi.off.1, k'⟩
  have HAT := Lib.hid hat
  rw [hs]
  clear h hi hld hs hat hhv
  have hmf : ∀ (fn : Fn) (first cap : Array Value) (w : World), (Instr.makeFunc fn first cap).run Tryz.prog w = .ok (.func fn first cap) w := fun _ _ _ _ => rfl
  go_enter Tryz.func63, Tryz.ntmps63
  go_wp2_with fail
  go_quiet ((go_at_call 40; exact Calls.quiet_of_same (HH.out _ ((Keep.refl _ _).drewN _))))
  obtain ⟨wy, hwy⟩ : ∃ wy, wy = w.drewN nq := ⟨_, rfl⟩
  have ky : Keep [] w wy := by rw [hwy]; exact (Keep.refl _ _).drewN _
  rw [← hwy]
  clear hwy
  have HY := Lib.hid (And.intro (HE.out.keep ky (by simp)) (And.intro (HI.out.keep ky (by simp)) ky))
  clear ky
  cases hv
  · go_wp2_with fail
    refine (doneI HY.out.2.1 40).mono ?_
    rintro e w4 ⟨rfl, i4, k4⟩
    have H4 := Lib.hid (And.intro i4 k4)
    clear i4 k4
    go_wp2_with fail
    go_ret
    exact ⟨rfl, HY.out.1.keep H4.out.2 (fun x hx => by rw [List.mem_singleton.1 hx]; exact HI.out.off), H4.out.1, (HY.out.2.2.mono (by simp)).trans (H4.out.2.mono (by simp))⟩
  · obtain ⟨y0, y2, y4, yx0, yx1⟩ := sees_i HY.out.1 HY.out.2.1
    clear c0 c1 c2 c4 x0 x1
    go_wp2_with fail
    go_region_held3 (fun w' => w'.cell? ⟨mb, 0, none⟩ = some (.pointer (some ⟨xb, 0, none⟩)) ∧ w'.cell? ⟨mb, 2, none⟩ = some (.int .i64 m.slot) ∧ w'.cell? ⟨xb, 0, none⟩ = some (.pointer (some ⟨L.b, 0, none⟩)) ∧ w'.cell? ⟨xb, 1, none⟩ = some (.int .i64 X.cell)) (go_keep)
      (first
        | (go_at_call 44; refine (C.out wy.drew ((HY.out.2.2).drew)).mono ?_; rintro e w2 ⟨rfl, h2, i2, k2⟩; obtain ⟨d0, d2, d4, yy0, yy1⟩ := sees_i h2 i2; have H2 := Lib.hid (And.intro h2 (And.intro i2 k2)); clear h2 i2 k2))
    have b2 := H2.out.2.1.hm
    have e3 : w2.cell? ⟨mb, 3, none⟩ = some (nextI mb m.at_) := (cell_of b2 3).trans rfl
    rw [HAT.out] at e3
    have z3 := free_of b2 3
    have KK := Lib.hid (((HY.out.2.2).drew.mono (by simp)).trans (kk_of H2.out.2.2) : Keep (mb :: xb :: hb :: L.blocks) w w2)
    clear b2 d0 d2 d4 yy0 yy1 y0 y2 y4 yx0 yx1
    have e3' : w2.cell? ⟨mb, 3, none⟩ = some (.func (.func 63) #[.pointer (some ⟨mb, 0, none⟩)] #[]) := e3
    clear e3
    by_cases he : er = 0
    · subst he
      by_cases hw : wv = 0
      · subst hw
        go_wp2_with fail
        go_ret
        have k4 : Keep [mb] w2 (w2.setCell ⟨mb, 3, none⟩ (nextI mb 2)) := (Keep.refl _ _).set (.inl (by simp)) 3 (nextI mb 2)
        exact ⟨rfl, H2.out.1.keep k4 (fun x hx => by rw [List.mem_singleton.1 hx]; exact HI.out.off), H2.out.2.1.next 2, KK.out.trans (k4.mono (by simp))⟩
      · have hw' : (wv == 0) = false := by simpa using hw
        go_wp2_with fail
        refine (doneI H2.out.2.1 41).mono ?_
        rintro e w4 ⟨rfl, i4, k4⟩
        have H4 := Lib.hid (And.intro i4 k4)
        clear i4 k4 e3' z3
        go_wp2_with fail
        go_ret
        exact ⟨rfl, H2.out.1.keep H4.out.2 (fun x hx => by rw [List.mem_singleton.1 hx]; exact HI.out.off), H4.out.1, KK.out.trans (H4.out.2.mono (by simp))⟩
    · have he' : (er == 0) = false := by simpa using he
      go_wp2_with fail
      refine (doneI H2.out.2.1 er).mono ?_
      rintro e w4 ⟨rfl, i4, k4⟩
      have H4 := Lib.hid (And.intro i4 k4)
      clear i4 k4 e3' z3
      go_wp2_with fail
      go_ret
      exact ⟨rfl, H2.out.1.keep H4.out.2 (fun x hx => by rw [List.mem_singleton.1 hx]; exact HI.out.off), H4.out.1, KK.out.trans (H4.out.2.mono (by simp))⟩

set_option maxHeartbeats 4000000 in
theorem swapI (h : Env w L xb hb X A) (hi : InsP w L xb hb mb m) (hat : m.at_ = 4) (hb' : X.has m.bucket = true) (hsl : 0 ≤ m.slot ∧ m.slot ≤ 4352) :
    Calls Tryz.prog 166 #[.pointer (some ⟨mb, 0, none⟩)] w fun r w' => r = .returned (.bool (stepI X A m).2.2.2) ∧ Env w' L xb hb (stepI X A m).1 (stepI X A m).2.1 ∧ InsP w' L xb hb mb (stepI X A m).2.2.1 ∧ Keep (mb :: xb :: hb :: L.blocks) w w' := by
  obtain ⟨c0, c2, c4, x0, x1⟩ := sees_i h hi
  have c1 : w.cell? ⟨mb, 1, none⟩ = some (.int .i64 m.bucket) := (cell_of hi.hm 1).trans rfl
  have HE := Lib.hid h
  have HI := Lib.hid hi
  obtain ⟨X', hX'⟩ : ∃ X', X' = if X.head m.bucket = m.head then X.tick.put m.bucket (lk m.slot) else X.tick := ⟨_, rfl⟩
  obtain ⟨ok, hok⟩ : ∃ ok, ok = decide (X.head m.bucket = m.head) := ⟨_, rfl⟩
  have hs : stepI X A m = if ok = true then (X', A, m.over 0, true) else (X', A, { m with at_ := 2, tries := wrap64 (m.tries + 1) }, false) := by
    unfold stepI
    rw [hat, hX', hok]
    by_cases hx : X.head m.bucket = m.head <;> simp [hx]
  have C : Hid (∀ wx, Keep [] w wx → Calls Tryz.prog 173 #[.pointer (some ⟨xb, 0, none⟩), .int .i64 m.bucket, .int .i64 0, .int .u64 m.head, .int .u64 (lk m.slot)] wx fun e w' => e = .returned (.tuple #[.bool ok, .int .i64 0]) ∧ Env w' L xb hb X' A ∧ InsP w' L xb hb mb m ∧ Keep (mb :: xb :: hb :: L.blocks) wx w') := Lib.hid fun wx k => by
    have q := swapH (h.ix.keep k (by simp)) m.bucket hb' m.head (lk m.slot)
    rw [← hX', ← hok] at q
    refine q.mono ?_
    rintro e w' ⟨rfl, hx, k'⟩
    have hc : X'.cell = X.cell := by rw [hX']; split <;> rfl
    refine ⟨rfl, ⟨(h.ar.keep k (by simp)).keep k' (fun x hx => ?_), hx, h.offx, h.offh, by rw [hc]; exact h.cell⟩, (hi.keep k (by simp)).keep k' (by simpa using ⟨hi.off.2.1, hi.off.2.2⟩), k'.mono (fun x hx => ?_)⟩
    · simp only [List.mem_cons, List.not_mem_nil, or_false] at hx
      rcases hx with rfl | rfl
      · exact h.offx
      · exact h.offh
    · simp only [List.mem_cons, List.not_mem_nil, or_false] at hx
      rcases hx with rfl | rfl <;> simp
  have HL : Hid (∀ wx : World, Calls Tryz.prog 54 #[.int .i64 m.slot] wx fun e w' => e = .returned (.int .u64 (lk m.slot)) ∧ wx = w') := Lib.hid fun wx => link_ m.slot wx hsl.1 hsl.2
  have HAT := Lib.hid hat
  rw [hs]
  clear h hi hs hat hX' hok hb' hsl
  have hmf : ∀ (fn : Fn) (first cap : Array Value) (w : World), (Instr.makeFunc fn first cap).run Tryz.prog w = .ok (.func fn first cap) w := fun _ _ _ _ => rfl
  go_enter Tryz.func166, Tryz.ntmps166
  go_wp2_with fail
  go_region_held3 (fun w' => w'.cell? ⟨mb, 0, none⟩ = some (.pointer (some ⟨xb, 0, none⟩)) ∧ w'.cell? ⟨mb, 1, none⟩ = some (.int .i64 m.bucket) ∧ w'.cell? ⟨mb, 2, none⟩ = some (.int .i64 m.slot) ∧ w'.cell? ⟨mb, 4, none⟩ = some (.int .u64 m.head)) (go_keep)
    (first
      | (go_at_call 54; refine (HL.out _).mono ?_; rintro e wl ⟨rfl, rfl⟩)
      | (go_at_call 173; refine (C.out w.drew ((Keep.refl [] w).drew)).mono ?_; rintro e w2 ⟨rfl, h2, i2, k2⟩; obtain ⟨d0, d2, d4, y0, y1⟩ := sees_i h2 i2; have d1 : w2.cell? ⟨mb, 1, none⟩ = some (.int .i64 m.bucket) := (cell_of i2.hm 1).trans rfl; have H2 := Lib.hid (And.intro h2 (And.intro i2 k2)); clear h2 i2 k2))
  have b2 := H2.out.2.1.hm
  have e3 : w2.cell? ⟨mb, 3, none⟩ = some (nextI mb m.at_) := (cell_of b2 3).trans rfl
  rw [HAT.out] at e3
  have z3 := free_of b2 3
  have e6 : w2.cell? ⟨mb, 6, none⟩ = some (.int .i64 m.tries) := (cell_of b2 6).trans rfl
  have z6 := free_of b2 6
  have KK := Lib.hid (((Keep.refl [] w).drew.mono (by simp)).trans H2.out.2.2 : Keep (mb :: xb :: hb :: L.blocks) w w2)
  clear d0 d1 d2 d4 y0 y1 c0 c1 c2 c4 x0 x1
  have e3' : w2.cell? ⟨mb, 3, none⟩ = some (.func (.func 166) #[.pointer (some ⟨mb, 0, none⟩)] #[]) := e3
  clear e3
  cases ok
  · have b3 := set_same b2 6 (.int .i64 (wrap64 (m.tries + 1)))
    have f3 : (w2.setCell ⟨mb, 6, none⟩ (.int .i64 (wrap64 (m.tries + 1)))).cell? ⟨mb, 3, none⟩ = _ := (cell_off (by omega)).trans e3'
    have g3 : (w2.setCell ⟨mb, 6, none⟩ (.int .i64 (wrap64 (m.tries + 1)))).frozen? ⟨mb, 3, none⟩ = false := free_of b3 3
    have B2 := Lib.hid b2
    clear b2 b3
    go_wp2_with fail
    go_ret
    have k4 : Keep [mb] w2 ((w2.setCell ⟨mb, 6, none⟩ (.int .i64 (wrap64 (m.tries + 1)))).setCell ⟨mb, 3, none⟩ (nextI mb 2)) := ((Keep.refl _ _).set (.inl (by simp)) _ _).set (.inl (by simp)) 3 (nextI mb 2)
    refine ⟨rfl, H2.out.1.keep k4 (fun x hx => by rw [List.mem_singleton.1 hx]; exact HI.out.off), ⟨?_, HI.out.off⟩, KK.out.trans (k4.mono (by simp))⟩
    have := set_same (set_same B2.out 6 (.int .i64 (wrap64 (m.tries + 1)))) 3 (nextI mb 2)
    refine this.trans ?_
    rfl
  · clear b2 e6 z6
    go_wp2_with fail
    refine (doneI H2.out.2.1 0).mono ?_
    rintro e w4 ⟨rfl, i4, k4⟩
    have H4 := Lib.hid (And.intro i4 k4)
    clear i4 k4 e3' z3
    go_wp2_with fail
    go_ret
    exact ⟨rfl, H2.out.1.keep H4.out.2 (fun x hx => by rw [List.mem_singleton.1 hx]; exact HI.out.off), H4.out.1, KK.out.trans (H4.out.2.mono (by simp))⟩
end
end Go.Proofs.YtgagiggljlikbaaGreat.Ch
