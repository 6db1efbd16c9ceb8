/- The chain's Walk in memory: what its source reads (begun). -/
import Derived.Test.YtgagiggljlikbaaGreatChJ
namespace Go.Proofs.YtgagiggljlikbaaGreat.Ch
open Go.RowKit Go.Proofs.YtgagiggljlikbaaGreat.Mem Go.Proofs.YtgagiggljlikbaaGreat.Ar Go.Proofs.YtgagiggljlikbaaGreat.En
set_option linter.unusedVariables false
set_option linter.unusedSimpArgs false
set_option maxRecDepth 100000

/-- where a walk's source stands: vb, sb: what Behind's closure has captured -/
def srcV (mb vb sb : Nat) (m : MW) : Value :=
  if m.src then (if m.whole then .func (.func 43) #[.pointer (some ⟨mb, 0, none⟩)] #[] else .func (.func 140) #[] #[.pointer (some ⟨vb, 0, none⟩), .pointer (some ⟨sb, 0, none⟩)]) else .nilFunc
def wlkCells (xb : Nat) (m : MW) (sv : Value) (nx : Int) : Array Value := #[.pointer (some ⟨xb, 0, none⟩), .int .i64 (if m.whole then m.bucket else -1), sv, .int .i64 nx, .int .i64 m.slot, .bool m.ended, .int .i64 m.code]
structure WlkP (w : World) (L : Bk) (xb hb mb vb sb : Nat) (m : MW) : Prop where
  hm : ∃ sv nx, w.heap[mb]? = some (.cells (wlkCells xb m sv nx) 82 (0, 0)) ∧ (m.ended = false → sv = srcV mb vb sb m ∧ (m.src = false → nx = m.next))
  cap : m.whole = false → w.heap[vb]? = some (.cells #[.pointer (some ⟨xb, 0, none⟩)] 30 (0, 0)) ∧ w.heap[sb]? = some (.cells #[.int .i64 m.from_] 3 (0, 0))
  off : mb ∉ L.blocks ∧ mb ≠ xb ∧ mb ≠ hb
  offc : m.whole = false → (vb ∉ L.blocks ∧ vb ≠ xb ∧ vb ≠ hb ∧ vb ≠ mb) ∧ (sb ∉ L.blocks ∧ sb ≠ xb ∧ sb ≠ hb ∧ sb ≠ mb)
section
variable {w w' : World} {L : Bk} {A A' : Ars} {xb hb mb vb sb : Nat} {X X' : CI} {m : MW}
theorem WlkP.keep (h : WlkP w L xb hb mb vb sb m) {S : List Nat} (k : Keep S w w') (hS : mb ∉ S ∧ (m.whole = false → vb ∉ S ∧ sb ∉ S)) : WlkP w' L xb hb mb vb sb m := by
  obtain ⟨sv, nx, h1, h2⟩ := h.hm
  exact ⟨⟨sv, nx, k.old h1 hS.1, h2⟩, fun e => ⟨k.old (h.cap e).1 (hS.2 e).1, k.old (h.cap e).2 (hS.2 e).2⟩, h.off, h.offc⟩
set_option maxHeartbeats 2000000 in
/-- Behind's source -/
theorem behind1 (h : Env w L xb hb X A) (slot : Int) (hv : w.heap[vb]? = some (.cells #[.pointer (some ⟨xb, 0, none⟩)] 30 (0, 0))) (hs : w.heap[sb]? = some (.cells #[.int .i64 slot] 3 (0, 0))) (ov : vb ∉ L.blocks) (os : sb ∉ L.blocks) :
    Calls Tryz.prog 140 #[.pointer (some ⟨vb, 0, none⟩), .pointer (some ⟨sb, 0, none⟩)] w fun r w' => r = .returned (.tuple #[.int .u64 (ldA A slot X.cell).2.1, .int .i64 (ldA A slot X.cell).2.2]) ∧ Env w' L xb hb X (ldA A slot X.cell).1 ∧ Keep L.blocks w w' := by
  have c0 : w.cell? ⟨vb, 0, none⟩ = some (.pointer (some ⟨xb, 0, none⟩)) := (cell_of hv 0).trans rfl
  have c1 : w.cell? ⟨sb, 0, none⟩ = some (.int .i64 slot) := (cell_of hs 0).trans rfl
  have x0 : w.cell? ⟨xb, 0, none⟩ = some (.pointer (some ⟨L.b, 0, none⟩)) := (cell_of h.ix.hx 0).trans rfl
  have x1 : w.cell? ⟨xb, 1, none⟩ = some (.int .i64 X.cell) := (cell_of h.ix.hx 1).trans rfl
  obtain ⟨A', wv, er, hld⟩ : ∃ A' wv er, ldA A slot X.cell = (A', wv, er) := ⟨_, _, _, rfl⟩
  have C : Hid (∀ wx, Keep [] w wx → Calls Tryz.prog 44 #[.pointer (some ⟨L.b, 0, none⟩), .int .i64 slot, .int .i64 X.cell] wx fun e w' => e = .returned (.tuple #[.int .u64 wv, .int .i64 er]) ∧ Env w' L xb hb X A' ∧ Keep L.blocks wx w') := Lib.hid fun wx k => by
    have q := ldP (h.ar.keep k (by simp)) slot X.cell h.cell
    rw [hld] at q
    refine q.mono ?_
    rintro e w' ⟨rfl, ha, k'⟩
    have hw : A'.width = A.width := by
      have : A' = (ldA A slot X.cell).1 := by rw [hld]
      rw [this]
      unfold ldA
      split <;> rfl
    exact ⟨rfl, ⟨ha, (h.ix.keep k (by simp)).keep k' (fun x hx => ⟨fun e => h.offx (e ▸ hx), fun e => h.offh (e ▸ hx)⟩), h.offx, h.offh, by rw [hw]; exact h.cell⟩, k'⟩
  have OV := Lib.hid (And.intro ov os)
  have OX := Lib.hid h.offx
  rw [hld]
  clear h hv hs hld ov os
  go_enter Tryz.func140, Tryz.ntmps140
  go_wp2_with fail
  go_region_held3 (fun w' => w'.cell? ⟨vb, 0, none⟩ = some (.pointer (some ⟨xb, 0, none⟩)) ∧ w'.cell? ⟨sb, 0, none⟩ = some (.int .i64 slot) ∧ w'.cell? ⟨xb, 0, none⟩ = some (.pointer (some ⟨L.b, 0, none⟩)) ∧ w'.cell? ⟨xb, 1, none⟩ = some (.int .i64 X.cell)) (go_keep)
    (first
      | (go_at_call 44; refine (C.out w.drew ((Keep.refl [] w).drew)).mono ?_; rintro e w2 ⟨rfl, h2, k2⟩; have d0 := k2.cell (show w.drew.cell? ⟨vb, 0, none⟩ = _ from c0) OV.out.1; have d1 := k2.cell (show w.drew.cell? ⟨sb, 0, none⟩ = _ from c1) OV.out.2; have y0 := k2.cell (show w.drew.cell? ⟨xb, 0, none⟩ = _ from x0) OX.out; have y1 := k2.cell (show w.drew.cell? ⟨xb, 1, none⟩ = _ from x1) OX.out; have H2 := Lib.hid (And.intro h2 k2); clear h2 k2))
  go_wp2_with fail
  go_ret2
  exact ⟨rfl, H2.out.1, ((Keep.refl [] w).drew.mono (by simp)).trans H2.out.2⟩

set_option maxHeartbeats 2000000 in
/-- the source of a whole walk -/
theorem headW (h : Env w L xb hb X A) (b : Int) (hmb : mb ≠ xb) (c0 : w.cell? ⟨mb, 0, none⟩ = some (.pointer (some ⟨xb, 0, none⟩))) (c1 : w.cell? ⟨mb, 1, none⟩ = some (.int .i64 b)) :
    Calls Tryz.prog 43 #[.pointer (some ⟨mb, 0, none⟩)] w fun r w' => r = .returned (.tuple #[.int .u64 (if X.has b then X.head b else 0), .int .i64 (if X.has b then 0 else 40)]) ∧ Env w' L xb hb (if X.has b then X.tick else X) A ∧ Keep [xb] w w' := by
  have HH : Hid (∀ wx, Keep [] w wx → Calls Tryz.prog 40 #[.pointer (some ⟨xb, 0, none⟩), .int .i64 b] wx fun e w' => e = .returned (.bool (X.has b)) ∧ w' = wx) := Lib.hid fun wx k => (has (h.ix.keep k (by simp)) b).mono fun e w' ⟨he, hw⟩ => ⟨he, hw.symm⟩
  have HE := Lib.hid h
  have HM := Lib.hid hmb
  obtain ⟨hv, hhv⟩ : ∃ v, v = X.has b := ⟨_, rfl⟩
  rw [← hhv] at HH ⊢
  have HV := Lib.hid hhv
  have D0 := Lib.hid c0
  have D1 := Lib.hid c1
  clear h hmb hhv
  go_enter Tryz.func43, Tryz.ntmps43
  go_wp2_with fail
  go_quiet ((go_at_call 40; exact Calls.quiet_of_same (HH.out _ ((Keep.refl _ _).drewN _))))
  obtain ⟨wy, hwy⟩ : ∃ wy, wy = w.drewN nq := ⟨_, rfl⟩
  have ky : Keep [] w wy := by rw [hwy]; exact (Keep.refl _ _).drewN _
  rw [← hwy]
  clear hwy
  have HY := Lib.hid (And.intro (HE.out.keep ky (by simp)) ky)
  clear ky c0 c1
  cases hv
  · go_wp2_with fail
    go_ret2
    exact ⟨rfl, HY.out.1, HY.out.2.mono (by simp)⟩
  · have y0 := HY.out.2.cell D0.out (by simp)
    have y1 := HY.out.2.cell D1.out (by simp)
    go_wp2_with fail
    go_region_held3 (fun w' => w'.cell? ⟨mb, 0, none⟩ = some (.pointer (some ⟨xb, 0, none⟩)) ∧ w'.cell? ⟨mb, 1, none⟩ = some (.int .i64 b)) (go_keep)
      (first
        | (go_at_call 75; refine (first (HY.out.1.ix.keep ((Keep.refl [] wy).drew) (by simp)) b HV.out.symm).mono ?_; rintro e w2 ⟨rfl, hx, k2⟩; have HX := Lib.hid (And.intro hx k2); have d0 := k2.cell (show wy.drew.cell? ⟨mb, 0, none⟩ = _ from y0) (by simpa using HM.out); have d1 := k2.cell (show wy.drew.cell? ⟨mb, 1, none⟩ = _ from y1) (by simpa using HM.out); clear hx k2))
    go_wp2_with fail
    go_ret2
    have kk : Keep [xb] wy w2 := ((Keep.refl [] wy).drew.mono (by simp)).trans HX.out.2
    exact ⟨rfl, ⟨HY.out.1.ar.keep kk (fun x hx => by rw [List.mem_singleton.1 hx]; exact HE.out.offx), HX.out.1, HE.out.offx, HE.out.offh, HE.out.cell⟩, (HY.out.2.mono (by simp)).trans kk⟩

theorem slot_wlk (h : WlkP w L xb hb mb vb sb m) :
    Calls Tryz.prog 24 #[.pointer (some ⟨mb, 0, none⟩)] w fun r w' => r = .returned (.int .i64 m.slot) ∧ w = w' := by
  obtain ⟨sv, nx, hm, -⟩ := h.hm
  have c4 : w.cell? ⟨mb, 4, none⟩ = some (.int .i64 m.slot) := (cell_of hm 4).trans rfl
  clear h hm
  go_enter Tryz.func24, Tryz.ntmps24
  go_wp2_with fail
  go_ret
  exact ⟨rfl, rfl⟩
theorem code_wlk (h : WlkP w L xb hb mb vb sb m) :
    Calls Tryz.prog 71 #[.pointer (some ⟨mb, 0, none⟩)] w fun r w' => r = .returned (.int .i64 m.code) ∧ w = w' := by
  obtain ⟨sv, nx, hm, -⟩ := h.hm
  have c6 : w.cell? ⟨mb, 6, none⟩ = some (.int .i64 m.code) := (cell_of hm 6).trans rfl
  clear h hm
  go_enter Tryz.func71, Tryz.ntmps71
  go_wp2_with fail
  go_ret
  exact ⟨rfl, rfl⟩
theorem ended_wlk (h : WlkP w L xb hb mb vb sb m) :
    Calls Tryz.prog 25 #[.pointer (some ⟨mb, 0, none⟩)] w fun r w' => r = .returned (.bool m.ended) ∧ w = w' := by
  obtain ⟨sv, nx, hm, -⟩ := h.hm
  have c5 : w.cell? ⟨mb, 5, none⟩ = some (.bool m.ended) := (cell_of hm 5).trans rfl
  clear h hm
  go_enter Tryz.func25, Tryz.ntmps25
  go_wp2_with fail
  go_ret
  exact ⟨rfl, rfl⟩
end
end Go.Proofs.YtgagiggljlikbaaGreat.Ch
