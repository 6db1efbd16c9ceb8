import Derived.Test.YtdkdeiofjoccnaaGreatMoveB
import Derived.Test.YtdkdeiofjoccnaaGreatLook
import Derived.Test.YtdkdeiofjoccnaaGreatWorded
import Derived.Test.YtdkdeiofjoccnaaGreatGrow
/- looks: what a script asks and nothing turns: Pending, Idle, Steps, or nothing at all; Events. -/
namespace Go.Proofs.YtdkdeiofjoccnaaGreat.Ref
open Go.RowKit Go.Proofs.YtdkdeiofjoccnaaGreat.Mem Go.Proofs.YtdkdeiofjoccnaaGreat.Har Go.Proofs.YtdkdeiofjoccnaaGreat.Lit Go.Proofs.YtdkdeiofjoccnaaGreat.Ar Go.Proofs.YtdkdeiofjoccnaaGreat.Un
set_option linter.unusedVariables false
set_option linter.unusedSimpArgs false
set_option maxRecDepth 100000

section
variable {w0 w : World} {sb bb hb pb rb b0 n : Nat}
theorem har_of {P : Park} {H0 H : Har.Har} {S : St} {T U : List Nat} (h : ProgS w0 w bb hb P H0 H S T U) : ∃ hq vs ve vd, Har.At w hb hq vs ve vd H := by
  obtain ⟨hq, vs, ve, vd, hS, -⟩ := h.har
  exact ⟨_, _, _, _, hS.at_⟩
theorem rar_of {B : RB} {H0 H : Har.Har} {S : RP} {T U : List Nat} (h : DocS w0 w pb rb b0 B H0 H S T U) : ∃ bq vs ve vd, RAt w rb pb bq vs ve vd H := by
  obtain ⟨hq, vs, ve, vd, hS, -⟩ := h.har
  exact ⟨_, _, _, _, hS.at_⟩
set_option maxHeartbeats 4000000 in
theorem looks_none (h : PlayAt w0 w sb bb hb pb rb b0 n) (kind : Int) (hk : kind ≠ 5 ∧ kind ≠ 6 ∧ kind ≠ 7 ∧ kind ≠ 8 ∧ kind ≠ 9 ∧ kind ≠ 11 ∧ kind ≠ 12) (who tag num : Int) (pa ma : Option Addr) (np pc nm mc : Nat) :
    Calls Tryz.prog 13 #[.pointer (some ⟨sb, 0, none⟩), .agg #[.int .i64 kind, .int .i64 who, .int .i64 tag, .int .i64 num, .slice pa np pc, .slice ma nm mc]] w fun e w' => e = .returned (.bool true) ∧ PlayAt w0 w' sb bb hb pb rb b0 n := by
  obtain ⟨P, H0, H, S, B, H0', H', S', T, U, T', U', h, hl, hf⟩ := h
  obtain ⟨w1, hw1⟩ : ∃ w1, w1 = w.alloc (.cells #[.int .i64 kind, .int .i64 who, .int .i64 tag, .int .i64 num, .slice pa np pc, .slice ma nm mc] 54) := ⟨_, rfl⟩
  obtain ⟨tb, htb⟩ : ∃ tb, tb = w.heap.size := ⟨_, rfl⟩
  have k1 : Keep [] w w1 := by rw [hw1]; exact (Keep.refl _ _).alloc _
  have b1 : w1.heap[tb]? = some (.cells #[.int .i64 kind, .int .i64 who, .int .i64 tag, .int .i64 num, .slice pa np pc, .slice ma nm mc] 54 (0, 0)) := by rw [hw1, htb]; exact alloc_new _ _
  have M1 := Lib.hid (h.frame0 k1)
  have y0 := (cell_of b1 0).trans rfl
  have OF := Lib.hid (And.intro (h.offs.1 tb (by omega)) h.offs.2.2)
  have PL := Lib.hid hl
  have HF := Lib.hid hf
  have B1 := Lib.hid b1
  clear h hl hf k1 b1
  obtain ⟨j1, j2, j3, j4, j5, j6, j7⟩ := hk
  have q1 : (kind == 5) = false := by simpa using j1
  have q2 : (kind == 6) = false := by simpa using j2
  have q3 : (kind == 7) = false := by simpa using j3
  have q4 : (kind == 8) = false := by simpa using j4
  have q5 : (kind == 9) = false := by simpa using j5
  have q6 : (kind == 11) = false := by simpa using j6
  have q7 : (kind == 12) = false := by simpa using j7
  clear j1 j2 j3 j4 j5 j6 j7
  go_enter Tryz.func13, Tryz.ntmps13
  go_upto_region 1 with fail
  rw [show w.alloc (.cells #[.int .i64 kind, .int .i64 who, .int .i64 tag, .int .i64 num, .slice pa np pc, .slice ma nm mc] 54 (0, 0)) = w1 from hw1.symm, ← htb]
  clear hw1 htb
  go_wp2_with fail
  exact bodyPost_ret (results_tmp rfl _ _ _) rfl ⟨rfl, P, H0, H, S, B, H0', H', S', T, U, T', U', M1.out, PL.out, HF.out⟩
set_option maxHeartbeats 4000000 in
theorem looks_pending (h : PlayAt w0 w sb bb hb pb rb b0 n) (who tag num : Int) (pa ma : Option Addr) (np pc nm mc : Nat) :
    Calls Tryz.prog 13 #[.pointer (some ⟨sb, 0, none⟩), .agg #[.int .i64 5, .int .i64 who, .int .i64 tag, .int .i64 num, .slice pa np pc, .slice ma nm mc]] w fun e w' => e = .returned (.bool true) ∧ PlayAt w0 w' sb bb hb pb rb b0 n := by
  obtain ⟨P, H0, H, S, B, H0', H', S', T, U, T', U', h, hl, hf⟩ := h
  obtain ⟨w1, hw1⟩ : ∃ w1, w1 = w.alloc (.cells #[.int .i64 5, .int .i64 who, .int .i64 tag, .int .i64 num, .slice pa np pc, .slice ma nm mc] 54) := ⟨_, rfl⟩
  obtain ⟨tb, htb⟩ : ∃ tb, tb = w.heap.size := ⟨_, rfl⟩
  have k1 : Keep [] w w1 := by rw [hw1]; exact (Keep.refl _ _).alloc _
  have b1 : w1.heap[tb]? = some (.cells #[.int .i64 5, .int .i64 who, .int .i64 tag, .int .i64 num, .slice pa np pc, .slice ma nm mc] 54 (0, 0)) := by rw [hw1, htb]; exact alloc_new _ _
  have M1 := Lib.hid (h.frame0 k1)
  have y0 := (cell_of b1 0).trans rfl
  have OF := Lib.hid (And.intro (h.offs.1 tb (by omega)) h.offs.2.2)
  have PL := Lib.hid hl
  have HF := Lib.hid hf
  have B1 := Lib.hid b1
  clear h hl hf k1 b1
  have y1 := (cell_of B1.out 1).trans rfl
  have s0 := (cell_of M1.out.hrec 0).trans rfl
  have s2 := (cell_of M1.out.hrec 2).trans rfl
  obtain ⟨p, hp⟩ : ∃ p, p = pend H who := ⟨_, rfl⟩
  have HP := Lib.hid (show p = pend H who ∧ p = pend H' who from ⟨hp, hp.trans (PL.out.eh.pend who)⟩)
  have MX := Lib.hid (M1.out.frame0 ((Keep.refl [] w1).drew))
  clear hp
  go_enter Tryz.func13, Tryz.ntmps13
  go_upto_region 1 with fail
  rw [show w.alloc (.cells #[.int .i64 5, .int .i64 who, .int .i64 tag, .int .i64 num, .slice pa np pc, .slice ma nm mc] 54 (0, 0)) = w1 from hw1.symm, ← htb]
  clear hw1 htb
  go_wp2_with fail
  go_region_held3 (fun w' => w'.cell? ⟨tb, 1, none⟩ = some (.int .i64 who) ∧ w'.cell? ⟨sb, 0, none⟩ = some (.pointer (some ⟨hb, 0, none⟩)) ∧ w'.cell? ⟨sb, 2, none⟩ = some (.pointer (some ⟨rb, 0, none⟩))) (go_keep)
    (first
      | (go_at_call 41; obtain ⟨hq, vs, ve, vd, hA⟩ := har_of MX.out.p; refine (Har.pending hA who).mono ?_; clear hA; rintro e w2 ⟨he, rfl⟩; rw [← HP.out.1] at he; subst he)
      | (go_at_call 42; obtain ⟨hq, vs, ve, vd, hA⟩ := rar_of MX.out.d; refine (Ref.pending hA who).mono ?_; clear hA; rintro e w2 ⟨he, rfl⟩; rw [← HP.out.2] at he; subst he))
  go_wp2_with fail
  exact bodyPost_ret (results_tmp rfl _ _ _) rfl ⟨by simp, P, H0, H, S, B, H0', H', S', T, U, T', U', MX.out, PL.out, HF.out⟩
set_option maxHeartbeats 4000000 in
theorem looks_idle (h : PlayAt w0 w sb bb hb pb rb b0 n) (who tag num : Int) (pa ma : Option Addr) (np pc nm mc : Nat) :
    Calls Tryz.prog 13 #[.pointer (some ⟨sb, 0, none⟩), .agg #[.int .i64 6, .int .i64 who, .int .i64 tag, .int .i64 num, .slice pa np pc, .slice ma nm mc]] w fun e w' => e = .returned (.bool true) ∧ PlayAt w0 w' sb bb hb pb rb b0 n := by
  obtain ⟨P, H0, H, S, B, H0', H', S', T, U, T', U', h, hl, hf⟩ := h
  obtain ⟨w1, hw1⟩ : ∃ w1, w1 = w.alloc (.cells #[.int .i64 6, .int .i64 who, .int .i64 tag, .int .i64 num, .slice pa np pc, .slice ma nm mc] 54) := ⟨_, rfl⟩
  obtain ⟨tb, htb⟩ : ∃ tb, tb = w.heap.size := ⟨_, rfl⟩
  have k1 : Keep [] w w1 := by rw [hw1]; exact (Keep.refl _ _).alloc _
  have b1 : w1.heap[tb]? = some (.cells #[.int .i64 6, .int .i64 who, .int .i64 tag, .int .i64 num, .slice pa np pc, .slice ma nm mc] 54 (0, 0)) := by rw [hw1, htb]; exact alloc_new _ _
  have M1 := Lib.hid (h.frame0 k1)
  have y0 := (cell_of b1 0).trans rfl
  have OF := Lib.hid (And.intro (h.offs.1 tb (by omega)) h.offs.2.2)
  have PL := Lib.hid hl
  have HF := Lib.hid hf
  have B1 := Lib.hid b1
  clear h hl hf k1 b1
  have s0 := (cell_of M1.out.hrec 0).trans rfl
  have s2 := (cell_of M1.out.hrec 2).trans rfl
  obtain ⟨d, hd⟩ : ∃ p, p = idleB H := ⟨_, rfl⟩
  have HP := Lib.hid (show d = idleB H ∧ d = idleB H' from ⟨hd, hd.trans (EvenH.idle PL.out.es PL.out.eh)⟩)
  have MX := Lib.hid (M1.out.frame0 ((Keep.refl [] w1).drew))
  clear hd
  go_enter Tryz.func13, Tryz.ntmps13
  go_upto_region 1 with fail
  rw [show w.alloc (.cells #[.int .i64 6, .int .i64 who, .int .i64 tag, .int .i64 num, .slice pa np pc, .slice ma nm mc] 54 (0, 0)) = w1 from hw1.symm, ← htb]
  clear hw1 htb
  go_wp2_with fail
  go_region_held3 (fun w' => w'.cell? ⟨sb, 0, none⟩ = some (.pointer (some ⟨hb, 0, none⟩)) ∧ w'.cell? ⟨sb, 2, none⟩ = some (.pointer (some ⟨rb, 0, none⟩))) (go_keep)
    (first
      | (go_at_call 43; obtain ⟨hq, vs, ve, vd, hA⟩ := har_of MX.out.p; refine (Har.idle hA).mono ?_; clear hA; rintro e w2 ⟨he, k2⟩; rw [← HP.out.1] at he; subst he; have M2 := Lib.hid (MX.out.frame0 k2); have z0 := k2.cell (show w1.drew.cell? ⟨sb, 0, none⟩ = _ from s0) (by simp); have z2 := k2.cell (show w1.drew.cell? ⟨sb, 2, none⟩ = _ from s2) (by simp); clear k2)
      | (go_at_call 44; refine (Ref.idle' M2.out.d.rs).mono ?_; rintro e w3 ⟨he, k3⟩; rw [← HP.out.2] at he; subst he; have M3 := Lib.hid (M2.out.frame0 k3); have v0 := k3.cell z0 (by simp); have v2 := k3.cell z2 (by simp); clear k3))
  go_wp2_with fail
  exact bodyPost_ret (results_tmp rfl _ _ _) rfl ⟨by cases d <;> rfl, P, H0, H, S, B, H0', H', S', T, U, T', U', M3.out, PL.out, HF.out⟩
set_option maxHeartbeats 4000000 in
theorem looks_steps (h : PlayAt w0 w sb bb hb pb rb b0 n) (who tag num : Int) (pa ma : Option Addr) (np pc nm mc : Nat) :
    Calls Tryz.prog 13 #[.pointer (some ⟨sb, 0, none⟩), .agg #[.int .i64 7, .int .i64 who, .int .i64 tag, .int .i64 num, .slice pa np pc, .slice ma nm mc]] w fun e w' => e = .returned (.bool true) ∧ PlayAt w0 w' sb bb hb pb rb b0 n := by
  obtain ⟨P, H0, H, S, B, H0', H', S', T, U, T', U', h, hl, hf⟩ := h
  obtain ⟨w1, hw1⟩ : ∃ w1, w1 = w.alloc (.cells #[.int .i64 7, .int .i64 who, .int .i64 tag, .int .i64 num, .slice pa np pc, .slice ma nm mc] 54) := ⟨_, rfl⟩
  obtain ⟨tb, htb⟩ : ∃ tb, tb = w.heap.size := ⟨_, rfl⟩
  have k1 : Keep [] w w1 := by rw [hw1]; exact (Keep.refl _ _).alloc _
  have b1 : w1.heap[tb]? = some (.cells #[.int .i64 7, .int .i64 who, .int .i64 tag, .int .i64 num, .slice pa np pc, .slice ma nm mc] 54 (0, 0)) := by rw [hw1, htb]; exact alloc_new _ _
  have M1 := Lib.hid (h.frame0 k1)
  have y0 := (cell_of b1 0).trans rfl
  have OF := Lib.hid (And.intro (h.offs.1 tb (by omega)) h.offs.2.2)
  have PL := Lib.hid hl
  have HF := Lib.hid hf
  have B1 := Lib.hid b1
  clear h hl hf k1 b1
  have s0 := (cell_of M1.out.hrec 0).trans rfl
  have s2 := (cell_of M1.out.hrec 2).trans rfl
  obtain ⟨x, hx⟩ : ∃ p, p = H.steps := ⟨_, rfl⟩
  have HP := Lib.hid (show x = H.steps ∧ x = H'.steps from ⟨hx, hx.trans PL.out.eh.steps⟩)
  have MX := Lib.hid (M1.out.frame0 ((Keep.refl [] w1).drew))
  clear hx
  go_enter Tryz.func13, Tryz.ntmps13
  go_upto_region 1 with fail
  rw [show w.alloc (.cells #[.int .i64 7, .int .i64 who, .int .i64 tag, .int .i64 num, .slice pa np pc, .slice ma nm mc] 54 (0, 0)) = w1 from hw1.symm, ← htb]
  clear hw1 htb
  go_wp2_with fail
  go_region_held3 (fun w' => w'.cell? ⟨sb, 0, none⟩ = some (.pointer (some ⟨hb, 0, none⟩)) ∧ w'.cell? ⟨sb, 2, none⟩ = some (.pointer (some ⟨rb, 0, none⟩))) (go_keep)
    (first
      | (go_at_call 45; obtain ⟨hq, vs, ve, vd, hS, -⟩ := MX.out.p.har; refine (Har.steps hS).mono ?_; clear hS; rintro e w2 ⟨he, rfl⟩; rw [← HP.out.1] at he; subst he)
      | (go_at_call 46; obtain ⟨hq, vs, ve, vd, hA⟩ := rar_of MX.out.d; refine (Ref.stepsR hA).mono ?_; clear hA; rintro e w2 ⟨he, rfl⟩; rw [← HP.out.2] at he; subst he))
  go_wp2_with fail
  exact bodyPost_ret (results_tmp rfl _ _ _) rfl ⟨by simp, P, H0, H, S, B, H0', H', S', T, U, T', U', MX.out, PL.out, HF.out⟩
end
end Go.Proofs.YtdkdeiofjoccnaaGreat.Ref

/- looks: Events: five lists, none of which has anything of another's. -/
namespace Go.Proofs.YtdkdeiofjoccnaaGreat.Ref
open Go.RowKit Go.Proofs.YtdkdeiofjoccnaaGreat.Mem Go.Proofs.YtdkdeiofjoccnaaGreat.Har Go.Proofs.YtdkdeiofjoccnaaGreat.Lit Go.Proofs.YtdkdeiofjoccnaaGreat.Ar Go.Proofs.YtdkdeiofjoccnaaGreat.Un
set_option linter.unusedVariables false
set_option linter.unusedSimpArgs false
set_option maxRecDepth 100000

section
variable {w0 w : World} {sb bb hb pb rb b0 n : Nat}
/-- a list of events, made at a moment: its block lies between B and C -/
structure EvRow (w : World) (B C : Nat) (a : Option Addr) (m c : Nat) (es : List Ev) : Prop where
  len : m = es.length
  row : w.ownsRow B 190 4 (.slice a m c) m (evs es)
  lt : ∀ g, (Value.slice a m c).ownBlock = some g → B ≤ g ∧ g < C
theorem evRow_of {w : World} {B : Nat} {v : Value} {es : List Ev} (h : w.ownsRow B 190 4 v es.length (evs es)) {m : Nat} (hm : m = es.length) : ∃ a c, v = .slice a m c ∧ EvRow w B w.heap.size a m c es := by
  obtain ⟨a, c, rfl⟩ := row_form h
  subst hm
  exact ⟨a, c, rfl, rfl, h, fun g hg => h.lt g hg⟩
theorem EvRow.keep {w w' : World} {B C : Nat} {a : Option Addr} {m c : Nat} {es : List Ev} (h : EvRow w B C a m c es) {S : List Nat} (k : Keep S w w') (hS : ∀ x ∈ S, x < B ∨ C ≤ x) : EvRow w' B C a m c es :=
  ⟨h.len, Har.owns_block h.row fun g hg => k.block g (h.row.lt g hg).2 fun hm => by have := hS g hm; have := h.lt g hg; omega, h.lt⟩
theorem EvRow.in_ {w : World} {B C : Nat} {a : Option Addr} {m c : Nat} {es : List Ev} (h : EvRow w B C a m c es) : EvsIn w a es := by
  have hr := h.row
  rw [h.len] at hr
  obtain ⟨a', c', e, hi⟩ := evsIn_of hr
  simp only [Value.slice.injEq] at e
  rw [e.1]
  exact hi
theorem EvRow.same {w : World} {B C B' C' : Nat} {a a' : Option Addr} {m m' c c' : Nat} {es : List Ev} (h : EvRow w B C a m c es) (h' : EvRow w B' C' a' m' c' es) (hl : es.length ≤ 1000000000000) :
    Calls Tryz.prog 50 #[.slice a m c, .slice a' m' c'] w fun e w' => e = .returned (.bool true) ∧ Keep [] w w' := by
  rw [h.len, h'.len]
  exact (sameEv h.in_ h'.in_ hl).mono fun e w' ⟨he, hk⟩ => ⟨he, keep_of_drewN hk⟩
theorem EvRow.evented {w : World} {B C : Nat} {a : Option Addr} {m c : Nat} {es : List Ev} (h : EvRow w B C a m c es) (hl : es.length ≤ 1000000000000) :
    Calls Tryz.prog 51 #[.slice a m c] w fun e w' => e = .returned (.tuple #[]) ∧ Keep (Value.slice a m c).ownBlock.toList w w' :=
  Lit.evented (Pick.owns_mono h.row (Nat.zero_le _)) (by rw [h.len]; exact hl)
set_option maxHeartbeats 4000000 in
theorem looks_events (h : PlayAt w0 w sb bb hb pb rb b0 n) (who tag num : Int) (pa ma : Option Addr) (np pc nm mc : Nat) :
    Calls Tryz.prog 13 #[.pointer (some ⟨sb, 0, none⟩), .agg #[.int .i64 8, .int .i64 who, .int .i64 tag, .int .i64 num, .slice pa np pc, .slice ma nm mc]] w fun e w' => e = .returned (.bool true) ∧ PlayAt w0 w' sb bb hb pb rb b0 n := by
  obtain ⟨P, H0, H, S, B, H0', H', S', T, U, T', U', h, hl, hf⟩ := h
  obtain ⟨w1, hw1⟩ : ∃ w1, w1 = w.alloc (.cells #[.int .i64 8, .int .i64 who, .int .i64 tag, .int .i64 num, .slice pa np pc, .slice ma nm mc] 54) := ⟨_, rfl⟩
  obtain ⟨tb, htb⟩ : ∃ tb, tb = w.heap.size := ⟨_, rfl⟩
  have k1 : Keep [] w w1 := by rw [hw1]; exact (Keep.refl _ _).alloc _
  have b1 : w1.heap[tb]? = some (.cells #[.int .i64 8, .int .i64 who, .int .i64 tag, .int .i64 num, .slice pa np pc, .slice ma nm mc] 54 (0, 0)) := by rw [hw1, htb]; exact alloc_new _ _
  have M1 := Lib.hid (h.frame0 k1)
  have y0 := (cell_of b1 0).trans rfl
  have OF := Lib.hid (And.intro (h.offs.1 tb (by omega)) h.offs.2.2)
  have PL := Lib.hid hl
  have HF := Lib.hid hf
  have B1 := Lib.hid b1
  have K1 := Lib.hid k1
  clear h hl hf k1 b1
  have hfew : H'.events.length ≤ 1000000000000 ∧ H0'.events.length ≤ 1000000000000 := by
    obtain ⟨bq, vs, ve, vd, -, -, -, h4⟩ := M1.out.d.own
    have := M1.out.d.few
    exact ⟨by omega, h4⟩
  have FW := Lib.hid hfew
  obtain ⟨m, hm⟩ : ∃ m, m = H'.events.length := ⟨_, rfl⟩
  obtain ⟨m0, hm0⟩ : ∃ m, m = H0'.events.length := ⟨_, rfl⟩
  have HM := Lib.hid (And.intro hm hm0)
  have s0 := (cell_of M1.out.hrec 0).trans rfl
  clear hm hm0 hfew
  go_enter Tryz.func13, Tryz.ntmps13
  go_upto_region 1 with fail
  rw [show w.alloc (.cells #[.int .i64 8, .int .i64 who, .int .i64 tag, .int .i64 num, .slice pa np pc, .slice ma nm mc] 54 (0, 0)) = w1 from hw1.symm, ← htb]
  clear hw1 htb
  go_wp2_with fail
  obtain ⟨hq, vs, ve, vd, hA⟩ := har_of M1.out.p
  refine (Har.events hA (by rw [PL.out.eh.events]; exact FW.out.1)).mono ?_
  clear hA hq vs ve vd
  rintro e w2 ⟨v1, rfl, hv, k2⟩
  rw [PL.out.eh.events] at hv
  obtain ⟨a1, c1, rfl, r1⟩ := evRow_of hv HM.out.1
  have R1 := Lib.hid r1
  have M2 := Lib.hid (M1.out.frame0 k2)
  clear hv r1 s0
  have s0 := (cell_of M2.out.hrec 0).trans rfl
  go_wp2_with fail
  obtain ⟨hq, vs, ve, vd, hA⟩ := har_of M2.out.p
  refine (Har.events hA (by rw [PL.out.eh.events]; exact FW.out.1)).mono ?_
  clear hA hq vs ve vd
  rintro e w3 ⟨v2, rfl, hv, k3⟩
  rw [PL.out.eh.events] at hv
  obtain ⟨a2, c2, rfl, r2⟩ := evRow_of hv HM.out.1
  have R2 := Lib.hid r2
  have M3 := Lib.hid (M2.out.frame0 k3)
  clear hv r2 s0
  have s1 := (cell_of M3.out.hrec 1).trans rfl
  go_wp2_with fail
  refine (M3.out.p.rest.events).mono ?_
  rintro e w4 ⟨v3, rfl, hv, k4⟩
  rw [PL.out.e0.events] at hv
  obtain ⟨a3, c3, rfl, r3⟩ := evRow_of hv HM.out.2
  have R3 := Lib.hid r3
  have M4 := Lib.hid (M3.out.frame0 k4)
  clear hv r3 s1
  have s2 := (cell_of M4.out.hrec 2).trans rfl
  go_wp2_with fail
  obtain ⟨hq, vs, ve, vd, hA⟩ := rar_of M4.out.d
  refine (RAt.eventsR hA FW.out.1).mono ?_
  clear hA hq vs ve vd
  rintro e w5 ⟨v4, rfl, hv, k5⟩
  obtain ⟨a4, c4, rfl, r4⟩ := evRow_of hv HM.out.1
  have R4 := Lib.hid r4
  have M5 := Lib.hid (M4.out.frame0 k5)
  clear hv r4 s2
  have s3 := (cell_of M5.out.hrec 3).trans rfl
  have p2 := M5.out.d.c2
  go_wp2_with fail
  obtain ⟨hq, vs, ve, vd, hA, -, -, -⟩ := M5.out.d.own
  refine (RAt.eventsR hA FW.out.2).mono ?_
  clear hA hq vs ve vd
  rintro e w6 ⟨v5, rfl, hv, k6⟩
  obtain ⟨a5, c5, rfl, r5⟩ := evRow_of hv HM.out.2
  have q3 := k3
  have q4 := k4
  have R5 := Lib.hid r5
  have M6 := Lib.hid (M5.out.frame0 k6)
  have K16 := Lib.hid ((((k2.trans k3).trans k4).trans k5).trans k6)
  have R16 := Lib.hid (R1.out.keep (((k3.trans k4).trans k5).trans k6) (by simp))
  have R26 := Lib.hid (R2.out.keep ((k4.trans k5).trans k6) (by simp))
  have R36 := Lib.hid (R3.out.keep (k5.trans k6) (by simp))
  have R46 := Lib.hid (R4.out.keep k6 (by simp))
  have SZ := Lib.hid (show w.heap.size ≤ w1.heap.size ∧ w1.heap.size ≤ w2.heap.size ∧ w2.heap.size ≤ w3.heap.size ∧ w3.heap.size ≤ w4.heap.size ∧ w4.heap.size ≤ w5.heap.size ∧ w5.heap.size ≤ w6.heap.size from ⟨K1.out.size, k2.size, k3.size, k4.size, k5.size, k6.size⟩)
  have ML := Lib.hid M1.out.lt
  have MS := Lib.hid (lt_of M1.out.hrec)
  have MZ := Lib.hid M1.out.kept.size
  clear hv r5 k2 k3 k4 k5 k6 q3 q4 s3 p2
  go_wp2_with fail
  refine (R16.out.same R46.out FW.out.1).mono ?_
  rintro e w7 ⟨rfl, k7⟩
  have K7 := Lib.hid k7
  clear k7
  go_wp2_with fail
  refine ((R26.out.keep K7.out (by simp)).same (R46.out.keep K7.out (by simp)) FW.out.1).mono ?_
  rintro e w8 ⟨rfl, k8⟩
  have K8 := Lib.hid (K7.out.trans k8)
  clear k8
  go_wp2_with fail
  refine ((R36.out.keep K8.out (by simp)).same (R5.out.keep K8.out (by simp)) FW.out.2).mono ?_
  rintro e w9 ⟨rfl, k9⟩
  have K9 := Lib.hid (K8.out.trans k9)
  clear k9
  go_wp2_with fail
  refine ((R16.out.keep K9.out (by simp)).evented FW.out.1).mono ?_
  rintro e w10 ⟨rfl, k10⟩
  have l1 : ∀ x ∈ (Value.slice a1 m c1).ownBlock.toList, w1.heap.size ≤ x ∧ x < w2.heap.size := fun x hx => R1.out.lt x (by simpa using hx)
  have l2 : ∀ x ∈ (Value.slice a2 m c2).ownBlock.toList, w2.heap.size ≤ x ∧ x < w3.heap.size := fun x hx => R2.out.lt x (by simpa using hx)
  have l3 : ∀ x ∈ (Value.slice a3 m0 c3).ownBlock.toList, w3.heap.size ≤ x ∧ x < w4.heap.size := fun x hx => R3.out.lt x (by simpa using hx)
  have L1 := Lib.hid (And.intro l1 (And.intro l2 l3))
  have T2 := Lib.hid ((R26.out.keep K9.out (by simp)).keep k10 (fun x hx => by have := l1 x hx; have := SZ.out; omega))
  have T3 := Lib.hid ((R36.out.keep K9.out (by simp)).keep k10 (fun x hx => by have := l1 x hx; have := SZ.out; omega))
  have T4 := Lib.hid ((R46.out.keep K9.out (by simp)).keep k10 (fun x hx => by have := l1 x hx; have := SZ.out; omega))
  have T5 := Lib.hid ((R5.out.keep K9.out (by simp)).keep k10 (fun x hx => by have := l1 x hx; have := SZ.out; omega))
  have K10 := Lib.hid k10
  clear l1 l2 l3 k10
  go_wp2_with fail
  refine (T2.out.same T4.out FW.out.1).mono ?_
  rintro e w11 ⟨rfl, k11⟩
  have K11 := Lib.hid k11
  clear k11
  go_wp2_with fail
  refine ((T3.out.keep K11.out (by simp)).same (T5.out.keep K11.out (by simp)) FW.out.2).mono ?_
  rintro e w12 ⟨rfl, k12⟩
  have K12 := Lib.hid (K11.out.trans k12)
  clear k12
  go_wp2_with fail
  refine ((T2.out.keep K12.out (by simp)).evented FW.out.1).mono ?_
  rintro e w13 ⟨rfl, k13⟩
  have V3 := Lib.hid ((T3.out.keep K12.out (by simp)).keep k13 (fun x hx => by have := L1.out.2.1 x hx; have := SZ.out; omega))
  have V5 := Lib.hid ((T5.out.keep K12.out (by simp)).keep k13 (fun x hx => by have := L1.out.2.1 x hx; have := SZ.out; omega))
  have K13 := Lib.hid k13
  clear k13
  go_wp2_with fail
  refine (V3.out.same V5.out FW.out.2).mono ?_
  rintro e w14 ⟨rfl, k14⟩
  have K14 := Lib.hid k14
  clear k14
  go_wp2_with fail
  refine ((V3.out.keep K14.out (by simp)).evented FW.out.2).mono ?_
  rintro e w15 ⟨rfl, k15⟩
  have K15 := Lib.hid k15
  clear k15
  go_wp2_with fail
  refine bodyPost_ret (results_tmp rfl _ _ _) rfl ⟨rfl, P, H0, H, S, B, H0', H', S', T, U, T', U', ?_, PL.out, HF.out⟩
  have sz := SZ.out
  have kk : Keep [] w1 w15 := (((((K16.out.trans K9.out).chain K10.out (fun x hx => .inr (L1.out.1 x hx).1)).trans K12.out).chain K13.out (fun x hx => .inr (by have := (L1.out.2.1 x hx).1; omega))).trans K14.out).chain K15.out (fun x hx => .inr (by have := (L1.out.2.2 x hx).1; omega))
  exact M1.out.frame0 kk
end
end Go.Proofs.YtdkdeiofjoccnaaGreat.Ref

/- looks: Take: the machines that have ended, on both sides. -/
namespace Go.Proofs.YtdkdeiofjoccnaaGreat.Ref
open Go.RowKit Go.Proofs.YtdkdeiofjoccnaaGreat.Mem Go.Proofs.YtdkdeiofjoccnaaGreat.Har Go.Proofs.YtdkdeiofjoccnaaGreat.Lit Go.Proofs.YtdkdeiofjoccnaaGreat.Ar Go.Proofs.YtdkdeiofjoccnaaGreat.Un
set_option linter.unusedVariables false
set_option linter.unusedSimpArgs false
set_option maxRecDepth 100000

section
variable {w0 w : World} {sb bb hb pb rb b0 n : Nat}
theorem PlayM.progS {w w' : World} {P : Park} {H0 H H1 : Har.Har} {S S1 : St} {B : RB} {H0' H' : Har.Har} {S' : RP} {T U T' U' : List Nat} (h : PlayM w0 w sb bb hb pb rb b0 P H0 H S B H0' H' S' T U T' U') {hq' : Nat} {vs' : List Value} {ve' vd' : Value} (hS : Since (machs P) w U w' hb hq' vs' ve' vd' H1 S1) :
    PlayM w0 w' sb bb hb pb rb b0 P H0 H1 S1 B H0' H' S' T (Har.blocks hb hq' (ve' :: vd' :: vs')) T' U' := by
  have hsub := h.p.rest.sub
  have hl := h.lt
  have hge := h.ge
  have hn := hS.own
  have k := hS.keep
  have hz := h.kept.size
  have hin : ∀ x ∈ U ++ P.all, x ∈ T ++ U := fun x hx => by
    rcases List.mem_append.1 hx with hx | hx
    · exact List.mem_append_right _ hx
    · exact List.mem_append_left _ (hsub x hx)
  have hp : ProgS w0 w' bb hb P H0 H1 S1 T (Har.blocks hb hq' (ve' :: vd' :: vs')) := by
    refine ⟨h.p.rest.state (V := U) hS.mach k (fun x hx => ⟨h.p.ap x hx, h.p.new x hx⟩), ⟨hq', vs', ve', vd', hS.rebase, rfl⟩, fun x hx hm => ?_, fun x hx => ?_⟩
    · rcases hn x hx with h1 | h1
      · exact h.p.ap x h1 hm
      · have := hl.1 x (List.mem_append_left _ hm)
        omega
    · rcases hn x hx with h1 | h1
      · exact h.p.new x h1
      · omega
  refine ⟨k.old h.hrec fun hm => h.off.1 (hin sb hm), ⟨fun hm => ?_, h.off.2⟩, hp, h.d.frame k fun x hx => ⟨fun hm => h.ap x (hin x hx) (List.mem_append_left _ hm), fun hm => h.ap x (hin x hx) (List.mem_append_right _ hm), hge x (hin x hx)⟩, fun x hx hm => ?_⟩
  · rcases List.mem_append.1 hm with hm | hm
    · exact h.off.1 (List.mem_append_left _ hm)
    · rcases hn sb hm with h1 | h1
      · exact h.off.1 (List.mem_append_right _ h1)
      · have := lt_of h.hrec
        omega
  · rcases List.mem_append.1 hx with hx | hx
    · exact h.ap x (List.mem_append_left _ hx) hm
    · rcases hn x hx with h1 | h1
      · exact h.ap x (List.mem_append_right _ h1) hm
      · have := hl.2 x hm
        omega
/-- what has ended, on both sides -/
theorem ended_of {w : World} {P : Park} {H H' : Har.Har} {v va : Value} (h : EvenH P H H') (h1 : w.ownsRow 0 38 1 v H.ended.length H.ended) (h2 : w.ownsRow 0 3 1 va H'.ended.length H'.ended) : Ended w v va P H.ended H'.ended := by
  have hl : H.ended.length = H'.ended.length := by
    have := congrArg List.length h.ended
    simpa using this
  refine ⟨h1, h2, hl, fun i k1 k2 => ?_⟩
  obtain ⟨j, hj, e1, e2⟩ := h.all.2 _ (List.getElem_mem k1)
  obtain ⟨q, e3⟩ := h.all'.2 _ (List.getElem_mem k2)
  have e4 := congrArg (fun l : List Nat => l[i]?) h.ended
  simp only [List.getElem?_map, List.getElem?_eq_getElem k1, List.getElem?_eq_getElem k2, Option.map_some, Option.some.injEq] at e4
  rw [e2, e3] at e4
  have e5 : j = q := by simpa [numOf] using e4
  subst e5
  refine ⟨j, hj, e3, ?_⟩
  rw [e1, thrA_at hj]
  rfl
set_option maxHeartbeats 4000000 in
theorem looks_take (h : PlayAt w0 w sb bb hb pb rb b0 n) (who tag num : Int) (pa ma : Option Addr) (np pc nm mc : Nat) :
    Calls Tryz.prog 13 #[.pointer (some ⟨sb, 0, none⟩), .agg #[.int .i64 9, .int .i64 who, .int .i64 tag, .int .i64 num, .slice pa np pc, .slice ma nm mc]] w fun e w' => e = .returned (.bool true) ∧ PlayAt w0 w' sb bb hb pb rb b0 n := by
  obtain ⟨P, H0, H, S, B, H0', H', S', T, U, T', U', h, hl, hf⟩ := h
  obtain ⟨w1, hw1⟩ : ∃ w1, w1 = w.alloc (.cells #[.int .i64 9, .int .i64 who, .int .i64 tag, .int .i64 num, .slice pa np pc, .slice ma nm mc] 54) := ⟨_, rfl⟩
  obtain ⟨tb, htb⟩ : ∃ tb, tb = w.heap.size := ⟨_, rfl⟩
  have k1 : Keep [] w w1 := by rw [hw1]; exact (Keep.refl _ _).alloc _
  have b1 : w1.heap[tb]? = some (.cells #[.int .i64 9, .int .i64 who, .int .i64 tag, .int .i64 num, .slice pa np pc, .slice ma nm mc] 54 (0, 0)) := by rw [hw1, htb]; exact alloc_new _ _
  have M1 := Lib.hid (h.frame0 k1)
  have y0 := (cell_of b1 0).trans rfl
  have OF := Lib.hid (And.intro (h.offs.1 tb (by omega)) h.offs.2.2)
  have PL := Lib.hid hl
  have HF := Lib.hid hf
  have B1 := Lib.hid b1
  clear h hl hf k1 b1
  have s0 := (cell_of M1.out.hrec 0).trans rfl
  have s4 := (cell_of M1.out.hrec 2).trans rfl
  have MX := Lib.hid (M1.out.frame0 ((Keep.refl [] w1).drew))
  obtain ⟨hq, vs, ve, vd, hS, hU⟩ := MX.out.p.har
  have HS := Lib.hid hS
  have HU := Lib.hid hU
  have s2 : ∀ w2 : World, PlayM w0 w2 sb bb hb pb rb b0 P H0 { H with ended := [] } S B H0' H' S' T (Har.blocks hb hq (ve :: .slice none 0 0 :: vs)) T' U' → w2.cell? ⟨sb, 2, none⟩ = some (.pointer (some ⟨rb, 0, none⟩)) := fun w2 h => cell_of h.hrec 2
  have S2 := Lib.hid s2
  have hvl : H.ended.length ≤ 1000000000000 := by have := hS.few; omega
  have HVL := Lib.hid hvl
  have VO : Hid (∀ g, vd.ownBlock = some g → g ∈ U ∧ g ∉ Har.blocks hb hq (ve :: .slice none 0 0 :: vs)) := Lib.hid (fun g hg => by
    refine ⟨by rw [hU]; exact mem_vd hg, fun hm => ?_⟩
    have ha := hS.at_.apart
    rw [mem_blocks] at hm
    have h1 := ha.off 1 (by simp) g hg
    rcases hm with rfl | rfl | ⟨i, hi, hx⟩
    · exact h1.1 rfl
    · exact h1.2 rfl
    · rcases i with _ | _ | i
      · have := ha.two 0 1 (by simp) (by simp) g hx hg
        omega
      · simp [Value.ownBlock] at hx
      · have := ha.two (i + 2) 1 (by simpa using hi) (by simp) g (by simpa using hx) hg
        omega)
  have VM : Hid (∀ g, vd.ownBlock = some g → g ∈ U' ++ B.mem → False) := Lib.hid (fun g hg hm => by
    have h1 := (VO.out g hg).1
    rcases List.mem_append.1 hm with hm | hm
    · exact MX.out.ap g (List.mem_append_right _ h1) (List.mem_append_right _ hm)
    · exact MX.out.ap g (List.mem_append_right _ h1) (List.mem_append_left _ (MX.out.d.sub g (by simp [RB.all, hm]))))
  have VS : Hid (¬ vd.ownBlock = some sb) := Lib.hid (fun e => MX.out.off.1 (List.mem_append_right _ (VO.out sb e).1))
  clear hS hU s2 hvl
  go_enter Tryz.func13, Tryz.ntmps13
  go_upto_region 1 with fail
  rw [show w.alloc (.cells #[.int .i64 9, .int .i64 who, .int .i64 tag, .int .i64 num, .slice pa np pc, .slice ma nm mc] 54 (0, 0)) = w1 from hw1.symm, ← htb]
  clear hw1 htb
  go_wp2_with fail
  go_region_held3 (fun w' => w'.cell? ⟨sb, 0, none⟩ = some (.pointer (some ⟨hb, 0, none⟩)) ∧ w'.cell? ⟨sb, 2, none⟩ = some (.pointer (some ⟨rb, 0, none⟩))) (go_keep)
    (first
      | (go_at_call 53; refine (Har.take HS.out).mono ?_; rintro e w2 ⟨rfl, hr2, -, hS2⟩; have M2 := Lib.hid (MX.out.progS hS2); have WZ := Lib.hid (show w1.drew.heap.size ≤ w2.heap.size from hS2.keep.size); have RR2 := Lib.hid hr2; have v0 := (cell_of M2.out.hrec 0).trans rfl; have v2 := S2.out _ M2.out; clear hr2 hS2)
      | (go_at_call 54; obtain ⟨bq', vs', ve', vd', hS', hU'⟩ := M2.out.d.har; refine (Ref.takeR hS' hU').mono ?_; rintro e w3 ⟨rfl, hr3, hS3⟩; obtain ⟨U2, hp3, k3, hn3⟩ := M2.out.doc ⟨⟨_, _, _, _, hS3⟩, M2.out.d.few⟩; have M3 := Lib.hid hp3; have K3 := Lib.hid k3; have N3 := Lib.hid hn3; have RR3 := Lib.hid hr3; have u0 := (cell_of M3.out.hrec 0).trans rfl; have u2 := (cell_of M3.out.hrec 2).trans rfl; clear hr3 hS3 hS' hU' hp3 k3 hn3)
      | (go_at_call 52; have R32 := Har.owns_block RR2.out (fun g hg => K3.out.block g (RR2.out.lt g hg).2 (fun hm => VM.out g hg hm)); refine (took ((cell_of M3.out.hrec 1).trans rfl) M3.out.p.rest (by have := PL.out.few; omega) (ended_of PL.out.eh R32 RR3.out) HVL.out).mono ?_; rintro e w4 ⟨rfl, k4⟩; have K4 := Lib.hid k4; have x0 := k4.cell u0 (fun hm => VS.out (by simpa using hm)); have x2 := k4.cell u2 (fun hm => VS.out (by simpa using hm)); clear k4 R32))
  go_wp2_with fail
  have M4 : PlayM w0 w4 sb bb hb pb rb b0 P H0 { H with ended := [] } S B H0' { H' with ended := [] } S' T (Har.blocks hb hq (ve :: .slice none 0 0 :: vs)) T' U2 := M3.out.frame K4.out (fun x hx => by
    have hx' : vd.ownBlock = some x := by simpa using hx
    obtain ⟨v1, v2⟩ := VO.out x hx'
    have hl := MX.out.lt.1 x (List.mem_append_right _ v1)
    refine ⟨fun hm => ?_, fun hm => ?_, fun e => VS.out (by rw [hx', e]), MX.out.p.new x v1⟩
    · rcases List.mem_append.1 hm with hm | hm
      · exact MX.out.p.ap x v1 hm
      · exact v2 hm
    · rcases List.mem_append.1 hm with hm | hm
      · exact MX.out.ap x (List.mem_append_right _ v1) (List.mem_append_left _ hm)
      · rcases N3.out x hm with h1 | h1
        · exact MX.out.ap x (List.mem_append_right _ v1) (List.mem_append_right _ h1)
        · have := WZ.out
          omega)
  refine bodyPost_ret (results_tmp rfl _ _ _) rfl ⟨rfl, P, H0, _, S, B, H0', _, S', T, _, T', U2, M4, ⟨PL.out.es, PL.out.e0, ⟨⟨PL.out.eh.all.1, by simp⟩, ⟨PL.out.eh.all'.1, by simp⟩, PL.out.eh.steps, PL.out.eh.events, PL.out.eh.queues, rfl⟩, PL.out.few⟩, HF.out⟩
end
end Go.Proofs.YtdkdeiofjoccnaaGreat.Ref

/- looks: Regs: what a thread's registers hold, twice, in lists that are nobody else's. -/
namespace Go.Proofs.YtdkdeiofjoccnaaGreat.Ref
open Go.RowKit Go.Proofs.YtdkdeiofjoccnaaGreat.Mem Go.Proofs.YtdkdeiofjoccnaaGreat.Har Go.Proofs.YtdkdeiofjoccnaaGreat.Lit Go.Proofs.YtdkdeiofjoccnaaGreat.Ar Go.Proofs.YtdkdeiofjoccnaaGreat.Un
set_option linter.unusedVariables false
set_option linter.unusedSimpArgs false
set_option maxRecDepth 100000

section
variable {w0 w : World} {sb bb hb pb rb b0 n : Nat}
/-- the registers of the document's thread -/
theorem regs_at {w : World} {pb : Nat} {B : RB} {S : RP} (h : PAt w pb B S) {j : Nat} (hj : j < S.ths.length) : ∃ r, w.cell? ⟨B.tg, j * 3 + 1, none⟩ = some (.slice (some ⟨r, 0, none⟩) 4 4) ∧ Sees w (some ⟨r, 0, none⟩) (S.ths[j].regs.map (.int .u64)) := by
  have hs : j < B.ss.length := by rw [h.len]; exact hj
  have h1 := rows_at B.ss S.ths j 1 hs hj (by omega)
  refine ⟨B.ss[j].rb, ?_, ⟨fun i hi => ⟨_, 0, rfl, ?_⟩⟩⟩
  · have h2 := h.ths.cells (g := B.tg) rfl (j * 3 + 1) _ h1
    have e2 : (⟨B.tg, 0, none⟩ : Addr).add (j * 3 + 1) = ⟨B.tg, j * 3 + 1, none⟩ := by unfold Addr.add; split <;> simp_all
    rw [e2] at h2
    exact h2
  · rw [Nat.zero_add, cell_of (h.regs j hs hj).1]
    simp only [List.getElem?_toArray]
    exact List.getElem?_eq_getElem hi
theorem words4 {w : World} {a b : Option Addr} {x : List Int} (ca cb : Nat) (hx : Sees w a (x.map (.int .u64))) (hy : Sees w b (x.map (.int .u64))) (h4 : x.length = 4) :
    Calls Tryz.prog 56 #[.slice a 4 ca, .slice b 4 cb] w fun e w' => e = .returned (.bool true) ∧ ∃ d, w' = w.drewN d := by
  have := sameWords ca cb hx hy (by omega)
  rw [h4, show sameB x x = true by simp [sameB]] at this
  exact this
set_option maxHeartbeats 4000000 in
theorem looks_regs (h : PlayAt w0 w sb bb hb pb rb b0 n) (who tag num : Int) (pa ma : Option Addr) (np pc nm mc : Nat) :
    Calls Tryz.prog 13 #[.pointer (some ⟨sb, 0, none⟩), .agg #[.int .i64 11, .int .i64 who, .int .i64 tag, .int .i64 num, .slice pa np pc, .slice ma nm mc]] w fun e w' => e = .returned (.bool true) ∧ PlayAt w0 w' sb bb hb pb rb b0 n := by
  obtain ⟨P, H0, H, S, B, H0', H', S', T, U, T', U', h, hl, hf⟩ := h
  obtain ⟨w1, hw1⟩ : ∃ w1, w1 = w.alloc (.cells #[.int .i64 11, .int .i64 who, .int .i64 tag, .int .i64 num, .slice pa np pc, .slice ma nm mc] 54) := ⟨_, rfl⟩
  obtain ⟨tb, htb⟩ : ∃ tb, tb = w.heap.size := ⟨_, rfl⟩
  have k1 : Keep [] w w1 := by rw [hw1]; exact (Keep.refl _ _).alloc _
  have b1 : w1.heap[tb]? = some (.cells #[.int .i64 11, .int .i64 who, .int .i64 tag, .int .i64 num, .slice pa np pc, .slice ma nm mc] 54 (0, 0)) := by rw [hw1, htb]; exact alloc_new _ _
  have M1 := Lib.hid (h.frame0 k1)
  have y0 := (cell_of b1 0).trans rfl
  have OF := Lib.hid (And.intro (h.offs.1 tb (by omega)) h.offs.2.2)
  have PL := Lib.hid hl
  have HF := Lib.hid hf
  have B1 := Lib.hid b1
  clear h hl hf k1 b1
  have y3 := (cell_of B1.out 3).trans rfl
  have s1 := (cell_of M1.out.hrec 1).trans rfl
  have s3 := (cell_of M1.out.hrec 3).trans rfl
  have p1 := M1.out.d.prog.c1
  rw [PL.out.es.len] at p1
  obtain ⟨ps, hps⟩ : ∃ n, n = P.seats.length := ⟨_, rfl⟩
  rw [← hps] at p1
  have hps4 : ps ≤ 4 := by rw [hps]; exact PL.out.few
  have HPS := Lib.hid hps
  have HT : Hid (∀ (wx : World) (i : Int), Keep [] w1 wx → Calls Tryz.prog 32 #[.pointer (some ⟨bb, 0, none⟩), .int .i64 i] wx fun e w' => e = .returned (.pointer (thrA P i)) ∧ w' = wx) := Lib.hid fun wx i k => (M1.out.frame0 k).p.rest.thread' (by have := PL.out.few; omega) i
  clear hps
  by_cases hin : 0 ≤ num ∧ num < ps
  · obtain ⟨j, rfl⟩ : ∃ j : Nat, num = j := ⟨num.toNat, by omega⟩
    have hj : j < P.seats.length := by rw [← HPS.out]; omega
    have HJ := Lib.hid hj
    have TQ : Hid (∀ wx : World, Keep [] w1 wx → Calls Tryz.prog 32 #[.pointer (some ⟨bb, 0, none⟩), .int .i64 j] wx fun e w' => e = .returned (.pointer (some ⟨P.seats[j].tb, 0, none⟩)) ∧ w' = wx) := Lib.hid fun wx k => by have q := HT.out wx j k; rw [thrA_at hj] at q; exact q
    have hjs : j < S.ths.length := by rw [PL.out.es.lths]; exact hj
    have hjs' : j < S'.ths.length := by rw [← PL.out.es.ths]; exact hjs
    have TH : Hid (∀ wx : World, Keep [] w1 wx → ∃ pv b s, ThAt wx P.seats[j].tb pv b s S.ths[j]) := Lib.hid fun wx k => by
      obtain ⟨h3, h4, h5, -⟩ := (stand_of (M1.out.frame0 k).p).th j hj hjs
      exact ⟨_, _, _, h5⟩
    obtain ⟨rg, hrg⟩ : ∃ x, x = S.ths[j].regs := ⟨_, rfl⟩
    have r4 : rg.length = 4 := by
      obtain ⟨pv, b, s, h5⟩ := TH.out w1 (Keep.refl _ _)
      rw [hrg]
      exact h5.regs
    obtain ⟨rr, x1, x2⟩ := regs_at M1.out.d.prog hjs'
    rw [show S'.ths[j].regs = rg by rw [hrg]; simp only [PL.out.es.ths]] at x2
    obtain ⟨tg, htg⟩ : ∃ x, x = B.tg := ⟨_, rfl⟩
    rw [← htg] at x1 p1
    have DR := Lib.hid x2
    have R4 := Lib.hid r4
    obtain ⟨th, hth⟩ : ∃ x, x = P.seats[j].tb := ⟨_, rfl⟩
    rw [← hth] at TQ TH
    have RG : Hid (∀ wx : World, Keep [] w1 wx → Calls Tryz.prog 55 #[.pointer (some ⟨th, 0, none⟩)] wx fun e w' => ∃ v, e = .returned v ∧ w'.ownsRow wx.heap.size 75 1 v 4 (rg.map (.int .u64)) ∧ Keep [] wx w') := Lib.hid fun wx k => by
      obtain ⟨pv, b, s, h5⟩ := TH.out wx k
      rw [hrg]
      exact thread_regs h5
    have CC := Lib.hid (And.intro y3 (And.intro s1 (And.intro s3 (And.intro p1 x1))))
    have g0 : decide ((j : Int) < 0) = false := by simp
    have g1 : decide (ps ≤ j) = false := by simp; omega
    have hjp : j < ps := by omega
    clear TH hin hj hjs hjs' hth hrg r4 htg x2 s3 p1 x1
    go_enter Tryz.func13, Tryz.ntmps13
    go_upto_region 1 with fail
    rw [show w.alloc (.cells #[.int .i64 11, .int .i64 who, .int .i64 tag, .int .i64 (j : Int), .slice pa np pc, .slice ma nm mc] 54 (0, 0)) = w1 from hw1.symm, ← htb]
    clear hw1 htb
    go_upto_region 24 with fail
    go_quiet ((go_at_call 32; exact Calls.quiet_of_same (TQ.out _ ((Keep.refl _ _).drewN _))))
    generalize hwy : World.drewN w1 _ = wy
    have ky : Keep [] w1 wy := by rw [← hwy]; exact (Keep.refl _ _).drewN _
    have KY := Lib.hid ky
    clear hwy ky y0 y3 s1
    have y3 := KY.out.cell CC.out.1 (by simp)
    have s3 := KY.out.cell CC.out.2.2.1 (by simp)
    have p1 := KY.out.cell CC.out.2.2.2.1 (by simp)
    go_upto_region 25 with fail
    go_quiet (fail)
    generalize hwz : World.drewN wy _ = wz
    have kz : Keep [] w1 wz := by rw [← hwz]; exact KY.out.drewN _
    have KZ := Lib.hid kz
    clear hwz kz y3 s3 p1
    go_wp2_with fail
    refine (RG.out wz KZ.out).mono ?_
    rintro e w2 ⟨v1, rfl, hr1, k2⟩
    obtain ⟨a1, c1, rfl⟩ := row_form hr1
    have R1 := Lib.hid hr1
    have K2 := Lib.hid k2
    clear hr1 k2
    go_wp2_with fail
    refine (RG.out w2 (KZ.out.trans K2.out)).mono ?_
    rintro e w3 ⟨v2, rfl, hr2, k3⟩
    obtain ⟨a2, c2, rfl⟩ := row_form hr2
    have R2 := Lib.hid hr2
    have K3 := Lib.hid k3
    have K13 := Lib.hid ((KZ.out.trans K2.out).trans k3)
    have R13 := Lib.hid (Har.owns_block R1.out fun g hg => k3.block g (R1.out.lt g hg).2 (by simp))
    have SG : Hid (∀ wx : World, Keep [] w3 wx → Sees wx a1 (rg.map (.int .u64)) ∧ Sees wx a2 (rg.map (.int .u64)) ∧ Sees wx (some ⟨rr, 0, none⟩) (rg.map (.int .u64))) := Lib.hid fun wx k => ⟨(sees_of R13.out).keep0 k, (sees_of R2.out).keep0 k, DR.out.keep0 (K13.out.trans k)⟩
    have y3 := K13.out.cell CC.out.1 (by simp)
    have s3 := K13.out.cell CC.out.2.2.1 (by simp)
    have p1 := K13.out.cell CC.out.2.2.2.1 (by simp)
    have q1 := K13.out.cell CC.out.2.2.2.2 (by simp)
    clear hr2 k3
    go_upto_region 31 with fail
    go_quiet ((go_at_call 56; exact quiet_of_drewN (words4 (x := rg) _ _ (by first | exact (SG.out _ ((Keep.refl _ _).drewN _)).1 | exact (SG.out _ ((Keep.refl _ _).drewN _)).2.1) (by first | exact (SG.out _ ((Keep.refl _ _).drewN _)).2.2 | exact (SG.out _ ((Keep.refl _ _).drewN _)).1) R4.out)))
    generalize hw4 : World.drewN w3 _ = w4
    have k4 : Keep [] w3 w4 := by rw [← hw4]; exact (Keep.refl _ _).drewN _
    have K4 := Lib.hid k4
    have R14 := Lib.hid (Har.owns_block R13.out fun g hg => k4.block g (R13.out.lt g hg).2 (by simp))
    have R24 := Lib.hid (Har.owns_block R2.out fun g hg => k4.block g (R2.out.lt g hg).2 (by simp))
    clear hw4 k4 y3 s3 p1 q1
    go_wp2_with fail
    refine (worded (Pick.owns_mono R14.out (Nat.zero_le _)) (by omega) 100).mono ?_
    rintro e w5 ⟨rfl, k5⟩
    have K5 := Lib.hid k5
    have l1 : ∀ x ∈ (Value.slice a1 4 c1).ownBlock.toList, wz.heap.size ≤ x ∧ x < w2.heap.size := fun x hx => R1.out.lt x (by simpa using hx)
    have l2 : ∀ x ∈ (Value.slice a2 4 c2).ownBlock.toList, w2.heap.size ≤ x := fun x hx => (R2.out.lt x (by simpa using hx)).1
    have LL := Lib.hid (And.intro l1 l2)
    have K15 : Hid (Keep [] w1 w5) := Lib.hid ((K13.out.trans K4.out).chain k5 (fun x hx => .inr (Nat.le_trans KZ.out.size (l1 x hx).1)))
    have R25 := Lib.hid (Har.owns_block R24.out fun g hg => k5.block g (R24.out.lt g hg).2 (fun hm => by have := l1 g hm; have := (R2.out.lt g hg).1; omega))
    have SC : Hid (∀ wx : World, Keep [] w5 wx → Calls Tryz.prog 56 #[.slice a2 4 c2, .slice (some ⟨rr, 0, none⟩) 4 4] wx fun e w' => e = .returned (.bool true) ∧ ∃ d, w' = wx.drewN d) := Lib.hid fun wx k => words4 c2 4 ((sees_of R25.out).keep0 k) (DR.out.keep0 (K15.out.trans k)) R4.out
    have y3 := K15.out.cell CC.out.1 (by simp)
    have s3 := K15.out.cell CC.out.2.2.1 (by simp)
    have p1 := K15.out.cell CC.out.2.2.2.1 (by simp)
    have q1 := K15.out.cell CC.out.2.2.2.2 (by simp)
    clear k5 l1 l2
    go_upto_region 33 with fail
    go_quiet ((go_at_call 56; exact quiet_of_drewN (SC.out _ ((Keep.refl _ _).drewN _))))
    generalize hw6 : World.drewN w5 _ = w6
    have k6 : Keep [] w5 w6 := by rw [← hw6]; exact (Keep.refl _ _).drewN _
    have K6 := Lib.hid k6
    have R26 := Lib.hid (Har.owns_block R25.out fun g hg => k6.block g (R25.out.lt g hg).2 (by simp))
    clear hw6 k6 y3 s3 p1 q1
    go_wp2_with fail
    refine (worded (Pick.owns_mono R26.out (Nat.zero_le _)) (by omega) 120).mono ?_
    rintro e w7 ⟨rfl, k7⟩
    have K7 := Lib.hid k7
    clear k7
    go_wp2_with fail
    exact bodyPost_ret (results_tmp rfl _ _ _) rfl ⟨rfl, P, H0, H, S, B, H0', H', S', T, U, T', U', M1.out.frame0 ((K15.out.trans K6.out).chain K7.out (fun x hx => .inr (Nat.le_trans (KZ.out.trans K2.out).size (LL.out.2 x hx)))), PL.out, HF.out⟩
  · have hnone := thrA_none (P := P) (i := num) (by rw [← HPS.out]; exact hin)
    have TQ : Hid (∀ wx : World, Keep [] w1 wx → Calls Tryz.prog 32 #[.pointer (some ⟨bb, 0, none⟩), .int .i64 num] wx fun e w' => e = .returned (.pointer none) ∧ w' = wx) := Lib.hid fun wx k => by have q := HT.out wx num k; rw [hnone] at q; exact q
    clear hnone
    have CC := Lib.hid (And.intro y3 (And.intro s3 p1))
    clear s3 p1
    by_cases hneg : num < 0
    · have g0 : decide (num < 0) = true := by simpa using hneg
      clear hin hneg
      go_enter Tryz.func13, Tryz.ntmps13
      go_upto_region 1 with fail
      rw [show w.alloc (.cells #[.int .i64 11, .int .i64 who, .int .i64 tag, .int .i64 num, .slice pa np pc, .slice ma nm mc] 54 (0, 0)) = w1 from hw1.symm, ← htb]
      clear hw1 htb
      go_upto_region 24 with fail
      go_quiet ((go_at_call 32; exact Calls.quiet_of_same (TQ.out _ ((Keep.refl _ _).drewN _))))
      generalize hwy : World.drewN w1 _ = wy
      have ky : Keep [] w1 wy := by rw [← hwy]; exact (Keep.refl _ _).drewN _
      have KY := Lib.hid ky
      clear hwy ky y0 y3 s1
      have y3 := KY.out.cell CC.out.1 (by simp)
      have s3 := KY.out.cell CC.out.2.1 (by simp)
      have p1 := KY.out.cell CC.out.2.2 (by simp)
      go_upto_region 25 with fail
      go_quiet (fail)
      go_wp2_with fail
      exact bodyPost_ret (results_tmp rfl _ _ _) rfl ⟨rfl, P, H0, H, S, B, H0', H', S', T, U, T', U', M1.out.frame0 (KY.out.drewN _), PL.out, HF.out⟩
    · have g0 : decide (num < 0) = false := by simpa using hneg
      have g1 : decide ((ps : Int) ≤ num) = true := by simp; omega
      clear hin hneg
      go_enter Tryz.func13, Tryz.ntmps13
      go_upto_region 1 with fail
      rw [show w.alloc (.cells #[.int .i64 11, .int .i64 who, .int .i64 tag, .int .i64 num, .slice pa np pc, .slice ma nm mc] 54 (0, 0)) = w1 from hw1.symm, ← htb]
      clear hw1 htb
      go_upto_region 24 with fail
      go_quiet ((go_at_call 32; exact Calls.quiet_of_same (TQ.out _ ((Keep.refl _ _).drewN _))))
      generalize hwy : World.drewN w1 _ = wy
      have ky : Keep [] w1 wy := by rw [← hwy]; exact (Keep.refl _ _).drewN _
      have KY := Lib.hid ky
      clear hwy ky y0 y3 s1
      have y3 := KY.out.cell CC.out.1 (by simp)
      have s3 := KY.out.cell CC.out.2.1 (by simp)
      have p1 := KY.out.cell CC.out.2.2 (by simp)
      go_upto_region 25 with fail
      go_quiet (fail)
      go_wp2_with fail
      exact bodyPost_ret (results_tmp rfl _ _ _) rfl ⟨rfl, P, H0, H, S, B, H0', H', S', T, U, T', U', M1.out.frame0 (KY.out.drewN _), PL.out, HF.out⟩
end
end Go.Proofs.YtdkdeiofjoccnaaGreat.Ref

/- looks: Outcome: twice, held against the document's, then written full: nobody else's. -/
namespace Go.Proofs.YtdkdeiofjoccnaaGreat.Ref
open Go.RowKit Go.Proofs.YtdkdeiofjoccnaaGreat.Mem Go.Proofs.YtdkdeiofjoccnaaGreat.Har Go.Proofs.YtdkdeiofjoccnaaGreat.Lit Go.Proofs.YtdkdeiofjoccnaaGreat.Ar Go.Proofs.YtdkdeiofjoccnaaGreat.Un
set_option linter.unusedVariables false
set_option linter.unusedSimpArgs false
set_option maxRecDepth 100000

section
variable {w0 w : World} {sb bb hb pb rb b0 n : Nat}
theorem EvenS.words {P : Park} {S : St} {S' : RP} (h : EvenS P S S') {A : Arena Unit} (hA : S.ars = [A]) : slotWords A 1 = S'.cells ∧ regsOf S.ths = regsOf S'.ths := by
  obtain ⟨A', hA', hS⟩ := h.same
  rw [hA] at hA'
  simp only [List.cons.injEq, and_true] at hA'
  subst hA'
  exact ⟨words_same hS, congrArg regsOf h.ths⟩
/-- an outcome in rows of its own, made at a moment: their blocks lie between B and C -/
structure OutB (w : World) (B C : Nat) (a1 : Option Addr) (n1 c1 : Nat) (a2 : Option Addr) (n2 c2 : Nat) (c r : List Int) : Prop where
  l1 : n1 = c.length
  l2 : n2 = r.length
  row : OutRow w B (.slice a1 n1 c1) (.slice a2 n2 c2) c r
  lt : ∀ g, (Value.slice a1 n1 c1).ownBlock = some g ∨ (Value.slice a2 n2 c2).ownBlock = some g → B ≤ g ∧ g < C
theorem outB_of {w : World} {B : Nat} {cv rv : Value} {c r : List Int} (h : OutRow w B cv rv c r) {n1 n2 : Nat} (h1 : n1 = c.length) (h2 : n2 = r.length) : ∃ a1 c1 a2 c2, cv = .slice a1 n1 c1 ∧ rv = .slice a2 n2 c2 ∧ OutB w B w.heap.size a1 n1 c1 a2 n2 c2 c r := by
  obtain ⟨a1, c1, rfl⟩ := row_form h.cells
  obtain ⟨a2, c2, rfl⟩ := row_form h.regs
  subst h1 h2
  exact ⟨a1, c1, a2, c2, rfl, rfl, rfl, rfl, h, fun g hg => hg.elim (fun hg => h.cells.lt g hg) fun hg => h.regs.lt g hg⟩
theorem OutB.keep {w w' : World} {B C : Nat} {a1 : Option Addr} {n1 c1 : Nat} {a2 : Option Addr} {n2 c2 : Nat} {c r : List Int} (h : OutB w B C a1 n1 c1 a2 n2 c2 c r) {S : List Nat} (k : Keep S w w') (hS : ∀ x ∈ S, x < B ∨ C ≤ x) : OutB w' B C a1 n1 c1 a2 n2 c2 c r :=
  ⟨h.l1, h.l2, ⟨Har.owns_block h.row.cells fun g hg => k.block g (h.row.cells.lt g hg).2 fun hm => by have := hS g hm; have := h.lt g (.inl hg); omega, Har.owns_block h.row.regs fun g hg => k.block g (h.row.regs.lt g hg).2 fun hm => by have := hS g hm; have := h.lt g (.inr hg); omega, h.row.off⟩, h.lt⟩
theorem OutB.keep0 {w w' : World} {B C : Nat} {a1 : Option Addr} {n1 c1 : Nat} {a2 : Option Addr} {n2 c2 : Nat} {c r : List Int} (h : OutB w B C a1 n1 c1 a2 n2 c2 c r) (k : Keep [] w w') : OutB w' B C a1 n1 c1 a2 n2 c2 c r := h.keep k (by simp)
set_option maxHeartbeats 4000000 in
theorem looks_outcome (h : PlayAt w0 w sb bb hb pb rb b0 n) (who tag num : Int) (pa ma : Option Addr) (np pc nm mc : Nat) :
    Calls Tryz.prog 13 #[.pointer (some ⟨sb, 0, none⟩), .agg #[.int .i64 12, .int .i64 who, .int .i64 tag, .int .i64 num, .slice pa np pc, .slice ma nm mc]] w fun e w' => e = .returned (.bool true) ∧ PlayAt w0 w' sb bb hb pb rb b0 n := by
  obtain ⟨P, H0, H, S, B, H0', H', S', T, U, T', U', h, hl, hf⟩ := h
  obtain ⟨w1, hw1⟩ : ∃ w1, w1 = w.alloc (.cells #[.int .i64 12, .int .i64 who, .int .i64 tag, .int .i64 num, .slice pa np pc, .slice ma nm mc] 54) := ⟨_, rfl⟩
  obtain ⟨tb, htb⟩ : ∃ tb, tb = w.heap.size := ⟨_, rfl⟩
  have k1 : Keep [] w w1 := by rw [hw1]; exact (Keep.refl _ _).alloc _
  have b1 : w1.heap[tb]? = some (.cells #[.int .i64 12, .int .i64 who, .int .i64 tag, .int .i64 num, .slice pa np pc, .slice ma nm mc] 54 (0, 0)) := by rw [hw1, htb]; exact alloc_new _ _
  have M1 := Lib.hid (h.frame0 k1)
  have y0 := (cell_of b1 0).trans rfl
  have OF := Lib.hid (And.intro (h.offs.1 tb (by omega)) h.offs.2.2)
  have PL := Lib.hid hl
  have HF := Lib.hid hf
  have B1 := Lib.hid b1
  clear h hl hf k1 b1
  have s1 := (cell_of M1.out.hrec 1).trans rfl
  have hrg : S'.cells.length ≤ 4 ∧ (regsOf S'.ths).length ≤ 16 := by
    have hp := M1.out.d.prog
    have f1 := hp.few
    have f2 : (regsOf S'.ths).length = S'.ths.length * 4 := regsOf_length _ (fun t ht => by
      obtain ⟨i, hi, rfl⟩ := List.getElem_of_mem ht
      exact (hp.regs i (by rw [hp.len]; exact hi) hi).2)
    omega
  have LN := Lib.hid hrg
  obtain ⟨nc, hnc⟩ : ∃ x, x = S'.cells.length := ⟨_, rfl⟩
  obtain ⟨nr, hnr⟩ : ∃ x, x = (regsOf S'.ths).length := ⟨_, rfl⟩
  have hn4 : nc ≤ 4 := by omega
  have hn16 : nr ≤ 16 := by omega
  have HN := Lib.hid (And.intro hnc hnr)
  obtain ⟨d, hd⟩ : ∃ p, p = idleB H0 := ⟨_, rfl⟩
  have HD := Lib.hid (show d = idleB H0 ∧ d = idleB H0' from ⟨hd, hd.trans (EvenH.idle PL.out.es PL.out.e0)⟩)
  clear hrg hnc hnr hd
  go_enter Tryz.func13, Tryz.ntmps13
  go_upto_region 1 with fail
  rw [show w.alloc (.cells #[.int .i64 12, .int .i64 who, .int .i64 tag, .int .i64 num, .slice pa np pc, .slice ma nm mc] 54 (0, 0)) = w1 from hw1.symm, ← htb]
  clear hw1 htb
  go_wp2_with fail
  refine (M1.out.p.rest.outcome (by have := PL.out.few; omega)).mono ?_
  rintro e w2 ⟨cv, rv, A, hA, rfl, hO, k2⟩
  rw [(PL.out.es.words hA).1, (PL.out.es.words hA).2] at hO
  obtain ⟨a1, c1, a2, c2, rfl, rfl, hB⟩ := outB_of hO HN.out.1 HN.out.2
  have O2 := Lib.hid hB
  rw [← HD.out.1]
  obtain ⟨ob, hob⟩ : ∃ b, b = w2.heap.size := ⟨_, rfl⟩
  obtain ⟨w3, hw3⟩ : ∃ w3, w3 = w2.alloc (.cells #[.slice a1 nc c1, .slice a2 nr c2] 68) := ⟨_, rfl⟩
  have k3 : Keep [] w2 w3 := by rw [hw3]; exact (Keep.refl _ _).alloc _
  have b3 : w3.heap[ob]? = some (.cells #[.slice a1 nc c1, .slice a2 nr c2] 68 (0, 0)) := by rw [hw3, hob]; exact alloc_new _ _
  have OB3 := Lib.hid b3
  have K2 := Lib.hid k2
  have K3 := Lib.hid (k2.trans k3)
  have Z3 := Lib.hid (show ob = w2.heap.size ∧ w3.heap.size = ob + 1 by rw [hw3, hob]; simp)
  have M3 := Lib.hid (M1.out.frame0 (k2.trans k3))
  have O3 := Lib.hid (O2.out.keep0 k3)
  clear hA hO hB k2 k3 b3 s1
  go_upto_region 38 with fail
  rw [← hob, ← hw3]
  clear hob hw3
  have s1 := (cell_of M3.out.hrec 1).trans rfl
  go_wp2_with fail
  refine (M3.out.p.rest.outcome (by have := PL.out.few; omega)).mono ?_
  rintro e w4 ⟨cv, rv, A, hA, rfl, hO, k4⟩
  rw [(PL.out.es.words hA).1, (PL.out.es.words hA).2] at hO
  obtain ⟨a3, c3, a4, c4, rfl, rfl, hB⟩ := outB_of hO HN.out.1 HN.out.2
  have OZ4 := Lib.hid hB
  rw [← HD.out.1]
  obtain ⟨zb, hzb⟩ : ∃ b, b = w4.heap.size := ⟨_, rfl⟩
  obtain ⟨w5, hw5⟩ : ∃ w5, w5 = w4.alloc (.cells #[.slice a3 nc c3, .slice a4 nr c4] 68) := ⟨_, rfl⟩
  have k5 : Keep [] w4 w5 := by rw [hw5]; exact (Keep.refl _ _).alloc _
  have b5 : w5.heap[zb]? = some (.cells #[.slice a3 nc c3, .slice a4 nr c4] 68 (0, 0)) := by rw [hw5, hzb]; exact alloc_new _ _
  have ZB5 := Lib.hid b5
  have K4 := Lib.hid k4
  have K5 := Lib.hid (k4.trans k5)
  have Z5 := Lib.hid (show zb = w4.heap.size ∧ w5.heap.size = zb + 1 by rw [hw5, hzb]; simp)
  have M5 := Lib.hid (M3.out.frame0 (k4.trans k5))
  have OZ5 := Lib.hid (OZ4.out.keep0 k5)
  clear hA hO hB k4 k5 b5 s1
  go_upto_region 39 with fail
  rw [← hzb, ← hw5]
  clear hzb hw5
  have s3 := (cell_of M5.out.hrec 3).trans rfl
  go_wp2_with fail
  refine (outcomeR M5.out.d.prog).mono ?_
  rintro e w6 ⟨cv, rv, rfl, hR, k6⟩
  obtain ⟨a5, c5, e5⟩ := row_form hR.cells
  obtain ⟨a6, c6, e6⟩ := row_form hR.regs
  rw [← HN.out.1] at e5
  rw [← HN.out.2] at e6
  subst e5 e6
  obtain ⟨qb, hqb⟩ : ∃ b, b = w6.heap.size := ⟨_, rfl⟩
  obtain ⟨w7, hw7⟩ : ∃ w7, w7 = w6.alloc (.cells #[.slice a5 nc c5, .slice a6 nr c6] 68) := ⟨_, rfl⟩
  have k7 : Keep [] w6 w7 := by rw [hw7]; exact (Keep.refl _ _).alloc _
  have b7 : w7.heap[qb]? = some (.cells #[.slice a5 nc c5, .slice a6 nr c6] 68 (0, 0)) := by rw [hw7, hqb]; exact alloc_new _ _
  have QB7 := Lib.hid b7
  have K67 := Lib.hid (k6.trans k7)
  have Z7 := Lib.hid (show qb = w6.heap.size ∧ w7.heap.size = qb + 1 by rw [hw7, hqb]; simp)
  have M7 := Lib.hid (M5.out.frame0 (k6.trans k7))
  have Q7 : Hid (OutR w7 w5.heap.size (.slice a5 nc c5) (.slice a6 nr c6) S'.cells (regsOf S'.ths)) := Lib.hid ⟨Har.owns_block hR.cells fun g hg => k7.block g (hR.cells.lt g hg).2 (by simp), Har.owns_block hR.regs fun g hg => k7.block g (hR.regs.lt g hg).2 (by simp)⟩
  have k57 := k6.trans k7
  have O7 := Lib.hid (O3.out.keep0 (K5.out.trans k57))
  have OZ7 := Lib.hid (OZ5.out.keep0 k57)
  have OB7 := Lib.hid ((K5.out.trans k57).old OB3.out (by simp))
  have ZB7 := Lib.hid (k57.old ZB5.out (by simp))
  have SZ := Lib.hid (show w1.heap.size ≤ w2.heap.size ∧ w3.heap.size ≤ w4.heap.size ∧ w5.heap.size ≤ w6.heap.size ∧ w3.heap.size = ob + 1 ∧ w5.heap.size = zb + 1 ∧ w7.heap.size = qb + 1 ∧ ob = w2.heap.size ∧ zb = w4.heap.size ∧ qb = w6.heap.size from ⟨K2.out.size, K4.out.size, k6.size, Z3.out.2, Z5.out.2, Z7.out.2, Z3.out.1, Z5.out.1, Z7.out.1⟩)
  clear hR k6 k7 b7 k57 s3
  go_upto_region 40 with fail
  rw [← hqb, ← hw7]
  clear hqb hw7
  have i0 := (cell_of OB7.out 0).trans rfl
  have i1 := (cell_of OB7.out 1).trans rfl
  have j0 := (cell_of QB7.out 0).trans rfl
  have j1 := (cell_of QB7.out 1).trans rfl
  go_wp2_with fail
  refine (sameOutcome O7.out.row.outS Q7.out.outS (by have := LN.out; omega) (by have := LN.out; omega)).mono ?_
  rintro e w8 ⟨he, k8⟩
  rw [show (sameB S'.cells S'.cells && sameB (regsOf S'.ths) (regsOf S'.ths)) = true by simp [sameB]] at he
  subst he
  have K8 := Lib.hid k8
  clear i0 i1 j0 j1 k8
  have i0 := (cell_of (K8.out.old ZB7.out (by simp)) 0).trans rfl
  have i1 := (cell_of (K8.out.old ZB7.out (by simp)) 1).trans rfl
  have j0 := (cell_of (K8.out.old QB7.out (by simp)) 0).trans rfl
  have j1 := (cell_of (K8.out.old QB7.out (by simp)) 1).trans rfl
  go_wp2_with fail
  refine (sameOutcome (OZ7.out.keep0 K8.out).row.outS (Q7.out.outS.keep0 K8.out) (by have := LN.out; omega) (by have := LN.out; omega)).mono ?_
  rintro e w9 ⟨he, k9⟩
  rw [show (sameB S'.cells S'.cells && sameB (regsOf S'.ths) (regsOf S'.ths)) = true by simp [sameB]] at he
  subst he
  have K9 := Lib.hid (K8.out.trans k9)
  clear i0 i1 j0 j1 k9
  have M9 := Lib.hid (M7.out.frame0 K9.out)
  have s3 := (cell_of M9.out.hrec 3).trans rfl
  have p2 := M9.out.d.c2
  go_wp2_with fail
  obtain ⟨bq, vs, ve, vd, hA, -, -, -⟩ := M9.out.d.own
  refine (Ref.idle hA).mono ?_
  clear hA bq vs ve vd
  rintro e w10 ⟨he, k10⟩
  rw [← HD.out.2] at he
  subst he
  have K10 := Lib.hid (K9.out.trans k10)
  clear s3 p2 k10
  have b10 := K10.out.old OB7.out (by simp)
  have i0 := (cell_of b10 0).trans rfl
  clear b10
  have dd : (d == d) = true := by cases d <;> rfl
  go_wp2_with fail
  have l12 : ∀ x, (Value.slice a1 nc c1).ownBlock = some x ∨ (Value.slice a2 nr c2).ownBlock = some x → w1.heap.size ≤ x ∧ x < w2.heap.size := O2.out.lt
  have LO := Lib.hid l12
  have hr1 : w10.ownsRow 0 75 1 (.slice a1 nc c1) nc (S'.cells.map (.int .u64)) := by
    have h := Pick.owns_mono (O7.out.keep0 K10.out).row.cells (Nat.zero_le w1.heap.size)
    rw [← HN.out.1] at h
    exact h
  have hr2 : w10.ownsRow 0 75 1 (.slice a2 nr c2) nr ((regsOf S'.ths).map (.int .u64)) := by
    have h := Pick.owns_mono (O7.out.keep0 K10.out).row.regs (Nat.zero_le w1.heap.size)
    rw [← HN.out.2] at h
    exact h
  have HR1 := Lib.hid hr1
  have HR2 := Lib.hid hr2
  clear l12 hr1 hr2
  refine (worded HR1.out (by omega) 200).mono ?_
  rintro e w11 ⟨rfl, k11⟩
  have K11 := Lib.hid k11
  have n1 : ∀ x, w2.heap.size ≤ x → x ∉ (Value.slice a1 nc c1).ownBlock.toList := fun x hx hm => by have := LO.out x (.inl (by simpa using hm)); omega
  have n2 : ∀ x, w2.heap.size ≤ x → x ∉ (Value.slice a2 nr c2).ownBlock.toList := fun x hx hm => by have := LO.out x (.inr (by simpa using hm)); omega
  have NN := Lib.hid (And.intro n1 n2)
  have i1 := k11.cell (cell_of (K10.out.old OB7.out (by simp)) 1) (n1 ob (by have := SZ.out; omega))
  have HR3 := Lib.hid (Har.owns_block HR2.out fun g hg => k11.block g (HR2.out.lt g hg).2 fun hm => O2.out.row.off g (by simpa using hm) hg)
  clear n1 n2 i0 k11
  go_wp2_with fail
  refine (worded HR3.out (by omega) 300).mono ?_
  rintro e w12 ⟨rfl, k12⟩
  have K12 := Lib.hid k12
  have sz := SZ.out
  have zb12 := k12.old (K11.out.old (K10.out.old ZB7.out (by simp)) (NN.out.1 zb (by omega))) (NN.out.2 zb (by omega))
  have qb12 := k12.old (K11.out.old (K10.out.old QB7.out (by simp)) (NN.out.1 qb (by omega))) (NN.out.2 qb (by omega))
  have lo1 : ∀ x ∈ (Value.slice a1 nc c1).ownBlock.toList, x < w3.heap.size := fun x hx => by have := LO.out x (.inl (by simpa using hx)); omega
  have lo2 : ∀ x ∈ (Value.slice a2 nr c2).ownBlock.toList, x < w3.heap.size := fun x hx => by have := LO.out x (.inr (by simpa using hx)); omega
  have OZ12 := Lib.hid (((OZ7.out.keep0 K10.out).keep K11.out (fun x hx => .inl (lo1 x hx))).keep k12 (fun x hx => .inl (lo2 x hx)))
  have Q12 : Hid (OutR w12 w5.heap.size (.slice a5 nc c5) (.slice a6 nr c6) S'.cells (regsOf S'.ths)) := Lib.hid (by
    have q10c := Har.owns_block Q7.out.cells fun g hg => K10.out.block g (Q7.out.cells.lt g hg).2 (by simp)
    have q10r := Har.owns_block Q7.out.regs fun g hg => K10.out.block g (Q7.out.regs.lt g hg).2 (by simp)
    have q11c := Har.owns_block q10c fun g hg => K11.out.block g (q10c.lt g hg).2 fun hm => by have := lo1 g hm; have := (q10c.lt g hg).1; omega
    have q11r := Har.owns_block q10r fun g hg => K11.out.block g (q10r.lt g hg).2 fun hm => by have := lo1 g hm; have := (q10r.lt g hg).1; omega
    exact ⟨Har.owns_block q11c fun g hg => k12.block g (q11c.lt g hg).2 fun hm => by have := lo2 g hm; have := (q11c.lt g hg).1; omega, Har.owns_block q11r fun g hg => k12.block g (q11r.lt g hg).2 fun hm => by have := lo2 g hm; have := (q11r.lt g hg).1; omega⟩)
  have KK12 : Hid (Keep [] w1 w12) := Lib.hid (((((K3.out.trans K5.out).trans K67.out).trans K10.out).chain K11.out (fun x hx => .inr (LO.out x (.inl (by simpa using hx))).1)).chain k12 (fun x hx => .inr (LO.out x (.inr (by simpa using hx))).1))
  have ZB12 := Lib.hid zb12
  have i0 := (cell_of zb12 0).trans rfl
  have i2 := (cell_of zb12 1).trans rfl
  have j0 := (cell_of qb12 0).trans rfl
  have j1 := (cell_of qb12 1).trans rfl
  clear i1 k12 sz zb12 qb12 lo1 lo2
  go_wp2_with fail
  refine (sameOutcome OZ12.out.row.outS Q12.out.outS (by have := LN.out; omega) (by have := LN.out; omega)).mono ?_
  rintro e w13 ⟨he, k13⟩
  rw [show (sameB S'.cells S'.cells && sameB (regsOf S'.ths) (regsOf S'.ths)) = true by simp [sameB]] at he
  subst he
  have K13 := Lib.hid k13
  have zb13 := k13.old ZB12.out (by simp)
  clear i0 i2 j0 j1 k13
  have i0 := (cell_of zb13 0).trans rfl
  have i2 := (cell_of zb13 1).trans rfl
  clear zb13
  go_wp2_with fail
  have hb14 : (w13.alloc (.cells #[.slice a3 nc c3, .slice a4 nr c4] 68)).heap[w13.heap.size]? = some (.cells #[.slice a3 nc c3, .slice a4 nr c4] 68 (0, 0)) := alloc_new _ _
  have OZ14 := Lib.hid ((OZ12.out.keep0 K13.out).keep0 ((Keep.refl [] w13).alloc (.cells #[.slice a3 nc c3, .slice a4 nr c4] 68)))
  have hz1 : (w13.alloc (.cells #[.slice a3 nc c3, .slice a4 nr c4] 68)).ownsRow 0 75 1 (.slice a3 nc c3) nc (S'.cells.map (.int .u64)) := by
    have h := Pick.owns_mono OZ14.out.row.cells (Nat.zero_le w3.heap.size)
    rw [← HN.out.1] at h
    exact h
  have hz2 : (w13.alloc (.cells #[.slice a3 nc c3, .slice a4 nr c4] 68)).ownsRow 0 75 1 (.slice a4 nr c4) nr ((regsOf S'.ths).map (.int .u64)) := by
    have h := Pick.owns_mono OZ14.out.row.regs (Nat.zero_le w3.heap.size)
    rw [← HN.out.2] at h
    exact h
  have hlt : ∀ g, (Value.slice a3 nc c3).ownBlock = some g ∨ (Value.slice a4 nr c4).ownBlock = some g → g ≠ w13.heap.size := fun g hg e => by
    have h1 : g < w13.heap.size := by
      rcases hg with hg | hg
      · exact ((OZ12.out.keep0 K13.out).row.cells.lt g hg).2
      · exact ((OZ12.out.keep0 K13.out).row.regs.lt g hg).2
    omega
  refine (apart1 hb14 hz1 hz2 (by omega) (by omega) OZ14.out.row.off hlt).mono ?_
  rintro e w15 ⟨rfl, k15⟩
  have K15 := Lib.hid k15
  clear k15 hb14 hz1 hz2 hlt
  go_wp2_with fail
  refine bodyPost_ret (results_tmp rfl _ _ _) rfl ⟨rfl, P, H0, H, S, B, H0', H', S', T, U, T', U', M1.out.frame0 ?_, PL.out, HF.out⟩
  refine ((KK12.out.trans K13.out).alloc _).chain K15.out (fun x hx => .inr ?_)
  have sz := SZ.out
  rcases List.mem_append.1 hx with hx | hx
  · have := OZ14.out.lt x (.inl (by simpa using hx)); omega
  · have := OZ14.out.lt x (.inr (by simpa using hx)); omega
end
end Go.Proofs.YtdkdeiofjoccnaaGreat.Ref
