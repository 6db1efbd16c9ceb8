/- SchedDecodes, where what comes in is of bulk at most 1048576: every string is read as the document says, and the list is new. -/
import Derived.Test.YtdkdeiofjoccnaaRows
import Derived.WalkKit
import Derived.Test.YtdkdeiofjoccnaaDecWalk
import Derived.Test.YtdkdeiofjoccnaaRefDec
import Derived.Test.YtdkdeiofjoccnaaSame
import Derived.Test.YtdkdeiofjoccnaaPicked
import Derived.ProofKit
import Derived.OpenShut
import Derived.ShutString
import Derived.ChangeOld
import Derived.Below
import Derived.JoinedCond
namespace Go.Proofs.Ytdkdeiofjoccnaa.schedDecodesU
open Go.ChangeShapes Go.WideShapes Go.ChangeAt Go.RowKit
open Go.ChangeMaps (open_string shut_string)
open Go.Proofs.Ytdkdeiofjoccnaa.Mem Go.Proofs.Ytdkdeiofjoccnaa.Pick
set_option linter.unusedVariables false

theorem own : ownKnob Try.prog.godebug = none := by kernel_rfl

/-- WHAT THE BOUND GIVES: the text's length. -/
theorem short {H : Type} {s : ByteArray} (hk : Rows.uptoSmall H [.lit (.string s.data.toList)] = true) : s.size ≤ 1048576 := by
  have h : Rows.uptoBulkAll [DataW.lit (H := H) (.string s.data.toList)] ≤ 1048576 := of_decide_eq_true hk
  simp only [Rows.uptoBulkAll, Rows.uptoBulk] at h
  have e : s.data.toList.length = s.size := by rw [Array.length_toList]; rfl
  omega

/-- a list made in the call: its base, and that it stands -/
structure Made (w0 w : World) (base top : Nat) (v : Value) (l : List Pk) : Prop where
  row : Row w base v l
  lo : w0.heap.size ≤ base
  hi : ∀ g, v.ownBlock = some g → base ≤ g ∧ g < top
  top : top ≤ w.heap.size

theorem Made.keep {w0 w w' : World} {base top : Nat} {v : Value} {l : List Pk} {S : List Nat} (h : Made w0 w base top v l) (k : Keep S w w') (hS : ∀ x ∈ S, x < base) : Made w0 w' base top v l :=
  ⟨owns_keep h.row k hS, h.lo, h.hi, Nat.le_trans h.top k.size⟩

theorem made {w0 w w' : World} {v : Value} {l : List Pk} (h : Row w' w.heap.size v l) (hw : w0.heap.size ≤ w.heap.size) : Made w0 w' w.heap.size w'.heap.size v l :=
  ⟨h, hw, fun g hg => h.lt g hg, Nat.le_refl _⟩

theorem Made.own {w0 w : World} {base top : Nat} {v : Value} {l : List Pk} (h : Made w0 w base top v l) : ∀ x ∈ v.ownBlock.toList, base ≤ x ∧ x < top := by
  intro x hx
  exact h.hi x (by simpa using hx)

/-- lists that the call made -/
def Lists (w0 w : World) (l : List (Nat × Nat × Value × List Pk)) : Prop := (∀ x ∈ l, Made w0 w x.1 x.2.1 x.2.2.1 x.2.2.2) ∧ Keep [] w0 w
theorem Lists.keep {w0 w w' : World} {l : List (Nat × Nat × Value × List Pk)} (h : Lists w0 w l) (k : Keep [] w w') : Lists w0 w' l :=
  ⟨fun x hx => (h.1 x hx).keep k (by simp), h.2.trans k⟩
/-- the first one is written full: the others stand -/
theorem Lists.drop {w0 w w' : World} {base top : Nat} {v : Value} {p : List Pk} {l : List (Nat × Nat × Value × List Pk)} (h : Lists w0 w ((base, top, v, p) :: l)) (k : Keep v.ownBlock.toList w w') (hl : ∀ x ∈ l, top ≤ x.1) : Lists w0 w' l := by
  have ha := h.1 (base, top, v, p) (by simp)
  refine ⟨fun x hx => (h.1 x (List.mem_cons_of_mem _ hx)).keep k fun g hg => ?_, Keep.new h.2 k fun g hg => ?_⟩
  · have h1 := (ha.own g hg).2
    have h2 := hl x hx
    exact Nat.lt_of_lt_of_le h1 h2
  · exact Nat.le_trans ha.lo (ha.own g hg).1
theorem Lists.row {w0 w : World} {l : List (Nat × Nat × Value × List Pk)} (h : Lists w0 w l) {base top : Nat} {v : Value} {p : List Pk} (hx : (base, top, v, p) ∈ l) : Row w base v p := (h.1 _ hx).row
theorem Lists.top {w0 w : World} {l : List (Nat × Nat × Value × List Pk)} (h : Lists w0 w l) {base top : Nat} {v : Value} {p : List Pk} (hx : (base, top, v, p) ∈ l) (hb : base ≤ top) : base ≤ w.heap.size := Nat.le_trans hb (h.1 _ hx).top

set_option maxRecDepth 100000 in
set_option maxHeartbeats 2000000 in
theorem walk (s : ByteArray) (w : World) (hs : s.size ≤ 1048576) :
    Calls Try.prog 4 #[.string s] w fun e w' => e = .returned (.bool true) ∧ Below w.heap.size w w' := by
  obtain ⟨D, hD⟩ : ∃ D, D = dec s.data.toList := ⟨_, rfl⟩
  obtain ⟨s', hs'⟩ : ∃ s', s' = (⟨#[1]⟩ : ByteArray) ++ s := ⟨_, rfl⟩
  obtain ⟨D', hD'⟩ : ∃ D', D' = dec s'.data.toList := ⟨_, rfl⟩
  have z1 : s'.size ≤ 2097152 := by
    rw [hs', ByteArray.size_append]
    show 1 + s.size ≤ _
    omega
  have l1 : D.length ≤ 4194304 := by
    have := dec_length s.data.toList
    rw [size_data] at this
    rw [hD]; omega
  have l2 : D'.length ≤ 4194304 := by
    have := dec_length s'.data.toList
    rw [size_data] at this
    rw [hD']; omega
  have z0 : s.size ≤ 2097152 := by omega
  have L1 := Lib.hid l1; clear l1
  have L2 := Lib.hid l2; clear l2
  have d1 := Lib.hid (fun (u : World) => Pick.decode s u z0)
  have d2 := Lib.hid (fun (u : World) => Pick.decode s' u z1)
  have d3 := Lib.hid (fun (u : World) => Pick.refDecode s u z0)
  have d4 := Lib.hid (fun (u : World) => Pick.refDecode s' u z1)
  rw [← hD] at d1 d3
  rw [← hD'] at d2 d4
  rw [hs'] at d2 d4
  have h1 : ¬ ((⟨#[1]⟩ : ByteArray).size + s.size > 9223372036854775807) := by
    show ¬ (1 + s.size > 9223372036854775807)
    omega
  have hadd := fun (u : World) => run_string_add_sum (P := Try.prog) u ⟨#[1]⟩ s (by omega)
  clear hD hD' hs' z0 z1 hs h1
  go_enter Try.func4, Try.ntmps4
  go_wp2_with fail
  refine (d1.out _).mono ?_
  rintro e wa ⟨va, rfl, ra, ka⟩
  have RA := Lib.hid ra; have KA := Lib.hid ka; clear ra ka
  go_wp2_with fail
  refine (d1.out _).mono ?_
  rintro e wb ⟨vb, rfl, rb, kb⟩
  have RB := Lib.hid rb; have KB := Lib.hid kb; clear rb kb
  go_wp2_with fail
  refine (d2.out _).mono ?_
  rintro e wc ⟨vc, rfl, rc, kc⟩
  have RC := Lib.hid rc; have KC := Lib.hid kc; clear rc kc
  go_wp2_with fail
  refine (d3.out _).mono ?_
  rintro e wd ⟨vd, rfl, rd, kd⟩
  have RD := Lib.hid rd; have KD := Lib.hid kd; clear rd kd
  go_wp2_with fail
  refine (d4.out _).mono ?_
  rintro e we ⟨ve, rfl, re, ke⟩
  have k1 := KA.out.trans KB.out
  have k2 := k1.trans KC.out
  have k3 := k2.trans KD.out
  have G : Hid (Lists w we [(w.heap.size, wa.heap.size, va, D), (wa.heap.size, wb.heap.size, vb, D), (wb.heap.size, wc.heap.size, vc, D'), (wc.heap.size, wd.heap.size, vd, D), (wd.heap.size, we.heap.size, ve, D')]) := Lib.hid ⟨by
    have A := ((((made (w0 := w) RA.out (Nat.le_refl _)).keep KB.out (by simp)).keep KC.out (by simp)).keep KD.out (by simp)).keep ke (by simp)
    have B := (((made (w0 := w) RB.out KA.out.size).keep KC.out (by simp)).keep KD.out (by simp)).keep ke (by simp)
    have C := ((made (w0 := w) RC.out k1.size).keep KD.out (by simp)).keep ke (by simp)
    have R := (made (w0 := w) RD.out k2.size).keep ke (by simp)
    have T := made (w0 := w) re k3.size
    intro x hx
    simp only [List.mem_cons, List.not_mem_nil, or_false] at hx
    rcases hx with rfl | rfl | rfl | rfl | rfl
    · exact A
    · exact B
    · exact C
    · exact R
    · exact T, k3.trans ke⟩
  have z1 := Lib.hid KA.out.size
  have z2 := Lib.hid KB.out.size
  have z3 := Lib.hid KC.out.size
  have z4 := Lib.hid KD.out.size
  have z5 := Lib.hid ke.size
  clear RA RB RC RD KA KB KC KD k1 k2 k3 re ke
  have z12 := Lib.hid (Nat.le_trans z1.out z2.out)
  have z23 := Lib.hid (Nat.le_trans z2.out z3.out)
  have z24 := Lib.hid (Nat.le_trans z23.out z4.out)
  have z34 := Lib.hid (Nat.le_trans z3.out z4.out)
  go_wp2_with fail
  refine (same (G.out.row (base := w.heap.size) (top := wa.heap.size) (by simp)) (G.out.row (base := wc.heap.size) (top := wd.heap.size) (by simp)) L1.out).mono ?_
  rintro e wf ⟨rfl, m1, rfl⟩
  have G1 := Lib.hid (G.out.keep ((Keep.refl [] _).drewN m1)); clear G
  generalize we.drewN m1 = wf at *
  go_wp2_with fail
  refine (same (G1.out.row (base := wa.heap.size) (top := wb.heap.size) (by simp)) (G1.out.row (base := wc.heap.size) (top := wd.heap.size) (by simp)) L1.out).mono ?_
  rintro e wg ⟨rfl, m, rfl⟩
  have G2 := Lib.hid (G1.out.keep ((Keep.refl [] _).drewN m)); clear G1
  generalize wf.drewN m = wg at *
  go_wp2_with fail
  refine (same (G2.out.row (base := wb.heap.size) (top := wc.heap.size) (by simp)) (G2.out.row (base := wd.heap.size) (top := we.heap.size) (by simp)) L2.out).mono ?_
  rintro e wh ⟨rfl, m, rfl⟩
  have G3 := Lib.hid (G2.out.keep ((Keep.refl [] _).drewN m)); clear G2
  generalize wg.drewN m = wh at *
  go_wp2_with fail
  refine (picked (G3.out.row (base := w.heap.size) (top := wa.heap.size) (by simp)) L1.out (G3.out.top (base := w.heap.size) (top := wa.heap.size) (v := va) (p := D) (by simp) z1.out)).mono ?_
  rintro e wi ⟨rfl, ki⟩
  have G4 := Lib.hid (G3.out.drop ki (by
    intro x hx
    simp only [List.mem_cons, List.not_mem_nil, or_false] at hx
    rcases hx with rfl | rfl | rfl | rfl
    · exact Nat.le_refl _
    · exact z2.out
    · exact z23.out
    · exact z24.out)); clear G3 ki
  go_wp2_with fail
  refine (same (G4.out.row (base := wa.heap.size) (top := wb.heap.size) (by simp)) (G4.out.row (base := wc.heap.size) (top := wd.heap.size) (by simp)) L1.out).mono ?_
  rintro e wj ⟨rfl, m, rfl⟩
  have G5 := Lib.hid (G4.out.keep ((Keep.refl [] _).drewN m)); clear G4
  generalize wi.drewN m = wj at *
  go_wp2_with fail
  refine (same (G5.out.row (base := wb.heap.size) (top := wc.heap.size) (by simp)) (G5.out.row (base := wd.heap.size) (top := we.heap.size) (by simp)) L2.out).mono ?_
  rintro e wk ⟨rfl, m, rfl⟩
  have G6 := Lib.hid (G5.out.keep ((Keep.refl [] _).drewN m)); clear G5
  generalize wj.drewN m = wk at *
  go_wp2_with fail
  refine (picked (G6.out.row (base := wa.heap.size) (top := wb.heap.size) (by simp)) L1.out (G6.out.top (base := wa.heap.size) (top := wb.heap.size) (v := vb) (p := D) (by simp) z2.out)).mono ?_
  rintro e wl ⟨rfl, kl⟩
  have G7 := Lib.hid (G6.out.drop kl (by
    intro x hx
    simp only [List.mem_cons, List.not_mem_nil, or_false] at hx
    rcases hx with rfl | rfl | rfl
    · exact Nat.le_refl _
    · exact z3.out
    · exact z34.out)); clear G6 kl
  go_wp2_with fail
  refine (d1.out _).mono ?_
  rintro e wm ⟨vf, rfl, rm, km⟩
  have RM := Lib.hid rm; clear rm
  have G8 := Lib.hid (G7.out.keep km); clear G7 km
  go_wp2_with fail
  refine (same (G8.out.row (base := wb.heap.size) (top := wc.heap.size) (by simp)) (G8.out.row (base := wd.heap.size) (top := we.heap.size) (by simp)) L2.out).mono ?_
  rintro e wn ⟨rfl, m, rfl⟩
  have G9 := Lib.hid (G8.out.keep ((Keep.refl [] _).drewN m)); clear G8
  have RN := Lib.hid (owns_keep RM.out ((Keep.refl [] _).drewN m) (by simp)); clear RM
  generalize wm.drewN m = wn at *
  go_wp2_with fail
  refine (same RN.out (G9.out.row (base := wc.heap.size) (top := wd.heap.size) (by simp)) L1.out).mono ?_
  rintro e wo ⟨rfl, m, rfl⟩
  go_wp2_with fail
  go_ret
  exact ⟨rfl, (G9.out.2.drewN m).below (Nat.le_refl _) (by simp)⟩

set_option maxRecDepth 100000 in
theorem contract (H : Type) (enc : TypeId × Value → H) (W : World) (base : Nat) (args : Array Value) (ds gs : List (DataW H)) (before : List MemPlace)
    (hval : ∀ (j : Nat) t v, Try.f4.params[j]? = some t → args[j]? = some v → Value.okWide Try.prog W .any base t v)
    (hW : DataW.Whole enc Try.prog Try.f4.params.toList Rows.schedDecodesSpec.vars false W args.toList ds gs before) (hk : Rows.uptoSmall H (ds ++ gs) = true) :
    Calls Try.prog 4 args W fun e W' => ∃ v, e = .returned v ∧ Rows.schedDecodesSpec.post enc Try.prog Try.f4 false true false false W args v W' := by
  have hW' := hW
  obtain ⟨p, q, hA0, hV, rfl, hfz, hnd⟩ := hW
  have hA : DataW.TrodAll enc Try.prog W 0 (fun _ => true) true Try.f4.params.toList args.toList ds p := hA0
  rw [Try.params4] at hA hval
  obtain ⟨v0, vs0, d0, ds0, p0, q0, hargs, rfl, rfl, h0, r0⟩ := trodAll_cons hA
  obtain ⟨rfl, rfl, rfl⟩ := trodAll_nil r0
  obtain rfl : args = #[v0] := by cases args; simp_all
  obtain ⟨rfl, rfl⟩ := trodVars_none hV
  obtain ⟨a0, rfl, rfl, rfl, y0⟩ := open_string Try.underlying9 (hval 0 9 v0 rfl rfl) h0
  clear hA0
  simp only [List.append_nil] at hk
  refine (walk a0 W (short hk)).mono fun e W' ⟨he, bel⟩ => ?_
  subst he
  exact ⟨_, rfl, _, _, _, [], _, [], hW', trodAll_mk1 (shut_bool Try.underlying4 _), (trodAll_cons_mk (shut_string Try.underlying9 y0) trodAll_mk0), rfl, bel.frame _, fun h => by cases h⟩

set_option maxRecDepth 100000 in
theorem lifted (os : Os) (started : os.Started) (H : Type) (enc : TypeId × Value → H) (F : Stop.Interp) :
    ReturnsInHanded {} Try.checked os 4 .any ((Rows.OpenSpec.upto Rows.schedDecodesSpec).pre6 enc Try.prog Try.f4 Rows.schedDecodesUptoRow.domain false) (((Rows.OpenSpec.upto Rows.schedDecodesSpec).at F).post enc Try.prog Try.f4 false true false false) := by
  refine returnsInHanded_of_cond (C := Try.checked) (s := Rows.OpenSpec.upto Rows.schedDecodesSpec) (k := Rows.uptoSmall) rfl own started (by kernel_rfl) Try.func4
    (OpenSpec.witness (enc := enc) (C := Try.checked) (s := Rows.OpenSpec.upto Rows.schedDecodesSpec) (k := Rows.uptoSmall) rfl false ⟨#[], #[.string .empty], []⟩ 8 (by kernel_rfl) (by kernel_rfl) (by kernel_rfl)
      (x := ([.lit (.string [])], [], [])) (by kernel_rfl) rfl (by kernel_rfl)) ?_
  intro W base args ds gs before hval hW _ hk _
  exact contract H enc W base args ds gs before hval hW hk

theorem over : Rows.schedDecodesUptoRow.holds Try.pinned (Rows.OpenSpec.upto Rows.schedDecodesSpec) :=
  OpenClaim.holds_of_cond 4 Try.f4 rfl rfl rfl rfl rfl rfl rfl ⟨rfl, rfl, rfl, rfl, rfl⟩ rfl rfl rfl rfl rfl (by kernel_rfl) Try.func4 (by kernel_rfl)
    (of_decide_eq_true (by kernel_rfl)) (by unfold Func.isWrapper; first | (rw [if_pos (by decide +kernel)]; kernel_rfl) | (rw [if_neg (by decide +kernel)]; exact ⟨rfl, rfl⟩))
    (fun os started H enc _ F => lifted os started H enc F)

theorem proved : Rows.SchedDecodesUptoSaid := over
end Go.Proofs.Ytdkdeiofjoccnaa.schedDecodesU
