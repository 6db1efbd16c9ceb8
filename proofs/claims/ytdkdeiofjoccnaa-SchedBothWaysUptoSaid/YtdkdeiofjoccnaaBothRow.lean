/- SchedBothWays, where what comes in is of bulk at most 1048576. -/
import Derived.Test.YtdkdeiofjoccnaaCame
namespace Go.Proofs.Ytdkdeiofjoccnaa.schedBothWaysU
open Go.ChangeShapes Go.WideShapes Go.ChangeAt Go.RowKit
open Go.ChangeMaps (open_string shut_string)
open Go.Proofs.Ytdkdeiofjoccnaa.Mem Go.Proofs.Ytdkdeiofjoccnaa.Pick
set_option linter.unusedVariables false

theorem own : ownKnob Try.prog.godebug = none := by kernel_rfl

set_option maxRecDepth 100000 in
set_option maxHeartbeats 2000000 in
theorem walk (s : ByteArray) {a : Option Addr} {cap : Nat} {l : List Pk} (w : World) (hs : s.size ≤ 1048576) (hl : l.length ≤ 1048576) (h : Has w a l) :
    Calls Try.prog 6 #[.string s, .slice a l.length cap] w fun e w' => e = .returned (.bool true) ∧ Below w.heap.size w w' := by
  obtain ⟨D, hD⟩ : ∃ D, D = dec s.data.toList := ⟨_, rfl⟩
  have hD1 : D.length ≤ s.size := by
    have := dec_length s.data.toList
    rw [size_data] at this
    rw [hD]; exact this
  have hD2 : s.size ≤ 2 * D.length := by
    have := dec_double s.data.toList
    rw [size_data] at this
    rw [hD]; exact this
  have d1 := Lib.hid (fun (u : World) => Pick.decode s u (by omega))
  rw [← hD] at d1
  have ha := Lib.hid (answer_dec s)
  rw [← hD] at ha
  clear hD
  have H := Lib.hid h; clear h
  go_enter Try.func6, Try.ntmps6
  go_wp2_with fail
  refine (d1.out _).mono ?_
  rintro e w1 ⟨v, rfl, r1, k1⟩
  obtain ⟨a5, cap5, rfl, h5⟩ := Row.has r1
  have H5 := Lib.hid h5
  have K1 := Lib.hid k1
  clear r1 h5 k1
  go_wp2_with fail
  refine (encode H5.out (by omega)).mono ?_
  rintro e w2 ⟨rfl, k2⟩
  rw [ha.out]
  have K2 := Lib.hid (K1.out.trans k2); clear k2 K1
  go_wp2_with fail
  refine (encode (H.out.keep K2.out) (by omega)).mono ?_
  rintro e w3 ⟨rfl, k3⟩
  have K3 := Lib.hid (K2.out.trans k3); clear k3 K2
  cases hen : enc l with
  | none =>
    have e3 : answer l = .tuple #[.string ⟨#[]⟩, .int .i64 33] := by unfold answer; rw [hen]
    rw [e3]
    clear hen e3
    go_wp2_with fail
    go_ret
    exact ⟨rfl, K3.out.below (Nat.le_refl _) (by simp)⟩
  | some xs =>
    have e3 : answer l = .tuple #[.string (strOfNums xs), .int .i64 0] := by unfold answer; rw [hen]
    rw [e3]
    have hx := enc_length l xs hen
    have hb := Lib.hid (back_enc l xs hen)
    have d2 := Lib.hid (fun (u : World) => Pick.decode (strOfNums xs) u (by rw [strOfNums_size]; omega))
    rw [strOfNums_data] at d2
    clear hen e3
    go_wp2_with fail
    refine (d2.out _).mono ?_
    rintro e w4 ⟨v, rfl, r4, k4⟩
    have r4' : Row w4 w3.heap.size v (back xs) := r4
    rw [hb.out] at r4'
    obtain ⟨a6, cap6, rfl, h6⟩ := Row.has r4'
    have H6 := Lib.hid h6
    have K4 := Lib.hid (K3.out.trans k4)
    clear r4 r4' h6 k4 K3
    go_wp2_with fail
    refine (sameHas H6.out (H.out.keep K4.out) (by omega)).mono ?_
    rintro e w5 ⟨rfl, m, rfl⟩
    go_wp2_with fail
    go_ret
    exact ⟨rfl, (K4.out.drewN m).below (Nat.le_refl _) (by simp)⟩

theorem laidOut : laidOutB Try.prog = true := by kernel_rfl

set_option maxRecDepth 100000 in
theorem contract (H : Type) (enc : TypeId × Value → H) (W : World) (base : Nat) (args : Array Value) (ds gs : List (DataW H)) (before : List MemPlace)
    (hval : ∀ (j : Nat) t v, Try.f6.params[j]? = some t → args[j]? = some v → Value.okWide Try.prog W .any base t v)
    (hW : DataW.Whole enc Try.prog Try.f6.params.toList Rows.schedBothWaysSpec.vars false W args.toList ds gs before) (hk : Rows.uptoSmall H (ds ++ gs) = true) :
    Calls Try.prog 6 args W fun e W' => ∃ v, e = .returned v ∧ Rows.schedBothWaysSpec.post enc Try.prog Try.f6 false true false false W args v W' := by
  have hW' := hW
  obtain ⟨p, q, hA0, hV, rfl, hfz, hnd⟩ := hW
  have hA : DataW.TrodAll enc Try.prog W 0 (fun _ => true) true Try.f6.params.toList args.toList ds p := hA0
  rw [Try.params6] at hA hval
  obtain ⟨v0, vs0, d0, ds0, p0, q0, hargs, rfl, rfl, h0, r0⟩ := trodAll_cons hA
  obtain ⟨v1, vs1, d1, ds1, p1, q1, rfl, rfl, rfl, h1, r1⟩ := trodAll_cons r0
  obtain ⟨rfl, rfl, rfl⟩ := trodAll_nil r1
  obtain rfl : args = #[v0, v1] := by cases args; simp_all
  obtain ⟨rfl, rfl⟩ := trodVars_none hV
  obtain ⟨a0, rfl, rfl, rfl, y0⟩ := open_string Try.underlying9 (hval 0 9 v0 rfl rfl) h0
  obtain ⟨a1, len1, cap1, rfl⟩ := okWide_slice Try.underlying23 (hval 1 23 v1 rfl rfl)
  have k1 := h1
  have lt1 : ∀ x ∈ p1, x.block < W.heap.size := by obtain ⟨m, hm⟩ := k1; exact DataW.trod_lt m _ _ _ hm
  obtain ⟨l, rfl, hhas, hbulk⟩ := came h1
  clear hA0
  have hsm : Rows.uptoBulkAll [DataW.lit (H := H) (.string a0.data.toList), d1] ≤ 1048576 := by
    have hk2 : Rows.uptoSmall H [DataW.lit (.string a0.data.toList), d1] = true := by simpa using hk
    exact of_decide_eq_true hk2
  simp only [Rows.uptoBulkAll, Rows.uptoBulk] at hsm
  have hsz := size_data a0
  refine (walk a0 W (by omega) (by omega) hhas).mono fun e W' ⟨he, bel⟩ => ?_
  subst he
  exact ⟨_, rfl, _, _, _, [], _, [], hW', trodAll_mk1 (shut_bool Try.underlying4 _), (trodAll_cons_mk (shut_string Try.underlying9 y0) (trodAll_cons_mk (Below.trod laidOut (by kernel_rfl) (of_decide_eq_true (by kernel_rfl)) k1 bel lt1) trodAll_mk0)), rfl, bel.frame _, fun h => by cases h⟩

set_option maxRecDepth 100000 in
theorem lifted (os : Os) (started : os.Started) (H : Type) (enc : TypeId × Value → H) (F : Stop.Interp) :
    ReturnsInHanded {} Try.checked os 6 .any ((Rows.OpenSpec.upto Rows.schedBothWaysSpec).pre6 enc Try.prog Try.f6 Rows.schedBothWaysUptoRow.domain false) (((Rows.OpenSpec.upto Rows.schedBothWaysSpec).at F).post enc Try.prog Try.f6 false true false false) := by
  refine returnsInHanded_of_cond (C := Try.checked) (s := Rows.OpenSpec.upto Rows.schedBothWaysSpec) (k := Rows.uptoSmall) rfl own started (by kernel_rfl) Try.func6
    (OpenSpec.witness (enc := enc) (C := Try.checked) (s := Rows.OpenSpec.upto Rows.schedBothWaysSpec) (k := Rows.uptoSmall) rfl false ⟨#[], #[.string .empty, .slice none 0 0], []⟩ 8 (by kernel_rfl) (by kernel_rfl) (by kernel_rfl)
      (x := ([.lit (.string []), .nil], [], [])) (by kernel_rfl) rfl (by kernel_rfl)) ?_
  intro W base args ds gs before hval hW _ hk _
  exact contract H enc W base args ds gs before hval hW hk

theorem over : Rows.schedBothWaysUptoRow.holds Try.pinned (Rows.OpenSpec.upto Rows.schedBothWaysSpec) :=
  OpenClaim.holds_of_cond 6 Try.f6 rfl rfl rfl rfl rfl rfl rfl ⟨rfl, rfl, rfl, rfl, rfl⟩ rfl rfl rfl rfl rfl (by kernel_rfl) Try.func6 (by kernel_rfl)
    (of_decide_eq_true (by kernel_rfl)) (by unfold Func.isWrapper; first | (rw [if_pos (by decide +kernel)]; kernel_rfl) | (rw [if_neg (by decide +kernel)]; exact ⟨rfl, rfl⟩))
    (fun os started H enc _ F => lifted os started H enc F)

theorem proved : Rows.SchedBothWaysUptoSaid := over
end Go.Proofs.Ytdkdeiofjoccnaa.schedBothWaysU
