/- ChainAll, where what comes in is of bulk at most 1048576: true; what was handed in is untouched. -/
import Derived.Test.YtgagiggljlikbaaGreatLwT
import Derived.ProofKit
import Derived.OpenShut
import Derived.ShutString
import Derived.ChangeOld
import Derived.Below
import Derived.JoinedCond
namespace Go.Proofs.YtgagiggljlikbaaGreat.chainAllU
open Go.ChangeShapes Go.WideShapes Go.ChangeAt Go.RowKit
open Go.ChangeMaps (open_string shut_string)
open Go.Deep
open Go.Proofs.YtgagiggljlikbaaGreat.Mem
set_option linter.unusedVariables false

theorem own : ownKnob Tryz.prog.godebug = none := by kernel_rfl
theorem laidOutK : laidOutB Tryz.prog = true := by kernel_rfl
set_option maxRecDepth 100000 in
theorem walk (n c b0 b1 : Int) (a : Option Addr) (ct : Nat) (zs : List Lw.SOp) (hlen : zs.length ≤ 1048576) (W : World) (hz : Lw.OpsIn W a zs) :
    Calls Tryz.prog 12 #[.agg #[.int .i64 n, .int .i64 c, .int .i64 b0, .int .i64 b1, .slice a zs.length ct]] W fun r w' => r = .returned (.bool true) ∧ Keep [] W w' := by
  obtain ⟨wq, hwq⟩ : ∃ wq, wq = W.alloc (.cells #[.int .i64 n, .int .i64 c, .int .i64 b0, .int .i64 b1, .slice a zs.length ct] 62) := ⟨_, rfl⟩
  have kq : Keep [] W wq := by rw [hwq]; exact (Keep.refl _ _).alloc _
  have HR := Lib.hid (fun hold : Int => Lw.runs_ n c b0 b1 hold a ct zs hlen (hz.keep kq))
  obtain ⟨m, hm⟩ : ∃ m, m = zs.length := ⟨_, rfl⟩
  rw [← hm] at HR hwq ⊢
  have WQ := Lib.hid hwq
  have KQ := Lib.hid kq
  clear hwq kq hz hlen hm
  go_enter Tryz.func12, Tryz.ntmps12
  go_wp2_with fail
  rw [← WQ.out]
  refine (HR.out _).mono ?_
  rintro _ w2 ⟨rfl, k2⟩
  have K2 := Lib.hid (KQ.out.trans k2)
  clear k2
  go_wp2_with fail
  go_ret
  exact ⟨rfl, K2.out⟩

set_option maxRecDepth 100000 in
theorem contract (H : Type) (enc : TypeId × Value → H) (W : World) (base : Nat) (args : Array Value) (ds gs : List (DataW H)) (before : List MemPlace)
    (hval : ∀ (j : Nat) t v, Tryz.f12.params[j]? = some t → args[j]? = some v → Value.okWide Tryz.prog W .any base t v)
    (hW : DataW.Whole enc Tryz.prog Tryz.f12.params.toList Rows.chainAllSpec.vars false W args.toList ds gs before) (hk : Rows.uptoSmall H (ds ++ gs) = true) :
    Calls Tryz.prog 12 args W fun e W' => ∃ v, e = .returned v ∧ Rows.chainAllSpec.post enc Tryz.prog Tryz.f12 false true false false W args v W' := by
  have hW' := hW
  obtain ⟨p, q, hA0, hV, rfl, hfz, hnd⟩ := hW
  have hA : DataW.TrodAll enc Tryz.prog W 0 (fun _ => true) true Tryz.f12.params.toList args.toList ds p := hA0
  rw [Tryz.params12] at hA hval
  obtain ⟨v0, vs0, d0, ds0, p0, q0, hargs, rfl, rfl, h0, r0⟩ := trodAll_cons hA
  obtain ⟨rfl, rfl, rfl⟩ := trodAll_nil r0
  obtain rfl : args = #[v0] := by cases args; simp_all
  obtain ⟨rfl, rfl⟩ := trodVars_none hV
  have k0 := h0
  have lt0 : ∀ x ∈ p0, x.block < W.heap.size := by obtain ⟨m, hm⟩ := k0; exact DataW.trod_lt m _ _ _ hm
  obtain ⟨n, c, b0, b1, a, cap, zs, rfl, hz, hb⟩ := Lw.script_came (hval 0 62 v0 rfl rfl) h0
  clear hA0
  have hsm : Rows.uptoBulkAll [d0] ≤ 1048576 := of_decide_eq_true (show Rows.uptoSmall H [d0] = true by simpa using hk)
  simp only [Rows.uptoBulkAll] at hsm
  refine (walk n c b0 b1 a cap zs (by omega) W hz).mono fun e W' ⟨he, k⟩ => ?_
  subst he
  have bel : Below W.heap.size W W' := k.below (Nat.le_refl _) (by simp)
  exact ⟨_, rfl, _, _, _, [], _, [], hW', trodAll_mk1 (shut_bool Tryz.underlying4 _), (trodAll_cons_mk (Below.trod laidOutK (by kernel_rfl) (of_decide_eq_true (by kernel_rfl)) k0 bel lt0) trodAll_mk0), rfl, bel.frame _, fun h => by cases h⟩

set_option maxRecDepth 100000 in
theorem lifted (os : Os) (started : os.Started) (H : Type) (enc : TypeId × Value → H) (F : Stop.Interp) :
    ReturnsInHanded {} Tryz.checked os 12 .any ((Rows.OpenSpec.upto Rows.chainAllSpec).pre6 enc Tryz.prog Tryz.f12 Rows.chainAllUptoRow.domain false) (((Rows.OpenSpec.upto Rows.chainAllSpec).at F).post enc Tryz.prog Tryz.f12 false true false false) := by
  refine returnsInHanded_of_cond (C := Tryz.checked) (s := Rows.OpenSpec.upto Rows.chainAllSpec) (k := Rows.uptoSmall) rfl own started (by kernel_rfl) Tryz.func12
    (OpenSpec.witness (enc := enc) (C := Tryz.checked) (s := Rows.OpenSpec.upto Rows.chainAllSpec) (k := Rows.uptoSmall) rfl false ⟨#[], #[.agg #[.int .i64 0, .int .i64 0, .int .i64 0, .int .i64 0, .slice none 0 0]], []⟩ 8 (by kernel_rfl) (by kernel_rfl) (by kernel_rfl)
      (x := ([.agg [.lit (.int .i64 0), .lit (.int .i64 0), .agg [.lit (.int .i64 0), .lit (.int .i64 0)], .nil]], [], [])) (by kernel_rfl) rfl (by kernel_rfl)) ?_
  intro W base args ds gs before hval hW _ hk _
  exact contract H enc W base args ds gs before hval hW hk

theorem over : Rows.chainAllUptoRow.holds Tryz.pinned (Rows.OpenSpec.upto Rows.chainAllSpec) :=
  OpenClaim.holds_of_cond 12 Tryz.f12 rfl rfl rfl rfl rfl rfl rfl ⟨rfl, rfl, rfl, rfl, rfl⟩ rfl rfl rfl rfl rfl (by kernel_rfl) Tryz.func12 (by kernel_rfl)
    (of_decide_eq_true (by kernel_rfl)) (by unfold Func.isWrapper; first | (rw [if_pos (by decide +kernel)]; kernel_rfl) | (rw [if_neg (by decide +kernel)]; exact ⟨rfl, rfl⟩))
    (fun os started H enc _ F => lifted os started H enc F)

theorem proved : Rows.ChainAllUptoSaid := over
end Go.Proofs.YtgagiggljlikbaaGreat.chainAllU
