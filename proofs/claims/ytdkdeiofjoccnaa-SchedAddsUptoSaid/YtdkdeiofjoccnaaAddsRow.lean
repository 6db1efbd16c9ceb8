/- SchedAdds, where what comes in is of bulk at most 1048576: no addition is lost under any schedule; what the additions found and left is one chain from the begin to the end. -/
import Derived.Test.YtdkdeiofjoccnaaRows
import Derived.Test.YtdkdeiofjoccnaaAddsWalk
import Derived.ProofKit
import Derived.OpenShut
import Derived.ShutString
import Derived.ChangeOld
import Derived.Below
import Derived.JoinedCond
import Derived.Deep.Matrix
import Derived.Deep.Strs
namespace Go.Proofs.Ytdkdeiofjoccnaa.schedAddsU
open Go.ChangeShapes Go.WideShapes Go.ChangeAt Go.RowKit
open Go.ChangeMaps (open_string shut_string)
open Go.Deep
open Go.Proofs.Ytdkdeiofjoccnaa.Mem
set_option linter.unusedVariables false

theorem own : ownKnob Try.prog.godebug = none := by kernel_rfl
theorem laidOutK : laidOutB Try.prog = true := by kernel_rfl
theorem cellsWs : Try.prog.cellsOf 37 = 1 := by kernel_rfl
theorem cellsU : Try.prog.cellsOf 46 = 1 := by kernel_rfl

theorem bulk_pos {H : Type} (d : DataW H) : 1 ≤ Rows.uptoBulk d := by
  cases d with
  | lit x => cases x <;> simp [Rows.uptoBulk]
  | _ => simp [Rows.uptoBulk]
theorem bulk_all {H : Type} : ∀ l : List (DataW H), l.length ≤ Rows.uptoBulkAll l
  | [] => by simp
  | d :: r => by
    have h1 := bulk_all r
    have h2 := bulk_pos d
    simp only [Rows.uptoBulkAll, List.length_cons]
    omega
theorem bulk_mem {H : Type} : ∀ {l : List (DataW H)} {d : DataW H}, d ∈ l → Rows.uptoBulk d ≤ Rows.uptoBulkAll l
  | x :: r, d, h => by
    simp only [Rows.uptoBulkAll]
    rcases List.mem_cons.1 h with rfl | h
    · omega
    · have := bulk_mem h; omega

set_option maxRecDepth 100000 in
theorem deltas_came {H : Type} {enc : TypeId × Value → H} {W : World} {held : Bool} {a : Option Addr} {len cap : Nat} {d : DataW H} {p : List MemPlace} (h : DataW.Trod enc Try.prog W 0 (fun _ => true) held 83 (.slice a len cap) d p) :
    ∃ dl : List (List Int), dl.length = len ∧ Lit.DeltasIn W a dl ∧ len ≤ Rows.uptoBulk d ∧ ∀ r ∈ dl, r.length ≤ Rows.uptoBulk d := by
  obtain ⟨fuel, hf⟩ := h
  rcases open_int_rows Try.underlying83 Try.underlying37 Try.underlying46 cellsWs cellsU hf with ⟨hcs, hx⟩ | ⟨x, l, c, A, L, C, Z, hcs, -, hlc, hcm, hx, hr⟩
  · simp [Value.cells] at hcs
    obtain ⟨rfl, rfl, rfl⟩ := hcs
    exact ⟨[], rfl, ⟨[], rfl, ⟨fun i hi => by simp at hi⟩, fun i h => by simp at h⟩, Nat.zero_le _, by simp⟩
  · simp [Value.cells] at hcs
    obtain ⟨rfl, rfl, rfl⟩ := hcs
    have hd : d = .slice ((List.range len).map fun r => intRow .u64 (A r) (L r) (Z r)) ((List.range (cap - len)).map fun j => intRow .u64 (A (len + j)) (L (len + j)) (Z (len + j))) := congrArg Prod.fst hx
    have hb1 : Rows.uptoBulkAll ((List.range len).map fun r => intRow (H := H) .u64 (A r) (L r) (Z r)) ≤ Rows.uptoBulk d := by
      rw [hd]
      simp only [Rows.uptoBulk]
      omega
    have hlen : ∀ r, r < len → ((Z r).take (L r)).length = L r := fun r hrl => by
      obtain ⟨-, h1, -, h2, -⟩ := hr r (by omega)
      rw [List.length_take, h2]; omega
    obtain ⟨b, off, spot⟩ := x
    have hspot : 0 < len → spot = none := fun h0 => by
      have := World.cell?_spot (hr 0 (by omega)).1
      simpa [Addr.add] using this
    have p0 : ∀ j, (⟨b, off, none⟩ : Addr).add j = ⟨b, off + j, none⟩ := by intro j; unfold Addr.add; split <;> simp_all
    refine ⟨(List.range len).map fun r => (Z r).take (L r), by simp, ⟨(List.range len).map fun r => .slice (A r) (L r) (C r), by simp, ⟨fun i hi => ?_⟩, fun i h1 h2 => ?_⟩, ?_, fun r hrm => ?_⟩
    · have hi' : i < len := by simpa using hi
      obtain rfl := hspot (by omega)
      have hc := (hr i (by omega)).1
      rw [p0] at hc
      exact ⟨b, off, rfl, by simpa using hc⟩
    · have hi' : i < len := by simpa using h1
      obtain ⟨-, h3, h4, h5, -, h7, h8⟩ := hr i (by omega)
      refine ⟨A i, C i, ?_, ⟨fun j hj => ?_⟩⟩
      · simp [hlen i hi']
      · have hj' : j < L i := by
          have h := hlen i hi'
          simp only [List.length_map, List.getElem_map, List.getElem_range] at hj
          rw [h] at hj
          exact hj
        cases hA : A i with
        | none => have := h7 hA; omega
        | some a' =>
          obtain ⟨-, hc⟩ := h8 a' hA
          obtain ⟨b', o', sp'⟩ := a'
          have hsp : sp' = none := by
            have := World.cell?_spot (hc 0 (by omega))
            simpa [Addr.add] using this
          subst hsp
          have p1 : (⟨b', o', none⟩ : Addr).add j = ⟨b', o' + j, none⟩ := by unfold Addr.add; split <;> simp_all
          have hcj := hc j (by omega)
          rw [p1] at hcj
          refine ⟨b', o', rfl, ?_⟩
          rw [hcj]
          simp [List.getD_eq_getElem?_getD, List.getElem?_eq_getElem (show j < (Z i).length by omega)]
    · have := bulk_all ((List.range len).map fun r => intRow (H := H) .u64 (A r) (L r) (Z r))
      simp only [List.length_map, List.length_range] at this
      omega
    · obtain ⟨i, hi, rfl⟩ := List.mem_map.1 hrm
      have hi' := List.mem_range.1 hi
      rw [hlen i hi']
      have hm := bulk_mem (List.mem_map.2 ⟨i, hi, rfl⟩ : intRow (H := H) .u64 (A i) (L i) (Z i) ∈ (List.range len).map fun r => intRow (H := H) .u64 (A r) (L r) (Z r))
      obtain ⟨-, h3, h4, h5, -, h7, h8⟩ := hr i (by omega)
      cases hA : A i with
      | none => have := h7 hA; omega
      | some a' =>
        have e2 : Rows.uptoBulk (intRow (H := H) .u64 (some a') (L i) (Z i)) = Rows.uptoBulkAll (lits (H := H) .u64 ((Z i).take (L i))) + Rows.uptoBulkAll (lits (H := H) .u64 ((Z i).drop (L i))) + 1 := rfl
        rw [hA, e2] at hm
        have := bulk_all (lits (H := H) .u64 ((Z i).take (L i)))
        have e : (lits (H := H) .u64 ((Z i).take (L i))).length = L i := by simpa [lits] using hlen i hi'
        omega

set_option maxRecDepth 100000 in
theorem contract (H : Type) (enc : TypeId × Value → H) (W : World) (base : Nat) (args : Array Value) (ds gs : List (DataW H)) (before : List MemPlace)
    (hval : ∀ (j : Nat) t v, Try.f11.params[j]? = some t → args[j]? = some v → Value.okWide Try.prog W .any base t v)
    (hW : DataW.Whole enc Try.prog Try.f11.params.toList Rows.schedAddsSpec.vars false W args.toList ds gs before) (hk : Rows.uptoSmall H (ds ++ gs) = true) :
    Calls Try.prog 11 args W fun e W' => ∃ v, e = .returned v ∧ Rows.schedAddsSpec.post enc Try.prog Try.f11 false true false false W args v W' := by
  have hW' := hW
  obtain ⟨p, q, hA0, hV, rfl, hfz, hnd⟩ := hW
  have hA : DataW.TrodAll enc Try.prog W 0 (fun _ => true) true Try.f11.params.toList args.toList ds p := hA0
  rw [Try.params11] at hA hval
  obtain ⟨v0, vs0, d0, ds0, p0, q0, hargs, rfl, rfl, h0, r0⟩ := trodAll_cons hA
  obtain ⟨v1, vs1, d1, ds1, p1, q1, rfl, rfl, rfl, h1, r1⟩ := trodAll_cons r0
  obtain ⟨v2, vs2, d2, ds2, p2, q2, rfl, rfl, rfl, h2, r2⟩ := trodAll_cons r1
  obtain ⟨rfl, rfl, rfl⟩ := trodAll_nil r2
  obtain rfl : args = #[v0, v1, v2] := by cases args; simp_all
  obtain ⟨rfl, rfl⟩ := trodVars_none hV
  obtain ⟨a0, rfl, rfl, rfl, w0⟩ := open_int Try.underlying46 (hval 0 46 v0 rfl rfl) h0
  obtain ⟨a1, len1, cap1, rfl⟩ := okWide_slice Try.underlying83 (hval 1 83 v1 rfl rfl)
  have k1 := h1
  have lt1 : ∀ x ∈ p1, x.block < W.heap.size := by obtain ⟨m, hm⟩ := k1; exact DataW.trod_lt m _ _ _ hm
  obtain ⟨dl, rfl, hin, hb1, hb2⟩ := deltas_came h1
  obtain ⟨a2, rfl, rfl, rfl, y2⟩ := open_string Try.underlying9 (hval 2 9 v2 rfl rfl) h2
  clear hA0
  have hsm : Rows.uptoBulkAll [DataW.lit (H := H) (.int .u64 a0), d1, .lit (.string a2.data.toList)] ≤ 1048576 := by
    have hk2 : Rows.uptoSmall H [DataW.lit (.int .u64 a0), d1, .lit (.string a2.data.toList)] = true := by simpa using hk
    exact of_decide_eq_true hk2
  simp only [Rows.uptoBulkAll, Rows.uptoBulk] at hsm
  have hsz := Pick.size_data a2
  have hb : Lit.inW a0 := by
    have h : IntKind.u64.min ≤ a0 ∧ a0 ≤ IntKind.u64.max := by simpa [Lit.wf] using w0
    have e1 : IntKind.u64.min = 0 := by decide
    have e2 : IntKind.u64.max = 18446744073709551615 := by decide
    unfold Lit.inW
    omega
  refine (Lit.adds_walk a0 hb dl ⟨by omega, fun r hr => by have := hb2 r hr; omega⟩ a1 cap1 a2 (by omega) W hin).mono fun e W' ⟨he, k⟩ => ?_
  subst he
  have bel : Below W.heap.size W W' := k.below (Nat.le_refl _) (by simp)
  exact ⟨_, rfl, _, _, _, [], _, [], hW', trodAll_mk1 (shut_bool Try.underlying4 _), (trodAll_cons_mk (shut_int Try.underlying46 w0) (trodAll_cons_mk (Below.trod laidOutK (by kernel_rfl) (of_decide_eq_true (by kernel_rfl)) k1 bel lt1) (trodAll_cons_mk (shut_string Try.underlying9 y2) trodAll_mk0))), rfl, bel.frame _, fun h => by cases h⟩

set_option maxRecDepth 100000 in
theorem lifted (os : Os) (started : os.Started) (H : Type) (enc : TypeId × Value → H) (F : Stop.Interp) :
    ReturnsInHanded {} Try.checked os 11 .any ((Rows.OpenSpec.upto Rows.schedAddsSpec).pre6 enc Try.prog Try.f11 Rows.schedAddsUptoRow.domain false) (((Rows.OpenSpec.upto Rows.schedAddsSpec).at F).post enc Try.prog Try.f11 false true false false) := by
  refine returnsInHanded_of_cond (C := Try.checked) (s := Rows.OpenSpec.upto Rows.schedAddsSpec) (k := Rows.uptoSmall) rfl own started (by kernel_rfl) Try.func11
    (OpenSpec.witness (enc := enc) (C := Try.checked) (s := Rows.OpenSpec.upto Rows.schedAddsSpec) (k := Rows.uptoSmall) rfl false ⟨#[], #[.int .u64 0, .slice none 0 0, .string .empty], []⟩ 8 (by kernel_rfl) (by kernel_rfl) (by kernel_rfl)
      (x := ([.lit (.int .u64 0), .nil, .lit (.string [])], [], [])) (by kernel_rfl) rfl (by kernel_rfl)) ?_
  intro W base args ds gs before hval hW _ hk _
  exact contract H enc W base args ds gs before hval hW hk

theorem over : Rows.schedAddsUptoRow.holds Try.pinned (Rows.OpenSpec.upto Rows.schedAddsSpec) :=
  OpenClaim.holds_of_cond 11 Try.f11 rfl rfl rfl rfl rfl rfl rfl ⟨rfl, rfl, rfl, rfl, rfl⟩ rfl rfl rfl rfl rfl (by kernel_rfl) Try.func11 (by kernel_rfl)
    (of_decide_eq_true (by kernel_rfl)) (by unfold Func.isWrapper; first | (rw [if_pos (by decide +kernel)]; kernel_rfl) | (rw [if_neg (by decide +kernel)]; exact ⟨rfl, rfl⟩))
    (fun os started H enc _ F => lifted os started H enc F)

theorem proved : Rows.SchedAddsUptoSaid := over
end Go.Proofs.Ytdkdeiofjoccnaa.schedAddsU
