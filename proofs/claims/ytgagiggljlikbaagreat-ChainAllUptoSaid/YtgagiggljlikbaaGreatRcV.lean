/- The document's index: List, Held. -/
import Derived.Test.YtgagiggljlikbaaGreatRcU
namespace Go.Proofs.YtgagiggljlikbaaGreat.Rc
open Go.RowKit Go.Proofs.YtgagiggljlikbaaGreat.Mem Go.Proofs.YtgagiggljlikbaaGreat.Ar Go.Proofs.YtgagiggljlikbaaGreat.En Go.Proofs.YtgagiggljlikbaaGreat.Ch
open Go.Proofs.YtgagiggljlikbaaGreat.Ra (owns_block RAt rBlocks)
open Go.Proofs.YtgagiggljlikbaaGreat.Ref (one_int' news_at owns_shape)
set_option linter.unusedVariables false
set_option linter.unusedSimpArgs false
set_option maxRecDepth 100000
section
variable {w w' w0 w2 w3 w4 : World} {b sg sc : Nat} {qv : Value} {bs : List (Option Nat)} {A A' : Ars} {Q : List Nat} {xb hb hc mb : Nat} {X X' : CI} {acc : List (Int × Bool)} {v1 v2 v1' v2' : Value}
theorem heldR (h : EnvR w b sg sc qv bs xb hb hc X A Q) (hA : okA A) (hH : okH X) (i : Int) :
    Calls Tryz.prog 121 #[.pointer (some ⟨xb, 0, none⟩), .int .i64 i] w fun r w' => r = .returned (.tuple #[.int .i64 (heldX X A i).1, .int .i64 (heldX X A i).2]) ∧ Keep [] w w' := by
  cases hh : X.has i with
  | false =>
    have e : heldX X A i = (0, 40) := by simp [heldX, hh]
    have HH := Lib.hid (hasR h.ix i)
    rw [hh] at HH
    rw [e]
    clear h hA hH hh e
    go_enter Tryz.func121, Tryz.ntmps121
    go_wp2_with fail
    refine HH.out.mono ?_
    rintro e w' ⟨rfl, rfl⟩
    go_wp2_with fail
    go_ret2
    exact ⟨rfl, Keep.refl _ _⟩
  | true =>
    have e : heldX X A i = (((rowX X A i).length : Int), 0) := by simp [heldX, hh]
    have HH := Lib.hid (hasR h.ix i)
    rw [hh] at HH
    rw [e]
    have C := Lib.hid (rowR h hA hH i hh)
    clear e h hA hH hh
    go_enter Tryz.func121, Tryz.ntmps121
    go_wp2_with fail
    refine HH.out.mono ?_
    rintro e w' ⟨rfl, rfl⟩
    go_wp2_with fail
    refine C.out.mono ?_
    rintro e w2 ⟨p1, c1, p2, c2, rfl, hR⟩
    have HR := Lib.hid hR
    clear hR
    go_wp2_with fail
    go_ret2
    exact ⟨rfl, HR.out.keep⟩
set_option maxHeartbeats 2000000 in
theorem listR (h : EnvR w b sg sc qv bs xb hb hc X A Q) (hA : okA A) (hH : okH X) (i : Int) :
    Calls Tryz.prog 120 #[.pointer (some ⟨xb, 0, none⟩), .int .i64 i] w fun r w' => ∃ v, r = .returned (.tuple #[v, .int .i64 (listX X A i).2]) ∧ w'.ownsRow w.heap.size 3 1 v (listX X A i).1.length ((listX X A i).1.map (.int .i64)) ∧ Keep [] w w' := by
  cases hh : X.has i with
  | false =>
    have e : listX X A i = ([], 40) := by simp [listX, hh]
    have HH := Lib.hid (hasR h.ix i)
    rw [hh] at HH
    rw [e]
    clear h hA hH hh e
    go_enter Tryz.func120, Tryz.ntmps120
    go_wp2_with fail
    refine HH.out.mono ?_
    rintro e w' ⟨rfl, rfl⟩
    go_wp2_with fail
    go_ret2
    exact ⟨_, rfl, World.ownsRow_nil _ _ _ _, Keep.refl _ _⟩
  | true =>
    have e : listX X A i = (um (rowX X A i), 0) := by simp [listX, hh, um]
    have HH := Lib.hid (hasR h.ix i)
    rw [hh] at HH
    rw [e]
    have C := Lib.hid (rowR h hA hH i hh)
    obtain ⟨R, hR0⟩ : ∃ R, R = rowX X A i := ⟨_, rfl⟩
    have hRl : R.length ≤ 4096 := by rw [hR0]; exact rowX_len _ _ _
    rw [← hR0] at C ⊢
    obtain ⟨i0, hi0, hz0, hz1, hz2⟩ := info_parts infoI
    have I0 := Lib.hid hi0
    have Z0 := Lib.hid (And.intro hz0 (And.intro hz1 hz2))
    clear e h hA hH hh hR0 hi0 hz0 hz1 hz2
    go_enter Tryz.func120, Tryz.ntmps120
    go_wp2_with fail
    refine HH.out.mono ?_
    rintro e w' ⟨rfl, rfl⟩
    go_wp2_with fail
    refine C.out.mono ?_
    rintro e w2 ⟨p1, c1, p2, c2, rfl, hR⟩
    have HR := Lib.hid hR
    clear hR
    go_wp2_with fail
    go_loopw [8, 9] (fun v j wr => ∃ (k : Nat) (p : Option Addr) (cap : Nat), k ≤ R.length ∧ v = .slice p (um (R.take k)).length cap ∧ j = .int .i64 k ∧ wr.ownsRow w2.heap.size 3 1 (.slice p (um (R.take k)).length cap) (um (R.take k)).length ((um (R.take k)).map (.int .i64)) ∧ Keep [] w2 wr) (fun _ j _ => R.length - (intOf j).toNat)
    case atStart => exact ⟨0, none, 0, Nat.zero_le _, rfl, rfl, World.ownsRow_nil _ _ _ _, Keep.refl _ _⟩
    case round =>
      obtain ⟨k, p, cap, hk, rfl, rfl, ho, hK⟩ := hrel
      have HO := Lib.hid (And.intro ho (And.intro hK (HR.out.keep0 hK)))
      clear ho hK
      by_cases hlt : k < R.length
      · have hk' : (k : Int) < (R.length : Int) := by omega
        obtain ⟨g1, cc1, e1, -⟩ := owns_pos HO.out.2.2.o1 (by omega)
        obtain ⟨g2, cc2, e2, -⟩ := owns_pos HO.out.2.2.o2 (by omega)
        cases e1
        cases e2
        obtain ⟨n, mk, hnm⟩ : ∃ n mk, R[k] = (n, mk) := ⟨_, _, rfl⟩
        have d1 : wr.cell? ⟨g1, k, none⟩ = some (.int .i64 n) := by
          rw [HO.out.2.2.o1.cellAt k (by omega)]
          simp [hlt, hnm]
        have d2 : wr.cell? ⟨g2, k, none⟩ = some (.bool mk) := by
          rw [HO.out.2.2.o2.cellAt k (by omega)]
          simp [hlt, hnm]
        have htk : um (R.take (k + 1)) = if mk then um (R.take k) else um (R.take k) ++ [n] := by
          rw [List.take_succ_eq_append_getElem hlt, hnm]
          unfold um
          cases mk <;> simp
        have hln : (um (R.take k)).length ≤ 4096 := by
          have h1 : (um (R.take k)).length ≤ (R.take k).length := by unfold um; rw [List.length_map]; exact List.length_filter_le _ _
          have h2 : (R.take k).length ≤ R.length := by rw [List.length_take]; omega
          omega
        have HT := Lib.hid htk
        have e1 := Lib.hid (show (um (R.take k)).length + 1 ≤ maxLen by unfold maxLen; omega)
        have e2 := Lib.hid (show ((um (R.take k)).length + 1) * 8 ≤ 140737488355328 by omega)
        have e7 := Lib.hid (int_one n)
        have HN := Lib.hid hnm
        obtain ⟨l, hl⟩ : ∃ l, l = um (R.take k) := ⟨_, rfl⟩
        rw [← hl] at HO e1 e2 HT ⊢
        clear htk hln hnm hl
        cases mk
        · go_wp2_with (at_builtin; go_loud (refine wpList_append_own_at _ rfl _ _ 31 rfl w2.heap.size 3 i0 (.int .i64 0) 1 8 Tryz.underlying31 I0.out Z0.out.1 Z0.out.2.1 Z0.out.2.2 rfl (by decide) (.slice p l.length cap) l.length (l.map (.int .i64)) rfl (HO.out.1.alloc _) ⟨_, 0, none⟩ 1 1 [.int .i64 n] rfl rfl (news_at rfl) e7.out e1.out e2.out (Nat.le_trans HO.out.2.1.size (alloc_le _ _)) ?_; intro v' w3 a1 gg _ q1; obtain ⟨ap, cp, rfl⟩ := owns_shape a1; have A1 := Lib.hid a1; have G1 := Lib.hid gg; clear a1 gg q1))
          go_roundw
          case rel =>
            have e : um (R.take (k + 1)) = l ++ [n] := by rw [HT.out]; rfl
            refine ⟨k + 1, ap, cp, hlt, by rw [e]; simp, by go_num, ?_, Keep.grown (HO.out.2.1.alloc _) G1.out fun y hy => (HO.out.1.lt y hy).1⟩
            rw [e]
            simpa using A1.out
          case measure => simp [intOf]; omega
        · go_wp2_with fail
          go_roundw
          case rel =>
            have e : um (R.take (k + 1)) = l := by rw [HT.out]; rfl
            refine ⟨k + 1, p, cap, hlt, by rw [e], by go_num, ?_, HO.out.2.1⟩
            rw [e]
            exact HO.out.1
          case measure => simp [intOf]; omega
      · have hke : k = R.length := by omega
        subst hke
        rw [List.take_length] at HO ⊢
        go_wp2_with fail
        go_ret2
        exact ⟨_, rfl, owns_mono HO.out.1 HR.out.keep.size, HR.out.keep.trans HO.out.2.1⟩
end
end Go.Proofs.YtgagiggljlikbaaGreat.Rc
