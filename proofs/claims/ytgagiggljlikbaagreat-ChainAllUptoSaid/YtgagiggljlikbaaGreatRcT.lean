/- The document's arena: Peek. -/
import Derived.Test.YtgagiggljlikbaaGreatRcS
import Derived.Test.YtgagiggljlikbaaGreatChR
namespace Go.Proofs.YtgagiggljlikbaaGreat.Rc
open Go.RowKit Go.Proofs.YtgagiggljlikbaaGreat.Mem Go.Proofs.YtgagiggljlikbaaGreat.Ar Go.Proofs.YtgagiggljlikbaaGreat.En Go.Proofs.YtgagiggljlikbaaGreat.Ch
open Go.Proofs.YtgagiggljlikbaaGreat.Ra (owns_block RAt rBlocks)
open Go.Proofs.YtgagiggljlikbaaGreat.Ref (one_int' news_at owns_shape)
set_option linter.unusedVariables false
set_option linter.unusedSimpArgs false
set_option maxRecDepth 100000
section
variable {w w' w2 : World} {b sg sc : Nat} {qv : Value} {bs : List (Option Nat)} {A A' : Ars} {Q : List Nat} {xb hb hc mb : Nat} {X X' : CI}
theorem peekR_no (h : RAt w b sg sc qv bs A Q) (slot : Int) (hin : inUseB A slot = false) :
    Calls Tryz.prog 124 #[.pointer (some ⟨b, 0, none⟩), .int .i64 slot] w fun e w' => e = .returned (.tuple #[.slice none 0 0, .int .i64 22]) ∧ w = w' := by
  have HI := Lib.hid hin
  have HA := Lib.hid h
  clear h hin
  go_enter Tryz.func124, Tryz.ntmps124
  go_wp2_with fail
  refine (Go.Proofs.YtgagiggljlikbaaGreat.Ra.used HA.out slot).mono ?_
  rw [HI.out]
  rintro e w' ⟨rfl, rfl⟩
  go_wp2_with fail
  go_ret2
  exact ⟨rfl, rfl⟩
theorem u64_one (s : Int) : ∀ u ∈ [Value.int .u64 s], u.oneCell' = true := by simp [Value.oneCell']
set_option maxHeartbeats 2000000 in
theorem peekR_ok (h : RAt w b sg sc qv bs A Q) (slot : Int) (hin : inUseB A slot = true) :
    Calls Tryz.prog 124 #[.pointer (some ⟨b, 0, none⟩), .int .i64 slot] w fun e w' => ∃ v, e = .returned (.tuple #[v, .int .i64 0]) ∧ w'.ownsRow w.heap.size 83 1 v A.width ((slotWords A slot.toNat).map (.int .u64)) ∧ Keep [] w w' := by
  obtain ⟨s, rfl, h1, h2, hu⟩ := Go.Proofs.YtgagiggljlikbaaGreat.Ra.in_slot hin
  rw [Int.toNat_natCast]
  have hw2 := h.fits.w2
  have hs2 := h.fits.s2
  obtain ⟨g, hg, -, -⟩ := h.wordFacts h1 h2 hu
  obtain ⟨i0, hi0, hz0, hz1, hz2⟩ := info_parts infoW64
  have I0 := Lib.hid hi0
  have Z0 := Lib.hid (And.intro hz0 (And.intro hz1 hz2))
  have HI := Lib.hid hin
  have HA := Lib.hid (And.intro h (And.intro h1 (And.intro h2 (And.intro hu hg))))
  clear h hin hu hg hi0 hz0 hz1 hz2
  go_enter Tryz.func124, Tryz.ntmps124
  go_wp2_with fail
  refine (Go.Proofs.YtgagiggljlikbaaGreat.Ra.used HA.out.1 s).mono ?_
  rw [HI.out]
  rintro e w' ⟨rfl, rfl⟩
  go_wp2_with fail
  go_loopw [7, 8] (fun v i wr => ∃ (k : Nat) (p : Option Addr) (cap : Nat), k ≤ A.width ∧ v = .slice p k cap ∧ i = .int .i64 k ∧ wr.ownsRow w.heap.size 83 1 (.slice p k cap) k (((slotWords A s).take k).map (.int .u64)) ∧ Keep [] w wr) (fun _ i _ => A.width - (intOf i).toNat)
  case atStart => exact ⟨0, none, 0, Nat.zero_le _, rfl, rfl, by simpa using World.ownsRow_nil _ _ _ _, Keep.refl _ _⟩
  case round =>
    obtain ⟨k, p, cap, hk, rfl, rfl, ho, hK⟩ := hrel
    have HR := Lib.hid (And.intro ho (And.intro hK (HA.out.1.keep0 hK)))
    clear ho hK
    have e0 : wr.cell? ⟨b, 0, none⟩ = some (.int .i64 A.width) := HR.out.2.2.c0
    by_cases hlt : k < A.width
    · obtain ⟨g', hg', c4, -⟩ := HR.out.2.2.wordFacts HA.out.2.1 HA.out.2.2.1 HA.out.2.2.2.1
      have c1 : wr.cell? ⟨b, 1, none⟩ = some (.slice (some ⟨sg, 0, none⟩) (A.slots + 1) sc) := HR.out.2.2.c1
      have d0 := (HR.out.2.2.wd hg' hlt).1
      obtain ⟨x, hx⟩ : ∃ x, x = nth A.words (wordAt A s k) 0 := ⟨_, rfl⟩
      rw [← hx] at d0
      have HX := Lib.hid hx
      have hk' : (k : Int) < (A.width : Int) := by omega
      have hsl : (s : Int) < (A.slots : Int) + 1 := by omega
      have e1 := Lib.hid (show k + 1 ≤ maxLen by unfold maxLen; omega)
      have e2 := Lib.hid (show (k + 1) * 8 ≤ 140737488355328 by omega)
      have e7 := Lib.hid (u64_one x)
      have hlen : ((slotWords A s).take k).length = k := by rw [List.length_take, slotWords_length]; omega
      clear hx hg' hlen
      go_wp2_with (at_builtin; go_loud (refine wpList_append_own_at _ rfl _ _ 122 rfl w.heap.size 83 i0 (.int .u64 0) 1 8 Tryz.underlying122 I0.out Z0.out.1 Z0.out.2.1 Z0.out.2.2 rfl (by decide) (.slice p k cap) k (((slotWords A s).take k).map (.int .u64)) rfl (HR.out.1.alloc _) ⟨_, 0, none⟩ 1 1 [.int .u64 x] rfl rfl (news_at rfl) e7.out e1.out e2.out (Nat.le_trans HR.out.2.1.size (alloc_le _ _)) ?_; intro v' w3 a1 g1 _ p1; obtain ⟨ap, cp, rfl⟩ := owns_shape a1; have A1 := Lib.hid a1; have G1 := Lib.hid g1; clear a1 g1 p1))
      go_roundw
      case rel =>
        refine ⟨k + 1, ap, cp, hlt, rfl, by go_num, ?_, Keep.grown (HR.out.2.1.alloc _) G1.out fun y hy => (HR.out.1.lt y hy).1⟩
        have e : (slotWords A s).take (k + 1) = (slotWords A s).take k ++ [x] := by
          rw [List.take_succ_eq_append_getElem (by rw [slotWords_length]; exact hlt), HX.out]
          simp [slotWords]
        rw [e]
        simpa using A1.out
      case measure => simp [intOf]; omega
    · have hke : k = A.width := by omega
      subst hke
      go_wp2_with fail
      go_ret2
      refine ⟨_, rfl, ?_, HR.out.2.1⟩
      have := HR.out.1
      rw [List.take_of_length_le (by rw [slotWords_length]; exact Nat.le_refl _)] at this
      exact this
end
end Go.Proofs.YtgagiggljlikbaaGreat.Rc
