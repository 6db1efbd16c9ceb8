/- same of two lists that hold the same words: the walk. -/
import Derived.Test.YtmdboahjikngeaaOwnSt
namespace Go.Proofs.Ytmdboahjikngeaa.Owned
open Go.RowKit Go.Proofs.Ytmdboahjikngeaa.Mem Go.Proofs.Ytmdboahjikngeaa.Ar Go.Proofs.Ytmdboahjikngeaa.As Go.Proofs.Ytmdboahjikngeaa.Fifo
set_option linter.unusedVariables false

variable {w : World}

theorem word_at {w : World} {b : Nat} {zs : List Int} {t : TypeId} (h : w.heap[b]? = some (.cells (zs.map (.int .u64)).toArray t (0, 0))) {i : Nat} (hi : i < zs.length) : w.cell? ⟨b, i, none⟩ = some (.int .u64 (nth zs i 0)) := by
  rw [list_cell h hi]
  simp [nth, List.getD_eq_getElem?_getD, hi]

set_option maxRecDepth 100000 in
set_option maxHeartbeats 1000000 in
theorem same_rows {b1 b2 : Nat} {zs : List Int} {t1 t2 : TypeId} (h1 : w.heap[b1]? = some (.cells (zs.map (.int .u64)).toArray t1 (0, 0))) (h2 : w.heap[b2]? = some (.cells (zs.map (.int .u64)).toArray t2 (0, 0))) (hl : zs.length ≤ 16) (cap1 cap2 : Nat) :
    Calls Try.prog 23 #[.agg #[.int .i64 0, .slice (some ⟨b1, 0, none⟩) zs.length cap1, .string ⟨#[]⟩], .agg #[.int .i64 0, .slice (some ⟨b2, 0, none⟩) zs.length cap2, .string ⟨#[]⟩]] w fun e w' => e = .returned (.bool true) ∧ Keep [] w w' := by
  have H1 := Lib.hid h1; clear h1
  have H2 := Lib.hid h2; clear h2
  go_enter Try.func23, Try.ntmps23
  go_wp2_with fail
  go_loopw [5] (fun i wr => ∃ k : Nat, k ≤ zs.length ∧ i = .int .i64 k ∧ wr.heap[w.heap.size]? = some (.cells #[.int .i64 0, .slice (some ⟨b1, 0, none⟩) zs.length cap1, .string ⟨#[]⟩] 61 (0, 0)) ∧ wr.heap[w.heap.size + 1]? = some (.cells #[.int .i64 0, .slice (some ⟨b2, 0, none⟩) zs.length cap2, .string ⟨#[]⟩] 61 (0, 0)) ∧ Keep [] w wr) (fun i _ => zs.length - (intOf i).toNat)
  case atStart =>
    refine ⟨0, Nat.zero_le _, rfl, ?_, ?_, ((Keep.refl _ _).alloc _).alloc _⟩
    · exact alloc_some _ (alloc_new w _)
    · have := alloc_new (w.alloc (.cells #[.int .i64 0, .slice (some ⟨b1, 0, none⟩) zs.length cap1, .string ⟨#[]⟩] 61)) (.cells #[.int .i64 0, .slice (some ⟨b2, 0, none⟩) zs.length cap2, .string ⟨#[]⟩] 61)
      rwa [World.size_alloc] at this
  case round =>
    obtain ⟨k, hk, rfl, hb1, hb2, hK⟩ := hrel
    have B1 := Lib.hid hb1
    have B2 := Lib.hid hb2
    have HK := Lib.hid hK
    have g1 := cell_of hb1 1
    have g2 := cell_of hb2 1
    simp at g1 g2
    clear hb1 hb2 hK
    by_cases hlt : k < zs.length
    · have c1 := word_at (HK.out.old H1.out (by simp)) hlt
      have c2 := word_at (HK.out.old H2.out (by simp)) hlt
      generalize nth zs k 0 = z at *
      go_wp2_with fail
      go_quiet (fail)
      go_wp2_with fail
      go_roundw
      case rel => exact ⟨k + 1, by omega, by go_num, B1.out, B2.out, HK.out.drewN _⟩
      case measure => simp [intOf]; omega
    · go_wp2_with fail
      go_ret
      exact ⟨rfl, HK.out⟩
end Go.Proofs.Ytmdboahjikngeaa.Owned
