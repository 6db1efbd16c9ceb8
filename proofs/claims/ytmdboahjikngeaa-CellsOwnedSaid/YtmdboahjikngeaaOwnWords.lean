/- words: a list of words laid anew: the walk. -/
import Derived.Test.YtmdboahjikngeaaFifoWalk
namespace Go.Proofs.Ytmdboahjikngeaa.Owned
open Go.RowKit Go.Proofs.Ytmdboahjikngeaa.Mem Go.Proofs.Ytmdboahjikngeaa.Ar Go.Proofs.Ytmdboahjikngeaa.As Go.Proofs.Ytmdboahjikngeaa.Fifo
set_option linter.unusedVariables false

theorem infoU64 : (Try.prog.info? 51).map (fun i => (i.zero, i.size, i.bytes)) = some (some (.int .u64 0), 1, 8) := by kernel_rfl
def u64s (zs : List Int) : List Value := zs.map (Value.int .u64)
theorem one_u64 (z : Int) : ∀ u ∈ [Value.int .u64 z], u.oneCell' = true := by simp [Value.oneCell']
theorem take_next {zs : List Int} {i : Nat} (hi : i < zs.length) : zs.take (i + 1) = zs.take i ++ [nth zs i 0] := by
  rw [List.take_add_one, List.getElem?_eq_getElem hi]
  simp [nth, List.getD_eq_getElem?_getD, List.getElem?_eq_getElem hi]

set_option maxRecDepth 100000 in
set_option maxHeartbeats 1000000 in
theorem words {a : Option Addr} {cap : Nat} {zs : List Int} {w : World} (h : Came .u64 w a zs.length zs) (hl : zs.length ≤ 17592186043904) :
    Calls Try.prog 28 #[.slice a zs.length cap] w fun e w' => ∃ v, e = .returned v ∧ w'.ownsRow w.heap.size 51 1 v zs.length (u64s zs) ∧ Keep [] w w' := by
  obtain ⟨i0, hi, hz0, hz1, hz2⟩ := info_parts infoU64
  have HI := Lib.hid hi; clear hi
  have HZ := Lib.hid (And.intro hz0 (And.intro hz1 hz2)); clear hz0 hz1 hz2
  have H := Lib.hid h; clear h
  go_enter Try.func28, Try.ntmps28
  go_wp2_with fail
  go_loopw [3, 4] (fun v x wr => ∃ i : Nat, i ≤ zs.length ∧ x = .int .i64 i ∧ wr.ownsRow w.heap.size 51 1 v (zs.take i).length (u64s (zs.take i)) ∧ Keep [] w wr) (fun _ x _ => zs.length - (intOf x).toNat)
  case atStart => exact ⟨0, Nat.zero_le _, rfl, World.ownsRow_nil _ _ _ _, Keep.refl _ _⟩
  case round =>
    obtain ⟨i, hi, rfl, ho, hk⟩ := hrel
    have HO := Lib.hid ho; clear ho
    have HK := Lib.hid hk; clear hk
    obtain ⟨wo, rfl⟩ : ∃ wo : World, wo = wr := ⟨_, rfl⟩
    by_cases hlt : i < zs.length
    · obtain ⟨b, o, rfl, hc⟩ := (H.out.keep HK.out).cell i hlt
      have ht : Hid ((zs.take i).length = i) := Lib.hid (by rw [List.length_take]; omega)
      have hn := Lib.hid (take_next hlt)
      obtain ⟨z, hz⟩ : ∃ z, z = nth zs i 0 := ⟨_, rfl⟩
      rw [← hz] at hc hn
      clear hz
      have d1 := Lib.hid (one_u64 z)
      have d2 := Lib.hid (show (zs.take i).length + 1 ≤ maxLen by rw [ht.out]; unfold maxLen; omega)
      have d3 := Lib.hid (show ((zs.take i).length + 1) * 8 ≤ 140737488355328 by rw [ht.out]; omega)
      have d4 := Lib.hid HK.out.size
      go_wp2_with (at_builtin; refine wpList_append_own_at _ rfl _ _ 52 rfl w.heap.size 51 i0 (.int .u64 0) 1 8 Try.underlying52 HI.out HZ.out.1 HZ.out.2.1 HZ.out.2.2 rfl (by decide) _ _ _ rfl (HO.out.alloc _) ⟨_, 0, none⟩ 1 1 [.int .u64 z] rfl rfl (cell_one_new _ _ _) d1.out d2.out d3.out (Nat.le_trans d4.out (by simp)) ?_; intro v' w3 q1 q2 _ _; have A1 := Lib.hid q1; have G1 := Lib.hid q2; clear q1 q2)
      go_roundw
      case rel =>
        refine ⟨i + 1, hlt, by go_num, ?_, Keep.grown (HK.out.alloc _) G1.out fun k hk => (HO.out.lt k hk).1⟩
        rw [hn.out, List.length_append]
        have := A1.out
        simpa [u64s] using this
      case measure => simp [intOf]; omega
    · obtain rfl : i = zs.length := by omega
      go_wp2_with fail
      go_ret
      have := HO.out
      rw [List.take_length] at this
      exact ⟨_, rfl, this, HK.out⟩
end Go.Proofs.Ytmdboahjikngeaa.Owned
