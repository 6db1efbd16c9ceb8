/- sched.Decode: the walk. -/
import Derived.Test.YtdkdeiofjoccnaaGreatPick
import Derived.Deep.CutRange
import Derived.Deep.CutBlock
import Derived.Deep.DeepCutAuto
namespace Go.Proofs.YtdkdeiofjoccnaaGreat.Pick
open Go.RowKit Go.Proofs.YtdkdeiofjoccnaaGreat.Mem
set_option linter.unusedVariables false

def strSize : Value → Nat
  | .string s => s.size
  | _ => 0

set_option maxRecDepth 100000 in
set_option maxHeartbeats 2000000 in
theorem decode (s : ByteArray) (w : World) (hs : s.size ≤ 2097152) :
    Calls Tryz.prog 86 #[.string s] w fun e w' => ∃ v, e = .returned v ∧ Row w' w.heap.size v (dec s.data.toList) ∧ Keep [] w w' := by
  obtain ⟨i0, hi, hz0, hz1, hz2⟩ := info_parts infoP
  have HI := Lib.hid hi; clear hi
  have HZ := Lib.hid (And.intro hz0 (And.intro hz1 hz2)); clear hz0 hz1 hz2
  go_enter Tryz.func86, Tryz.ntmps86
  go_wp2_with fail
  go_loopw [3, 4] (fun v x wr => ∃ (l : List Pk) (y : ByteArray), x = .string y ∧ dec s.data.toList = l ++ dec y.data.toList ∧ l.length + y.size ≤ s.size ∧ Row wr w.heap.size v l ∧ Keep [] w wr) (fun _ x _ => strSize x)
  case atStart => exact ⟨[], s, rfl, rfl, by simp, World.ownsRow_nil _ _ _ _, Keep.refl _ _⟩
  case round =>
    obtain ⟨l, y, rfl, hd, hl, hrow, hk⟩ := hrel
    have HD := Lib.hid hd; clear hd
    have HR := Lib.hid hrow; clear hrow
    have HK := Lib.hid hk; clear hk
    cases e : y.data.toList with
    | nil =>
      have E := Lib.hid e; clear e
      have b1 : y.toList.isEmpty = true := by rw [Lib.toList_data, E.out]; rfl
      go_wp2_with fail
      go_ret
      refine ⟨_, rfl, ?_, HK.out⟩
      have h := HD.out
      rw [E.out] at h
      rw [h]
      simpa [dec] using HR.out
    | cons b r =>
      have hn := b.toNat_lt
      have E := Lib.hid e; clear e
      obtain ⟨hz, hb⟩ := at_cons (s := y) (i := 0) (b := b) (r := r) (by rw [E.out]; rfl)
      have b1 : y.toList.isEmpty = false := by rw [Lib.toList_data, E.out]; rfl
      have a31 := and31 b.toNat hn
      obtain ⟨o, ho⟩ : ∃ o : Int, o = (b.toNat : Int) / 32 := ⟨_, rfl⟩
      obtain ⟨q, hq⟩ : ∃ q : Int, q = (b.toNat : Int) % 32 := ⟨_, rfl⟩
      have td := tdiv32 b.toNat
      rw [← ho] at td
      rw [← hq] at a31
      have ho1 : 0 ≤ o := by omega
      have ho2 : o < 8 := by omega
      have hq1 : 0 ≤ q := by omega
      have hq2 : q < 32 := by omega
      have HO := Lib.hid ho; clear ho
      have HQ := Lib.hid hq; clear hq
      obtain ⟨wo, rfl⟩ : ∃ wo : World, wo = wr := ⟨_, rfl⟩
      have hs0 : 1 ≤ y.size := hz
      go_upto_block 2 with fail
      go_cut [3, 4, 7, 8] (fun v3 v4 v7 v8 wx => v3 = u3 ∧ v4 = .string y ∧ ∃ (p : Pk) (j : Nat), v8 = .int .i64 j ∧ v7 = .pointer (some ⟨wo.heap.size, 0, none⟩) ∧ wx = wo.alloc (.cells #[.int .i64 p.k, .int .i64 p.who, .int .i64 p.n] 119) ∧ dec y.data.toList = p :: dec (y.data.toList.drop j) ∧ 1 ≤ j ∧ j ≤ y.size)
      case first =>
        have hr : y.data.toList.drop 1 = r := by rw [E.out]; rfl
        have single : Hid (¬ o = 1 ∨ r = [] → dec y.data.toList = one b.toNat :: dec (y.data.toList.drop 1)) := Lib.hid fun h => by
          rw [hr, E.out]
          exact dec_single (by rw [← HO.out]; exact h)
        have on := Lib.hid (one_of b.toNat HO.out HQ.out)
        have hr := Lib.hid hr
        rcases (show o = 0 ∨ o = 1 ∨ o = 2 ∨ o = 3 ∨ o = 4 ∨ o = 5 ∨ o = 6 ∨ o = 7 by omega) with rfl | rfl | rfl | rfl | rfl | rfl | rfl | rfl
        · have h160 : ((b.toNat : Int) == 160) = false := beq_eq_false_iff_ne.2 (by have := HO.out; omega)
          go_wp2_with fail
          go_meet
          case rel => exact ⟨rfl, rfl, ⟨1, q, 1⟩, 1, rfl, rfl, rfl, by rw [single.out (.inl (by decide)), on.out]; rfl, Nat.le_refl _, hs0⟩
        · cases r with
          | nil =>
            have hle : y.size ≤ 1 := by
              have := congrArg List.length hr.out
              rw [List.length_drop, size_data] at this
              simp at this
              omega
            have h160 : ((b.toNat : Int) == 160) = false := beq_eq_false_iff_ne.2 (by have := HO.out; omega)
            go_wp2_with fail
            go_meet
            case rel => exact ⟨rfl, rfl, ⟨0, 0, b.toNat⟩, 1, rfl, rfl, rfl, by rw [single.out (.inr (by simp)), on.out, if_neg (by decide), if_neg (by decide), if_neg (by decide), if_neg (by decide), if_neg (by have := HO.out; omega)], Nat.le_refl _, hs0⟩
          | cons c r' =>
            have hcn := c.toNat_lt
            obtain ⟨hz2, hc⟩ := at_cons (s := y) (i := 1) (b := c) (r := r') hr.out
            have hr2 := Lib.hid (drop_next hr.out)
            have hi2 : 2 ≤ y.size := hz2
            go_wp2_with fail
            go_meet
            case rel => exact ⟨rfl, rfl, ⟨2, q, (c.toNat : Int) + 1⟩, 2, rfl, rfl, rfl, by rw [hr2.out, E.out, dec_pair HO.out.symm, HQ.out], by omega, hi2⟩
        · have h160 : ((b.toNat : Int) == 160) = false := beq_eq_false_iff_ne.2 (by have := HO.out; omega)
          go_wp2_with fail
          go_meet
          case rel => exact ⟨rfl, rfl, ⟨3, q, 1⟩, 1, rfl, rfl, rfl, by rw [single.out (.inl (by decide)), on.out]; rfl, Nat.le_refl _, hs0⟩
        · have h160 : ((b.toNat : Int) == 160) = false := beq_eq_false_iff_ne.2 (by have := HO.out; omega)
          go_wp2_with fail
          go_meet
          case rel => exact ⟨rfl, rfl, ⟨4, 0, q + 1⟩, 1, rfl, rfl, rfl, by rw [single.out (.inl (by decide)), on.out]; rfl, Nat.le_refl _, hs0⟩
        · have h160 : ((b.toNat : Int) == 160) = false := beq_eq_false_iff_ne.2 (by have := HO.out; omega)
          go_wp2_with fail
          go_meet
          case rel => exact ⟨rfl, rfl, ⟨5, q, 1⟩, 1, rfl, rfl, rfl, by rw [single.out (.inl (by decide)), on.out]; rfl, Nat.le_refl _, hs0⟩
        · by_cases h160 : (b.toNat : Int) = 160
          · have hb160 : ((b.toNat : Int) == 160) = true := beq_iff_eq.2 h160
            have H160 := Lib.hid h160; clear h160
            go_wp2_with fail
            go_meet
            case rel => exact ⟨rfl, rfl, ⟨6, 0, 0⟩, 1, rfl, rfl, rfl, by rw [single.out (.inl (by decide)), on.out, if_neg (by decide), if_neg (by decide), if_neg (by decide), if_neg (by decide), if_pos H160.out], Nat.le_refl _, hs0⟩
          · have hb160 : ((b.toNat : Int) == 160) = false := beq_eq_false_iff_ne.2 h160
            have H160 := Lib.hid h160; clear h160
            go_wp2_with fail
            go_meet
            case rel => exact ⟨rfl, rfl, ⟨0, 0, b.toNat⟩, 1, rfl, rfl, rfl, by rw [single.out (.inl (by decide)), on.out, if_neg (by decide), if_neg (by decide), if_neg (by decide), if_neg (by decide), if_neg H160.out], Nat.le_refl _, hs0⟩
        · have h160 : Hid (¬ (b.toNat : Int) = 160) := Lib.hid (by have := HO.out; omega)
          have hb160 : ((b.toNat : Int) == 160) = false := beq_eq_false_iff_ne.2 h160.out
          go_wp2_with fail
          go_meet
          case rel => exact ⟨rfl, rfl, ⟨0, 0, b.toNat⟩, 1, rfl, rfl, rfl, by rw [single.out (.inl (by decide)), on.out, if_neg (by decide), if_neg (by decide), if_neg (by decide), if_neg (by decide), if_neg h160.out], Nat.le_refl _, hs0⟩
        · have h160 : Hid (¬ (b.toNat : Int) = 160) := Lib.hid (by have := HO.out; omega)
          have hb160 : ((b.toNat : Int) == 160) = false := beq_eq_false_iff_ne.2 h160.out
          go_wp2_with fail
          go_meet
          case rel => exact ⟨rfl, rfl, ⟨0, 0, b.toNat⟩, 1, rfl, rfl, rfl, by rw [single.out (.inl (by decide)), on.out, if_neg (by decide), if_neg (by decide), if_neg (by decide), if_neg (by decide), if_neg h160.out], Nat.le_refl _, hs0⟩
      case rest =>
        obtain ⟨rfl, rfl, p, j, rfl, rfl, rfl, hdec, hj1, hjs⟩ := hcut
        have HDEC := Lib.hid hdec; clear hdec hb
        have d1 := Lib.hid (one_cells p)
        have d2 := Lib.hid (show l.length + 1 ≤ maxLen by unfold maxLen; omega)
        have d3 := Lib.hid (show (l.length + 1) * 24 ≤ 140737488355328 by omega)
        have d4 := Lib.hid HK.out.size
        go_wp2_with (at_builtin; refine wpList_append_own_at _ rfl _ _ 51 rfl w.heap.size 119 i0 (.agg #[.int .i64 0, .int .i64 0, .int .i64 0]) 3 24 Tryz.underlying51 HI.out HZ.out.1 HZ.out.2.1 HZ.out.2.2 rfl (by decide) _ _ _ rfl ((HR.out.alloc _).alloc _) ⟨_, 0, none⟩ 1 1 p.cells rfl rfl (pick_new2 _ _ p _) d1.out d2.out d3.out (Nat.le_trans d4.out (by simp; omega)) ?_; intro v' w3 q1 q2 _ _; have A1 := Lib.hid q1; have G1 := Lib.hid q2; clear q1 q2)
        go_roundw
        case rel =>
          refine ⟨l ++ [p], y.extract j y.size, rfl, ?_, ?_, Row.push A1.out, Keep.grown ((HK.out.alloc _).alloc _) G1.out fun k hk => .inr (HR.out.lt k hk).1⟩
          · rw [HD.out, HDEC.out, ext_data]
            simp
          · rw [ext_size]; simp; omega
        case measure =>
          show (y.extract j y.size).size < y.size
          rw [ext_size]; omega
end Go.Proofs.YtdkdeiofjoccnaaGreat.Pick
