/- CellsNil: the walk of the statement's own text. -/
import Derived.Test.YtmdboahjikngeaaGreatNilAny
import Derived.Test.YtmdboahjikngeaaGreatAsNew
namespace Go.Proofs.YtmdboahjikngeaaGreat.Nil
open Go.RowKit Go.Proofs.YtmdboahjikngeaaGreat.Mem Go.Proofs.YtmdboahjikngeaaGreat.Ar Go.Proofs.YtmdboahjikngeaaGreat.As
set_option linter.unusedVariables false
variable {w : World} {p : Option Addr}

/-- the calls that came in -/
structure Ops (w : World) (a : Option Addr) (len : Nat) : Prop where
  op : ∀ i, i < len → ∃ (g o : Nat) (k s c x y : Int) (ad : Option Addr) (cap : Nat) (ws : List Int) (p : ByteArray), a = some ⟨g, o, none⟩ ∧ Came .u64 w ad ws.length ws ∧ ws.length ≤ 17592186043904 ∧
    w.cell? ⟨g, o + i * 7, none⟩ = some (.int .i64 k) ∧ w.cell? ⟨g, o + i * 7 + 1, none⟩ = some (.int .i64 s) ∧ w.cell? ⟨g, o + i * 7 + 2, none⟩ = some (.int .i64 c) ∧ w.cell? ⟨g, o + i * 7 + 3, none⟩ = some (.int .u64 x) ∧
    w.cell? ⟨g, o + i * 7 + 4, none⟩ = some (.int .u64 y) ∧ w.cell? ⟨g, o + i * 7 + 5, none⟩ = some (.slice ad ws.length cap) ∧ w.cell? ⟨g, o + i * 7 + 6, none⟩ = some (.string p)

set_option maxRecDepth 100000 in
set_option maxHeartbeats 1000000 in
/-- two answers that are alike -/
theorem same {a1 a2 : Option Addr} {cap1 cap2 : Nat} {E : Int} {zs : List Int} (h1 : Came .u64 w a1 zs.length zs) (h2 : Came .u64 w a2 zs.length zs) (hl : zs.length ≤ 2) :
    Calls Tryz.prog 23 #[.agg #[.int .i64 E, .slice a1 zs.length cap1, .string ⟨#[]⟩], .agg #[.int .i64 E, .slice a2 zs.length cap2, .string ⟨#[]⟩]] w fun e w' => e = .returned (.bool true) ∧ Keep [] w w' := by
  have H1 := Lib.hid h1; clear h1
  have H2 := Lib.hid h2; clear h2
  go_enter Tryz.func23, Tryz.ntmps23
  go_wp2_with fail
  go_loopw [5] (fun i wr => ∃ k : Nat, k ≤ zs.length ∧ i = .int .i64 k ∧ wr.heap[w.heap.size]? = some (.cells #[.int .i64 E, .slice a1 zs.length cap1, .string ⟨#[]⟩] 38 (0, 0)) ∧ wr.heap[w.heap.size + 1]? = some (.cells #[.int .i64 E, .slice a2 zs.length cap2, .string ⟨#[]⟩] 38 (0, 0)) ∧ Keep [] w wr) (fun i _ => zs.length - (intOf i).toNat)
  case atStart =>
    refine ⟨0, Nat.zero_le _, rfl, ?_, ?_, ((Keep.refl _ _).alloc _).alloc _⟩
    · exact alloc_some _ (alloc_new w _)
    · have := alloc_new (w.alloc (.cells #[.int .i64 E, .slice a1 zs.length cap1, .string ⟨#[]⟩] 38)) (.cells #[.int .i64 E, .slice a2 zs.length cap2, .string ⟨#[]⟩] 38)
      rwa [World.size_alloc] at this
  case round =>
    obtain ⟨k, hk, rfl, hb1, hb2, hK⟩ := hrel
    have B1 := Lib.hid hb1
    have B2 := Lib.hid hb2
    have HK := Lib.hid hK
    have g1 := cell_of hb1 1
    have g2 := cell_of hb2 1
    simp at g1 g2
    clear hb1 hb2 hK
    by_cases hlt : k < zs.length
    · obtain ⟨b1, o1, rfl, c1⟩ := (H1.out.keep HK.out).cell k hlt
      obtain ⟨b2, o2, rfl, c2⟩ := (H2.out.keep HK.out).cell k hlt
      generalize nth zs k 0 = z at *
      go_wp2_with fail
      go_quiet (fail)
      go_wp2_with fail
      go_roundw
      case rel => exact ⟨k + 1, by omega, by go_num, B1.out, B2.out, HK.out.drewN _⟩
      case measure => simp [intOf]; omega
    · go_wp2_with fail
      go_ret
      exact ⟨rfl, HK.out⟩

theorem nilN_le (k : Int) : (nilN k).length ≤ 2 := by
  unfold nilN
  split
  · simp
  · split <;> simp

set_option maxRecDepth 100000 in
theorem total (q : Option Addr) (w : World) : Calls Tryz.prog 36 #[.pointer q, .nilFunc] w fun e w' => e = .returned (.int .i64 0) ∧ Keep [] w w' := by
  have hnil : ∀ w : World, (binOp BinOp.eql 150 .nilFunc .nilFunc).run Tryz.prog w = .ok (.bool true) w := fun _ => by kernel_rfl
  go_enter Tryz.func36, Tryz.ntmps36
  go_wp2_with fail
  go_ret
  exact ⟨rfl, by repeat (first | exact Keep.refl _ _ | apply Keep.drew | apply Keep.alloc)⟩

set_option maxRecDepth 100000 in
set_option maxHeartbeats 4000000 in
theorem walk {a : Option Addr} {len cap : Nat} (hops : Ops w a len) (hlen : len ≤ 9223372036854775807) :
    Calls Tryz.prog 12 #[.slice a len cap] w fun e w' => e = .returned (.bool true) ∧ Below w.heap.size w w' := by
  have HO := Lib.hid hops; clear hops
  go_enter Tryz.func12, Tryz.ntmps12
  go_wp2_with fail
  obtain ⟨w1, hw1⟩ : ∃ w1, w1 = w.alloc (.cells #[.int .i64 0, .int .i64 0, .slice none 0 0, .slice none 0 0, .int .i64 0, .int .i64 0, .int .i32 0, .int .u32 0, .slice none 0 0, .int .i64 0, .int .i64 0, .slice none 0 0, .slice none 0 0] 89) := ⟨_, rfl⟩
  obtain ⟨zb, hzb⟩ : ∃ zb, zb = w.heap.size := ⟨_, rfl⟩
  have K1 : Hid (Keep [] w w1) := Lib.hid (by rw [hw1]; exact (Keep.refl [] w).alloc _)
  have BZ : Hid (Bare w1 (some ⟨zb, 0, none⟩)) := Lib.hid (.inr ⟨zb, rfl, by rw [hw1, hzb, cell_of (alloc_new _ _)]; rfl⟩)
  rw [← hw1, ← hzb]
  clear hw1 hzb
  have C := new_ok (w := w1) 1 1 (by omega) (by omega) (by omega) (by omega)
  rw [show ((1 : Nat) : Int) = 1 from rfl] at C
  refine C.mono ?_
  rintro e w2 ⟨L, rfl, -, -, k⟩
  have K2 := Lib.hid k
  clear k C
  go_wp2_with fail
  refine (num _ _).mono ?_
  rintro e w' ⟨rfl, rfl⟩
  go_wp2_with fail
  refine (total _ _).mono ?_
  rintro e w3 ⟨rfl, k⟩
  have K3 := Lib.hid (K2.out.trans k)
  clear k
  go_wp2_with fail
  refine (total _ _).mono ?_
  rintro e w4 ⟨rfl, k⟩
  have K4 := Lib.hid (K3.out.trans k)
  clear k
  go_wp2_with fail
  go_loopw [9, 10, 11, 12] (fun i _ _ _ wr => ∃ j : Nat, j ≤ len ∧ i = .int .i64 j ∧ Keep [] w1 wr) (fun i _ _ _ _ => len - (intOf i).toNat)
  case atStart => exact ⟨0, Nat.zero_le _, rfl, K4.out⟩
  case round =>
    obtain ⟨j, hj, rfl, hK⟩ := hrel
    have KR := Lib.hid hK
    clear hK K2 K3 K4
    by_cases hlt : j < len
    · obtain ⟨g, o, k, s, c, x, y, ad, cp, ws, pp, rfl, hcm, hwl, f0, f1, f2, f3, f4, f5, f6⟩ := HO.out.op j hlt
      have HCM := Lib.hid hcm
      have HF := Lib.hid (show w.cell? ⟨g, o + j * 7, none⟩ = some (.int .i64 k) ∧ w.cell? ⟨g, o + j * 7 + 1, none⟩ = some (.int .i64 s) ∧ w.cell? ⟨g, o + j * 7 + 2, none⟩ = some (.int .i64 c) ∧ w.cell? ⟨g, o + j * 7 + 3, none⟩ = some (.int .u64 x) ∧ w.cell? ⟨g, o + j * 7 + 4, none⟩ = some (.int .u64 y) ∧ w.cell? ⟨g, o + j * 7 + 5, none⟩ = some (.slice ad ws.length cp) ∧ w.cell? ⟨g, o + j * 7 + 6, none⟩ = some (.string pp) from ⟨f0, f1, f2, f3, f4, f5, f6⟩)
      clear f0 f1 f2 f3 f4 f5 f6 hcm
      have hzs := nilN_le k
      have A1 := Lib.hid (fun (u : World) (q : Option Addr) (hq : Bare u q) (hk : Keep [] w u) => askAny hq k s c x y ad cp ws pp (HCM.out.keep hk) hwl)
      have D1 := Lib.hid (fun (u : World) (hk : Keep [] w u) => docAny (w := u) k s c x y ad cp ws pp (HCM.out.keep hk) hwl)
      generalize nilE k = E at *
      generalize nilN k = zs at *
      have KA := Lib.hid (K1.out.trans KR.out)
      have f := HF.out
      have f0 := KA.out.cell f.1 (by simp)
      have f1 := KA.out.cell f.2.1 (by simp)
      have f2 := KA.out.cell f.2.2.1 (by simp)
      have f3 := KA.out.cell f.2.2.2.1 (by simp)
      have f4 := KA.out.cell f.2.2.2.2.1 (by simp)
      have f5 := KA.out.cell f.2.2.2.2.2.1 (by simp)
      have f6 := KA.out.cell f.2.2.2.2.2.2 (by simp)
      clear f
      go_wp2_with fail
      have C := A1.out wr none (.inl rfl) KA.out
      unfold opV at C
      refine C.mono ?_
      clear C f0 f1 f2 f3 f4 f5 f6
      rintro e w5 ⟨v, rfl, ⟨a1, c1, rfl, m1, -⟩, k⟩
      have M1 := Lib.hid m1
      have K5 := Lib.hid (KA.out.trans k)
      have KR5 := Lib.hid (KR.out.trans k)
      have Z5 := Lib.hid ((BZ.out.keep KR.out).keep k)
      clear m1 k
      go_upto_region 14 with fail
      obtain ⟨t1, ht1⟩ : ∃ t1, t1 = w5.heap.size := ⟨_, rfl⟩
      obtain ⟨w6, hw6⟩ : ∃ w6, w6 = w5.alloc (.cells #[.int .i64 E, .slice a1 zs.length c1, .string ⟨#[]⟩] 38) := ⟨_, rfl⟩
      rw [← hw6]
      have K56 : Hid (Keep [] w5 w6) := Lib.hid (by rw [hw6]; exact (Keep.refl [] w5).alloc _)
      have T1 : Hid (w6.heap[t1]? = some (.cells #[.int .i64 E, .slice a1 zs.length c1, .string ⟨#[]⟩] 38 (0, 0))) := Lib.hid (by rw [hw6, ht1]; exact alloc_new _ _)
      rw [← ht1]
      clear hw6 ht1
      have K6 := Lib.hid (K5.out.trans K56.out)
      have Z6 := Lib.hid (Z5.out.keep K56.out)
      have M6 := Lib.hid (M1.out.keep K56.out)
      have f := HF.out
      have f0 := K6.out.cell f.1 (by simp)
      have f1 := K6.out.cell f.2.1 (by simp)
      have f2 := K6.out.cell f.2.2.1 (by simp)
      have f3 := K6.out.cell f.2.2.2.1 (by simp)
      have f4 := K6.out.cell f.2.2.2.2.1 (by simp)
      have f5 := K6.out.cell f.2.2.2.2.2.1 (by simp)
      have f6 := K6.out.cell f.2.2.2.2.2.2 (by simp)
      clear f
      go_wp2_with fail
      have C := A1.out w6 _ Z6.out K6.out
      unfold opV at C
      refine C.mono ?_
      clear C f0 f1 f2 f3 f4 f5 f6
      rintro e w7 ⟨v, rfl, ⟨a2, c2, rfl, m2, -⟩, k⟩
      have M2 := Lib.hid m2
      have K67 := Lib.hid k
      have K7 := Lib.hid (K6.out.trans k)
      clear m2 k
      go_upto_region 15 with fail
      obtain ⟨t2, ht2⟩ : ∃ t2, t2 = w7.heap.size := ⟨_, rfl⟩
      obtain ⟨w8, hw8⟩ : ∃ w8, w8 = w7.alloc (.cells #[.int .i64 E, .slice a2 zs.length c2, .string ⟨#[]⟩] 38) := ⟨_, rfl⟩
      rw [← hw8]
      have K78 : Hid (Keep [] w7 w8) := Lib.hid (by rw [hw8]; exact (Keep.refl [] w7).alloc _)
      have T2 : Hid (w8.heap[t2]? = some (.cells #[.int .i64 E, .slice a2 zs.length c2, .string ⟨#[]⟩] 38 (0, 0))) := Lib.hid (by rw [hw8, ht2]; exact alloc_new _ _)
      rw [← ht2]
      clear hw8 ht2
      have K8 := Lib.hid (K7.out.trans K78.out)
      have f := HF.out
      have f0 := K8.out.cell f.1 (by simp)
      have f1 := K8.out.cell f.2.1 (by simp)
      have f2 := K8.out.cell f.2.2.1 (by simp)
      have f3 := K8.out.cell f.2.2.2.1 (by simp)
      have f4 := K8.out.cell f.2.2.2.2.1 (by simp)
      have f5 := K8.out.cell f.2.2.2.2.2.1 (by simp)
      have f6 := K8.out.cell f.2.2.2.2.2.2 (by simp)
      clear f
      go_wp2_with fail
      have C := D1.out w8 K8.out
      unfold opV at C
      refine C.mono ?_
      clear C f0 f1 f2 f3 f4 f5 f6
      rintro e w9 ⟨v, rfl, ⟨a3, c3, rfl, m3, -⟩, k⟩
      have M3 := Lib.hid m3
      have K89 := Lib.hid k
      clear m3 k
      go_upto_region 16 with fail
      obtain ⟨t3, ht3⟩ : ∃ t3, t3 = w9.heap.size := ⟨_, rfl⟩
      obtain ⟨w10, hw10⟩ : ∃ w10, w10 = w9.alloc (.cells #[.int .i64 E, .slice a3 zs.length c3, .string ⟨#[]⟩] 38) := ⟨_, rfl⟩
      rw [← hw10]
      have K90 : Hid (Keep [] w9 w10) := Lib.hid (by rw [hw10]; exact (Keep.refl [] w9).alloc _)
      have T3 : Hid (w10.heap[t3]? = some (.cells #[.int .i64 E, .slice a3 zs.length c3, .string ⟨#[]⟩] 38 (0, 0))) := Lib.hid (by rw [hw10, ht3]; exact alloc_new _ _)
      rw [← ht3]
      clear hw10 ht3
      have K80 := Lib.hid (K89.out.trans K90.out)
      have K60 := Lib.hid ((K67.out.trans K78.out).trans K80.out)
      have KX := Lib.hid (K8.out.trans K80.out)
      have S1 := Lib.hid (same (E := E) (cap1 := c1) (cap2 := c3) (M6.out.keep K60.out) (M3.out.keep K90.out) hzs)
      have b1 := fun i => cell_of (K60.out.old T1.out (by simp)) i
      have b3 := fun i => cell_of T3.out i
      have b10 := b1 0
      have b11 := b1 1
      have b12 := b1 2
      have b30 := b3 0
      have b31 := b3 1
      have b32 := b3 2
      clear b1 b3
      simp at b10 b11 b12 b30 b31 b32
      have S2 := Lib.hid (fun (u : World) (hk : Keep [] w10 u) => same (w := u) (E := E) (cap1 := c2) (cap2 := c3) ((M2.out.keep (K78.out.trans K80.out)).keep hk) ((M3.out.keep K90.out).keep hk) hzs)
      have T2' := Lib.hid (K80.out.old T2.out (by simp))
      go_wp2_with (first
        | (go_at_call_of 23 (Value.agg #[.int .i64 E, .slice a1 zs.length c1, .string ⟨#[]⟩]); refine S1.out.mono ?_; rintro e w11 ⟨rfl, k⟩; have K11 := Lib.hid k; clear b10 b11 b12 b30 b31 b32; have b2 := fun i => cell_of (k.old T2'.out (by simp)) i; have b3 := fun i => cell_of (k.old T3.out (by simp)) i; have b20 := b2 0; have b21 := b2 1; have b22 := b2 2; have b30 := b3 0; have b31 := b3 1; have b32 := b3 2; clear b2 b3 k; simp at b20 b21 b22 b30 b31 b32)
        | (go_at_call 23; refine (S2.out _ K11.out).mono ?_; rintro e w12 ⟨rfl, k⟩; have K12 := Lib.hid k; clear k))
      go_roundw
      case rel => exact ⟨j + 1, hlt, by go_num, ((((((KR5.out.trans K56.out).trans K67.out).trans K78.out).trans K80.out).trans K11.out).trans K12.out)⟩
      case measure => simp [intOf]; omega
    · go_wp2_with fail
      go_ret
      exact ⟨rfl, (K1.out.trans KR.out).below (Nat.le_refl _) (by simp)⟩
end Go.Proofs.YtmdboahjikngeaaGreat.Nil
