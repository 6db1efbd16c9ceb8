/- Lists of words that came in, words, one, bit, num; what is not there. -/
import Derived.Test.YtmdboahjikngeaaGreatAsPic
import Derived.Deep.RegionHeld3
namespace Go.Proofs.YtmdboahjikngeaaGreat.Nil
open Go.RowKit Go.Proofs.YtmdboahjikngeaaGreat.Mem Go.Proofs.YtmdboahjikngeaaGreat.Ar Go.Proofs.YtmdboahjikngeaaGreat.As
set_option linter.unusedVariables false

/-- integers that can be read -/
structure Came (k : IntKind) (w : World) (a : Option Addr) (len : Nat) (zs : List Int) : Prop where
  cell : ∀ i, i < len → ∃ b o, a = some ⟨b, o, none⟩ ∧ w.cell? ⟨b, o + i, none⟩ = some (.int k (nth zs i 0))
theorem Came.keep {k : IntKind} {w w' : World} {a : Option Addr} {len : Nat} {zs : List Int} (h : Came k w a len zs) (hk : Keep [] w w') : Came k w' a len zs :=
  ⟨fun i hi => let ⟨b, o, e, hc⟩ := h.cell i hi; ⟨b, o, e, hk.cell hc (by simp)⟩⟩

theorem infoU64 : (Tryz.prog.info? 32).map (fun i => (i.zero, i.size, i.bytes)) = some (some (.int .u64 0), 1, 8) := by kernel_rfl
def u64s (zs : List Int) : List Value := zs.map (Value.int .u64)
theorem one_u64 (z : Int) : ∀ u ∈ [Value.int .u64 z], u.oneCell' = true := by simp [Value.oneCell']
theorem take_next {zs : List Int} {i : Nat} (hi : i < zs.length) : zs.take (i + 1) = zs.take i ++ [nth zs i 0] := by
  rw [List.take_add_one, List.getElem?_eq_getElem hi]
  simp [nth, List.getD_eq_getElem?_getD, List.getElem?_eq_getElem hi]
theorem owns_shape {w : World} {base : Nat} {e : TypeId} {size : Nat} {v : Value} {n : Nat} {xs : List Value} (h : w.ownsRow base e size v n xs) : ∃ a cap, v = .slice a n cap := by
  rcases h.2 with ⟨rfl, rfl⟩ | ⟨g, cap, cur, rfl, _⟩
  · exact ⟨_, _, rfl⟩
  · exact ⟨_, _, rfl⟩

set_option maxRecDepth 100000 in
set_option maxHeartbeats 1000000 in
theorem words {a : Option Addr} {cap : Nat} {zs : List Int} {w : World} (h : Came .u64 w a zs.length zs) (hl : zs.length ≤ 17592186043904) :
    Calls Tryz.prog 16 #[.slice a zs.length cap] w fun e w' => ∃ a2 cap2, e = .returned (.slice a2 zs.length cap2) ∧ Keep [] w w' := by
  obtain ⟨i0, hi, hz0, hz1, hz2⟩ := info_parts infoU64
  have HI := Lib.hid hi; clear hi
  have HZ := Lib.hid (And.intro hz0 (And.intro hz1 hz2)); clear hz0 hz1 hz2
  have H := Lib.hid h; clear h
  go_enter Tryz.func16, Tryz.ntmps16
  go_wp2_with fail
  go_loopw [3, 4] (fun v x wr => ∃ i : Nat, i ≤ zs.length ∧ x = .int .i64 i ∧ wr.ownsRow w.heap.size 32 1 v (zs.take i).length (u64s (zs.take i)) ∧ Keep [] w wr) (fun _ x _ => zs.length - (intOf x).toNat)
  case atStart => exact ⟨0, Nat.zero_le _, rfl, World.ownsRow_nil _ _ _ _, Keep.refl _ _⟩
  case round =>
    obtain ⟨i, hi, rfl, ho, hk⟩ := hrel
    have HO := Lib.hid ho; clear ho
    have HK := Lib.hid hk; clear hk
    obtain ⟨wo, rfl⟩ : ∃ wo : World, wo = wr := ⟨_, rfl⟩
    by_cases hlt : i < zs.length
    · obtain ⟨b, o, rfl, hc⟩ := (H.out.keep HK.out).cell i hlt
      have ht : Hid ((zs.take i).length = i) := Lib.hid (by rw [List.length_take]; omega)
      have hn := Lib.hid (take_next hlt)
      obtain ⟨z, hz⟩ : ∃ z, z = nth zs i 0 := ⟨_, rfl⟩
      rw [← hz] at hc hn
      clear hz
      have d1 := Lib.hid (one_u64 z)
      have d2 := Lib.hid (show (zs.take i).length + 1 ≤ maxLen by rw [ht.out]; unfold maxLen; omega)
      have d3 := Lib.hid (show ((zs.take i).length + 1) * 8 ≤ 140737488355328 by rw [ht.out]; omega)
      have d4 := Lib.hid HK.out.size
      go_wp2_with (at_builtin; refine wpList_append_own_at _ rfl _ _ 33 rfl w.heap.size 32 i0 (.int .u64 0) 1 8 Tryz.underlying33 HI.out HZ.out.1 HZ.out.2.1 HZ.out.2.2 rfl (by decide) _ _ _ rfl (HO.out.alloc _) ⟨_, 0, none⟩ 1 1 [.int .u64 z] rfl rfl (cell_one_new _ _ _) d1.out d2.out d3.out (Nat.le_trans d4.out (by simp)) ?_; intro v' w3 q1 q2 _ _; have A1 := Lib.hid q1; have G1 := Lib.hid q2; clear q1 q2)
      go_roundw
      case rel =>
        refine ⟨i + 1, hlt, by go_num, ?_, Keep.grown (HK.out.alloc _) G1.out fun k hk => (HO.out.lt k hk).1⟩
        rw [hn.out, List.length_append]
        have := A1.out
        simpa [u64s] using this
      case measure => simp [intOf]; omega
    · obtain rfl : i = zs.length := by omega
      obtain ⟨ax, cx, rfl⟩ := owns_shape HO.out
      rw [show (List.take zs.length zs).length = zs.length by simp]
      go_wp2_with fail
      go_ret
      exact ⟨_, _, rfl, HK.out⟩

theorem num (x : Int) (w : World) : Calls Tryz.prog 18 #[.int .i64 x] w fun e w' => e = .returned (.int .i64 x) ∧ w = w' := by
  go_enter Tryz.func18, Tryz.ntmps18
  go_wp2
  go_ret
  exact ⟨rfl, rfl⟩

/-- a new row of one word -/
def New1 (w w' : World) (v : Value) (x : Int) : Prop := ∃ g, v = .slice (some ⟨g, 0, none⟩) 1 1 ∧ w.heap.size ≤ g ∧ w'.cell? ⟨g, 0, none⟩ = some (.int .u64 x) ∧ Keep [] w w'

theorem one (x : Int) (w : World) : Calls Tryz.prog 19 #[.int .u64 x] w fun e w' => ∃ v, e = .returned v ∧ New1 w w' v x := by
  go_enter Tryz.func19, Tryz.ntmps19
  go_wp2_with fail
  go_ret
  exact ⟨_, rfl, w.heap.size, rfl, Nat.le_refl _, by rw [cell_of (alloc_new _ _)]; rfl, (Keep.refl _ _).alloc _⟩

theorem bitF (w : World) : Calls Tryz.prog 57 #[.bool false] w fun e w' => ∃ v, e = .returned v ∧ New1 w w' v 0 := by
  go_enter Tryz.func57, Tryz.ntmps57
  go_wp2_with fail
  go_ret
  exact ⟨_, rfl, w.heap.size, rfl, Nat.le_refl _, by rw [cell_of (alloc_new _ _)]; rfl, (Keep.refl _ _).alloc _⟩

theorem intsNil (w : World) : Calls Tryz.prog 71 #[.slice none 0 0] w fun e w' => e = .returned (.slice none 0 0) ∧ w = w' := by
  go_enter Tryz.func71, Tryz.ntmps71
  go_wp2_with fail
  go_loopw [3, 4] (fun v i wr => v = .slice none 0 0 ∧ i = .int .i64 0 ∧ w = wr) (fun _ i _ => 0)
  case atStart => exact ⟨rfl, rfl, rfl⟩
  case round =>
    obtain ⟨rfl, rfl, rfl⟩ := hrel
    go_wp2_with fail
    go_ret
    exact ⟨rfl, rfl⟩

/-- no arena, or one that was not made -/
def Bare (w : World) (p : Option Addr) : Prop := p = none ∨ ∃ b, p = some ⟨b, 0, none⟩ ∧ w.cell? ⟨b, 0, none⟩ = some (.int .i64 0)
theorem Bare.keep {w w' : World} {p : Option Addr} (h : Bare w p) (k : Keep [] w w') : Bare w' p := by
  rcases h with h | ⟨b, h, hc⟩
  · exact .inl h
  · exact .inr ⟨b, h, k.cell hc (by simp)⟩

theorem missing {w : World} {p : Option Addr} (h : Bare w p) : Calls Tryz.prog 40 #[.pointer p] w fun e w' => e = .returned (.bool true) ∧ w = w' := by
  rcases h with rfl | ⟨b, rfl, hc⟩
  · exact missing_nil w
  · go_enter Tryz.func40, Tryz.ntmps40
    go_wp2
    go_ret
    exact ⟨rfl, rfl⟩

/-- the words and the error of an answer of something that is not there -/
def nilE (k : Int) : Int := if k = 9 ∨ k = 10 ∨ k = 13 ∨ k = 14 ∨ k < 1 ∨ 14 < k then 0 else 1
def nilN (k : Int) : List Int := if k = 2 ∨ k = 3 ∨ k = 5 ∨ k = 11 ∨ k = 13 ∨ k < 1 ∨ 14 < k then [] else if k = 14 then [0, 0] else [0]
def AnsIs (w0 w : World) (v : Value) (E : Int) (n : Nat) (zs : List Int) : Prop := ∃ a cap, v = .agg #[.int .i64 E, .slice a n cap, .string ⟨#[]⟩] ∧ Came .u64 w a n zs ∧ ∀ b o, a = some ⟨b, o, none⟩ → w0.heap.size ≤ b
theorem cameNil (w : World) (a : Option Addr) : Came .u64 w a 0 [] := ⟨fun i hi => by omega⟩
theorem came1 {w : World} {g : Nat} {x : Int} (h : w.cell? ⟨g, 0, none⟩ = some (.int .u64 x)) : Came .u64 w (some ⟨g, 0, none⟩) 1 [x] :=
  ⟨fun i hi => ⟨g, 0, rfl, by have e : i = 0 := (by omega); subst e; exact h⟩⟩
theorem came2 {w : World} {g : Nat} {x y : Int} (h : w.cell? ⟨g, 0, none⟩ = some (.int .u64 x)) (h2 : w.cell? ⟨g, 1, none⟩ = some (.int .u64 y)) : Came .u64 w (some ⟨g, 0, none⟩) 2 [x, y] :=
  ⟨fun i hi => ⟨g, 0, rfl, by
    have : i = 0 ∨ i = 1 := by omega
    rcases this with rfl | rfl
    · exact h
    · exact h2⟩⟩
def opV (k s c a b : Int) (wd : Value) (p : ByteArray) : Value := .agg #[.int .i64 k, .int .i64 s, .int .i64 c, .int .u64 a, .int .u64 b, wd, .string p]
end Go.Proofs.YtmdboahjikngeaaGreat.Nil
