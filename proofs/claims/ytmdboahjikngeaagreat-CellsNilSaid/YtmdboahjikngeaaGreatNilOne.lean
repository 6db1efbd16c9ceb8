/- The arena's methods where it is not there, or was not made; the document's nil. Printed by cellnils.py. -/
import Derived.Test.YtmdboahjikngeaaGreatNilBase
namespace Go.Proofs.YtmdboahjikngeaaGreat.Nil
open Go.RowKit Go.Proofs.YtmdboahjikngeaaGreat.Mem Go.Proofs.YtmdboahjikngeaaGreat.Ar Go.Proofs.YtmdboahjikngeaaGreat.As
set_option linter.unusedVariables false
set_option maxRecDepth 100000
variable {w : World} {p : Option Addr}

theorem nAlloc (s : ByteArray) (a : Option Addr) (m cap : Nat) (h : Bare w p) : Calls Tryz.prog 17 #[.pointer p, .string s, .slice a m cap] w fun e w' => e = .returned (.tuple #[.int .i64 0, .int .i64 1]) ∧ Keep [] w w' := by
  have H := Lib.hid h; clear h
  go_enter_defers Tryz.func17, Tryz.ntmps17
  go_wp2_with fail
  refine (missing (H.out.keep (by repeat (first | exact Keep.refl _ _ | apply Keep.drew | apply Keep.alloc)))).mono ?_
  rintro e w' ⟨rfl, rfl⟩
  go_wp2_with fail
  exact ⟨_, results_tmp2 rfl _ _ _, rfl, by repeat (first | exact Keep.refl _ _ | apply Keep.drew | apply Keep.alloc)⟩

theorem nFree (s : Int) (h : Bare w p) : Calls Tryz.prog 34 #[.pointer p, .int .i64 s] w fun e w' => e = .returned (.int .i64 1) ∧ Keep [] w w' := by
  have H := Lib.hid h; clear h
  go_enter_defers Tryz.func34, Tryz.ntmps34
  go_wp2_with fail
  refine (missing (H.out.keep (by repeat (first | exact Keep.refl _ _ | apply Keep.drew | apply Keep.alloc)))).mono ?_
  rintro e w' ⟨rfl, rfl⟩
  go_wp2_with fail
  exact ⟨_, results_tmp rfl _ _ _, rfl, by repeat (first | exact Keep.refl _ _ | apply Keep.drew | apply Keep.alloc)⟩

theorem nPayload (s : Int) (h : Bare w p) : Calls Tryz.prog 53 #[.pointer p, .int .i64 s] w fun e w' => e = .returned (.tuple #[.string ⟨#[]⟩, .int .i64 1]) ∧ Keep [] w w' := by
  have H := Lib.hid h; clear h
  go_enter_defers Tryz.func53, Tryz.ntmps53
  go_wp2_with fail
  refine (missing (H.out.keep (by repeat (first | exact Keep.refl _ _ | apply Keep.drew | apply Keep.alloc)))).mono ?_
  rintro e w' ⟨rfl, rfl⟩
  go_wp2_with fail
  exact ⟨_, results_tmp2 rfl _ _ _, rfl, by repeat (first | exact Keep.refl _ _ | apply Keep.drew | apply Keep.alloc)⟩

theorem nCell (s c : Int) (h : Bare w p) : Calls Tryz.prog 46 #[.pointer p, .int .i64 s, .int .i64 c] w fun e w' => e = .returned (.tuple #[.pointer none, .int .i64 1]) ∧ Keep [] w w' := by
  have H := Lib.hid h; clear h
  go_enter Tryz.func46, Tryz.ntmps46
  go_wp2_with fail
  refine (missing (H.out.keep (by repeat (first | exact Keep.refl _ _ | apply Keep.drew | apply Keep.alloc)))).mono ?_
  rintro e w' ⟨rfl, rfl⟩
  go_wp2_with fail
  refine bodyPost_ret (results_tmp2 rfl _ _ _) rfl ?_
  exact ⟨rfl, by repeat (first | exact Keep.refl _ _ | apply Keep.drew | apply Keep.alloc)⟩

theorem nLoad (s c : Int) (h : Bare w p) : Calls Tryz.prog 54 #[.pointer p, .int .i64 s, .int .i64 c] w fun e w' => e = .returned (.tuple #[.int .u64 0, .int .i64 1]) ∧ Keep [] w w' := by
  have H := Lib.hid h; clear h
  go_enter Tryz.func54, Tryz.ntmps54
  go_wp2_with fail
  refine (nCell s c (H.out.keep (by repeat (first | exact Keep.refl _ _ | apply Keep.drew | apply Keep.alloc)))).mono ?_
  rintro e w' ⟨rfl, k⟩
  have K := Lib.hid k; clear k
  go_wp2_with fail
  refine bodyPost_ret (results_tmp2 rfl _ _ _) rfl ?_
  exact ⟨rfl, by repeat (first | exact K.out | exact Keep.refl _ _ | apply Keep.drew | apply Keep.alloc)⟩

theorem nStore (s c x : Int) (h : Bare w p) : Calls Tryz.prog 55 #[.pointer p, .int .i64 s, .int .i64 c, .int .u64 x] w fun e w' => e = .returned (.int .i64 1) ∧ Keep [] w w' := by
  have H := Lib.hid h; clear h
  go_enter Tryz.func55, Tryz.ntmps55
  go_wp2_with fail
  refine (nCell s c (H.out.keep (by repeat (first | exact Keep.refl _ _ | apply Keep.drew | apply Keep.alloc)))).mono ?_
  rintro e w' ⟨rfl, k⟩
  have K := Lib.hid k; clear k
  go_wp2_with fail
  go_ret
  exact ⟨rfl, by repeat (first | exact K.out | exact Keep.refl _ _ | apply Keep.drew | apply Keep.alloc)⟩

theorem nCAS (s c x y : Int) (h : Bare w p) : Calls Tryz.prog 56 #[.pointer p, .int .i64 s, .int .i64 c, .int .u64 x, .int .u64 y] w fun e w' => e = .returned (.tuple #[.bool false, .int .i64 1]) ∧ Keep [] w w' := by
  have H := Lib.hid h; clear h
  go_enter Tryz.func56, Tryz.ntmps56
  go_wp2_with fail
  refine (nCell s c (H.out.keep (by repeat (first | exact Keep.refl _ _ | apply Keep.drew | apply Keep.alloc)))).mono ?_
  rintro e w' ⟨rfl, k⟩
  have K := Lib.hid k; clear k
  go_wp2_with fail
  refine bodyPost_ret (results_tmp2 rfl _ _ _) rfl ?_
  exact ⟨rfl, by repeat (first | exact K.out | exact Keep.refl _ _ | apply Keep.drew | apply Keep.alloc)⟩

theorem nAdd (s c x : Int) (h : Bare w p) : Calls Tryz.prog 58 #[.pointer p, .int .i64 s, .int .i64 c, .int .u64 x] w fun e w' => e = .returned (.tuple #[.int .u64 0, .int .i64 1]) ∧ Keep [] w w' := by
  have H := Lib.hid h; clear h
  go_enter Tryz.func58, Tryz.ntmps58
  go_wp2_with fail
  refine (nCell s c (H.out.keep (by repeat (first | exact Keep.refl _ _ | apply Keep.drew | apply Keep.alloc)))).mono ?_
  rintro e w' ⟨rfl, k⟩
  have K := Lib.hid k; clear k
  go_wp2_with fail
  refine bodyPost_ret (results_tmp2 rfl _ _ _) rfl ?_
  exact ⟨rfl, by repeat (first | exact K.out | exact Keep.refl _ _ | apply Keep.drew | apply Keep.alloc)⟩

theorem nAddAll (s c : Int) (a : Option Addr) (m cap : Nat) (h : Bare w p) : Calls Tryz.prog 20 #[.pointer p, .int .i64 s, .int .i64 c, .slice a m cap] w fun e w' => e = .returned (.tuple #[.int .u64 0, .int .i64 1]) ∧ Keep [] w w' := by
  have H := Lib.hid h; clear h
  go_enter Tryz.func20, Tryz.ntmps20
  go_wp2_with fail
  refine (missing (H.out.keep (by repeat (first | exact Keep.refl _ _ | apply Keep.drew | apply Keep.alloc)))).mono ?_
  rintro e w' ⟨rfl, rfl⟩
  go_wp2_with fail
  refine bodyPost_ret (results_tmp2 rfl _ _ _) rfl ?_
  exact ⟨rfl, by repeat (first | exact Keep.refl _ _ | apply Keep.drew | apply Keep.alloc)⟩

theorem nAccesses (h : Bare w p) : Calls Tryz.prog 116 #[.pointer p] w fun e w' => e = .returned (.int .i64 0) ∧ Keep [] w w' := by
  have H := Lib.hid h; clear h
  go_enter Tryz.func116, Tryz.ntmps116
  go_wp2_with fail
  refine (missing (H.out.keep (by repeat (first | exact Keep.refl _ _ | apply Keep.drew | apply Keep.alloc)))).mono ?_
  rintro e w' ⟨rfl, rfl⟩
  go_wp2_with fail
  go_ret
  exact ⟨rfl, by repeat (first | exact Keep.refl _ _ | apply Keep.drew | apply Keep.alloc)⟩

theorem nMisses (h : Bare w p) : Calls Tryz.prog 117 #[.pointer p] w fun e w' => e = .returned (.int .i64 0) ∧ Keep [] w w' := by
  have H := Lib.hid h; clear h
  go_enter Tryz.func117, Tryz.ntmps117
  go_wp2_with fail
  refine (missing (H.out.keep (by repeat (first | exact Keep.refl _ _ | apply Keep.drew | apply Keep.alloc)))).mono ?_
  rintro e w' ⟨rfl, rfl⟩
  go_wp2_with fail
  go_ret
  exact ⟨rfl, by repeat (first | exact Keep.refl _ _ | apply Keep.drew | apply Keep.alloc)⟩

theorem nPeek (s : Int) (h : Bare w p) : Calls Tryz.prog 118 #[.pointer p, .int .i64 s] w fun e w' => e = .returned (.tuple #[.slice none 0 0, .int .i64 1]) ∧ Keep [] w w' := by
  have H := Lib.hid h; clear h
  go_enter Tryz.func118, Tryz.ntmps118
  go_wp2_with fail
  refine (missing (H.out.keep (by repeat (first | exact Keep.refl _ _ | apply Keep.drew | apply Keep.alloc)))).mono ?_
  rintro e w' ⟨rfl, rfl⟩
  go_wp2_with fail
  refine bodyPost_ret (results_tmp2 rfl _ _ _) rfl ?_
  exact ⟨rfl, by repeat (first | exact Keep.refl _ _ | apply Keep.drew | apply Keep.alloc)⟩

theorem nTurn (s : Int) (h : Bare w p) : Calls Tryz.prog 119 #[.pointer p, .int .i64 s] w fun e w' => e = .returned (.tuple #[.int .i64 0, .int .i64 1]) ∧ Keep [] w w' := by
  have H := Lib.hid h; clear h
  go_enter_defers Tryz.func119, Tryz.ntmps119
  go_wp2_with fail
  refine (missing (H.out.keep (by repeat (first | exact Keep.refl _ _ | apply Keep.drew | apply Keep.alloc)))).mono ?_
  rintro e w' ⟨rfl, rfl⟩
  go_wp2_with fail
  exact ⟨_, results_tmp2 rfl _ _ _, rfl, by repeat (first | exact Keep.refl _ _ | apply Keep.drew | apply Keep.alloc)⟩

theorem nPicture (h : Bare w p) : Calls Tryz.prog 88 #[.pointer p] w fun e w' => e = .returned (.tuple #[.slice none 0 0, .slice none 0 0]) ∧ Keep [] w w' := by
  have H := Lib.hid h; clear h
  go_enter_defers Tryz.func88, Tryz.ntmps88
  go_wp2_with fail
  refine (missing (H.out.keep (by repeat (first | exact Keep.refl _ _ | apply Keep.drew | apply Keep.alloc)))).mono ?_
  rintro e w' ⟨rfl, rfl⟩
  go_wp2_with fail
  exact ⟨_, results_tmp2 rfl _ _ _, rfl, by repeat (first | exact Keep.refl _ _ | apply Keep.drew | apply Keep.alloc)⟩

theorem nLive (h : Bare w p) : Calls Tryz.prog 92 #[.pointer p] w fun e w' => e = .returned (.slice none 0 0) ∧ Keep [] w w' := by
  have H := Lib.hid h; clear h
  go_enter Tryz.func92, Tryz.ntmps92
  go_wp2_with fail
  refine (nPicture (H.out.keep (by repeat (first | exact Keep.refl _ _ | apply Keep.drew | apply Keep.alloc)))).mono ?_
  rintro e w' ⟨rfl, k⟩
  have K := Lib.hid k; clear k
  go_wp2_with fail
  go_ret
  exact ⟨rfl, by repeat (first | exact K.out | exact Keep.refl _ _ | apply Keep.drew | apply Keep.alloc)⟩

theorem nShape (h : Bare w p) : Calls Tryz.prog 120 #[.pointer p] w fun e w' => e = .returned (.tuple #[.int .i64 0, .int .i64 0]) ∧ Keep [] w w' := by
  have H := Lib.hid h; clear h
  go_enter Tryz.func120, Tryz.ntmps120
  go_wp2_with fail
  refine (missing (H.out.keep (by repeat (first | exact Keep.refl _ _ | apply Keep.drew | apply Keep.alloc)))).mono ?_
  rintro e w' ⟨rfl, rfl⟩
  go_wp2_with fail
  refine bodyPost_ret (results_tmp2 rfl _ _ _) rfl ?_
  exact ⟨rfl, by repeat (first | exact Keep.refl _ _ | apply Keep.drew | apply Keep.alloc)⟩

theorem dAlloc (s t : ByteArray) (i : Int) (a : Option Addr) (m cap : Nat) (w : World) : Calls Tryz.prog 60 #[.pointer none, .agg #[.string s, .string t, .int .i64 i], .slice a m cap] w fun e w' => e = .returned (.tuple #[.int .i64 0, .int .i64 1]) ∧ Keep [] w w' := by
  go_enter Tryz.func60, Tryz.ntmps60
  go_wp2_with fail
  have K := Lib.hid (Keep.refl [] w)
  refine bodyPost_ret (results_tmp2 rfl _ _ _) rfl ?_
  exact ⟨rfl, by repeat (first | exact K.out | exact Keep.refl _ _ | apply Keep.drew | apply Keep.alloc | refine Keep.set ?_ (.inr (Nat.le_refl _)) _ _)⟩

theorem dFree (s : Int) (w : World) : Calls Tryz.prog 61 #[.pointer none, .int .i64 s] w fun e w' => e = .returned (.int .i64 1) ∧ Keep [] w w' := by
  go_enter Tryz.func61, Tryz.ntmps61
  go_wp2_with fail
  have K := Lib.hid (Keep.refl [] w)
  go_ret
  exact ⟨rfl, by repeat (first | exact K.out | exact Keep.refl _ _ | apply Keep.drew | apply Keep.alloc | refine Keep.set ?_ (.inr (Nat.le_refl _)) _ _)⟩

theorem dPayload (s : Int) (w : World) : Calls Tryz.prog 33 #[.pointer none, .int .i64 s] w fun e w' => e = .returned (.tuple #[.agg #[.string ⟨#[]⟩, .string ⟨#[]⟩, .int .i64 0], .int .i64 1]) ∧ Keep [] w w' := by
  go_enter Tryz.func33, Tryz.ntmps33
  go_wp2_with fail
  have K := Lib.hid (Keep.refl [] w)
  refine bodyPost_ret (v := .tuple #[.agg #[.string ⟨#[]⟩, .string ⟨#[]⟩, .int .i64 0], .int .i64 1]) ?_ rfl ?_
  · simp [results]
    go_simp
  exact ⟨rfl, by repeat (first | exact K.out | exact Keep.refl _ _ | apply Keep.drew | apply Keep.alloc | refine Keep.set ?_ (.inr (Nat.le_refl _)) _ _)⟩

theorem dReach (s c : Int) (w : World) : Calls Tryz.prog 121 #[.pointer none, .int .i64 s, .int .i64 c] w fun e w' => e = .returned (.int .i64 1) ∧ Keep [] w w' := by
  go_enter Tryz.func121, Tryz.ntmps121
  go_wp2_with fail
  have K := Lib.hid (Keep.refl [] w)
  go_ret
  exact ⟨rfl, by repeat (first | exact K.out | exact Keep.refl _ _ | apply Keep.drew | apply Keep.alloc | refine Keep.set ?_ (.inr (Nat.le_refl _)) _ _)⟩

theorem dLoad (s c : Int) (w : World) : Calls Tryz.prog 62 #[.pointer none, .int .i64 s, .int .i64 c] w fun e w' => e = .returned (.tuple #[.int .u64 0, .int .i64 1]) ∧ Keep [] w w' := by
  go_enter Tryz.func62, Tryz.ntmps62
  go_wp2_with fail
  refine (dReach s c _).mono ?_
  rintro e w' ⟨rfl, k⟩
  have K := Lib.hid k; clear k
  go_wp2_with fail
  refine bodyPost_ret (results_tmp2 rfl _ _ _) rfl ?_
  exact ⟨rfl, by repeat (first | exact K.out | exact Keep.refl _ _ | apply Keep.drew | apply Keep.alloc | refine Keep.set ?_ (.inr (Nat.le_refl _)) _ _)⟩

theorem dStore (s c x : Int) (w : World) : Calls Tryz.prog 63 #[.pointer none, .int .i64 s, .int .i64 c, .int .u64 x] w fun e w' => e = .returned (.int .i64 1) ∧ Keep [] w w' := by
  go_enter Tryz.func63, Tryz.ntmps63
  go_wp2_with fail
  refine (dReach s c _).mono ?_
  rintro e w' ⟨rfl, k⟩
  have K := Lib.hid k; clear k
  go_wp2_with fail
  go_ret
  exact ⟨rfl, by repeat (first | exact K.out | exact Keep.refl _ _ | apply Keep.drew | apply Keep.alloc | refine Keep.set ?_ (.inr (Nat.le_refl _)) _ _)⟩

theorem dCAS (s c x y : Int) (w : World) : Calls Tryz.prog 64 #[.pointer none, .int .i64 s, .int .i64 c, .int .u64 x, .int .u64 y] w fun e w' => e = .returned (.tuple #[.bool false, .int .i64 1]) ∧ Keep [] w w' := by
  go_enter Tryz.func64, Tryz.ntmps64
  go_wp2_with fail
  refine (dReach s c _).mono ?_
  rintro e w' ⟨rfl, k⟩
  have K := Lib.hid k; clear k
  go_wp2_with fail
  refine bodyPost_ret (results_tmp2 rfl _ _ _) rfl ?_
  exact ⟨rfl, by repeat (first | exact K.out | exact Keep.refl _ _ | apply Keep.drew | apply Keep.alloc | refine Keep.set ?_ (.inr (Nat.le_refl _)) _ _)⟩

theorem dAdd (s c x : Int) (w : World) : Calls Tryz.prog 65 #[.pointer none, .int .i64 s, .int .i64 c, .int .u64 x] w fun e w' => e = .returned (.tuple #[.int .u64 0, .int .i64 1]) ∧ Keep [] w w' := by
  go_enter Tryz.func65, Tryz.ntmps65
  go_wp2_with fail
  refine (dReach s c _).mono ?_
  rintro e w' ⟨rfl, k⟩
  have K := Lib.hid k; clear k
  go_wp2_with fail
  refine bodyPost_ret (results_tmp2 rfl _ _ _) rfl ?_
  exact ⟨rfl, by repeat (first | exact K.out | exact Keep.refl _ _ | apply Keep.drew | apply Keep.alloc | refine Keep.set ?_ (.inr (Nat.le_refl _)) _ _)⟩

theorem dAddAll (s c : Int) (a : Option Addr) (m cap : Nat) (w : World) : Calls Tryz.prog 66 #[.pointer none, .int .i64 s, .int .i64 c, .slice a m cap] w fun e w' => e = .returned (.tuple #[.int .u64 0, .int .i64 1]) ∧ Keep [] w w' := by
  go_enter Tryz.func66, Tryz.ntmps66
  go_wp2_with fail
  have K := Lib.hid (Keep.refl [] w)
  refine bodyPost_ret (results_tmp2 rfl _ _ _) rfl ?_
  exact ⟨rfl, by repeat (first | exact K.out | exact Keep.refl _ _ | apply Keep.drew | apply Keep.alloc | refine Keep.set ?_ (.inr (Nat.le_refl _)) _ _)⟩

theorem dAccesses (w : World) : Calls Tryz.prog 67 #[.pointer none] w fun e w' => e = .returned (.int .i64 0) ∧ Keep [] w w' := by
  go_enter Tryz.func67, Tryz.ntmps67
  go_wp2_with fail
  have K := Lib.hid (Keep.refl [] w)
  go_ret
  exact ⟨rfl, by repeat (first | exact K.out | exact Keep.refl _ _ | apply Keep.drew | apply Keep.alloc | refine Keep.set ?_ (.inr (Nat.le_refl _)) _ _)⟩

theorem dMisses (w : World) : Calls Tryz.prog 68 #[.pointer none] w fun e w' => e = .returned (.int .i64 0) ∧ Keep [] w w' := by
  go_enter Tryz.func68, Tryz.ntmps68
  go_wp2_with fail
  have K := Lib.hid (Keep.refl [] w)
  go_ret
  exact ⟨rfl, by repeat (first | exact K.out | exact Keep.refl _ _ | apply Keep.drew | apply Keep.alloc | refine Keep.set ?_ (.inr (Nat.le_refl _)) _ _)⟩

theorem dPeek (s : Int) (w : World) : Calls Tryz.prog 69 #[.pointer none, .int .i64 s] w fun e w' => e = .returned (.tuple #[.slice none 0 0, .int .i64 1]) ∧ Keep [] w w' := by
  go_enter Tryz.func69, Tryz.ntmps69
  go_wp2_with fail
  have K := Lib.hid (Keep.refl [] w)
  refine bodyPost_ret (results_tmp2 rfl _ _ _) rfl ?_
  exact ⟨rfl, by repeat (first | exact K.out | exact Keep.refl _ _ | apply Keep.drew | apply Keep.alloc | refine Keep.set ?_ (.inr (Nat.le_refl _)) _ _)⟩

theorem dTurn (s : Int) (w : World) : Calls Tryz.prog 70 #[.pointer none, .int .i64 s] w fun e w' => e = .returned (.tuple #[.int .i64 0, .int .i64 1]) ∧ Keep [] w w' := by
  go_enter Tryz.func70, Tryz.ntmps70
  go_wp2_with fail
  have K := Lib.hid (Keep.refl [] w)
  refine bodyPost_ret (results_tmp2 rfl _ _ _) rfl ?_
  exact ⟨rfl, by repeat (first | exact K.out | exact Keep.refl _ _ | apply Keep.drew | apply Keep.alloc | refine Keep.set ?_ (.inr (Nat.le_refl _)) _ _)⟩

theorem dLive (w : World) : Calls Tryz.prog 32 #[.pointer none] w fun e w' => e = .returned (.slice none 0 0) ∧ Keep [] w w' := by
  go_enter Tryz.func32, Tryz.ntmps32
  go_wp2_with fail
  have K := Lib.hid (Keep.refl [] w)
  go_ret
  exact ⟨rfl, by repeat (first | exact K.out | exact Keep.refl _ _ | apply Keep.drew | apply Keep.alloc | refine Keep.set ?_ (.inr (Nat.le_refl _)) _ _)⟩

theorem dShape (w : World) : Calls Tryz.prog 72 #[.pointer none] w fun e w' => e = .returned (.tuple #[.int .i64 0, .int .i64 0]) ∧ Keep [] w w' := by
  go_enter Tryz.func72, Tryz.ntmps72
  go_wp2_with fail
  have K := Lib.hid (Keep.refl [] w)
  refine bodyPost_ret (results_tmp2 rfl _ _ _) rfl ?_
  exact ⟨rfl, by repeat (first | exact K.out | exact Keep.refl _ _ | apply Keep.drew | apply Keep.alloc | refine Keep.set ?_ (.inr (Nat.le_refl _)) _ _)⟩
end Go.Proofs.YtmdboahjikngeaaGreat.Nil
