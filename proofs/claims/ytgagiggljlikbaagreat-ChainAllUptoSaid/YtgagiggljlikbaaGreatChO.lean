/- The chain's Remove in memory: numbers, done, then, at. -/
import Derived.Test.YtgagiggljlikbaaGreatChN
import Derived.Laws.Bits64b
namespace Go.Proofs.YtgagiggljlikbaaGreat.Ch
open Go.RowKit Go.Proofs.YtgagiggljlikbaaGreat.Mem Go.Proofs.YtgagiggljlikbaaGreat.Ar Go.Proofs.YtgagiggljlikbaaGreat.En
set_option linter.unusedVariables false
set_option linter.unusedSimpArgs false
set_option maxRecDepth 100000

theorem or_one (v : Int) (h0 : okL v) (h1 : v % 2 = 0) : bits BinOp.or IntKind.u64 v 1 = v + 1 := by
  obtain ⟨h2, h3⟩ := h0
  have h := bits_or_u64_nat v.toNat 1 (by omega) (by omega)
  rw [Int.toNat_of_nonneg h2] at h
  refine h.trans ?_
  have e : v.toNat = 2 ^ 1 * (v.toNat / 2) := by omega
  rw [e, ← Nat.two_pow_add_eq_or_of_lt (by omega : (1 : Nat) < 2 ^ 1)]
  omega
theorem bv_clear (x : BitVec 64) : x &&& ~~~(1#64) = (x >>> 1) <<< 1 := by
  apply BitVec.eq_of_getLsbD_eq
  intro i hi
  simp only [BitVec.getLsbD_and, BitVec.getLsbD_not, BitVec.getLsbD_shiftLeft, BitVec.getLsbD_ushiftRight, BitVec.getLsbD_one]
  cases i with
  | zero => simp
  | succ i =>
    have e : 1 + i = i + 1 := by omega
    simp [hi, e]
theorem andNot_one (v : Int) (h0 : okL v) : bits BinOp.andNot IntKind.u64 v 1 = lk (numL v) := by
  obtain ⟨h2, h3⟩ := h0
  have e : v = ((v.toNat : Nat) : Int) := by omega
  have h1 : (BitVec.ofInt 64 v).toNat = v.toNat := by
    rw [e, BitVec.ofInt_natCast, BitVec.toNat_ofNat]; exact Nat.mod_eq_of_lt (by omega)
  show IntKind.u64.wrap ((BitVec.ofInt 64 v &&& ~~~(BitVec.ofInt 64 1)).toNat : Int) = _
  rw [show (BitVec.ofInt 64 1) = 1#64 from rfl, bv_clear, BitVec.toNat_shiftLeft, BitVec.toNat_ushiftRight, h1, IntKind.wrap_u64]
  simp only [Nat.shiftRight_eq_div_pow, Nat.shiftLeft_eq, Nat.pow_one]
  unfold lk numL
  omega

/-- a Remove's record -/
def RemM (w : World) (xb mb : Nat) (bk sl : Int) (nv : Value) (wd ah nw co : Int) (mk : Bool) (hp : Int) : Prop :=
  w.heap[mb]? = some (.cells #[.pointer (some ⟨xb, 0, none⟩), .int .i64 bk, .int .i64 sl, nv, .int .u64 wd, .int .i64 ah, .int .i64 nw, .int .i64 co, .bool mk, .int .i64 hp] 130 (0, 0))
def fnR (k mb : Nat) : Value := .func (.func k) #[.pointer (some ⟨mb, 0, none⟩)] #[]
section
variable {w w' w2 : World} {xb mb : Nat} {bk sl wd ah nw co hp : Int} {mk : Bool} {nv : Value}
theorem doneM (R : RemM w xb mb bk sl nv wd ah nw co mk hp) (e : Int) :
    Calls Tryz.prog 100 #[.pointer (some ⟨mb, 0, none⟩), .int .i64 e] w fun r w' => r = .returned (.bool true) ∧ RemM w' xb mb bk sl .nilFunc wd ah nw e mk hp ∧ Keep [mb] w w' := by
  have c3 : w.cell? ⟨mb, 3, none⟩ = some nv := (cell_of R 3).trans rfl
  have c7 : w.cell? ⟨mb, 7, none⟩ = some (.int .i64 co) := (cell_of R 7).trans rfl
  have z3 := free_of R 3
  have z7 := free_of R 7
  have RR := Lib.hid R
  clear R
  go_enter Tryz.func100, Tryz.ntmps100
  go_wp2_with fail
  go_ret
  exact ⟨rfl, (set_same (set_same RR.out 3 .nilFunc) 7 (.int .i64 e)).trans rfl, keep_set (keep_set (Keep.refl [mb] w) (List.mem_singleton.2 rfl) _ _) (List.mem_singleton.2 rfl) _ _⟩
theorem thenM (R : RemM w xb mb bk sl nv wd ah nw co mk hp) (k : Nat) :
    Calls Tryz.prog 135 #[.pointer (some ⟨mb, 0, none⟩), .func (.func k) #[.pointer (some ⟨mb, 0, none⟩)] #[]] w fun r w' => r = .returned (.bool false) ∧ RemM w' xb mb bk sl (fnR k mb) wd ah nw co mk hp ∧ Keep [mb] w w' := by
  have c3 : w.cell? ⟨mb, 3, none⟩ = some nv := (cell_of R 3).trans rfl
  have z3 := free_of R 3
  have RR := Lib.hid R
  clear R
  go_enter Tryz.func135, Tryz.ntmps135
  go_wp2_with fail
  go_ret
  exact ⟨rfl, (set_same RR.out 3 (fnR k mb)).trans rfl, keep_set (Keep.refl [mb] w) (List.mem_singleton.2 rfl) _ _⟩
/-- at: the slot n is the present one; what is next, what is answered -/
def atNv (mb : Nat) (n : Int) : Value := if beyond n then .nilFunc else fnR 174 mb
theorem atM (R : RemM w xb mb bk sl nv wd ah nw co mk hp) (n : Int) :
    Calls Tryz.prog 167 #[.pointer (some ⟨mb, 0, none⟩), .int .i64 n] w fun r w' => r = .returned (.bool (beyond n)) ∧ RemM w' xb mb bk sl (atNv mb n) wd ah n (if beyond n then 0 else co) mk hp ∧ Keep [mb] w w' := by
  have c6 : w.cell? ⟨mb, 6, none⟩ = some (.int .i64 nw) := (cell_of R 6).trans rfl
  have z6 := free_of R 6
  obtain ⟨w1, hw1⟩ : ∃ w1, w1 = w.setCell ⟨mb, 6, none⟩ (.int .i64 n) := ⟨_, rfl⟩
  have R1 : RemM w1 xb mb bk sl nv wd ah n co mk hp := by rw [hw1]; exact (set_same R 6 (.int .i64 n)).trans rfl
  have k1 : Keep [mb] w w1 := by rw [hw1]; exact keep_set (Keep.refl [mb] w) (List.mem_singleton.2 rfl) _ _
  obtain ⟨by_, hby⟩ : ∃ by_, by_ = beyond n := ⟨_, rfl⟩
  have CB : Hid (∀ wx, Calls Tryz.prog 46 #[.int .i64 n] wx fun e w' => e = .returned (.bool by_) ∧ wx = w') := Lib.hid fun wx => by rw [hby]; exact beyond_ n wx
  have HBY := Lib.hid hby
  unfold atNv
  rw [← hby]
  have RR := Lib.hid R1
  have KK := Lib.hid k1
  clear R R1 k1 hby
  have hmf : ∀ (fn : Fn) (first cap : Array Value) (w : World), (Instr.makeFunc fn first cap).run Tryz.prog w = .ok (.func fn first cap) w := fun _ _ _ _ => rfl
  go_enter Tryz.func167, Tryz.ntmps167
  go_wp2_with fail
  refine (CB.out _).mono ?_
  rintro e wx ⟨rfl, rfl⟩
  rw [← hw1]
  clear hw1 c6 z6
  cases by_
  · go_wp2_with fail
    refine (thenM RR.out 174).mono ?_
    rintro e w3 ⟨rfl, r3, k3⟩
    have H3 := Lib.hid (And.intro r3 k3)
    clear r3 k3
    go_wp2_with fail
    go_ret
    exact ⟨rfl, H3.out.1, KK.out.trans H3.out.2⟩
  · go_wp2_with fail
    refine (doneM RR.out 0).mono ?_
    rintro e w3 ⟨rfl, r3, k3⟩
    have H3 := Lib.hid (And.intro r3 k3)
    clear r3 k3
    go_wp2_with fail
    go_ret
    exact ⟨rfl, H3.out.1, KK.out.trans H3.out.2⟩
end
section
variable {w w' : World} {mu : Int} {L : Bk} {A : Ars} {xb hb : Nat} {X : CI}
theorem cas_width (A : Ars) (s : Int) (c : Nat) (x y : Int) : (casA A s c x y).1.width = A.width := by
  unfold casA
  split
  · split <;> rfl
  · rfl
/-- a slot's swap -/
theorem swapS (h : Env w L xb hb X A) (b f : Int) (hf : f ≠ 0) (x y : Int) :
    Calls Tryz.prog 173 #[.pointer (some ⟨xb, 0, none⟩), .int .i64 b, .int .i64 f, .int .u64 x, .int .u64 y] w fun e w' => e = .returned (.tuple #[.bool (casA A f X.cell x y).2.1, .int .i64 (casA A f X.cell x y).2.2]) ∧ Env w' L xb hb X (casA A f X.cell x y).1 ∧ Keep L.blocks w w' := by
  obtain ⟨x0, x1⟩ := sees_x h
  have hf' : (f != 0) = true := by simpa using hf
  obtain ⟨A', ok, er, hc⟩ : ∃ A' ok er, casA A f X.cell x y = (A', ok, er) := ⟨_, _, _, rfl⟩
  have C : Hid (∀ wx, Keep [] w wx → Calls Tryz.prog 168 #[.pointer (some ⟨L.b, 0, none⟩), .int .i64 f, .int .i64 X.cell, .int .u64 x, .int .u64 y] wx fun e w' => e = .returned (.tuple #[.bool ok, .int .i64 er]) ∧ Env w' L xb hb X A' ∧ Keep L.blocks wx w') := Lib.hid fun wx k => by
    have q := casP (h.ar.keep k (by simp)) f X.cell h.cell x y
    rw [hc] at q
    refine q.mono ?_
    rintro e w' ⟨rfl, ha, k'⟩
    have hw : A'.width = A.width := by have := cas_width A f X.cell x y; rw [hc] at this; exact this
    exact ⟨rfl, ⟨ha, (h.ix.keep k (by simp)).keep k' (fun x hx => ⟨fun e => h.offx (e ▸ hx), fun e => h.offh (e ▸ hx)⟩), h.offx, h.offh, by rw [hw]; exact h.cell⟩, k'⟩
  rw [hc]
  clear h hc hf
  go_enter Tryz.func173, Tryz.ntmps173
  go_wp2_with fail
  go_region_held3 (fun w' => w'.cell? ⟨xb, 0, none⟩ = some (.pointer (some ⟨L.b, 0, none⟩)) ∧ w'.cell? ⟨xb, 1, none⟩ = some (.int .i64 X.cell)) (go_keep)
    (first
      | (go_at_call 168; refine (C.out w.drew ((Keep.refl [] w).drew)).mono ?_; rintro e w2 ⟨rfl, h2, k2⟩; obtain ⟨y0, y1⟩ := sees_x h2; have H2 := Lib.hid (And.intro h2 k2); clear h2 k2))
  go_wp2_with fail
  go_ret2
  exact ⟨rfl, H2.out.1, ((Keep.refl [] w).drew.mono (by simp)).trans H2.out.2⟩
end
end Go.Proofs.YtgagiggljlikbaaGreat.Ch
