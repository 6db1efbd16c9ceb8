/- Schedules of picks: which bytes a pick has (plain Lean), and that what the program tries and looks at comes to the same. -/
import Derived.Test.YtdkdeiofjoccnaaPick
import Derived.Laws.BytesArg
namespace Go.Proofs.Ytdkdeiofjoccnaa.Pick
open Go.RowKit Go.Proofs.Ytdkdeiofjoccnaa.Mem

/-- the bytes of a pick; none: it has none -/
def bytesOf (p : Pk) (last : Bool) : List Int :=
  if p.k = 1 then (if 0 ≤ p.who ∧ p.who ≤ 31 ∧ p.n = 1 then [p.who] else [])
  else if p.k = 2 then (if 0 ≤ p.who ∧ p.who ≤ 31 ∧ 1 ≤ p.n ∧ p.n ≤ 256 then [32 + p.who, p.n - 1] else [])
  else if p.k = 3 then (if 0 ≤ p.who ∧ p.who ≤ 31 ∧ p.n = 1 then [64 + p.who] else [])
  else if p.k = 4 then (if p.who = 0 ∧ 1 ≤ p.n ∧ p.n ≤ 32 then [96 + p.n - 1] else [])
  else if p.k = 5 then (if 0 ≤ p.who ∧ p.who ≤ 31 ∧ p.n = 1 then [128 + p.who] else [])
  else if p.k = 6 then (if p.who = 0 ∧ p.n = 0 then [160] else [])
  else if p.k = 0 then (if p.who = 0 ∧ 161 ≤ p.n ∧ p.n ≤ 255 then [p.n] else if p.who = 0 ∧ 32 ≤ p.n ∧ p.n ≤ 63 ∧ last = true then [p.n] else [])
  else []

/-- the schedule of a list of picks -/
def enc : List Pk → Option (List Int)
  | [] => some []
  | p :: r => if bytesOf p r.isEmpty = [] then none else (enc r).map (bytesOf p r.isEmpty ++ ·)

/-- what the program tries -/
def tryOf (p : Pk) : List Int :=
  if p.k = 1 then [p.who % 32]
  else if p.k = 2 then [32 + p.who % 32, (p.n - 1) % 256]
  else if p.k = 3 then [64 + p.who % 32]
  else if p.k = 4 then [96 + (p.n - 1) % 32]
  else if p.k = 5 then [128 + p.who % 32]
  else if p.k = 6 then [160]
  else if p.k = 0 then [p.n % 256]
  else []

def back (xs : List Int) : List Pk := dec (xs.map fun n => UInt8.ofNat n.toNat)

theorem toNat_byte (n : Int) (h0 : 0 ≤ n) (h1 : n < 256) : ((UInt8.ofNat n.toNat).toNat : Int) = n := by
  rw [UInt8.toNat_ofNat']
  omega
theorem back_one (n : Int) (h0 : 0 ≤ n) (h1 : n < 256) : back [n] = [one n] := by
  simp only [back, List.map_cons, List.map_nil, dec, toNat_byte n h0 h1]
theorem back_two (n m : Int) (h0 : 32 ≤ n) (h1 : n < 64) (g0 : 0 ≤ m) (g1 : m < 256) : back [n, m] = [⟨2, n % 32, m + 1⟩] := by
  simp only [back, List.map_cons, List.map_nil]
  rw [dec_pair (by rw [toNat_byte n (by omega) (by omega)]; omega), toNat_byte n (by omega) (by omega), toNat_byte m g0 g1]
  rfl

theorem pk_eq {p : Pk} {a b c : Int} : (⟨a, b, c⟩ : Pk) = p ↔ p.k = a ∧ p.who = b ∧ p.n = c := by
  cases p
  simp only [Pk.mk.injEq]
  omega

/-- It reads back, where it has bytes; and these are they. -/
theorem try_yes (p : Pk) (last : Bool) (h : bytesOf p last ≠ []) : tryOf p = bytesOf p last ∧ back (tryOf p) = [p] ∧ ¬ (p.k = 0 ∧ p.n / 32 = 1 ∧ last = false) := by
  unfold bytesOf at h ⊢
  unfold tryOf
  by_cases k1 : p.k = 1
  · rw [if_pos k1] at h ⊢; rw [if_pos k1]
    by_cases c : 0 ≤ p.who ∧ p.who ≤ 31 ∧ p.n = 1
    · rw [if_pos c]
      have e : p.who % 32 = p.who := by omega
      rw [e, back_one _ (by omega) (by omega)]
      refine ⟨rfl, ?_, by omega⟩
      unfold one
      rw [if_pos (by omega), pk_eq.2 ⟨k1, by omega, by omega⟩]
    · rw [if_neg c] at h; exact absurd rfl h
  rw [if_neg k1] at h ⊢; rw [if_neg k1]
  by_cases k2 : p.k = 2
  · rw [if_pos k2] at h ⊢; rw [if_pos k2]
    by_cases c : 0 ≤ p.who ∧ p.who ≤ 31 ∧ 1 ≤ p.n ∧ p.n ≤ 256
    · rw [if_pos c]
      have e : p.who % 32 = p.who := by omega
      have e2 : (p.n - 1) % 256 = p.n - 1 := by omega
      rw [e, e2, back_two _ _ (by omega) (by omega) (by omega) (by omega)]
      refine ⟨rfl, ?_, by omega⟩
      rw [pk_eq.2 ⟨k2, by omega, by omega⟩]
    · rw [if_neg c] at h; exact absurd rfl h
  rw [if_neg k2] at h ⊢; rw [if_neg k2]
  by_cases k3 : p.k = 3
  · rw [if_pos k3] at h ⊢; rw [if_pos k3]
    by_cases c : 0 ≤ p.who ∧ p.who ≤ 31 ∧ p.n = 1
    · rw [if_pos c]
      have e : p.who % 32 = p.who := by omega
      rw [e, back_one _ (by omega) (by omega)]
      refine ⟨rfl, ?_, by omega⟩
      unfold one
      rw [if_neg (by omega), if_pos (by omega), pk_eq.2 ⟨k3, by omega, by omega⟩]
    · rw [if_neg c] at h; exact absurd rfl h
  rw [if_neg k3] at h ⊢; rw [if_neg k3]
  by_cases k4 : p.k = 4
  · rw [if_pos k4] at h ⊢; rw [if_pos k4]
    by_cases c : p.who = 0 ∧ 1 ≤ p.n ∧ p.n ≤ 32
    · rw [if_pos c]
      have e : 96 + (p.n - 1) % 32 = 96 + p.n - 1 := by omega
      rw [e, back_one _ (by omega) (by omega)]
      refine ⟨rfl, ?_, by omega⟩
      unfold one
      rw [if_neg (by omega), if_neg (by omega), if_pos (by omega), pk_eq.2 ⟨k4, by omega, by omega⟩]
    · rw [if_neg c] at h; exact absurd rfl h
  rw [if_neg k4] at h ⊢; rw [if_neg k4]
  by_cases k5 : p.k = 5
  · rw [if_pos k5] at h ⊢; rw [if_pos k5]
    by_cases c : 0 ≤ p.who ∧ p.who ≤ 31 ∧ p.n = 1
    · rw [if_pos c]
      have e : p.who % 32 = p.who := by omega
      rw [e, back_one _ (by omega) (by omega)]
      refine ⟨rfl, ?_, by omega⟩
      unfold one
      rw [if_neg (by omega), if_neg (by omega), if_neg (by omega), if_pos (by omega), pk_eq.2 ⟨k5, by omega, by omega⟩]
    · rw [if_neg c] at h; exact absurd rfl h
  rw [if_neg k5] at h ⊢; rw [if_neg k5]
  by_cases k6 : p.k = 6
  · rw [if_pos k6] at h ⊢; rw [if_pos k6]
    by_cases c : p.who = 0 ∧ p.n = 0
    · rw [if_pos c, back_one _ (by omega) (by omega)]
      refine ⟨rfl, ?_, by omega⟩
      rw [← pk_eq.2 ⟨k6, c.1, c.2⟩]
      rfl
    · rw [if_neg c] at h; exact absurd rfl h
  rw [if_neg k6] at h ⊢; rw [if_neg k6]
  by_cases k0 : p.k = 0
  · rw [if_pos k0] at h ⊢; rw [if_pos k0]
    by_cases c : p.who = 0 ∧ 161 ≤ p.n ∧ p.n ≤ 255
    · rw [if_pos c]
      have e : p.n % 256 = p.n := by omega
      rw [e, back_one _ (by omega) (by omega)]
      refine ⟨rfl, ?_, by omega⟩
      unfold one
      rw [if_neg (by omega), if_neg (by omega), if_neg (by omega), if_neg (by omega), if_neg (by omega), pk_eq.2 ⟨k0, c.1, rfl⟩]
    · rw [if_neg c] at h ⊢
      by_cases d : p.who = 0 ∧ 32 ≤ p.n ∧ p.n ≤ 63 ∧ last = true
      · rw [if_pos d]
        have e : p.n % 256 = p.n := by omega
        rw [e, back_one _ (by omega) (by omega)]
        refine ⟨rfl, ?_, fun hh => by rw [d.2.2.2] at hh; exact Bool.noConfusion hh.2.2⟩
        unfold one
        rw [if_neg (by omega), if_neg (by omega), if_neg (by omega), if_neg (by omega), if_neg (by omega), pk_eq.2 ⟨k0, d.1, rfl⟩]
      · rw [if_neg d] at h; exact absurd rfl h
  · rw [if_neg k0] at h; exact absurd rfl h

/-- It has no bytes: what is tried does not read back, or it is refused ahead. -/
theorem try_no (p : Pk) (last : Bool) (h : bytesOf p last = []) (hn : ¬ (p.k = 0 ∧ p.n / 32 = 1 ∧ last = false)) : back (tryOf p) ≠ [p] := by
  intro hb
  unfold bytesOf at h
  unfold tryOf at hb
  by_cases k1 : p.k = 1
  · rw [if_pos k1] at h hb
    rw [back_one _ (by omega) (by omega)] at hb
    have hb := (List.cons.inj hb).1
    unfold one at hb
    rw [if_pos (by omega), pk_eq] at hb
    rw [if_pos (by omega)] at h
    exact absurd h (by simp)
  rw [if_neg k1] at h hb
  by_cases k2 : p.k = 2
  · rw [if_pos k2] at h hb
    rw [back_two _ _ (by omega) (by omega) (by omega) (by omega)] at hb
    have hb := (List.cons.inj hb).1
    rw [pk_eq] at hb
    rw [if_pos (by omega)] at h
    exact absurd h (by simp)
  rw [if_neg k2] at h hb
  by_cases k3 : p.k = 3
  · rw [if_pos k3] at h hb
    rw [back_one _ (by omega) (by omega)] at hb
    have hb := (List.cons.inj hb).1
    unfold one at hb
    rw [if_neg (by omega), if_pos (by omega), pk_eq] at hb
    rw [if_pos (by omega)] at h
    exact absurd h (by simp)
  rw [if_neg k3] at h hb
  by_cases k4 : p.k = 4
  · rw [if_pos k4] at h hb
    rw [back_one _ (by omega) (by omega)] at hb
    have hb := (List.cons.inj hb).1
    unfold one at hb
    rw [if_neg (by omega), if_neg (by omega), if_pos (by omega), pk_eq] at hb
    rw [if_pos (by omega)] at h
    exact absurd h (by simp)
  rw [if_neg k4] at h hb
  by_cases k5 : p.k = 5
  · rw [if_pos k5] at h hb
    rw [back_one _ (by omega) (by omega)] at hb
    have hb := (List.cons.inj hb).1
    unfold one at hb
    rw [if_neg (by omega), if_neg (by omega), if_neg (by omega), if_pos (by omega), pk_eq] at hb
    rw [if_pos (by omega)] at h
    exact absurd h (by simp)
  rw [if_neg k5] at h hb
  by_cases k6 : p.k = 6
  · rw [if_pos k6] at h hb
    rw [back_one _ (by omega) (by omega)] at hb
    have hb := (List.cons.inj hb).1
    have e : one 160 = ⟨6, 0, 0⟩ := rfl
    rw [e, pk_eq] at hb
    rw [if_pos (by omega)] at h
    exact absurd h (by simp)
  rw [if_neg k6] at h hb
  by_cases k0 : p.k = 0
  · rw [if_pos k0] at h hb
    rw [back_one _ (by omega) (by omega)] at hb
    have hb := (List.cons.inj hb).1
    by_cases c : p.who = 0 ∧ 161 ≤ p.n ∧ p.n ≤ 255
    · rw [if_pos c] at h; exact absurd h (by simp)
    rw [if_neg c] at h
    by_cases d : p.who = 0 ∧ 32 ≤ p.n ∧ p.n ≤ 63
    · cases last with
      | true => rw [if_pos ⟨d.1, d.2.1, d.2.2, rfl⟩] at h; exact absurd h (by simp)
      | false => exact hn ⟨k0, by omega, rfl⟩
    · have hk := congrArg Pk.k hb
      have hw := congrArg Pk.who hb
      have hh := congrArg Pk.n hb
      unfold one at hk hw hh
      by_cases o0 : p.n % 256 / 32 = 0
      · rw [if_pos o0] at hk; simp only at hk; omega
      rw [if_neg o0] at hk hw hh
      by_cases o2 : p.n % 256 / 32 = 2
      · rw [if_pos o2] at hk; simp only at hk; omega
      rw [if_neg o2] at hk hw hh
      by_cases o3 : p.n % 256 / 32 = 3
      · rw [if_pos o3] at hk; simp only at hk; omega
      rw [if_neg o3] at hk hw hh
      by_cases o4 : p.n % 256 / 32 = 4
      · rw [if_pos o4] at hk; simp only at hk; omega
      rw [if_neg o4] at hk hw hh
      by_cases o5 : p.n % 256 = 160
      · rw [if_pos o5] at hk; simp only at hk; omega
      rw [if_neg o5] at hk hw hh
      simp only at hk hw hh
      omega
  · rw [if_neg k0] at hb
    simp [back, dec] at hb

theorem and31_any (x : Int) : Go.bits .and .i64 x 31 = x % 32 := by
  have h : (BitVec.ofInt 64 x).toNat &&& 31 = (x % 32).toNat := by
    rw [show (31 : Nat) = 2 ^ 5 - 1 from rfl, Nat.and_two_pow_sub_one_eq_mod, BitVec.toNat_ofInt]
    omega
  simp only [bits, BitVec.toNat_and]
  show IntKind.i64.wrap (((BitVec.ofInt 64 x).toNat &&& 31 : Nat) : Int) = _
  rw [h, IntKind.wrap_i64]
  omega
end Go.Proofs.Ytdkdeiofjoccnaa.Pick
