/- Decode and Encode undo each other: the plain law. -/
import Derived.Test.YtdkdeiofjoccnaaEncWalk
namespace Go.Proofs.Ytdkdeiofjoccnaa.Pick
open Go.RowKit Go.Proofs.Ytdkdeiofjoccnaa.Mem

theorem dec_double : ∀ l : List UInt8, l.length ≤ 2 * (dec l).length
  | [] => by simp [dec]
  | [b] => by simp [dec]
  | b :: c :: r => by
    have h1 := dec_double r
    have h2 := dec_double (c :: r)
    simp only [dec]
    split <;> simp only [List.length_cons] at * <;> omega

theorem dec_nil {l : List UInt8} (h : dec l = []) : l = [] := by
  have := dec_double l
  rw [h] at this
  exact List.eq_nil_of_length_eq_zero (by simpa using this)

theorem bytes_last (b : Nat) (h : b < 256) : bytesOf (one b) true = [(b : Int)] := by
  have key : ∀ m : Fin 256, bytesOf (one ((m : Nat) : Int)) true = [((m : Nat) : Int)] := by decide +kernel
  exact key ⟨b, h⟩
theorem bytes_mid (b : Nat) (h : b < 256) (h1 : ¬ (b : Int) / 32 = 1) : bytesOf (one b) false = [(b : Int)] := by
  have key : ∀ m : Fin 256, ¬ ((m : Nat) : Int) / 32 = 1 → bytesOf (one ((m : Nat) : Int)) false = [((m : Nat) : Int)] := by decide +kernel
  exact key ⟨b, h⟩ h1
theorem bytes_two (q m : Int) (last : Bool) : bytesOf ⟨2, q, m⟩ last = if 0 ≤ q ∧ q ≤ 31 ∧ 1 ≤ m ∧ m ≤ 256 then [32 + q, m - 1] else [] := rfl
theorem enc_cons {p : Pk} {r : List Pk} {x : List Int} (h : bytesOf p r.isEmpty = x) (hx : x ≠ []) : enc (p :: r) = (enc r).map (x ++ ·) := by
  subst h
  simp only [enc, if_neg hx]
theorem bytes_run (b c : Nat) (h1 : (b : Int) / 32 = 1) (hc : c < 256) (last : Bool) : bytesOf ⟨2, (b : Int) % 32, (c : Int) + 1⟩ last = [(b : Int), (c : Int)] := by
  rw [bytes_two, if_pos ⟨by omega, by omega, by omega, by omega⟩]
  rw [show (32 : Int) + (b : Int) % 32 = b from by omega, show (c : Int) + 1 - 1 = c from by omega]

theorem enc_dec : ∀ l : List UInt8, enc (dec l) = some (l.map fun b => (b.toNat : Int))
  | [] => rfl
  | [b] => by
    have h : bytesOf (one b.toNat) ([] : List Pk).isEmpty = [(b.toNat : Int)] := bytes_last _ b.toNat_lt
    show enc [one b.toNat] = _
    rw [enc_cons h (by simp)]
    rfl
  | b :: c :: r => by
    have h1 := enc_dec r
    have h2 := enc_dec (c :: r)
    by_cases hb : (b.toNat : Int) / 32 = 1
    · rw [dec_pair hb]
      rw [enc_cons (bytes_run _ _ hb c.toNat_lt _) (by simp), h1]
      simp
    · have hne : (dec (c :: r)).isEmpty = false := by
        cases h : dec (c :: r) with
        | nil => exact absurd (dec_nil h) (by simp)
        | cons _ _ => rfl
      rw [dec_single (.inl hb)]
      have h : bytesOf (one b.toNat) (dec (c :: r)).isEmpty = [(b.toNat : Int)] := by rw [hne]; exact bytes_mid _ b.toNat_lt hb
      rw [enc_cons h (by simp), h2]
      simp

theorem strOf_bytes (s : ByteArray) : strOfNums (s.data.toList.map fun b => (b.toNat : Int)) = s := by
  apply ByteArray.ext
  apply Array.toList_inj.1
  rw [strOfNums_data, List.map_map]
  conv => rhs; rw [← List.map_id s.data.toList]
  apply List.map_congr_left
  intro x _
  simp

theorem answer_dec (s : ByteArray) : answer (dec s.data.toList) = .tuple #[.string s, .int .i64 0] := by
  unfold answer
  rw [enc_dec]
  show Value.tuple #[.string (strOfNums _), _] = _
  rw [strOf_bytes]

theorem bytes_shape (p : Pk) (last : Bool) (h : bytesOf p last ≠ []) :
    (∃ x, bytesOf p last = [x] ∧ 0 ≤ x ∧ x < 256 ∧ (¬ x / 32 = 1 ∨ last = true) ∧ back [x] = [p]) ∨ (∃ x y, bytesOf p last = [x, y] ∧ 32 ≤ x ∧ x < 64 ∧ 0 ≤ y ∧ y < 256 ∧ back [x, y] = [p]) := by
  obtain ⟨h1, h2, -⟩ := try_yes p last h
  rw [h1] at h2
  clear h1
  revert h h2
  unfold bytesOf
  intro h h2
  by_cases k1 : p.k = 1
  · rw [if_pos k1] at h h2 ⊢
    by_cases c : 0 ≤ p.who ∧ p.who ≤ 31 ∧ p.n = 1
    · rw [if_pos c] at h2 ⊢; exact .inl ⟨_, rfl, by omega, by omega, .inl (by omega), h2⟩
    · rw [if_neg c] at h; exact absurd rfl h
  rw [if_neg k1] at h h2 ⊢
  by_cases k2 : p.k = 2
  · rw [if_pos k2] at h h2 ⊢
    by_cases c : 0 ≤ p.who ∧ p.who ≤ 31 ∧ 1 ≤ p.n ∧ p.n ≤ 256
    · rw [if_pos c] at h2 ⊢; exact .inr ⟨_, _, rfl, by omega, by omega, by omega, by omega, h2⟩
    · rw [if_neg c] at h; exact absurd rfl h
  rw [if_neg k2] at h h2 ⊢
  by_cases k3 : p.k = 3
  · rw [if_pos k3] at h h2 ⊢
    by_cases c : 0 ≤ p.who ∧ p.who ≤ 31 ∧ p.n = 1
    · rw [if_pos c] at h2 ⊢; exact .inl ⟨_, rfl, by omega, by omega, .inl (by omega), h2⟩
    · rw [if_neg c] at h; exact absurd rfl h
  rw [if_neg k3] at h h2 ⊢
  by_cases k4 : p.k = 4
  · rw [if_pos k4] at h h2 ⊢
    by_cases c : p.who = 0 ∧ 1 ≤ p.n ∧ p.n ≤ 32
    · rw [if_pos c] at h2 ⊢; exact .inl ⟨_, rfl, by omega, by omega, .inl (by omega), h2⟩
    · rw [if_neg c] at h; exact absurd rfl h
  rw [if_neg k4] at h h2 ⊢
  by_cases k5 : p.k = 5
  · rw [if_pos k5] at h h2 ⊢
    by_cases c : 0 ≤ p.who ∧ p.who ≤ 31 ∧ p.n = 1
    · rw [if_pos c] at h2 ⊢; exact .inl ⟨_, rfl, by omega, by omega, .inl (by omega), h2⟩
    · rw [if_neg c] at h; exact absurd rfl h
  rw [if_neg k5] at h h2 ⊢
  by_cases k6 : p.k = 6
  · rw [if_pos k6] at h h2 ⊢
    by_cases c : p.who = 0 ∧ p.n = 0
    · rw [if_pos c] at h2 ⊢; exact .inl ⟨_, rfl, by omega, by omega, .inl (by omega), h2⟩
    · rw [if_neg c] at h; exact absurd rfl h
  rw [if_neg k6] at h h2 ⊢
  by_cases k0 : p.k = 0
  · rw [if_pos k0] at h h2 ⊢
    by_cases c : p.who = 0 ∧ 161 ≤ p.n ∧ p.n ≤ 255
    · rw [if_pos c] at h2 ⊢; exact .inl ⟨_, rfl, by omega, by omega, .inl (by omega), h2⟩
    · rw [if_neg c] at h h2 ⊢
      by_cases d : p.who = 0 ∧ 32 ≤ p.n ∧ p.n ≤ 63 ∧ last = true
      · rw [if_pos d] at h2 ⊢; exact .inl ⟨_, rfl, by omega, by omega, .inr d.2.2.2, h2⟩
      · rw [if_neg d] at h; exact absurd rfl h
  · rw [if_neg k0] at h; exact absurd rfl h

theorem back_cons (x : Int) (ys : List Int) (h0 : 0 ≤ x) (h1 : x < 256) (h : ¬ x / 32 = 1 ∨ ys = []) : back (x :: ys) = one x :: back ys := by
  unfold back
  rw [List.map_cons, dec_single, toNat_byte x h0 h1]
  rw [toNat_byte x h0 h1]
  rcases h with h | rfl
  · exact .inl h
  · exact .inr rfl
theorem back_cons2 (x y : Int) (ys : List Int) (h0 : 32 ≤ x) (h1 : x < 64) (g0 : 0 ≤ y) (g1 : y < 256) : back (x :: y :: ys) = ⟨2, x % 32, y + 1⟩ :: back ys := by
  unfold back
  rw [List.map_cons, List.map_cons, dec_pair, toNat_byte x (by omega) (by omega), toNat_byte y g0 g1]
  rw [toNat_byte x (by omega) (by omega)]
  omega

/-- picks that have a schedule are read back -/
theorem back_enc : ∀ (l : List Pk) (xs : List Int), enc l = some xs → back xs = l
  | [], xs, h => by
    simp only [enc, Option.some.injEq] at h
    subst h
    rfl
  | p :: r, xs, h => by
    simp only [enc] at h
    by_cases hb : bytesOf p r.isEmpty = []
    · rw [if_pos hb] at h; cases h
    rw [if_neg hb] at h
    obtain ⟨ys, hy, rfl⟩ := Option.map_eq_some_iff.1 h
    have ih := back_enc r ys hy
    rcases bytes_shape p _ hb with ⟨x, e, x0, x1, hx, hbk⟩ | ⟨x, y, e, x0, x1, y0, y1, hbk⟩
    · rw [e]
      have hh : ¬ x / 32 = 1 ∨ ys = [] := by
        rcases hx with hx | hx
        · exact .inl hx
        · obtain rfl : r = [] := List.isEmpty_iff.1 hx
          simp only [enc, Option.some.injEq] at hy
          exact .inr hy.symm
      rw [back_one x x0 x1] at hbk
      show back (x :: ys) = _
      rw [back_cons x ys x0 x1 hh, ih, (List.cons.inj hbk).1]
    · rw [e]
      rw [back_two x y x0 x1 y0 y1] at hbk
      show back (x :: y :: ys) = _
      rw [back_cons2 x y ys x0 x1 y0 y1, ih, (List.cons.inj hbk).1]

theorem enc_length : ∀ (l : List Pk) (xs : List Int), enc l = some xs → xs.length ≤ 2 * l.length
  | [], xs, h => by
    simp only [enc, Option.some.injEq] at h
    subst h
    simp
  | p :: r, xs, h => by
    simp only [enc] at h
    by_cases hb : bytesOf p r.isEmpty = []
    · rw [if_pos hb] at h; cases h
    rw [if_neg hb] at h
    obtain ⟨ys, hy, rfl⟩ := Option.map_eq_some_iff.1 h
    have ih := enc_length r ys hy
    have := try_length p
    rw [(try_yes p _ hb).1] at this
    simp only [List.length_append, List.length_cons]
    omega
end Go.Proofs.Ytdkdeiofjoccnaa.Pick
