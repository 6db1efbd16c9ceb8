/- stratalaw03.even and chain: the walks. -/
import Derived.Test.YtdkdeiofjoccnaaAdds
namespace Go.Proofs.Ytdkdeiofjoccnaa.Lit
open Go.RowKit Go.Proofs.Ytdkdeiofjoccnaa.Mem Go.Proofs.Ytdkdeiofjoccnaa.Ar Go.Proofs.Ytdkdeiofjoccnaa.Un
set_option linter.unusedVariables false
set_option maxRecDepth 100000

def fsts (L : List (Int × Int)) : List Value := L.map fun p => .int .u64 p.1
def snds (L : List (Int × Int)) : List Value := L.map fun p => .int .u64 p.2
theorem fsts_len (L : List (Int × Int)) : (fsts L).length = L.length := by simp [fsts]
theorem snds_len (L : List (Int × Int)) : (snds L).length = L.length := by simp [snds]

theorem evenZ_snoc (x : Int) (L : List (Int × Int)) (k : Nat) (hk : k < L.length) : evenZ x (L.take (k + 1)) = evenZ x (L.take k) + ((if L[k].2 = x then (1 : Int) else 0) - (if L[k].1 = x then 1 else 0)) := by
  unfold evenZ
  rw [List.take_succ_eq_append_getElem hk, List.map_append, List.sum_append]
  simp
theorem evenZ_small (x : Int) (L : List (Int × Int)) : -(L.length : Int) ≤ evenZ x L ∧ evenZ x L ≤ L.length := by
  induction L with
  | nil => simp [evenZ]
  | cons p l ih =>
    simp only [evenZ, List.map_cons, List.sum_cons, List.length_cons] at ih ⊢
    split <;> split <;> omega

set_option maxHeartbeats 1000000 in
theorem even (x b z : Int) (L : List (Int × Int)) (hL : L.length ≤ 100) (fa la : Option Addr) (fc lc : Nat) (w : World) (hf : Sees w fa (fsts L)) (hl : Sees w la (snds L)) (h : evenZ x L + (if x = b then 1 else 0) - (if x = z then 1 else 0) = 0) :
    Calls Try.prog 69 #[.int .u64 x, .int .u64 b, .int .u64 z, .slice fa L.length fc, .slice la L.length lc] w fun e w' => e = .returned (.bool true) ∧ w = w' := by
  obtain ⟨n, hn⟩ : ∃ n, n = L.length := ⟨_, rfl⟩
  rw [← hn]
  rw [← hn] at hL
  have HN := Lib.hid hn
  have HF := Lib.hid hf
  have HL := Lib.hid hl
  have HH := Lib.hid h
  clear hn hf hl h
  go_enter Try.func69, Try.ntmps69
  go_wp2_with fail
  go_loopw [11, 12] (fun v i wr => ∃ (k : Nat) (z : Int), v = .int .i64 z ∧ z = evenZ x (L.take k) ∧ i = .int .i64 k ∧ k ≤ n ∧ wr = w) (fun _ i _ => n - (intOf i).toNat)
  case atStart => exact ⟨0, 0, rfl, rfl, rfl, Nat.zero_le _, rfl⟩
  case round =>
    obtain ⟨k, zz, rfl, hz, rfl, hk, rfl⟩ := hrel
    by_cases hlt : k < n
    · have hkl : k < L.length := by have := HN.out; omega
      obtain ⟨g, o, rfl, x0⟩ := HF.out.at_ k (by rw [fsts_len]; exact hkl)
      obtain ⟨g', o', rfl, x1⟩ := HL.out.at_ k (by rw [snds_len]; exact hkl)
      simp only [fsts, snds, List.getElem_map] at x0 x1
      obtain ⟨p, hp⟩ : ∃ p, p = L[k] := ⟨_, rfl⟩
      rw [← hp] at x0 x1
      have hsn := evenZ_snoc x L k hkl
      rw [← hp, ← hz] at hsn
      have hsm := evenZ_small x (L.take k)
      rw [← hz, List.length_take] at hsm
      have HS := Lib.hid (And.intro hsn hsm)
      obtain ⟨p1, p2⟩ := p
      clear hp hsn hsm hz hkl
      by_cases h1 : p1 = x
      · by_cases h2 : p2 = x
        · have b1 : (p1 == x) = true := by simpa using h1
          have b2 : (p2 == x) = true := by simpa using h2
          have HX := Lib.hid (And.intro h1 h2)
          clear h1 h2
          go_wp2_with fail
          go_roundw
          case rel =>
            refine ⟨k + 1, _, rfl, ?_, by go_num, hlt, trivial⟩
            obtain ⟨h3, h4, h5⟩ := HS.out
            rw [h3, if_pos HX.out.2, if_pos HX.out.1, IntWalk.wrap64_in (zz - 1) (by omega), IntWalk.wrap64_in _ (by omega)]
            omega
          case measure => simp [intOf]; omega
        · have b1 : (p1 == x) = true := by simpa using h1
          have b2 : (p2 == x) = false := by simpa using h2
          have HX := Lib.hid (And.intro h1 h2)
          clear h1 h2
          go_wp2_with fail
          go_roundw
          case rel =>
            refine ⟨k + 1, _, rfl, ?_, by go_num, hlt, trivial⟩
            obtain ⟨h3, h4, h5⟩ := HS.out
            rw [h3, if_neg HX.out.2, if_pos HX.out.1, IntWalk.wrap64_in (zz - 1) (by omega)]
            omega
          case measure => simp [intOf]; omega
      · by_cases h2 : p2 = x
        · have b1 : (p1 == x) = false := by simpa using h1
          have b2 : (p2 == x) = true := by simpa using h2
          have HX := Lib.hid (And.intro h1 h2)
          clear h1 h2
          go_wp2_with fail
          go_roundw
          case rel =>
            refine ⟨k + 1, _, rfl, ?_, by go_num, hlt, trivial⟩
            obtain ⟨h3, h4, h5⟩ := HS.out
            rw [h3, if_pos HX.out.2, if_neg HX.out.1, IntWalk.wrap64_in (zz + 1) (by omega)]
            omega
          case measure => simp [intOf]; omega
        · have b1 : (p1 == x) = false := by simpa using h1
          have b2 : (p2 == x) = false := by simpa using h2
          have HX := Lib.hid (And.intro h1 h2)
          clear h1 h2
          go_wp2_with fail
          go_roundw
          case rel =>
            refine ⟨k + 1, _, rfl, ?_, by go_num, hlt, trivial⟩
            obtain ⟨h3, h4, h5⟩ := HS.out
            rw [h3, if_neg HX.out.2, if_neg HX.out.1]
            omega
          case measure => simp [intOf]; omega
    · have hkn : k = n := by omega
      have hz2 : zz + (if x = b then 1 else 0) - (if x = z then 1 else 0) = 0 := by
        have h3 := HH.out
        rw [hz, List.take_of_length_le (by have := HN.out; omega)]
        exact h3
      have hsm : -100 ≤ zz ∧ zz ≤ 100 := by
        have := evenZ_small x (L.take k)
        rw [← hz, List.length_take] at this
        omega
      clear hkn hz
      by_cases h1 : x = b
      · have b1 : (x == b) = true := by simpa using h1
        rw [if_pos h1] at hz2
        have HB1 := Lib.hid h1
        clear h1
        have r1 : wrap64 (zz + 1) = zz + 1 := IntWalk.wrap64_in _ (by omega)
        by_cases h2 : x = z
        · have b2 : (x == z) = true := by simpa using h2
          rw [if_pos h2] at hz2
          obtain rfl : zz = 0 := by omega
          have HB2 := Lib.hid h2
          clear h2 HH
          go_wp2_with fail
          go_ret
          exact ⟨rfl, rfl⟩
        · have b2 : (x == z) = false := by simpa using h2
          rw [if_neg h2] at hz2
          obtain rfl : zz = -1 := by omega
          have HB2 := Lib.hid h2
          clear h2 HH
          go_wp2_with fail
          go_ret
          exact ⟨rfl, rfl⟩
      · have b1 : (x == b) = false := by simpa using h1
        rw [if_neg h1] at hz2
        have HB1 := Lib.hid h1
        clear h1
        by_cases h2 : x = z
        · have b2 : (x == z) = true := by simpa using h2
          rw [if_pos h2] at hz2
          obtain rfl : zz = 1 := by omega
          have HB2 := Lib.hid h2
          clear h2 HH
          go_wp2_with fail
          go_ret
          exact ⟨rfl, rfl⟩
        · have b2 : (x == z) = false := by simpa using h2
          rw [if_neg h2] at hz2
          obtain rfl : zz = 0 := by omega
          have HB2 := Lib.hid h2
          clear h2 HH
          go_wp2_with fail
          go_ret
          exact ⟨rfl, rfl⟩
end Go.Proofs.Ytdkdeiofjoccnaa.Lit

/- stratalaw03.chain -/
namespace Go.Proofs.Ytdkdeiofjoccnaa.Lit
open Go.RowKit Go.Proofs.Ytdkdeiofjoccnaa.Mem Go.Proofs.Ytdkdeiofjoccnaa.Ar Go.Proofs.Ytdkdeiofjoccnaa.Un
set_option linter.unusedVariables false
set_option maxRecDepth 100000

theorem infoBool : (Try.prog.info? 4).map (fun i => (i.zero, i.size, i.bytes)) = some (some (.bool false), 1, 1) := by kernel_rfl

def isF : Value → Bool
  | .bool false => true
  | _ => false
/-- how many are not reached -/
def falses (o : Option Obj) : Nat := match o with
  | some (.cells a _ _) => (a.toList.filter isF).length
  | _ => 0
def boolRow (r : List Bool) : Obj := .cells (r.map .bool).toArray 4 (0, 0)
def notYet (r : List Bool) : Nat := (r.filter (!·)).length
theorem falses_row (r : List Bool) : falses (some (boolRow r)) = notYet r := by
  show ((r.map Value.bool).filter isF).length = (r.filter (!·)).length
  induction r with
  | nil => rfl
  | cons x r ih =>
    cases x
    · rw [List.map_cons, List.filter_cons_of_pos (by rfl), List.filter_cons_of_pos (by rfl), List.length_cons, List.length_cons, ih]
    · rw [List.map_cons, List.filter_cons_of_neg (by simp [isF]), List.filter_cons_of_neg (by simp), ih]
theorem notYet_set {r : List Bool} {i : Nat} (hi : i < r.length) (h : r.getD i false = false) : notYet (r.set i true) + 1 = notYet r := by
  induction r generalizing i with
  | nil => simp at hi
  | cons x r ih =>
    cases i with
    | zero =>
      have : x = false := by simpa [List.getD_eq_getElem?_getD] using h
      subst this
      simp [notYet]
    | succ i =>
      have := ih (i := i) (by simpa using hi) (by simpa [List.getD_eq_getElem?_getD] using h)
      unfold notYet at this ⊢
      cases x <;> simp only [List.set_cons_succ, List.filter_cons, Bool.not_false, Bool.not_true, if_true, List.length_cons, Bool.false_eq_true, if_false] at this ⊢ <;> omega
def boolOf : Value → Bool
  | .bool b => b
  | _ => false
/-- nothing more can be reached -/
def Shut (b : Int) (L : List (Int × Int)) (r : List Bool) (q : Nat) : Prop := ∀ i, i < q → r.getD i false = false → okB b L r i L.length = false

theorem sum_take (L : List (Int × Int)) (k : Nat) (hk : k < L.length) : ((L.take (k + 1)).map fun p => p.2 - p.1).sum = ((L.take k).map fun p => p.2 - p.1).sum + (L[k].2 - L[k].1) := by
  rw [List.take_succ_eq_append_getElem hk, List.map_append, List.sum_append]
  simp

theorem bool_cell {w : World} {rb : Nat} {r : List Bool} (h : w.heap[rb]? = some (boolRow r)) {k : Nat} (hk : k < r.length) : w.cell? ⟨rb, k, none⟩ = some (.bool (r.getD k false)) := by
  rw [cell_of h, List.getElem?_toArray, List.getElem?_map, List.getElem?_eq_getElem hk, List.getD_eq_getElem?_getD, List.getElem?_eq_getElem hk]
  rfl
theorem bool_set {w : World} {rb : Nat} {r : List Bool} (h : w.heap[rb]? = some (boolRow r)) (k : Nat) : (w.setCell ⟨rb, k, none⟩ (.bool true)).heap[rb]? = some (boolRow (r.set k true)) := by
  have h2 := set_same h k (.bool true)
  rw [h2]
  unfold boolRow
  simp [List.map_set]

set_option maxHeartbeats 4000000 in
theorem chain (b z : Int) (hb : inW b) (hz : inW z) (L : List (Int × Int)) (hL : L.length ≤ 40) (fa la : Option Addr) (fc lc : Nat) (w : World) (hf : Sees w fa (fsts L)) (hl : Sees w la (snds L)) (hc : Chained b L z) :
    Calls Try.prog 49 #[.int .u64 b, .slice fa L.length fc, .slice la L.length lc] w fun e w' => e = .returned (.bool true) ∧ Keep [] w w' := by
  obtain ⟨n, hn⟩ : ∃ n, n = L.length := ⟨_, rfl⟩
  rw [← hn]
  rw [← hn] at hL
  have HN := Lib.hid hn
  have HF := Lib.hid hf
  have HL := Lib.hid hl
  have HC := Lib.hid hc
  have HB := Lib.hid hb
  have HZ := Lib.hid hz
  have mk := Har.make_row 158 4 _ (.bool false) 1 Try.underlying158 infoBool rfl n (by omega) (by omega)
  clear hn hf hl hc hb hz
  go_enter Try.func49, Try.ntmps49
  go_wp2_with fail
  obtain ⟨rb, hrb⟩ : ∃ rb, rb = w.heap.size := ⟨_, rfl⟩
  obtain ⟨w1, hw1⟩ : ∃ w1, w1 = w.alloc (.cells (madeCells #[.bool false] n) 4) := ⟨_, rfl⟩
  have B1 := Lib.hid (show w1.heap[rb]? = some (boolRow (List.replicate n false)) by
    rw [hw1, hrb, Har.made_list]
    unfold boolRow
    rw [List.map_replicate]
    exact alloc_new _ _)
  have K1 := Lib.hid (show Keep [] w w1 by rw [hw1]; exact (Keep.refl _ _).alloc _)
  rw [← hw1, ← hrb]
  have RB := Lib.hid (show w.heap.size ≤ rb by rw [hrb]; exact Nat.le_refl _)
  clear hw1 hrb mk
  go_loopw [8] (fun ag wr => ∃ (r : List Bool) (a : Bool), ag = .bool a ∧ r.length = n ∧ wr.heap[rb]? = some (boolRow r) ∧ Keep [] w wr ∧ (a = false → Shut b L r n)) (fun ag wr => 2 * falses wr.heap[rb]? + (boolOf ag).toNat)
  case atStart => exact ⟨_, true, rfl, by simp, B1.out, K1.out, fun h => by cases h⟩
  case round =>
    obtain ⟨r, ag, rfl, hr, hB, hK, hS⟩ := hrel
    have BR := Lib.hid hB
    have KR := Lib.hid hK
    have SR := Lib.hid hS
    have RL := Lib.hid hr
    clear hB hK hS hr
    cases ag
    · -- nothing more was reached: it is all reached
      have hall := Lib.hid (HC.out.closed (r := r) (fun i hi => SR.out rfl i (by rw [HN.out]; exact hi)))
      obtain ⟨wq, rfl⟩ : ∃ wq, wq = wr := ⟨_, rfl⟩
      go_wp2_with fail
      go_loopw [12, 13] (fun ev i wx => ∃ (k : Nat) (v : Int), ev = .int .u64 v ∧ v = uw (b + ((L.take k).map fun p => p.2 - p.1).sum) ∧ i = .int .i64 k ∧ k ≤ n ∧ Keep [] wq wx) (fun _ i _ => n - (intOf i).toNat)
      case atStart => exact ⟨0, b, rfl, by simp only [List.take_zero, List.map_nil, List.sum_nil, Int.add_zero]; exact (uw_of HB.out).symm, rfl, Nat.zero_le _, Keep.refl _ _⟩
      case round =>
        obtain ⟨k, v, rfl, hv, rfl, hk, hK⟩ := hrel
        have KX := Lib.hid hK
        have HV := Lib.hid hv
        clear hK hv
        by_cases hlt : k < n
        · have hkl : k < L.length := by have := HN.out; omega
          obtain ⟨g, o, rfl, x0⟩ := HF.out.at_ k (by rw [fsts_len]; exact hkl)
          obtain ⟨g', o', rfl, x1⟩ := HL.out.at_ k (by rw [snds_len]; exact hkl)
          simp only [fsts, snds, List.getElem_map] at x0 x1
          have hst := sum_take L k hkl
          obtain ⟨p, hp⟩ : ∃ p, p = L[k] := ⟨_, rfl⟩
          rw [← hp] at x0 x1 hst
          have HST := Lib.hid hst
          obtain ⟨p1, p2⟩ := p
          have x2 := bool_cell BR.out (show k < r.length by rw [RL.out]; exact hlt)
          rw [hall.out k hkl] at x2
          replace x0 := KX.out.cell (KR.out.cell x0 (by simp)) (by simp)
          replace x1 := KX.out.cell (KR.out.cell x1 (by simp)) (by simp)
          replace x2 := KX.out.cell x2 (by simp)
          clear hp hst hkl
          go_wp2_with fail
          go_quiet (fail)
          go_wp2_with fail
          go_roundw
          case rel =>
            refine ⟨k + 1, _, rfl, ?_, by go_num, hlt, KX.out.drewN _⟩
            rw [HST.out, HV.out]
            show uw (uw (uw _ + p2) - p1) = _
            simp only [uw_mod]
            omega
          case measure => simp [intOf]; omega
        · have hkn : k = n := by omega
          have hv2 : v = z := by
            rw [HV.out, List.take_of_length_le (by have := HN.out; omega), ← HC.out.sum]
            exact uw_of HZ.out
          subst hv2
          obtain ⟨wo, rfl⟩ : ∃ wo, wo = wr := ⟨_, rfl⟩
          clear hkn HV
          go_wp2_with fail
          go_loopw [14] (fun i wx => ∃ k : Nat, i = .int .i64 k ∧ k ≤ n ∧ Keep [] wo wx) (fun i _ => n - (intOf i).toNat)
          case atStart => exact ⟨0, rfl, Nat.zero_le _, Keep.refl _ _⟩
          case round =>
            obtain ⟨k, rfl, hk, hK⟩ := hrel
            have KY := Lib.hid ((KR.out.trans KX.out).trans hK)
            have KZ := Lib.hid hK
            clear hK
            by_cases hlt : k < n
            · have hkl : k < L.length := by have := HN.out; omega
              have F9 := Lib.hid (HF.out.keep0 KY.out)
              have L9 := Lib.hid (HL.out.keep0 KY.out)
              obtain ⟨g, o, hfa, x0⟩ := F9.out.at_ k (by rw [fsts_len]; exact hkl)
              obtain ⟨g', o', hla, x1⟩ := L9.out.at_ k (by rw [snds_len]; exact hkl)
              simp only [fsts, snds, List.getElem_map] at x0 x1
              obtain ⟨p, hp⟩ : ∃ p, p = L[k] := ⟨_, rfl⟩
              rw [← hp] at x0 x1
              obtain ⟨p1, p2⟩ := p
              have E1 := Lib.hid (even p1 b v L (by have := HN.out; omega) fa la fc lc wr F9.out L9.out (HC.out.even p1))
              have E2 := Lib.hid (even p2 b v L (by have := HN.out; omega) fa la fc lc wr F9.out L9.out (HC.out.even p2))
              rw [← HN.out, hfa, hla] at E1 E2
              subst hfa hla
              clear hp hkl
              go_wp2_with fail
              refine E1.out.mono ?_
              rintro e w8 ⟨rfl, rfl⟩
              go_wp2_with fail
              refine E2.out.mono ?_
              rintro e w8 ⟨rfl, rfl⟩
              go_wp2_with fail
              go_roundw
              case rel => exact ⟨k + 1, by go_num, hlt, KZ.out⟩
              case measure => simp [intOf]; omega
            · go_wp2_with fail
              go_ret
              exact ⟨rfl, KY.out⟩
    · obtain ⟨wq, rfl⟩ : ∃ wq, wq = wr := ⟨_, rfl⟩
      go_wp2_with fail
      go_loopw [8, 9] (fun ag i wx => ∃ (q : Nat) (r2 : List Bool) (a2 : Bool), ag = .bool a2 ∧ i = .int .i64 q ∧ q ≤ n ∧ r2.length = n ∧ wx.heap[rb]? = some (boolRow r2) ∧ Keep [] w wx ∧ notYet r2 ≤ notYet r ∧ (a2 = false → r2 = r ∧ Shut b L r q) ∧ (a2 = true → notYet r2 < notYet r)) (fun _ i _ => n - (intOf i).toNat)
      case atStart => exact ⟨0, r, false, rfl, rfl, Nat.zero_le _, RL.out, BR.out, KR.out, Nat.le_refl _, fun _ => ⟨rfl, fun i hi => absurd hi (Nat.not_lt_zero _)⟩, fun h => by cases h⟩
      case round =>
        obtain ⟨q, r2, a2, rfl, rfl, hq, hr2, hB, hK, hny, hf, ht⟩ := hrel
        have BX := Lib.hid hB
        have KX := Lib.hid hK
        have R2 := Lib.hid hr2
        have AX := Lib.hid (And.intro hny (And.intro hf ht))
        clear hB hK hny hf ht hr2
        by_cases hlt : q < n
        · have x2 := bool_cell BX.out (show q < r2.length by rw [R2.out]; exact hlt)
          cases hrq : r2.getD q false
          · rw [hrq] at x2
            have HRQ := Lib.hid hrq
            have hql : q < L.length := by have := HN.out; omega
            obtain ⟨g, o, hfa, x0⟩ := (HF.out.keep0 KX.out).at_ q (by rw [fsts_len]; exact hql)
            simp only [fsts, List.getElem_map] at x0
            have hqg : L[q].1 = (L.getD q (0, 0)).1 := by rw [List.getD_eq_getElem?_getD, List.getElem?_eq_getElem hql]; rfl
            rw [hqg] at x0
            obtain ⟨pq, hpq⟩ : ∃ pq, pq = (L.getD q (0, 0)).1 := ⟨_, rfl⟩
            rw [← hpq] at x0
            obtain ⟨ob, hob⟩ : ∃ ob, ob = okB b L r2 q 0 := ⟨_, rfl⟩
            have hb0 : (pq == b) = ob := by rw [hob, hpq]; rfl
            have HPQ := Lib.hid (And.intro hpq hob)
            obtain ⟨wo, rfl⟩ : ∃ wo, wo = wr := ⟨_, rfl⟩
            subst hfa
            clear hrq hql hqg hpq hob BR KR
            go_wp2_with fail
            go_loopw [10, 11] (fun ok j wy => ∃ (m : Nat) (o2 : Bool), ok = .bool o2 ∧ o2 = okB b L r2 q m ∧ j = .int .i64 m ∧ m ≤ n ∧ Keep [] wo wy) (fun _ j _ => n - (intOf j).toNat)
            case atStart => exact ⟨0, _, rfl, HPQ.out.2, rfl, Nat.zero_le _, Keep.refl _ _⟩
            case round =>
              obtain ⟨m, o2, rfl, ho2, rfl, hm, hK⟩ := hrel
              have KY := Lib.hid hK
              have HO := Lib.hid ho2
              clear hK ho2
              by_cases hlm : m < n
              · have hml : m < L.length := by have := HN.out; omega
                have x3 := KY.out.cell (bool_cell BX.out (show m < r2.length by rw [R2.out]; exact hlm)) (by simp)
                obtain ⟨g', o', hla, x1⟩ := (HL.out.keep0 (KX.out.trans KY.out)).at_ m (by rw [snds_len]; exact hml)
                simp only [snds, List.getElem_map] at x1
                have hmg : L[m].2 = (L.getD m (0, 0)).2 := by rw [List.getD_eq_getElem?_getD, List.getElem?_eq_getElem hml]; rfl
                rw [hmg] at x1
                obtain ⟨pm, hpm⟩ : ∃ pm, pm = (L.getD m (0, 0)).2 := ⟨_, rfl⟩
                rw [← hpm] at x1
                have hok : okB b L r2 q (m + 1) = (o2 || (r2.getD m false && pm == pq)) := by
                  rw [HO.out, hpm, HPQ.out.1]; rfl
                have HOK := Lib.hid hok
                replace x0 := KY.out.cell x0 (by simp)
                subst hla
                clear hml hmg hpm hok
                cases hrm : r2.getD m false
                · rw [hrm] at x3
                  have HRM := Lib.hid hrm
                  clear hrm
                  go_wp2_with fail
                  go_quiet (fail)
                  go_wp2_with fail
                  go_roundw
                  case rel => exact ⟨m + 1, o2, rfl, by rw [HOK.out, HRM.out]; simp, by go_num, hlm, KY.out.drewN _⟩
                  case measure => simp [intOf]; omega
                · rw [hrm] at x3
                  have HRM := Lib.hid hrm
                  clear hrm
                  cases hpe : (pm == pq)
                  · have HPE := Lib.hid hpe
                    go_wp2_with fail
                    go_quiet (fail)
                    go_wp2_with fail
                    go_roundw
                    case rel => exact ⟨m + 1, o2, rfl, by rw [HOK.out, HPE.out]; simp, by go_num, hlm, KY.out.drewN _⟩
                    case measure => simp [intOf]; omega
                  · have HPE := Lib.hid hpe
                    go_wp2_with fail
                    go_quiet (fail)
                    go_wp2_with fail
                    go_roundw
                    case rel => exact ⟨m + 1, true, rfl, by rw [HOK.out, HRM.out, HPE.out]; simp, by go_num, hlm, KY.out.drewN _⟩
                    case measure => simp [intOf]; omega
              · have hmn : m = n := by omega
                have hok : o2 = okB b L r2 q L.length := by rw [HO.out, hmn, HN.out]
                have HOK := Lib.hid hok
                have B9 := Lib.hid (KY.out.old BX.out (by simp))
                have K9 := Lib.hid (KX.out.trans KY.out)
                clear hmn hok HO
                cases o2
                · go_wp2_with fail
                  go_roundw
                  case rel =>
                    refine ⟨q + 1, r2, a2, rfl, by go_num, hlt, R2.out, B9.out, K9.out, AX.out.1, fun h => ?_, AX.out.2.2⟩
                    obtain ⟨h1, h2⟩ := AX.out.2.1 h
                    refine ⟨h1, fun i hi hri => ?_⟩
                    by_cases hiq : i = q
                    · subst hiq
                      rw [← h1]
                      exact HOK.out.symm
                    · exact h2 i (by omega) hri
                  case measure => simp [intOf]; omega
                · have yf := free_of B9.out
                  have y0 := bool_cell B9.out (show q < r2.length by rw [R2.out]; exact hlt)
                  have hyq : r2.getD q false = false := HRQ.out
                  rw [hyq] at y0
                  clear hyq
                  go_wp2_with fail
                  go_roundw
                  case rel =>
                    have hns := notYet_set (r := r2) (i := q) (by rw [R2.out]; exact hlt) HRQ.out
                    have hle := AX.out.1
                    refine ⟨q + 1, r2.set q true, true, rfl, by go_num, hlt, by rw [List.length_set]; exact R2.out, bool_set B9.out q, K9.out.set (.inr RB.out) _ _, by omega, (fun h => by cases h), fun _ => by omega⟩
                  case measure => simp [intOf]; omega
          · rw [hrq] at x2
            have HRQ := Lib.hid hrq
            clear hrq
            go_wp2_with fail
            go_roundw
            case rel =>
              refine ⟨q + 1, r2, a2, rfl, by go_num, hlt, R2.out, BX.out, KX.out, AX.out.1, fun h => ?_, AX.out.2.2⟩
              obtain ⟨h1, h2⟩ := AX.out.2.1 h
              refine ⟨h1, fun i hi hri => ?_⟩
              by_cases hiq : i = q
              · subst hiq
                rw [← h1, HRQ.out] at hri
                cases hri
              · exact h2 i (by omega) hri
            case measure => simp [intOf]; omega
        · have hqn : q = n := by omega
          have BR2 := Lib.hid BR.out
          clear BR KR
          go_wp2_with fail
          go_roundw
          case rel => exact ⟨r2, a2, rfl, R2.out, BX.out, KX.out, fun h => by rw [(AX.out.2.1 h).1, ← hqn]; exact (AX.out.2.1 h).2⟩
          case measure =>
            have f1 := AX.out.2.1
            have f2 := AX.out.2.2
            have g1 := falses_row r
            have g2 := falses_row r2
            rw [BX.out, BR2.out, g1, g2]
            cases a2
            · rw [(f1 rfl).1]
              show 2 * notYet r + 0 < 2 * notYet r + 1
              omega
            · have := f2 rfl
              show 2 * notYet r2 + 1 < 2 * notYet r + 1
              omega
end Go.Proofs.Ytdkdeiofjoccnaa.Lit
