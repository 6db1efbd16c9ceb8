/- The chain's List and Held: what a look along a bucket tells. -/
import Derived.Test.YtgagiggljlikbaaGreatChQ
import Derived.Test.YtgagiggljlikbaaGreatCePeek
import Derived.Test.YtgagiggljlikbaaGreatRaF
namespace Go.Proofs.YtgagiggljlikbaaGreat.Ch
open Go.RowKit Go.Proofs.YtgagiggljlikbaaGreat.Mem Go.Proofs.YtgagiggljlikbaaGreat.Ar Go.Proofs.YtgagiggljlikbaaGreat.En
open Go.Proofs.YtgagiggljlikbaaGreat.Ref (one_int' news_at owns_shape)
set_option linter.unusedVariables false
set_option linter.unusedSimpArgs false
set_option maxRecDepth 100000

/-- a list of slots under way, in the box at cb -/
def BoxL (w : World) (cb : Nat) (l : List Int) : Prop :=
  ∃ p cap, w.heap[cb]? = some (.cells #[.slice p l.length cap] 31 (0, 0)) ∧ w.ownsRow (cb + 1) 3 1 (.slice p l.length cap) l.length (l.map (.int .i64))
/-- a count under way, in the box at cb -/
def BoxH (w : World) (cb : Nat) (n : Nat) : Prop := w.heap[cb]? = some (.cells #[.int .i64 n] 3 (0, 0))
section
variable {w w' w0 : World} {L : Bk} {A : Ars} {xb hb cb : Nat} {X : CI} {l : List Int} {n : Nat}
theorem BoxL.keep (h : BoxL w cb l) (k : Keep [] w w') : BoxL w' cb l := by
  obtain ⟨p, cap, h1, h2⟩ := h
  exact ⟨p, cap, k.old h1 (by simp), Go.Proofs.YtgagiggljlikbaaGreat.Ra.owns_block h2 fun g hg => k.block g (h2.lt g hg).2 (by simp)⟩
theorem BoxH.keep (h : BoxH w cb n) (k : Keep [] w w') : BoxH w' cb n := k.old h (by simp)
theorem int_one (s : Int) : ∀ u ∈ [Value.int .i64 s], u.oneCell' = true := by simp [Value.oneCell']
set_option maxHeartbeats 2000000 in
theorem visitL (h : BoxL w cb l) (hl : l.length ≤ 4096) (s : Int) (mk : Bool) (w0 : World) (k0 : Keep [] w0 w) (hc : w0.heap.size ≤ cb) :
    Calls Tryz.prog 62 #[.int .i64 s, .bool mk, .pointer (some ⟨cb, 0, none⟩)] w fun r w' => r = .returned (.tuple #[]) ∧ BoxL w' cb (if mk then l else l ++ [s]) ∧ Keep [] w0 w' := by
  obtain ⟨p, cap, h1, h2⟩ := h
  cases mk with
  | true =>
    have HH := Lib.hid (And.intro h1 (And.intro h2 k0))
    clear h1 h2 k0
    go_enter Tryz.func62, Tryz.ntmps62
    go_wp2_with fail
    refine bodyPost_end (results_none rfl _ _ _) rfl ?_
    exact ⟨rfl, ⟨p, cap, HH.out.1, HH.out.2.1⟩, HH.out.2.2⟩
  | false =>
    have c0 : w.cell? ⟨cb, 0, none⟩ = some (.slice p l.length cap) := (cell_of h1 0).trans rfl
    have z0 := free_of h1 0
    obtain ⟨i0, hi0, hz0, hz1, hz2⟩ := info_parts infoI
    have I0 := Lib.hid hi0
    have Z0 := Lib.hid (And.intro hz0 (And.intro hz1 hz2))
    have HB := Lib.hid h1
    have HQ := Lib.hid h2
    have K0 := Lib.hid (And.intro k0 hc)
    have e1 := Lib.hid (show l.length + 1 ≤ maxLen by unfold maxLen; omega)
    have e2 := Lib.hid (show (l.length + 1) * 8 ≤ 140737488355328 by omega)
    have e7 := Lib.hid (int_one s)
    clear h1 h2 k0 hc hi0 hz0 hz1 hz2 hl
    go_enter Tryz.func62, Tryz.ntmps62
    go_wp2_with (at_builtin; go_loud (refine wpList_append_own_at _ rfl _ _ 31 rfl (cb + 1) 3 i0 (.int .i64 0) 1 8 Tryz.underlying31 I0.out Z0.out.1 Z0.out.2.1 Z0.out.2.2 rfl (by decide) (.slice p l.length cap) l.length (l.map (.int .i64)) rfl (HQ.out.alloc _) ⟨_, 0, none⟩ 1 1 [.int .i64 s] rfl rfl (news_at rfl) e7.out e1.out e2.out (Nat.le_trans (lt_of HB.out) (alloc_le _ _)) ?_; intro v' w3 a1 g1 _ p1; obtain ⟨ap, cp, rfl⟩ := owns_shape a1; have A1 := Lib.hid a1; have G1 := Lib.hid g1; have P1 := Lib.hid p1; clear a1 g1 p1; have HB3 := Lib.hid ((G1.out.block cb (Nat.lt_of_lt_of_le (lt_of HB.out) (alloc_le _ _)) (fun e => absurd (HQ.out.lt _ e.symm).1 (by omega))).trans (alloc_some _ HB.out)); have y2 := (cell_of HB3.out 0).trans rfl; have y3 := free_of HB3.out 0))
    refine bodyPost_end (results_none rfl _ _ _) rfl ?_
    refine ⟨rfl, ⟨ap, cp, ?_, ?_⟩, ?_⟩
    · have := set_same HB3.out 0 (.slice ap (l.length + 1) cp)
      rw [this]
      simp
    · have hm : (l ++ [s]).map (Value.int .i64) = l.map (.int .i64) ++ [.int .i64 s] := by simp
      rw [hm, show (l ++ [s]).length = l.length + 1 from by simp]
      refine Go.Proofs.YtgagiggljlikbaaGreat.Ra.owns_block A1.out fun g hg => set_other (fun e => ?_) _ _
      have := (A1.out.lt g hg).1
      omega
    · refine (Keep.grown (K0.out.1.alloc _) G1.out fun g hg => ?_).set (.inr K0.out.2) _ _
      have := (HQ.out.lt g hg).1
      have := K0.out.2
      omega
theorem visitH (h : BoxH w cb n) (s : Int) (hn : n ≤ 4096) (mk : Bool) (w0 : World) (k0 : Keep [] w0 w) (hc : w0.heap.size ≤ cb) :
    Calls Tryz.prog 42 #[.int .i64 s, .bool mk, .pointer (some ⟨cb, 0, none⟩)] w fun r w' => r = .returned (.tuple #[]) ∧ BoxH w' cb (n + 1) ∧ Keep [] w0 w' := by
  have c0 : w.cell? ⟨cb, 0, none⟩ = some (.int .i64 n) := (cell_of h 0).trans rfl
  have z0 := free_of h 0
  have HB := Lib.hid (And.intro h (And.intro k0 hc))
  clear h k0 hc
  go_enter Tryz.func42, Tryz.ntmps42
  go_wp2_with fail
  refine bodyPost_end (results_none rfl _ _ _) rfl ?_
  refine ⟨rfl, ?_, HB.out.2.1.set (.inr HB.out.2.2) _ _⟩
  exact (set_same HB.out.1 0 _).trans (by simp)

/-- unmarked ones of a row -/
def um (r : List (Int × Bool)) : List Int := (r.filter fun p => !p.2).map Prod.fst
theorem rowA_stop {X : CI} {A : Ars} {k : Nat} {n : Int} (h : n = 0 ∨ beyond n = true ∨ inUseB A n = false) : rowA X A k n = [] := by
  cases k with
  | zero => rfl
  | succ k =>
    unfold rowA
    rw [if_neg]
    rintro ⟨h1, h2, h3⟩
    rcases h with h | h | h
    · exact h1 h
    · rw [h2] at h; cases h
    · rw [h3] at h; cases h
theorem rowA_go {X : CI} {A : Ars} {k : Nat} {n : Int} (h1 : n ≠ 0) (h2 : beyond n = false) (h3 : inUseB A n = true) : rowA X A (k + 1) n = (n, mkL (wordA A n X.cell)) :: rowA X A k (numL (wordA A n X.cell)) := by
  rw [rowA, if_pos ⟨h1, h2, h3⟩]
theorem rowA_len {X : CI} {A : Ars} : ∀ (k : Nat) (n : Int), (rowA X A k n).length ≤ k
  | 0, n => Nat.le_refl _
  | k + 1, n => by
    unfold rowA
    split
    · rw [List.length_cons]
      have := rowA_len (X := X) (A := A) k (numL (wordA A n X.cell))
      omega
    · simp
theorem slotWords_cell {A : Ars} {s c : Nat} (hc : c < A.width) : (slotWords A s)[c]'(by rw [slotWords_length]; exact hc) = nth A.words (wordAt A s c) 0 := by simp [slotWords]

set_option maxHeartbeats 8000000 in
theorem alongL (h : Env w0 L xb hb X A) (hA : okA A) (hH : okH X) (b : Int) (hh : X.has b = true) (k0 : Keep [] w0 w) (hc : w0.heap.size ≤ cb) (h0 : BoxL w cb []) :
    Calls Tryz.prog 41 #[.pointer (some ⟨xb, 0, none⟩), .int .i64 b, .func (.func 62) #[] #[.pointer (some ⟨cb, 0, none⟩)]] w fun r w' => r = .returned (.tuple #[]) ∧ BoxL w' cb (um (rowX X A b)) ∧ Keep [] w0 w' := by
  obtain ⟨bn, rfl, hbn⟩ : ∃ bn : Nat, b = bn ∧ bn < X.heads.length := by
    simp only [CI.has, Bool.and_eq_true, decide_eq_true_eq] at hh
    exact ⟨b.toNat, by omega, by omega⟩
  have h1 := h.keep k0 (by simp)
  have hf := h.ix.few
  have c2 : w.cell? ⟨xb, 2, none⟩ = some (.slice (some ⟨hb, 0, none⟩) X.heads.length X.heads.length) := (cell_of h1.ix.hx 2).trans rfl
  obtain ⟨v, hv⟩ : ∃ v, v = X.head (bn : Int) := ⟨_, rfl⟩
  have d1 : w.cell? ⟨hb, bn, none⟩ = some (.int .u64 v) := by rw [hv]; exact (h1.ix.hd hbn).1
  have hok : okL v := by rw [hv]; exact hH.head _
  have hcell := h.cell
  have hsl : A.slots ≤ 4096 := h.ar.fits.s2
  have HE := Lib.hid (And.intro h (And.intro hA hok))
  have HV := Lib.hid hv
  have HK := Lib.hid (And.intro k0 (And.intro hc h0))
  have CA : Hid (∀ x, okL x → ∀ wx, Calls Tryz.prog 45 #[.int .u64 x] wx fun e w' => e = .returned (.tuple #[.int .i64 (numL x), .bool (mkL x)]) ∧ wx = w') := Lib.hid fun x hx wx => apart_ x wx hx
  clear h hA hH hh k0 hc h0 h1 hv hok
  go_enter Tryz.func41, Tryz.ntmps41
  go_wp2_with fail
  refine (Atom.load64 hb bn v _ d1).mono ?_
  rintro e wx ⟨rfl, rfl⟩
  go_wp2_with fail
  refine (CA.out v HE.out.2.2 _).mono ?_
  rintro e wx ⟨rfl, rfl⟩
  clear d1 c2
  go_wp2_with fail
  go_loopw [6, 8] (fun n met wr => ∃ (k : Nat) (nn : Int) (acc : List Int), k ≤ 4096 ∧ n = .int .i64 nn ∧ met = .int .i64 k ∧ 0 ≤ nn ∧ acc.length ≤ k ∧ BoxL wr cb acc ∧ Keep [] w0 wr ∧ acc ++ um (rowA X A (4096 - k) nn) = um (rowX X A (bn : Int))) (fun _ met _ => 4096 - (intOf met).toNat)
  case atStart =>
    refine ⟨0, _, [], by omega, rfl, rfl, (num_ok HE.out.2.2).1, by simp, HK.out.2.2, HK.out.1, ?_⟩
    rw [HV.out]
    simp [rowX]
  case round =>
    obtain ⟨k, nn, acc, hk, rfl, rfl, hnn, hacc, hbx, hK, hrow⟩ := hrel
    have HR := Lib.hid (And.intro hacc (And.intro hbx (And.intro hK (And.intro hrow hnn))))
    have CB : Hid (∀ wx, Calls Tryz.prog 46 #[.int .i64 nn] wx fun e w' => e = .returned (.bool (beyond nn)) ∧ wx = w') := Lib.hid fun wx => beyond_ nn wx
    clear hacc hbx hK hrow hnn
    have fin : ∀ w', Keep [] wr w' → (nn = 0 ∨ beyond nn = true ∨ inUseB A nn = false ∨ k = 4096) → BoxL w' cb (um (rowX X A (bn : Int))) ∧ Keep [] w0 w' := fun w' k' hs => by
      have e : rowA X A (4096 - k) nn = [] := by
        rcases hs with hs | hs | hs | hs
        · exact rowA_stop (.inl hs)
        · exact rowA_stop (.inr (.inl hs))
        · exact rowA_stop (.inr (.inr hs))
        · rw [hs]; rfl
      have hr := HR.out.2.2.2.1
      rw [e] at hr
      rw [← hr]
      refine ⟨?_, HR.out.2.2.1.trans k'⟩
      simpa [um] using HR.out.2.1.keep k'
    have FIN := Lib.hid fin
    clear fin
    by_cases hz : nn = 0
    · have hz' : (nn != 0) = false := by simp [hz]
      have HZ := Lib.hid hz
      clear hz
      go_wp2_with fail
      refine bodyPost_end (results_none rfl _ _ _) rfl ?_
      exact ⟨rfl, FIN.out _ (Keep.refl _ _) (.inl HZ.out)⟩
    · have hz' : (nn != 0) = true := by simpa using hz
      have HZ := Lib.hid hz
      clear hz
      obtain ⟨by_, hby⟩ : ∃ by_, by_ = beyond nn := ⟨_, rfl⟩
      rw [← hby] at CB
      have HBY := Lib.hid hby
      clear hby
      go_wp2_with fail
      refine (CB.out _).mono ?_
      rintro e wx ⟨rfl, rfl⟩
      cases by_
      · by_cases hk4 : k < 4096
        · have hk4' : (k : Int) < 4096 := by omega
          have HKR := Lib.hid (HE.out.1.keep HR.out.2.2.1 (by simp))
          have x0 : wr.cell? ⟨xb, 0, none⟩ = some (.pointer (some ⟨L.b, 0, none⟩)) := (cell_of HKR.out.ix.hx 0).trans rfl
          cases hin : inUseB A nn
          · have HIN := Lib.hid hin
            clear hin
            go_wp2_with fail
            refine (peek_no HKR.out.ar nn HIN.out).mono ?_
            rintro e wx ⟨rfl, rfl⟩
            go_wp2_with fail
            refine bodyPost_ret (results_none rfl _ _ _) rfl ?_
            exact ⟨rfl, FIN.out _ (Keep.refl _ _) (.inr (.inr (.inl HIN.out)))⟩
          · have HIN := Lib.hid hin
            clear hin
            go_wp2_with fail
            refine (peek_ok HKR.out.ar nn HIN.out).mono ?_
            rintro e w2 ⟨rfl, hpk, k2⟩
            have HP := Lib.hid (And.intro hpk k2)
            have x1 : w2.cell? ⟨xb, 1, none⟩ = some (.int .i64 X.cell) := k2.cell ((cell_of HKR.out.ix.hx 1).trans rfl) (by simp)
            have hlen : X.cell < (slotWords A nn.toNat).length := by rw [slotWords_length]; exact hcell
            have d2 : w2.cell? ⟨wr.heap.size, X.cell, none⟩ = some (.int .u64 (wordA A nn X.cell)) := (list_cell hpk hlen).trans (by rw [slotWords_cell hcell]; rfl)
            have hcI : (X.cell : Int) < (A.width : Int) := by omega
            have okw := HE.out.2.1.word nn X.cell
            obtain ⟨wv, hwv⟩ : ∃ wv, wv = wordA A nn X.cell := ⟨_, rfl⟩
            rw [← hwv] at d2 okw
            have HOK := Lib.hid (And.intro okw hwv)
            clear hpk k2 hlen okw hwv x0
            go_wp2_with fail
            refine (CA.out wv HOK.out.1 _).mono ?_
            rintro e wx ⟨rfl, rfl⟩
            go_wp2_with fail
            refine (visitL (HR.out.2.1.keep HP.out.2) (by have := HR.out.1; omega) nn (mkL wv) w0 (HR.out.2.2.1.trans HP.out.2) HK.out.2.1).mono ?_
            rintro e w3 ⟨rfl, hb3, k3⟩
            have H3 := Lib.hid (And.intro hb3 k3)
            obtain ⟨n2, hn2⟩ : ∃ n2, n2 = numL wv := ⟨_, rfl⟩
            have HN2 := Lib.hid (And.intro hn2 (hn2 ▸ (num_ok HOK.out.1).1))
            rw [← hn2]
            clear hb3 k3 x1 d2 hn2
            go_wp2_with fail
            go_roundw
            case rel =>
              refine ⟨k + 1, n2, _, by omega, rfl, by go_num, HN2.out.2, ?_, H3.out.1, H3.out.2, ?_⟩
              · have h9 := HR.out.1
                cases mkL wv
                · simpa using h9
                · simp only [if_true]
                  omega
              · have hr := HR.out.2.2.2.1
                have e : 4096 - k = (4096 - (k + 1)) + 1 := by omega
                rw [e, rowA_go HZ.out HBY.out.symm HIN.out, ← HOK.out.2, ← HN2.out.1] at hr
                rw [← hr]
                cases mkL wv <;> simp [um]
            case measure => simp [intOf]; omega
        · have hk4' : ¬ (k : Int) < 4096 := by omega
          have HK4 := Lib.hid hk4
          clear hk4
          go_wp2_with fail
          refine bodyPost_end (results_none rfl _ _ _) rfl ?_
          exact ⟨rfl, FIN.out _ (Keep.refl _ _) (.inr (.inr (.inr (by have := HK4.out; omega))))⟩
      · go_wp2_with fail
        refine bodyPost_end (results_none rfl _ _ _) rfl ?_
        exact ⟨rfl, FIN.out _ (Keep.refl _ _) (.inr (.inl HBY.out.symm))⟩

set_option maxHeartbeats 8000000 in
theorem alongH (h : Env w0 L xb hb X A) (hA : okA A) (hH : okH X) (b : Int) (hh : X.has b = true) (k0 : Keep [] w0 w) (hc : w0.heap.size ≤ cb) (h0 : BoxH w cb 0) :
    Calls Tryz.prog 41 #[.pointer (some ⟨xb, 0, none⟩), .int .i64 b, .func (.func 42) #[] #[.pointer (some ⟨cb, 0, none⟩)]] w fun r w' => r = .returned (.tuple #[]) ∧ BoxH w' cb ((rowX X A b).length) ∧ Keep [] w0 w' := by
  obtain ⟨bn, rfl, hbn⟩ : ∃ bn : Nat, b = bn ∧ bn < X.heads.length := by
    simp only [CI.has, Bool.and_eq_true, decide_eq_true_eq] at hh
    exact ⟨b.toNat, by omega, by omega⟩
  have h1 := h.keep k0 (by simp)
  have hf := h.ix.few
  have c2 : w.cell? ⟨xb, 2, none⟩ = some (.slice (some ⟨hb, 0, none⟩) X.heads.length X.heads.length) := (cell_of h1.ix.hx 2).trans rfl
  obtain ⟨v, hv⟩ : ∃ v, v = X.head (bn : Int) := ⟨_, rfl⟩
  have d1 : w.cell? ⟨hb, bn, none⟩ = some (.int .u64 v) := by rw [hv]; exact (h1.ix.hd hbn).1
  have hok : okL v := by rw [hv]; exact hH.head _
  have hcell := h.cell
  have hsl : A.slots ≤ 4096 := h.ar.fits.s2
  have HE := Lib.hid (And.intro h (And.intro hA hok))
  have HV := Lib.hid hv
  have HK := Lib.hid (And.intro k0 (And.intro hc h0))
  have CA : Hid (∀ x, okL x → ∀ wx, Calls Tryz.prog 45 #[.int .u64 x] wx fun e w' => e = .returned (.tuple #[.int .i64 (numL x), .bool (mkL x)]) ∧ wx = w') := Lib.hid fun x hx wx => apart_ x wx hx
  clear h hA hH hh k0 hc h0 h1 hv hok
  go_enter Tryz.func41, Tryz.ntmps41
  go_wp2_with fail
  refine (Atom.load64 hb bn v _ d1).mono ?_
  rintro e wx ⟨rfl, rfl⟩
  go_wp2_with fail
  refine (CA.out v HE.out.2.2 _).mono ?_
  rintro e wx ⟨rfl, rfl⟩
  clear d1 c2
  go_wp2_with fail
  go_loopw [6, 8] (fun n met wr => ∃ (k : Nat) (nn : Int) (acc : Nat), k ≤ 4096 ∧ n = .int .i64 nn ∧ met = .int .i64 k ∧ 0 ≤ nn ∧ acc ≤ k ∧ BoxH wr cb acc ∧ Keep [] w0 wr ∧ acc + (rowA X A (4096 - k) nn).length = (rowX X A (bn : Int)).length) (fun _ met _ => 4096 - (intOf met).toNat)
  case atStart =>
    refine ⟨0, _, 0, by omega, rfl, rfl, (num_ok HE.out.2.2).1, by simp, HK.out.2.2, HK.out.1, ?_⟩
    rw [HV.out]
    simp [rowX]
  case round =>
    obtain ⟨k, nn, acc, hk, rfl, rfl, hnn, hacc, hbx, hK, hrow⟩ := hrel
    have HR := Lib.hid (And.intro hacc (And.intro hbx (And.intro hK (And.intro hrow hnn))))
    have CB : Hid (∀ wx, Calls Tryz.prog 46 #[.int .i64 nn] wx fun e w' => e = .returned (.bool (beyond nn)) ∧ wx = w') := Lib.hid fun wx => beyond_ nn wx
    clear hacc hbx hK hrow hnn
    have fin : ∀ w', Keep [] wr w' → (nn = 0 ∨ beyond nn = true ∨ inUseB A nn = false ∨ k = 4096) → BoxH w' cb ((rowX X A (bn : Int)).length) ∧ Keep [] w0 w' := fun w' k' hs => by
      have e : rowA X A (4096 - k) nn = [] := by
        rcases hs with hs | hs | hs | hs
        · exact rowA_stop (.inl hs)
        · exact rowA_stop (.inr (.inl hs))
        · exact rowA_stop (.inr (.inr hs))
        · rw [hs]; rfl
      have hr := HR.out.2.2.2.1
      rw [e] at hr
      rw [← hr]
      refine ⟨?_, HR.out.2.2.1.trans k'⟩
      simpa [um] using HR.out.2.1.keep k'
    have FIN := Lib.hid fin
    clear fin
    by_cases hz : nn = 0
    · have hz' : (nn != 0) = false := by simp [hz]
      have HZ := Lib.hid hz
      clear hz
      go_wp2_with fail
      refine bodyPost_end (results_none rfl _ _ _) rfl ?_
      exact ⟨rfl, FIN.out _ (Keep.refl _ _) (.inl HZ.out)⟩
    · have hz' : (nn != 0) = true := by simpa using hz
      have HZ := Lib.hid hz
      clear hz
      obtain ⟨by_, hby⟩ : ∃ by_, by_ = beyond nn := ⟨_, rfl⟩
      rw [← hby] at CB
      have HBY := Lib.hid hby
      clear hby
      go_wp2_with fail
      refine (CB.out _).mono ?_
      rintro e wx ⟨rfl, rfl⟩
      cases by_
      · by_cases hk4 : k < 4096
        · have hk4' : (k : Int) < 4096 := by omega
          have HKR := Lib.hid (HE.out.1.keep HR.out.2.2.1 (by simp))
          have x0 : wr.cell? ⟨xb, 0, none⟩ = some (.pointer (some ⟨L.b, 0, none⟩)) := (cell_of HKR.out.ix.hx 0).trans rfl
          cases hin : inUseB A nn
          · have HIN := Lib.hid hin
            clear hin
            go_wp2_with fail
            refine (peek_no HKR.out.ar nn HIN.out).mono ?_
            rintro e wx ⟨rfl, rfl⟩
            go_wp2_with fail
            refine bodyPost_ret (results_none rfl _ _ _) rfl ?_
            exact ⟨rfl, FIN.out _ (Keep.refl _ _) (.inr (.inr (.inl HIN.out)))⟩
          · have HIN := Lib.hid hin
            clear hin
            go_wp2_with fail
            refine (peek_ok HKR.out.ar nn HIN.out).mono ?_
            rintro e w2 ⟨rfl, hpk, k2⟩
            have HP := Lib.hid (And.intro hpk k2)
            have x1 : w2.cell? ⟨xb, 1, none⟩ = some (.int .i64 X.cell) := k2.cell ((cell_of HKR.out.ix.hx 1).trans rfl) (by simp)
            have hlen : X.cell < (slotWords A nn.toNat).length := by rw [slotWords_length]; exact hcell
            have d2 : w2.cell? ⟨wr.heap.size, X.cell, none⟩ = some (.int .u64 (wordA A nn X.cell)) := (list_cell hpk hlen).trans (by rw [slotWords_cell hcell]; rfl)
            have hcI : (X.cell : Int) < (A.width : Int) := by omega
            have okw := HE.out.2.1.word nn X.cell
            obtain ⟨wv, hwv⟩ : ∃ wv, wv = wordA A nn X.cell := ⟨_, rfl⟩
            rw [← hwv] at d2 okw
            have HOK := Lib.hid (And.intro okw hwv)
            clear hpk k2 hlen okw hwv x0
            go_wp2_with fail
            refine (CA.out wv HOK.out.1 _).mono ?_
            rintro e wx ⟨rfl, rfl⟩
            go_wp2_with fail
            refine (visitH (HR.out.2.1.keep HP.out.2) nn (by have := HR.out.1; omega) (mkL wv) w0 (HR.out.2.2.1.trans HP.out.2) HK.out.2.1).mono ?_
            rintro e w3 ⟨rfl, hb3, k3⟩
            have H3 := Lib.hid (And.intro hb3 k3)
            obtain ⟨n2, hn2⟩ : ∃ n2, n2 = numL wv := ⟨_, rfl⟩
            have HN2 := Lib.hid (And.intro hn2 (hn2 ▸ (num_ok HOK.out.1).1))
            rw [← hn2]
            clear hb3 k3 x1 d2 hn2
            go_wp2_with fail
            go_roundw
            case rel =>
              refine ⟨k + 1, n2, _, by omega, rfl, by go_num, HN2.out.2, ?_, H3.out.1, H3.out.2, ?_⟩
              · have := HR.out.1; omega
              · have hr := HR.out.2.2.2.1
                have e : 4096 - k = (4096 - (k + 1)) + 1 := by omega
                rw [e, rowA_go HZ.out HBY.out.symm HIN.out, ← HOK.out.2, ← HN2.out.1] at hr
                rw [← hr]
                rw [List.length_cons]; omega
            case measure => simp [intOf]; omega
        · have hk4' : ¬ (k : Int) < 4096 := by omega
          have HK4 := Lib.hid hk4
          clear hk4
          go_wp2_with fail
          refine bodyPost_end (results_none rfl _ _ _) rfl ?_
          exact ⟨rfl, FIN.out _ (Keep.refl _ _) (.inr (.inr (.inr (by have := HK4.out; omega))))⟩
      · go_wp2_with fail
        refine bodyPost_end (results_none rfl _ _ _) rfl ?_
        exact ⟨rfl, FIN.out _ (Keep.refl _ _) (.inr (.inl HBY.out.symm))⟩

theorem rowX_len (X : CI) (A : Ars) (b : Int) : (rowX X A b).length ≤ 4096 := rowA_len _ _
/-- List: a list of its own, or the error -/
theorem list_ (h : Env w L xb hb X A) (hA : okA A) (hH : okH X) (b : Int) :
    Calls Tryz.prog 31 #[.pointer (some ⟨xb, 0, none⟩), .int .i64 b] w fun r w' => ∃ v, r = .returned (.tuple #[v, .int .i64 (listX X A b).2]) ∧ w'.ownsRow w.heap.size 3 1 v (listX X A b).1.length ((listX X A b).1.map (.int .i64)) ∧ Keep [] w w' := by
  cases hh : X.has b with
  | false =>
    have e : listX X A b = ([], 40) := by simp [listX, hh]
    have HH := Lib.hid (has h.ix b)
    rw [hh] at HH
    rw [e]
    clear h hA hH hh e
    go_enter Tryz.func31, Tryz.ntmps31
    go_wp2_with fail
    refine HH.out.mono ?_
    rintro e w' ⟨rfl, rfl⟩
    go_wp2_with fail
    go_ret2
    exact ⟨_, rfl, World.ownsRow_nil _ _ _ _, Keep.refl _ _⟩
  | true =>
    have e : listX X A b = (um (rowX X A b), 0) := by simp [listX, hh, um]
    have HH := Lib.hid (has h.ix b)
    rw [hh] at HH
    rw [e]
    clear e
    go_enter Tryz.func31, Tryz.ntmps31
    go_wp2_with fail
    refine HH.out.mono ?_
    rintro e w' ⟨rfl, rfl⟩
    go_wp2_with fail
    obtain ⟨w1, hw1⟩ : ∃ w1, w1 = w.alloc (.cells #[.slice none 0 0] 31 (0, 0)) := ⟨_, rfl⟩
    have hb1 : BoxL w1 w.heap.size [] := ⟨none, 0, by rw [hw1]; exact alloc_new _ _, World.ownsRow_nil _ _ _ _⟩
    have k1 : Keep [] w w1 := by rw [hw1]; exact (Keep.refl _ _).alloc _
    rw [← hw1]
    refine (alongL h hA hH b hh k1 (Nat.le_refl _) hb1).mono ?_
    rintro e w2 ⟨rfl, ⟨p, cap, hx, ho⟩, k2⟩
    have H2 := Lib.hid (And.intro ho k2)
    have c0 : w2.cell? ⟨w.heap.size, 0, none⟩ = some (.slice p (um (rowX X A b)).length cap) := (cell_of hx 0).trans rfl
    clear h hA hH hx ho k2 hb1 k1 hw1
    go_wp2_with fail
    go_ret2
    exact ⟨_, rfl, owns_mono H2.out.1 (Nat.le_succ _), H2.out.2⟩
/-- Held -/
theorem held_ (h : Env w L xb hb X A) (hA : okA A) (hH : okH X) (b : Int) :
    Calls Tryz.prog 20 #[.pointer (some ⟨xb, 0, none⟩), .int .i64 b] w fun r w' => r = .returned (.tuple #[.int .i64 (heldX X A b).1, .int .i64 (heldX X A b).2]) ∧ Keep [] w w' := by
  cases hh : X.has b with
  | false =>
    have e : heldX X A b = (0, 40) := by simp [heldX, hh]
    have HH := Lib.hid (has h.ix b)
    rw [hh] at HH
    rw [e]
    clear h hA hH hh e
    go_enter Tryz.func20, Tryz.ntmps20
    go_wp2_with fail
    refine HH.out.mono ?_
    rintro e w' ⟨rfl, rfl⟩
    go_wp2_with fail
    go_ret2
    exact ⟨rfl, Keep.refl _ _⟩
  | true =>
    have e : heldX X A b = (((rowX X A b).length : Int), 0) := by simp [heldX, hh]
    have HH := Lib.hid (has h.ix b)
    rw [hh] at HH
    rw [e]
    clear e
    go_enter Tryz.func20, Tryz.ntmps20
    go_wp2_with fail
    refine HH.out.mono ?_
    rintro e w' ⟨rfl, rfl⟩
    go_wp2_with fail
    obtain ⟨w1, hw1⟩ : ∃ w1, w1 = w.alloc (.cells #[.int .i64 0] 3 (0, 0)) := ⟨_, rfl⟩
    have hb1 : BoxH w1 w.heap.size 0 := by rw [hw1]; exact alloc_new _ _
    have k1 : Keep [] w w1 := by rw [hw1]; exact (Keep.refl _ _).alloc _
    rw [← hw1]
    refine (alongH h hA hH b hh k1 (Nat.le_refl _) hb1).mono ?_
    rintro e w2 ⟨rfl, hx, k2⟩
    have H2 := Lib.hid k2
    have c0 : w2.cell? ⟨w.heap.size, 0, none⟩ = some (.int .i64 (rowX X A b).length) := (cell_of hx 0).trans rfl
    clear h hA hH hx k2 hb1 k1 hw1 hh
    go_wp2_with fail
    go_ret2
    exact ⟨rfl, H2.out⟩
theorem loadI64 (b o : Nat) (x : Int) (w : World) (hc : w.cell? ⟨b, o, none⟩ = some (.int .i64 x)) :
    Calls Tryz.prog 97 #[.pointer (some ⟨b, o, none⟩)] w fun e w' => e = .returned (.int .i64 x) ∧ w = w' := by
  have hl := run_call_load (P := Tryz.prog) Tryz.func133 (by kernel_rfl) (by kernel_rfl) (by kernel_rfl) .i64 (by kernel_rfl) hc
  go_enter Tryz.func97, Tryz.ntmps97
  go_wp2
  go_ret
  exact ⟨rfl, rfl⟩
/-- Accesses of the index, of the arena -/
theorem accX (h : IdxP w L xb hb X) :
    Calls Tryz.prog 61 #[.pointer (some ⟨xb, 0, none⟩)] w fun r w' => r = .returned (.int .i64 X.count) ∧ w = w' := by
  have c3 : w.cell? ⟨xb, 3, none⟩ = some (.int .i64 X.count) := (cell_of h.hx 3).trans rfl
  clear h
  go_enter Tryz.func61, Tryz.ntmps61
  go_wp2_with fail
  refine (loadI64 xb 3 X.count _ c3).mono ?_
  rintro e w' ⟨rfl, rfl⟩
  go_wp2_with fail
  go_ret
  exact ⟨rfl, rfl⟩
theorem accP (h : En.At 0 w L A) :
    Calls Tryz.prog 60 #[.pointer (some ⟨L.b, 0, none⟩)] w fun r w' => r = .returned (.int .i64 A.acc) ∧ w = w' := by
  have HA := Lib.hid h
  have c4 := c4 h
  clear h
  go_enter Tryz.func60, Tryz.ntmps60
  go_wp2_with fail
  refine (missing HA.out).mono ?_
  rintro e w' ⟨rfl, rfl⟩
  go_wp2_with fail
  refine (loadI64 L.b 4 A.acc _ c4).mono ?_
  rintro e w' ⟨rfl, rfl⟩
  go_wp2_with fail
  go_ret
  exact ⟨rfl, rfl⟩
theorem buckets_ (h : IdxP w L xb hb X) :
    Calls Tryz.prog 122 #[.pointer (some ⟨xb, 0, none⟩)] w fun r w' => r = .returned (.int .i64 X.heads.length) ∧ w = w' := by
  have c2 : w.cell? ⟨xb, 2, none⟩ = some (.slice (some ⟨hb, 0, none⟩) X.heads.length X.heads.length) := (cell_of h.hx 2).trans rfl
  have hf := h.few
  clear h
  go_enter Tryz.func122, Tryz.ntmps122
  go_wp2_with fail
  go_ret
  exact ⟨rfl, rfl⟩
end
end Go.Proofs.YtgagiggljlikbaaGreat.Ch
