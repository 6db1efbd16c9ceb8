import Derived.Test.YtdkdeiofjoccnaaGreatPlayA
import Derived.Test.YtdkdeiofjoccnaaGreatSame
import Derived.Test.YtdkdeiofjoccnaaGreatCopyLit
/- threads: those of a list of numbers that there are: their numbers and their machines. -/
namespace Go.Proofs.YtdkdeiofjoccnaaGreat.Lit
open Go.RowKit Go.Proofs.YtdkdeiofjoccnaaGreat.Mem Go.Proofs.YtdkdeiofjoccnaaGreat.Ar Go.Proofs.YtdkdeiofjoccnaaGreat.Un
open Go.Proofs.YtdkdeiofjoccnaaGreat.Ref (PAt RB RP)
set_option linter.unusedVariables false
set_option linter.unusedSimpArgs false
set_option maxRecDepth 100000

/-- those that there are -/
def thrN (n : Nat) (ms : List Int) : List Nat := ms.filterMap fun (m : Int) => if 0 ≤ m ∧ m < (n : Int) then some m.toNat else none
theorem thrN_len (n : Nat) (ms : List Int) : (thrN n ms).length ≤ ms.length := List.length_filterMap_le _ _
theorem thrN_lt (n : Nat) (ms : List Int) : ∀ x ∈ thrN n ms, x < n := by
  intro x hx
  obtain ⟨m, -, h⟩ := List.mem_filterMap.1 hx
  split at h
  · simp only [Option.some.injEq] at h
    omega
  · simp at h
theorem thrN_in {n : Nat} {l : List Int} {m : Int} (h : 0 ≤ m ∧ m < n) : thrN n (l ++ [m]) = thrN n l ++ [m.toNat] := by
  unfold thrN
  rw [List.filterMap_append]
  simp [h]
theorem thrN_out {n : Nat} {l : List Int} {m : Int} (h : ¬ (0 ≤ m ∧ m < n)) : thrN n (l ++ [m]) = thrN n l := by
  unfold thrN
  rw [List.filterMap_append]
  simp only [List.filterMap_cons, List.filterMap_nil, if_neg h, List.append_nil]
theorem one_i (x : Int) : ∀ u ∈ [Value.int .i64 x], u.oneCell' = true := by simp [Value.oneCell']
theorem one_p (x : Option Addr) : ∀ u ∈ [Value.pointer x], u.oneCell' = true := by simp [Value.oneCell']
/-- what threads made of the first numbers -/
structure Made2 (w wr : World) (P : Park) (v1 v2 : Value) (l : List Nat) : Prop where
  nums : wr.ownsRow w.heap.size 3 1 v1 l.length (l.map fun i => .int .i64 (i : Nat))
  thrs : wr.ownsRow w.heap.size 38 1 v2 l.length (l.map fun i => .pointer (thrA P (i : Nat)))
  ap : ∀ g, v1.ownBlock = some g → v2.ownBlock ≠ some g
theorem Made2.keep {w wr w' : World} {P : Park} {v1 v2 : Value} {l : List Nat} (h : Made2 w wr P v1 v2 l) (k : Keep [] wr w') : Made2 w w' P v1 v2 l :=
  ⟨Har.owns_block h.nums fun g hg => k.block g (h.nums.lt g hg).2 (by simp), Har.owns_block h.thrs fun g hg => k.block g (h.thrs.lt g hg).2 (by simp), h.ap⟩

set_option maxHeartbeats 2000000 in
theorem threads {w0 w : World} {T : List Nat} {sb bb pb : Nat} {P : Park} {H0 : Har.Har} {S : St} {B : RB} {S' : RP} (hb : w.cell? ⟨sb, 1, none⟩ = some (.pointer (some ⟨bb, 0, none⟩))) (hp : w.cell? ⟨sb, 3, none⟩ = some (.pointer (some ⟨pb, 0, none⟩)))
    (h : Rest w0 T w bb P H0 S) (hn : P.seats.length ≤ 16) (hP : PAt w pb B S') (hN : S'.ths.length = P.seats.length) (a : Option Addr) (cap : Nat) (ms : List Int) (hm : Sees w a (ms.map (.int .i64))) (hl : ms.length ≤ 1000000000000) :
    Calls Tryz.prog 31 #[.pointer (some ⟨sb, 0, none⟩), .slice a ms.length cap] w fun e w' => ∃ v1 v2, e = .returned (.tuple #[v1, v2, .bool true]) ∧ Made2 w w' P v1 v2 (thrN P.seats.length ms) ∧ Keep [] w w' := by
  have hc1 := hP.c1
  rw [hN] at hc1
  have HT : Hid (∀ (wx : World) (i : Int), Keep [] w wx → Calls Tryz.prog 32 #[.pointer (some ⟨bb, 0, none⟩), .int .i64 i] wx fun e w' => e = .returned (.pointer (thrA P i)) ∧ w' = wx) := Lib.hid fun wx i k => (h.frame0 k).thread' hn i
  have HM := Lib.hid hm
  obtain ⟨ps, hps⟩ : ∃ n, n = P.seats.length := ⟨_, rfl⟩
  obtain ⟨n, hnn⟩ : ∃ n, n = ms.length := ⟨_, rfl⟩
  rw [← hps] at hc1 hn
  rw [← hnn] at hl
  rw [← hnn, ← hps]
  have HN := Lib.hid (And.intro hnn hps)
  have HC := Lib.hid (And.intro hb (And.intro hp hc1))
  obtain ⟨i0, hi0, hz0, hz1, hz2⟩ := info_parts Ref.infoI
  obtain ⟨j0, hj0, hy0, hy1, hy2⟩ := info_parts Har.infoT
  have HI := Lib.hid hi0
  have HZ := Lib.hid (And.intro hz0 (And.intro hz1 hz2))
  have HJ := Lib.hid hj0
  have HY := Lib.hid (And.intro hy0 (And.intro hy1 hy2))
  obtain ⟨tg, htg⟩ : ∃ x, x = B.tg := ⟨_, rfl⟩
  obtain ⟨tc, htc⟩ : ∃ x, x = B.tc := ⟨_, rfl⟩
  rw [← htg, ← htc] at HC
  clear h hP hN hm hnn hps hb hp hc1 hi0 hz0 hz1 hz2 hj0 hy0 hy1 hy2 htg htc
  go_enter Tryz.func31, Tryz.ntmps31
  go_wp2_with fail
  go_loopw [7, 8, 9, 10] (fun v1 v2 i _ wr => ∃ (k : Nat) (u1 u2 : Value), v1 = u1 ∧ v2 = u2 ∧ i = .int .i64 k ∧ k ≤ n ∧ Made2 w wr P u1 u2 (thrN ps (ms.take k)) ∧ Keep [] w wr) (fun _ _ i _ _ => n - (intOf i).toNat)
  case atStart => exact ⟨0, _, _, rfl, rfl, rfl, Nat.zero_le _, ⟨World.ownsRow_nil _ _ _ _, World.ownsRow_nil _ _ _ _, fun g hg => by simp [Value.ownBlock] at hg⟩, Keep.refl _ _⟩
  case round =>
    obtain ⟨k, u1, u2, hu1, hu2, rfl, hk, hM, hK⟩ := hrel
    have MR := Lib.hid hM
    have KR := Lib.hid hK
    clear hM hK
    obtain ⟨wo, rfl⟩ : ∃ wo : World, wo = wr := ⟨_, rfl⟩
    obtain ⟨a1, p1, e1⟩ := row_form MR.out.nums
    obtain ⟨a2, p2, e2⟩ := row_form MR.out.thrs
    obtain ⟨q, hq⟩ : ∃ q, q = (thrN ps (ms.take k)).length := ⟨_, rfl⟩
    have HQ := Lib.hid hq
    have hql : q ≤ k := by rw [hq]; exact Nat.le_trans (thrN_len _ _) (List.length_take_le _ _)
    rw [← hq] at e1 e2
    subst e1 e2
    subst hu1 hu2
    clear hq
    by_cases hlt : k < n
    · have hkm : k < ms.length := by rw [← HN.out.1]; exact hlt
      obtain ⟨g, o, rfl, x0⟩ := HM.out.at_ k (by simpa using hkm)
      obtain ⟨m, hmm⟩ : ∃ m, m = ms[k] := ⟨_, rfl⟩
      rw [List.getElem_map, ← hmm] at x0
      have htk : ms.take (k + 1) = ms.take k ++ [m] := by rw [List.take_succ_eq_append_getElem hkm, hmm]
      have HTK := Lib.hid htk
      have X0 := Lib.hid x0
      clear hmm hkm htk x0
      have c0 := KR.out.cell X0.out (by simp)
      have c1 := KR.out.cell HC.out.1 (by simp)
      have c3 := KR.out.cell HC.out.2.1 (by simp)
      have c4 := KR.out.cell HC.out.2.2 (by simp)
      by_cases h0 : 0 ≤ m ∧ m < ps
      · obtain ⟨j, rfl⟩ : ∃ j : Nat, m = j := ⟨m.toNat, by omega⟩
        have hjl : j < ps := by omega
        have hin := thrN_in (l := ms.take k) h0
        rw [Int.toNat_natCast] at hin
        have HIN := Lib.hid hin
        have hjs : j < P.seats.length := by rw [← HN.out.2]; exact hjl
        have TQ : Hid (∀ wx : World, Keep [] w wx → Calls Tryz.prog 32 #[.pointer (some ⟨bb, 0, none⟩), .int .i64 j] wx fun e w' => e = .returned (.pointer (some ⟨P.seats[j].tb, 0, none⟩)) ∧ w' = wx) := Lib.hid fun wx k => by rw [← thrA_at hjs]; exact HT.out wx j k
        have HAT := Lib.hid (thrA_at hjs)
        obtain ⟨tb, htb⟩ : ∃ tb, tb = P.seats[j].tb := ⟨_, rfl⟩
        rw [← htb] at TQ HAT
        have g0 : decide (0 ≤ (j : Int)) = true := by simp
        have g1 : decide ((j : Int) < (ps : Int)) = true := by simp; omega
        clear h0 hin hjs htb
        go_upto_region 6 with fail
        go_quiet (fail)
        generalize hwy : World.drewN wo _ = wy
        have ky : Keep [] wo wy := by rw [← hwy]; exact (Keep.refl _ _).drewN _
        have KY := Lib.hid (KR.out.trans ky)
        have MY := Lib.hid (MR.out.keep ky)
        clear c0 c1 c3 c4 hwy ky
        have c0 := KY.out.cell X0.out (by simp)
        have c1 := KY.out.cell HC.out.1 (by simp)
        go_wp2_with fail
        go_quiet ((go_at_call 32; exact Calls.quiet_of_same (TQ.out _ (KY.out.drewN _))))
        generalize hwz : World.drewN wy _ = wz
        have kz : Keep [] wy wz := by rw [← hwz]; exact (Keep.refl _ _).drewN _
        have KZ := Lib.hid (KY.out.trans kz)
        have MZ := Lib.hid (MY.out.keep kz)
        clear c0 c1 hwz kz
        have c0 := KZ.out.cell X0.out (by simp)
        have d1 := Lib.hid (show q + 1 ≤ maxLen by unfold maxLen; omega)
        have d2 := Lib.hid (show (q + 1) * 8 ≤ 140737488355328 by omega)
        have NUM : Hid (wz.ownsRow w.heap.size 3 1 (.slice a1 q p1) q ((thrN ps (ms.take k)).map fun i => .int .i64 (i : Nat))) := Lib.hid (by have := MZ.out.nums; rw [← HQ.out] at this; exact this)
        have THR : Hid (wz.ownsRow w.heap.size 38 1 (.slice a2 q p2) q ((thrN ps (ms.take k)).map fun i => .pointer (thrA P (i : Nat)))) := Lib.hid (by have := MZ.out.thrs; rw [← HQ.out] at this; exact this)
        have AP := Lib.hid MZ.out.ap
        have N1 := Lib.hid (alloc_new wz (.cells #[.int .i64 j] 3))
        have BS := Lib.hid (show w.heap.size ≤ (wz.alloc (.cells #[.int .i64 j] 3)).heap.size by have := KZ.out.size; simp; omega)
        go_wp2_with (at_builtin; refine wpList_append_lies _ rfl _ _ 52 rfl w.heap.size 3 i0 _ 1 8 Tryz.underlying52 HI.out HZ.out.1 HZ.out.2.1 HZ.out.2.2 rfl (by decide) (.slice a1 q p1) q _ rfl (NUM.out.alloc _) ⟨wz.heap.size, 0, none⟩ 1 1 [.int .i64 j] rfl rfl (World.news_of_block (cs := #[.int .i64 j]) (fr := (0, 0)) N1.out) (one_i _) (by decide) d1.out d2.out BS.out _ rfl ?_)
        intro g9 cap9 w9 hown9 hgrow9 hat9 hlt9
        have kk9 : Keep (Value.slice a1 q p1).ownBlock.toList (wz.alloc (.cells #[.int .i64 j] 3)) w9 := ⟨hgrow9.os, hgrow9.tape, hgrow9.output, hgrow9.size, fun i hi hn => hgrow9.block i hi fun e => hn (by rw [← e]; simp)⟩
        have W9 := Lib.hid hown9
        have T9 : Hid (w9.ownsRow w.heap.size 38 1 (.slice a2 q p2) q ((thrN ps (ms.take k)).map fun i => .pointer (thrA P (i : Nat)))) := Lib.hid (Har.owns_block (THR.out.alloc _) fun g hg => kk9.block g ((THR.out.alloc _).lt g hg).2 fun hm => AP.out g (by simpa using hm) hg)
        have K9 : Hid (Keep [] w w9) := Lib.hid ((KZ.out.alloc _).chain kk9 fun x hx => .inr (NUM.out.lt x (by simpa using hx)).1)
        have A9 : Hid (∀ g, (Value.slice (some ⟨g9, 0, none⟩) (q + 1) cap9).ownBlock = some g → (Value.slice a2 q p2).ownBlock ≠ some g) := Lib.hid (fun g hg => by
          have hg' : g9 = g := by simpa [Value.ownBlock] using hg
          subst hg'
          rcases hat9 with h1 | h1
          · exact AP.out g9 h1
          · intro e
            have := (THR.out.lt g9 e).2
            omega)
        have N2 := Lib.hid (alloc_new w9 (.cells #[.pointer (some ⟨tb, 0, none⟩)] 38))
        have BS2 := Lib.hid (show w.heap.size ≤ (w9.alloc (.cells #[.pointer (some ⟨tb, 0, none⟩)] 38)).heap.size by have := K9.out.size; simp; omega)
        clear hown9 hgrow9 hat9 hlt9 kk9 c0
        go_wp2_with (at_builtin; refine wpList_append_lies _ rfl _ _ 85 rfl w.heap.size 38 j0 _ 1 8 Tryz.underlying85 HJ.out HY.out.1 HY.out.2.1 HY.out.2.2 rfl (by decide) (.slice a2 q p2) q _ rfl (T9.out.alloc _) ⟨w9.heap.size, 0, none⟩ 1 1 [.pointer (some ⟨tb, 0, none⟩)] rfl rfl (World.news_of_block (cs := #[.pointer (some ⟨tb, 0, none⟩)]) (fr := (0, 0)) N2.out) (one_p _) (by decide) d1.out d2.out BS2.out _ rfl ?_)
        intro g8 cap8 w8 hown8 hgrow8 hat8 hlt8
        have kk8 : Keep (Value.slice a2 q p2).ownBlock.toList (w9.alloc (.cells #[.pointer (some ⟨tb, 0, none⟩)] 38)) w8 := ⟨hgrow8.os, hgrow8.tape, hgrow8.output, hgrow8.size, fun i hi hn => hgrow8.block i hi fun e => hn (by rw [← e]; simp)⟩
        have M8 : Hid (Made2 w w8 P (.slice (some ⟨g9, 0, none⟩) (q + 1) cap9) (.slice (some ⟨g8, 0, none⟩) (q + 1) cap8) (thrN ps (ms.take (k + 1)))) := Lib.hid (by
          rw [HTK.out, HIN.out]
          refine ⟨?_, ?_, fun g hg e => ?_⟩
          · rw [List.length_append, List.length_singleton, ← HQ.out, List.map_append]
            exact Har.owns_block (W9.out.alloc _) fun g hg => kk8.block g ((W9.out.alloc _).lt g hg).2 fun hm => A9.out g hg (by simpa using hm)
          · rw [List.length_append, List.length_singleton, ← HQ.out, List.map_append, List.map_singleton, HAT.out]
            exact hown8
          · have e' : g8 = g := by simpa [Value.ownBlock] using e
            subst e'
            rcases hat8 with h1 | h1
            · exact A9.out g8 hg h1
            · have := (W9.out.lt g8 hg).2
              omega)
        have K8 : Hid (Keep [] w w8) := Lib.hid ((K9.out.alloc _).chain kk8 fun x hx => .inr (T9.out.lt x (by simpa using hx)).1)
        clear hown8 hgrow8 hat8 hlt8 kk8
        go_wp2_with fail
        go_roundw
        case rel => exact ⟨k + 1, _, _, rfl, rfl, by go_num, hlt, M8.out, K8.out⟩
        case measure => simp [intOf]; omega
      · have hout := thrN_out (l := ms.take k) h0
        have HOUT := Lib.hid hout
        have KZ : Hid (Keep [] w wo) := KR
        have fin : ∀ wy : World, Keep [] wo wy → Made2 w wy P (.slice a1 q p1) (.slice a2 q p2) (thrN ps (ms.take (k + 1))) := fun wy ky => by
          rw [HTK.out, HOUT.out]
          exact MR.out.keep ky
        have FIN := Lib.hid fin
        clear hout fin
        by_cases hneg : m < 0
        · have g0 : decide (0 ≤ m) = false := by simp; omega
          clear h0 hneg
          go_upto_region 6 with fail
          go_quiet (fail)
          go_wp2_with fail
          go_roundw
          case rel => exact ⟨k + 1, _, _, rfl, rfl, by go_num, hlt, FIN.out _ ((Keep.refl _ _).drewN _), KR.out.drewN _⟩
          case measure => simp [intOf]; omega
        · have g0 : decide (0 ≤ m) = true := by simp; omega
          have g1 : decide (m < (ps : Int)) = false := by simp; omega
          clear h0 hneg
          go_upto_region 6 with fail
          go_quiet (fail)
          go_wp2_with fail
          go_roundw
          case rel => exact ⟨k + 1, _, _, rfl, rfl, by go_num, hlt, FIN.out _ ((Keep.refl _ _).drewN _), KR.out.drewN _⟩
          case measure => simp [intOf]; omega
    · have hkn : ms.take k = ms := List.take_of_length_le (by rw [← HN.out.1]; omega)
      have HKN := Lib.hid hkn
      clear hkn
      go_wp2_with fail
      go_ret3
      exact ⟨_, _, rfl, by rw [← HKN.out]; exact MR.out, KR.out⟩
end Go.Proofs.YtdkdeiofjoccnaaGreat.Lit

/- Picks that were handed in, however they lie; samePicks; what a step, a play, a submission keeps. -/
namespace Go.Proofs.YtdkdeiofjoccnaaGreat.Lit
open Go.RowKit Go.Proofs.YtdkdeiofjoccnaaGreat.Mem Go.Proofs.YtdkdeiofjoccnaaGreat.Ar Go.Proofs.YtdkdeiofjoccnaaGreat.Un
open Go.Proofs.YtdkdeiofjoccnaaGreat.Pick (Pk flat eqPick)
set_option linter.unusedVariables false
set_option linter.unusedSimpArgs false
set_option maxRecDepth 100000

theorem flat_at (l : List Pk) (i j : Nat) (hi : i < l.length) (hj : j < 3) : (flat l)[i * 3 + j]? = l[i].cells[j]? := by
  induction l generalizing i with
  | nil => simp at hi
  | cons p l ih =>
    have e : flat (p :: l) = p.cells ++ flat l := rfl
    rw [e]
    have hc : p.cells.length = 3 := rfl
    cases i with
    | zero => rw [List.getElem?_append_left (by omega)]; simp
    | succ i =>
      rw [List.getElem?_append_right (by omega), hc, show (i + 1) * 3 + j - 3 = i * 3 + j by omega, ih i (by simpa using hi)]
      simp
theorem sees_pk {w : World} {a : Option Addr} {l : List Pk} (h : Sees w a (flat l)) {i : Nat} (hi : i < l.length) : ∃ g o, a = some ⟨g, o, none⟩ ∧ w.cell? ⟨g, o + i * 3, none⟩ = some (.int .i64 l[i].k) ∧ w.cell? ⟨g, o + i * 3 + 1, none⟩ = some (.int .i64 l[i].who) ∧ w.cell? ⟨g, o + i * 3 + 2, none⟩ = some (.int .i64 l[i].n) := by
  have hl := Pick.flat_length l
  have key : ∀ j, (hj : j < 3) → ∃ g o, a = some ⟨g, o, none⟩ ∧ w.cell? ⟨g, o + (i * 3 + j), none⟩ = l[i].cells[j]? := by
    intro j hj
    have hlt : i * 3 + j < (flat l).length := by omega
    obtain ⟨g, o, e, c⟩ := h.at_ (i * 3 + j) hlt
    refine ⟨g, o, e, ?_⟩
    rw [c, ← flat_at l i j hi hj, List.getElem?_eq_getElem hlt]
  obtain ⟨g, o, e, c0⟩ := key 0 (by omega)
  obtain ⟨g1, o1, e1, c1⟩ := key 1 (by omega)
  obtain ⟨g2, o2, e2, c2⟩ := key 2 (by omega)
  rw [e] at e1 e2
  simp only [Option.some.injEq, Addr.mk.injEq, and_true] at e1 e2
  obtain ⟨rfl, rfl⟩ := e1
  obtain ⟨rfl, rfl⟩ := e2
  exact ⟨g, o, e, c0, by rw [Nat.add_assoc]; exact c1, by rw [Nat.add_assoc]; exact c2⟩
/-- no picks: nobody's block -/
theorem sees_handed {w : World} {a : Option Addr} {l : List Pk} (h : Sees w a (flat l)) {T : List Nat} (hT : ∀ g o, a = some ⟨g, o, none⟩ → g ∉ T ∧ g < w.heap.size) (hs : ∀ x ∈ l, x.n ≤ 9223372036854775807) : Har.Handed w T a l :=
  ⟨fun i hi => sees_pk h hi, hT, hs⟩
set_option maxHeartbeats 1000000 in
theorem samePk {a1 a2 : Option Addr} {cap1 cap2 : Nat} {l : List Pk} {w : World} (h1 : Sees w a1 (flat l)) (h2 : Sees w a2 (flat l)) (hl : l.length ≤ 5864062014640) :
    Calls Tryz.prog 37 #[.slice a1 l.length cap1, .slice a2 l.length cap2] w fun e w' => e = .returned (.bool true) ∧ ∃ m, w' = w.drewN m := by
  have C1 := Lib.hid (fun i (hi : i < l.length) => sees_pk h1 hi)
  have C2 := Lib.hid (fun i (hi : i < l.length) => sees_pk h2 hi)
  clear h1 h2
  have heq := eqPick
  go_enter Tryz.func37, Tryz.ntmps37
  go_wp2_with fail
  go_loopw [5] (fun i wr => ∃ (j : Nat) (m : Nat), j ≤ l.length ∧ i = .int .i64 j ∧ wr = w.drewN m) (fun i _ => l.length - (intOf i).toNat)
  case atStart => exact ⟨0, 0, Nat.zero_le _, rfl, rfl⟩
  case round =>
    obtain ⟨j, m, hj, rfl, rfl⟩ := hrel
    by_cases hlt : j < l.length
    · obtain ⟨g1, o1, rfl, p0, p1, p2⟩ := C1.out j hlt
      obtain ⟨g2, o2, rfl, q0, q1, q2⟩ := C2.out j hlt
      generalize l[j].k = x0 at *
      generalize l[j].who = x1 at *
      generalize l[j].n = x2 at *
      go_wp2_with fail
      go_quiet (fail)
      go_wp2_with fail
      go_roundw
      case rel => exact ⟨j + 1, _, hlt, by go_num, rfl⟩
      case measure => simp [intOf]; omega
    · go_wp2_with fail
      go_ret
      exact ⟨rfl, m, rfl⟩
end Go.Proofs.YtdkdeiofjoccnaaGreat.Lit

namespace Go.Proofs.YtdkdeiofjoccnaaGreat.Har
open Go.RowKit Go.Proofs.YtdkdeiofjoccnaaGreat.Mem
set_option linter.unusedVariables false
section
variable {S : Type} {M : Mach S}
theorem move_few {x y : Har × S} (h : Move M x y) : y.1.events.length + due y.1 = x.1.events.length + due x.1 := by
  obtain ⟨k, A, j, l, B, T⟩ := Lit.turned h
  have q1 := congrArg (fun q : List (List Job) => (q.map dueQ).sum) T.was
  have q2 := congrArg (fun q : List (List Job) => (q.map dueQ).sum) T.queues
  have e1 := congrArg List.length T.events
  unfold due
  rw [q1, q2, e1]
  cases hd : (M.step x.2 j.mach).2 <;> cases hc : j.called <;> simp [dueQ, Job.due, hc, List.map_append, List.sum_append] <;> omega
theorem play_few (l : List Pick.Pk) (c : Conf S) : (playC M l c).H.events.length + due (playC M l c).H = c.H.events.length + due c.H := by
  have hp := (playC_came (M := M) l c).path
  exact hp.inv (I := fun x => x.1.events.length + due x.1 = c.H.events.length + due c.H) (fun x y hx hm => (move_few hm).trans hx) rfl
theorem stepI_none {H : Har} {s : S} {who : Int} (h : pend H who = 0) : stepI M H s who = (H, s) := by
  unfold pend at h
  unfold stepI
  split
  · rename_i h0
    rw [if_pos h0] at h
    unfold stepH
    rw [List.length_eq_zero_iff.1 h]
  · rfl
theorem stepI_few (H : Har) (s : S) (who : Int) : (stepI M H s who).1.events.length + due (stepI M H s who).1 = H.events.length + due H := by
  by_cases hp : pend H who = 0
  · rw [stepI_none hp]
  · obtain ⟨k, j, l, rfl, hk, hq⟩ := pend_pos hp
    have e0 : stepI M H s (k : Int) = stepH M H s k := by
      unfold stepI
      rw [if_pos (by omega), Int.toNat_natCast]
    rw [e0]
    exact move_few (x := (H, s)) ⟨⟨k, j, l, hk, hq, rfl⟩⟩
end
end Go.Proofs.YtdkdeiofjoccnaaGreat.Har

namespace Go.Proofs.YtdkdeiofjoccnaaGreat.Ref
open Go.RowKit Go.Proofs.YtdkdeiofjoccnaaGreat.Mem Go.Proofs.YtdkdeiofjoccnaaGreat.Har Go.Proofs.YtdkdeiofjoccnaaGreat.Lit Go.Proofs.YtdkdeiofjoccnaaGreat.Ar Go.Proofs.YtdkdeiofjoccnaaGreat.Un
set_option linter.unusedVariables false
section
variable {P : Park} {H0 H : Har.Har} {S : St} {H0' H' : Har.Har} {S' : RP}
/-- a step on both sides -/
theorem PlayL.step (h : PlayL P H0 H S H0' H' S') (who : Int) : PlayL P H0 (stepI (machs P) H S who).1 (stepI (machs P) H S who).2 H0' (stepI refM H' S' who).1 (stepI refM H' S' who).2 := by
  by_cases hp : Har.pend H who = 0
  · rw [stepI_none hp, stepI_none (by rw [← h.eh.pend]; exact hp)]
    exact h
  · obtain ⟨a, b⟩ := even_move h.es h.eh who hp
    exact ⟨a, h.e0, b, h.few⟩
theorem PlayL.play (h : PlayL P H0 H S H0' H' S') (n : Nat) (l : List Pick.Pk) : PlayL P H0 (playC (machs P) l ⟨H, S, n, false⟩).H (playC (machs P) l ⟨H, S, n, false⟩).s H0' (playC refM l ⟨H', S', n, false⟩).H (playC refM l ⟨H', S', n, false⟩).s := by
  obtain ⟨-, -, a, b⟩ := even_play h.es h.eh n l
  exact ⟨a, h.e0, b, h.few⟩
theorem PlayL.answer (h : PlayL P H0 H S H0' H' S') (n : Nat) (l : List Pick.Pk) :
    Har.playN n (playC (machs P) l ⟨H, S, n, false⟩) = (n : Int) - (playC refM l ⟨H', S', n, false⟩).left ∧ Har.playE (playC (machs P) l ⟨H, S, n, false⟩) = errOf (playC refM l ⟨H', S', n, false⟩).dry := by
  obtain ⟨e1, e2, -, -⟩ := even_play h.es h.eh n l
  have hz := (playC_came (M := refM) l ⟨H', S', n, false⟩).dry
  unfold Har.playN Har.playE errOf
  rw [e1, e2]
  refine ⟨?_, rfl⟩
  split
  · rename_i hd
    rcases hz hd with h1 | h1
    · simp at h1
    · rw [h1]; simp
  · rfl
/-- the machines of these numbers -/
def adrs (P : Park) (l : List Nat) : List Addr := l.map fun q => (thrA P (q : Nat)).getD ⟨0, 0, none⟩
theorem jobs_even (P : Park) (tag : Int) (hap : ∀ k k', k ≠ k' → ∀ x ∈ P.own k, x ∉ P.own k') : ∀ (l : List Nat) (i : Nat), (∀ q ∈ l, q < P.seats.length) → (Har.jobsOf tag i (adrs P l)).map (sk P) = (jobsR tag i l).map skR
  | [], i, _ => rfl
  | q :: l, i, hq => by
    have e := jobs_even P tag hap l (i + 1) (fun x hx => hq x (by simp [hx]))
    have hql := hq q (by simp)
    have hidx := Park.idx_at hap hql
    unfold adrs at e ⊢
    simp only [List.map_cons, Har.jobsOf, jobsR]
    rw [e]
    simp only [sk, skR, List.cons.injEq, Prod.mk.injEq, and_true]
    rw [thrA_at hql]
    exact hidx
end
end Go.Proofs.YtdkdeiofjoccnaaGreat.Ref
