/- SchedDrains: the walk. -/
import Derived.Test.YtdkdeiofjoccnaaToldWalk
namespace Go.Proofs.Ytdkdeiofjoccnaa.Lit
open Go.RowKit Go.Proofs.Ytdkdeiofjoccnaa.Mem Go.Proofs.Ytdkdeiofjoccnaa.Ar Go.Proofs.Ytdkdeiofjoccnaa.Un
open Go.Proofs.Ytdkdeiofjoccnaa.Har (Ev evs)
set_option linter.unusedVariables false
set_option maxRecDepth 100000

theorem yardT {w wr : World} {hb hq : Nat} {vs : List Value} {ve vd : Value} {P : Park} {S : St} {H : Har.Har} (h : Yard w wr hb hq vs ve vd P S H) : ∀ x ∈ Har.blocks hb hq (ve :: vd :: vs) ++ (machs P).B, x < wr.heap.size := fun x hx => by
  rcases List.mem_append.1 hx with hx | hx
  · exact h.lt x (.inr hx)
  · exact h.lt x (.inl hx)

set_option maxHeartbeats 4000000 in
theorem drains (wk : Nat) (h1 : 1 ≤ wk) (h2 : wk ≤ 16) (a : Option Addr) (cap : Nat) (js : List Jb) (hj : js.length ≤ 40) (s : ByteArray) (hs : s.size ≤ 2097152) (w : World) (hin : JobsIn w a js) :
    Calls Try.prog 10 #[.int .i64 wk, .slice a js.length cap, .string s] w fun e w' => e = .returned (.bool true) ∧ Keep [] w w' := by
  have HIN := Lib.hid hin
  have hsz := Lib.hid (Pick.size_data s)
  have hln := Lib.hid (Pick.dec_length s.data.toList)
  obtain ⟨n, hn⟩ : ∃ n, n = js.length := ⟨_, rfl⟩
  have HN := Lib.hid hn
  rw [← hn]
  rw [← hn] at hj
  clear hin hn
  go_enter Try.func10, Try.ntmps10
  go_wp2_with fail
  have l0 := laid wk h1 h2 a cap js (by have := HN.out; omega) w HIN.out
  rw [← HN.out] at l0
  refine l0.mono ?_
  clear l0
  rintro e w1 ⟨hb, P, S, H, rfl, hL⟩
  have GB := Lib.hid (Going.begin hL h1)
  obtain ⟨hq, vs, ve, vd, hY, hH, hdue⟩ := hL
  have Y1 := Lib.hid hY
  have LH := Lib.hid hH
  have htl := total_le js
  rw [← HN.out] at htl
  obtain ⟨tt, htt⟩ : ∃ tt, tt = total js := ⟨_, rfl⟩
  rw [← htt] at htl
  rw [← htt]
  have HT := Lib.hid htt
  clear hY hH hdue htt
  have htl : tt ≤ 440 := by omega
  go_wp2_with fail
  refine (Pick.decode s _ hs).mono ?_
  rintro e w2 ⟨v, rfl, hrow, k2⟩
  have Y2 := Lib.hid (Y1.out.frame0 k2)
  obtain ⟨pa, pc, rfl, hh⟩ := handed_of (T := Har.blocks hb hq (ve :: vd :: vs) ++ (machs P).B) hrow (fun x hx => (dec_small _ x hx).2) (yardT Y1.out)
  have HH := Lib.hid hh
  clear hh hrow k2
  go_wp2_with fail
  refine (Har.play Y2.out.since tt (by omega) pa pc (Pick.dec s.data.toList) HH.out (by have := hln.out; have := hsz.out; omega)).mono ?_
  rintro e w3 ⟨rfl, hq3, vs3, ve3, vd3, hS⟩
  have Y3 := Lib.hid (Y2.out.after hS)
  obtain ⟨c, hc⟩ : ∃ c, c = Har.playC (machs P) (Pick.dec s.data.toList) ⟨H, S, tt, false⟩ := ⟨_, rfl⟩
  obtain ⟨d, hd⟩ : ∃ d, d = Har.playC (machs P) [Har.drainPick] ⟨c.H, c.s, c.left, false⟩ := ⟨_, rfl⟩
  have DA : c.dry = false ∧ c.left ≤ tt ∧ d.dry = false ∧ d.left = 0 ∧ Har.idleB d.H = true ∧ Going wk js P (d.H, d.s) := by
    rw [hd, hc, HT.out]
    exact drained_all GB.out LH.out.steps (by have := HN.out; omega) (Pick.dec s.data.toList)
  rw [← hc] at Y3
  rw [← hc]
  have n1 : Har.playN tt c = ((tt - c.left : Nat) : Int) := by unfold Har.playN; rw [DA.1, if_neg (by simp)]; have := DA.2.1; omega
  have n2 : Har.playE c = 0 := by unfold Har.playE; rw [DA.1, if_neg (by simp)]
  rw [n1, n2]
  have DD := Lib.hid DA
  have HD := Lib.hid hd
  have hcl := DA.2.1
  obtain ⟨cl, hcl2⟩ : ∃ cl, cl = c.left := ⟨_, rfl⟩
  rw [← hcl2] at hcl
  rw [← hcl2]
  have HCL := Lib.hid hcl2
  obtain ⟨pl, hpl⟩ : ∃ pl, pl = tt - cl := ⟨_, rfl⟩
  rw [← hpl]
  have r1 : wrap64 ((tt : Int) - (pl : Int)) = (cl : Int) := by rw [IntWalk.wrap64_in _ (by omega)]; omega
  have r2 : wrap64 ((pl : Int) + (cl : Int)) = (tt : Int) := by rw [IntWalk.wrap64_in _ (by omega)]; omega
  clear hS n1 n2 DA hc hd hcl2 hpl
  go_wp2_with fail
  refine (Har.drain Y3.out.since cl (by omega)).mono ?_
  rintro e w4 ⟨rfl, hq4, vs4, ve4, vd4, hS⟩
  have Y4 := Lib.hid (Y3.out.after hS)
  rw [HCL.out, ← HD.out] at Y4
  rw [HCL.out, ← HD.out, ← HCL.out]
  have n1 : Har.playN cl d = (cl : Int) := by unfold Har.playN; rw [DD.out.2.2.1, if_neg (by simp), DD.out.2.2.2.1]; omega
  have n2 : Har.playE d = 0 := by unfold Har.playE; rw [DD.out.2.2.1, if_neg (by simp)]
  rw [n1, n2]
  clear n1 n2 hS
  have OV := Lib.hid (Going.over DD.out.2.2.2.2.2 (by have := HN.out; omega) DD.out.2.2.2.2.1)
  have t1 : ((tt : Int) != (tt : Int)) = false := by simp
  go_wp2_with fail
  refine (Har.steps Y4.out.since).mono ?_
  rintro e w5 ⟨rfl, rfl⟩
  rw [show d.H.steps = (tt : Int) by rw [OV.out.2.1, HT.out]]
  go_wp2_with fail
  refine (Har.idle Y4.out.har).mono ?_
  rintro e w5 ⟨rfl, k5⟩
  rw [DD.out.2.2.2.2.1]
  have Y5 := Lib.hid (Y4.out.frame0 k5)
  clear k5
  go_wp2_with fail
  go_loopw [14] (fun i wr => ∃ k : Nat, i = .int .i64 k ∧ k ≤ wk ∧ wr = w5) (fun i _ => wk - (intOf i).toNat)
  case atStart => exact ⟨0, rfl, Nat.zero_le _, rfl⟩
  case round =>
    obtain ⟨k, rfl, hk, rfl⟩ := hrel
    by_cases hlt : k < wk
    · go_wp2_with fail
      refine (Har.pending Y5.out.har (k : Int)).mono ?_
      rintro e w6 ⟨rfl, rfl⟩
      rw [show Har.pend d.H (k : Int) = 0 from OV.out.2.2.2 _]
      go_wp2_with fail
      go_roundw
      case rel => exact ⟨k + 1, by go_num, hlt, trivial⟩
      case measure => simp [intOf]; omega
    · go_wp2_with fail
      refine (Har.take Y5.out.since).mono ?_
      rintro e w6 ⟨rfl, hrow, -, hS⟩
      have hn9 : n = d.H.ended.length := by rw [OV.out.2.2.1]; exact HN.out
      obtain ⟨ta, tc, htv⟩ : ∃ a c, vd4 = .slice a n c := by
        rcases hrow.2 with ⟨e, h0⟩ | ⟨g', cap', cur', e', -⟩
        · exact ⟨none, 0, by rw [e, hn9, h0]⟩
        · exact ⟨_, _, by rw [e', hn9]⟩
      have Y6 := Lib.hid (Y5.out.after hS)
      rw [htv]
      clear hS hrow hn9 htv
      have t2 : ((n : Int) == (n : Int)) = true := by simp
      go_wp2_with fail
      refine (Har.take Y6.out.since).mono ?_
      rintro e w7 ⟨rfl, -, -, hS⟩
      have Y7 := Lib.hid (Y6.out.after hS)
      clear hS
      go_wp2_with fail
      refine (Har.events Y7.out.har (by have := Y7.out.few.1; omega)).mono ?_
      rintro e w8 ⟨ev, rfl, hrow, k8⟩
      obtain ⟨ea, ec, rfl, hes⟩ := evsIn_of hrow
      have K8 := Lib.hid (Y7.out.keep.trans k8)
      have HES := Lib.hid hes
      clear hrow k8 hes
      go_wp2_with fail
      have l9 := told wk h1 h2 a cap js (by have := HN.out; omega) w8 (HIN.out.keep K8.out) ea ec d.H.events HES.out OV.out.1
      rw [← HN.out] at l9
      refine l9.mono ?_
      rintro e w9 ⟨rfl, k9⟩
      have K9 := Lib.hid (K8.out.trans k9)
      clear l9 k9
      go_wp2_with fail
      go_ret
      exact ⟨rfl, K9.out⟩

/-- whatever comes in -/
theorem drains_any (wk : Int) (a : Option Addr) (cap : Nat) (js : List Jb) (s : ByteArray) (hs : s.size ≤ 2097152) (w : World) (hin : JobsIn w a js) :
    Calls Try.prog 10 #[.int .i64 wk, .slice a js.length cap, .string s] w fun e w' => e = .returned (.bool true) ∧ Keep [] w w' := by
  by_cases h1 : wk < 1
  · obtain ⟨n, hn⟩ : ∃ n, n = js.length := ⟨_, rfl⟩
    rw [← hn]
    clear hin hn
    go_enter Try.func10, Try.ntmps10
    go_wp2_with fail
    go_ret
    exact ⟨rfl, Keep.refl _ _⟩
  by_cases h2 : 16 < wk
  · obtain ⟨n, hn⟩ : ∃ n, n = js.length := ⟨_, rfl⟩
    rw [← hn]
    clear hin hn
    go_enter Try.func10, Try.ntmps10
    go_wp2_with fail
    go_ret
    exact ⟨rfl, Keep.refl _ _⟩
  by_cases h3 : 40 < js.length
  · obtain ⟨n, hn⟩ : ∃ n, n = js.length := ⟨_, rfl⟩
    rw [← hn] at h3 ⊢
    have h4 : ¬ wk ≤ 0 := by omega
    have h5 : 40 < (n : Int) := by omega
    clear hin hn
    go_enter Try.func10, Try.ntmps10
    go_wp2_with fail
    go_ret
    exact ⟨rfl, Keep.refl _ _⟩
  · obtain ⟨k, rfl⟩ : ∃ k : Nat, wk = k := ⟨wk.toNat, by omega⟩
    exact drains k (by omega) (by omega) a cap js (by omega) s hs w hin
end Go.Proofs.Ytdkdeiofjoccnaa.Lit
