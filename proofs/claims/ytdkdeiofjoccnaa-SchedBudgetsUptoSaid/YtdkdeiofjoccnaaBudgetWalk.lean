/- SchedBudgets: the walk. -/
import Derived.Test.YtdkdeiofjoccnaaSameEv
import Derived.Test.YtdkdeiofjoccnaaDrainWalk
namespace Go.Proofs.Ytdkdeiofjoccnaa.Lit
open Go.RowKit Go.Proofs.Ytdkdeiofjoccnaa.Mem Go.Proofs.Ytdkdeiofjoccnaa.Ar Go.Proofs.Ytdkdeiofjoccnaa.Un
open Go.Proofs.Ytdkdeiofjoccnaa.Har (Ev evs)
set_option linter.unusedVariables false
set_option maxRecDepth 100000

set_option maxHeartbeats 4000000 in
theorem budgets (wk : Nat) (h1 : 1 ≤ wk) (h2 : wk ≤ 16) (a : Option Addr) (cap : Nat) (js : List Jb) (hj : js.length ≤ 40) (s : ByteArray) (hs : s.size ≤ 2097152) (b : Nat) (hbb : b ≤ 9223372036854775807) (w : World) (hin : JobsIn w a js) :
    Calls Try.prog 9 #[.int .i64 wk, .slice a js.length cap, .string s, .int .i64 b] w fun e w' => e = .returned (.bool true) ∧ Keep [] w w' := by
  have HIN := Lib.hid hin
  have hsz := Lib.hid (Pick.size_data s)
  have hln := Lib.hid (Pick.dec_length s.data.toList)
  obtain ⟨n, hn⟩ : ∃ n, n = js.length := ⟨_, rfl⟩
  have HN := Lib.hid hn
  rw [← hn]
  rw [← hn] at hj
  clear hin hn
  go_enter Try.func9, Try.ntmps9
  go_wp2_with fail
  have l0 := laid wk h1 h2 a cap js (by have := HN.out; omega) w HIN.out
  rw [← HN.out] at l0
  refine l0.mono ?_
  clear l0
  rintro e w1 ⟨hb, P, S, H, rfl, hL⟩
  have L1 := Lib.hid hL
  obtain ⟨hq, vs, ve, vd, hY, hH, hdue⟩ := hL
  have Y1 := Lib.hid hY
  have htl := total_le js
  rw [← HN.out] at htl
  obtain ⟨tt, htt⟩ : ∃ tt, tt = total js := ⟨_, rfl⟩
  rw [← htt] at htl
  rw [← htt]
  have HT := Lib.hid htt
  have htl : tt ≤ 440 := by omega
  clear hY hH hdue htt
  go_wp2_with fail
  have l0 := laid wk h1 h2 a cap js (by have := HN.out; omega) w1 (HIN.out.keep Y1.out.keep)
  rw [← HN.out, ← HT.out] at l0
  refine l0.mono ?_
  clear l0
  rintro e w2 ⟨gb, P', S', H', rfl, hL⟩
  have L2 := Lib.hid hL
  obtain ⟨gq, vs', ve', vd', hY', hH', hdue'⟩ := hL
  have Y2 := Lib.hid (Y1.out.frame0 hY'.keep)
  have G2 : Hid (Yard w w2 gb gq vs' ve' vd' P' S' H') := Lib.hid ⟨hY'.stand, hY'.har, hY'.ok, hY'.few, hY'.ap1, fun x hx => Nat.le_trans Y1.out.keep.size (hY'.new x hx), Y1.out.keep.trans hY'.keep⟩
  have GN := Lib.hid hY'.new
  clear hY' hH' hdue'
  go_wp2_with fail
  refine (Pick.decode s _ hs).mono ?_
  rintro e w3 ⟨v, rfl, hrow, k3⟩
  have Y3 := Lib.hid (Y2.out.frame0 k3)
  have G3 := Lib.hid (G2.out.frame0 k3)
  obtain ⟨pa, pc, hpv, hh⟩ := handed_of (T := Har.blocks hb hq (ve :: vd :: vs) ++ (machs P).B) hrow (fun x hx => (dec_small _ x hx).2) (yardT Y2.out)
  obtain ⟨pa', pc', hpv', hh'⟩ := handed_of (T := Har.blocks hb hq (ve :: vd :: vs) ++ (machs P).B ++ (Har.blocks gb gq (ve' :: vd' :: vs') ++ (machs P').B)) hrow (fun x hx => (dec_small _ x hx).2) (fun x hx => by
    rcases List.mem_append.1 hx with hx | hx
    · exact yardT Y2.out x hx
    · exact yardT G2.out x hx)
  rw [hpv] at hpv'
  simp only [Value.slice.injEq, true_and] at hpv'
  obtain ⟨rfl, rfl⟩ := hpv'
  subst hpv
  have HH := Lib.hid hh
  have HH2 := Lib.hid hh'
  clear hh hh' hrow k3
  go_wp2_with fail
  refine (Har.play Y3.out.since tt (by omega) pa pc (Pick.dec s.data.toList) HH.out (by have := hln.out; have := hsz.out; omega)).mono ?_
  rintro e w4 ⟨rfl, hq4, vs4, ve4, vd4, hS⟩
  have Y4 := Lib.hid (Y3.out.after hS)
  have hdis : ∀ x ∈ Har.blocks hb hq (ve :: vd :: vs) ++ (machs P).B, x ∉ P'.all ∧ x ∉ Har.blocks gb gq (ve' :: vd' :: vs') := fun x hx => by
    have h3 := yardT Y1.out x hx
    exact ⟨fun hm => by have := GN.out x (.inl hm); omega, fun hm => by have := GN.out x (.inr hm); omega⟩
  have G4 := Lib.hid (G3.out.off hS.keep hdis Y4.out.keep)
  have HH4 : Hid (Har.Handed w4 (Har.blocks gb gq (ve' :: vd' :: vs') ++ (machs P').B) pa (Pick.dec s.data.toList)) := Lib.hid (by
    have h3 := HH2.out.keep ((Keep.refl (Har.blocks hb hq (ve :: vd :: vs) ++ (machs P).B ++ (Har.blocks gb gq (ve' :: vd' :: vs') ++ (machs P').B)) w3).chain hS.keep fun x hx => .inl (List.mem_append_left _ hx))
    exact ⟨h3.cell, fun g o e => ⟨fun hm => (h3.off g o e).1 (List.mem_append_right _ hm), (h3.off g o e).2⟩, h3.small⟩)
  have HOWN := Lib.hid hS.own
  obtain ⟨c, hc⟩ : ∃ c, c = Har.playC (machs P) (Pick.dec s.data.toList) ⟨H, S, tt, false⟩ := ⟨_, rfl⟩
  obtain ⟨d, hd⟩ : ∃ d, d = Har.playC (machs P') (Pick.dec s.data.toList) ⟨H', S', b, false⟩ := ⟨_, rfl⟩
  have hc' := hc
  rw [HT.out] at hc'
  have BL := budget_law L1.out L2.out h1 (by have := HN.out; omega) (Pick.dec s.data.toList) b hc' hd
  rw [← HT.out] at BL
  rw [← hc] at Y4
  rw [← hc]
  obtain ⟨N, hN⟩ : ∃ N, N = tt - c.left := ⟨_, rfl⟩
  have n1 : Har.playN tt c = (N : Int) := by unfold Har.playN; rw [BL.1, if_neg (by simp)]; have := BL.2.1; omega
  have n2 : Har.playE c = 0 := by unfold Har.playE; rw [BL.1, if_neg (by simp)]
  have n3 : c.H.steps = (N : Int) := by rw [BL.2.2.1, hN]
  rw [n1, n2]
  have hN440 : N ≤ 440 := by omega
  have key : ∃ K : Nat, Har.playN b d = (K : Int) ∧ d.H.steps = (K : Int) ∧ K ≤ N ∧ min b N = K ∧ ((Har.playE d = 34 ∧ b < N) ∨ (Har.playE d = 0 ∧ N ≤ b)) := by
    obtain ⟨b1, b2, b3, b4, b5, b6, b7, b8⟩ := BL
    refine ⟨b - d.left, ?_, b5, ?_⟩
    · unfold Har.playN
      split
      · rename_i hdry
        have := (b6 hdry).1
        omega
      · omega
    · cases hdry : d.dry
      · have h3 := b7 hdry
        refine ⟨by omega, by rw [Nat.min_def]; split <;> omega, .inr ⟨by unfold Har.playE; rw [hdry, if_neg (by simp)], by omega⟩⟩
      · have h3 := b6 hdry
        refine ⟨by omega, by rw [Nat.min_def]; split <;> omega, .inl ⟨by unfold Har.playE; rw [hdry, if_pos rfl], by omega⟩⟩
  obtain ⟨K, m1, m2, hKN, hmin, hcase⟩ := key
  have mn := min_run b N
  rw [hmin] at mn
  have EV := Lib.hid BL.2.2.2.2.2.2.2
  have hbn : ¬ (b : Int) < 0 := by omega
  have HS3 := Lib.hid (show ∀ x ∈ Har.blocks gb gq (ve' :: vd' :: vs') ++ (machs P').B, x ∉ P.all ∧ x ∉ Har.blocks hb hq4 (ve4 :: vd4 :: vs4) from fun x hx => by
    have h4 : w1.heap.size ≤ x := by
      rcases List.mem_append.1 hx with hx | hx
      · exact GN.out x (.inr hx)
      · exact GN.out x (.inl hx)
    have h5 := yardT G3.out x hx
    refine ⟨fun hm => by have := Y1.out.lt x (.inl hm); omega, fun hm => ?_⟩
    rcases HOWN.out x hm with h6 | h6
    · have := Y1.out.lt x (.inr h6); omega
    · omega)
  have HD := Lib.hid hd
  have e1 : ((N : Int) != (N : Int)) = false := by simp
  have e2 : ((K : Int) != (K : Int)) = false := by simp
  have HN3 := Lib.hid n3
  have HM := Lib.hid (And.intro m1 m2)
  clear hS hdis BL hc hc' hd hN n1 n2 n3 m1 m2 hmin
  rcases hcase with ⟨f1, f2⟩ | ⟨f1, f2⟩
  all_goals
    have f3 := Lib.hid f1
    clear f1
    go_wp2_with fail
    refine (Har.play G4.out.since b hbb pa pc (Pick.dec s.data.toList) HH4.out (by have := hln.out; have := hsz.out; omega)).mono ?_
    rintro e w5 ⟨rfl, gq5, vs5, ve5, vd5, hS⟩
    have G5 := Lib.hid (G4.out.after hS)
    have Y5 := Lib.hid (Y4.out.off hS.keep HS3.out G5.out.keep)
    rw [← HD.out] at G5
    rw [← HD.out, HM.out.1, f3.out]
    clear hS
    go_wp2_with fail
    refine (Har.steps Y5.out.since).mono ?_
    rintro e w6 ⟨rfl, rfl⟩
    rw [HN3.out]
    go_wp2_with fail
    refine (Har.steps G5.out.since).mono ?_
    rintro e w6 ⟨rfl, rfl⟩
    rw [HM.out.2]
    go_wp2_with fail
    refine (Har.events Y5.out.har (by have := Y5.out.few.1; omega)).mono ?_
    rintro e w6 ⟨ev, rfl, hrow, k6⟩
    obtain ⟨ea, ec, rfl, hes⟩ := evsIn_of hrow
    have HES := Lib.hid hes
    have K6 := Lib.hid (Y5.out.keep.trans k6)
    have G6 := Lib.hid (G5.out.frame0 k6)
    obtain ⟨es, hese⟩ : ∃ es, es = c.H.events := ⟨_, rfl⟩
    have hmm : es.length ≤ 1000000000000 := by have := Y5.out.few.1; rw [hese]; omega
    rw [← hese] at HES EV
    rw [← hese]
    obtain ⟨m, hm⟩ : ∃ m, m = es.length := ⟨_, rfl⟩
    rw [← hm] at hmm
    rw [← hm]
    have HM2 := Lib.hid hm
    obtain ⟨i0, hi0, hz0, hz1, hz2⟩ := info_parts Har.infoE
    have HINF := Lib.hid hi0
    have HZ := Lib.hid (And.intro hz0 (And.intro hz1 hz2))
    clear hi0 hz0 hz1 hz2 hrow k6 hes hese hm
    go_wp2_with fail
    go_loopw [20, 22] (fun v0 i wr => ∃ (q : Nat) (v : Value), v0 = v ∧ i = .int .i64 q ∧ q ≤ m ∧ wr.ownsRow w6.heap.size 78 4 v ((es.take q).filter (early K)).length (evs ((es.take q).filter (early K))) ∧ Keep [] w6 wr) (fun _ i _ => m - (intOf i).toNat)
    case atStart => exact ⟨0, _, rfl, rfl, Nat.zero_le _, World.ownsRow_nil _ _ _ _, Keep.refl _ _⟩
    case round =>
      obtain ⟨q, v, hv0, rfl, hq, hv, hK⟩ := hrel
      have VR := Lib.hid hv
      have KQ := Lib.hid hK
      clear hK hv
      by_cases hlq : q < m
      · have hqe : q < es.length := by have := HM2.out; omega
        obtain ⟨g, rfl, x0, x1, x2, x3⟩ := (HES.out.keep KQ.out).cell q hqe
        obtain ⟨e, hee⟩ : ∃ e, e = es[q] := ⟨_, rfl⟩
        rw [← hee] at x0 x1 x2 x3
        have htk : es.take (q + 1) = es.take q ++ [e] := by rw [List.take_succ_eq_append_getElem hqe, hee]
        have HTK := Lib.hid htk
        have hvl : ((es.take q).filter (early K)).length ≤ 1000000000000 := by
          have h1 := List.length_filter_le (early (K : Int)) (es.take q)
          rw [List.length_take] at h1
          omega
        obtain ⟨va, vc, hvs⟩ : ∃ a c, v = .slice a ((es.take q).filter (early K)).length c := by
          rcases VR.out.2 with ⟨e', h0⟩ | ⟨g', cap', cur', e', -⟩
          · exact ⟨none, 0, by rw [e', h0]⟩
          · exact ⟨_, _, e'⟩
        subst hvs
        subst hv0
        obtain ⟨fl, hfl⟩ : ∃ fl, fl = (es.take q).filter (early K) := ⟨_, rfl⟩
        rw [← hfl] at VR hvl
        rw [← hfl]
        have HFL := Lib.hid hfl
        clear htk hee hqe hfl
        obtain ⟨ek, ew, et, ea'⟩ := e
        simp only at x0 x1 x2 x3
        by_cases hE : early K ⟨ek, ew, et, ea'⟩ = true
        · have hcase : ea' < K ∨ (¬ ea' < K ∧ (ea' == (K : Int)) = true ∧ (ek == 2) = true) := by
            by_cases h3 : ea' < K
            · exact .inl h3
            · simp only [early, h3, decide_false, Bool.false_or, Bool.and_eq_true] at hE
              exact .inr ⟨h3, hE⟩
          have HE := Lib.hid hE
          have d1 := Lib.hid (show fl.length + 1 ≤ maxLen by unfold maxLen; omega)
          have d2 := Lib.hid (show (fl.length + 1) * 32 ≤ 140737488355328 by omega)
          clear hE
          have HOWN := Lib.hid (VR.out.alloc (.cells #[.int .i64 ek, .int .i64 ew, .int .i64 et, .int .i64 ea'] 78))
          have HBS := Lib.hid (show w6.heap.size ≤ (wr.alloc (.cells #[.int .i64 ek, .int .i64 ew, .int .i64 et, .int .i64 ea'] 78)).heap.size by have := KQ.out.size; simp; omega)
          have HNEW := Lib.hid (alloc_new wr (.cells #[.int .i64 ek, .int .i64 ew, .int .i64 et, .int .i64 ea'] 78))
          have HONE := Lib.hid (Har.ev_one [⟨ek, ew, et, ea'⟩])
          rcases hcase with hc1 | ⟨hc1, hc2, hc3⟩
          all_goals
            go_wp2_with (at_builtin; refine wpList_append_lies _ rfl _ _ 67 rfl w6.heap.size 78 i0 _ 4 32 Try.underlying67 HINF.out HZ.out.1 HZ.out.2.1 HZ.out.2.2 rfl (by decide) (.slice va fl.length vc) fl.length (evs fl) rfl HOWN.out ⟨wr.heap.size, 0, none⟩ 1 1 (evs [⟨ek, ew, et, ea'⟩]) rfl rfl (World.news_of_block (cs := #[.int .i64 ek, .int .i64 ew, .int .i64 et, .int .i64 ea']) (fr := (0, 0)) HNEW.out) HONE.out (by decide) d1.out d2.out HBS.out _ rfl ?_)
            intro g8 cap8 w8 hown8 hgrow8 hat8 hlt8
            have K8 := Lib.hid (show Keep [] w6 w8 from (KQ.out.alloc _).chain (T := (Value.slice va fl.length vc).ownBlock.toList) ⟨hgrow8.os, hgrow8.tape, hgrow8.output, hgrow8.size, fun i hi hn => hgrow8.block i hi fun e => hn (by rw [← e]; simp)⟩ fun x hx => .inr (VR.out.lt x (by simpa using hx)).1)
            have W8 := Lib.hid hown8
            clear hown8 hgrow8 hat8 hlt8 HNEW HOWN HBS HONE
            go_wp2_with fail
            go_roundw
            case rel =>
              refine ⟨q + 1, _, rfl, by go_num, hlq, ?_, K8.out⟩
              have e1 : (es.take q ++ [(⟨ek, ew, et, ea'⟩ : Ev)]).filter (early K) = fl ++ [⟨ek, ew, et, ea'⟩] := by
                rw [List.filter_append, ← HFL.out, List.filter_cons_of_pos HE.out, List.filter_nil]
              rw [HTK.out, e1, List.length_append, List.length_singleton, show evs (fl ++ [⟨ek, ew, et, ea'⟩]) = evs fl ++ evs [⟨ek, ew, et, ea'⟩] by simp [evs]]
              exact W8.out
            case measure => simp [intOf]; omega
        · have hcase : ¬ ea' < K ∧ ((ea' == (K : Int)) = false ∨ ((ea' == (K : Int)) = true ∧ (ek == 2) = false)) := by
            simp only [early, Bool.or_eq_true, decide_eq_true_eq, Bool.and_eq_true, not_or, not_and] at hE
            refine ⟨hE.1, ?_⟩
            cases h3 : (ea' == (K : Int))
            · exact .inl rfl
            · exact .inr ⟨rfl, by simpa using hE.2 h3⟩
          have HE := Lib.hid hE
          clear hE
          rcases hcase with ⟨hc1, hc2 | ⟨hc2, hc3⟩⟩
          all_goals
            go_wp2_with fail
            go_roundw
            case rel =>
              refine ⟨q + 1, _, rfl, by go_num, hlq, ?_, KQ.out⟩
              have e1 : (es.take q ++ [(⟨ek, ew, et, ea'⟩ : Ev)]).filter (early K) = fl := by
                rw [List.filter_append, ← HFL.out, List.filter_cons_of_neg HE.out, List.filter_nil, List.append_nil]
              rw [HTK.out, e1]
              exact VR.out
            case measure => simp [intOf]; omega
      · have hqm : q = m := by omega
        have htk : es.take q = es := List.take_of_length_le (by have := HM2.out; omega)
        rw [htk] at VR
        subst hv0
        obtain ⟨oa, oc, hvs, hO⟩ := evsIn_of VR.out
        subst hvs
        have OI := Lib.hid hO
        have GX := Lib.hid (G6.out.frame0 KQ.out)
        have KX := Lib.hid (K6.out.trans KQ.out)
        have EV2 := Lib.hid (show d.H.events = es.filter (early K) by have := EV.out; rw [HM.out.2] at this; exact this)
        rw [← EV2.out] at OI
        rw [← EV2.out]
        clear hqm htk hO VR KQ
        go_wp2_with fail
        refine (Har.events GX.out.har (by have := GX.out.few.1; omega)).mono ?_
        rintro e w8 ⟨ev8, rfl, hrow, k8⟩
        obtain ⟨ba, bc, rfl, hes⟩ := evsIn_of hrow
        have B8 := Lib.hid hes
        have O8 := Lib.hid (OI.out.keep k8)
        have K8 := Lib.hid (KX.out.trans k8)
        clear hrow k8 hes
        go_wp2_with fail
        refine (sameEv B8.out O8.out (by have := GX.out.few.1; omega)).mono ?_
        rintro e w9 ⟨rfl, mq, rfl⟩
        have K9 := Lib.hid (K8.out.drewN mq)
        go_wp2_with fail
        go_ret
        exact ⟨rfl, K9.out⟩

set_option maxHeartbeats 4000000 in
/-- .. under a budget below nought -/
theorem budgets_neg (wk : Nat) (h1 : 1 ≤ wk) (h2 : wk ≤ 16) (a : Option Addr) (cap : Nat) (js : List Jb) (hj : js.length ≤ 40) (s : ByteArray) (hs : s.size ≤ 2097152) (b : Int) (hb0 : b < 0) (w : World) (hin : JobsIn w a js) :
    Calls Try.prog 9 #[.int .i64 wk, .slice a js.length cap, .string s, .int .i64 b] w fun e w' => e = .returned (.bool true) ∧ Keep [] w w' := by
  have HIN := Lib.hid hin
  have hsz := Lib.hid (Pick.size_data s)
  have hln := Lib.hid (Pick.dec_length s.data.toList)
  obtain ⟨n, hn⟩ : ∃ n, n = js.length := ⟨_, rfl⟩
  have HN := Lib.hid hn
  rw [← hn]
  rw [← hn] at hj
  clear hin hn
  go_enter Try.func9, Try.ntmps9
  go_wp2_with fail
  have l0 := laid wk h1 h2 a cap js (by have := HN.out; omega) w HIN.out
  rw [← HN.out] at l0
  refine l0.mono ?_
  clear l0
  rintro e w1 ⟨hb, P, S, H, rfl, hL⟩
  have L1 := Lib.hid hL
  obtain ⟨hq, vs, ve, vd, hY, hH, hdue⟩ := hL
  have Y1 := Lib.hid hY
  have htl := total_le js
  rw [← HN.out] at htl
  obtain ⟨tt, htt⟩ : ∃ tt, tt = total js := ⟨_, rfl⟩
  rw [← htt] at htl
  rw [← htt]
  have HT := Lib.hid htt
  have htl : tt ≤ 440 := by omega
  clear hY hH hdue htt
  go_wp2_with fail
  have l0 := laid wk h1 h2 a cap js (by have := HN.out; omega) w1 (HIN.out.keep Y1.out.keep)
  rw [← HN.out, ← HT.out] at l0
  refine l0.mono ?_
  clear l0
  rintro e w2 ⟨gb, P', S', H', rfl, hL⟩
  have L2 := Lib.hid hL
  obtain ⟨gq, vs', ve', vd', hY', hH', hdue'⟩ := hL
  have Y2 := Lib.hid (Y1.out.frame0 hY'.keep)
  have G2 : Hid (Yard w w2 gb gq vs' ve' vd' P' S' H') := Lib.hid ⟨hY'.stand, hY'.har, hY'.ok, hY'.few, hY'.ap1, fun x hx => Nat.le_trans Y1.out.keep.size (hY'.new x hx), Y1.out.keep.trans hY'.keep⟩
  have GN := Lib.hid hY'.new
  have GZ := Lib.hid (And.intro hH'.steps hH'.events)
  clear hY' hH' hdue'
  go_wp2_with fail
  refine (Pick.decode s _ hs).mono ?_
  rintro e w3 ⟨v, rfl, hrow, k3⟩
  have Y3 := Lib.hid (Y2.out.frame0 k3)
  have G3 := Lib.hid (G2.out.frame0 k3)
  obtain ⟨pa, pc, hpv, hh⟩ := handed_of (T := Har.blocks hb hq (ve :: vd :: vs) ++ (machs P).B) hrow (fun x hx => (dec_small _ x hx).2) (yardT Y2.out)
  subst hpv
  have HH := Lib.hid hh
  clear hh hrow k3
  go_wp2_with fail
  refine (Har.play Y3.out.since tt (by omega) pa pc (Pick.dec s.data.toList) HH.out (by have := hln.out; have := hsz.out; omega)).mono ?_
  rintro e w4 ⟨rfl, hq4, vs4, ve4, vd4, hS⟩
  have Y4 := Lib.hid (Y3.out.after hS)
  have hdis : ∀ x ∈ Har.blocks hb hq (ve :: vd :: vs) ++ (machs P).B, x ∉ P'.all ∧ x ∉ Har.blocks gb gq (ve' :: vd' :: vs') := fun x hx => by
    have h3 := yardT Y1.out x hx
    exact ⟨fun hm => by have := GN.out x (.inl hm); omega, fun hm => by have := GN.out x (.inr hm); omega⟩
  have G4 := Lib.hid (G3.out.off hS.keep hdis Y4.out.keep)
  obtain ⟨c, hc⟩ : ∃ c, c = Har.playC (machs P) (Pick.dec s.data.toList) ⟨H, S, tt, false⟩ := ⟨_, rfl⟩
  have hc' := hc
  rw [HT.out] at hc'
  have BL := budget_law L1.out L1.out h1 (by have := HN.out; omega) (Pick.dec s.data.toList) 0 hc' rfl
  rw [← HT.out] at BL
  rw [← hc] at Y4
  rw [← hc]
  obtain ⟨N, hN⟩ : ∃ N, N = tt - c.left := ⟨_, rfl⟩
  have n1 : Har.playN tt c = (N : Int) := by unfold Har.playN; rw [BL.1, if_neg (by simp)]; have := BL.2.1; omega
  have n2 : Har.playE c = 0 := by unfold Har.playE; rw [BL.1, if_neg (by simp)]
  have n3 : c.H.steps = (N : Int) := by rw [BL.2.2.1, hN]
  rw [n1, n2]
  have e1 : ((N : Int) != (N : Int)) = false := by simp
  have HN3 := Lib.hid n3
  clear hS hdis BL hc hc' hN n1 n2 n3
  go_wp2_with fail
  refine (Har.play_neg b hb0 pa _ pc).mono ?_
  rintro e w5 ⟨rfl, rfl⟩
  go_wp2_with fail
  refine (Har.steps Y4.out.since).mono ?_
  rintro e w6 ⟨rfl, rfl⟩
  rw [HN3.out]
  go_wp2_with fail
  refine (Har.steps G4.out.since).mono ?_
  rintro e w6 ⟨rfl, rfl⟩
  rw [GZ.out.1]
  go_wp2_with fail
  refine (Har.events G4.out.har (by have := G4.out.few.1; omega)).mono ?_
  rintro e w6 ⟨ev, rfl, hrow, k6⟩
  obtain ⟨ea, ec, rfl, hes⟩ := evsIn_of hrow
  rw [show H'.events.length = 0 by rw [GZ.out.2]; rfl]
  have K6 := Lib.hid (G4.out.keep.trans k6)
  clear hrow hes k6
  go_wp2_with fail
  go_ret
  exact ⟨rfl, K6.out⟩

/-- whatever comes in -/
theorem budgets_any (wk : Int) (a : Option Addr) (cap : Nat) (js : List Jb) (s : ByteArray) (hs : s.size ≤ 2097152) (b : Int) (hb : b ≤ 9223372036854775807) (w : World) (hin : JobsIn w a js) :
    Calls Try.prog 9 #[.int .i64 wk, .slice a js.length cap, .string s, .int .i64 b] w fun e w' => e = .returned (.bool true) ∧ Keep [] w w' := by
  by_cases h1 : wk < 1
  · obtain ⟨n, hn⟩ : ∃ n, n = js.length := ⟨_, rfl⟩
    rw [← hn]
    clear hin hn
    go_enter Try.func9, Try.ntmps9
    go_wp2_with fail
    go_ret
    exact ⟨rfl, Keep.refl _ _⟩
  by_cases h2 : 16 < wk
  · obtain ⟨n, hn⟩ : ∃ n, n = js.length := ⟨_, rfl⟩
    rw [← hn]
    clear hin hn
    go_enter Try.func9, Try.ntmps9
    go_wp2_with fail
    go_ret
    exact ⟨rfl, Keep.refl _ _⟩
  by_cases h3 : 40 < js.length
  · obtain ⟨n, hn⟩ : ∃ n, n = js.length := ⟨_, rfl⟩
    rw [← hn] at h3 ⊢
    have h4 : ¬ wk ≤ 0 := by omega
    have h5 : 40 < (n : Int) := by omega
    clear hin hn
    go_enter Try.func9, Try.ntmps9
    go_wp2_with fail
    go_ret
    exact ⟨rfl, Keep.refl _ _⟩
  · obtain ⟨k, rfl⟩ : ∃ k : Nat, wk = k := ⟨wk.toNat, by omega⟩
    by_cases hb0 : b < 0
    · exact budgets_neg k (by omega) (by omega) a cap js (by omega) s hs b hb0 w hin
    · obtain ⟨b, rfl⟩ : ∃ k : Nat, b = k := ⟨b.toNat, by omega⟩
      exact budgets k (by omega) (by omega) a cap js (by omega) s hs b (by omega) w hin
end Go.Proofs.Ytdkdeiofjoccnaa.Lit
