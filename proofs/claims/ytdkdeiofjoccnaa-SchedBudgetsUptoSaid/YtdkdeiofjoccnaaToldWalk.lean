/- stratalaw03.told: the walk. -/
import Derived.Test.YtdkdeiofjoccnaaOver
namespace Go.Proofs.Ytdkdeiofjoccnaa.Lit
open Go.RowKit Go.Proofs.Ytdkdeiofjoccnaa.Mem Go.Proofs.Ytdkdeiofjoccnaa.Ar Go.Proofs.Ytdkdeiofjoccnaa.Un
open Go.Proofs.Ytdkdeiofjoccnaa.Har (Ev evs)
set_option linter.unusedVariables false
set_option maxRecDepth 100000

/-- events that lie in memory -/
structure EvsIn (w : World) (a : Option Addr) (es : List Ev) : Prop where
  cell : ∀ (i : Nat) (hi : i < es.length), ∃ g, a = some ⟨g, 0, none⟩ ∧ w.cell? ⟨g, i * 4, none⟩ = some (.int .i64 es[i].kind) ∧ w.cell? ⟨g, i * 4 + 1, none⟩ = some (.int .i64 es[i].who) ∧ w.cell? ⟨g, i * 4 + 2, none⟩ = some (.int .i64 es[i].tag) ∧ w.cell? ⟨g, i * 4 + 3, none⟩ = some (.int .i64 es[i].at_)
theorem EvsIn.keep {w w' : World} {a : Option Addr} {es : List Ev} (h : EvsIn w a es) (k : Keep [] w w') : EvsIn w' a es :=
  ⟨fun i hi => let ⟨g, e, c0, c1, c2, c3⟩ := h.cell i hi; ⟨g, e, k.cell c0 (by simp), k.cell c1 (by simp), k.cell c2 (by simp), k.cell c3 (by simp)⟩⟩
theorem evs_at (es : List Ev) (i j : Nat) (hi : i < es.length) (hj : j < 4) : (evs es)[i * 4 + j]? = es[i].cells[j]? := by
  induction es generalizing i with
  | nil => simp at hi
  | cons e es ih =>
    rw [show evs (e :: es) = e.cells ++ evs es from rfl]
    cases i with
    | zero => rw [List.getElem?_append_left (by simp [Ev.cells]; omega)]; simp
    | succ i =>
      rw [List.getElem?_append_right (by simp [Ev.cells]; omega)]
      have := ih i (by simpa using hi)
      rw [show (i + 1) * 4 + j - e.cells.length = i * 4 + j by simp [Ev.cells]; omega, this]
      simp
theorem evsIn_of {w : World} {base : Nat} {v : Value} {es : List Ev} (h : w.ownsRow base 78 4 v es.length (evs es)) : ∃ a c, v = .slice a es.length c ∧ EvsIn w a es := by
  rcases h.2 with ⟨e, h0⟩ | ⟨g, cap, cur, e, -⟩
  · exact ⟨none, 0, by rw [e, h0], ⟨fun i hi => by omega⟩⟩
  · refine ⟨some ⟨g, 0, none⟩, cap, e, ⟨fun i hi => ⟨g, rfl, ?_⟩⟩⟩
    have key : ∀ j, j < 4 → w.cell? ⟨g, i * 4 + j, none⟩ = es[i].cells[j]? := by
      intro j hj
      have h1 := h.cells (g := g) (by rw [e]; rfl) (i * 4 + j)
      have e2 : (⟨g, 0, none⟩ : Addr).add (i * 4 + j) = ⟨g, i * 4 + j, none⟩ := by unfold Addr.add; split <;> simp_all
      rw [e2, evs_at es i j hi hj] at h1
      have h4 : es[i].cells[j]? = some (es[i].cells[j]'(by simp [Ev.cells]; omega)) := List.getElem?_eq_getElem _
      rw [h4]
      exact h1 _ h4
    exact ⟨key 0 (by omega), key 1 (by omega), key 2 (by omega), key 3 (by omega)⟩

set_option maxHeartbeats 4000000 in
theorem told (wk : Nat) (h1 : 1 ≤ wk) (h2 : wk ≤ 16) (a : Option Addr) (cap : Nat) (js : List Jb) (hj : js.length ≤ 40) (w : World) (hin : JobsIn w a js) (b : Option Addr) (ce : Nat) (es : List Ev) (hes : EvsIn w b es) (hok : ToldOk wk js es) :
    Calls Try.prog 45 #[.int .i64 wk, .slice a js.length cap, .slice b es.length ce] w fun e w' => e = .returned (.bool true) ∧ Keep [] w w' := by
  have r1 : wrap64 (2 * (js.length : Int)) = (es.length : Int) := by rw [IntWalk.wrap64_in _ (by omega), hok.len]; omega
  obtain ⟨n, hn⟩ : ∃ n, n = js.length := ⟨_, rfl⟩
  obtain ⟨m, hm⟩ : ∃ m, m = es.length := ⟨_, rfl⟩
  rw [← hn, ← hm] at r1
  rw [← hn, ← hm]
  rw [← hn] at hj
  have r2 : m = 2 * n := by rw [hm, hn]; exact hok.len
  have HN := Lib.hid (And.intro hn hm)
  have HI := Lib.hid hin
  have HE := Lib.hid hes
  have HO := Lib.hid hok
  have HR := Lib.hid r2
  have hm80 : m ≤ 80 := by omega
  clear hn hm hin hes hok r2
  have r3 : ((m : Int) != 2 * (n : Int)) = false := by have := HR.out; simp; omega
  have r4 : ((m : Int) != (m : Int)) = false := by simp
  go_enter Try.func45, Try.ntmps45
  go_wp2_with fail
  go_loopw [7, 8] (fun last i wr => ∃ (k : Nat) (t : Int), last = .int .i64 t ∧ i = .int .i64 k ∧ k ≤ m ∧ (∀ (j : Nat) (h : j < es.length), k ≤ j → t ≤ es[j].at_) ∧ Keep [] w wr) (fun _ i _ => m - (intOf i).toNat)
  case atStart => exact ⟨0, 0, rfl, rfl, Nat.zero_le _, fun j h _ => (HO.out.range _ (List.getElem_mem h)).1, Keep.refl _ _⟩
  case round =>
    obtain ⟨k, t, rfl, rfl, hk, ht, hK⟩ := hrel
    have KR := Lib.hid hK
    have HT := Lib.hid ht
    clear hK ht
    by_cases hlt : k < m
    · have hke : k < es.length := by have := HN.out; omega
      obtain ⟨g, rfl, x0, x1, x2, x3⟩ := (HE.out.keep KR.out).cell k hke
      obtain ⟨q1, q2, q3, q4⟩ := HO.out.range es[k] (List.getElem_mem hke)
      have q5 := HT.out k hke (Nat.le_refl _)
      have HKE := Lib.hid (show ∀ (j : Nat) (h : j < es.length), k + 1 ≤ j → es[k].at_ ≤ es[j].at_ from fun j h hkj => List.pairwise_iff_getElem.1 HO.out.sorted k j hke h (by omega))
      obtain ⟨at_, hat⟩ : ∃ z, z = es[k].at_ := ⟨_, rfl⟩
      obtain ⟨who, hwho⟩ : ∃ z, z = es[k].who := ⟨_, rfl⟩
      rw [← hat] at x3 q1 q2 q5 HKE
      rw [← hwho] at x1 q3 q4
      have d1 : ¬ at_ < t := by omega
      have d2 : ¬ who < 0 := by omega
      have d3 : ¬ (wk : Int) ≤ who := by omega
      clear hat hwho x0 x2 hke
      go_wp2_with fail
      go_roundw
      case rel => exact ⟨k + 1, at_, rfl, by go_num, hlt, HKE.out, KR.out⟩
      case measure => simp [intOf]; omega
    · have KX := Lib.hid KR.out
      clear HT KR
      obtain ⟨i0, hi0, hz0, hz1, hz2⟩ := info_parts Har.infoE
      have HINF := Lib.hid hi0
      have HZ := Lib.hid (And.intro hz0 (And.intro hz1 hz2))
      clear hi0 hz0 hz1 hz2
      go_wp2_with fail
      go_loopw [9] (fun i wr => ∃ kw : Nat, i = .int .i64 kw ∧ kw ≤ wk ∧ Keep [] w wr) (fun i _ => wk - (intOf i).toNat)
      case atStart => exact ⟨0, rfl, Nat.zero_le _, KX.out⟩
      case round =>
        obtain ⟨kw, rfl, hkw, hK⟩ := hrel
        have KR := Lib.hid hK
        clear hK KX
        by_cases hlw : kw < wk
        · go_wp2_with fail
          go_loopw [10, 11] (fun v0 i wr => ∃ (q : Nat) (v : Value), v0 = v ∧ i = .int .i64 q ∧ q ≤ m ∧ wr.ownsRow w.heap.size 78 4 v (evOf kw (es.take q)).length (evs (evOf kw (es.take q))) ∧ Keep [] w wr) (fun _ i _ => m - (intOf i).toNat)
          case atStart => exact ⟨0, _, rfl, rfl, Nat.zero_le _, World.ownsRow_nil _ _ _ _, KR.out⟩
          case round =>
            obtain ⟨q, v, hv0, rfl, hq, hv, hK⟩ := hrel
            have VR := Lib.hid hv
            have KQ := Lib.hid hK
            clear hK hv
            by_cases hlq : q < m
            · have hqe : q < es.length := by have := HN.out; omega
              obtain ⟨g, rfl, x0, x1, x2, x3⟩ := (HE.out.keep KQ.out).cell q hqe
              obtain ⟨e, hee⟩ : ∃ e, e = es[q] := ⟨_, rfl⟩
              rw [← hee] at x0 x1 x2 x3
              have htk : es.take (q + 1) = es.take q ++ [e] := by rw [List.take_succ_eq_append_getElem hqe, hee]
              have HTK := Lib.hid htk
              have hvl : (evOf kw (es.take q)).length ≤ 80 := by
                have h1 := List.length_filter_le (fun e : Ev => e.who == (kw : Int)) (es.take q)
                rw [List.length_take] at h1
                show (List.filter _ _).length ≤ 80
                omega
              obtain ⟨va, vc, hvs⟩ : ∃ a c, v = .slice a (evOf kw (es.take q)).length c := by
                rcases VR.out.2 with ⟨e', h0⟩ | ⟨g', cap', cur', e', -⟩
                · exact ⟨none, 0, by rw [e', h0]⟩
                · exact ⟨_, _, e'⟩
              subst hvs
              subst hv0
              clear htk hee hqe
              by_cases hw' : e.who = kw
              · obtain ⟨ek, ew, et, ea⟩ := e
                obtain rfl : ew = (kw : Int) := hw'
                have d1 := Lib.hid (show (evOf kw (es.take q)).length + 1 ≤ maxLen by unfold maxLen; omega)
                have d2 := Lib.hid (show ((evOf kw (es.take q)).length + 1) * 32 ≤ 140737488355328 by omega)
                have HOWN := Lib.hid (VR.out.alloc (.cells #[.int .i64 ek, .int .i64 (kw : Int), .int .i64 et, .int .i64 ea] 78))
                have HBS := Lib.hid (show w.heap.size ≤ (wr.alloc (.cells #[.int .i64 ek, .int .i64 (kw : Int), .int .i64 et, .int .i64 ea] 78)).heap.size by have := KQ.out.size; simp; omega)
                have HNEW := Lib.hid (alloc_new wr (.cells #[.int .i64 ek, .int .i64 (kw : Int), .int .i64 et, .int .i64 ea] 78))
                have HONE := Lib.hid (Har.ev_one [⟨ek, (kw : Int), et, ea⟩])
                go_wp2_with (at_builtin; refine wpList_append_lies _ rfl _ _ 67 rfl w.heap.size 78 i0 _ 4 32 Try.underlying67 HINF.out HZ.out.1 HZ.out.2.1 HZ.out.2.2 rfl (by decide) (.slice va (evOf kw (es.take q)).length vc) (evOf kw (es.take q)).length (evs (evOf kw (es.take q))) rfl HOWN.out ⟨wr.heap.size, 0, none⟩ 1 1 (evs [⟨ek, (kw : Int), et, ea⟩]) rfl rfl (World.news_of_block (cs := #[.int .i64 ek, .int .i64 (kw : Int), .int .i64 et, .int .i64 ea]) (fr := (0, 0)) HNEW.out) HONE.out (by decide) d1.out d2.out HBS.out _ rfl ?_)
                intro g8 cap8 w8 hown8 hgrow8 hat8 hlt8
                have K8 := Lib.hid (show Keep [] w w8 from (KQ.out.alloc _).chain (T := (Value.slice va (evOf kw (es.take q)).length vc).ownBlock.toList) ⟨hgrow8.os, hgrow8.tape, hgrow8.output, hgrow8.size, fun i hi hn => hgrow8.block i hi fun e => hn (by rw [← e]; simp)⟩ fun x hx => .inr (VR.out.lt x (by simpa using hx)).1)
                have W8 := Lib.hid hown8
                clear hown8 hgrow8 hat8 hlt8 HNEW HOWN HBS HONE
                go_wp2_with fail
                go_roundw
                case rel =>
                  refine ⟨q + 1, _, rfl, by go_num, hlq, ?_, K8.out⟩
                  have e1 : evOf kw (es.take q ++ [⟨ek, (kw : Int), et, ea⟩]) = evOf kw (es.take q) ++ [⟨ek, (kw : Int), et, ea⟩] := by
                    rw [evOf_append]; simp [evOf]
                  rw [HTK.out, e1, List.length_append, List.length_singleton, show evs (evOf kw (es.take q) ++ [⟨ek, (kw : Int), et, ea⟩]) = evs (evOf kw (es.take q)) ++ evs [⟨ek, (kw : Int), et, ea⟩] by simp [evs]]
                  exact W8.out
                case measure => simp [intOf]; omega
              · have hw2 : (e.who == (kw : Int)) = false := by simpa using hw'
                have HW := Lib.hid hw2
                clear hw'
                go_wp2_with fail
                go_roundw
                case rel =>
                  refine ⟨q + 1, _, rfl, by go_num, hlq, ?_, KQ.out⟩
                  rw [HTK.out, evOf_append, show evOf kw [e] = [] by simp [evOf, HW.out], List.append_nil]
                  exact VR.out
                case measure => simp [intOf]; omega
            · have hqm : q = m := by omega
              have htk : es.take q = es := List.take_of_length_le (by have := HN.out; omega)
              rw [htk] at VR
              subst hv0
              obtain ⟨oa, oc, hvs, hO⟩ := evsIn_of VR.out
              subst hvs
              have OI := Lib.hid hO
              have OL := Lib.hid (HO.out.own_len hlw)
              obtain ⟨ol, hol⟩ : ∃ ol, ol = (evOf kw es).length := ⟨_, rfl⟩
              rw [← hol]
              have HOL := Lib.hid hol
              have KQ2 := Lib.hid KQ.out
              clear hqm htk hO hol VR KQ
              go_wp2_with fail
              have W0 := Lib.hid KQ2.out
              obtain ⟨wo, hwo⟩ : ∃ wo, wo = wr := ⟨_, rfl⟩
              have HWO := Lib.hid hwo
              rw [← hwo] at OI W0
              clear hwo
              go_loopw [12, 13] (fun kk i wx => ∃ q : Nat, kk = .int .i64 ((2 * cnt wk js kw q : Nat) : Int) ∧ i = .int .i64 q ∧ q ≤ n ∧ Keep [] wo wx) (fun _ i _ => n - (intOf i).toNat)
              case atStart => exact ⟨0, rfl, rfl, Nat.zero_le _, by rw [HWO.out]; exact Keep.refl _ _⟩
              case round =>
                obtain ⟨q, rfl, rfl, hqn, hKX⟩ := hrel
                have KX2 := Lib.hid hKX
                clear hKX
                by_cases hlq : q < n
                · have hqj : q < js.length := by have := HN.out; omega
                  obtain ⟨g, o, rfl, x0, x1, x2⟩ := ((HI.out.keep W0.out).keep KX2.out).cell q hqj
                  obtain ⟨j, hjj⟩ : ∃ j, j = js[q] := ⟨_, rfl⟩
                  have hjd : js.getD q ⟨0, 0, 0⟩ = j := by rw [hjj, List.getD_eq_getElem?_getD, List.getElem?_eq_getElem hqj]; rfl
                  rw [← hjj] at x0 x1 x2
                  have HJD := Lib.hid (And.intro hjd hqj)
                  have w1' : IntKind.u64.wrap (wk : Int) = (wk : Int) := by
                    unfold IntKind.wrap
                    simp only [IntKind.bits, IntKind.signed]
                    simp
                    omega
                  have w2' : wrap64 ((IntKind.u64.wrap j.who).tmod (wk : Int)) = ((j.w wk : Nat) : Int) := rem_eq j.who wk h1 (by omega)
                  have w3' : ¬ (wk : Int) = 0 := by omega
                  have w4' : ¬ wk = 0 := by omega
                  have w5' : ((wk : Int) == 0) = false := by simpa using w4'
                  clear hjj hjd hqj
                  by_cases hww : j.w wk = kw
                  · obtain ⟨c, d, p1, p2, hcd, b1, b2, b3, b4⟩ := HO.out.job hlw HJD.out.2 (by rw [HJD.out.1]; exact hww)
                    obtain ⟨u, hu⟩ : ∃ u, u = 2 * cnt wk js kw q := ⟨_, rfl⟩
                    rw [← hu] at p1 p2
                    rw [← hu]
                    have hu2 : u + 1 < (evOf kw es).length := by
                      apply Decidable.byContradiction
                      intro hn
                      rw [List.getElem?_eq_none (by omega)] at p2
                      cases p2
                    obtain ⟨g1, rfl, y0, y1, y2, y3⟩ := (OI.out.keep KX2.out).cell u (by omega)
                    obtain ⟨g2, hg2, z0, z1, z2, z3⟩ := (OI.out.keep KX2.out).cell (u + 1) hu2
                    simp only [Option.some.injEq, Addr.mk.injEq, and_true] at hg2
                    subst hg2
                    have q1 : (evOf kw es)[u] = ⟨1, kw, tagOf js q, c⟩ := by rw [List.getElem?_eq_getElem (by omega)] at p1; exact Option.some.inj p1
                    have q2 : (evOf kw es)[u + 1] = ⟨2, kw, tagOf js q, d⟩ := by rw [List.getElem?_eq_getElem hu2] at p2; exact Option.some.inj p2
                    have q3 : tagOf js q = j.tag := by unfold tagOf; rw [HJD.out.1]
                    have q4 : costOf js q = max 1 j.n := by unfold costOf; rw [HJD.out.1]; rfl
                    simp only [q1, q2, q3] at y0 y1 y2 y3 z0 z1 z2 z3
                    rw [q4] at hcd
                    have HU := Lib.hid hu
                    have HWW := Lib.hid hww
                    have hol2 : u + 1 < ol := by rw [HOL.out]; exact hu2
                    have e1 : wrap64 ((IntKind.u64.wrap j.len).tmod 11) = (j.n : Int) := rem_eq j.len 11 (by omega) (by omega)
                    obtain ⟨mm, hmm⟩ : ∃ mm, mm = j.n := ⟨_, rfl⟩
                    rw [← hmm] at e1 hcd
                    have mx := max_run mm
                    obtain ⟨nn, hnn⟩ : ∃ nn, nn = max 1 mm := ⟨_, rfl⟩
                    rw [← hnn] at hcd mx
                    have hw6 : ((kw : Int) != (kw : Int)) = false := by simp
                    rw [hww] at w2'
                    have x1b := fun o o' => (((Keep.refl [] wr).alloc o).alloc o').cell x1 (by simp)
                    have x2b := fun o o' => (((Keep.refl [] wr).alloc o).alloc o').cell x2 (by simp)
                    have z0a := fun o => ((Keep.refl [] wr).alloc o).cell z0 (by simp)
                    have z1a := fun o => ((Keep.refl [] wr).alloc o).cell z1 (by simp)
                    have z2a := fun o => ((Keep.refl [] wr).alloc o).cell z2 (by simp)
                    have z3a := fun o => ((Keep.refl [] wr).alloc o).cell z3 (by simp)
                    have hol80 : ol ≤ 80 := by
                      have h9 : (evOf kw es).length ≤ es.length := List.length_filter_le _ _
                      have := HN.out
                      have := HOL.out
                      omega
                    obtain ⟨u1, hu1⟩ : ∃ u1, u1 = u + 1 := ⟨_, rfl⟩
                    have r7 : wrap64 ((u : Int) + 1) = (u1 : Int) := by rw [IntWalk.wrap64_in _ (by omega)]; omega
                    have r8 : wrap64 ((u : Int) + 2) = ((u1 + 1 : Nat) : Int) := by rw [IntWalk.wrap64_in _ (by omega)]; omega
                    rw [← hu1] at hol2 z0a z1a z2a z3a
                    have hol1 : u < ol := by omega
                    have hol3 : ¬ ol ≤ u1 := by omega
                    have HU1 := Lib.hid hu1
                    have f1 : wrap64 (d - c) = d - c := IntWalk.wrap64_in _ (by omega)
                    have f2 : ¬ d - c < (nn : Int) := by omega
                    have f3 : (j.tag != j.tag) = false := by simp
                    have f4 : decide (d - c < (nn : Int)) = false := by simpa using f2
                    clear q1 q2 q3 q4 p1 p2 hu hu2 hu1 hww hmm hnn z0 z1 z2 z3 x2 b1 b2 b3 b4 w4' hol80
                    go_upto_region 30 with fail
                    obtain ⟨cb, hcb⟩ : ∃ cb, cb = wr.heap.size := ⟨_, rfl⟩
                    obtain ⟨db, hdb⟩ : ∃ db, db = wr.heap.size + 1 := ⟨_, rfl⟩
                    obtain ⟨w5, hw5⟩ : ∃ w5, w5 = (wr.alloc (.cells #[.int .i64 1, .int .i64 kw, .int .i64 j.tag, .int .i64 c] 78)).alloc (.cells #[.int .i64 2, .int .i64 kw, .int .i64 j.tag, .int .i64 d] 78) := ⟨_, rfl⟩
                    have K5 := Lib.hid (show Keep [] wr w5 by rw [hw5]; exact ((Keep.refl _ _).alloc _).alloc _)
                    have bc : w5.heap[cb]? = some (.cells #[.int .i64 1, .int .i64 kw, .int .i64 j.tag, .int .i64 c] 78 (0, 0)) := by rw [hw5, hcb]; exact alloc_some _ (alloc_new wr _)
                    have bd : w5.heap[db]? = some (.cells #[.int .i64 2, .int .i64 kw, .int .i64 j.tag, .int .i64 d] 78 (0, 0)) := by
                      have := alloc_new (wr.alloc (.cells #[.int .i64 1, .int .i64 kw, .int .i64 j.tag, .int .i64 c] 78)) (.cells #[.int .i64 2, .int .i64 kw, .int .i64 j.tag, .int .i64 d] 78)
                      rw [World.size_alloc] at this
                      rw [hw5, hdb]
                      exact this
                    have v0 := (cell_of bc 0).trans rfl
                    have v2 := (cell_of bc 2).trans rfl
                    have v3 := (cell_of bc 3).trans rfl
                    have u0 := (cell_of bd 0).trans rfl
                    have u2 := (cell_of bd 2).trans rfl
                    have u3 := (cell_of bd 3).trans rfl
                    have x15 : w5.cell? ⟨g, o + q * 3 + 1, none⟩ = some (.int .i64 j.tag) := by rw [hw5]; exact x1b _ _
                    rw [← hw5, ← hdb, ← hcb]
                    clear hw5 hdb hcb bc bd y0 y1 y2 y3 z0a z1a z2a z3a x1b x2b mx e1 r7 hol1 hol2 hol3
                    go_quiet (fail)
                    obtain ⟨w6, hw6'⟩ : ∃ w6, w6 = w5.drewN nq := ⟨_, rfl⟩
                    have K6 := Lib.hid (show Keep [] wo w6 by rw [hw6']; exact (KX2.out.trans K5.out).drewN nq)
                    rw [← hw6']
                    clear hw6' v0 v2 v3 u0 u2 u3 x15
                    go_wp2_with fail
                    go_roundw
                    case rel =>
                      refine ⟨q + 1, ?_, by go_num, hlq, K6.out⟩
                      rw [cnt_yes (by rw [HJD.out.1]; exact HWW.out), r8]
                      congr 1
                      have := HU.out
                      have := HU1.out
                      omega
                    case measure => simp [intOf]; omega
                  · have hw6 : (((j.w wk : Nat) : Int) != (kw : Int)) = true := by simp; omega
                    have HWW := Lib.hid hww
                    obtain ⟨v, hv⟩ : ∃ v, v = j.w wk := ⟨_, rfl⟩
                    rw [← hv] at w2' hw6
                    clear hww hv
                    go_wp2_with fail
                    go_roundw
                    case rel =>
                      refine ⟨q + 1, ?_, by go_num, hlq, KX2.out⟩
                      rw [cnt_no (by rw [HJD.out.1]; exact HWW.out)]
                    case measure => simp [intOf]; omega
                · have hqe : q = n := by omega
                  have hce : 2 * cnt wk js kw q = ol := by rw [HOL.out, OL.out, hqe, HN.out.1]
                  have KE := Lib.hid (W0.out.trans KX2.out)
                  rw [hce]
                  have r6 : ((ol : Int) != (ol : Int)) = false := by simp
                  clear hqe hce
                  go_wp2_with fail
                  go_roundw
                  case rel => exact ⟨kw + 1, by go_num, hlw, KE.out⟩
                  case measure => simp [intOf]; omega
        · go_wp2_with fail
          go_ret
          exact ⟨rfl, KR.out⟩
end Go.Proofs.Ytdkdeiofjoccnaa.Lit
