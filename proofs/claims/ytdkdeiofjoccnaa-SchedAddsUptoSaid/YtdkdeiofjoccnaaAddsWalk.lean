/- SchedAdds: the walk. -/
import Derived.Test.YtdkdeiofjoccnaaAdderWalk
import Derived.Test.YtdkdeiofjoccnaaChainFn
import Derived.WalkSpells
namespace Go.Proofs.Ytdkdeiofjoccnaa.Lit
open Go.RowKit Go.Proofs.Ytdkdeiofjoccnaa.Mem Go.Proofs.Ytdkdeiofjoccnaa.Ar Go.Proofs.Ytdkdeiofjoccnaa.Un
set_option linter.unusedVariables false
set_option maxRecDepth 100000

/-- the places of the first k threads -/
def placesTo (ds : List (List Int)) (k : Nat) : List (Nat × Nat) := (List.range k).flatMap fun i => (List.range (ds.getD i []).length).map fun j => (i, j)
theorem placesTo_all (ds : List (List Int)) : placesTo ds ds.length = places ds := rfl
theorem placesTo_succ (ds : List (List Int)) (k : Nat) : placesTo ds (k + 1) = placesTo ds k ++ (List.range (ds.getD k []).length).map fun j => (k, j) := by
  unfold placesTo
  rw [List.range_succ, List.flatMap_append]
  simp
/-- .. and the first q of the next one -/
def placesAt (ds : List (List Int)) (k q : Nat) : List (Nat × Nat) := placesTo ds k ++ (List.range q).map fun j => (k, j)
theorem placesAt_zero (ds : List (List Int)) (k : Nat) : placesAt ds k 0 = placesTo ds k := by simp [placesAt]
theorem placesAt_succ (ds : List (List Int)) (k q : Nat) : placesAt ds k (q + 1) = placesAt ds k q ++ [(k, q)] := by
  unfold placesAt
  rw [List.range_succ, List.map_append, List.append_assoc]
  rfl
theorem placesAt_all (ds : List (List Int)) (k : Nat) : placesAt ds k (ds.getD k []).length = placesTo ds (k + 1) := (placesTo_succ ds k).symm
theorem placesTo_len (ds : List (List Int)) (hr : ∀ row ∈ ds, row.length ≤ 4) : ∀ k, (placesTo ds k).length ≤ 4 * k
  | 0 => by simp [placesTo]
  | k + 1 => by
    have ih := placesTo_len ds hr k
    have h4 : (ds.getD k []).length ≤ 4 := by
      by_cases hk : k < ds.length
      · rw [List.getD_eq_getElem?_getD, List.getElem?_eq_getElem hk]
        exact hr _ (List.getElem_mem hk)
      · rw [List.getD_eq_getElem?_getD, List.getElem?_eq_none (by omega)]
        simp
    rw [placesTo_succ, List.length_append, List.length_map, List.length_range]
    omega
/-- the code's sum -/
def sumOf (b : Int) (L : List (Int × Int)) : Int := uw (b + (L.map fun p => p.2 - p.1).sum)
theorem sumOf_snoc (b : Int) (L : List (Int × Int)) (f d : Int) : sumOf b (L ++ [(f, uw (f + d))]) = uw (sumOf b L + d) := by
  unfold sumOf
  rw [List.map_append, List.sum_append]
  simp only [List.map_cons, List.map_nil, List.sum_cons, List.sum_nil, uw_mod]
  omega

theorem ad_small (b : Int) (dl : List (List Int)) : Small (adLit b (cutD dl)) ∧ ((adLit b (cutD dl)).cells.length ≤ 1000000000000 ∧ (adLit b (cutD dl)).threads.length ≤ 1000000000000 ∧ ∀ p ∈ (adLit b (cutD dl)).threads, p.length ≤ 1000000000000) := by
  have hl := cutD_len dl
  have hp : ∀ p ∈ (adLit b (cutD dl)).threads, p.length ≤ 4 := by
    intro p hp
    simp only [adLit, List.mem_map] at hp
    obtain ⟨row, hrow, rfl⟩ := hp
    have := cutD_short dl row hrow
    simpa [adRow] using this
  have ht : (adLit b (cutD dl)).threads.length ≤ 4 := by simp [adLit]; omega
  have hc : (adLit b (cutD dl)).cells.length = 1 := rfl
  exact ⟨⟨by omega, by omega, fun p h => by have := hp p h; omega⟩, by omega, by omega, fun p h => by have := hp p h; omega⟩

theorem place_steps (ds : List (List Int)) (ths : List Th) (k q : Nat) : (placesAt ds k (q + 1)).map (stepAt ds ths) = (placesAt ds k q).map (stepAt ds ths) ++ [(foundAt ths (k, q), uw (foundAt ths (k, q) + deltaAt ds (k, q)))] := by
  rw [placesAt_succ, List.map_append]
  rfl
theorem mem_placesAt {ds : List (List Int)} {k q : Nat} (hk : k < ds.length) (hq : q < (ds.getD k []).length) : (k, q) ∈ places ds := mem_places.2 ⟨hk, hq⟩

/-- what is gathered: found and left, each in a row of its own -/
structure Gath (w : World) (base : Nat) (fr lr : Value) (L : List (Int × Int)) : Prop where
  f : w.ownsRow base 46 1 fr L.length (fsts L)
  l : w.ownsRow base 46 1 lr L.length (snds L)
  ap : ∀ g, fr.ownBlock = some g → lr.ownBlock ≠ some g
theorem Gath.keep {w w' : World} {base : Nat} {fr lr : Value} {L : List (Int × Int)} (h : Gath w base fr lr L) (k : Keep [] w w') : Gath w' base fr lr L :=
  ⟨Har.owns_block h.f fun x hx => k.block x (h.f.lt x hx).2 (by simp), Har.owns_block h.l fun x hx => k.block x (h.l.lt x hx).2 (by simp), h.ap⟩
theorem row_form {w : World} {base : Nat} {e : TypeId} {size n : Nat} {v : Value} {xs : List Value} (h : w.ownsRow base e size v n xs) : ∃ a c, v = .slice a n c := by
  rcases h.2 with ⟨e, h0⟩ | ⟨g, cap, cur, e, -⟩
  · exact ⟨none, 0, by rw [e, h0]⟩
  · exact ⟨_, _, e⟩
theorem one_word (x : Int) : ∀ u ∈ [Value.int .u64 x], u.oneCell' = true := by simp [Value.oneCell']

set_option maxHeartbeats 4000000 in
theorem adds_walk (b : Int) (hb : inW b) (dl : List (List Int)) (hdl : dl.length ≤ 1000000000000 ∧ ∀ r ∈ dl, r.length ≤ 1000000000000) (a : Option Addr) (cap : Nat) (s : ByteArray) (hs : s.size ≤ 2097152) (w : World) (hin : DeltasIn w a dl) :
    Calls Try.prog 11 #[.int .u64 b, .slice a dl.length cap, .string s] w fun e w' => e = .returned (.bool true) ∧ Keep [] w w' := by
  have AD := Lib.hid (adder b dl hdl a cap w hin)
  obtain ⟨n, hn⟩ : ∃ n, n = dl.length := ⟨_, rfl⟩
  rw [← hn] at AD
  rw [← hn]
  have HN := Lib.hid hn
  have HB := Lib.hid hb
  clear hn hdl hin hb
  go_enter Try.func11, Try.ntmps11
  go_wp2_with fail
  refine AD.out.mono ?_
  rintro e w1 ⟨cv, tv, rfl, hlit, k1⟩
  obtain ⟨ca, cc, rfl, hcs⟩ := hlit.cells
  obtain ⟨ta, tc, ps, rfl, hps, hts, hte⟩ := hlit.threads
  have L1 := Lib.hid hlit
  have K1 := Lib.hid k1
  obtain ⟨nt, hnt⟩ : ∃ x, x = (cutD dl).length := ⟨_, rfl⟩
  have e1 : (adLit b (cutD dl)).threads.length = nt := by rw [hnt]; simp [adLit]
  have e2 : (adLit b (cutD dl)).cells.length = 1 := rfl
  rw [e1, e2] at L1
  rw [e1, e2]
  have TS := Lib.hid hts
  have TE := Lib.hid (And.intro hps hte)
  have HNT := Lib.hid hnt
  have hnt4 : nt ≤ 4 := by rw [hnt, cutD_len]; omega
  clear hlit hcs hps hts hte k1 hnt AD
  by_cases h0 : nt = 0
  · subst h0
    go_wp2_with fail
    go_ret
    exact ⟨rfl, (K1.out).alloc _⟩
  · have h0i : ((nt : Int) == 0) = false := by simp; omega
    go_wp2_with fail
    obtain ⟨lb, hlb⟩ : ∃ x, x = w1.heap.size := ⟨_, rfl⟩
    obtain ⟨w2, hw2⟩ : ∃ w2, w2 = w1.alloc (.cells #[.slice ca 1 cc, .slice ta nt tc] 40) := ⟨_, rfl⟩
    have K2 := Lib.hid (show Keep [] w1 w2 by rw [hw2]; exact (Keep.refl _ _).alloc _)
    have B2 := Lib.hid (show w2.heap[lb]? = some (.cells #[.slice ca 1 cc, .slice ta nt tc] 40 (0, 0)) by rw [hw2, hlb]; exact alloc_new _ _)
    rw [← hw2, ← hlb]
    clear hw2 hlb
    refine (copy_lit _ (ad_small b dl).2 w2 (L1.out.keep0 K2.out)).mono ?_
    rintro e w3 ⟨cv3, tv3, rfl, hl3, k3⟩
    have L3 := Lib.hid hl3
    have K3 := Lib.hid k3
    clear hl3 k3
    have hne : dl ≠ [] := fun e => h0 (by rw [HNT.out, cutD_len, e]; rfl)
    have SND := Lib.hid (ad_sound b dl hne)
    clear hne
    go_wp2_with fail
    refine (run_ok (ad_small b dl).1 L3.out SND.out s hs).mono ?_
    rintro e w4 ⟨P, cv4, rv4, A, hP, hA, hAw, rfl, hO, k4⟩
    obtain ⟨A2, q1, q2, q3, q4, q5, q6⟩ := ad_law HB.out (cutD_short dl) SND.out hP s
    obtain rfl : A2 = A := by rw [hA] at q1; simpa using q1.symm
    obtain ⟨ths, hths⟩ : ∃ x, x = (drained (adLit b (cutD dl)) P s).s.ths := ⟨_, rfl⟩
    rw [← hths] at q3 q4 q5 hO
    rw [q2] at hO
    obtain ⟨W, hW⟩ : ∃ x, x = nth A2.words 0 0 := ⟨_, rfl⟩
    rw [← hW] at q5 q6 hO
    obtain ⟨rs, hrs⟩ : ∃ x, x = regsOf ths := ⟨_, rfl⟩
    rw [← hrs] at q3 q4 hO
    rw [← HNT.out] at q3
    obtain ⟨⟨g4, c4, rfl, hg4, hn4, hG4⟩, hR4⟩ := hO
    obtain ⟨ra, rc, hrv⟩ : ∃ a c, rv4 = .slice a (4 * nt) c := by
      rcases hR4.2 with ⟨e, h1⟩ | ⟨g, cap, cur, e, -⟩
      · exact ⟨none, 0, by rw [e]; rw [h1] at q3; rw [show 4 * nt = 0 from q3.symm]⟩
      · exact ⟨_, _, by rw [e, q3]⟩
    subst hrv
    have G4 := Lib.hid hG4
    have R4 := Lib.hid hR4
    have K4 := Lib.hid k4
    have LAW := Lib.hid (And.intro q3 (And.intro q4 (And.intro q5 q6)))
    have r4 : wrap64 (4 * (nt : Int)) = ((4 * nt : Nat) : Int) := by rw [IntWalk.wrap64_in _ (by omega)]; omega
    have t4 : (((4 * nt : Nat) : Int) != ((4 * nt : Nat) : Int)) = false := by simp
    have B4 := Lib.hid ((K3.out.trans K4.out).old B2.out (by simp))
    have m4 : ∀ ob : Obj, (w4.alloc ob).cell? ⟨lb, 1, none⟩ = some (.slice ta nt tc) := fun ob => (cell_of (alloc_some ob B4.out) 1).trans rfl
    simp only [List.length_cons, List.length_nil, Nat.zero_add]
    clear hP hA hAw q1 q2 q3 q4 q5 q6 hths hrs hW hg4 hn4 hG4 hR4 k4
    go_wp2_with fail
    obtain ⟨ob, hob⟩ : ∃ x, x = w4.heap.size := ⟨_, rfl⟩
    obtain ⟨w5, hw5⟩ : ∃ w5, w5 = w4.alloc (.cells #[.slice (some ⟨g4, 0, none⟩) 1 c4, .slice ra (4 * nt) rc] 42) := ⟨_, rfl⟩
    have K5 := Lib.hid (show Keep [] w4 w5 by rw [hw5]; exact (Keep.refl _ _).alloc _)
    have O5 := Lib.hid (show w5.heap[ob]? = some (.cells #[.slice (some ⟨g4, 0, none⟩) 1 c4, .slice ra (4 * nt) rc] 42 (0, 0)) by rw [hw5, hob]; exact alloc_new _ _)
    have B5 := Lib.hid (K5.out.old B4.out (by simp))
    have G5 := Lib.hid (K5.out.old G4.out (by simp))
    have R5 := Lib.hid (Har.owns_block R4.out fun x hx => K5.out.block x (R4.out.lt x hx).2 (by simp))
    have KW := Lib.hid ((((K1.out.trans K2.out).trans K3.out).trans K4.out).trans K5.out)
    have KT := Lib.hid (((K2.out.trans K3.out).trans K4.out).trans K5.out)
    rw [← hw5, ← hob]
    clear hw5 hob m4 r4 t4
    obtain ⟨i0, hi0, hz0, hz1, hz2⟩ := info_parts infoW64
    have HI := Lib.hid hi0
    have HZ := Lib.hid (And.intro hz0 (And.intro hz1 hz2))
    clear hi0 hz0 hz1 hz2
    go_loopw [10, 11, 12, 13] (fun fv lv sv i wr => ∃ (k : Nat) (fr lr : Value), fv = fr ∧ lv = lr ∧ sv = .int .u64 (sumOf b ((placesTo (cutD dl) k).map (stepAt (cutD dl) ths))) ∧ i = .int .i64 k ∧ k ≤ nt ∧ Gath wr w5.heap.size fr lr ((placesTo (cutD dl) k).map (stepAt (cutD dl) ths)) ∧ Keep [] w5 wr) (fun _ _ _ i _ => nt - (intOf i).toNat)
    case atStart =>
      refine ⟨0, _, _, rfl, rfl, ?_, rfl, Nat.zero_le _, ⟨World.ownsRow_nil _ _ _ _, World.ownsRow_nil _ _ _ _, fun g hg => by simp [Value.ownBlock] at hg⟩, Keep.refl _ _⟩
      show Value.int .u64 b = .int .u64 (uw (b + 0))
      rw [Int.add_zero, uw_of HB.out]
    case round =>
      obtain ⟨k, fr, lr, hfv, hlv, rfl, rfl, hk, hG, hK⟩ := hrel
      have GR := Lib.hid hG
      have KR := Lib.hid hK
      clear hG hK
      obtain ⟨wo, rfl⟩ : ∃ wo, wo = wr := ⟨_, rfl⟩
      have m1 := (cell_of (KR.out.old B5.out (by simp)) 1).trans rfl
      subst hfv hlv
      by_cases hlt : k < nt
      · have hkd : k < (cutD dl).length := by rw [← HNT.out]; exact hlt
        have hkp : k < ps.length := by rw [TE.out.1]; simpa [adLit] using hkd
        have hkt : k < (adLit b (cutD dl)).threads.length := by simpa [adLit] using hkd
        obtain ⟨tg, tof, rfl, x0⟩ := (TS.out.keep0 KT.out).at_ k hkp
        obtain ⟨a', c', he, s4⟩ := TE.out.2 k hkp hkt
        rw [ad_rowOf k hkt hkd] at he s4
        rw [he] at x0
        obtain ⟨row, hrow⟩ : ∃ x, x = (cutD dl)[k] := ⟨_, rfl⟩
        have hr4 : row.length ≤ 4 := by rw [hrow]; exact cutD_short dl _ (List.getElem_mem hkd)
        have hget : (cutD dl).getD k [] = row := by rw [hrow, List.getD_eq_getElem?_getD, List.getElem?_eq_getElem hkd]; rfl
        rw [← hrow] at x0 s4
        rw [show (adRow row).length = row.length by simp [adRow]] at x0
        have S4 := Lib.hid (s4.keep0 KT.out)
        have HG := Lib.hid (And.intro hget hkd)
        obtain ⟨rl, hrl⟩ : ∃ x, x = row.length := ⟨_, rfl⟩
        rw [← hrl] at x0 hr4
        have X0 := Lib.hid x0
        replace x0 := KR.out.cell x0 (by simp)
        have HRL := Lib.hid hrl
        have hplen : ((placesTo (cutD dl) k).map (stepAt (cutD dl) ths)).length ≤ 16 := by
          rw [List.length_map]
          have := placesTo_len (cutD dl) (cutD_short dl) k
          omega
        have HPL := Lib.hid hplen
        clear hkp hkt he s4 hrow hget hkd hrl hplen
        go_wp2_with fail
        go_loopw [10, 11, 12, 14] (fun fv lv sv j wx => ∃ (q : Nat) (fr lr : Value), fv = fr ∧ lv = lr ∧ sv = .int .u64 (sumOf b ((placesAt (cutD dl) k q).map (stepAt (cutD dl) ths))) ∧ j = .int .i64 q ∧ q ≤ rl ∧ Gath wx w5.heap.size fr lr ((placesAt (cutD dl) k q).map (stepAt (cutD dl) ths)) ∧ Keep [] w5 wx) (fun _ _ _ j _ => rl - (intOf j).toNat)
        case atStart => exact ⟨0, _, _, rfl, rfl, by rw [placesAt_zero], rfl, Nat.zero_le _, by rw [placesAt_zero]; exact GR.out, KR.out⟩
        case round =>
          obtain ⟨q, fr, lr, hfv, hlv, rfl, rfl, hq, hG, hK⟩ := hrel
          have GX := Lib.hid hG
          have KX := Lib.hid hK
          clear hG hK x0
          obtain ⟨L, hL⟩ : ∃ x, x = (placesAt (cutD dl) k q).map (stepAt (cutD dl) ths) := ⟨_, rfl⟩
          rw [← hL] at GX
          rw [← hL]
          have HLL := Lib.hid hL
          have hLn : L.length ≤ 20 := by
            rw [hL, List.length_map]
            unfold placesAt
            have := HPL.out
            rw [List.length_map] at this
            rw [List.length_append, List.length_map, List.length_range]
            omega
          have hsn : (placesAt (cutD dl) k (q + 1)).map (stepAt (cutD dl) ths) = L ++ [(foundAt ths (k, q), uw (foundAt ths (k, q) + deltaAt (cutD dl) (k, q)))] := by rw [place_steps, hL]
          have HSN := Lib.hid hsn
          obtain ⟨fa, fc, hf⟩ := row_form GX.out.f
          obtain ⟨la, lc, hl⟩ := row_form GX.out.l
          subst hf hl
          subst hfv hlv
          obtain ⟨S0, hS0⟩ : ∃ x, x = sumOf b L := ⟨_, rfl⟩
          rw [← hS0]
          have HS0 := Lib.hid hS0
          obtain ⟨ln, hln⟩ : ∃ x, x = L.length := ⟨_, rfl⟩
          rw [← hln] at GX hLn
          rw [← hln]
          have HLN := Lib.hid hln
          have m2 := (cell_of (KX.out.old B5.out (by simp)) 1).trans rfl
          have x0 := KX.out.cell X0.out (by simp)
          clear hL hsn hS0 hln m1
          by_cases hlq : q < rl
          · have hql : q < (adRow row).length := by rw [show (adRow row).length = row.length by simp [adRow], ← HRL.out]; exact hlq
            obtain ⟨ig, io, rfl, -, -, -, -, x4, -⟩ := (S4.out.keep0 KX.out).ins hql
            obtain ⟨dd, hdd⟩ : ∃ x, x = deltaAt (cutD dl) (k, q) := ⟨_, rfl⟩
            have hnew : ((adRow row)[q]).newI = dd := by
              rw [hdd]
              unfold deltaAt
              simp only
              rw [HG.out.1]
              simp [adRow, adIns]
            rw [hnew] at x4
            obtain ⟨fd, hfd⟩ : ∃ x, x = foundAt ths (k, q) := ⟨_, rfl⟩
            have hpl : (k, q) ∈ places (cutD dl) := mem_placesAt HG.out.2 (by rw [HG.out.1, ← HRL.out]; exact hlq)
            have hreg : nth rs (4 * k + q) 0 = fd := by rw [hfd]; exact LAW.out.2.1 _ hpl
            have hid4 : 4 * k + q < 4 * nt := by omega
            obtain ⟨rg, hra, hcell⟩ : ∃ rg, ra = some ⟨rg, 0, none⟩ ∧ w5.cell? ⟨rg, 4 * k + q, none⟩ = some (.int .u64 fd) := by
              have hml : 4 * k + q < rs.length := by rw [LAW.out.1]; exact hid4
              rcases R5.out.2 with ⟨e, h0⟩ | ⟨rg, cap, cur, e, -⟩
              · omega
              · refine ⟨rg, by simp only [Value.slice.injEq] at e; exact e.1, ?_⟩
                have h1 := R5.out.cells (g := rg) (by rw [e]; rfl) (4 * k + q) (.int .u64 rs[4 * k + q]) (by rw [List.getElem?_map, List.getElem?_eq_getElem hml]; rfl)
                have e2 : (⟨rg, 0, none⟩ : Addr).add (4 * k + q) = ⟨rg, 4 * k + q, none⟩ := by unfold Addr.add; split <;> simp_all
                rw [e2] at h1
                rw [h1, ← hreg]
                simp [nth, List.getD_eq_getElem?_getD, List.getElem?_eq_getElem hml]
            subst hra
            have HC := Lib.hid hcell
            have y0 := (cell_of (KX.out.old O5.out (by simp)) 1).trans rfl
            have y1 := KX.out.cell hcell (by simp)
            have r2 : wrap64 (4 * (k : Int)) = 4 * (k : Int) := IntWalk.wrap64_in _ (by omega)
            have r3 : wrap64 (4 * (k : Int) + (q : Int)) = ((4 * k + q : Nat) : Int) := by rw [IntWalk.wrap64_in _ (by omega)]; omega
            have HDD := Lib.hid (And.intro hdd hfd)
            have d1 := Lib.hid (show ln + 1 ≤ maxLen by unfold maxLen; omega)
            have d2 := Lib.hid (show (ln + 1) * 8 ≤ 140737488355328 by omega)
            have F1 := Lib.hid (show wr.ownsRow w5.heap.size 46 1 (.slice fa ln fc) ln (fsts L) by have h := GX.out.f; rw [← HLN.out] at h; exact h)
            have M1 := Lib.hid (show wr.ownsRow w5.heap.size 46 1 (.slice la ln lc) ln (snds L) by have h := GX.out.l; rw [← HLN.out] at h; exact h)
            have HO1 := Lib.hid (F1.out.alloc (.cells #[.int .u64 fd] 46))
            have HBS := Lib.hid (show w5.heap.size ≤ (wr.alloc (.cells #[.int .u64 fd] 46)).heap.size by have := KX.out.size; simp; omega)
            have HNEW := Lib.hid (alloc_new wr (.cells #[.int .u64 fd] 46))
            clear hql hnew hpl hreg hcell hdd hfd
            go_wp2_with (at_builtin; go_must (refine wpList_append_lies _ rfl _ _ 37 rfl w5.heap.size 46 i0 _ 1 8 Try.underlying37 HI.out HZ.out.1 HZ.out.2.1 HZ.out.2.2 rfl (by decide) (.slice fa ln fc) ln (fsts L) rfl HO1.out ⟨wr.heap.size, 0, none⟩ 1 1 [.int .u64 fd] rfl rfl (World.news_of_block (cs := #[.int .u64 fd]) (fr := (0, 0)) HNEW.out) (one_word _) (by decide) d1.out d2.out HBS.out _ rfl ?_))
            intro g7 cap7 w7 hown7 hgrow7 hat7 hlt7
            have hne : (Value.slice la ln lc).ownBlock = none ∨ (Value.slice la ln lc).ownBlock ≠ (Value.slice fa ln fc).ownBlock := by
              cases hx : (Value.slice la ln lc).ownBlock with
              | none => exact .inl rfl
              | some g => exact .inr fun e => GX.out.ap g e.symm hx
            have L7 := Lib.hid ((M1.out.alloc (.cells #[.int .u64 fd] 46)).kept hgrow7 hne)
            have k7 : Keep [] w5 w7 := (KX.out.alloc _).chain (T := (Value.slice fa ln fc).ownBlock.toList) ⟨hgrow7.os, hgrow7.tape, hgrow7.output, hgrow7.size, fun i hi hn => hgrow7.block i hi fun e => hn (by rw [← e]; simp)⟩ fun x hx => .inr (GX.out.f.lt x (by simpa using hx)).1
            have K7 := Lib.hid k7
            have AP7 := Lib.hid (show ∀ g, (Value.slice la ln lc).ownBlock = some g → g ≠ g7 from fun g hg e => by
              subst e
              rcases hat7 with h | h
              · exact GX.out.ap g h hg
              · have := (GX.out.l.lt g hg).2; omega)
            have W7 := Lib.hid hown7
            have LT7 := Lib.hid hlt7
            have y2 := (cell_of (k7.old O5.out (by simp)) 1).trans rfl
            have y3 := k7.cell HC.out (by simp)
            have HO2 := Lib.hid (L7.out.alloc (.cells #[.int .u64 (IntKind.u64.wrap (fd + dd))] 46))
            have HBS2 := Lib.hid (show w5.heap.size ≤ (w7.alloc (.cells #[.int .u64 (IntKind.u64.wrap (fd + dd))] 46)).heap.size by have := k7.size; simp; omega)
            have HNEW2 := Lib.hid (alloc_new w7 (.cells #[.int .u64 (IntKind.u64.wrap (fd + dd))] 46))
            clear hown7 hgrow7 hat7 hlt7 hne k7 y0 y1 x0 x4 m2 HNEW HO1 HBS
            go_wp2_with (at_builtin; go_must (refine wpList_append_lies _ rfl _ _ 37 rfl w5.heap.size 46 i0 _ 1 8 Try.underlying37 HI.out HZ.out.1 HZ.out.2.1 HZ.out.2.2 rfl (by decide) (.slice la ln lc) ln (snds L) rfl HO2.out ⟨w7.heap.size, 0, none⟩ 1 1 [.int .u64 (IntKind.u64.wrap (fd + dd))] rfl rfl (World.news_of_block (cs := #[.int .u64 (IntKind.u64.wrap (fd + dd))]) (fr := (0, 0)) HNEW2.out) (one_word _) (by decide) d1.out d2.out HBS2.out _ rfl ?_))
            intro g9 cap9 w9 hown9 hgrow9 hat9 hlt9
            have k9 : Keep [] w5 w9 := (K7.out.alloc _).chain (T := (Value.slice la ln lc).ownBlock.toList) ⟨hgrow9.os, hgrow9.tape, hgrow9.output, hgrow9.size, fun i hi hn => hgrow9.block i hi fun e => hn (by rw [← e]; simp)⟩ fun x hx => .inr (L7.out.lt x (by simpa using hx)).1
            have K9 := Lib.hid k9
            have hg : Gath w9 w5.heap.size (.slice (some ⟨g7, 0, none⟩) (ln + 1) cap7) (.slice (some ⟨g9, 0, none⟩) (ln + 1) cap9) (L ++ [(fd, uw (fd + dd))]) := by
              refine ⟨?_, ?_, fun g hg hx => ?_⟩
              · have h1 := (W7.out.alloc (.cells #[.int .u64 (IntKind.u64.wrap (fd + dd))] 46)).kept hgrow9 (.inr fun e => AP7.out g7 e.symm rfl)
                rw [List.length_append, List.length_singleton, ← HLN.out, show fsts (L ++ [(fd, uw (fd + dd))]) = fsts L ++ [.int .u64 fd] by simp [fsts]]
                exact h1
              · rw [List.length_append, List.length_singleton, ← HLN.out, show snds (L ++ [(fd, uw (fd + dd))]) = snds L ++ [.int .u64 (uw (fd + dd))] by simp [snds]]
                exact hown9
              · have e1 : g7 = g := by simpa [Value.ownBlock] using hg
                have e2 : g9 = g := by simpa [Value.ownBlock] using hx
                subst e1
                subst e2
                rcases hat9 with h | h
                · exact AP7.out g9 h rfl
                · have h7 := (W7.out.lt g9 rfl).2
                  omega
            have HGA := Lib.hid hg
            clear hown9 hgrow9 hat9 hlt9 k9 hg HO2 HBS2 HNEW2 y2 y3
            go_wp2_with fail
            go_roundw
            case rel =>
              refine ⟨q + 1, _, _, rfl, rfl, ?_, by go_num, hlq, ?_, K9.out⟩
              · rw [HSN.out, sumOf_snoc, ← HDD.out.1, ← HS0.out]
                rfl
              · rw [HSN.out, ← HDD.out.1, ← HDD.out.2]
                exact HGA.out
            case measure => simp [intOf]; omega
          · have hqr : q = rl := by omega
            have hpl : (placesAt (cutD dl) k q).map (stepAt (cutD dl) ths) = (placesTo (cutD dl) (k + 1)).map (stepAt (cutD dl) ths) := by rw [hqr, HRL.out, ← HG.out.1, placesAt_all]
            have HPA := Lib.hid hpl
            clear hqr hpl
            go_wp2_with fail
            go_roundw
            case rel =>
              refine ⟨k + 1, _, _, rfl, rfl, ?_, by go_num, hlt, ?_, KX.out⟩
              · rw [HS0.out, HLL.out, HPA.out]
              · have := GX.out
                rw [← HPA.out, ← HLL.out]
                have h2 := HLN.out
                subst h2
                exact this
            case measure => simp [intOf]; omega
      · have hkn : k = nt := by omega
        have hpl : placesTo (cutD dl) k = places (cutD dl) := by rw [hkn, HNT.out, placesTo_all]
        obtain ⟨L, hL⟩ : ∃ x, x = (placesTo (cutD dl) k).map (stepAt (cutD dl) ths) := ⟨_, rfl⟩
        rw [← hL] at GR
        rw [← hL]
        have hLn : L.length ≤ 40 := by
          rw [hL, List.length_map]
          have := placesTo_len (cutD dl) (cutD_short dl) k
          omega
        have hch : Chained b L W := by rw [hL, hpl]; exact LAW.out.2.2.1
        have hsum : sumOf b L = W := by
          unfold sumOf
          rw [← hch.sum]
          exact uw_of LAW.out.2.2.2
        obtain ⟨fa, fc, hf⟩ := row_form GR.out.f
        obtain ⟨la, lc, hl⟩ := row_form GR.out.l
        subst hf hl
        have FS := Lib.hid (sees_of GR.out.f)
        have LS := Lib.hid (sees_of GR.out.l)
        rw [hsum]
        have y0 := (cell_of (KR.out.old O5.out (by simp)) 0).trans rfl
        have y1 : wo.cell? ⟨g4, 0, none⟩ = some (.int .u64 W) := (cell_of (KR.out.old G5.out (by simp)) 0).trans rfl
        have hww : (W != W) = false := by simp
        have HCH := Lib.hid hch
        have CHN := Lib.hid (chain b W HB.out LAW.out.2.2.2 L hLn fa la fc lc wo FS.out LS.out hch)
        obtain ⟨ln, hln⟩ : ∃ x, x = L.length := ⟨_, rfl⟩
        rw [← hln] at CHN
        rw [← hln]
        have KE := Lib.hid (KW.out.trans KR.out)
        clear hkn hpl hL hLn hch hsum hln
        go_wp2_with fail
        refine CHN.out.mono ?_
        rintro e w8 ⟨rfl, k8⟩
        have K8 := Lib.hid (KE.out.trans k8)
        clear k8
        go_wp2_with fail
        go_ret
        exact ⟨rfl, K8.out⟩
end Go.Proofs.Ytdkdeiofjoccnaa.Lit
