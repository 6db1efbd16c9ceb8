/- stratalaw03.adder: the walk. -/
import Derived.Test.YtdkdeiofjoccnaaAdder
namespace Go.Proofs.Ytdkdeiofjoccnaa.Lit
open Go.RowKit Go.Proofs.Ytdkdeiofjoccnaa.Mem Go.Proofs.Ytdkdeiofjoccnaa.Ar Go.Proofs.Ytdkdeiofjoccnaa.Un
set_option linter.unusedVariables false
set_option maxRecDepth 100000

theorem before_add (ds : List (List Int)) (k : Nat) (hk : k < ds.length) : before ds (k + 1) = before ds k + (ds.getD k []).length := by
  rw [before_succ ds k hk, List.getD_eq_getElem?_getD, List.getElem?_eq_getElem hk]
  rfl
theorem adPart_all (row : List Int) : adPart row row.length = adRow row := rfl
theorem flatI_snoc (l : List Ins) (x : Ins) : flatI (l ++ [x]) = flatI l ++ x.cells := by simp [flatI]
theorem ins_one (x : Ins) : ∀ u ∈ x.cells, u.oneCell' = true := by
  intro u hu
  simp only [Ins.cells, List.mem_cons, List.not_mem_nil, or_false] at hu
  rcases hu with rfl | rfl | rfl | rfl | rfl | rfl | rfl | rfl <;> rfl
/-- the block of an addition -/
abbrev adObj (q : Nat) (d : Int) : Obj := .cells #[.int .i64 4, .int .i64 0, .int .i64 q, .int .i64 (-1), .int .u64 d, .int .i64 0, .int .u64 0, .int .i64 0] 92

theorem ad_ret {w wr : World} {b : Int} (dl : List (List Int)) {rbk eb vb nd : Nat} {va : Option Addr} {vc : Nat} {qs : List Value} (h1 : rbk = w.heap.size) (h2 : eb = w.heap.size + 1) (h3 : vb = w.heap.size + 1 + 1) (hE : wr.heap[eb]? = some (.cells #[.int .u64 b] 46 (0, 0)))
    (hR : CopyRow wr (vb + 1) (.slice va nd vc) ((cutD dl).map adRow) qs) (hK : Keep [] w wr) :
    ∃ cv tv, Ending.returned (.agg #[.slice (some ⟨eb, 0, none⟩) 1 1, .slice va nd vc]) = .returned (.agg #[cv, tv]) ∧
      LitAt ((wr.setCell ⟨rbk, 0, none⟩ (.slice (some ⟨eb, 0, none⟩) 1 1)).setCell ⟨rbk, 1, none⟩ (.slice va nd vc)) cv tv (adLit b (cutD dl)) ∧ Keep [] w ((wr.setCell ⟨rbk, 0, none⟩ (.slice (some ⟨eb, 0, none⟩) 1 1)).setCell ⟨rbk, 1, none⟩ (.slice va nd vc)) := by
  have k9 : Keep [rbk] wr ((wr.setCell ⟨rbk, 0, none⟩ (.slice (some ⟨eb, 0, none⟩) 1 1)).setCell ⟨rbk, 1, none⟩ (.slice va nd vc)) := ((Keep.refl [rbk] wr).set (.inl (by simp)) _ _).set (.inl (by simp)) _ _
  have hR9 := hR.keep k9 fun x hx => by simp at hx; omega
  have hE9 := (k9.block eb (lt_of hE) (by simp; omega)).trans hE
  refine ⟨_, _, rfl, ?_, (hK.set (.inr (by omega)) _ _).set (.inr (by omega)) _ _⟩
  refine hR9.lit (l := adLit b (cutD dl)) (c := 1) ⟨fun i hi => ?_⟩
  have hi0 : i = 0 := by simp [adLit] at hi; omega
  subst hi0
  exact ⟨eb, 0, rfl, (cell_of hE9 0).trans rfl⟩

set_option maxHeartbeats 4000000 in
theorem adder (b : Int) (dl : List (List Int)) (hdl : dl.length ≤ 1000000000000 ∧ ∀ r ∈ dl, r.length ≤ 1000000000000) (a : Option Addr) (cap : Nat) (w : World) (hin : DeltasIn w a dl) :
    Calls Try.prog 46 #[.int .u64 b, .slice a dl.length cap] w fun e w' => ∃ cv tv, e = .returned (.agg #[cv, tv]) ∧ LitAt w' cv tv (adLit b (cutD dl)) ∧ Keep [] w w' := by
  obtain ⟨n, hn⟩ : ∃ n, n = dl.length := ⟨_, rfl⟩
  have HN := Lib.hid hn
  have HD := Lib.hid hdl
  have HIN := Lib.hid hin
  have hn12 : n ≤ 1000000000000 := by rw [hn]; exact hdl.1
  rw [← hn]
  clear hn hdl hin
  go_enter Try.func46, Try.ntmps46
  go_wp2_with fail
  obtain ⟨rbk, hrb⟩ : ∃ x, x = w.heap.size := ⟨_, rfl⟩
  obtain ⟨eb, heb⟩ : ∃ x, x = w.heap.size + 1 := ⟨_, rfl⟩
  obtain ⟨vb, hvb⟩ : ∃ x, x = w.heap.size + 1 + 1 := ⟨_, rfl⟩
  obtain ⟨w1, hw1⟩ : ∃ w1, w1 = (((w.alloc (.cells #[.slice none 0 0, .slice none 0 0] 40)).alloc (.cells #[.int .u64 b] 46)).alloc (.cells #[.slice (some ⟨w.heap.size + 1, 0, none⟩) 1 1, .slice none 0 0] 40)) := ⟨_, rfl⟩
  have K1 := Lib.hid (show Keep [] w w1 by rw [hw1]; exact (((Keep.refl _ _).alloc _).alloc _).alloc _)
  have R1 := Lib.hid (show w1.heap[rbk]? = some (.cells #[.slice none 0 0, .slice none 0 0] 40 (0, 0)) by rw [hw1, hrb]; exact alloc_some _ (alloc_some _ (alloc_new w _)))
  have E1 := Lib.hid (show w1.heap[eb]? = some (.cells #[.int .u64 b] 46 (0, 0)) by
    rw [hw1, heb]
    have := alloc_new (w.alloc (.cells #[.slice none 0 0, .slice none 0 0] 40)) (.cells #[.int .u64 b] 46)
    rw [World.size_alloc] at this
    exact alloc_some _ this)
  have V1 := Lib.hid (show w1.heap[vb]? = some (.cells #[.slice (some ⟨eb, 0, none⟩) 1 1, .slice none 0 0] 40 (0, 0)) by
    rw [hw1, hvb, heb]
    have := alloc_new ((w.alloc (.cells #[.slice none 0 0, .slice none 0 0] 40)).alloc (.cells #[.int .u64 b] 46)) (.cells #[.slice (some ⟨w.heap.size + 1, 0, none⟩) 1 1, .slice none 0 0] 40)
    rw [World.size_alloc, World.size_alloc] at this
    exact this)
  have HB := Lib.hid (And.intro hrb (And.intro heb (And.intro hvb (show w1.heap.size = w.heap.size + 3 by rw [hw1]; simp))))
  rw [← hw1, ← hvb, ← heb, ← hrb]
  clear hw1 hrb heb hvb
  obtain ⟨iS, hiS, hzS0, hzS1, hzS2⟩ := info_parts infoIs
  have HIS := Lib.hid hiS
  have HZS := Lib.hid (And.intro hzS0 (And.intro hzS1 hzS2))
  obtain ⟨iI, hiI, hzI0, hzI1, hzI2⟩ := info_parts infoInstr
  have HII := Lib.hid hiI
  have HZI := Lib.hid (And.intro hzI0 (And.intro hzI1 hzI2))
  clear hiS hzS0 hzS1 hzS2 hiI hzI0 hzI1 hzI2
  go_loopw [6, 7] (fun nn i wr => ∃ (k : Nat) (tv : Value) (qs : List Value), nn = .int .i64 (before (cutD dl) k) ∧ i = .int .i64 k ∧ k ≤ n ∧ k ≤ 4 ∧ wr.heap[vb]? = some (.cells #[.slice (some ⟨eb, 0, none⟩) 1 1, tv] 40 (0, 0)) ∧
      wr.heap[eb]? = some (.cells #[.int .u64 b] 46 (0, 0)) ∧ wr.heap[rbk]? = some (.cells #[.slice none 0 0, .slice none 0 0] 40 (0, 0)) ∧ CopyRow wr (vb + 1) tv (((cutD dl).take k).map adRow) qs ∧ Keep [] w wr) (fun _ i _ => n - (intOf i).toNat)
  case atStart => exact ⟨0, _, [], rfl, rfl, Nat.zero_le _, Nat.zero_le _, V1.out, E1.out, R1.out, CopyRow.zero _ _, K1.out⟩
  case round =>
    obtain ⟨k, tv, qs, rfl, rfl, hk, hk4, hV, hE, hRb, hR, hK⟩ := hrel
    have VR := Lib.hid hV
    have ER := Lib.hid hE
    have RB := Lib.hid hRb
    have RR := Lib.hid hR
    have KR := Lib.hid hK
    clear hV hE hRb hK
    obtain ⟨wo, rfl⟩ : ∃ wo, wo = wr := ⟨_, rfl⟩
    by_cases hlt : k < n
    · by_cases hlt4 : k < 4
      · have hlt4i : (k : Int) < 4 := by omega
        have hkd : k < dl.length := by have := HN.out; omega
        have hkc : k < (cutD dl).length := by rw [cutD_len]; omega
        obtain ⟨ps, e1, s2, s3⟩ := HIN.out.rows
        have hkp : k < ps.length := by rw [e1]; exact hkd
        obtain ⟨g, o, rfl, x0⟩ := (s2.keep0 KR.out).at_ k hkp
        obtain ⟨a', c', he, s4⟩ := s3 k hkp hkd
        rw [he] at x0
        have hrow := cutD_at dl k hkd hlt4 hkc
        have hm12 : dl[k].length ≤ 1000000000000 := HD.out.2 _ (List.getElem_mem hkd)
        obtain ⟨dk, hdk⟩ : ∃ dk, dk = dl[k] := ⟨_, rfl⟩
        rw [← hdk] at x0 s4 hrow hm12
        have S4 := Lib.hid s4
        obtain ⟨m, hm⟩ : ∃ m, m = dk.length := ⟨_, rfl⟩
        rw [← hm] at x0 hm12
        obtain ⟨row, hrw⟩ : ∃ row, row = (cutD dl)[k] := ⟨_, rfl⟩
        rw [← hrw] at hrow
        obtain ⟨B, hB⟩ : ∃ B, B = before (cutD dl) k := ⟨_, rfl⟩
        have hB10 : B ≤ 10 := by rw [hB]; exact before_le dl k
        rw [← hB] at hrow
        rw [← hB]
        have hrl : row.length = min (min 4 (10 - B)) m := by rw [hrow, List.length_take, hm]
        have hget : ∀ (q : Nat) (hq : q < row.length) (h2 : q < dk.length), dk[q] = nth row q 0 := by
          intro q hq h2
          simp only [hrow, nth, List.getD_eq_getElem?_getD]
          rw [List.getElem?_take_of_lt (by rw [hrow, List.length_take] at hq; omega), List.getElem?_eq_getElem h2]
          rfl
        have htk : (cutD dl).take (k + 1) = (cutD dl).take k ++ [row] := by rw [List.take_succ_eq_append_getElem hkc, hrw]
        have hbs : before (cutD dl) (k + 1) = B + row.length := by rw [before_succ _ _ hkc, hB, hrw]
        have HROW := Lib.hid (And.intro hm (And.intro hget (And.intro htk hbs)))
        obtain ⟨va, vc, hf⟩ : ∃ a c, tv = .slice a qs.length c := by
          obtain ⟨a, c, e⟩ := hR.form
          exact ⟨a, c, by rw [e, hR.len]⟩
        subst hf
        have z1 := (cell_of VR.out 1).trans rfl
        have HQL := Lib.hid (show qs.length ≤ 4 by rw [hR.len, List.length_map, List.length_take]; omega)
        clear s2 s3 he s4 hkp hkc e1 hrow hrw hB hget htk hbs hm hR hdk
        go_wp2_with fail
        go_loopw [6, 8, 9] (fun nn t j wx => ∃ (q : Nat) (v : Value), nn = .int .i64 ((B + q : Nat) : Int) ∧ t = v ∧ j = .int .i64 q ∧ q ≤ row.length ∧ wx.ownsRow wo.heap.size 92 8 v q (flatI (adPart row q)) ∧ Keep [] wo wx) (fun _ _ j _ => row.length - (intOf j).toNat)
        case atStart => exact ⟨0, _, rfl, rfl, rfl, Nat.zero_le _, World.ownsRow_nil _ _ _ _, Keep.refl _ _⟩
        case round =>
          obtain ⟨q, v, rfl, hv0, rfl, hq, hv, hK⟩ := hrel
          have VX := Lib.hid hv
          have KX := Lib.hid hK
          clear hv hK
          obtain ⟨ta, tc, hvs⟩ : ∃ a c, v = .slice a q c := by
            rcases VX.out.2 with ⟨e', h0⟩ | ⟨g', cap', cur', e', -⟩
            · exact ⟨none, 0, by rw [e', h0]⟩
            · exact ⟨_, _, e'⟩
          subst hvs
          subst hv0
          replace x0 := KX.out.cell x0 (by simp)
          by_cases hlq : q < row.length
          · have hqm : q < m := by omega
            have hq4 : q < 4 := by omega
            have hq10 : B + q < 10 := by omega
            obtain ⟨g', o', rfl, x1⟩ := (S4.out.keep0 (KR.out.trans KX.out)).at_ q (by rw [List.length_map, ← HROW.out.1]; exact hqm)
            simp only [List.getElem_map] at x1
            rw [HROW.out.2.1 q hlq (by rw [← HROW.out.1]; exact hqm)] at x1
            obtain ⟨d, hd⟩ : ∃ d, d = nth row q 0 := ⟨_, rfl⟩
            rw [← hd] at x1
            have HDD := Lib.hid hd
            have hq10' : (((B + q : Nat) : Int) < 10) := by omega
            have d1 := Lib.hid (show q + 1 ≤ maxLen by unfold maxLen; omega)
            have d2 := Lib.hid (show (q + 1) * 64 ≤ 140737488355328 by omega)
            have HOWN := Lib.hid (VX.out.alloc (adObj q d))
            have HBS := Lib.hid (show wo.heap.size ≤ (wr.alloc (adObj q d)).heap.size by have := KX.out.size; simp; omega)
            have HNEW := Lib.hid (alloc_new wr (adObj q d))
            have HONE := Lib.hid (ins_one (adIns q d))
            obtain ⟨bq, hbq⟩ : ∃ x, x = B + q := ⟨_, rfl⟩
            rw [← hbq] at hq10 hq10'
            rw [← hbq]
            have HBQ := Lib.hid hbq
            clear hd hbq
            go_wp2_with (at_builtin; refine wpList_append_lies _ rfl _ _ 88 rfl wo.heap.size 92 iI _ 8 64 Try.underlying88 HII.out HZI.out.1 HZI.out.2.1 HZI.out.2.2 rfl (by decide) (.slice ta q tc) q (flatI (adPart row q)) rfl HOWN.out ⟨wr.heap.size, 0, none⟩ 1 1 (adIns q d).cells rfl rfl (World.news_of_block (fr := (0, 0)) HNEW.out) HONE.out (by decide) d1.out d2.out HBS.out _ rfl ?_)
            intro g8 cap8 w8 hown8 hgrow8 hat8 hlt8
            have K8 := Lib.hid (show Keep [] wo w8 from (KX.out.alloc _).chain (T := (Value.slice ta q tc).ownBlock.toList) ⟨hgrow8.os, hgrow8.tape, hgrow8.output, hgrow8.size, fun i hi hn => hgrow8.block i hi fun e => hn (by rw [← e]; simp)⟩ fun x hx => .inr (VX.out.lt x (by simpa using hx)).1)
            have W8 := Lib.hid hown8
            clear hown8 hgrow8 hat8 hlt8 HNEW HOWN HBS HONE
            go_wp2_with fail
            go_roundw
            case rel =>
              refine ⟨q + 1, _, ?_, rfl, by go_num, hlq, ?_, K8.out⟩
              · exact congrArg (Value.int .i64) (by have := HBQ.out; omega)
              · rw [adPart_succ, flatI_snoc, ← HDD.out]
                exact W8.out
            case measure => simp [intOf]; omega
          · have hqr : q = row.length := by omega
            have hend : (¬ q < m) ∨ (q < m ∧ ¬ (q : Int) < 4) ∨ (q < m ∧ (q : Int) < 4 ∧ ¬ (((B + q : Nat) : Int) < 10)) := by omega
            have hown : wr.ownsRow wo.heap.size 92 8 (.slice ta q tc) q (flatI (adRow row)) := by
              have := VX.out
              rw [hqr, adPart_all] at this
              rw [hqr]
              exact this
            have HOWN := Lib.hid hown
            have HQR := Lib.hid hqr
            obtain ⟨bq, hbq⟩ : ∃ x, x = B + q := ⟨_, rfl⟩
            rw [← hbq] at hend
            rw [← hbq]
            have HBQ := Lib.hid hbq
            clear hbq hown hqr VX
            have m9 := (cell_of (show wr.heap[vb]? = _ from KX.out.old VR.out (by simp)) 1).trans rfl
            have f9 := free_of (show wr.heap[vb]? = _ from KX.out.old VR.out (by simp)) 1
            have V9 := Lib.hid (show wr.heap[vb]? = _ from KX.out.old VR.out (by simp))
            have d1 := Lib.hid (show qs.length + 1 ≤ maxLen by unfold maxLen; have := HQL.out; omega)
            have d2 := Lib.hid (show (qs.length + 1) * 24 ≤ 140737488355328 by have := HQL.out; omega)
            have HO2 : Hid (wr.ownsRow (vb + 1) 88 1 (.slice va qs.length vc) qs.length qs) := Lib.hid (Har.owns_block RR.out.row fun x hx => KX.out.block x (RR.out.row.lt x hx).2 (by simp))
            have HO3 := Lib.hid (HO2.out.alloc (.cells #[.slice ta q tc] 88))
            have HBS := Lib.hid (show vb + 1 ≤ (wr.alloc (.cells #[.slice ta q tc] 88)).heap.size by have := lt_of V9.out; simp; omega)
            have HNEW := Lib.hid (alloc_new wr (.cells #[.slice ta q tc] 88))
            clear z1
            rcases hend with hqm | ⟨hqm, hq4⟩ | ⟨hqm, hq4, hq10⟩
            all_goals
              go_wp2_with (at_builtin; refine wpList_append_lies _ rfl _ _ 38 rfl (vb + 1) 88 iS _ 1 24 Try.underlying38 HIS.out HZS.out.1 HZS.out.2.1 HZS.out.2.2 rfl (by decide) (.slice va qs.length vc) qs.length qs rfl HO3.out ⟨wr.heap.size, 0, none⟩ 1 1 _ rfl rfl (World.news_of_block (fr := (0, 0)) HNEW.out) (one_sl _ _ _) (by decide) d1.out d2.out HBS.out _ rfl ?_)
              intro g8 cap8 w8 hown8 hgrow8 hat8 hlt8
              have kx : Keep [] wo (wr.alloc (.cells #[.slice ta q tc] 88)) := KX.out.alloc _
              have hsn := RR.out.snoc kx (p := adRow row) (by rw [show (adRow row).length = row.length by simp [adRow]]; exact HQR.out) (HOWN.out.alloc _) (by have := lt_of VR.out; omega) hown8 hgrow8 (by rcases hat8 with h | h; exact .inl h; exact .inr (by rw [h]; simp))
              have hvo : some vb ≠ (Value.slice va qs.length vc).ownBlock := fun e => by have := (RR.out.row.lt vb e.symm).1; omega
              have hvo2 : ∀ x, x ≤ vb → some x ≠ (Value.slice va qs.length vc).ownBlock := fun x hx e => by have := (RR.out.row.lt x e.symm).1; omega
              have V8 := Lib.hid ((hgrow8.block vb (by have := lt_of V9.out; simp; omega) hvo).trans (alloc_some _ V9.out))
              have ER9 := kx.old ER.out (by simp)
              have RB9 := kx.old RB.out (by simp)
              have E8 := Lib.hid ((hgrow8.block eb (lt_of ER9) (hvo2 _ (by have := HB.out; omega))).trans ER9)
              have R8 := Lib.hid ((hgrow8.block rbk (lt_of RB9) (hvo2 _ (by have := HB.out; omega))).trans RB9)
              have m8 := (cell_of V8.out 1).trans rfl
              have f8 := free_of V8.out 1
              have K8 := Lib.hid (show Keep [] w w8 from (KR.out.trans kx).chain (T := (Value.slice va qs.length vc).ownBlock.toList) ⟨hgrow8.os, hgrow8.tape, hgrow8.output, hgrow8.size, fun i hi hn => hgrow8.block i hi fun e => hn (by rw [← e]; simp)⟩ fun x hx => .inr (by have := (RR.out.row.lt x (by simpa using hx)).1; have := HB.out; omega))
              have HSN := Lib.hid hsn
              clear hsn kx hown8 hgrow8 hat8 hlt8 hvo hvo2 ER9 RB9 m9 f9
              go_wp2_with fail
              go_roundw
              case rel =>
                have hne : ∀ x, x ≠ vb → ∀ (o : Nat) (v : Value), (w8.setCell ⟨vb, o, none⟩ v).heap[x]? = w8.heap[x]? := fun x hx o v => set_other hx _ _
                refine ⟨k + 1, .slice (some ⟨g8, 0, none⟩) (qs.length + 1) cap8, qs ++ [.slice ta q tc], ?_, by go_num, hlt, hlt4, ?_, ?_, ?_, ?_, K8.out.set (.inr (by have := HB.out; omega)) 1 _⟩
                · exact congrArg (Value.int .i64) (by rw [HROW.out.2.2.2, ← HQR.out]; have := HBQ.out; omega)
                · rw [set_same V8.out]; rfl
                · rw [hne eb (by have := HB.out; omega)]; exact E8.out
                · rw [hne rbk (by have := HB.out; omega)]; exact R8.out
                · rw [HROW.out.2.2.1, List.map_append]
                  exact HSN.out.keep ((Keep.refl [vb] w8).set (.inl (by simp)) 1 _) (fun x hx => by simp at hx; omega)
              case measure => simp [intOf]; omega
      · have hall : (cutD dl).take k = cutD dl := List.take_of_length_le (by rw [cutD_len]; omega)
        have hk4i : ¬ (k : Int) < 4 := by omega
        rw [hall] at RR
        clear hall
        obtain ⟨va, vc, hf⟩ : ∃ a c, tv = .slice a (cutD dl).length c := by
          obtain ⟨a, c, e⟩ := RR.out.form
          exact ⟨a, c, by rw [e, List.length_map]⟩
        subst hf
        have z0 := (cell_of VR.out 0).trans rfl
        have z1 := (cell_of VR.out 1).trans rfl
        have y0 := (cell_of RB.out 0).trans rfl
        have y1 := (cell_of RB.out 1).trans rfl
        have f0 := free_of RB.out 0
        have f1 := free_of RB.out 1
        obtain ⟨nd, hnd⟩ : ∃ x, x = (cutD dl).length := ⟨_, rfl⟩
        rw [← hnd] at RR VR z1
        have HND := Lib.hid hnd
        clear hR hnd
        go_wp2_with fail
        have hrow := set_same (set_same RB.out 0 (.slice (some ⟨eb, 0, none⟩) 1 1)) 1 (.slice va nd vc)
        refine bodyPost_ret (results_cell_row rfl _ _ rbk 40 _ (0, 0) _ rfl hrow Try.underlying40 rfl (by kernel_rfl)) rfl ?_
        exact ad_ret dl HB.out.1 HB.out.2.1 HB.out.2.2.1 ER.out RR.out KR.out
    · have hall : (cutD dl).take k = cutD dl := List.take_of_length_le (by rw [cutD_len]; have := HN.out; omega)
      rw [hall] at RR
      clear hall
      obtain ⟨va, vc, hf⟩ : ∃ a c, tv = .slice a (cutD dl).length c := by
        obtain ⟨a, c, e⟩ := RR.out.form
        exact ⟨a, c, by rw [e, List.length_map]⟩
      subst hf
      have z0 := (cell_of VR.out 0).trans rfl
      have z1 := (cell_of VR.out 1).trans rfl
      have y0 := (cell_of RB.out 0).trans rfl
      have y1 := (cell_of RB.out 1).trans rfl
      have f0 := free_of RB.out 0
      have f1 := free_of RB.out 1
      obtain ⟨nd, hnd⟩ : ∃ x, x = (cutD dl).length := ⟨_, rfl⟩
      rw [← hnd] at RR VR z1
      have HND := Lib.hid hnd
      clear hR hnd
      go_wp2_with fail
      have hrow := set_same (set_same RB.out 0 (.slice (some ⟨eb, 0, none⟩) 1 1)) 1 (.slice va nd vc)
      refine bodyPost_ret (results_cell_row rfl _ _ rbk 40 _ (0, 0) _ rfl hrow Try.underlying40 rfl (by kernel_rfl)) rfl ?_
      exact ad_ret dl HB.out.1 HB.out.2.1 HB.out.2.2.1 ER.out RR.out KR.out
end Go.Proofs.Ytdkdeiofjoccnaa.Lit
