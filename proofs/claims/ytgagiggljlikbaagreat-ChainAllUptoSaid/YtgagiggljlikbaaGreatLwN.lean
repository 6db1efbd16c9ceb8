/- Layer 4's scripts: world.fresh. -/
import Derived.Test.YtgagiggljlikbaaGreatLwH
namespace Go.Proofs.YtgagiggljlikbaaGreat.Lw
open Go.RowKit Go.Proofs.YtgagiggljlikbaaGreat.Mem Go.Proofs.YtgagiggljlikbaaGreat.Ar Go.Proofs.YtgagiggljlikbaaGreat.En Go.Proofs.YtgagiggljlikbaaGreat.Ch Go.Proofs.YtgagiggljlikbaaGreat.Rc
open Go.Proofs.YtgagiggljlikbaaGreat.Ra (owns_block RAt rBlocks)
open Go.Proofs.YtgagiggljlikbaaGreat.Ref (owns_shape news_at)
set_option linter.unusedVariables false
set_option linter.unusedSimpArgs false
set_option maxRecDepth 100000
theorem infoInts : (Tryz.prog.info? 31).map (fun i => (i.zero, i.size, i.bytes)) = some (some (.slice none 0 0), 1, 24) := by kernel_rfl
theorem slice_one (p : Option Addr) (n c : Nat) : ∀ u ∈ [Value.slice p n c], u.oneCell' = true := by simp [Value.oneCell']
theorem bit_of : ∀ n : Nat, n < 4 → ∃ i, i < 2 ∧ bits BinOp.and IntKind.i64 (n : Int) 1 = ((i : Nat) : Int)
  | 0, _ => ⟨0, by omega, by decide⟩
  | 1, _ => ⟨1, by omega, by decide⟩
  | 2, _ => ⟨0, by omega, by decide⟩
  | 3, _ => ⟨1, by omega, by decide⟩
  | n + 4, h => by omega
theorem WPart.ci {w0 w : World} {f : Lab} {g : Lay} {wd : Nat} {hold : Int} {ms : List One} (h : WPart w0 w f g wd hold ms) {i : Nat} (hi : i < 2) : w.cell? ⟨wd, 1 + i, none⟩ = some (.pointer (some ⟨g.xb i, 0, none⟩)) ∧ w.cell? ⟨wd, 4 + i, none⟩ = some (.pointer (some ⟨g.rx i, 0, none⟩)) := by
  obtain ⟨s0, s1, s2, s3, s4, s5⟩ := h.cs
  have : i = 0 ∨ i = 1 := by omega
  rcases this with rfl | rfl
  · exact ⟨s1, s4⟩
  · exact ⟨s2, s5⟩
theorem rep_set {l : List Int} {j : Nat} (x : Int) (h : j < l.length) : (List.replicate j x ++ l.drop j).set j x = List.replicate (j + 1) x ++ l.drop (j + 1) := by
  rw [List.set_append_right _ _ (by simp), List.length_replicate, Nat.sub_self, List.drop_eq_getElem_cons h, List.set_cons_zero, List.replicate_succ', List.append_assoc]
  rfl
theorem KAt.sp_other {B : Nat} {w w2 : World} {c : Lab} {v2 : Value} {gs : List Rw} {k : Nat} {row : Option Nat} {ob : Obj} (h1 : KAt B w c v2 1 gs) (g1 : (w.alloc ob).grownBy w2 row) (hrow : ∀ g, row = some g → c g = some (2 + k)) : w2.ownsRow B 31 1 v2 gs.length (gs.map Rw.val) :=
  owns_block h1.sp fun g hg => by
    have hl := (h1.sp.lt g hg).2
    refine (g1.block g (by simp; omega) (fun e => ?_)).trans (alloc_old _ hl)
    have e1 := h1.spl g hg
    rw [hrow g e.symm] at e1
    have := Option.some.inj e1
    omega
/-- both lists of lists: the first k of the one are written full, and made longer into the other one -/
structure Two (w wy : World) (c : Lab) (v v2 : Value) (N k : Nat) (rz gs : List Rw) : Prop where
  kept : KAt w.heap.size wy c v 0 rz
  grown : KAt w.heap.size wy c v2 1 gs
  dom : Dom c wy
  keep : Keep [] w wy
  len : rz.length = N
  glen : gs.length = k
  le : ∀ r ∈ rz, r.l.length ≤ 4096
  full : ∀ i : Nat, i < k → ∀ r : Rw, rz[i]? = some r → r.l = List.replicate r.l.length (-1 - (i : Int))
  more : ∀ (i : Nat) (s : Rw), gs[i]? = some s → ∃ r : Rw, rz[i]? = some r ∧ s.l = List.replicate (r.l.length + 1) (-1 - (i : Int))
theorem Two.keep0 {w wy wz : World} {c : Lab} {v v2 : Value} {N k : Nat} {rz gs : List Rw} (h : Two w wy c v v2 N k rz gs) (kk : Keep [] wy wz) : Two w wz c v v2 N k rz gs :=
  ⟨h.kept.keep0 kk, h.grown.keep0 kk, fun x t e => Nat.lt_of_lt_of_le (h.dom x t e) kk.size, h.keep.trans kk, h.len, h.glen, h.le, h.full, h.more⟩
theorem set_self_of {α : Type} {l : List α} {k : Nat} {x : α} (h : l[k]? = some x) : l.set k x = l := by
  apply List.ext_getElem?
  intro q
  by_cases hq : q = k
  · subst hq
    rw [List.getElem?_set_self (List.getElem?_eq_some_iff.1 h).1, h]
  · rw [List.getElem?_set_ne (Ne.symm hq)]
section
variable {w w' w2 w3 w0 : World} {f f' : Lab} {g : Lay} {X : Nat → CI} {A A' : Ars} {Q Q' : List Nat} {ms : List One} {qv qv' : Value} {bs bs' : List (Option Nat)} {S : List Nat} {Y : CI} {k wd : Nat} {o : One} {m' : Mach} {hold : Int}
set_option maxHeartbeats 8000000 in
theorem freshL (h : All w0 w f g wd hold X A Q ms) :
    Calls Tryz.prog 89 #[.pointer (some ⟨wd, 0, none⟩)] w fun r w' => r = .returned (.bool true) ∧ Keep [] w w' := by
  have c7 := h.wp.hc
  have HA := Lib.hid h
  clear h
  obtain ⟨i0, hi0, hz0, hz1, hz2⟩ := info_parts infoInts
  have I0 := Lib.hid hi0
  have Z0 := Lib.hid (And.intro hz0 (And.intro hz1 hz2))
  obtain ⟨j0, hj0, hy0, hy1, hy2⟩ := info_parts infoI
  have J0 := Lib.hid hj0
  have Y0 := Lib.hid (And.intro hy0 (And.intro hy1 hy2))
  clear hi0 hz0 hz1 hz2 hj0 hy0 hy1 hy2
  cases hz : (bits BinOp.and IntKind.i64 hold 8 == 0)
  · go_enter Tryz.func89, Tryz.ntmps89
    go_wp2_with fail
    go_loopw [3, 4] (fun kv i wr => ∃ (n : Nat) (rs : List Rw) (c : Lab) (p : Option Addr) (cp : Nat), n ≤ 4 ∧ kv = .slice p rs.length cp ∧ i = .int .i64 n ∧ KAt w.heap.size wr c (.slice p rs.length cp) 0 rs ∧ Dom c wr ∧ Keep [] w wr ∧ rs.length ≤ n * 256 ∧ ∀ r ∈ rs, r.l.length ≤ 4096) (fun _ i _ => 4 - (intOf i).toNat)
    case atStart => exact ⟨0, [], fun _ => none, none, 0, by omega, rfl, rfl, ⟨World.ownsRow_nil _ _ _ _, fun g hg => (by cases hg), fun i r hr => (by simp at hr)⟩, fun x t h => (by cases h), Keep.refl _ _, by simp, by simp⟩
    case round =>
      obtain ⟨n, rs, c, p, cp, hn, rfl, rfl, hK, hD, hk, hl, hls⟩ := hrel
      have KR := Lib.hid (And.intro hK (And.intro hD (And.intro hk (And.intro hl hls))))
      clear hK hD hk hl hls c7
      by_cases hlt : n < 4
      · have hlt' : (n : Int) < 4 := by omega
        obtain ⟨i1, hi1, hb1⟩ := bit_of n hlt
        obtain ⟨hln, hhln⟩ : ∃ hln, hln = (X i1).heads.length := ⟨_, rfl⟩
        have hi1' : (i1 : Int) < 2 := by omega
        have HHL := Lib.hid hhln
        clear hhln
        go_wp2_with fail
        go_loopw [3, 5] (fun kv b wy => ∃ (m : Nat) (rs : List Rw) (c : Lab) (p : Option Addr) (cp : Nat), m ≤ hln ∧ kv = .slice p rs.length cp ∧ b = .int .i64 m ∧ KAt w.heap.size wy c (.slice p rs.length cp) 0 rs ∧ Dom c wy ∧ Keep [] w wy ∧ rs.length ≤ n * 256 + m ∧ ∀ r ∈ rs, r.l.length ≤ 4096) (fun _ b _ => hln - (intOf b).toNat)
        case atStart => exact ⟨0, rs, c, p, cp, by omega, rfl, rfl, KR.out.1, KR.out.2.1, KR.out.2.2.1, by have := KR.out.2.2.2.1; omega, KR.out.2.2.2.2⟩
        case round =>
          clear KR
          obtain ⟨m, rs, c, p, cp, hm, rfl, rfl, hK, hD, hk, hl, hls⟩ := hrel
          have KR := Lib.hid (And.intro hK (And.intro hD (And.intro hk (And.intro hl hls))))
          have HW := Lib.hid (HA.out.keep0 hk)
          obtain ⟨x1, x4⟩ := HW.out.wp.ci hi1
          obtain ⟨qv, bs, hr⟩ := HW.out.r
          have ir := (hr.env i1 hi1).ix
          have d2 : wr.cell? ⟨g.rx i1, 2, none⟩ = some (.slice (some ⟨g.rh i1, 0, none⟩) hln (g.rc i1)) := by rw [HHL.out]; exact (cell_of ir.hx 2).trans rfl
          have hf : hln ≤ 256 := by rw [HHL.out]; exact ir.few
          clear hK hD hk hl hls hr ir
          by_cases hml : m < hln
          · have hml' : (m : Int) < (hln : Int) := by omega
            go_wp2_with fail
            refine (list_ (HW.out.p.env i1 hi1) HW.out.good.okA (HW.out.good.okH i1 hi1) m).mono ?_
            rintro e w2 ⟨v, rfl, ho, k2⟩
            have hll := listX_len (X i1) A (m : Int)
            obtain ⟨l, hl0⟩ : ∃ l, l = (listX (X i1) A (m : Int)).1 := ⟨_, rfl⟩
            rw [← hl0] at ho hll
            obtain ⟨q, cq, rfl⟩ := owns_shape ho
            have e1 := Lib.hid (show rs.length + 1 ≤ maxLen by have := KR.out.2.2.2.1; unfold maxLen; omega)
            have e2 := Lib.hid (show (rs.length + 1) * 24 ≤ 140737488355328 by have := KR.out.2.2.2.1; omega)
            have e7 := Lib.hid (slice_one q l.length cq)
            have H2 := Lib.hid (And.intro ho (And.intro k2 (And.intro hll (And.intro (KR.out.1.keep0 k2) (KR.out.2.2.1.trans k2)))))
            clear ho k2 hll hl0 x1 x4 d2
            go_wp2_with (at_builtin; go_loud (refine wpList_append_own_at _ rfl _ _ 32 rfl w.heap.size 31 i0 (.slice none 0 0) 1 24 Tryz.underlying32 I0.out Z0.out.1 Z0.out.2.1 Z0.out.2.2 rfl (by decide) (.slice p rs.length cp) rs.length (rs.map Rw.val) rfl (H2.out.2.2.2.1.sp.alloc _) ⟨_, 0, none⟩ 1 1 [.slice q l.length cq] rfl rfl (news_at rfl) e7.out e1.out e2.out (Nat.le_trans H2.out.2.2.2.2.size (alloc_le _ _)) ?_; intro v' w3 a1 g1 _ p1; obtain ⟨ap, cp', rfl⟩ := owns_shape a1; have A1 := Lib.hid a1; have G1 := Lib.hid g1; have P1 := Lib.hid p1; clear a1 g1 p1))
            go_roundw
            case rel =>
              obtain ⟨c', h1, h2, h3⟩ := KAt.push (r := ⟨q, cq, l⟩) H2.out.2.2.2.1 (by omega) (fun x t e => Nat.lt_of_lt_of_le (KR.out.2.1 x t e) H2.out.2.1.size) (owns_mono H2.out.1 KR.out.2.2.1.size) (fun y hy => by
                cases e : c y with
                | none => rfl
                | some t => have := KR.out.2.1 y t e; have := (H2.out.1.lt y hy).1; omega) A1.out G1.out P1.out
              have hln2 : (rs ++ [(⟨q, cq, l⟩ : Rw)]).length = rs.length + 1 := by simp
              refine ⟨m + 1, rs ++ [⟨q, cq, l⟩], c', ap, cp', by omega, by rw [hln2], by go_num, by rw [hln2]; exact h1, h2, Keep.grown (H2.out.2.2.2.2.alloc _) G1.out fun y hy => (KR.out.1.sp.lt y hy).1, by rw [hln2]; have := KR.out.2.2.2.1; omega, fun r hr => ?_⟩
              rcases List.mem_append.1 hr with hr | hr
              · exact KR.out.2.2.2.2 r hr
              · rw [List.mem_singleton.1 hr]
                exact H2.out.2.2.1
            case measure => simp [intOf]; omega
          · have hml' : ¬ (m : Int) < (hln : Int) := by omega
            go_wp2_with fail
            go_roundw
            case rel => exact ⟨n + 1, rs, c, p, cp, by omega, rfl, by go_num, KR.out.1, KR.out.2.1, KR.out.2.2.1, by have := KR.out.2.2.2.1; omega, KR.out.2.2.2.2⟩
            case measure => simp [intOf]; omega
      · have hlt' : ¬ (n : Int) < 4 := by omega
        have HN := Lib.hid (And.intro hn hlt)
        have hrl : Hid (rs.length ≤ 1024) := Lib.hid (by have := KR.out.2.2.2.1; omega)
        clear hn hlt
        go_wp2_with fail
        go_loopw [8, 9] (fun gv kk wy => ∃ (k : Nat) (rz gs : List Rw) (c : Lab) (p2 : Option Addr) (cp2 : Nat), k ≤ rs.length ∧ gv = .slice p2 gs.length cp2 ∧ kk = .int .i64 k ∧ Two w wy c (.slice p rs.length cp) (.slice p2 gs.length cp2) rs.length k rz gs) (fun _ kk _ => rs.length - (intOf kk).toNat)
        case atStart => exact ⟨0, rs, [], c, none, 0, Nat.zero_le _, rfl, rfl, ⟨KR.out.1, ⟨World.ownsRow_nil _ _ _ _, fun g hg => (by cases hg), fun i r hr => (by simp at hr)⟩, KR.out.2.1, KR.out.2.2.1, rfl, rfl, KR.out.2.2.2.2, fun i hi => by omega, fun i s hs => (by simp at hs)⟩⟩
        case round =>
          clear KR
          obtain ⟨k, rz, gs, c, p2, cp2, hk, rfl, rfl, hT⟩ := hrel
          by_cases hlt : k < rs.length
          · have hk' : (k : Int) < (rs.length : Int) := by omega
            have hrl3 : rs.length ≤ 1024 := hrl.out
            obtain ⟨r, hr⟩ : ∃ r, rz[k]? = some r := ⟨_, List.getElem?_eq_getElem (by rw [hT.len]; exact hlt)⟩
            obtain ⟨gp, cq, e1, -⟩ := owns_pos hT.kept.sp (by rw [hT.len]; omega)
            rw [hT.len] at e1
            cases e1
            have hrl2 := hT.le r (List.mem_of_getElem? hr)
            have HT := Lib.hid (And.intro hT hr)
            obtain ⟨rn, hrn⟩ : ∃ rn, rn = r.l.length := ⟨_, rfl⟩
            have hx : wrap64 (-1 - (k : Int)) = -1 - (k : Int) := by have := hrl.out; exact IntWalk.wrap64_in _ (by omega)
            have hx2 : IntKind.i64.wrap (-1 - (k : Int)) = -1 - (k : Int) := by have := hrl.out; exact IntWalk.i64_in _ (by omega)
            have HRN := Lib.hid hrn
            have hrn2 : rn ≤ 4096 := by omega
            clear hT hr hrl2 hrn
            go_wp2_with fail
            go_loopw [10] (fun jj wy => ∃ (j : Nat), j ≤ rn ∧ jj = .int .i64 j ∧ KAt w.heap.size wy c (.slice (some ⟨gp, 0, none⟩) rs.length cp) 0 (rz.set k ⟨r.p, r.cap, List.replicate j (-1 - (k : Int)) ++ r.l.drop j⟩) ∧ KAt w.heap.size wy c (.slice p2 gs.length cp2) 1 gs ∧ Dom c wy ∧ Keep [] w wy) (fun jj _ => rn - (intOf jj).toNat)
            case atStart =>
              refine ⟨0, Nat.zero_le _, rfl, ?_, HT.out.1.grown, HT.out.1.dom, HT.out.1.keep⟩
              have e : rz.set k ⟨r.p, r.cap, List.replicate 0 (-1 - (k : Int)) ++ r.l.drop 0⟩ = rz := by
                simp only [List.replicate_zero, List.nil_append, List.drop_zero]
                exact set_self_of HT.out.2
              rw [e]
              exact HT.out.1.kept
            case round =>
              obtain ⟨j, hj, rfl, q1, q2, q3, q4⟩ := hrel
              have JR := Lib.hid (And.intro q1 (And.intro q2 (And.intro q3 q4)))
              have hrj : (rz.set k ⟨r.p, r.cap, List.replicate j (-1 - (k : Int)) ++ r.l.drop j⟩)[k]? = some ⟨r.p, r.cap, List.replicate j (-1 - (k : Int)) ++ r.l.drop j⟩ := List.getElem?_set_self (List.getElem?_eq_some_iff.1 HT.out.2).1
              have hlj : (List.replicate j (-1 - (k : Int)) ++ r.l.drop j).length = rn := by rw [List.length_append, List.length_replicate, List.length_drop, HRN.out]; have := HRN.out; omega
              have hsp : wr.cell? ⟨gp, k, none⟩ = some (.slice r.p rn r.cap) := by
                have sp := q1.sp
                rw [List.length_set, HT.out.1.len] at sp
                have := sp.cellAt k (by omega)
                rw [this, List.getElem?_map, hrj]
                simp [Rw.val, hlj]
              obtain ⟨orow, olab⟩ := q1.row k _ hrj
              have HO := Lib.hid (And.intro orow (And.intro hrj hlj))
              clear q1 q2 q3 q4 hrj olab
              by_cases hjl : j < rn
              · have hjl' : (j : Int) < (rn : Int) := by omega
                obtain ⟨gk, ck, e1, -⟩ := owns_pos orow (by rw [hlj]; omega)
                have e2 : Rw.val ⟨r.p, r.cap, List.replicate j (-1 - (k : Int)) ++ r.l.drop j⟩ = .slice r.p rn r.cap := by simp [Rw.val, hlj]
                rw [e2] at e1
                simp only [Value.slice.injEq] at e1
                obtain ⟨e3, -, -⟩ := e1
                rw [e3] at hsp
                obtain ⟨y, hck⟩ : ∃ y, wr.cell? ⟨gk, j, none⟩ = some (.int .i64 y) := by
                  have o3 := orow
                  rw [e2, e3, hlj] at o3
                  refine ⟨(List.replicate j (-1 - (k : Int)) ++ r.l.drop j)[j]'(by rw [hlj]; exact hjl), ?_⟩
                  rw [o3.cellAt j (by omega), List.getElem?_map, List.getElem?_eq_getElem (by rw [hlj]; exact hjl)]
                  rfl
                have hfk : wr.frozen? ⟨gk, j, none⟩ = false := by
                  have o3 := orow
                  rw [e2, e3, hlj] at o3
                  exact o3.frozenAt j
                have HE := Lib.hid (And.intro e2 e3)
                clear orow e2 e3 hlj
                go_wp2_with fail
                go_roundw
                case rel =>
                  have hlab : c gk = some (2 + k) := (JR.out.1.row k _ HO.out.2.1).2 gk (by rw [HE.out.1, HE.out.2]; rfl)
                  have h5 := JR.out.1.set (by omega) HO.out.2.1 (g := gk) (cap := r.cap) (by rw [HE.out.1, HE.out.2]; simp only []; rw [HO.out.2.2]) (j := j) (by rw [HO.out.2.2]; exact hjl) (-1 - (k : Int))
                  rw [List.set_set] at h5
                  have hrl5 := HRN.out
                  simp only [rep_set (-1 - (k : Int)) (show j < r.l.length by omega)] at h5
                  have kk : Keep [gk] wr (wr.setCell ⟨gk, j, none⟩ (.int .i64 (-1 - (k : Int)))) := keep_set (Keep.refl _ _) (List.mem_singleton.2 rfl) _ _
                  refine ⟨j + 1, hjl, by go_num, h5, JR.out.2.1.keep kk fun x hx u hu => ?_, fun x u e => ?_, JR.out.2.2.2.set (.inr ?_) _ _⟩
                  · rw [List.mem_singleton.1 hx, hlab] at hu
                    cases hu
                    have := HT.out.1.glen
                    exact ⟨by omega, fun i hi => by omega⟩
                  · rw [size_set]
                    exact JR.out.2.2.1 x u e
                  · exact (HO.out.1.lt gk (by rw [HE.out.1, HE.out.2]; rfl)).1
                case measure => simp [intOf]; omega
              · have hje : j = rn := by omega
                subst hje
                have hfull : List.replicate j (-1 - (k : Int)) ++ r.l.drop j = List.replicate j (-1 - (k : Int)) := by rw [List.drop_of_length_le (by have := HRN.out; omega), List.append_nil]
                have e2 : Rw.val ⟨r.p, r.cap, List.replicate j (-1 - (k : Int)) ++ r.l.drop j⟩ = .slice r.p j r.cap := by simp [Rw.val, hlj]
                have orow2 : wr.ownsRow w.heap.size 3 1 (.slice r.p j r.cap) j ((List.replicate j (-1 - (k : Int))).map (.int .i64)) := by
                  have o3 := orow
                  rw [e2, hlj] at o3
                  simp only [hfull] at o3
                  exact o3
                have hlabs : ∀ g, (Value.slice r.p j r.cap).ownBlock = some g → c g = some (2 + k) := fun g hg => (JR.out.1.row k _ HO.out.2.1).2 g (by rw [e2]; exact hg)
                have HF := Lib.hid (And.intro orow2 (And.intro hlabs (And.intro hfull e2)))
                have e1 := Lib.hid (show j + 1 ≤ maxLen by unfold maxLen; omega)
                have e3 := Lib.hid (show (j + 1) * 8 ≤ 140737488355328 by omega)
                have e5 := Lib.hid (show gs.length + 1 ≤ maxLen by have := HT.out.1.glen; have := hrl.out; unfold maxLen; omega)
                have e6 := Lib.hid (show (gs.length + 1) * 24 ≤ 140737488355328 by have := HT.out.1.glen; have := hrl.out; omega)
                have e7 := Lib.hid (int_one (-1 - (k : Int)))
                have hb := Lib.hid JR.out.2.2.2.size
                clear orow orow2 hlabs hfull e2 hlj hj hjl
                go_wp2_with (first | (at_builtin; go_loud (refine wpList_append_stay rfl _ _ 31 rfl w.heap.size 3 j0 (.int .i64 0) 1 8 Tryz.underlying31 J0.out Y0.out.1 Y0.out.2.1 Y0.out.2.2 rfl (by decide) (.slice r.p j r.cap) j ((List.replicate j (-1 - (k : Int))).map (.int .i64)) rfl (HF.out.1.alloc _) ⟨_, 0, none⟩ 1 1 [.int .i64 (-1 - (k : Int))] rfl rfl (news_at rfl) e7.out (by decide) e1.out e3.out (Nat.le_trans hb.out (alloc_le _ _)) _ rfl ?_; intro gq cq w2 a1 g1 p1 _ st; have A1 := Lib.hid a1; have G1 := Lib.hid g1; have P1 := Lib.hid p1; have ST := Lib.hid st; have O2 := Lib.hid (JR.out.2.1.sp_other G1.out HF.out.2.1); have S2 := Lib.hid (Nat.le_trans (Nat.le_trans hb.out (alloc_le wr _)) G1.out.size); clear a1 g1 p1 st)) | (at_builtin; go_loud (refine wpList_append_own_at _ rfl _ _ 32 rfl w.heap.size 31 i0 (.slice none 0 0) 1 24 Tryz.underlying32 I0.out Z0.out.1 Z0.out.2.1 Z0.out.2.2 rfl (by decide) (.slice p2 gs.length cp2) gs.length (gs.map Rw.val) rfl (O2.out.alloc _) ⟨_, 0, none⟩ 1 1 [.slice (some ⟨gq, 0, none⟩) (j + 1) cq] rfl rfl (news_at rfl) (slice_one _ _ _) e5.out e6.out (Nat.le_trans S2.out (alloc_le _ _)) ?_; intro v2' w3 a2 g2 _ q2; obtain ⟨ap, cp', rfl⟩ := owns_shape a2; have A2 := Lib.hid a2; have G2 := Lib.hid g2; have P2 := Lib.hid q2; clear a2 g2 q2)))
                go_roundw
                case rel =>
                  have hkN := HT.out.1.glen
                  have hjn := HRN.out
                  have hRf : (rz.set k ⟨r.p, r.cap, List.replicate j (-1 - (k : Int)) ++ r.l.drop j⟩) = rz.set k ⟨r.p, r.cap, List.replicate j (-1 - (k : Int))⟩ := by rw [HF.out.2.2.1]
                  have hrk : (rz.set k ⟨r.p, r.cap, List.replicate j (-1 - (k : Int))⟩)[k]? = some ⟨r.p, r.cap, List.replicate j (-1 - (k : Int))⟩ := List.getElem?_set_self (List.getElem?_eq_some_iff.1 HT.out.2).1
                  have h0 := JR.out.1
                  rw [hRf] at h0
                  have hval : Rw.val ⟨r.p, r.cap, List.replicate j (-1 - (k : Int))⟩ = .slice r.p j r.cap := by simp [Rw.val]
                  obtain ⟨c', b1, b2, b3, b4⟩ := KAt.grow (s := ⟨some ⟨gq, 0, none⟩, cq, List.replicate (j + 1) (-1 - (k : Int))⟩) h0 JR.out.2.1 JR.out.2.2.1 (by rw [hkN]; exact hrk)
                    (by
                      have := A1.out
                      simp only [Rw.val, List.length_replicate]
                      rw [List.replicate_succ', List.map_append]
                      exact this) (by rw [hval]; exact G1.out) (by
                      rw [hval]
                      rcases P1.out with e | e
                      · exact .inl e.symm
                      · exact .inr (congrArg some e)) (by rw [hval]; simpa using ST.out) (by rw [show Rw.val ⟨some ⟨gq, 0, none⟩, cq, List.replicate (j + 1) (-1 - (k : Int))⟩ = .slice (some ⟨gq, 0, none⟩) (j + 1) cq from by simp [Rw.val]]; exact A2.out) G2.out P2.out
                  have hsl : (gs ++ [(⟨some ⟨gq, 0, none⟩, cq, List.replicate (j + 1) (-1 - (k : Int))⟩ : Rw)]).length = gs.length + 1 := by simp
                  refine ⟨k + 1, _, _, c', ap, cp', hlt, by rw [hsl], by have := hrl.out; go_num, ⟨b1, by rw [hsl]; exact b2, b3, Keep.grown ((Keep.grown (JR.out.2.2.2.alloc _) G1.out fun y hy => (HF.out.1.lt y hy).1).alloc _) G2.out fun y hy => (O2.out.lt y hy).1, by rw [List.length_set]; exact HT.out.1.len, by rw [hsl, hkN], fun q hq => ?_, fun i hi q hq => ?_, fun i q hq => ?_⟩⟩
                  · rcases List.mem_or_eq_of_mem_set hq with hq | rfl
                    · exact HT.out.1.le q hq
                    · simp only [List.length_replicate]; omega
                  · by_cases hik : i = k
                    · subst hik
                      rw [hrk] at hq
                      cases hq
                      simp
                    · rw [List.getElem?_set_ne (Ne.symm hik)] at hq
                      exact HT.out.1.full i (by omega) q hq
                  · by_cases hik : i < gs.length
                    · rw [List.getElem?_append_left hik] at hq
                      obtain ⟨r2, e1, e2⟩ := HT.out.1.more i q hq
                      exact ⟨r2, by rw [List.getElem?_set_ne (by omega)]; exact e1, e2⟩
                    · have hl := (List.getElem?_eq_some_iff.1 hq).1
                      rw [hsl] at hl
                      obtain rfl : i = gs.length := by omega
                      rw [List.getElem?_append_right (Nat.le_refl _), Nat.sub_self] at hq
                      cases hq
                      refine ⟨_, by rw [hkN]; exact hrk, ?_⟩
                      rw [hkN]
                      simp
                case measure => have := hrl.out; simp [intOf]; omega
          · have hke : k = rs.length := by omega
            subst hke
            have HT := Lib.hid hT
            clear hT
            go_wp2_with fail
            go_loopw [11] (fun kk wy => ∃ k : Nat, k ≤ rs.length ∧ kk = .int .i64 k ∧ Keep [] wr wy) (fun kk _ => rs.length - (intOf kk).toNat)
            case atStart => exact ⟨0, Nat.zero_le _, rfl, Keep.refl _ _⟩
            case round =>
              obtain ⟨k, hk2, rfl, hKy⟩ := hrel
              have HT := Lib.hid (HT.out.keep0 hKy)
              have KY := Lib.hid hKy
              clear hKy
              by_cases hlt : k < rs.length
              · have hk' : (k : Int) < (rs.length : Int) := by omega
                have hkg : (k : Int) < (gs.length : Int) := by have := HT.out.glen; omega
                have hrl3 : rs.length ≤ 1024 := hrl.out
                obtain ⟨s, hs⟩ : ∃ s, gs[k]? = some s := ⟨_, List.getElem?_eq_getElem (by rw [HT.out.glen]; exact hlt)⟩
                obtain ⟨r, hr, hsl⟩ := HT.out.more k s hs
                have hrf := HT.out.full k hlt r hr
                obtain ⟨gp, cq, e1, -⟩ := owns_pos HT.out.kept.sp (by rw [HT.out.len]; omega)
                rw [HT.out.len] at e1
                cases e1
                obtain ⟨gp2, cq2, e2, -⟩ := owns_pos HT.out.grown.sp (by rw [HT.out.glen]; omega)
                cases e2
                obtain ⟨rn, hrn⟩ : ∃ rn, rn = r.l.length := ⟨_, rfl⟩
                have hsn : s.l.length = rn + 1 := by rw [hsl, hrn]; simp
                have hrn2 : rn ≤ 4096 := by rw [hrn]; exact HT.out.le r (List.mem_of_getElem? hr)
                have hx : wrap64 (-1 - (k : Int)) = -1 - (k : Int) := by have := hrl.out; exact IntWalk.wrap64_in _ (by omega)
                have hx2 : IntKind.i64.wrap (-1 - (k : Int)) = -1 - (k : Int) := by have := hrl.out; exact IntWalk.i64_in _ (by omega)
                have HK := Lib.hid (And.intro hs (And.intro hr (And.intro hsl (And.intro hrf (And.intro hrn hsn)))))
                have F : ∀ wy, Keep [] wr wy → (wy.cell? ⟨gp, k, none⟩ = some (.slice r.p rn r.cap) ∧ wy.cell? ⟨gp2, k, none⟩ = some (.slice s.p (rn + 1) s.cap)) := fun wy ky => by
                  have hT := HT.out.keep0 ky
                  have sp := hT.kept.sp
                  rw [hT.len] at sp
                  have sp2 := hT.grown.sp
                  have hgl := hT.glen
                  constructor
                  · rw [sp.cellAt k (by omega), List.getElem?_map, hr]
                    simp [Rw.val, hrn]
                  · rw [sp2.cellAt k (by omega), List.getElem?_map, hs]
                    simp [Rw.val, hsn]
                have FF := Lib.hid F
                clear hs hr hsl hrf hrn hsn F hk2
                go_wp2_with fail
                go_loopw [12] (fun jj wy => ∃ j : Nat, j ≤ rn + 1 ∧ jj = .int .i64 j ∧ Keep [] wr wy) (fun jj _ => rn + 1 - (intOf jj).toNat)
                case atStart => exact ⟨0, Nat.zero_le _, rfl, Keep.refl _ _⟩
                case round =>
                  obtain ⟨j, hj, rfl, hKz⟩ := hrel
                  have KZ := Lib.hid hKz
                  obtain ⟨f1, f2⟩ := FF.out _ hKz
                  clear hKz
                  by_cases hjl : j < rn + 1
                  · have hjl' : (j : Int) < (rn : Int) + 1 := by omega
                    obtain ⟨o2, -⟩ := (HT.out.keep0 KZ.out).grown.row k s HK.out.1
                    obtain ⟨o1, -⟩ := (HT.out.keep0 KZ.out).kept.row k r HK.out.2.1
                    obtain ⟨gy, cy, e1, -⟩ := owns_pos o2 (by have := HK.out.2.2.2.2.2; omega)
                    simp only [Rw.val, Value.slice.injEq] at e1
                    obtain ⟨e3, -, -⟩ := e1
                    have dy : wr.cell? ⟨gy, j, none⟩ = some (.int .i64 (-1 - (k : Int))) := by
                      have o3 := o2
                      rw [Rw.val, e3] at o3
                      rw [o3.cellAt j (by have := HK.out.2.2.2.2.2; omega), HK.out.2.2.1, List.map_replicate, List.getElem?_replicate, if_pos (by have := HK.out.2.2.2.2.1; omega)]
                    rw [e3] at f2
                    by_cases hjr : j < rn
                    · have hjr' : (j : Int) < (rn : Int) := by omega
                      obtain ⟨gz, cz, e4, -⟩ := owns_pos o1 (by have := HK.out.2.2.2.2.1; omega)
                      simp only [Rw.val, Value.slice.injEq] at e4
                      obtain ⟨e5, -, -⟩ := e4
                      have dz : wr.cell? ⟨gz, j, none⟩ = some (.int .i64 (-1 - (k : Int))) := by
                        have o3 := o1
                        rw [Rw.val, e5] at o3
                        rw [o3.cellAt j (by have := HK.out.2.2.2.2.1; omega), HK.out.2.2.2.1, List.map_replicate, List.getElem?_replicate, if_pos (by have := HK.out.2.2.2.2.1; omega)]
                      rw [e5] at f1
                      clear o1 o2 e3 e5
                      go_wp2_with fail
                      go_roundw
                      case rel => exact ⟨j + 1, by omega, by go_num, KZ.out⟩
                      case measure => simp [intOf]; omega
                    · have hjr' : ¬ (j : Int) < (rn : Int) := by omega
                      clear o1 o2 e3
                      go_wp2_with fail
                      go_roundw
                      case rel => exact ⟨j + 1, by omega, by go_num, KZ.out⟩
                      case measure => simp [intOf]; omega
                  · have hjl' : ¬ (j : Int) < (rn : Int) + 1 := by omega
                    have KK := Lib.hid (KY.out.trans KZ.out)
                    go_wp2_with fail
                    go_roundw
                    case rel => exact ⟨k + 1, hlt, by go_num, KK.out⟩
                    case measure => simp [intOf]; omega
              · have hlt' : ¬ (k : Int) < (rs.length : Int) := by omega
                have HK4 := Lib.hid HT.out.keep
                clear HT
                go_wp2_with fail
                go_loopw [13] (fun ii wy => ∃ n4 : Nat, n4 ≤ 2 ∧ ii = .int .i64 n4 ∧ Keep [] w wy) (fun ii _ => 2 - (intOf ii).toNat)
                case atStart => exact ⟨0, by omega, rfl, HK4.out⟩
                case round =>
                  clear HK4
                  obtain ⟨n4, hn4, rfl, hK4⟩ := hrel
                  have HK4 := Lib.hid hK4
                  have HL := Lib.hid (HA.out.keep0 hK4)
                  clear hK4
                  have h3 : n4 = 0 ∨ n4 = 1 ∨ n4 = 2 := by omega
                  rcases h3 with rfl | rfl | rfl
                  · obtain ⟨hl0, hhl⟩ : ∃ hl, hl = (X 0).heads.length := ⟨_, rfl⟩
                    obtain ⟨qv, bs, hr⟩ := HL.out.r
                    have ir := (hr.env 0 (by omega)).ix
                    have hf : hl0 ≤ 256 := by rw [hhl]; exact ir.few
                    have HHL := Lib.hid hhl
                    clear hhl hr ir
                    rw [show ((0 : Nat) : Int) = (0 : Int) from rfl]
                    go_wp2_with fail
                    go_loopw [14] (fun bb wy => ∃ m : Nat, m ≤ hl0 ∧ bb = .int .i64 m ∧ Keep [] w wy) (fun bb _ => hl0 - (intOf bb).toNat)
                    case atStart => exact ⟨0, Nat.zero_le _, rfl, HK4.out⟩
                    case round =>
                      obtain ⟨m, hm, rfl, hKm⟩ := hrel
                      have HM := Lib.hid (And.intro hKm (HA.out.keep0 hKm))
                      clear hKm
                      obtain ⟨s0, s1, s2, s3, s4, s5⟩ := HM.out.2.wp.cs
                      unfold pt at s0 s1 s2 s3 s4 s5
                      obtain ⟨qv, bs, hr⟩ := HM.out.2.r
                      have d2 : wr.cell? ⟨g.rx 0, 2, none⟩ = some (.slice (some ⟨g.rh 0, 0, none⟩) hl0 (g.rc 0)) := by rw [HHL.out]; exact (cell_of (hr.env 0 (by omega)).ix.hx 2).trans rfl
                      clear hr
                      by_cases hml : m < hl0
                      · have hml' : (m : Int) < (hl0 : Int) := by omega
                        go_wp2_with fail
                        refine (look0 HM.out.2 m).mono ?_
                        rintro e w2 ⟨rfl, k2⟩
                        have K2 := Lib.hid (HM.out.1.trans k2)
                        clear k2 d2 s0 s1 s2 s3 s4 s5
                        go_wp2_with fail
                        go_roundw
                        case rel => exact ⟨m + 1, hml, by go_num, K2.out⟩
                        case measure => simp [intOf]; omega
                      · have hml' : ¬ (m : Int) < (hl0 : Int) := by omega
                        go_wp2_with fail
                        go_roundw
                        case rel => exact ⟨0 + 1, by omega, by go_num, HM.out.1⟩
                        case measure => simp [intOf]
                  · obtain ⟨hl1, hhl⟩ : ∃ hl, hl = (X 1).heads.length := ⟨_, rfl⟩
                    obtain ⟨qv, bs, hr⟩ := HL.out.r
                    have ir := (hr.env 1 (by omega)).ix
                    have hf : hl1 ≤ 256 := by rw [hhl]; exact ir.few
                    have HHL := Lib.hid hhl
                    clear hhl hr ir
                    rw [show ((1 : Nat) : Int) = (1 : Int) from rfl]
                    go_wp2_with fail
                    go_loopw [14] (fun bb wy => ∃ m : Nat, m ≤ hl1 ∧ bb = .int .i64 m ∧ Keep [] w wy) (fun bb _ => hl1 - (intOf bb).toNat)
                    case atStart => exact ⟨0, Nat.zero_le _, rfl, HK4.out⟩
                    case round =>
                      obtain ⟨m, hm, rfl, hKm⟩ := hrel
                      have HM := Lib.hid (And.intro hKm (HA.out.keep0 hKm))
                      clear hKm
                      obtain ⟨s0, s1, s2, s3, s4, s5⟩ := HM.out.2.wp.cs
                      unfold pt at s0 s1 s2 s3 s4 s5
                      obtain ⟨qv, bs, hr⟩ := HM.out.2.r
                      have d2 : wr.cell? ⟨g.rx 1, 2, none⟩ = some (.slice (some ⟨g.rh 1, 0, none⟩) hl1 (g.rc 1)) := by rw [HHL.out]; exact (cell_of (hr.env 1 (by omega)).ix.hx 2).trans rfl
                      clear hr
                      by_cases hml : m < hl1
                      · have hml' : (m : Int) < (hl1 : Int) := by omega
                        go_wp2_with fail
                        refine (look1 HM.out.2 m).mono ?_
                        rintro e w2 ⟨rfl, k2⟩
                        have K2 := Lib.hid (HM.out.1.trans k2)
                        clear k2 d2 s0 s1 s2 s3 s4 s5
                        go_wp2_with fail
                        go_roundw
                        case rel => exact ⟨m + 1, hml, by go_num, K2.out⟩
                        case measure => simp [intOf]; omega
                      · have hml' : ¬ (m : Int) < (hl1 : Int) := by omega
                        go_wp2_with fail
                        go_roundw
                        case rel => exact ⟨1 + 1, by omega, by go_num, HM.out.1⟩
                        case measure => simp [intOf]
                  · go_wp2_with fail
                    go_ret
                    exact ⟨rfl, HK4.out⟩
  · go_enter Tryz.func89, Tryz.ntmps89
    go_wp2_with fail
    go_ret
    exact ⟨rfl, Keep.refl _ _⟩
end
end Go.Proofs.YtgagiggljlikbaaGreat.Lw
