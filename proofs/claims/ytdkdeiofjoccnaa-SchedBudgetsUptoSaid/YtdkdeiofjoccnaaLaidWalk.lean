/- stratalaw03.laid: the walk. -/
import Derived.Test.YtdkdeiofjoccnaaLaid
import Derived.OwnWalk
namespace Go.Proofs.Ytdkdeiofjoccnaa.Lit
open Go.RowKit Go.Proofs.Ytdkdeiofjoccnaa.Mem Go.Proofs.Ytdkdeiofjoccnaa.Ar Go.Proofs.Ytdkdeiofjoccnaa.Un
set_option linter.unusedVariables false
set_option maxRecDepth 100000

/-- a harness of many benches' threads, as laid hands it back -/
def LaidAt (w wr : World) (hb : Nat) (wk : Nat) (js : List Jb) (P : Park) (S : St) (H : Har.Har) : Prop :=
  ∃ hq vs ve vd, Yard w wr hb hq vs ve vd P S H ∧ LaidH wk js P S H ∧ Har.due H ≤ 2 * js.length

theorem LaidAt.keep {w wr : World} {hb wk : Nat} {js : List Jb} {P : Park} {S : St} {H : Har.Har} (h : LaidAt w wr hb wk js P S H) : Keep [] w wr := by
  obtain ⟨hq, vs, ve, vd, hY, -⟩ := h
  exact hY.keep

theorem jobLit (n : Nat) (hn : n ≤ 10) : soundB ⟨[0], [List.replicate n addI]⟩ = true ∧ Small ⟨[0], [List.replicate n addI]⟩ := by
  refine ⟨?_, ⟨by simp, by simp, by simp; omega⟩⟩
  have h : ∀ m : Fin 11, soundB ⟨[0], [List.replicate m.val addI]⟩ = true := by decide +kernel
  exact h ⟨n, by omega⟩

theorem due_zero (wk : Nat) : Har.due ⟨List.replicate wk [], 0, [], []⟩ = 0 := by
  unfold Har.due
  induction wk with
  | zero => rfl
  | succ n ih =>
    simp only [List.replicate_succ, List.map_cons, List.sum_cons] at ih ⊢
    rw [ih]
    rfl

abbrev zI : Value := .agg #[.int .i64 0, .int .i64 0, .int .i64 0, .int .i64 0, .int .u64 0, .int .i64 0, .int .u64 0, .int .i64 0]
theorem zI_cells : zI.cells = zeroI.cells.toArray := by simp [Value.cells, zeroI, Ins.cells]
theorem cyc : ∀ (n i : Nat) (h : i < (flatI (List.replicate n zeroI)).length), (flatI (List.replicate n zeroI))[i] = zeroI.cells.toArray[i % 8]!
  | 0, i, h => by simp [flatI] at h
  | n + 1, i, h => by
    have hz : flatI (List.replicate (n + 1) zeroI) = zeroI.cells ++ flatI (List.replicate n zeroI) := by rw [List.replicate_succ]; rfl
    have h8 : zeroI.cells.length = 8 := rfl
    simp only [hz] at h ⊢
    by_cases hi : i < 8
    · rw [List.getElem_append_left (by omega), Nat.mod_eq_of_lt hi]
      have h9 : i < zeroI.cells.toArray.size := by simpa [h8] using hi
      rw [getElem!_pos zeroI.cells.toArray i h9]
      simp
    · rw [List.getElem_append_right (by omega)]
      have h' : i - zeroI.cells.length < (flatI (List.replicate n zeroI)).length := by rw [List.length_append] at h; omega
      rw [cyc n (i - zeroI.cells.length) h', h8, show i % 8 = (i - 8) % 8 by omega]
theorem made_I (n : Nat) : madeCells zI.cells (n * 8) = (flatI (List.replicate n zeroI)).toArray := by
  have hl : (flatI (List.replicate n zeroI)).length = n * 8 := by rw [flatI_length]; simp
  rw [zI_cells]
  apply Array.ext
  · simp [madeCells, hl]
  · intro i h1 h2
    have h3 : i < (flatI (List.replicate n zeroI)).length := by simpa using h2
    have e := cyc n i h3
    have e' : (flatI (List.replicate n zeroI)).toArray[i] = (flatI (List.replicate n zeroI))[i] := by simp
    rw [e', e]
    simp only [madeCells, Array.getElem_map, Array.getElem_range]
    rfl
theorem makeI (n : Nat) (hn : n ≤ 10) (w : World) :
    (Instr.makeSlice 88 (.int .i64 (n : Int)) (.int .i64 (n : Int))).run Try.prog w = .ok (.slice (some ⟨w.heap.size, 0, none⟩) n n) (w.alloc (.cells (madeCells zI.cells (n * 8)) 92)) := by
  obtain ⟨i, hi, hz, hs, hb⟩ := info_parts infoInstr
  have h := run_make (P := Try.prog) w 88 92 i _ Try.underlying88 hi hz .i64 .i64 (n : Int) (n : Int) (by omega) (Int.le_refl _) (by rw [hb]; omega) (by omega)
  rw [hs, Int.toNat_natCast] at h
  exact h

theorem max_run (m : Nat) (w : World) : (Builtin.max_ #[3, 3] 3 #[.int .i64 1, .int .i64 (m : Int)]).run Try.prog w = .ok (.int .i64 ((max 1 m : Nat) : Int)) w := by
  rcases Nat.lt_trichotomy m 1 with h | h | h
  · obtain rfl : m = 0 := by omega
    kernel_rfl
  · subst h
    kernel_rfl
  · rw [Nat.max_eq_right (by omega)]
    have h2 : (1 : Int) < m := by omega
    simp [Builtin.max_, Builtin.max2, h2]

theorem jobAt {w w4 : World} {pb m : Nat} (hw : w4 = (w.alloc (.cells #[.int .u64 0] 46)).alloc (.cells #[.slice (some ⟨pb, 0, none⟩) m m] 88)) (hb : w.heap[pb]? = some (.cells (flatI (List.replicate m addI)).toArray 92 (0, 0))) :
    LitAt w4 (.slice (some ⟨w.heap.size, 0, none⟩) 1 1) (.slice (some ⟨w.heap.size + 1, 0, none⟩) 1 1) ⟨[0], [List.replicate m addI]⟩ := by
  have c1 : w4.heap[w.heap.size]? = some (.cells #[.int .u64 0] 46 (0, 0)) := by rw [hw]; exact alloc_some _ (alloc_new w _)
  have c2 : w4.heap[w.heap.size + 1]? = some (.cells #[.slice (some ⟨pb, 0, none⟩) m m] 88 (0, 0)) := by
    rw [hw]
    have := alloc_new (w.alloc (.cells #[.int .u64 0] 46)) (.cells #[.slice (some ⟨pb, 0, none⟩) m m] 88)
    rw [World.size_alloc] at this
    exact this
  have c3 : w4.heap[pb]? = some (.cells (flatI (List.replicate m addI)).toArray 92 (0, 0)) := by rw [hw]; exact alloc_some _ (alloc_some _ hb)
  refine ⟨⟨_, _, rfl, ⟨fun i hi => ⟨_, 0, rfl, ?_⟩⟩⟩, ⟨_, _, [.slice (some ⟨pb, 0, none⟩) m m], rfl, rfl, ⟨fun i hi => ⟨_, 0, rfl, ?_⟩⟩, fun i h1 h2 => ?_⟩⟩
  · obtain rfl : i = 0 := by simpa using hi
    exact (cell_of c1 0).trans rfl
  · obtain rfl : i = 0 := by simpa using hi
    exact (cell_of c2 0).trans rfl
  · obtain rfl : i = 0 := by simpa using h1
    refine ⟨some ⟨pb, 0, none⟩, m, by simp, ⟨fun j hj => ⟨pb, 0, rfl, ?_⟩⟩⟩
    rw [Nat.zero_add, cell_of c3, List.getElem?_toArray]
    exact List.getElem?_eq_getElem hj

theorem queue_len {wk : Nat} {js : List Jb} {P : Park} {S : St} {H : Har.Har} (h : LaidH wk js P S H) {v : Nat} (hv : v < H.queues.length) : H.queues[v].length ≤ js.length := by
  have e : H.queues[v] = ((P.seats.zip js).filter fun x => x.2.w wk == v).map fun x => ⟨ptr x.1.tb, x.2.tag, false⟩ := by
    simp only [h.qs, List.getElem_map, List.getElem_range]
  rw [e, List.length_map]
  refine Nat.le_trans (List.length_filter_le _ _) ?_
  rw [List.length_zip]
  omega

theorem total_le : ∀ js : List Jb, total js ≤ 11 * js.length
  | [] => Nat.le_refl _
  | j :: js => by
    have := total_le js
    have h1 : j.n < 11 := Nat.mod_lt _ (by omega)
    have h2 : j.cost ≤ 11 := by unfold Jb.cost; omega
    simp only [total, List.map_cons, List.sum_cons, List.length_cons] at this ⊢
    omega

/-- one job handed in -/
theorem submit_one {w w6 : World} {hb hq : Nat} {vs : List Value} {ve vd : Value} {wk : Nat} {js : List Jb} {P : Park} {S : St} {H : Har.Har} {L : Bk} {s : Seat} {A : Arena Unit} {j : Jb} {ab : Nat}
    (hY : Yard w w6 hb hq vs ve vd (P.plus L s) (S.plus A (th0 (List.replicate j.n addI))) H) (hL : LaidH wk js P S H) (hd : Har.due H ≤ 2 * js.length) (hj : js.length ≤ 40) (hw : 1 ≤ wk) (ht : -9223372036854775808 ≤ j.tag ∧ j.tag ≤ 9223372036854775807)
    (hn : w6.heap[ab]? = some (.cells #[.pointer (some ⟨s.tb, 0, none⟩)] 54 (0, 0))) (ha : ab ∉ (P.plus L s).all ∧ ab ∉ Har.blocks hb hq (ve :: vd :: vs)) :
    Calls Try.prog 31 #[.pointer (some ⟨hb, 0, none⟩), .int .i64 ((j.w wk : Nat) : Int), .int .i64 j.tag, .slice (some ⟨ab, 0, none⟩) 1 1] w6 fun e w' => e = .returned (.int .i64 0) ∧ ∃ P' S' H', LaidAt w w' hb wk (js ++ [j]) P' S' H' := by
  have hv : j.w wk < H.queues.length := by
    rw [hL.qs]
    simp
    exact Nat.mod_lt _ (by omega)
  have hp : Har.pend H ((j.w wk : Nat) : Int) ≤ 40 := by
    rw [Har.pend_of hv]
    exact Nat.le_trans (queue_len hL hv) hj
  have hm : Har.Machs w6 (Har.blocks hb hq (ve :: vd :: vs) ++ (machs (P.plus L s)).B) (some ⟨ab, 0, none⟩) [⟨s.tb, 0, none⟩] := by
    refine ⟨fun i hi => ?_, fun g o e => ?_⟩
    · obtain rfl : i = 0 := by simpa using hi
      exact ⟨ab, 0, rfl, (cell_of hn 0).trans rfl⟩
    · simp only [Option.some.injEq, Addr.mk.injEq] at e
      obtain ⟨rfl, -, -⟩ := e
      refine ⟨fun hm => ?_, lt_of hn⟩
      rcases List.mem_append.1 hm with hm | hm
      · exact ha.2 hm
      · exact ha.1 hm
  have hq : ∀ m ∈ ([⟨s.tb, 0, none⟩] : List Addr), (machs (P.plus L s)).ok (S.plus A (th0 (List.replicate j.n addI))) (.pointer (some m)) := by
    intro m hm
    simp only [List.mem_singleton] at hm
    subst hm
    exact ⟨P.seats.length, by simp [Park.plus, Park.more, Park.moreAr], by simp [Park.plus, Park.more, Park.moreAr, ptr]⟩
  refine (Har.submit hY.since (j.w wk) hv j.tag (some ⟨ab, 0, none⟩) 1 [⟨s.tb, 0, none⟩] hm hq (by simp; omega) (by omega) (by rw [hL.events]; simp; omega)).mono ?_
  rintro e w' ⟨rfl, hq2, vs2, ve2, vd2, hS⟩
  have e1 : Har.jobsOf j.tag 0 [⟨s.tb, 0, none⟩] = [⟨ptr s.tb, j.tag, false⟩] := by
    simp only [Har.jobsOf, ptr]
    rw [IntWalk.i64_in _ (by omega)]
    simp
  rw [e1] at hS
  refine ⟨rfl, _, _, _, hq2, vs2, ve2, vd2, hY.after hS, hL.more j L s A hv, ?_⟩
  have := Har.due_put H hv (H.queues[j.w wk] ++ [⟨ptr s.tb, j.tag, false⟩])
  have e2 : Har.dueQ (H.queues[j.w wk] ++ [⟨ptr s.tb, j.tag, false⟩]) = Har.dueQ H.queues[j.w wk] + 2 := by
    simp [Har.dueQ, Har.Job.due]
  rw [e2] at this
  rw [List.length_append, List.length_singleton]
  omega

set_option maxHeartbeats 2000000 in
theorem laid (wk : Nat) (h1 : 1 ≤ wk) (h2 : wk ≤ 16) (a : Option Addr) (cap : Nat) (js : List Jb) (hj : js.length ≤ 40) (w : World) (hin : JobsIn w a js) :
    Calls Try.prog 43 #[.int .i64 wk, .slice a js.length cap] w fun e w' => ∃ hb P S H, e = .returned (.tuple #[.pointer (some ⟨hb, 0, none⟩), .int .i64 (total js), .bool true]) ∧ LaidAt w w' hb wk js P S H := by
  have HIN := Lib.hid hin
  obtain ⟨n, hn⟩ : ∃ n, n = js.length := ⟨_, rfl⟩
  have HN := Lib.hid hn
  rw [← hn]
  rw [← hn] at hj
  clear hin hn
  go_enter Try.func43, Try.ntmps43
  go_wp2_with fail
  refine (Har.new_ok wk h1 h2).mono ?_
  rintro e w1 ⟨hb, hq, vs, ve, vd, rfl, hH, hnew, k1⟩
  have Y1 : Hid (Yard w w1 hb hq vs ve vd ⟨[], []⟩ ⟨[], []⟩ ⟨List.replicate wk [], 0, [], []⟩) := Lib.hid (by
    refine ⟨⟨fun k k' hne x hx => ?_, rfl, rfl, fun i h => absurd h (by simp), fun i h => absurd h (by simp)⟩, hH, fun q hq j hjq => ?_, ⟨by rw [due_zero]; simp, Nat.le_refl _⟩, fun x hx => absurd hx (by simp [Park.all]), ?_, k1⟩
    · have : x ∈ (⟨[], []⟩ : Park).all := Park.mem_all.2 ⟨k, hx⟩
      simp [Park.all] at this
    · rw [(List.mem_replicate.1 hq).2] at hjq
      simp at hjq
    · rintro x (hx | hx)
      · simp [Park.all] at hx
      · exact hnew x hx)
  clear hH hnew k1
  go_wp2_with fail
  go_loopw [9, 10] (fun st i wr => ∃ (k : Nat) (P : Park) (S : St) (H : Har.Har), st = .int .i64 (total (js.take k)) ∧ i = .int .i64 k ∧ k ≤ n ∧ LaidAt w wr hb wk (js.take k) P S H) (fun _ i _ => n - (intOf i).toNat)
  case atStart => exact ⟨0, _, _, _, rfl, rfl, Nat.zero_le _, hq, vs, ve, vd, Y1.out, LaidH.none wk, by rw [due_zero]; exact Nat.zero_le _⟩
  case round =>
    obtain ⟨k, P, S, H, rfl, rfl, hk, hL⟩ := hrel
    obtain ⟨hq', vs', ve', vd', hY, hLH, hdue⟩ := hL
    have YR := Lib.hid hY
    have LR := Lib.hid (And.intro hLH hdue)
    have KR := Lib.hid (HIN.out.keep hY.keep)
    clear hY hLH hdue
    by_cases hlt : k < n
    · have hkj : k < js.length := by have := HN.out; omega
      obtain ⟨g, o, rfl, x0, x1, x2⟩ := KR.out.cell k hkj
      have hrng := HIN.out.rng js[k] (List.getElem_mem hkj)
      obtain ⟨j, hjj⟩ : ∃ j, j = js[k] := ⟨_, rfl⟩
      rw [← hjj] at x0 x1 x2 hrng
      have HJ := Lib.hid (show ∃ h : k < js.length, j = js[k] from ⟨hkj, hjj⟩)
      have RNG := Lib.hid hrng
      have hjn : j.n ≤ 10 := by unfold Jb.n; have := Nat.mod_lt (uN j.len) (show 0 < 11 by omega); omega
      have e1 : wrap64 ((IntKind.u64.wrap j.len).tmod 11) = (j.n : Int) := rem_eq j.len 11 (by omega) (by omega)
      obtain ⟨m, hm⟩ : ∃ m, m = j.n := ⟨_, rfl⟩
      rw [← hm] at e1 hjn
      have HM := Lib.hid hm
      have mk := makeI m hjn
      have mx := max_run m
      clear hjj hrng hkj hm
      go_wp2_with fail
      obtain ⟨pb, hpb⟩ : ∃ pb, pb = wr.heap.size := ⟨_, rfl⟩
      obtain ⟨w2, hw2⟩ : ∃ w2, w2 = wr.alloc (.cells (madeCells zI.cells (m * 8)) 92) := ⟨_, rfl⟩
      have B2 := Lib.hid (show w2.heap[pb]? = some (.cells (flatI (List.replicate m zeroI)).toArray 92 (0, 0)) by
        rw [hw2, hpb, made_I]
        exact alloc_new _ _)
      have K2 := Lib.hid (show Keep [] wr w2 by rw [hw2]; exact (Keep.refl _ _).alloc _)
      have hw2' : wr.alloc (.cells (madeCells #[.int .i64 0, .int .i64 0, .int .i64 0, .int .i64 0, .int .u64 0, .int .i64 0, .int .u64 0, .int .i64 0] (m * 8)) 92) = w2 := by
        rw [hw2]
        simp [Value.cells]
      rw [hw2', ← hpb]
      have HPB := Lib.hid hpb
      clear hw2 hw2' hpb mk mx x1 x2
      go_loopw [13] (fun i wx => ∃ q : Nat, i = .int .i64 q ∧ q ≤ m ∧ wx.heap[pb]? = some (.cells (flatI (List.replicate q addI) ++ flatI (List.replicate (m - q) zeroI)).toArray 92 (0, 0)) ∧ Keep [] wr wx) (fun i _ => m - (intOf i).toNat)
      case atStart => exact ⟨0, rfl, Nat.zero_le _, by rw [Nat.sub_zero]; exact B2.out, K2.out⟩
      case round =>
        obtain ⟨q, rfl, hq, hb', hk'⟩ := hrel
        have BX := Lib.hid hb'
        have KX := Lib.hid hk'
        clear hb' hk'
        by_cases hqm : q < m
        · have hcell : ∀ d, d < 8 → wr.cell? ⟨pb, q * 8 + d, none⟩ = zeroI.cells[d]? := by
            intro d hd
            have hl : (flatI (List.replicate q addI)).length = q * 8 := by rw [flatI_length]; simp
            have hz : flatI (List.replicate (m - q) zeroI) = zeroI.cells ++ flatI (List.replicate (m - q - 1) zeroI) := by
              rw [show m - q = (m - q - 1) + 1 by omega, List.replicate_succ]; rfl
            rw [cell_of BX.out, List.getElem?_toArray, List.getElem?_append_right (by omega), hl, Nat.add_sub_cancel_left, hz, List.getElem?_append_left (by show d < 8; exact hd)]
          have y0 : wr.cell? ⟨pb, q * 8, none⟩ = some (.int .i64 0) := hcell 0 (by omega)
          have y1 : wr.cell? ⟨pb, q * 8 + 1, none⟩ = some (.int .i64 0) := hcell 1 (by omega)
          have y2 : wr.cell? ⟨pb, q * 8 + 2, none⟩ = some (.int .i64 0) := hcell 2 (by omega)
          have y3 : wr.cell? ⟨pb, q * 8 + 3, none⟩ = some (.int .i64 0) := hcell 3 (by omega)
          have y4 : wr.cell? ⟨pb, q * 8 + 4, none⟩ = some (.int .u64 0) := hcell 4 (by omega)
          have y5 : wr.cell? ⟨pb, q * 8 + 5, none⟩ = some (.int .i64 0) := hcell 5 (by omega)
          have y6 : wr.cell? ⟨pb, q * 8 + 6, none⟩ = some (.int .u64 0) := hcell 6 (by omega)
          have y7 : wr.cell? ⟨pb, q * 8 + 7, none⟩ = some (.int .i64 0) := hcell 7 (by omega)
          have yf := free_of BX.out
          clear hcell
          go_wp2_with fail
          go_roundw
          case rel =>
            refine ⟨q + 1, by go_num, hqm, ?_, ?_⟩
            · have h8 := set_same (set_same (set_same (set_same (set_same (set_same (set_same (set_same BX.out (q * 8) (.int .i64 4)) (q * 8 + 1) (.int .i64 0)) (q * 8 + 2) (.int .i64 0)) (q * 8 + 3) (.int .i64 (-1))) (q * 8 + 4) (.int .u64 1)) (q * 8 + 5) (.int .i64 0)) (q * 8 + 6) (.int .u64 0)) (q * 8 + 7) (.int .i64 0)
              have h9 := lay_one q (m - q - 1) addI
              rw [show m - q - 1 + 1 = m - q by omega] at h9
              refine h8.trans ?_
              rw [show m - (q + 1) = m - q - 1 by omega]
              exact congrArg (fun z => some (Obj.cells z 92 (0, 0))) (h9.trans (by rw [addI_snoc]))
            · have hp := HPB.out
              have hp' := Nat.le_of_eq hp.symm
              exact (((((((KX.out.set (.inr hp') _ _).set (.inr hp') _ _).set (.inr hp') _ _).set (.inr hp') _ _).set (.inr hp') _ _).set (.inr hp') _ _).set (.inr hp') _ _).set (.inr hp') _ _
          case measure => simp [intOf]; omega
        · have hqe : q = m := by omega
          have HQ := Lib.hid (show wr.heap[pb]? = some (.cells (flatI (List.replicate m addI)).toArray 92 (0, 0)) by
            have := BX.out
            rw [hqe, Nat.sub_self, show flatI (List.replicate 0 zeroI) = [] from rfl, List.append_nil] at this
            exact this)
          clear BX hqe
          have Y3 := Lib.hid (YR.out.frame0 KX.out)
          have J3 := Lib.hid (KR.out.keep KX.out)
          go_wp2_with fail
          obtain ⟨jl, js'⟩ := jobLit m hjn
          obtain ⟨w4, hw4⟩ : ∃ w4, w4 = (wr.alloc (.cells #[.int .u64 0] 46)).alloc (.cells #[.slice (some ⟨pb, 0, none⟩) m m] 88) := ⟨_, rfl⟩
          have K4 := Lib.hid (show Keep [] wr w4 by rw [hw4]; exact ((Keep.refl _ _).alloc _).alloc _)
          have L4 := Lib.hid (show LitAt w4 (.slice (some ⟨wr.heap.size, 0, none⟩) 1 1) (.slice (some ⟨wr.heap.size + 1, 0, none⟩) 1 1) ⟨[0], [List.replicate m addI]⟩ from jobAt hw4 HQ.out)
          rw [← hw4]
          clear hw4
          refine (lay_ok js' L4.out jl).mono ?_
          rintro e w5 ⟨bb, L, hb2, hq2, vs2, ve2, vd2, P2, tsv, rfl, hB, hP2⟩
          have B5 := Lib.hid hB
          have Y4 := Y3.out.frame0 K4.out
          obtain ⟨s, hs, hY5, -⟩ := Y4.plus hB hP2
          have Y5 := Lib.hid hY5
          have SS := Lib.hid hs
          have J5 := Lib.hid ((J3.out.keep K4.out).keep hB.keep)
          obtain ⟨g', o', hgo, x0', x1', x2'⟩ := J5.out.cell k HJ.out.1
          simp only [Option.some.injEq, Addr.mk.injEq, and_true] at hgo
          obtain ⟨rfl, rfl⟩ := hgo
          rw [← HJ.out.2] at x0' x1'
          clear hB Y4 hY5 hs x2' L4 e1 x0
          go_wp2_with fail
          have w1' : IntKind.u64.wrap (wk : Int) = (wk : Int) := by
            unfold IntKind.wrap
            simp only [IntKind.bits, IntKind.signed]
            simp
            omega
          have w2' : wrap64 ((IntKind.u64.wrap j.who).tmod (wk : Int)) = ((j.w wk : Nat) : Int) := rem_eq j.who wk h1 (by omega)
          have w3' : ¬ (wk : Int) = 0 := by omega
          have w4' : ¬ wk = 0 := by omega
          have w5' : ((wk : Int) == 0) = false := by simpa using w4'
          have hT := Lib.hid (show Calls Try.prog 40 #[.pointer (some ⟨bb, 0, none⟩), .int .i64 0] w5.drew fun e w' => e = .returned (.pointer (some ⟨s.tb, 0, none⟩)) ∧ w' = w5.drew from by
            have hx := (B5.out.frame0 ((Keep.refl [] w5).drew)).thread 0 (by rw [SS.out]; simp) (by rw [SS.out]; simp)
            simp only [SS.out] at hx
            exact hx)
          have hlen : (js.take k).length = k := by rw [List.length_take]; have := HN.out; omega
          have htk : js.take (k + 1) = js.take k ++ [j] := by
            obtain ⟨hh, hje⟩ := HJ.out
            rw [List.take_succ_eq_append_getElem hh, hje]
          have HTK := Lib.hid htk
          have hSub := Lib.hid (show Calls Try.prog 31 #[.pointer (some ⟨hb, 0, none⟩), .int .i64 ((j.w wk : Nat) : Int), .int .i64 j.tag, .slice (some ⟨w5.heap.size, 0, none⟩) 1 1] (w5.alloc (.cells #[.pointer (some ⟨s.tb, 0, none⟩)] 54)).drew fun e w' => e = .returned (.int .i64 0) ∧ ∃ P' S' H', LaidAt w w' hb wk (js.take (k + 1)) P' S' H' from by
            rw [htk]
            have hY5 := Y5.out
            rw [HM.out] at hY5
            refine submit_one (hY5.frame0 (((Keep.refl [] w5).alloc _).drew)) LR.out.1 LR.out.2 (by omega) h1 RNG.out (alloc_new w5 _) ⟨fun hm => ?_, fun hm => ?_⟩
            · have := hY5.lt _ (.inl hm); omega
            · have := hY5.lt _ (.inr hm); omega)
          clear hlen htk
          obtain ⟨v, hv⟩ : ∃ v, v = j.w wk := ⟨_, rfl⟩
          rw [← hv] at w2' hSub
          have w6' : IntKind.i64.wrap ((IntKind.u64.wrap j.who).tmod (wk : Int)) = (v : Int) := (IntWalk.i64_left _).trans w2'
          clear hv
          go_region_held3 (fun w' => w'.cell? ⟨g, o + k * 3, none⟩ = some (.int .i64 j.who) ∧ w'.cell? ⟨g, o + k * 3 + 1, none⟩ = some (.int .i64 j.tag)) (go_keep)
            (first
              | (go_at_call 40; refine hT.out.mono ?_; rintro e w7 ⟨rfl, rfl⟩)
              | (go_at_call 31; (try rw [w6']); refine hSub.out.mono ?_; rintro e w8 ⟨rfl, P', S', H', hLA⟩; have LA := Lib.hid hLA; obtain ⟨g8, o8, hg8, z0, z1, z2⟩ := (HIN.out.keep hLA.keep).cell k HJ.out.1; simp only [Option.some.injEq, Addr.mk.injEq, and_true] at hg8; obtain ⟨rfl, rfl⟩ := hg8; rw [← HJ.out.2] at z0 z1; clear hLA z2))
          have hst : wrap64 ((total (js.take k) : Int) + (max 1 m : Nat)) = (total (js.take (k + 1)) : Int) := by
            rw [HTK.out]
            have e1 : total (js.take k ++ [j]) = total (js.take k) + max 1 m := by
              simp [total, Jb.cost, HM.out]
            rw [e1]
            have hle := total_le (js.take k)
            have hlen : (js.take k).length ≤ 40 := by rw [List.length_take]; omega
            rw [IntWalk.wrap64_in _ (by omega)]
            omega
          have HST := Lib.hid hst
          clear z0 z1 x0' x1' w1' w2' w3' w4' w5' w6' hst
          go_wp2_with fail
          go_roundw
          case rel => exact ⟨k + 1, P', S', H', by rw [HST.out], by go_num, hlt, LA.out⟩
          case measure => simp [intOf]; omega
    · have hkn : k = n := by omega
      have e1 : js.take k = js := List.take_of_length_le (by have := HN.out; omega)
      rw [e1] at LR
      have hA : LaidAt w wr hb wk js P S H := ⟨hq', vs', ve', vd', YR.out, LR.out.1, LR.out.2⟩
      have HA := Lib.hid hA
      rw [e1]
      clear hA hkn e1
      go_wp2_with fail
      refine bodyPost_ret (results_tmp3 rfl _ _ _) rfl ?_
      exact ⟨hb, P, S, H, rfl, HA.out⟩
end Go.Proofs.Ytdkdeiofjoccnaa.Lit
