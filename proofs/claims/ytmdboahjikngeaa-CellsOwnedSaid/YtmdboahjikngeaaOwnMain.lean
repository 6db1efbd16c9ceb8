/- CellsOwned: the walk of the statement's own text. -/
import Derived.Test.YtmdboahjikngeaaOwnWalk
namespace Go.Proofs.Ytmdboahjikngeaa.Owned
open Go.RowKit Go.Proofs.Ytmdboahjikngeaa.Mem Go.Proofs.Ytmdboahjikngeaa.Ar Go.Proofs.Ytmdboahjikngeaa.As Go.Proofs.Ytmdboahjikngeaa.Fifo
set_option linter.unusedVariables false

variable {w0 w w' : World} {L : Bk} {P : Pl} {N : List ByteArray} {V : List Value} {A A' : Arena ByteArray} {R : List Nat}

/-- the calls that came in -/
structure Ops (w : World) (a : Option Addr) (len : Nat) : Prop where
  op : ∀ i, i < len → ∃ (g o : Nat) (k s c x y : Int) (ad : Option Addr) (cap : Nat) (ws : List Int) (p : ByteArray), a = some ⟨g, o, none⟩ ∧ Came .u64 w ad ws.length ws ∧ ws.length ≤ 17592186043904 ∧
    w.cell? ⟨g, o + i * 7, none⟩ = some (.int .i64 k) ∧ w.cell? ⟨g, o + i * 7 + 1, none⟩ = some (.int .i64 s) ∧ w.cell? ⟨g, o + i * 7 + 2, none⟩ = some (.int .i64 c) ∧ w.cell? ⟨g, o + i * 7 + 3, none⟩ = some (.int .u64 x) ∧
    w.cell? ⟨g, o + i * 7 + 4, none⟩ = some (.int .u64 y) ∧ w.cell? ⟨g, o + i * 7 + 5, none⟩ = some (.slice ad ws.length cap) ∧ w.cell? ⟨g, o + i * 7 + 6, none⟩ = some (.string p)

/-- the Book at its begin -/
theorem Book.start {n m b h nn v : Nat} (hb : w.heap[b]? = some (.cells #[.slice (some ⟨h, 0, none⟩) (n + 1) (n + 1), .slice (some ⟨nn, 0, none⟩) (n + 1) (n + 1), .slice (some ⟨v, 0, none⟩) (n + 1) (n + 1)] 49 (0, 0)))
    (hh : w.heap[h]? = some (.cells (madeCells #[.bool false] (n + 1)) 4 (0, 0))) (hn : w.heap[nn]? = some (.cells (madeCells #[.string ⟨#[]⟩] (n + 1)) 9 (0, 0)))
    (hv : w.heap[v]? = some (.cells (madeCells #[.slice none 0 0] (n + 1)) 52 (0, 0))) (hd : [b, h, nn, v].Nodup) (hL : ∀ x ∈ [b, h, nn, v], x ∉ L.blocks) :
    Book w L ⟨b, h, nn, v, fun _ => 0⟩ (List.replicate (n + 1) ByteArray.empty) (List.replicate (n + 1) (.slice none 0 0)) (fresh ByteArray n m) := by
  have hu : ∀ s, ¬ used (fresh ByteArray n m) s := by
    intro s hs
    have e : nth (List.replicate (n + 1) false) s false = true := hs
    by_cases hl : s < n + 1
    · rw [nth_replicate _ _ _ _ hl] at e; cases e
    · simp [nth, List.getD_eq_getElem?_getD, List.getElem?_eq_none (show (List.replicate (n + 1) false).length ≤ s by simp; omega)] at e
  rw [replicate_made (.bool false) _ false Value.bool rfl] at hh
  rw [replicate_made (.string ⟨#[]⟩) _ (⟨#[]⟩ : ByteArray) Value.string rfl] at hn
  rw [replicate_made (.slice none 0 0) _ (Value.slice none 0 0) id rfl] at hv
  rw [List.map_id] at hv
  exact ⟨hb, hh, hn, hv, by simp [fresh], by simp [fresh], fun s hs => absurd hs (hu s), fun s hs => absurd hs (hu s), fun s hs => absurd hs (hu s), hd, hL, fun s hs => absurd hs (hu s), fun s t hs => absurd hs (hu s)⟩

theorem four (w : World) (o1 o2 o3 o4 : Obj) : ((((w.alloc o1).alloc o2).alloc o3).alloc o4).heap[w.heap.size]? = some o1 ∧ ((((w.alloc o1).alloc o2).alloc o3).alloc o4).heap[w.heap.size + 1]? = some o2 ∧ ((((w.alloc o1).alloc o2).alloc o3).alloc o4).heap[w.heap.size + 1 + 1]? = some o3 ∧ ((((w.alloc o1).alloc o2).alloc o3).alloc o4).heap[w.heap.size + 1 + 1 + 1]? = some o4 := by
  have a1 := alloc_new w o1
  have a2 := alloc_new (w.alloc o1) o2
  have a3 := alloc_new ((w.alloc o1).alloc o2) o3
  have a4 := alloc_new (((w.alloc o1).alloc o2).alloc o3) o4
  simp only [World.size_alloc] at a2 a3 a4
  exact ⟨alloc_some _ (alloc_some _ (alloc_some _ a1)), alloc_some _ (alloc_some _ a2), alloc_some _ a3, a4⟩

/-- are the slots 1 .. j all in use? -/
def allUsed (A : Arena ByteArray) : Nat → Bool
  | 0 => true
  | j + 1 => allUsed A j && nth A.used (j + 1) false
theorem allUsed_no {j : Nat} (h : nth A.used (j + 1) false = false) : allUsed A (j + 1) = false := by simp [allUsed, h]
theorem allUsed_yes {j : Nat} (h : nth A.used (j + 1) false = true) : allUsed A (j + 1) = allUsed A j := by simp [allUsed, h]
theorem allUsed_off {q : Nat} (h1 : 1 ≤ q) (h : nth A.used q false = false) : allUsed A (q + 1 - 1) = false := by
  obtain ⟨j, rfl⟩ : ∃ j, q = j + 1 := ⟨q - 1, by omega⟩
  exact allUsed_no h
theorem allUsed_on {q : Nat} (h1 : 1 ≤ q) (h : nth A.used q false = true) : allUsed A (q + 1 - 1) = allUsed A (q - 1) := by
  obtain ⟨j, rfl⟩ : ∃ j, q = j + 1 := ⟨q - 1, by omega⟩
  exact allUsed_yes h
theorem allUsed_iff {j : Nat} : allUsed A j = true ↔ ∀ s, 1 ≤ s → s ≤ j → nth A.used s false = true := by
  induction j with
  | zero => exact ⟨fun _ s h1 h2 => by omega, fun _ => rfl⟩
  | succ j ih =>
    simp only [allUsed, Bool.and_eq_true, ih]
    constructor
    · rintro ⟨h1, h2⟩ s a b
      by_cases e : s = j + 1
      · rw [e]; exact h2
      · exact h1 s a (by omega)
    · intro h
      exact ⟨fun s a b => h s a (by omega), h (j + 1) (by omega) (Nat.le_refl _)⟩

theorem infoS : (Try.prog.info? 9).map (fun i => (i.zero, i.size, i.bytes)) = some (some (.string ⟨#[]⟩), 1, 16) := by kernel_rfl
theorem infoR : (Try.prog.info? 52).map (fun i => (i.zero, i.size, i.bytes)) = some (some (.slice none 0 0), 1, 24) := by kernel_rfl

set_option maxRecDepth 100000 in
theorem main_bad (n m : Int) (v : Value) (w : World) (hs : ¬ (1 ≤ n ∧ n ≤ 4096 ∧ 1 ≤ m ∧ m ≤ 16)) :
    Calls Try.prog 6 #[.agg #[.int .i64 n, .int .i64 m, v]] w fun e w' => e = .returned (.bool true) ∧ Below w.heap.size w w' := by
  have HS := Lib.hid hs; clear hs
  go_enter Try.func6, Try.ntmps6
  go_wp2_with fail
  refine (new_bad n m HS.out).mono ?_
  rintro e w' ⟨rfl, rfl⟩
  go_wp2_with fail
  refine (shaped_no n m _ HS.out).mono ?_
  rintro e w' ⟨rfl, rfl⟩
  go_wp2_with fail
  refine (num_any _ _).mono ?_
  rintro e w' ⟨rfl, rfl⟩
  go_wp2_with fail
  go_ret
  exact ⟨rfl, ((Keep.refl [] w).alloc _).below (Nat.le_refl _) (by simp)⟩

set_option maxRecDepth 100000 in
set_option maxHeartbeats 4000000 in
theorem main_ok (n m : Nat) (a : Option Addr) (len cap : Nat) (w : World) (h1 : 1 ≤ n) (h2 : n ≤ 4096) (h3 : 1 ≤ m) (h4 : m ≤ 16) (hops : Ops w a len) (hlen : len ≤ 9223372036854775807) :
    Calls Try.prog 6 #[.agg #[.int .i64 n, .int .i64 m, .slice a len cap]] w fun e w' => e = .returned (.bool true) ∧ Below w.heap.size w w' := by
  have HO := Lib.hid hops; clear hops
  obtain ⟨sb, hsb⟩ : ∃ sb, sb = w.heap.size := ⟨_, rfl⟩
  have HSB := Lib.hid hsb
  go_enter Try.func6, Try.ntmps6
  go_wp2_with fail
  rw [← hsb]
  clear hsb
  obtain ⟨wB, hwB⟩ : ∃ wB, wB = w.alloc (.cells #[.int .i64 n, .int .i64 m, .slice a len cap] 27) := ⟨_, rfl⟩
  have KB : Hid (Keep [] w wB) := Lib.hid (by rw [hwB]; exact (Keep.refl [] w).alloc _)
  have BB : Hid (wB.heap[sb]? = some (.cells #[.int .i64 n, .int .i64 m, .slice a len cap] 27 (0, 0))) := Lib.hid (by rw [hwB, HSB.out]; exact alloc_new _ _)
  rw [← hwB]
  clear hwB
  refine (new_ok n m h1 h2 h3 h4).mono ?_
  rintro e w1 ⟨L, rfl, hL, hA, k1⟩
  have K1 := Lib.hid k1
  have B1 := Lib.hid (k1.old BB.out (by simp))
  have HL := Lib.hid hL
  have HA := Lib.hid hA
  clear hL hA k1
  have g0 := cell_of B1.out 0
  have g1 := cell_of B1.out 1
  simp at g0 g1
  go_wp2_with fail
  refine (shaped_yes n m _ (by omega) (by omega) (by omega) (by omega)).mono ?_
  rintro e w' ⟨rfl, rfl⟩
  go_wp2_with fail
  refine (num_any _ _).mono ?_
  rintro e w' ⟨rfl, rfl⟩
  go_wp2_with fail
  have k1 := make_row 42 4 _ (.bool false) 1 Try.underlying42 infoB rfl (n + 1) (by omega) (by omega)
  have k2 := make_row 46 9 _ (.string ⟨#[]⟩) 16 Try.underlying46 infoS rfl (n + 1) (by omega) (by omega)
  have k3 := make_row 47 52 _ (.slice none 0 0) 24 Try.underlying47 infoR rfl (n + 1) (by omega) (by omega)
  rw [show ((n + 1 : Nat) : Int) = (n : Int) + 1 from by omega] at k1 k2 k3
  go_cut [5] (fun v5 wx => ∃ P : Pl, v5 = .pointer (some ⟨P.b, 0, none⟩) ∧ Book wx L P (List.replicate (n + 1) ByteArray.empty) (List.replicate (n + 1) (.slice none 0 0)) (fresh ByteArray n m) ∧ Keep [] w1 wx ∧ ∀ x ∈ P.blocks, w1.heap.size ≤ x)
  case first =>
    have hwr : IntKind.i64.wrap ((n : Int) + 1) = (n : Int) + 1 := IntWalk.i64_in _ (by omega)
    go_region_held3 (fun w' => w'.cell? ⟨sb, 0, none⟩ = some (.int .i64 n)) ((refine Keep.cell (S := []) (w := w1) ?_ g0 (by simp); repeat (first | exact Keep.refl _ _ | refine Keep.alloc ?_ _ | refine Keep.drew ?_))) (fail)
    all_goals
      go_wp2_with fail
      go_meet
      case rel =>
        refine ⟨⟨_, _, _, _, fun _ => 0⟩, rfl, Book.start (four _ _ _ _ _).2.2.2 (by first | exact (four _ _ _ _ _).1 | exact (four _ _ _ _ _).2.1 | exact (four _ _ _ _ _).2.2.1) (by first | exact (four _ _ _ _ _).1 | exact (four _ _ _ _ _).2.1 | exact (four _ _ _ _ _).2.2.1) (by first | exact (four _ _ _ _ _).1 | exact (four _ _ _ _ _).2.1 | exact (four _ _ _ _ _).2.2.1) ?_ ?_, ?_, ?_⟩
        · simp only [List.nodup_cons, List.mem_cons, List.not_mem_nil, or_false, not_or, List.nodup_nil, not_false_eq_true, and_true]
          omega
        · intro x hx hb
          have := blocks_lt HA.out x hb
          simp only [List.mem_cons, List.not_mem_nil, or_false] at hx
          omega
        · exact (((((Keep.refl [] w1).alloc _).alloc _).alloc _).alloc _).drew
        · intro x hx
          simp only [Pl.blocks, List.mem_cons, List.not_mem_nil, or_false] at hx
          omega
  case rest =>
    clear k1 k2 k3
    obtain ⟨P0, rfl, hB, kB, hP⟩ := hcut
    have hst : St wB wc L P0 (List.replicate (n + 1) ByteArray.empty) (List.replicate (n + 1) (.slice none 0 0)) (fresh ByteArray n m) (List.range' 1 n) :=
      ⟨At.of0 HA.out kB, hB, Inv.start n m h1, nth_replicate _ _ _ _ (by omega), K1.out.trans kB, HL.out, fun x hx => by have := hP x hx; have := K1.out.size; omega, fun s hs => absurd hs (by
        intro hs
        have e : nth (List.replicate (n + 1) false) s false = true := hs
        by_cases hl : s < n + 1
        · rw [nth_replicate _ _ _ _ hl] at e; cases e
        · simp [nth, List.getD_eq_getElem?_getD, List.getElem?_eq_none (show (List.replicate (n + 1) false).length ≤ s by simp; omega)] at e)⟩
    have HST := Lib.hid hst
    clear hst hB kB hP g0 g1
    go_wp2_with fail
    go_loopw [6, 7] (fun i _ wr => ∃ (j : Nat) (P : Pl) (N : List ByteArray) (V : List Value) (A : Arena ByteArray) (R : List Nat), j ≤ len ∧ i = .int .i64 j ∧ St wB wr L P N V A R ∧ P.b = P0.b ∧ A.slots = n ∧ A.width = m) (fun i _ _ => len - (intOf i).toNat)
    case atStart => exact ⟨0, _, _, _, _, _, Nat.zero_le _, rfl, HST.out, rfl, rfl, rfl⟩
    case round =>
      clear HST
      obtain ⟨j, P, N, V, A, R, hj, rfl, hst, e1, e2, e3⟩ := hrel
      have HST := Lib.hid hst
      have hsc := hst.keep.old BB.out (by simp)
      have HSC := Lib.hid hsc
      have g0 := cell_of hsc 0
      have g1 := cell_of hsc 1
      have g2 := cell_of hsc 2
      simp at g0 g1 g2
      clear hsc hst
      by_cases hlt : j < len
      · obtain ⟨g, o, k, s, c, x, y, ad, cp, ws, p, rfl, hcm, hwl, f0, f1, f2, f3, f4, f5, f6⟩ := HO.out.op j hlt
        have KW := Lib.hid (KB.out.trans HST.out.keep)
        have HC := Lib.hid (owned (w := wr.drew) (HST.out.keep0 ((Keep.refl [] wr).drew)) k s c x y ad cp ws p (hcm.keep KB.out) hwl)
        rw [e1, e2, e3] at HC
        obtain ⟨w5, hw5⟩ : ∃ w5, w5 = wr.drew := ⟨_, rfl⟩
        have D5 : Hid (Keep [] wr w5) := Lib.hid (by rw [hw5]; exact (Keep.refl [] wr).drew)
        have hw5' : { heap := wr.heap, tape := wr.tape, drawn := wr.drawn + 1, os := wr.os, output := wr.output : World } = w5 := hw5.symm
        rw [← hw5] at HC
        have b0 := (KW.out.trans D5.out).cell f0 (by simp)
        have b1 := (KW.out.trans D5.out).cell f1 (by simp)
        have b2 := (KW.out.trans D5.out).cell f2 (by simp)
        have b3 := (KW.out.trans D5.out).cell f3 (by simp)
        have b4 := (KW.out.trans D5.out).cell f4 (by simp)
        have b5 := (KW.out.trans D5.out).cell f5 (by simp)
        have b6 := (KW.out.trans D5.out).cell f6 (by simp)
        have h0 := D5.out.cell g0 (by simp)
        have h1' := D5.out.cell g1 (by simp)
        have h2' := D5.out.cell g2 (by simp)
        clear f0 f1 f2 f3 f4 f5 f6 hcm hw5
        go_wp2_with fail
        refine wp_region_still_tail 11 (by kernel_rfl) (by kernel_rfl) ?_
        rw [hw5']
        clear g0 g1 g2 hw5'
        simp only [List.take_succ_cons, List.take_zero, List.drop_succ_cons, List.drop_zero]
        repeat still_step
        refine wpStill_nil ?_
        go_wp2_with fail
        refine HC.out.mono ?_
        rintro e w6 ⟨rfl, P2, N2, V2, A2, R2, hst2, e4, e5, e6⟩
        have HS2 := Lib.hid hst2
        clear hst2
        go_wp2_with fail
        go_roundw
        case rel => exact ⟨j + 1, P2, N2, V2, A2, R2, hlt, by go_num, HS2.out, e4.trans e1, e5.trans e2, e6.trans e3⟩
        case measure => simp [intOf]; omega
      · obtain ⟨wp, rfl⟩ : ∃ wp : World, wp = wr := ⟨_, rfl⟩
        go_wp2_with fail
        clear g0 g1 g2
        go_loopw [8, 9, 10, 11, 12, 13] (fun fl i _ _ _ _ wx => ∃ q : Nat, 1 ≤ q ∧ q ≤ n + 1 ∧ i = .int .i64 q ∧ fl = .bool (allUsed A (q - 1)) ∧ St wB wx L P N V A R) (fun _ i _ _ _ _ _ => n + 1 - (intOf i).toNat)
        case atStart => exact ⟨1, Nat.le_refl _, by omega, rfl, rfl, HST.out⟩
        case round =>
          clear HST HSC
          obtain ⟨q, hq1, hq2, rfl, rfl, hst⟩ := hrel
          have HX := Lib.hid hst
          have hsc := hst.keep.old BB.out (by simp)
          have g0 := cell_of hsc 0
          simp at g0
          have y0 := hst.book.p0
          rw [e1, e2] at y0
          by_cases hln : q < n + 1
          · have yf := hst.book.flag hst.hA.fits (s := q) (by omega)
            clear hst hsc
            cases hu : nth A.used q false with
            | true =>
              rw [hu] at yf
              have hin := Lib.hid ((inUse_mid (A := A) (s := q) (by omega) (by omega)).trans hu)
              have HU := Lib.hid (show used A q from hu)
              clear hu
              go_wp2_with fail
              refine (payload_yes HX.out.hA q hin.out).mono ?_
              rintro e w2 ⟨rfl, h2, k2⟩
              rw [Int.toNat_natCast]
              have H2 := Lib.hid (HX.out.count k2 h2 rfl rfl rfl rfl rfl rfl rfl rfl)
              clear h2 k2 g0 y0 yf
              go_wp2_with fail
              refine (peek_ok H2.out.hA q hin.out).mono ?_
              rintro e w3 ⟨rfl, r3, k3⟩
              rw [Int.toNat_natCast] at r3
              have H3 := Lib.hid (H2.out.keep0 k3)
              have z1 := H3.out.book.p1
              have z2 := H3.out.book.p2
              have zn := H3.out.book.nm (s := q) (by omega) HU.out
              have zr := H3.out.book.rowAt HU.out
              have C := same_rows r3 (H3.out.book.row q HU.out) (by rw [slotWords_length]; omega) A.width A.width
              rw [slotWords_length, e3] at C
              rw [e3] at zr
              have HC := Lib.hid C
              rw [e1, e2] at z1 z2
              generalize w2.heap.size = rb at *
              clear C r3 k3
              go_wp2_with (first | (go_at_call 11; refine (num_any _ _).mono ?_; rintro e w' ⟨rfl, rfl⟩) | (go_at_call 23; refine HC.out.mono ?_; rintro e w4 ⟨rfl, k4⟩; have K4 := Lib.hid k4; clear k4))
              go_roundw
              case rel => exact ⟨q + 1, by omega, by omega, by go_num, by rw [allUsed_on hq1 HU.out], H3.out.keep0 K4.out⟩
              case measure => simp [intOf]; omega
            | false =>
              rw [hu] at yf
              have HU := Lib.hid hu
              clear hu
              go_wp2_with fail
              go_roundw
              case rel => exact ⟨q + 1, by omega, by omega, by go_num, by rw [allUsed_off hq1 HU.out], HX.out⟩
              case measure => simp [intOf]; omega
          · obtain rfl : q = n + 1 := by omega
            have HL1 := Lib.hid hst.lo1
            by_cases hf : A.free = 0
            · have hfu : allUsed A (n + 1 - 1) = true := allUsed_iff.2 (fun s a b => hst.inv.full.1 hf s a (by omega))
              rw [hfu]
              have HF := Lib.hid hf
              clear hst hf hfu
              go_wp2_with fail
              refine (alloc_full HX.out.hA _ none 0 [] (Nat.zero_le _) HF.out).mono ?_
              rintro e w5 ⟨rfl, q5, k5⟩
              go_wp2_with fail
              refine (num_any _ _).mono ?_
              rintro e w' ⟨rfl, rfl⟩
              go_wp2_with fail
              go_ret
              exact ⟨rfl, (KB.out.trans (Keep.new HX.out.keep k5 HL1.out)).below (Nat.le_refl _) (by simp)⟩
            · have hfu : allUsed A (n + 1 - 1) = false := by
                cases hh : allUsed A (n + 1 - 1) with
                | false => rfl
                | true => exact absurd (hst.inv.full.2 (fun s a b => allUsed_iff.1 hh s a (by omega))) hf
              rw [hfu]
              have HF := Lib.hid (show 1 ≤ A.free by omega)
              obtain ⟨ht1, ht2, htu⟩ := hst.inv.next_free hst.hA.fits HF.out
              clear hst hf hfu
              go_wp2_with fail
              refine (alloc_ok HX.out.hA _ none 0 [] (givenNil _ _) (Nat.zero_le _) HF.out).mono ?_
              rintro e w5 ⟨rfl, q5, k5⟩
              have K5 := Lib.hid k5
              have gg := (Keep.new HX.out.keep k5 HL1.out).old BB.out (by simp)
              have g0' := cell_of gg 0
              simp at g0'
              have z0 := k5.cell HX.out.book.p0 (HX.out.book.off _ (by simp [Pl.blocks]))
              rw [e1, e2] at z0
              have zf := k5.cell (HX.out.book.flag HX.out.hA.fits ht2) (HX.out.book.off _ (by simp [Pl.blocks]))
              rw [htu] at zf
              rw [e2] at ht2
              generalize nextSlot A = t at *
              have b1 : (1 : Int) ≤ (t : Int) := by omega
              have b2 : (t : Int) ≤ (n : Int) := by omega
              have b3 : (t : Int) < (n : Int) + 1 := by omega
              clear htu q5 k5 gg g0 y0 hsc
              go_wp2_with fail
              refine (num_any _ _).mono ?_
              rintro e w' ⟨rfl, rfl⟩
              go_wp2_with fail
              go_ret
              exact ⟨rfl, (KB.out.trans (Keep.new HX.out.keep K5.out HL1.out)).below (Nat.le_refl _) (by simp)⟩
end Go.Proofs.Ytmdboahjikngeaa.Owned
