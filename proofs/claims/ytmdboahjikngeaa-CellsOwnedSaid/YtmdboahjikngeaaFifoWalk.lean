/- CellsFifo: the walk of the statement's own text. -/
import Derived.Test.YtmdboahjikngeaaFifo
import Derived.Test.YtmdboahjikngeaaAsPic
namespace Go.Proofs.Ytmdboahjikngeaa.Fifo
open Go.RowKit Go.Proofs.Ytmdboahjikngeaa.Mem Go.Proofs.Ytmdboahjikngeaa.Ar Go.Proofs.Ytmdboahjikngeaa.As
set_option linter.unusedVariables false

theorem num_any (x : Int) (w : World) : Calls Try.prog 11 #[.int .i64 x] w fun e w' => e = .returned (.int .i64 x) ∧ w = w' := by
  go_enter Try.func11, Try.ntmps11
  go_wp2
  go_ret
  exact ⟨rfl, rfl⟩

def shapedB (s w : Int) : Bool := decide (1 ≤ s) && decide (s ≤ 4096) && decide (1 ≤ w) && decide (w ≤ 16)

theorem shaped_yes (a b : Int) (w : World) (h1 : 1 ≤ a) (h2 : a ≤ 4096) (h3 : 1 ≤ b) (h4 : b ≤ 16) : Calls Try.prog 16 #[.int .i64 a, .int .i64 b] w fun e w' => e = .returned (.bool true) ∧ w = w' := by
  go_enter Try.func16, Try.ntmps16
  go_wp2
  go_ret
  exact ⟨rfl, rfl⟩

theorem shaped_no (a b : Int) (w : World) (hs : ¬ (1 ≤ a ∧ a ≤ 4096 ∧ 1 ≤ b ∧ b ≤ 16)) : Calls Try.prog 16 #[.int .i64 a, .int .i64 b] w fun e w' => e = .returned (.bool false) ∧ w = w' := by
  by_cases h1 : 1 ≤ a
  · by_cases h2 : a ≤ 4096
    · by_cases h3 : 1 ≤ b
      · have h4 : ¬ b ≤ 16 := by omega
        clear hs
        go_enter Try.func16, Try.ntmps16
        go_wp2
        go_ret
        exact ⟨rfl, rfl⟩
      · clear hs
        go_enter Try.func16, Try.ntmps16
        go_wp2
        go_ret
        exact ⟨rfl, rfl⟩
    · clear hs
      go_enter Try.func16, Try.ntmps16
      go_wp2
      go_ret
      exact ⟨rfl, rfl⟩
  · clear hs
    go_enter Try.func16, Try.ntmps16
    go_wp2
    go_ret
    exact ⟨rfl, rfl⟩

/-- What is written is new. -/
theorem Keep.new {w w1 w2 : World} {S : List Nat} (h : Keep [] w w1) (k : Keep S w1 w2) (hS : ∀ x ∈ S, w.heap.size ≤ x) : Keep [] w w2 :=
  ⟨k.os.trans h.os, k.tape.trans h.tape, k.output.trans h.output, Nat.le_trans h.size k.size, fun i hi hn => (k.block i (Nat.lt_of_lt_of_le hi h.size) (fun hx => by have := hS i hx; omega)).trans (h.block i hi hn)⟩

/-- Integers that came in. -/
structure Came (k : IntKind) (w : World) (a : Option Addr) (len : Nat) (zs : List Int) : Prop where
  cell : ∀ i, i < len → ∃ b o, a = some ⟨b, o, none⟩ ∧ w.cell? ⟨b, o + i, none⟩ = some (.int k (nth zs i 0))
theorem Came.keep {k : IntKind} {w w' : World} {a : Option Addr} {len : Nat} {zs : List Int} (h : Came k w a len zs) (hk : Keep [] w w') : Came k w' a len zs :=
  ⟨fun i hi => let ⟨b, o, e, hc⟩ := h.cell i hi; ⟨b, o, e, hk.cell hc (by simp)⟩⟩

theorem givenNil (w : World) (L : Bk) : Given w L none [] := ⟨fun i hi => by simp at hi⟩

/-- ahead of a row of the call's own, or of nothing: its numbers -/
structure Own (w : World) (L : Bk) (a : Option Addr) (fr : List Nat) : Prop where
  cell : ∀ i, i < fr.length → ∃ b, a = some ⟨b, 0, none⟩ ∧ b ∉ L.blocks ∧ w.cell? ⟨b, i, none⟩ = some (.int .i64 ((nth fr i 0 : Nat) : Int))
theorem Own.keep {w w' : World} {L : Bk} {a : Option Addr} {fr : List Nat} (h : Own w L a fr) (k : Keep L.blocks w w') : Own w' L a fr :=
  ⟨fun i hi => let ⟨b, e, hn, hc⟩ := h.cell i hi; ⟨b, e, hn, k.cell hc hn⟩⟩

theorem own_of {w : World} {L : Bk} {base : Nat} {v : Value} {fr : List Nat} (h : w.ownsRow base 3 1 v fr.length (ints fr)) (hL : ∀ x ∈ L.blocks, x < base) : ∃ a cap, v = .slice a fr.length cap ∧ Own w L a fr := by
  rcases h.2 with ⟨rfl, h0⟩ | ⟨g, cap, cur, rfl, hb, hg, h1, h2, h3, h4⟩
  · exact ⟨none, 0, by rw [h0], ⟨fun i hi => by omega⟩⟩
  · refine ⟨_, cap, rfl, ⟨fun i hi => ⟨g, rfl, fun hx => by have := hL g hx; omega, ?_⟩⟩⟩
    rw [cell_of hg]
    have e : (cur.toList.take (fr.length * 1))[i]? = (ints fr)[i]? := by rw [h4]
    rw [List.getElem?_take, if_pos (by omega)] at e
    rw [← Array.getElem?_toList, e]
    simp [ints, nth, List.getD_eq_getElem?_getD, hi]

/-- what stands while slots are freed: w: the entry; B: from there on lie the freed ones' rows; g: the flags' block -/
structure Freeing (w wr : World) (B : Nat) (L : Bk) (g n : Nat) (v : Value) (fr : List Nat) (A : Arena ByteArray) : Prop where
  hA : As.At 0 wr L A
  two : F2 A n fr
  hg : wr.heap[g]? = some (.cells (((List.range (n + 1)).map fun s => decide (s ∈ fr)).map Value.bool).toArray 4 (0, 0))
  own : wr.ownsRow B 3 1 v fr.length (ints fr)
  hB : g < B ∧ w.heap.size ≤ g ∧ (∀ x ∈ L.blocks, x < g) ∧ (∀ x ∈ L.blocks, w.heap.size ≤ x)
  keep : Keep [] w wr

theorem flags_get (n : Nat) (fr : List Nat) {s : Nat} (hs : s ≤ n) : (((List.range (n + 1)).map fun s => decide (s ∈ fr)))[s]? = some (decide (s ∈ fr)) := by
  rw [List.getElem?_map, List.getElem?_range (by omega)]; rfl
theorem flags_set (n : Nat) (fr : List Nat) {s : Nat} (hs : s ≤ n) : ((List.range (n + 1)).map fun s => decide (s ∈ fr)).set s true = (List.range (n + 1)).map fun t => decide (t ∈ fr ++ [s]) := by
  apply List.ext_getElem?
  intro i
  by_cases hi : i < n + 1
  · rw [List.getElem?_set, List.getElem?_map, List.getElem?_map, List.getElem?_range hi]
    by_cases e : s = i
    · subst e
      rw [if_pos rfl, if_pos (by simp; omega)]
      simp
    · rw [if_neg e]
      simp [Ne.symm e]
  · rw [List.getElem?_eq_none (by simp; omega), List.getElem?_eq_none (by simp; omega)]

theorem cell_one_set (w : World) (a : Addr) (v x : Value) (t : TypeId) : ∀ j u, [x][j]? = some u → ((w.setCell a v).alloc (.cells #[x] t)).cell? ((⟨w.heap.size, 0, none⟩ : Addr).add j) = some u := by
  have := cell_one_new (w.setCell a v) x t
  rw [size_set] at this
  exact this

theorem infoB : (Try.prog.info? 4).map (fun i => (i.zero, i.size, i.bytes)) = some (some (.bool false), 1, 1) := by kernel_rfl

/-- between the append and the Free -/
structure Half (w w3 : World) (B : Nat) (L : Bk) (g n : Nat) (v : Value) (fr : List Nat) (s : Nat) (A : Arena ByteArray) : Prop where
  hA : As.At 0 w3 L A
  hg : w3.heap[g]? = some (.cells (((List.range (n + 1)).map fun t => decide (t ∈ fr ++ [s])).map Value.bool).toArray 4 (0, 0))
  own : w3.ownsRow B 3 1 v (fr.length + 1) (ints fr ++ [.int .i64 (s : Int)])
  keep : Keep [] w w3

theorem at_blocks {mu : Int} {w w' : World} {L : Bk} {A : Arena ByteArray} (h : As.At mu w L A) (hb : ∀ x ∈ L.blocks, w'.heap[x]? = w.heap[x]?) : As.At mu w' L A :=
  ⟨h.fits, h.apart, (hb _ (inB L)).trans h.hb, (hb _ (inW L)).trans h.hw, (hb _ (inU L)).trans h.hu, (hb _ (inQ L)).trans h.hq, (hb _ (inI L)).trans h.hi, (hb _ (inT L)).trans h.ht⟩

theorem blocks_lt {mu : Int} {w : World} {L : Bk} {A : Arena ByteArray} (h : As.At mu w L A) : ∀ x ∈ L.blocks, x < w.heap.size := by
  intro x hx
  simp only [Bk.blocks, List.mem_cons, List.not_mem_nil, or_false] at hx
  rcases hx with rfl | rfl | rfl | rfl | rfl | rfl
  · exact lt_of h.hb
  · exact lt_of h.hw
  · exact lt_of h.hu
  · exact lt_of h.hq
  · exact lt_of h.hi
  · exact lt_of h.ht

theorem Freeing.half {w wr w3 : World} {B : Nat} {L : Bk} {g n : Nat} {v v' : Value} {fr : List Nat} {A : Arena ByteArray} (h : Freeing w wr B L g n v fr A) {s : Nat} (hs : s ≤ n) {o : Obj}
    (a1 : w3.ownsRow B 3 1 v' (fr.length + 1) (ints fr ++ [.int .i64 (s : Int)])) (g1 : ((wr.setCell ⟨g, s, none⟩ (.bool true)).alloc o).grownBy w3 v.ownBlock) : Half w w3 B L g n v' fr s A := by
  obtain ⟨b1, b2, b3, b4⟩ := h.hB
  have lv := h.own.lt
  have hsz := g1.size
  simp only [World.size_alloc, size_set] at hsz
  have hlow : ∀ k, k < B → k < wr.heap.size → w3.heap[k]? = (wr.setCell ⟨g, s, none⟩ (.bool true)).heap[k]? := by
    intro k hk hk2
    refine (g1.block k (by simp; omega) ?_).trans (alloc_old _ (by simpa using hk2))
    intro e
    have := (lv _ e.symm).1
    omega
  have hgl := lt_of h.hg
  refine ⟨at_blocks h.hA ?_, ?_, a1, ?_⟩
  · intro x hx
    have := b3 x hx
    exact (hlow x (by omega) (blocks_lt h.hA x hx)).trans (set_other (by omega) _ _)
  · rw [hlow g b1 hgl, list_set (g := Value.bool) h.hg s true, flags_set n fr hs]
  · refine ⟨g1.os.trans h.keep.os, g1.tape.trans h.keep.tape, g1.output.trans h.keep.output, by have := h.keep.size; omega, fun k hk hn => ?_⟩
    have := h.keep.size
    exact (hlow k (by omega) (by omega)).trans ((set_other (by omega) _ _).trans (h.keep.block k hk hn))

theorem Half.done {w wr w3 w4 : World} {B : Nat} {L : Bk} {g n : Nat} {v v' : Value} {fr : List Nat} {A : Arena ByteArray} (h : Freeing w wr B L g n v fr A) {s : Nat} (hh : Half w w3 B L g n v' fr s A) (h1 : 1 ≤ s) (h2 : s ≤ n) (h3 : s ∉ fr)
    (hA : As.At 0 w4 L (freed A s)) (k : Keep L.blocks w3 w4) : Freeing w w4 B L g n v' (fr ++ [s]) (freed A s) := by
  obtain ⟨b1, b2, b3, b4⟩ := h.hB
  refine ⟨hA, h.two.step h.hA.fits h1 h2 h3, k.old hh.hg (fun hx => by have := b3 g hx; omega), ?_, h.hB, Keep.new hh.keep k b4⟩
  have := owns_keep hh.own k (fun x hx => by have := b3 x hx; omega)
  simpa [ints] using this

theorem Freeing.cell {w wr : World} {B : Nat} {L : Bk} {g n : Nat} {v : Value} {fr : List Nat} {A : Arena ByteArray} (h : Freeing w wr B L g n v fr A) {s : Nat} (hs : s ≤ n) : wr.cell? ⟨g, s, none⟩ = some (.bool (decide (s ∈ fr))) := by
  rw [cell_of h.hg, List.getElem?_toArray, List.getElem?_map, flags_get n fr hs]
  rfl

set_option maxRecDepth 100000 in
theorem walk_bad (a0 : Int) (a1 : Option Addr) (len1 cap1 : Nat) (w : World) (hs : ¬ (1 ≤ a0 ∧ a0 ≤ 4096)) :
    Calls Try.prog 5 #[.int .i64 a0, .slice a1 len1 cap1] w fun e w' => e = .returned (.bool true) ∧ Below w.heap.size w w' := by
  have HS := Lib.hid hs; clear hs
  go_enter Try.func5, Try.ntmps5
  go_wp2_with fail
  refine (shaped_no a0 1 _ (by have := HS.out; omega)).mono ?_
  rintro e w' ⟨rfl, rfl⟩
  go_wp2_with fail
  refine (new_bad a0 1 (by have := HS.out; omega)).mono ?_
  rintro e w' ⟨rfl, rfl⟩
  go_wp2_with fail
  refine (num_any _ _).mono ?_
  rintro e w' ⟨rfl, rfl⟩
  go_wp2_with fail
  go_ret
  exact ⟨rfl, Below.refl _ _⟩

set_option maxRecDepth 100000 in
set_option maxHeartbeats 2000000 in
theorem walk_ok (n : Nat) (a1 : Option Addr) (len1 cap1 : Nat) (zs : List Int) (w : World) (h1 : 1 ≤ n) (h2 : n ≤ 4096) (hin : Came .i64 w a1 len1 zs) (hlen : len1 ≤ 9223372036854775807) :
    Calls Try.prog 5 #[.int .i64 n, .slice a1 len1 cap1] w fun e w' => e = .returned (.bool true) ∧ Below w.heap.size w w' := by
  have HIN := Lib.hid hin; clear hin
  obtain ⟨i0, hi, hz0, hz1, hz2⟩ := info_parts infoI
  have HI := Lib.hid hi; clear hi
  have HZ := Lib.hid (And.intro hz0 (And.intro hz1 hz2)); clear hz0 hz1 hz2
  go_enter Try.func5, Try.ntmps5
  go_wp2_with fail
  refine (shaped_yes n 1 _ (by omega) (by omega) (by omega) (by omega)).mono ?_
  rintro e w' ⟨rfl, rfl⟩
  go_wp2_with fail
  refine (new_ok n 1 h1 h2 (by omega) (by omega)).mono ?_
  rintro e w1 ⟨L, rfl, hL, hA, k1⟩
  have HL := Lib.hid hL; clear hL
  have HA := Lib.hid hA; clear hA
  go_wp2_with fail
  refine (num_any _ _).mono ?_
  rintro e w' ⟨rfl, rfl⟩
  go_wp2_with fail
  go_loopw [9] (fun i wr => ∃ k : Nat, k ≤ n ∧ i = .int .i64 ((k : Int) + 1) ∧ Keep [] w wr ∧ ∃ A, As.At 0 wr L A ∧ F1 A n k) (fun i _ => n + 1 - (intOf i).toNat)
  case atStart => exact ⟨0, Nat.zero_le _, rfl, k1, _, HA.out, F1.start h1⟩
  case round =>
    obtain ⟨k, hk, rfl, kr, A, hA, hF⟩ := hrel
    have HR := Lib.hid hA; clear hA
    have HF := Lib.hid hF; clear hF
    by_cases hlt : k < n
    · go_wp2_with fail
      refine (alloc_ok HR.out _ none 0 [] (givenNil _ _) (Nat.zero_le _) (by have := HF.out.free; omega)).mono ?_
      rintro e w2 ⟨rfl, h2', k2⟩
      have H2 := Lib.hid h2'; clear h2'
      rw [HF.out.next hlt]
      have hb : (((k + 1 : Nat) : Int) != (k : Int) + 1) = false := by simp
      go_wp2_with fail
      refine (num_any _ _).mono ?_
      rintro e w' ⟨rfl, rfl⟩
      go_wp2_with fail
      go_roundw
      case rel => exact ⟨k + 1, hlt, by go_num, Keep.new kr k2 HL.out, _, H2.out, HF.out.step HR.out.fits hlt _⟩
      case measure => simp [intOf]; omega
    · have hke : k = n := by omega
      have HKE := Lib.hid hke; clear hke
      have k5 := make_row 42 4 _ (.bool false) 1 Try.underlying42 infoB rfl (n + 1) (by omega) (by omega)
      rw [show ((n + 1 : Nat) : Int) = (n : Int) + 1 from by omega] at k5
      go_wp2_with fail
      have hst : Freeing w (wr.alloc (.cells (madeCells #[.bool false] (n + 1)) 4)) (wr.heap.size + 1) L wr.heap.size n (.slice none 0 0) [] A := by
        have hF := HF.out
        rw [HKE.out] at hF
        refine ⟨HR.out.keep ((Keep.refl [] _).alloc _) (by simp), hF.two, ?_, World.ownsRow_nil _ _ _ _, ⟨by omega, kr.size, blocks_lt HR.out, HL.out⟩, kr.alloc _⟩
        rw [replicate_made (.bool false) _ false Value.bool rfl, alloc_new, show (List.range (n + 1)).map (fun s => decide (s ∈ ([] : List Nat))) = List.replicate (n + 1) false from List.eq_replicate_iff.2 ⟨by simp, by simp⟩]
      have HST := Lib.hid hst; clear hst k5
      obtain ⟨wo, rfl⟩ : ∃ wo : World, wo = wr := ⟨_, rfl⟩
      obtain ⟨g, hg⟩ : ∃ g, g = wo.heap.size := ⟨_, rfl⟩
      rw [← hg] at HST ⊢
      clear hg HKE HF HR HA
      go_loopw [13, 14] (fun v i wx => ∃ (j : Nat) (fr : List Nat) (A : Arena ByteArray), j ≤ len1 ∧ i = .int .i64 j ∧ Freeing w wx (g + 1) L g n v fr A) (fun _ i _ => len1 - (intOf i).toNat)
      case atStart => exact ⟨0, [], A, Nat.zero_le _, rfl, HST.out⟩
      case round =>
        clear HST
        obtain ⟨j, fr, A2, hj, rfl, hE⟩ := hrel
        have HE := Lib.hid hE; clear hE
        by_cases hjl : j < len1
        · obtain ⟨b, o, rfl, hc⟩ := (HIN.out.keep HE.out.keep).cell j hjl
          obtain ⟨x, hx⟩ : ∃ x, x = nth zs j 0 := ⟨_, rfl⟩
          rw [← hx] at hc
          clear hx
          by_cases hx1 : 1 ≤ x
          · by_cases hx2 : x ≤ n
            · obtain ⟨s, rfl⟩ : ∃ s : Nat, x = s := ⟨x.toNat, by omega⟩
              have hs2 : s ≤ n := by omega
              have hcell := HE.out.cell hs2
              by_cases hm : s ∈ fr
              · rw [decide_eq_true hm] at hcell
                clear hm
                go_wp2_with fail
                go_roundw
                case rel => exact ⟨j + 1, fr, A2, hjl, by go_num, HE.out⟩
                case measure => simp [intOf]; omega
              · rw [decide_eq_false hm] at hcell
                have HM := Lib.hid hm; clear hm
                have hfz := free_of HE.out.hg s
                have hle := HE.out.two.le
                have d2 := Lib.hid (show fr.length + 1 ≤ maxLen by unfold maxLen; omega)
                have d3 := Lib.hid (show (fr.length + 1) * 8 ≤ 140737488355328 by omega)
                have d1 := Lib.hid (one_int s)
                have d4 := Lib.hid (show g + 1 ≤ wr.heap.size from lt_of HE.out.hg)
                go_wp2_with (at_builtin; refine wpList_append_own_at _ rfl _ _ 34 rfl (g + 1) 3 i0 (.int .i64 0) 1 8 Try.underlying34 HI.out HZ.out.1 HZ.out.2.1 HZ.out.2.2 rfl (by decide) _ _ _ rfl ((ownsRow_setCell_below HE.out.own (Nat.lt_succ_self g) _).alloc _) ⟨_, 0, none⟩ 1 1 [.int .i64 (s : Nat)] rfl rfl (cell_one_set _ _ _ _ _) d1.out d2.out d3.out (Nat.le_trans d4.out (Nat.le_trans (Nat.le_of_eq (size_set _ _ _).symm) (alloc_le _ _))) ?_; intro v' w3 q1 q2 _ _; have A1 := Lib.hid q1; have G1 := Lib.hid q2; clear q1 q2)
                have HH := Lib.hid (HE.out.half hs2 A1.out G1.out)
                refine (free_yes HH.out.hA s (HE.out.two.inUse (by omega) hs2 HM.out) (HE.out.two.room (by omega) hs2 HM.out)).mono ?_
                rw [Int.toNat_natCast]
                rintro e w4 ⟨rfl, q3, k4⟩
                have H4 := Lib.hid q3; clear q3
                go_wp2_with fail
                refine (num_any _ _).mono ?_
                rintro e w' ⟨rfl, rfl⟩
                go_wp2_with fail
                go_roundw
                case rel => exact ⟨j + 1, fr ++ [s], _, hjl, by go_num, HH.out.done HE.out (by omega) hs2 HM.out H4.out k4⟩
                case measure => simp [intOf]; omega
            · go_wp2_with fail
              go_roundw
              case rel => exact ⟨j + 1, fr, A2, hjl, by go_num, HE.out⟩
              case measure => simp [intOf]; omega
          · go_wp2_with fail
            go_roundw
            case rel => exact ⟨j + 1, fr, A2, hjl, by go_num, HE.out⟩
            case measure => simp [intOf]; omega
        · obtain ⟨b1, b2, b3, b4⟩ := HE.out.hB
          obtain ⟨af, cap, rfl, hown⟩ := own_of HE.out.own (fun x hx => by have := b3 x hx; omega)
          have HO := Lib.hid hown; clear hown
          have hle := HE.out.two.le
          have B4 := Lib.hid b4
          clear b3 b4
          obtain ⟨wv, rfl⟩ : ∃ wv : World, wv = wr := ⟨_, rfl⟩
          go_wp2_with fail
          go_loopw [17] (fun i wx => ∃ (m : Nat) (A : Arena ByteArray), m ≤ fr.length ∧ i = .int .i64 m ∧ As.At 0 wx L A ∧ F3 A n fr m ∧ Own wx L af fr ∧ Keep [] w wx) (fun i _ => fr.length - (intOf i).toNat)
          case atStart => exact ⟨0, A2, Nat.zero_le _, rfl, HE.out.hA, HE.out.two.three, HO.out, HE.out.keep⟩
          case round =>
            obtain ⟨m, A3, hm, rfl, hA3, hF3, hO3, kx⟩ := hrel
            have HA3 := Lib.hid hA3; clear hA3
            have HF3 := Lib.hid hF3; clear hF3
            have HO3 := Lib.hid hO3; clear hO3 HO HE
            by_cases hml : m < fr.length
            · go_wp2_with fail
              refine (alloc_ok HA3.out _ none 0 [] (givenNil _ _) (Nat.zero_le _) (by have := HF3.out.free; omega)).mono ?_
              rintro e w5 ⟨rfl, q5, k5⟩
              have H5 := Lib.hid q5; clear q5
              have HO5 := Lib.hid (HO3.out.keep k5)
              rw [HF3.out.next hml hle]
              obtain ⟨b, rfl, hbn, hcb⟩ := HO5.out.cell m hml
              go_wp2_with fail
              refine (num_any _ _).mono ?_
              rintro e w' ⟨rfl, rfl⟩
              go_wp2_with fail
              go_roundw
              case rel => exact ⟨m + 1, _, hml, by go_num, H5.out, HF3.out.step hml _, HO5.out, Keep.new kx k5 B4.out⟩
              case measure => simp [intOf]; omega
            · go_wp2_with fail
              refine (alloc_full HA3.out _ none 0 [] (Nat.zero_le _) (by have := HF3.out.free; omega)).mono ?_
              rintro e w5 ⟨rfl, q5, k5⟩
              go_wp2_with fail
              refine (num_any _ _).mono ?_
              rintro e w' ⟨rfl, rfl⟩
              go_wp2_with fail
              go_ret
              exact ⟨rfl, (Keep.new kx k5 B4.out).below (Nat.le_refl _) (by simp)⟩
end Go.Proofs.Ytmdboahjikngeaa.Fifo
