/- sched.Encode: the walk. -/
import Derived.Test.YtdkdeiofjoccnaaEnc
import Derived.Test.YtdkdeiofjoccnaaDecWalk
import Derived.Test.YtdkdeiofjoccnaaSame
import Derived.Deep.CutBlock
namespace Go.Proofs.Ytdkdeiofjoccnaa.Pick
open Go.RowKit Go.Proofs.Ytdkdeiofjoccnaa.Mem
set_option linter.unusedVariables false

def nums (xs : List Int) : List Value := xs.map (Value.int .u8)
theorem nums_append (a b : List Int) : nums (a ++ b) = nums a ++ nums b := by simp [nums]
theorem nums_length (a : List Int) : (nums a).length = a.length := by simp [nums]

/-- bytes that the call made -/
abbrev BRow (w : World) (base : Nat) (v : Value) (xs : List Int) : Prop := w.ownsRow base 5 1 v xs.length (nums xs)

theorem infoU8 : (Try.prog.info? 5).map (fun i => (i.zero, i.size, i.bytes)) = some (some (.int .u8 0), 1, 1) := by kernel_rfl

theorem BRow.shape {w : World} {base : Nat} {v : Value} {xs : List Int} (h : BRow w base v xs) : ∃ a cap, v = .slice a xs.length cap ∧ ∀ (i : Nat) (hi : i < xs.length), ∃ g, a = some ⟨g, 0, none⟩ ∧ base ≤ g ∧ g < w.heap.size ∧ w.cell? ⟨g, i, none⟩ = some (.int .u8 xs[i]) := by
  rcases h.2 with ⟨rfl, h0⟩ | ⟨g, cap, cur, rfl, hb, hg, h1, h2, h3, h4⟩
  · exact ⟨none, 0, by rw [h0], fun i hi => by omega⟩
  · refine ⟨_, cap, rfl, fun i hi => ⟨g, rfl, hb, lt_of hg, ?_⟩⟩
    rw [cell_of hg]
    have e : (cur.toList.take (xs.length * 1))[i]? = (nums xs)[i]? := by rw [h4]
    rw [List.getElem?_take, if_pos (by omega)] at e
    rw [← Array.getElem?_toList, e]
    simp [nums, hi]

theorem conv_row {w : World} {base : Nat} {v : Value} {xs : List Int} (h : BRow w base v xs) : (convert 103 9 v).run Try.prog w = .ok (.string (strOfNums xs)) w := by
  rcases h.2 with ⟨rfl, h0⟩ | ⟨g, cap, cur, rfl, hb, hg, h1, h2, h3, h4⟩
  · obtain rfl : xs = [] := List.eq_nil_of_length_eq_zero h0
    exact run_convert_bytes_nil w 103 5 Try.underlying103 Try.underlying5 0 0 9 Try.underlying9
  · refine run_convert_bytes_arg w 103 5 Try.underlying103 Try.underlying5 g 0 xs.length cap xs rfl ?_ 9 Try.underlying9
    intro i hi
    obtain ⟨a, c, e, hc⟩ := h.shape
    obtain ⟨g', e', _, _, hcell⟩ := hc i hi
    simp only [Value.slice.injEq] at e
    rw [e'] at e
    simp only [Option.some.injEq, Addr.mk.injEq] at e
    obtain ⟨⟨rfl, -, -⟩, -, -⟩ := e
    rw [Nat.zero_add, hcell, List.getD_eq_getElem?_getD, List.getElem?_eq_getElem hi]
    rfl

/-- bytes laid in one block -/
theorem lit_row {w : World} {g base : Nat} {xs : List Int} (h : w.heap[g]? = some (.cells (nums xs).toArray 5 (0, 0))) (hb : base ≤ g) (hl : xs.length ≤ maxLen) : BRow w base (.slice (some ⟨g, 0, none⟩) xs.length xs.length) xs :=
  ⟨by simp [nums], .inr ⟨g, xs.length, _, rfl, hb, h, Nat.le_refl _, hl, by simp [nums], by rw [Nat.mul_one]; exact List.take_of_length_le (by simp [nums])⟩⟩

theorem leaf1 {w2 : World} {x : Int} {ys : List Int} (h : ys = [x]) : BRow (w2.alloc (.cells #[.int .u8 x] 5)) w2.heap.size (.slice (some ⟨w2.heap.size, 0, none⟩) 1 1) ys := by
  subst h
  exact lit_row (xs := [x]) (alloc_new _ _) (Nat.le_refl _) (by unfold maxLen; simp)
theorem leaf2 {w2 : World} {x y : Int} {ys : List Int} (h : ys = [x, y]) : BRow (w2.alloc (.cells #[.int .u8 x, .int .u8 y] 5)) w2.heap.size (.slice (some ⟨w2.heap.size, 0, none⟩) 2 2) ys := by
  subst h
  exact lit_row (xs := [x, y]) (alloc_new _ _) (Nat.le_refl _) (by unfold maxLen; simp)

/-- a list of picks that can be read -/
structure Has (w : World) (a : Option Addr) (l : List Pk) : Prop where
  cell : ∀ (i : Nat) (hi : i < l.length), ∃ b o, a = some ⟨b, o, none⟩ ∧ w.cell? ⟨b, o + i * 3, none⟩ = some (.int .i64 l[i].k) ∧ w.cell? ⟨b, o + i * 3 + 1, none⟩ = some (.int .i64 l[i].who) ∧ w.cell? ⟨b, o + i * 3 + 2, none⟩ = some (.int .i64 l[i].n)
theorem Has.keep {w w' : World} {a : Option Addr} {l : List Pk} (h : Has w a l) (k : Keep [] w w') : Has w' a l :=
  ⟨fun i hi => let ⟨b, o, e, c0, c1, c2⟩ := h.cell i hi; ⟨b, o, e, k.cell c0 (by simp), k.cell c1 (by simp), k.cell c2 (by simp)⟩⟩
theorem Row.has {w : World} {base : Nat} {v : Value} {l : List Pk} (h : Row w base v l) : ∃ a cap, v = .slice a l.length cap ∧ Has w a l := by
  obtain ⟨a, cap, e, hc⟩ := h.shape
  exact ⟨a, cap, e, ⟨fun i hi => let ⟨g, e, _, _, _, c0, c1, c2, _⟩ := hc i hi; ⟨g, 0, e, by rw [Nat.zero_add]; exact c0, by rw [Nat.zero_add]; exact c1, by rw [Nat.zero_add]; exact c2⟩⟩⟩

theorem try_length (p : Pk) : (tryOf p).length ≤ 2 := by
  unfold tryOf
  repeat' split
  all_goals simp
theorem back_try (p : Pk) : (tryOf p = [] ∧ back (tryOf p) = []) ∨ (1 ≤ (tryOf p).length ∧ ∃ q, back (tryOf p) = [q]) := by
  unfold tryOf
  split
  · exact .inr ⟨by simp, _, back_one _ (by omega) (by omega)⟩
  split
  · exact .inr ⟨by simp, _, back_two _ _ (by omega) (by omega) (by omega) (by omega)⟩
  split
  · exact .inr ⟨by simp, _, back_one _ (by omega) (by omega)⟩
  split
  · exact .inr ⟨by simp, _, back_one _ (by omega) (by omega)⟩
  split
  · exact .inr ⟨by simp, _, back_one _ (by omega) (by omega)⟩
  split
  · exact .inr ⟨by simp, _, back_one _ (by omega) (by omega)⟩
  split
  · exact .inr ⟨by simp, _, back_one _ (by omega) (by omega)⟩
  · exact .inl ⟨rfl, rfl⟩

theorem enc_no {l r : List Pk} {i : Nat} {p : Pk} {xs : List Int} (he : enc l = (enc (l.drop i)).map (xs ++ ·)) (hd : l.drop i = p :: r) (hb : bytesOf p r.isEmpty = []) : enc l = none := by
  rw [he, hd]
  simp [enc, hb]
theorem enc_yes {l r : List Pk} {i : Nat} {p : Pk} {xs : List Int} (he : enc l = (enc (l.drop i)).map (xs ++ ·)) (hd : l.drop i = p :: r) (hb : bytesOf p r.isEmpty ≠ []) : enc l = (enc (l.drop (i + 1))).map (xs ++ bytesOf p r.isEmpty ++ ·) := by
  rw [he, hd, drop_next hd]
  simp only [enc, if_neg hb, Option.map_map]
  congr 1
  funext y
  simp

/-- what Encode answers -/
def answer (l : List Pk) : Value := match enc l with
  | some xs => .tuple #[.string (strOfNums xs), .int .i64 0]
  | none => .tuple #[.string ⟨#[]⟩, .int .i64 33]

theorem answer_no {l r : List Pk} {i : Nat} {p : Pk} {xs : List Int} (he : enc l = (enc (l.drop i)).map (xs ++ ·)) (hd : l.drop i = p :: r) (hb : bytesOf p r.isEmpty = []) : answer l = .tuple #[.string ⟨#[]⟩, .int .i64 33] := by
  unfold answer
  rw [enc_no he hd hb]

theorem byte_list {w : World} {g : Nat} {cur : Array Value} {n : Nat} {xs : List Int} (hg : w.heap[g]? = some (.cells cur 5 (0, 0))) (h4 : cur.toList.take (n * 1) = nums xs) : ∀ j u, (nums xs)[j]? = some u → w.cell? ((⟨g, 0, none⟩ : Addr).add j) = some u := by
  intro j u hj
  have hjl : j < n * 1 := by
    have := congrArg List.length h4
    rw [List.length_take] at this
    have hj2 : j < (nums xs).length := by
      apply Decidable.byContradiction
      intro hh
      rw [List.getElem?_eq_none (by omega)] at hj
      cases hj
    omega
  have hplain : (⟨g, 0, none⟩ : Addr).add j = ⟨g, 0 + j, none⟩ := by unfold Addr.add; split <;> simp_all
  rw [hplain, cell_of hg, Nat.zero_add, ← hj, ← h4, List.getElem?_take, if_pos hjl, Array.getElem?_toList]

theorem BRow.news {w : World} {base : Nat} {v : Value} {xs : List Int} (h : BRow w base v xs) (h1 : 1 ≤ xs.length) : ∃ g cap, v = .slice (some ⟨g, 0, none⟩) xs.length cap ∧ ∀ j u, (nums xs)[j]? = some u → w.cell? ((⟨g, 0, none⟩ : Addr).add j) = some u := by
  rcases h.2 with ⟨rfl, h0⟩ | ⟨g, cap, cur, rfl, hb, hg, _, h2, h3, h4⟩
  · omega
  · exact ⟨g, cap, rfl, byte_list hg h4⟩
theorem BRow.push {w : World} {base : Nat} {v : Value} {a b : List Int} (h : w.ownsRow base 5 1 v (a.length + b.length) (nums a ++ nums b)) : BRow w base v (a ++ b) := by
  show World.ownsRow _ _ _ _ _ _ _
  rw [nums_append, List.length_append]
  exact h
theorem one_nums (xs : List Int) : ∀ u ∈ nums xs, u.oneCell' = true := by
  intro u hu
  obtain ⟨x, _, rfl⟩ := List.mem_map.1 hu
  rfl

theorem make_cap (n : Nat) (hn : n ≤ 5864062014640) (w : World) :
    ∃ w', (Instr.makeSlice 103 (.int .i64 0) (.int .i64 (n : Int))).run Try.prog w = .ok (.slice (some ⟨w.heap.size, 0, none⟩) 0 n) w' ∧ BRow w' w.heap.size (.slice (some ⟨w.heap.size, 0, none⟩) 0 n) [] ∧ Keep [] w w' := by
  obtain ⟨i0, hi, hz0, hz1, hz2⟩ := info_parts infoU8
  obtain ⟨w', h1, h2, h3⟩ := run_make_own (P := Try.prog) w w.heap.size 103 5 i0 (.int .u8 0) 1 Try.underlying103 hi hz0 hz1 .i64 .i64 n (by rw [hz2]; omega) (by unfold maxLen; omega) (Nat.le_refl _)
  exact ⟨w', h1, h2, Keep.grown (Keep.refl _ _) h3 (by simp)⟩

set_option maxRecDepth 100000 in
set_option maxHeartbeats 4000000 in
theorem encode {a : Option Addr} {cap : Nat} {l : List Pk} {w : World} (h : Has w a l) (hl : l.length ≤ 5864062014640) :
    Calls Try.prog 18 #[.slice a l.length cap] w fun e w' => e = .returned (answer l) ∧ Keep [] w w' := by
  obtain ⟨i0, hi, hz0, hz1, hz2⟩ := info_parts infoU8
  have HI := Lib.hid hi; clear hi
  have HZ := Lib.hid (And.intro hz0 (And.intro hz1 hz2)); clear hz0 hz1 hz2
  have H := Lib.hid h; clear h
  obtain ⟨w1, hm, hown, hk⟩ := make_cap l.length (by omega) w
  have HOWN := Lib.hid hown; clear hown
  have HK := Lib.hid hk; clear hk
  go_enter Try.func18, Try.ntmps18
  go_wp2_with fail
  go_loopw [4, 14] (fun v4 x wr => ∃ (i : Nat) (xs : List Int), i ≤ l.length ∧ x = .int .i64 i ∧ enc l = (enc (l.drop i)).map (xs ++ ·) ∧ xs.length ≤ 2 * i ∧ BRow wr w.heap.size v4 xs ∧ Keep [] w wr) (fun _ x _ => l.length - (intOf x).toNat)
  case atStart => exact ⟨0, [], Nat.zero_le _, rfl, by simp, by simp, HOWN.out, HK.out⟩
  case round =>
    clear hm HOWN HK
    obtain ⟨i, xs, hi, rfl, he, hx, hrow, hk⟩ := hrel
    have HE := Lib.hid he; clear he
    have HX := Lib.hid hrow; clear hrow
    have HK := Lib.hid hk; clear hk
    obtain ⟨wo, rfl⟩ : ∃ wo : World, wo = wr := ⟨_, rfl⟩
    by_cases hlt : i < l.length
    · obtain ⟨b, o, rfl, c0, c1, c2⟩ := (H.out.keep HK.out).cell i hlt
      obtain ⟨p, hp⟩ : ∃ p, p = l[i] := ⟨_, rfl⟩
      obtain ⟨r, hr⟩ : ∃ r, r = l.drop (i + 1) := ⟨_, rfl⟩
      have hd : Hid (l.drop i = p :: r) := Lib.hid (by rw [hp, hr]; exact List.drop_eq_getElem_cons hlt)
      have hlast : Hid (r.isEmpty = decide (l.length ≤ i + 1)) := Lib.hid (by
        rw [hr]
        by_cases hh : l.length ≤ i + 1
        · rw [List.drop_eq_nil_of_le hh, decide_eq_true hh]; rfl
        · rw [decide_eq_false hh]
          cases h3 : l.drop (i + 1) with
          | nil => rw [List.drop_eq_nil_iff] at h3; omega
          | cons _ _ => rfl)
      rw [← hp] at c0 c1 c2
      have HRD := Lib.hid hr
      clear hp hr
      obtain ⟨k, hk⟩ : ∃ k, k = p.k := ⟨_, rfl⟩
      obtain ⟨who, hwho⟩ : ∃ who, who = p.who := ⟨_, rfl⟩
      obtain ⟨n, hn⟩ : ∃ n, n = p.n := ⟨_, rfl⟩
      rw [← hk] at c0
      rw [← hwho] at c1
      rw [← hn] at c2
      obtain rfl : p = ⟨k, who, n⟩ := by rw [hk, hwho, hn]
      clear hk hwho hn
      go_upto_block 2 with fail
      obtain ⟨B, hB⟩ : ∃ B, B = wo.heap.size := ⟨_, rfl⟩
      obtain ⟨w2, hw2⟩ : ∃ w2, w2 = wo.alloc (.cells #[.int .i64 k, .int .i64 who, .int .i64 n] 29) := ⟨_, rfl⟩
      have hblk : w2.heap[B]? = some (.cells #[.int .i64 k, .int .i64 who, .int .i64 n] 29 (0, 0)) := by rw [hw2, hB]; exact alloc_new _ _
      have k2 : Keep [] wo w2 := by rw [hw2]; exact (Keep.refl _ _).alloc _
      rw [← hw2, ← hB]
      have hB2 : B < w2.heap.size := lt_of hblk
      have K2 := Lib.hid k2
      have HBLK := Lib.hid hblk
      have HBs := Lib.hid hB
      clear hw2 k2 hblk hB
      have e0 := (cell_of HBLK.out 0 :)
      have e1 := (cell_of HBLK.out 1 :)
      have e2 := (cell_of HBLK.out 2 :)
      simp only [List.getElem?_toArray, List.getElem?_cons_zero, List.getElem?_cons_succ] at e0 e1 e2
      clear c0 c1 c2
      go_cut [4, 5, 6, 7, 14] (fun v4 v5 v6 v7 v14 wx => v4 = u4 ∧ v5 = .int .i64 i ∧ v6 = .pointer (some ⟨B, 0, none⟩) ∧ v14 = .int .i64 i ∧ BRow wx w2.heap.size v7 (tryOf ⟨k, who, n⟩) ∧ ¬ (k = 0 ∧ n / 32 = 1 ∧ r.isEmpty = false) ∧ Keep [] w2 wx)
      case first =>
        obtain ⟨m, hm⟩ : ∃ m, m = who % 32 := ⟨_, rfl⟩
        have a31 := and31_any who
        rw [← hm] at a31
        have hm0 : 0 ≤ m := by omega
        have hm1 : m < 32 := by omega
        clear a31 hm hm0 hm1
        have a31 := and31_any
        by_cases k1 : k = 1
        · subst k1
          go_wp2_with fail
          go_meet
          case rel => exact ⟨rfl, rfl, rfl, rfl, leaf1 (by simp [tryOf]), fun h => absurd h.1 (by decide), (Keep.refl _ _).alloc _⟩
        by_cases k2 : k = 2
        · subst k2
          go_wp2_with fail
          go_meet
          case rel => exact ⟨rfl, rfl, rfl, rfl, leaf2 (by simp [tryOf, wrap64]; omega), fun h => absurd h.1 (by decide), (Keep.refl _ _).alloc _⟩
        by_cases k3 : k = 3
        · subst k3
          go_wp2_with fail
          go_meet
          case rel => exact ⟨rfl, rfl, rfl, rfl, leaf1 (by simp [tryOf]), fun h => absurd h.1 (by decide), (Keep.refl _ _).alloc _⟩
        by_cases k4 : k = 4
        · subst k4
          go_wp2_with fail
          go_meet
          case rel => exact ⟨rfl, rfl, rfl, rfl, leaf1 (by simp [tryOf, wrap64]; omega), fun h => absurd h.1 (by decide), (Keep.refl _ _).alloc _⟩
        by_cases k5 : k = 5
        · subst k5
          go_wp2_with fail
          go_meet
          case rel => exact ⟨rfl, rfl, rfl, rfl, leaf1 (by simp [tryOf]), fun h => absurd h.1 (by decide), (Keep.refl _ _).alloc _⟩
        by_cases k6 : k = 6
        · subst k6
          go_wp2_with fail
          go_meet
          case rel => exact ⟨rfl, rfl, rfl, rfl, leaf1 (by simp [tryOf]), fun h => absurd h.1 (by decide), (Keep.refl _ _).alloc _⟩
        by_cases k0 : k = 0
        · subst k0
          by_cases h32 : n / 32 = 1
          · have hb32 : (n / 32 == 1) = true := beq_iff_eq.2 h32
            by_cases hl2 : l.length ≤ i + 1
            · have H32 := Lib.hid h32; clear h32
              go_wp2_with fail
              go_meet
              case rel => exact ⟨rfl, rfl, rfl, rfl, leaf1 (by simp [tryOf]), fun h => by rw [hlast.out, decide_eq_true hl2] at h; exact Bool.noConfusion h.2.2, (Keep.refl _ _).alloc _⟩
            · have H32 := Lib.hid h32; clear h32
              go_wp2_with fail
              refine bodyPost_ret (results_tmp2 rfl _ _ _) rfl ?_
              refine ⟨?_, HK.out.trans (K2.out.trans ((Keep.refl _ _).alloc _))⟩
              rw [answer_no HE.out hd.out]
              · rfl
              · apply Decidable.byContradiction
                intro hh
                exact (try_yes _ _ hh).2.2 ⟨rfl, H32.out, by rw [hlast.out, decide_eq_false hl2]⟩
          · have hb32 : (n / 32 == 1) = false := beq_eq_false_iff_ne.2 h32
            have H32 := Lib.hid h32; clear h32
            go_wp2_with fail
            go_meet
            case rel => exact ⟨rfl, rfl, rfl, rfl, leaf1 (by simp [tryOf]), fun h => H32.out h.2.1, (Keep.refl _ _).alloc _⟩
        · go_wp2_with fail
          go_meet
          case rel => exact ⟨rfl, rfl, rfl, rfl, by rw [show tryOf ⟨k, who, n⟩ = [] from by simp [tryOf, k1, k2, k3, k4, k5, k6, k0]]; exact World.ownsRow_nil _ _ _ _, fun h => k0 h.1, Keep.refl _ _⟩
      case rest =>
        obtain ⟨rfl, rfl, rfl, rfl, htry, hne, hk3⟩ := hcut
        have hcv := conv_row htry
        have TRY := Lib.hid htry; clear htry
        have HNE := Lib.hid hne; clear hne
        have K3 := Lib.hid hk3; clear hk3 e0 e1 e2
        go_wp2_with fail
        refine (Pick.decode (strOfNums (tryOf ⟨k, who, n⟩)) _ (by have := try_length ⟨k, who, n⟩; rw [strOfNums_size]; omega)).mono ?_
        rintro e w4 ⟨v8, rfl, r8, k8⟩
        rw [strOfNums_data] at r8
        have R8 : Hid (Row w4 wc.heap.size v8 (back (tryOf ⟨k, who, n⟩))) := Lib.hid r8
        have K8 := Lib.hid k8
        clear r8 k8 hcv
        have e0 := ((K3.out.trans K8.out).cell (cell_of HBLK.out 0 :) (by simp) :)
        have e1 := ((K3.out.trans K8.out).cell (cell_of HBLK.out 1 :) (by simp) :)
        have e2 := ((K3.out.trans K8.out).cell (cell_of HBLK.out 2 :) (by simp) :)
        have e0 : w4.cell? ⟨B, 0, none⟩ = some (.int .i64 k) := e0
        have e1 : w4.cell? ⟨B, 1, none⟩ = some (.int .i64 who) := e1
        have e2 : w4.cell? ⟨B, 2, none⟩ = some (.int .i64 n) := e2
        have T4 : Hid (BRow w4 w2.heap.size u7 (tryOf ⟨k, who, n⟩)) := Lib.hid (owns_keep TRY.out K8.out (by simp)); clear TRY
        have X4 : Hid (BRow w4 w.heap.size u4 xs) := Lib.hid (owns_keep HX.out (K2.out.trans (K3.out.trans K8.out)) (by simp)); clear HX
        have K4 := Lib.hid (HK.out.trans (K2.out.trans (K3.out.trans K8.out)))
        clear HK K2 K3 K8 HBLK HBs
        rcases back_try ⟨k, who, n⟩ with ⟨ht, hbk⟩ | ⟨hlen, q, hbk⟩
        · have R9 := R8.out
          rw [hbk] at R9
          obtain ⟨a8, cap8, hv8, -⟩ := R9.shape
          have no : Hid (bytesOf ⟨k, who, n⟩ r.isEmpty = []) := Lib.hid (by
            apply Decidable.byContradiction
            intro hh
            have := (try_yes _ _ hh).2.1
            rw [hbk] at this
            cases this)
          clear R8 R9 hbk ht
          subst hv8
          try simp only [List.length_nil]
          go_wp2_with fail
          go_quiet (fail)
          go_wp2_with fail
          refine bodyPost_ret (results_tmp2 rfl _ _ _) rfl ?_
          exact ⟨by rw [answer_no HE.out hd.out no.out]; rfl, K4.out.drewN _⟩
        · have R9 := R8.out
          rw [hbk] at R9
          obtain ⟨a8, cap8, hv8, hc8⟩ := R9.shape
          obtain ⟨g8, rfl, _, _, _, q0, q1, q2, _⟩ := hc8 0 (by simp)
          obtain ⟨qk, qw, qn⟩ := q
          have p0 : w4.cell? ⟨g8, 0, none⟩ = some (.int .i64 qk) := q0
          have p1 : w4.cell? ⟨g8, 1, none⟩ = some (.int .i64 qw) := q1
          have p2 : w4.cell? ⟨g8, 2, none⟩ = some (.int .i64 qn) := q2
          have HBK := Lib.hid hbk
          have HLEN := Lib.hid hlen
          clear R8 R9 hbk hc8 q0 q1 q2 hlen
          subst hv8
          try simp only [List.length_cons, List.length_nil, Nat.zero_add]
          by_cases hq : (⟨qk, qw, qn⟩ : Pk) = ⟨k, who, n⟩
          · have heq : ∀ (d : Nat) (u : World), (Op.equalIn (d + 2) 29 (.agg #[.int .i64 qk, .int .i64 qw, .int .i64 qn]) (.agg #[.int .i64 k, .int .i64 who, .int .i64 n])).run Try.prog u = .ok true u := by
              intro d u
              rw [Pk.mk.injEq] at hq
              obtain ⟨rfl, rfl, rfl⟩ := hq
              rw [eqPick]
              simp
            have yes : Hid (bytesOf ⟨k, who, n⟩ r.isEmpty ≠ []) := Lib.hid fun hh => try_no _ _ hh HNE.out (by rw [HBK.out, hq])
            clear hq
            go_wp2_with fail
            go_quiet (fail)
            obtain ⟨g7, cap7, hv7, hnews⟩ := BRow.news T4.out HLEN.out
            have NEWS := Lib.hid hnews
            have T5 := T4.out
            clear hnews T5 T4
            subst hv7
            have f1 := Lib.hid (one_nums (tryOf ⟨k, who, n⟩))
            have f0 := try_length ⟨k, who, n⟩
            have f2 := Lib.hid (show xs.length + (tryOf ⟨k, who, n⟩).length ≤ maxLen by unfold maxLen; omega)
            have f3 := Lib.hid (show (xs.length + (tryOf ⟨k, who, n⟩).length) * 1 ≤ 140737488355328 by omega)
            have f4 := Lib.hid K4.out.size
            have f5 := Lib.hid (show (nums (tryOf ⟨k, who, n⟩)).length = (tryOf ⟨k, who, n⟩).length * 1 by simp [nums])
            obtain ⟨ts, hts⟩ : ∃ ts, ts = tryOf ⟨k, who, n⟩ := ⟨_, rfl⟩
            rw [← hts] at f0 f1 f2 f3 f5 NEWS HLEN ⊢
            have HTS := Lib.hid hts; clear hts
            obtain ⟨w5, hw5⟩ : ∃ w5, w5 = w4.drewN nq := ⟨_, rfl⟩
            have X5 : Hid (BRow w5 w.heap.size u4 xs) := Lib.hid (by rw [hw5]; exact X4.out)
            have N5 : Hid (∀ j u, (nums ts)[j]? = some u → w5.cell? ((⟨g7, 0, none⟩ : Addr).add j) = some u) := Lib.hid (by rw [hw5]; exact NEWS.out)
            have K5 : Hid (Keep [] w w5) := Lib.hid (by rw [hw5]; exact K4.out.drewN _)
            rw [← hw5]
            clear NEWS X4 K4 f4 hw5
            have f4 := Lib.hid K5.out.size
            go_wp2_with (at_builtin; refine wpList_append_own_at _ rfl _ _ 103 rfl w.heap.size 5 i0 (.int .u8 0) 1 1 Try.underlying103 HI.out HZ.out.1 HZ.out.2.1 HZ.out.2.2 rfl (by decide) _ _ _ rfl X5.out ⟨g7, 0, none⟩ ts.length cap7 (nums ts) rfl f5.out N5.out f1.out f2.out f3.out f4.out ?_; intro v' w6 y1 y2 _ _; have A1 := Lib.hid y1; have G1 := Lib.hid y2; clear y1 y2)
            go_roundw
            case rel =>
              have hy := try_yes _ _ yes.out
              refine ⟨i + 1, xs ++ ts, hlt, by go_num, ?_, by simp; omega, BRow.push A1.out, Keep.grown K5.out G1.out fun k hk => .inr (X5.out.lt k hk).1⟩
              rw [HTS.out, hy.1]
              exact enc_yes HE.out hd.out yes.out
            case measure => simp [intOf]; omega
          · have heq : ∀ (d : Nat) (u : World), (Op.equalIn (d + 2) 29 (.agg #[.int .i64 qk, .int .i64 qw, .int .i64 qn]) (.agg #[.int .i64 k, .int .i64 who, .int .i64 n])).run Try.prog u = .ok false u := by
              intro d u
              rw [eqPick]
              cases hh : (qk == k && (qw == who && (qn == n))) with
              | false => rfl
              | true =>
                simp at hh
                exact absurd (by rw [hh.1, hh.2.1, hh.2.2]) hq
            have no : Hid (bytesOf ⟨k, who, n⟩ r.isEmpty = []) := Lib.hid (by
              apply Decidable.byContradiction
              intro hh
              have := (try_yes _ _ hh).2.1
              rw [HBK.out] at this
              exact hq (List.cons.inj this).1)
            clear hq
            go_wp2_with fail
            go_quiet (fail)
            go_wp2_with fail
            refine bodyPost_ret (results_tmp2 rfl _ _ _) rfl ?_
            exact ⟨by rw [answer_no HE.out hd.out no.out]; rfl, K4.out.drewN _⟩
    · obtain rfl : i = l.length := by omega
      have hcv := conv_row HX.out
      go_wp2_with fail
      refine bodyPost_ret (results_tmp2 rfl _ _ _) rfl ?_
      refine ⟨?_, HK.out⟩
      have e : enc l = some xs := by rw [HE.out]; simp [enc]
      unfold answer
      rw [e]
      rfl
end Go.Proofs.Ytdkdeiofjoccnaa.Pick
