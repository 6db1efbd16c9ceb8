/- The document's arena: New, Shape: what CellsShapes asks of them. -/
import Derived.Test.YtgagiggljlikbaaGreatCeRows
namespace Go.Proofs.YtgagiggljlikbaaGreat.Ref
open Go.RowKit Go.Proofs.YtgagiggljlikbaaGreat.Mem Go.Proofs.YtgagiggljlikbaaGreat.Ar Go.Proofs.YtgagiggljlikbaaGreat.En
set_option linter.unusedVariables false

variable {w : World}

theorem new_bad (slots width : Int) (hs : ¬ (1 ≤ slots ∧ slots ≤ 4096 ∧ 1 ≤ width ∧ width ≤ 16)) :
    Calls Tryz.prog 77 #[.int .i64 slots, .int .i64 width] w fun e w' => e = .returned (.tuple #[.pointer none, .int .i64 20]) ∧ w = w' := by
  by_cases h1 : slots < 1
  · clear hs
    go_enter Tryz.func77, Tryz.ntmps77
    go_wp2
    go_ret2
    exact ⟨rfl, rfl⟩
  · by_cases h2 : 4096 < slots
    · clear hs
      go_enter Tryz.func77, Tryz.ntmps77
      go_wp2
      go_ret2
      exact ⟨rfl, rfl⟩
    · by_cases h3 : width < 1
      · clear hs
        go_enter Tryz.func77, Tryz.ntmps77
        go_wp2
        go_ret2
        exact ⟨rfl, rfl⟩
      · have h4 : 16 < width := by omega
        clear hs
        go_enter Tryz.func77, Tryz.ntmps77
        go_wp2
        go_ret2
        exact ⟨rfl, rfl⟩

/-- a slot that nobody has had -/
def blank : List Value := [.bool false, .string ⟨#[]⟩, .string ⟨#[]⟩, .int .i64 0, .slice none 0 0, .int .i64 0]
def blanks : Nat → List Value
  | 0 => []
  | k + 1 => blanks k ++ blank
def blankAgg : Value := .agg #[.bool false, .string ⟨#[]⟩, .string ⟨#[]⟩, .int .i64 0, .slice none 0 0, .int .i64 0]

theorem infoS : (Tryz.prog.info? 184).map (fun i => (i.zero, i.size, i.bytes)) = some (some blankAgg, 6, 80) := by kernel_rfl

/-- what stands while the document's arena is made: k slots beyond the first -/
structure Making (w wr : World) (width k : Nat) (v1 v2 : Value) : Prop where
  hb : wr.heap[w.heap.size]? = some (.cells #[.int .i64 width, v1, v2, .int .i64 0, .int .i64 0] 182 (0, 0))
  o1 : wr.ownsRow (w.heap.size + 1) 184 6 v1 (k + 1) (blanks (k + 1))
  o2 : wr.ownsRow (w.heap.size + 1) 3 1 v2 k (ints (List.range' 1 k))
  sep : v1.ownBlock = none ∨ v1.ownBlock ≠ v2.ownBlock
  keep : Keep [] w wr

theorem one_int' (x : Int) : ∀ u ∈ [Value.int .i64 x], u.oneCell' = true := by simp [Value.oneCell']
theorem cell_one_set (w : World) (a : Addr) (v x : Value) (t : TypeId) : ∀ j u, [x][j]? = some u → ((w.setCell a v).alloc (.cells #[x] t)).cell? ((⟨w.heap.size, 0, none⟩ : Addr).add j) = some u := by
  have := cell_one_new (w.setCell a v) x t
  rw [size_set] at this
  exact this
theorem news_at {w : World} {l : List Value} {t : TypeId} {B : Nat} (hB : w.heap.size = B) : ∀ j u, l[j]? = some u → (w.alloc (.cells l.toArray t)).cell? ((⟨B, 0, none⟩ : Addr).add j) = some u := by
  subst hB
  intro j u h
  have hn : (⟨w.heap.size, 0, none⟩ : Addr).add j = ⟨w.heap.size, j, none⟩ := by unfold Addr.add; split <;> simp_all
  rw [hn, cell_of (alloc_new w _), List.getElem?_toArray]
  exact h

theorem blank_one : ∀ u ∈ blank, u.oneCell' = true := by simp [blank, Value.oneCell']

theorem owns_shape {w : World} {base : Nat} {e : TypeId} {size : Nat} {v : Value} {n : Nat} {xs : List Value} (h : w.ownsRow base e size v n xs) : ∃ a cap, v = .slice a n cap := by
  rcases h.2 with ⟨rfl, rfl⟩ | ⟨g, cap, cur, rfl, _⟩
  · exact ⟨_, _, rfl⟩
  · exact ⟨_, _, rfl⟩

/-- the head of the document's arena -/
def hd (width : Nat) (v1 v2 : Value) : Array Value := #[.int .i64 width, v1, v2, .int .i64 0, .int .i64 0]

theorem made_head {w w3 : World} {width : Nat} {o : Obj} (g1 : ((w.alloc (.cells (hd width (.slice none 0 0) (.slice none 0 0)) 182)).alloc o).grownBy w3 none) :
    w3.heap[w.heap.size]? = some (.cells (hd width (.slice none 0 0) (.slice none 0 0)) 182 (0, 0)) :=
  (g1.block w.heap.size (by simp; omega) (by simp)).trans (alloc_some _ (alloc_new _ _))

/-- behind the first append of a round -/
theorem Making.first {w wr w3 : World} {width k : Nat} {v1 v2 : Value} (h : Making w wr width k v1 v2) {o : Obj} (g1 : (wr.alloc o).grownBy w3 v1.ownBlock) :
    w3.heap[w.heap.size]? = some (.cells (hd width v1 v2) 182 (0, 0)) ∧ w3.ownsRow (w.heap.size + 1) 3 1 v2 k (ints (List.range' 1 k)) ∧ w.heap.size + 1 ≤ w3.heap.size := by
  have l1 := h.o1.lt
  have hl := lt_of h.hb
  have hz := g1.size
  simp only [World.size_alloc] at hz
  refine ⟨(g1.block w.heap.size (by simp; omega) ?_).trans (alloc_some _ h.hb), (h.o2.alloc o).kept g1 (sep_sym h.sep), by omega⟩
  intro e
  have := (l1 _ e.symm).1
  omega

/-- behind the second append of a round -/
theorem Making.head2 {w wr w3 w4 : World} {width k : Nat} {v1 v2 v1' : Value} (h : Making w wr width k v1 v2) {o1 o2 : Obj} (g1 : (wr.alloc o1).grownBy w3 v1.ownBlock)
    (g2 : ((w3.setCell ⟨w.heap.size, 1, none⟩ v1').alloc o2).grownBy w4 v2.ownBlock) : w4.heap[w.heap.size]? = some (.cells (hd width v1' v2) 182 (0, 0)) := by
  obtain ⟨hb, _, hz⟩ := h.first g1
  have l2 := h.o2.lt
  refine (g2.block w.heap.size (by simp; omega) ?_).trans (alloc_some _ (set_same hb 1 v1'))
  intro e
  have := (l2 _ e.symm).1
  omega

theorem Making.second {w wr w3 w4 : World} {width k : Nat} {v1 v2 v1' v2' : Value} (h : Making w wr width k v1 v2) {o1 o2 : Obj}
    (a1 : w3.ownsRow (w.heap.size + 1) 184 6 v1' (k + 1 + 1) (blanks (k + 1) ++ blank)) (g1 : (wr.alloc o1).grownBy w3 v1.ownBlock) (p1 : v1'.ownBlock = v1.ownBlock ∨ v1'.ownBlock = some (wr.alloc o1).heap.size)
    (a2 : w4.ownsRow (w.heap.size + 1) 3 1 v2' (k + 1) (ints (List.range' 1 k) ++ [.int .i64 ((k : Int) + 1)])) (g2 : ((w3.setCell ⟨w.heap.size, 1, none⟩ v1').alloc o2).grownBy w4 v2.ownBlock)
    (p2 : v2'.ownBlock = v2.ownBlock ∨ v2'.ownBlock = some ((w3.setCell ⟨w.heap.size, 1, none⟩ v1').alloc o2).heap.size) : Making w (w4.setCell ⟨w.heap.size, 2, none⟩ v2') width (k + 1) v1' v2' := by
  have l1 := h.o1.lt
  have l2 := h.o2.lt
  have l3 := a1.lt
  have z1 : (wr.alloc o1).heap.size = wr.heap.size + 1 := World.size_alloc _ _
  have z2 : ((w3.setCell ⟨w.heap.size, 1, none⟩ v1').alloc o2).heap.size = w3.heap.size + 1 := by rw [World.size_alloc, size_set]
  have q1 : v1'.ownBlock = none ∨ v1'.ownBlock ≠ v2.ownBlock := by
    rcases p1 with p | p
    · rw [p]; exact h.sep
    · refine .inr fun e2 => ?_
      have := (l2 _ (e2.symm.trans p)).2
      omega
  refine ⟨set_same (h.head2 g1 g2) 2 v2', ?_, ?_, ?_, ?_⟩
  · exact ownsRow_setCell_below (((ownsRow_setCell_below a1 (Nat.lt_succ_self _) v1').alloc o2).kept g2 q1) (Nat.lt_succ_self _) _
  · have e : ints (List.range' 1 (k + 1)) = ints (List.range' 1 k) ++ [.int .i64 ((k : Int) + 1)] := by
      rw [List.range'_1_concat]
      simp [ints, Int.add_comm]
    rw [e]
    exact ownsRow_setCell_below a2 (Nat.lt_succ_self _) _
  · rcases p2 with p | p
    · rw [p]; exact q1
    · refine .inr fun e2 => ?_
      have := (l3 _ (e2.trans p)).2
      omega
  · have k1 : Keep [] w w3 := Keep.grown (h.keep.alloc o1) g1 fun b hb => by have := (l1 b hb).1; omega
    exact (Keep.grown ((k1.set (.inr (Nat.le_refl _)) 1 v1').alloc o2) g2 fun b hb => by have := (l2 b hb).1; omega).set (.inr (Nat.le_refl _)) _ _

set_option maxRecDepth 100000 in
set_option maxHeartbeats 1000000 in
theorem new_ok (slots width : Nat) (h1 : 1 ≤ slots) (h2 : slots ≤ 4096) (h3 : 1 ≤ width) (h4 : width ≤ 16) :
    Calls Tryz.prog 77 #[.int .i64 slots, .int .i64 width] w fun e w' => ∃ v1 v2, e = .returned (.tuple #[.pointer (some ⟨w.heap.size, 0, none⟩), .int .i64 0]) ∧ Making w w' width slots v1 v2 := by
  obtain ⟨i0, hi, hz0, hz1, hz2⟩ := info_parts infoI
  have HI := Lib.hid hi; clear hi
  have HZ := Lib.hid (And.intro hz0 (And.intro hz1 hz2)); clear hz0 hz1 hz2
  obtain ⟨j0, hj, hy0, hy1, hy2⟩ := info_parts infoS
  have HJ := Lib.hid hj; clear hj
  have HY := Lib.hid (And.intro hy0 (And.intro hy1 hy2)); clear hy0 hy1 hy2
  have d2 := Lib.hid (show 0 + 1 ≤ maxLen by unfold maxLen; omega)
  have d3 := Lib.hid (show (0 + 1) * 80 ≤ 140737488355328 by omega)
  have f1 := Lib.hid blank_one
  go_enter Tryz.func77, Tryz.ntmps77
  go_wp2_with (at_builtin; refine wpList_append_own_at _ rfl _ _ 180 rfl (w.heap.size + 1) 184 j0 blankAgg 6 80 Tryz.underlying180 HJ.out HY.out.1 HY.out.2.1 HY.out.2.2 rfl (by decide) (.slice none 0 0) 0 [] rfl (World.ownsRow_nil _ _ _ _) ⟨_, 0, none⟩ 1 1 blank rfl rfl (news_at (World.size_alloc _ _)) f1.out d2.out d3.out (Nat.le_trans (Nat.le_of_eq (World.size_alloc _ _).symm) (alloc_le _ _)) ?_; intro v1 w3 a1 g1 _ _; obtain ⟨ax, cx, rfl⟩ := owns_shape a1; have A1 := Lib.hid a1; have G1 := Lib.hid g1; clear a1 g1; have HB := Lib.hid (made_head (width := width) G1.out); have c1 : w3.cell? ⟨w.heap.size, 1, none⟩ = some (.slice none 0 0) := cell_of HB.out 1; have z1 := free_of HB.out 1)
  have hstart : Making w (w3.setCell ⟨w.heap.size, 1, none⟩ (.slice ax (0 + 1) cx)) width 0 (.slice ax (0 + 1) cx) (.slice none 0 0) := by
    refine ⟨set_same HB.out 1 _, ownsRow_setCell_below A1.out (Nat.lt_succ_self _) _, World.ownsRow_nil _ _ _ _, ?_, ?_⟩
    · exact sep_sym (.inl rfl)
    · exact (Keep.grown (((Keep.refl _ _).alloc _).alloc _) G1.out (fun b hb => by cases hb)).set (.inr (Nat.le_refl _)) _ _
  have HS := Lib.hid hstart; clear hstart
  go_loopw [7] (fun i wr => ∃ (k : Nat) (v1 v2 : Value), k ≤ slots ∧ i = .int .i64 ((k : Int) + 1) ∧ Making w wr width k v1 v2) (fun i _ => slots + 1 - (intOf i).toNat)
  case atStart => exact ⟨0, _, _, Nat.zero_le _, rfl, HS.out⟩
  case round =>
    clear HS HB c1 z1 A1 G1
    obtain ⟨k, v1, v2, hk, rfl, hM⟩ := hrel
    have HM := Lib.hid hM; clear hM
    by_cases hlt : k < slots
    · have c1 : wr.cell? ⟨w.heap.size, 1, none⟩ = some v1 := cell_of HM.out.hb 1
      have e2 := Lib.hid (show k + 1 + 1 ≤ maxLen by unfold maxLen; omega)
      have e3 := Lib.hid (show (k + 1 + 1) * 80 ≤ 140737488355328 by omega)
      have e4 := Lib.hid (show k + 1 ≤ maxLen by unfold maxLen; omega)
      have e5 := Lib.hid (show (k + 1) * 8 ≤ 140737488355328 by omega)
      have e6 := Lib.hid (lt_of HM.out.hb)
      have e7 := Lib.hid (one_int' ((k : Int) + 1))
      go_wp2_with (first | (at_builtin; refine wpList_append_own_at _ rfl _ _ 180 rfl (w.heap.size + 1) 184 j0 blankAgg 6 80 Tryz.underlying180 HJ.out HY.out.1 HY.out.2.1 HY.out.2.2 rfl (by decide) v1 (k + 1) (blanks (k + 1)) rfl (HM.out.o1.alloc _) ⟨_, 0, none⟩ 1 1 blank rfl rfl (news_at rfl) f1.out e2.out e3.out (Nat.le_trans e6.out (alloc_le _ _)) ?_; intro v1' w3 a1 g1 _ p1; obtain ⟨ay, cy, rfl⟩ := owns_shape a1; have A1 := Lib.hid a1; have G1 := Lib.hid g1; have P1 := Lib.hid p1; clear a1 g1 p1; have FF := Lib.hid (HM.out.first G1.out); have d1 : w3.cell? ⟨w.heap.size, 1, none⟩ = some v1 := cell_of FF.out.1 1; have d9 : w3.cell? ⟨w.heap.size, 2, none⟩ = some v2 := cell_of FF.out.1 2; have z1 := free_of FF.out.1 1) | (at_builtin; refine wpList_append_own_at _ rfl _ _ 31 rfl (w.heap.size + 1) 3 i0 (.int .i64 0) 1 8 Tryz.underlying31 HI.out HZ.out.1 HZ.out.2.1 HZ.out.2.2 rfl (by decide) v2 k (ints (List.range' 1 k)) rfl ((ownsRow_setCell_below FF.out.2.1 (Nat.lt_succ_self _) _).alloc _) ⟨_, 0, none⟩ 1 1 [.int .i64 ((k : Int) + 1)] rfl rfl (cell_one_set _ _ _ _ _) e7.out e4.out e5.out (Nat.le_trans FF.out.2.2 (Nat.le_trans (Nat.le_of_eq (size_set _ _ _).symm) (alloc_le _ _))) ?_; intro v2' w4 a2 g2 _ p2; obtain ⟨az, cz, rfl⟩ := owns_shape a2; have A2 := Lib.hid a2; have G2 := Lib.hid g2; have P2 := Lib.hid p2; clear a2 g2 p2; have H4 := Lib.hid (HM.out.head2 G1.out G2.out); have d2' : w4.cell? ⟨w.heap.size, 2, none⟩ = some v2 := cell_of H4.out 2; have z2 := free_of H4.out 2))
      go_roundw
      case rel => exact ⟨k + 1, _, _, hlt, by go_num, HM.out.second A1.out G1.out P1.out A2.out G2.out P2.out⟩
      case measure => simp [intOf]; omega
    · have hke : k = slots := by omega
      have HKE := Lib.hid hke; clear hke
      go_wp2_with fail
      go_ret2
      have := HM.out
      rw [HKE.out] at this
      exact ⟨v1, v2, rfl, this⟩

theorem Making.later {w wr w' : World} {width k : Nat} {v1 v2 : Value} (h : Making w wr width k v1 v2) (kk : Keep [] wr w') : Making w w' width k v1 v2 :=
  ⟨kk.old h.hb (by simp), owns_keep h.o1 kk (by simp), owns_keep h.o2 kk (by simp), h.sep, h.keep.trans kk⟩

theorem shape {w wr : World} {width k : Nat} {v1 v2 : Value} (h : Making w wr width k v1 v2) (hk : k ≤ 4096) :
    Calls Tryz.prog 105 #[.pointer (some ⟨w.heap.size, 0, none⟩)] wr fun e w' => e = .returned (.tuple #[.int .i64 k, .int .i64 width]) ∧ Keep [] wr w' := by
  obtain ⟨ax, cx, rfl⟩ := owns_shape h.o1
  have c0 : wr.cell? ⟨w.heap.size, 0, none⟩ = some (.int .i64 width) := cell_of h.hb 0
  have c1 : wr.cell? ⟨w.heap.size, 1, none⟩ = some (.slice ax (k + 1) cx) := cell_of h.hb 1
  have r1 : IntKind.i64.wrap ((k : Int) + 1 - 1) = (k : Int) := by rw [IntWalk.i64_in _ (by omega)]; omega
  clear h
  go_enter Tryz.func105, Tryz.ntmps105
  go_wp2_with fail
  go_quiet (fail)
  go_wp2_with fail
  go_ret2
  exact ⟨rfl, (Keep.refl _ _).drewN _⟩
end Go.Proofs.YtgagiggljlikbaaGreat.Ref
