/- The arena at strings: picture, Live. -/
import Derived.Test.YtmdboahjikngeaaAsNew
import Derived.Maps.AppendAt
import Derived.Deep.AppendLies
namespace Go.Proofs.Ytmdboahjikngeaa.As
open Go.RowKit Go.Proofs.Ytmdboahjikngeaa.Mem Go.Proofs.Ytmdboahjikngeaa.Ar Go.MuLone
set_option linter.unusedVariables false

variable {mu : Int} {w : World} {L : Bk} {A : Arena ByteArray}

/-- the slots below k in use, rising -/
def usedTo {α : Type} (A : Arena α) (k : Nat) : List Nat := (List.range' 1 (k - 1)).filter fun s => nth A.used s false
def live {α : Type} (A : Arena α) : List Nat := usedTo A (A.slots + 1)

theorem usedTo_succ {α : Type} (A : Arena α) {k : Nat} (hk : 1 ≤ k) : usedTo A (k + 1) = if nth A.used k false then usedTo A k ++ [k] else usedTo A k := by
  unfold usedTo
  obtain ⟨j, rfl⟩ : ∃ j, k = j + 1 := ⟨k - 1, by omega⟩
  rw [Nat.add_sub_cancel, Nat.add_sub_cancel, List.range'_1_concat, List.filter_append, Nat.add_comm 1 j]
  cases h : nth A.used (j + 1) false <;> simp [h]
theorem usedTo_length {α : Type} (A : Arena α) (k : Nat) : (usedTo A k).length ≤ k - 1 := by
  unfold usedTo
  exact Nat.le_trans (List.length_filter_le _ _) (by simp)

theorem Keep.grown {S : List Nat} {a w w' : World} {row : Option Nat} (h : Keep S a w) (hg : w.grownBy w' row) (hr : ∀ k, row = some k → a.heap.size ≤ k) : Keep S a w' :=
  ⟨hg.os.trans h.os, hg.tape.trans h.tape, hg.output.trans h.output, Nat.le_trans h.size hg.size, fun k hk hn => by
    refine (hg.block k (Nat.lt_of_lt_of_le hk h.size) ?_).trans (h.block k hk hn)
    intro e
    have := hr k e.symm
    omega⟩

theorem owns_keep {w w' : World} {S : List Nat} {base : Nat} {e : TypeId} {size : Nat} {v : Value} {n : Nat} {xs : List Value} (h : w.ownsRow base e size v n xs) (k : Keep S w w') (hS : ∀ x ∈ S, x < base) : w'.ownsRow base e size v n xs := by
  refine ⟨h.1, ?_⟩
  rcases h.2 with hn | ⟨g, cap, cur, rfl, hb, hgg, rest⟩
  · exact .inl hn
  · exact .inr ⟨g, cap, cur, rfl, hb, k.old hgg (fun hx => by have := hS g hx; omega), rest⟩
theorem owns_mono {w : World} {base base' : Nat} {e : TypeId} {size : Nat} {v : Value} {n : Nat} {xs : List Value} (h : w.ownsRow base e size v n xs) (hb : base' ≤ base) : w.ownsRow base' e size v n xs := by
  refine ⟨h.1, ?_⟩
  rcases h.2 with hn | ⟨g, cap, cur, rfl, hbb, rest⟩
  · exact .inl hn
  · exact .inr ⟨g, cap, cur, rfl, Nat.le_trans hb hbb, rest⟩

def ints (l : List Nat) : List Value := l.map fun x : Nat => .int .i64 x
def strs (A : Arena ByteArray) (l : List Nat) : List Value := l.map fun s => .string (nth A.items s ByteArray.empty)

/-- what stands while the picture is taken -/
structure Taking (w wr : World) (A : Arena ByteArray) (v1 v2 : Value) (k : Nat) : Prop where
  o1 : wr.ownsRow w.heap.size 3 1 v1 (usedTo A k).length (ints (usedTo A k))
  o2 : wr.ownsRow w.heap.size 9 1 v2 (usedTo A k).length (strs A (usedTo A k))
  sep : v1.ownBlock = none ∨ v1.ownBlock ≠ v2.ownBlock
  keep : Keep [] w wr

theorem Taking.skip {w wr : World} {v1 v2 : Value} {k : Nat} (h : Taking w wr A v1 v2 k) (hk : 1 ≤ k) (hu : nth A.used k false = false) : Taking w wr A v1 v2 (k + 1) := by
  have e : usedTo A (k + 1) = usedTo A k := by rw [usedTo_succ A hk, hu]; rfl
  obtain ⟨a, b, c, d⟩ := h
  exact ⟨e ▸ a, e ▸ b, c, d⟩

theorem one_int (k : Nat) : ∀ u ∈ [Value.int .i64 (k : Int)], u.oneCell' = true := by simp [Value.oneCell']
theorem one_str (s : ByteArray) : ∀ u ∈ [Value.string s], u.oneCell' = true := by simp [Value.oneCell']
theorem alloc_le (w : World) (o : Obj) : w.heap.size ≤ (w.alloc o).heap.size := by simp

theorem sep_sym {a b : Option Nat} (h : a = none ∨ a ≠ b) : b = none ∨ b ≠ a := by
  cases b with
  | none => exact .inl rfl
  | some x =>
    refine .inr fun e => ?_
    subst e
    rcases h with h | h
    · cases h
    · exact h rfl

theorem Taking.other {w wr w3 : World} {v1 v2 : Value} {k : Nat} (h : Taking w wr A v1 v2 k) {o1 : Obj} (g1 : (wr.alloc o1).grownBy w3 v1.ownBlock) : w3.ownsRow w.heap.size 9 1 v2 (usedTo A k).length (strs A (usedTo A k)) :=
  (h.o2.alloc o1).kept g1 (sep_sym h.sep)

theorem Taking.push {w wr w3 w4 : World} {v1 v2 v1' v2' : Value} {k : Nat} (h : Taking w wr A v1 v2 k) (hk : 1 ≤ k) (hu : nth A.used k false = true) {o1 o2 : Obj}
    (a1 : w3.ownsRow w.heap.size 3 1 v1' ((usedTo A k).length + 1) (ints (usedTo A k) ++ [.int .i64 (k : Nat)])) (g1 : (wr.alloc o1).grownBy w3 v1.ownBlock) (p1 : v1'.ownBlock = v1.ownBlock ∨ v1'.ownBlock = some (wr.alloc o1).heap.size)
    (a2 : w4.ownsRow w.heap.size 9 1 v2' ((usedTo A k).length + 1) (strs A (usedTo A k) ++ [.string (nth A.items k ByteArray.empty)])) (g2 : (w3.alloc o2).grownBy w4 v2.ownBlock) (p2 : v2'.ownBlock = v2.ownBlock ∨ v2'.ownBlock = some (w3.alloc o2).heap.size) :
    Taking w w4 A v1' v2' (k + 1) := by
  have e : usedTo A (k + 1) = usedTo A k ++ [k] := by rw [usedTo_succ A hk, hu]; rfl
  have el : (usedTo A (k + 1)).length = (usedTo A k).length + 1 := by rw [e]; simp
  have l1 := h.o1.lt
  have l2 := h.o2.lt
  have l3 := a1.lt
  have z1 : (wr.alloc o1).heap.size = wr.heap.size + 1 := World.size_alloc _ _
  have z2 : (w3.alloc o2).heap.size = w3.heap.size + 1 := World.size_alloc _ _
  have z3 := g1.size
  have q1 : v1'.ownBlock = none ∨ v1'.ownBlock ≠ v2.ownBlock := by
    rcases p1 with p | p
    · rw [p]; exact h.sep
    · refine .inr fun e2 => ?_
      have := (l2 _ (e2.symm.trans p)).2
      omega
  refine ⟨?_, ?_, ?_, ?_⟩
  · rw [el, e]
    have := (a1.alloc o2).kept g2 q1
    simpa [ints] using this
  · rw [el, e]
    simpa [strs] using a2
  · rcases p2 with p | p
    · rw [p]; exact q1
    · refine .inr fun e2 => ?_
      have := (l3 _ (e2.trans p)).2
      omega
  · refine Keep.grown ((Keep.grown (h.keep.alloc o1) g1 fun b hb => (l1 b hb).1).alloc o2) g2 fun b hb => (l2 b hb).1

set_option maxRecDepth 100000 in
set_option maxHeartbeats 1000000 in
theorem picture (h : At 0 w L A) :
    Calls Try.prog 38 #[.pointer (some ⟨L.b, 0, none⟩)] w fun e w' => ∃ v1 v2, e = .returned (.tuple #[v1, v2]) ∧ w'.ownsRow w.heap.size 3 1 v1 (live A).length (ints (live A)) ∧ w'.ownsRow w.heap.size 9 1 v2 (live A).length (strs A (live A)) ∧ At 0 w' L A ∧ Keep L.blocks w w' := by
  obtain ⟨i0, hi, hz0, hz1, hz2⟩ := info_parts infoI
  obtain ⟨j0, hj, hy0, hy1, hy2⟩ := info_parts infoP
  have hs2 := h.fits.s2
  have HI := Lib.hid hi; clear hi
  have HJ := Lib.hid hj; clear hj
  have HZ := Lib.hid (And.intro hz0 (And.intro hz1 hz2)); clear hz0 hz1 hz2
  have HY := Lib.hid (And.intro hy0 (And.intro hy1 hy2)); clear hy0 hy1 hy2
  have HA := Lib.hid h; clear h
  go_enter_defers Try.func38, Try.ntmps38
  go_wp2_with fail
  refine (missing HA.out).mono ?_
  rintro e w' ⟨rfl, rfl⟩
  go_wp2_with fail
  refine (lock HA.out).mono ?_
  rintro e w1 ⟨rfl, h1, k1⟩
  have H1 := Lib.hid h1; clear h1
  go_wp2_with fail
  go_loopw [4, 5, 6] (fun v1 v2 i wr => ∃ k : Nat, 1 ≤ k ∧ k ≤ A.slots + 1 ∧ i = .int .i64 k ∧ Taking w1 wr A v1 v2 k) (fun _ _ i _ => A.slots + 1 - (intOf i).toNat)
  case atStart => exact ⟨1, by omega, by omega, rfl, World.ownsRow_nil _ _ _ _, World.ownsRow_nil _ _ _ _, .inl rfl, Keep.refl _ _⟩
  case round =>
    obtain ⟨k, hk1, hk2, rfl, hT⟩ := hrel
    have HT := Lib.hid hT; clear hT
    have HR := Lib.hid (At.of0 H1.out HT.out.keep)
    have e0 : wr.cell? ⟨L.b, 0, none⟩ = some (.int .i64 A.slots) := c0 HR.out
    have e3 := c3 HR.out
    by_cases hlt : k < A.slots + 1
    · go_wp2_with fail
      refine (Atom.loadB L.bu k _ _ (cu HR.out (by omega))).mono ?_
      rintro e w2 ⟨rfl, rfl⟩
      cases hu : nth A.used k false
      · have hb : (bit false != 0) = false := rfl
        rw [hb]
        have HU := Lib.hid hu; clear hu hb
        go_wp2_with fail
        go_roundw
        case rel => exact ⟨k + 1, by omega, by omega, by go_num, HT.out.skip hk1 HU.out⟩
        case measure => simp [intOf]; omega
      · have hb : (bit true != 0) = true := rfl
        rw [hb]
        have HU := Lib.hid hu; clear hu hb
        have e11 := c11 HR.out
        have ei := ci HR.out (s := k) (by omega)
        have hl := usedTo_length A k
        have hbase := HT.out.keep.size
        have d1 := Lib.hid (one_int k)
        have d2 := Lib.hid (show (usedTo A k).length + 1 ≤ maxLen by unfold maxLen; omega)
        have d3 := Lib.hid (show ((usedTo A k).length + 1) * 8 ≤ 140737488355328 by omega)
        have f1 := Lib.hid (one_str (nth A.items k ByteArray.empty))
        have f3 := Lib.hid (show ((usedTo A k).length + 1) * 16 ≤ 140737488355328 by omega)
        go_wp2_with (first | (at_builtin; refine wpList_append_own_at _ rfl _ _ 34 rfl w1.heap.size 3 i0 (.int .i64 0) 1 8 Try.underlying34 HI.out HZ.out.1 HZ.out.2.1 HZ.out.2.2 rfl (by decide) _ _ _ rfl (HT.out.o1.alloc _) ⟨wr.heap.size, 0, none⟩ 1 1 [.int .i64 (k : Nat)] rfl rfl (cell_one_new _ _ _) d1.out d2.out d3.out (Nat.le_trans hbase (alloc_le _ _)) ?_; intro v1' w3 a1 g1 _ p1; have A1 := Lib.hid a1; have G1 := Lib.hid g1; have P1 := Lib.hid p1; clear a1 g1 p1; have O2 := Lib.hid (HT.out.other G1.out); have K3 := Lib.hid (Keep.grown (HT.out.keep.alloc _) G1.out fun b hb => (HT.out.o1.lt b hb).1); have H3 := Lib.hid (At.of0 H1.out K3.out); have e11 := c11 H3.out; have ei := ci H3.out (Nat.le_of_lt_succ hlt)) | (at_builtin; have O2 : Hid (World.ownsRow _ w1.heap.size 9 1 _ _ _) := (by assumption); have K3 : Hid (Keep [] w1 _) := (by assumption); refine wpList_append_own_at _ rfl _ _ 46 rfl w1.heap.size 9 j0 (.string ⟨#[]⟩) 1 16 Try.underlying46 HJ.out HY.out.1 HY.out.2.1 HY.out.2.2 rfl (by decide) _ _ _ rfl (O2.out.alloc _) ⟨_, 0, none⟩ 1 1 [.string (nth A.items k ByteArray.empty)] rfl rfl (cell_one_new _ _ _) f1.out d2.out f3.out (Nat.le_trans K3.out.size (alloc_le _ _)) ?_; intro v2' w4 a2 g2 _ p2; have A2 := Lib.hid a2; have G2 := Lib.hid g2; have P2 := Lib.hid p2; clear a2 g2 p2))
        go_roundw
        case rel => exact ⟨k + 1, by omega, by omega, by go_num, HT.out.push hk1 HU.out A1.out G1.out P1.out A2.out G2.out P2.out⟩
        case measure => simp [intOf]; omega
    · have hke : k = A.slots + 1 := by omega
      have HKE := Lib.hid hke; clear hke
      go_wp2_with fail
      refine leaves_cons (f := 41) (args := #[.pointer (some ⟨L.b, 6, none⟩)]) (by simp) (by simp [go_sem]) ?_
      refine (unlock HR.out .returning).mono ?_
      rintro e u' w'' ⟨rfl, rfl, h9, k9⟩
      have hT := HT.out
      rw [HKE.out] at hT
      have hlt2 : ∀ x ∈ L.blocks, x < w1.heap.size := by
        have hh := H1.out
        intro x hx
        simp only [Bk.blocks, List.mem_cons, List.not_mem_nil, or_false] at hx
        rcases hx with rfl | rfl | rfl | rfl | rfl | rfl
        · exact lt_of hh.hb
        · exact lt_of hh.hw
        · exact lt_of hh.hu
        · exact lt_of hh.hq
        · exact lt_of hh.hi
        · exact lt_of hh.ht
      exact ⟨_, results_tmp2 rfl _ _ _, _, _, rfl, owns_mono (owns_keep hT.o1 k9 hlt2) k1.size, owns_mono (owns_keep hT.o2 k9 hlt2) k1.size, h9, (k1.trans (k0 hT.keep)).trans k9⟩

theorem live_any (h : At 0 w L A) :
    Calls Try.prog 15 #[.pointer (some ⟨L.b, 0, none⟩)] w fun e w' => ∃ v, e = .returned v ∧ w'.ownsRow w.heap.size 3 1 v (live A).length (ints (live A)) ∧ At 0 w' L A ∧ Keep L.blocks w w' := by
  have HA := Lib.hid h; clear h
  go_enter Try.func15, Try.ntmps15
  go_wp2_with fail
  refine (picture HA.out).mono ?_
  rintro e w1 ⟨v1, v2, rfl, o1, o2, h1, k1⟩
  have O1 := Lib.hid o1; clear o1 o2
  have H1 := Lib.hid h1; clear h1
  go_wp2_with fail
  go_ret
  exact ⟨_, rfl, O1.out, H1.out, k1⟩
end Go.Proofs.Ytmdboahjikngeaa.As
