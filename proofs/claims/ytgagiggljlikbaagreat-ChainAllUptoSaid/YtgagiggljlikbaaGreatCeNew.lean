/- The arena at entries: New. -/
import Derived.Test.YtgagiggljlikbaaGreatCeOne
namespace Go.Proofs.YtgagiggljlikbaaGreat.En
open Go.RowKit Go.Proofs.YtgagiggljlikbaaGreat.Mem Go.Proofs.YtgagiggljlikbaaGreat.Ar
set_option linter.unusedVariables false

variable {w : World}

theorem infoW : (Tryz.prog.info? 117).map (fun i => (i.zero, i.size, i.bytes)) = some (some (.agg #[.int .u64 0]), 1, 8) := by kernel_rfl
theorem infoU : (Tryz.prog.info? 125).map (fun i => (i.zero, i.size, i.bytes)) = some (some (.agg #[.int .u32 0]), 1, 4) := by kernel_rfl
theorem infoI : (Tryz.prog.info? 3).map (fun i => (i.zero, i.size, i.bytes)) = some (some (.int .i64 0), 1, 8) := by kernel_rfl
theorem infoP : (Tryz.prog.info? 55).map (fun i => (i.zero, i.size, i.bytes)) = some (some (.agg #[.string ⟨#[]⟩, .string ⟨#[]⟩, .int .i64 0]), 3, 40) := by kernel_rfl

theorem make_row (t e : TypeId) (z zc : Value) (bytes : Nat) (ht : Tryz.prog.underlying t = some (.slice e)) (hinfo : (Tryz.prog.info? e).map (fun i => (i.zero, i.size, i.bytes)) = some (some z, 1, bytes)) (hzc : z.cells = #[zc])
    (n : Nat) (hbytes : bytes * n ≤ 281474976710656) (h63 : n ≤ 9223372036854775807) (w : World) :
    (Instr.makeSlice t (.int .i64 (n : Int)) (.int .i64 (n : Int))).run Tryz.prog w = .ok (.slice (some ⟨w.heap.size, 0, none⟩) n n) (w.alloc (.cells (madeCells #[zc] n) e)) := by
  obtain ⟨i, hi, hzz⟩ := Option.map_eq_some_iff.1 hinfo
  simp only [Prod.mk.injEq] at hzz
  obtain ⟨hz, hs, hb⟩ := hzz
  have h := run_make (P := Tryz.prog) w t e i z ht hi hz .i64 .i64 (n : Int) (n : Int) (by omega) (Int.le_refl _) (by rw [hb]; omega) (by omega)
  rw [hs, hzc, Nat.mul_one, Int.toNat_natCast] at h
  exact h

/-- a row of entries -/
def blankE : Array Value := #[.string ⟨#[]⟩, .string ⟨#[]⟩, .int .i64 0]
theorem make_rowE (n : Nat) (hn : n ≤ 100000) (w : World) :
    (Instr.makeSlice 111 (.int .i64 (n : Int)) (.int .i64 (n : Int))).run Tryz.prog w = .ok (.slice (some ⟨w.heap.size, 0, none⟩) n n) (w.alloc (.cells (madeCells #[.string ⟨#[]⟩, .string ⟨#[]⟩, .int .i64 0] (n * 3)) 55)) := by
  obtain ⟨i, hi, hzz⟩ := Option.map_eq_some_iff.1 infoP
  simp only [Prod.mk.injEq] at hzz
  obtain ⟨hz, hs, hb⟩ := hzz
  have h := run_make (P := Tryz.prog) w 111 55 i _ Tryz.underlying111 hi hz .i64 .i64 (n : Int) (n : Int) (by omega) (Int.le_refl _) (by rw [hb]; omega) (by omega)
  rw [hs, Int.toNat_natCast] at h
  exact h
theorem made_flat (n : Nat) : madeCells #[.string ⟨#[]⟩, .string ⟨#[]⟩, .int .i64 0] (n * 3) = ((List.replicate n (Lies.zero : Ent)).flatMap Lies.cells).toArray := by
  apply Array.toList_inj.1
  unfold madeCells
  rw [Array.toList_map, Array.toList_range]
  induction n with
  | zero => rfl
  | succ n ih =>
    rw [show (n + 1) * 3 = 3 + n * 3 by omega, List.range_add, List.map_append, List.map_map, List.replicate_succ, List.flatMap_cons]
    have e : (List.map ((fun x => (#[Value.string ⟨#[]⟩, Value.string ⟨#[]⟩, Value.int .i64 0] : Array Value)[x % (#[Value.string ⟨#[]⟩, Value.string ⟨#[]⟩, Value.int .i64 0] : Array Value).size]!) ∘ fun x => 3 + x) (List.range (n * 3))) = List.map (fun x => (#[Value.string ⟨#[]⟩, Value.string ⟨#[]⟩, Value.int .i64 0] : Array Value)[x % (#[Value.string ⟨#[]⟩, Value.string ⟨#[]⟩, Value.int .i64 0] : Array Value).size]!) (List.range (n * 3)) := by
      refine List.map_congr_left fun x _ => ?_
      show (#[Value.string ⟨#[]⟩, Value.string ⟨#[]⟩, Value.int .i64 0] : Array Value)[(3 + x) % 3]! = (#[Value.string ⟨#[]⟩, Value.string ⟨#[]⟩, Value.int .i64 0] : Array Value)[x % 3]!
      rw [Nat.add_mod_left]
    rw [e, ih]
    rfl

theorem made_list (z : Value) (n : Nat) : madeCells #[z] n = (List.replicate n z).toArray := by
  rw [← toList_madeCells_one, Array.toArray_toList]

theorem new_bad (slots width : Int) (hs : ¬ (1 ≤ slots ∧ slots ≤ 4096 ∧ 1 ≤ width ∧ width ≤ 16)) :
    Calls Tryz.prog 27 #[.int .i64 slots, .int .i64 width] w fun e w' => e = .returned (.tuple #[.pointer none, .int .i64 20]) ∧ w = w' := by
  by_cases h1 : slots < 1
  · clear hs
    go_enter Tryz.func27, Tryz.ntmps27
    go_wp2
    go_ret2
    exact ⟨rfl, rfl⟩
  · by_cases h2 : 4096 < slots
    · clear hs
      go_enter Tryz.func27, Tryz.ntmps27
      go_wp2
      go_ret2
      exact ⟨rfl, rfl⟩
    · by_cases h3 : width < 1
      · clear hs
        go_enter Tryz.func27, Tryz.ntmps27
        go_wp2
        go_ret2
        exact ⟨rfl, rfl⟩
      · have h4 : 16 < width := by omega
        clear hs
        go_enter Tryz.func27, Tryz.ntmps27
        go_wp2
        go_ret2
        exact ⟨rfl, rfl⟩

/-- a new arena -/
def fresh (α : Type) [Lies α] (slots width : Nat) : Arena α :=
  { slots, width, words := List.replicate (slots * width) 0, used := List.replicate (slots + 1) false, acc := 0, miss := 0, queue := List.range' 1 slots, front := 0, free := slots
    items := List.replicate (slots + 1) Lies.zero, turns := List.replicate (slots + 1) 0 }

theorem fresh_fits (α : Type) [Lies α] (slots width : Nat) (h1 : 1 ≤ slots) (h2 : slots ≤ 4096) (h3 : 1 ≤ width) (h4 : width ≤ 16) : Fits (fresh α slots width) where
  s1 := h1
  s2 := h2
  w1 := h3
  w2 := h4
  words := by simp [fresh]
  used := by simp [fresh]
  queue := by simp [fresh]
  items := by simp [fresh]
  turns := by simp [fresh]
  front := by simp [fresh]; omega
  free := by simp [fresh]
  queued := by
    intro x hx
    simp only [fresh, List.mem_range'_1] at hx
    simp only [fresh]
    omega

/-- the header while the queue is filled -/
def hd (N slots width : Nat) : Array Value :=
  #[.int .i64 slots, .int .i64 width, .slice (some ⟨N + 1, 0, none⟩) (slots * width) (slots * width), .slice (some ⟨N + 1 + 1, 0, none⟩) (slots + 1) (slots + 1), .int .i64 0, .int .i64 0, .int .i32 0, .int .u32 0,
    .slice (some ⟨N + 1 + 1 + 1, 0, none⟩) slots slots, .int .i64 0, .int .i64 slots, .slice none 0 0, .slice none 0 0]
/-- the queue with k places filled -/
def qd (slots k : Nat) : List Nat := List.range' 1 k ++ List.replicate (slots - k) 0
theorem qd_length {slots k : Nat} (h : k ≤ slots) : (qd slots k).length = slots := by simp [qd]; omega
theorem qd_set {slots k : Nat} (h : k < slots) : (qd slots k).set k (k + 1) = qd slots (k + 1) := by
  unfold qd
  rw [List.set_append_right _ _ (by simp), List.length_range', Nat.sub_self]
  obtain ⟨n, hn⟩ : ∃ n, slots - k = n + 1 := ⟨slots - k - 1, by omega⟩
  rw [hn, List.replicate_succ, List.set_cons_zero, show slots - (k + 1) = n from by omega, List.range'_1_concat, List.append_assoc]
  simp [Nat.add_comm]

/-- what stands while the queue is filled -/
structure Filling (w wr : World) (slots width k : Nat) : Prop where
  size : wr.heap.size = w.heap.size + 1 + 1 + 1 + 1
  keep : Keep [] w wr
  h0 : wr.heap[w.heap.size]? = some (.cells (hd w.heap.size slots width) 113 (0, 0))
  h1 : wr.heap[w.heap.size + 1]? = some (.cells ((List.replicate (slots * width) (0 : Int)).map (.int .u64)).toArray 117 (0, 0))
  h2 : wr.heap[w.heap.size + 1 + 1]? = some (.cells ((List.replicate (slots + 1) false).map fun x => .int .u32 (bit x)).toArray 125 (0, 0))
  h3 : wr.heap[w.heap.size + 1 + 1 + 1]? = some (.cells ((qd slots k).map fun x : Nat => .int .i64 x).toArray 3 (0, 0))

theorem Filling.set {w wr : World} {slots width k : Nat} (h : Filling w wr slots width k) (hk : k < slots) : Filling w (wr.setCell ⟨w.heap.size + 1 + 1 + 1, k, none⟩ (.int .i64 ((k : Int) + 1))) slots width (k + 1) := by
  have e : (Value.int .i64 ((k : Int) + 1)) = .int .i64 ((k + 1 : Nat) : Int) := by rw [Int.natCast_add]; rfl
  refine ⟨by simp [h.size], h.keep.set (.inr (by omega)) _ _, (set_other (by omega) _ _).trans h.h0, (set_other (by omega) _ _).trans h.h1, (set_other (by omega) _ _).trans h.h2, ?_⟩
  rw [e, list_set (g := fun x : Nat => .int .i64 x) h.h3 k (k + 1), qd_set hk]

theorem replicate_made (z : Value) (n : Nat) {α : Type} (x : α) (g : α → Value) (hg : g x = z) : madeCells #[z] n = ((List.replicate n x).map g).toArray := by
  rw [made_list, List.map_replicate, hg]

/-- where the new arena lies -/
def newBk (N : Nat) : Bk := ⟨N, N + 1, N + 1 + 1, N + 1 + 1 + 1, N + 1 + 1 + 1 + 1, N + 1 + 1 + 1 + 1 + 1⟩

theorem Filling.done {w wr : World} {slots width : Nat} (h : Filling w wr slots width slots) (h1 : 1 ≤ slots) (h2 : slots ≤ 4096) (h3 : 1 ≤ width) (h4 : width ≤ 16) {w' : World}
    (hw : w' = ((((wr.setCell ⟨w.heap.size, 11, none⟩ (.slice (some ⟨w.heap.size + 1 + 1 + 1 + 1, 0, none⟩) (slots + 1) (slots + 1))).setCell ⟨w.heap.size, 12, none⟩ (.slice (some ⟨w.heap.size + 1 + 1 + 1 + 1 + 1, 0, none⟩) (slots + 1) (slots + 1))).alloc
      (.cells (madeCells #[.string ⟨#[]⟩, .string ⟨#[]⟩, .int .i64 0] ((slots + 1) * 3)) 55)).alloc (.cells (madeCells #[.int .i64 0] (slots + 1)) 3))) :
    At 0 w' (newBk w.heap.size) (fresh Ent slots width) ∧ Keep [] w w' := by
  have hs := h.size
  have hq : qd slots slots = List.range' 1 slots := by simp [qd]
  rw [made_flat, replicate_made (.int .i64 0) _ (0 : Int) (.int .i64) rfl] at hw
  subst hw
  refine ⟨⟨fresh_fits _ slots width h1 h2 h3 h4, ?_, ?_, ?_, ?_, ?_, ?_, ?_⟩, ((((h.keep.set (.inr (Nat.le_refl _)) _ _).set (.inr (Nat.le_refl _)) _ _).alloc _).alloc _)⟩
  · simp only [newBk, Bk.blocks, List.nodup_cons, List.mem_cons, List.not_mem_nil, or_false, not_or, List.nodup_nil, not_false_eq_true, and_true]
    omega
  · exact alloc_some _ (alloc_some _ ((set_same (set_same h.h0 11 _) 12 _)))
  · exact alloc_some _ (alloc_some _ ((set_other (by show w.heap.size + 1 ≠ _; omega) _ _).trans ((set_other (by show w.heap.size + 1 ≠ _; omega) _ _).trans h.h1)))
  · exact alloc_some _ (alloc_some _ ((set_other (by show w.heap.size + 1 + 1 ≠ _; omega) _ _).trans ((set_other (by show w.heap.size + 1 + 1 ≠ _; omega) _ _).trans h.h2)))
  · refine alloc_some _ (alloc_some _ ((set_other (by show w.heap.size + 1 + 1 + 1 ≠ _; omega) _ _).trans ((set_other (by show w.heap.size + 1 + 1 + 1 ≠ _; omega) _ _).trans ?_)))
    rw [show (newBk w.heap.size).bq = w.heap.size + 1 + 1 + 1 from rfl, h.h3, hq]
    rfl
  · refine alloc_some _ ?_
    have q := alloc_new ((wr.setCell ⟨w.heap.size, 11, none⟩ (.slice (some ⟨w.heap.size + 1 + 1 + 1 + 1, 0, none⟩) (slots + 1) (slots + 1))).setCell ⟨w.heap.size, 12, none⟩ (.slice (some ⟨w.heap.size + 1 + 1 + 1 + 1 + 1, 0, none⟩) (slots + 1) (slots + 1))) (.cells ((List.replicate (slots + 1) (Lies.zero : Ent)).flatMap Lies.cells).toArray 55)
    simp only [size_set, hs] at q
    exact q
  · have q := alloc_new (((wr.setCell ⟨w.heap.size, 11, none⟩ (.slice (some ⟨w.heap.size + 1 + 1 + 1 + 1, 0, none⟩) (slots + 1) (slots + 1))).setCell ⟨w.heap.size, 12, none⟩ (.slice (some ⟨w.heap.size + 1 + 1 + 1 + 1 + 1, 0, none⟩) (slots + 1) (slots + 1))).alloc (.cells ((List.replicate (slots + 1) (Lies.zero : Ent)).flatMap Lies.cells).toArray 55)) (.cells ((List.replicate (slots + 1) (0 : Int)).map (.int .i64)).toArray 3)
    simp only [size_set, hs, World.size_alloc] at q
    exact q

set_option maxRecDepth 100000 in
set_option maxHeartbeats 1000000 in
theorem new_ok (slots width : Nat) (h1 : 1 ≤ slots) (h2 : slots ≤ 4096) (h3 : 1 ≤ width) (h4 : width ≤ 16) :
    Calls Tryz.prog 27 #[.int .i64 slots, .int .i64 width] w fun e w' => ∃ L : Bk, e = .returned (.tuple #[.pointer (some ⟨L.b, 0, none⟩), .int .i64 0]) ∧ (∀ x ∈ L.blocks, w.heap.size ≤ x) ∧ At 0 w' L (fresh Ent slots width) ∧ Keep [] w w' := by
  have hsz : slots * width ≤ 65536 := by have := Nat.mul_le_mul h2 h4; omega
  have m0 : 0 ≤ (slots : Int) * (width : Int) ∧ (slots : Int) * (width : Int) ≤ 65536 := by rw [← Int.natCast_mul]; omega
  obtain ⟨m1, m2⟩ := m0
  have k1 := make_row 103 117 _ (.int .u64 0) 8 Tryz.underlying103 infoW rfl (slots * width) (by omega) (by omega)
  have k2 := make_row 104 125 _ (.int .u32 0) 4 Tryz.underlying104 infoU rfl (slots + 1) (by omega) (by omega)
  have k3 := make_row 31 3 _ (.int .i64 0) 8 Tryz.underlying31 infoI rfl slots (by omega) (by omega)
  have k4 := make_row 31 3 _ (.int .i64 0) 8 Tryz.underlying31 infoI rfl (slots + 1) (by omega) (by omega)
  have k5 := make_rowE (slots + 1) (by omega)
  have e1 : ((slots + 1 : Nat) : Int) = (slots : Int) + 1 := by omega
  rw [e1] at k2 k4 k5
  clear e1
  rw [Int.natCast_mul] at k1
  go_enter Tryz.func27, Tryz.ntmps27
  go_wp2_with fail
  have hstart : Filling w ((((w.alloc (.cells (hd w.heap.size slots width) 113)).alloc (.cells (madeCells #[.int .u64 0] (slots * width)) 117)).alloc (.cells (madeCells #[.int .u32 0] (slots + 1)) 125)).alloc (.cells (madeCells #[.int .i64 0] slots) 3)) slots width 0 := by
    rw [replicate_made (.int .u64 0) _ (0 : Int) (.int .u64) rfl, replicate_made (.int .u32 0) _ false (fun x => .int .u32 (bit x)) rfl, replicate_made (.int .i64 0) _ (0 : Nat) (fun x : Nat => .int .i64 x) rfl]
    refine ⟨by simp, (((((Keep.refl _ _).alloc _).alloc _).alloc _).alloc _), ?_, ?_, ?_, ?_⟩
    · exact alloc_some _ (alloc_some _ (alloc_some _ (alloc_new _ _)))
    · refine alloc_some _ (alloc_some _ ?_)
      have := alloc_new (w.alloc (.cells (hd w.heap.size slots width) 113)) (.cells ((List.replicate (slots * width) (0 : Int)).map (.int .u64)).toArray 117)
      simpa using this
    · refine alloc_some _ ?_
      have := alloc_new ((w.alloc (.cells (hd w.heap.size slots width) 113)).alloc (.cells ((List.replicate (slots * width) (0 : Int)).map (.int .u64)).toArray 117)) (.cells ((List.replicate (slots + 1) false).map fun x => .int .u32 (bit x)).toArray 125)
      simpa using this
    · have := alloc_new (((w.alloc (.cells (hd w.heap.size slots width) 113)).alloc (.cells ((List.replicate (slots * width) (0 : Int)).map (.int .u64)).toArray 117)).alloc (.cells ((List.replicate (slots + 1) false).map fun x => .int .u32 (bit x)).toArray 125)) (.cells ((List.replicate slots 0).map fun x : Nat => .int .i64 x).toArray 3)
      simpa [qd] using this
  have HS := Lib.hid hstart; clear hstart
  clear k1 k2 k3
  go_loopw [46] (fun i wr => ∃ k : Nat, k ≤ slots ∧ i = .int .i64 k ∧ Filling w wr slots width k) (fun i _ => slots - (intOf i).toNat)
  case atStart => exact ⟨0, Nat.zero_le _, rfl, HS.out⟩
  case round =>
    obtain ⟨k, hk, rfl, hF⟩ := hrel
    clear HS
    have HF := Lib.hid hF; clear hF
    by_cases hlt : k < slots
    · have e8 : wr.cell? ⟨w.heap.size, 8, none⟩ = some (.slice (some ⟨w.heap.size + 1 + 1 + 1, 0, none⟩) slots slots) := by rw [cell_of HF.out.h0]; rfl
      have eq : wr.cell? ⟨w.heap.size + 1 + 1 + 1, k, none⟩ = some (.int .i64 (((qd slots k)[k]'(by rw [qd_length hk]; exact hlt) : Nat) : Int)) := list_cell HF.out.h3 (by rw [qd_length hk]; exact hlt)
      have ef := free_of HF.out.h3 k
      clear k4 k5
      go_wp2_with fail
      go_roundw
      case rel => exact ⟨k + 1, hlt, by go_num, HF.out.set hlt⟩
      case measure => simp [intOf]; omega
    · have hke : k = slots := by omega
      have HKE := Lib.hid hke; clear hke
      have es := HF.out.size
      have f0 := free_of HF.out.h0
      have e11 : wr.cell? ⟨w.heap.size, 11, none⟩ = some (.slice none 0 0) := by rw [cell_of HF.out.h0]; rfl
      have e12 : wr.cell? ⟨w.heap.size, 12, none⟩ = some (.slice none 0 0) := by rw [cell_of HF.out.h0]; rfl
      go_wp2_with fail
      go_ret2
      have hF := HF.out
      rw [HKE.out] at hF
      obtain ⟨hA, hK⟩ := hF.done h1 h2 h3 h4 rfl
      refine ⟨newBk w.heap.size, rfl, ?_, hA, hK⟩
      intro x hx
      simp only [newBk, Bk.blocks, List.mem_cons, List.not_mem_nil, or_false] at hx
      omega
end Go.Proofs.YtgagiggljlikbaaGreat.En
