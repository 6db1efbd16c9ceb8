/- The arena at entries: Peek. -/
import Derived.Test.YtgagiggljlikbaaGreatCeFour
import Derived.Test.YtgagiggljlikbaaGreatCeNew
import Derived.StillTailTactics
namespace Go.Proofs.YtgagiggljlikbaaGreat.En
open Go.RowKit Go.Proofs.YtgagiggljlikbaaGreat.Mem Go.Proofs.YtgagiggljlikbaaGreat.Ar Go.MuLone
set_option linter.unusedVariables false

variable {mu : Int} {w : World} {L : Bk} {A : Arena Ent}

/-- the words of a slot -/
def slotWords {α : Type} (A : Arena α) (s : Nat) : List Int := (List.range A.width).map fun i => nth A.words (wordAt A s i) 0
def pk {α : Type} (A : Arena α) (s k : Nat) : List Int := (slotWords A s).take k ++ List.replicate (A.width - k) 0

theorem slotWords_length {α : Type} (A : Arena α) (s : Nat) : (slotWords A s).length = A.width := by simp [slotWords]
theorem pk_length {α : Type} (A : Arena α) (s k : Nat) (h : k ≤ A.width) : (pk A s k).length = A.width := by simp [pk, slotWords_length]; omega
theorem pk_set {α : Type} (A : Arena α) (s k : Nat) (h : k < A.width) : (pk A s k).set k (nth A.words (wordAt A s k) 0) = pk A s (k + 1) := by
  unfold pk
  have hl : ((slotWords A s).take k).length = k := by rw [List.length_take, slotWords_length]; omega
  rw [List.set_append_right _ _ (by omega), hl, Nat.sub_self]
  obtain ⟨n, hn⟩ : ∃ n, A.width - k = n + 1 := ⟨A.width - k - 1, by omega⟩
  rw [hn, List.replicate_succ, List.set_cons_zero, show A.width - (k + 1) = n from by omega, List.take_succ_eq_append_getElem (by rw [slotWords_length]; exact h), List.append_assoc]
  simp [slotWords]
theorem pk_done {α : Type} (A : Arena α) (s : Nat) : pk A s A.width = slotWords A s := by
  unfold pk
  rw [List.take_of_length_le (by rw [slotWords_length]; omega), Nat.sub_self]
  simp

theorem load64' (b o : Nat) (x : Int) (w : World) (hc : w.cell? ⟨b, o, none⟩ = some (.int .u64 x)) :
    Calls Tryz.prog 73 #[.pointer (some ⟨b, o, none⟩)] w fun e w' => e = .returned (.int .u64 x) ∧ w' = w :=
  (Atom.load64 b o x w hc).mono fun _ _ ⟨h1, h2⟩ => ⟨h1, h2.symm⟩

theorem infoW64 : (Tryz.prog.info? 83).map (fun i => (i.zero, i.size, i.bytes)) = some (some (.int .u64 0), 1, 8) := by kernel_rfl

theorem peek_no (h : At mu w L A) (slot : Int) (hin : inUseB A slot = false) :
    Calls Tryz.prog 74 #[.pointer (some ⟨L.b, 0, none⟩), .int .i64 slot] w fun e w' => e = .returned (.tuple #[.slice none 0 0, .int .i64 22]) ∧ w = w' := by
  have H := Lib.hid hin; clear hin
  have HA := Lib.hid h; clear h
  go_enter Tryz.func74, Tryz.ntmps74
  go_wp2_with fail
  refine (missing HA.out).mono ?_
  rintro e w' ⟨rfl, rfl⟩
  go_wp2_with fail
  refine (inUse HA.out slot).mono ?_
  rw [H.out]
  rintro e w' ⟨rfl, rfl⟩
  go_wp2_with fail
  go_ret2
  exact ⟨rfl, rfl⟩

set_option maxRecDepth 100000 in
set_option maxHeartbeats 1000000 in
theorem peek_ok (h : At mu w L A) (slot : Int) (hin : inUseB A slot = true) :
    Calls Tryz.prog 74 #[.pointer (some ⟨L.b, 0, none⟩), .int .i64 slot] w fun e w' => e = .returned (.tuple #[.slice (some ⟨w.heap.size, 0, none⟩) A.width A.width, .int .i64 0]) ∧ w'.heap[w.heap.size]? = some (.cells ((slotWords A slot.toNat).map (.int .u64)).toArray 83 (0, 0)) ∧ Keep [] w w' := by
  obtain ⟨s, rfl, hs1, hs2, _⟩ := fits_lt hin
  rw [Int.toNat_natCast]
  have hw2 := h.fits.w2
  have hs3 := h.fits.s2
  have e1 := c1 h
  have H := Lib.hid hin; clear hin
  have HA := Lib.hid h; clear h
  have k1 := make_row 122 83 _ (.int .u64 0) 8 Tryz.underlying122 infoW64 rfl A.width (by omega) (by omega)
  go_enter Tryz.func74, Tryz.ntmps74
  go_wp2_with fail
  refine (missing HA.out).mono ?_
  rintro e w' ⟨rfl, rfl⟩
  go_wp2_with fail
  refine (inUse HA.out s).mono ?_
  rw [H.out]
  rintro e w' ⟨rfl, rfl⟩
  go_wp2_with fail
  clear k1
  go_loopw [21] (fun i wr => ∃ k : Nat, k ≤ A.width ∧ i = .int .i64 k ∧ wr.heap[w.heap.size]? = some (.cells ((pk A s k).map (.int .u64)).toArray 83 (0, 0)) ∧ Keep [] w wr) (fun i _ => A.width - (intOf i).toNat)
  case atStart =>
    refine ⟨0, Nat.zero_le _, rfl, ?_, (Keep.refl _ _).alloc _⟩
    rw [replicate_made (.int .u64 0) _ (0 : Int) (.int .u64) rfl, show pk A s 0 = List.replicate A.width 0 from by simp [pk]]
    exact alloc_new _ _
  case round =>
    obtain ⟨k, hk, rfl, hb, hK⟩ := hrel
    have HB := Lib.hid hb; clear hb
    have KR := Lib.hid hK; clear hK
    have HR := Lib.hid (At.of0 HA.out KR.out)
    clear e1
    by_cases hlt : k < A.width
    · have hz := size_le HR.out.fits
      have hwl := wordAt_lt HR.out.fits hs1 hs2 (c := k) hlt
      obtain ⟨hi, hi0, hi1⟩ := wordAt_int HR.out.fits hs1 hs2 (c := k) hlt
      have r1 : IntKind.i64.wrap ((s : Int) - 1) = (s : Int) - 1 := IntWalk.i64_in _ (by omega)
      have r2 : IntKind.i64.wrap (((s : Int) - 1) * (A.width : Int)) = ((s : Int) - 1) * (A.width : Int) := IntWalk.i64_in _ (by omega)
      have r3 : IntKind.i64.wrap (((s : Int) - 1) * (A.width : Int) + (k : Int)) = ((wordAt A s k : Nat) : Int) := by rw [hi]; exact IntWalk.i64_in _ (by omega)
      have r4 : ((wordAt A s k : Nat) : Int) < (A.slots : Int) * (A.width : Int) := by rw [← Int.natCast_mul]; omega
      clear hi hi0 hi1
      have HWL := Lib.hid hwl; clear hwl hz
      obtain ⟨w7, hw7⟩ : ∃ w7, w7 = wr.drew := ⟨_, rfl⟩
      have H7 := Lib.hid (HR.out.drew)
      have K7 := Lib.hid (KR.out.drew)
      have B7 := Lib.hid (show wr.drew.heap[w.heap.size]? = _ from HB.out)
      rw [← hw7] at H7 K7 B7
      have e0 : w7.cell? ⟨L.b, 1, none⟩ = some (.int .i64 A.width) := (c1 H7.out :)
      have e2 : w7.cell? ⟨L.b, 2, none⟩ = some (.slice (some ⟨L.bw, 0, none⟩) (A.slots * A.width) (A.slots * A.width)) := (c2 H7.out :)
      go_wp2_with fail
      refine wp_region_still_tail 18 (by kernel_rfl) (by kernel_rfl) ?_
      have hw7' : { heap := wr.heap, tape := wr.tape, drawn := wr.drawn + 1, os := wr.os, output := wr.output : World } = w7 := hw7.symm
      rw [hw7']
      clear hw7 hw7'
      simp only [List.take_succ_cons, List.take_zero, List.drop_succ_cons, List.drop_zero]
      repeat still_step
      still_call (load64' L.bw (wordAt A s k) _ _ (cw H7.out HWL.out))
      repeat still_step
      refine wpStill_nil ?_
      clear r1 r2 r3 r4
      have eb : w7.cell? ⟨w.heap.size, k, none⟩ = some (.int .u64 ((pk A s k)[k]'(by rw [pk_length A s k hk]; exact hlt))) := list_cell B7.out (by rw [pk_length A s k hk]; exact hlt)
      have ef := free_of B7.out k
      go_wp2_with fail
      go_roundw
      case rel =>
        refine ⟨k + 1, hlt, by go_num, ?_, K7.out.set (.inr (Nat.le_refl _)) _ _⟩
        rw [list_set (g := Value.int .u64) B7.out k (nth A.words (wordAt A s k) 0), pk_set A s k hlt]
      case measure => simp [intOf]; omega
    · have hke : k = A.width := by omega
      have HKE := Lib.hid hke; clear hke
      go_wp2_with fail
      go_ret2
      refine ⟨rfl, ?_, KR.out⟩
      have := HB.out
      rw [HKE.out, pk_done] at this
      exact this
end Go.Proofs.YtgagiggljlikbaaGreat.En
