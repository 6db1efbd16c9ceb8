/- The arena's small methods at entries: missing, inUse, holds, Shape, Payload. -/
import Derived.Test.YtgagiggljlikbaaGreatAr
import Derived.Test.YtgagiggljlikbaaGreatAtom
import Derived.Test.YtgagiggljlikbaaGreatLocks
import Derived.Conc.MuLone
import Derived.Lib.Hide
import Derived.Outline
import Derived.BigQuiet
namespace Go.Proofs.YtgagiggljlikbaaGreat.En
open Go.RowKit Go.Proofs.YtgagiggljlikbaaGreat.Mem Go.Proofs.YtgagiggljlikbaaGreat.Ar Go.MuLone

/-- api.Entry -/
structure Ent where
  name : ByteArray
  data : ByteArray
  tall : Int
def Ent.empty : Ent := ⟨⟨#[]⟩, ⟨#[]⟩, 0⟩
def Ent.cells (e : Ent) : List Value := [.string e.name, .string e.data, .int .i64 e.tall]
instance : Lies Ent := ⟨3, Ent.cells, fun _ => rfl, Ent.empty⟩

abbrev At (mu : Int) (w : World) (L : Bk) (A : Arena Ent) : Prop :=
  Ar.At 113 117 125 3 55 mu w L A

theorem missing_nil (w : World) :
    Calls Tryz.prog 55 #[.pointer none] w fun e w' => e = .returned (.bool true) ∧ w = w' := by
  go_enter Tryz.func55, Tryz.ntmps55
  go_wp2
  go_ret
  exact ⟨rfl, rfl⟩

theorem missing_at (b : Nat) (n : Nat) (w : World) (h0 : w.cell? ⟨b, 0, none⟩ = some (.int .i64 n)) (hn : ((n : Int) == 0) = false) :
    Calls Tryz.prog 55 #[.pointer (some ⟨b, 0, none⟩)] w fun e w' => e = .returned (.bool false) ∧ w = w' := by
  go_enter Tryz.func55, Tryz.ntmps55
  go_wp2
  go_ret
  exact ⟨rfl, rfl⟩

variable {mu : Int} {w : World} {L : Bk} {A : Arena Ent}

theorem c0 (h : At mu w L A) : w.cell? ⟨L.b, 0, none⟩ = some (.int .i64 A.slots) := by rw [cell_of h.hb]; rfl
theorem c1 (h : At mu w L A) : w.cell? ⟨L.b, 1, none⟩ = some (.int .i64 A.width) := by rw [cell_of h.hb]; rfl
theorem c2 (h : At mu w L A) : w.cell? ⟨L.b, 2, none⟩ = some (.slice (some ⟨L.bw, 0, none⟩) (A.slots * A.width) (A.slots * A.width)) := by rw [cell_of h.hb]; rfl
theorem c3 (h : At mu w L A) : w.cell? ⟨L.b, 3, none⟩ = some (.slice (some ⟨L.bu, 0, none⟩) (A.slots + 1) (A.slots + 1)) := by rw [cell_of h.hb]; rfl
theorem c4 (h : At mu w L A) : w.cell? ⟨L.b, 4, none⟩ = some (.int .i64 A.acc) := by rw [cell_of h.hb]; rfl
theorem c5 (h : At mu w L A) : w.cell? ⟨L.b, 5, none⟩ = some (.int .i64 A.miss) := by rw [cell_of h.hb]; rfl
theorem c6 (h : At mu w L A) : w.cell? ⟨L.b, 6, none⟩ = some (.int .i32 mu) := by rw [cell_of h.hb]; rfl
theorem c8 (h : At mu w L A) : w.cell? ⟨L.b, 8, none⟩ = some (.slice (some ⟨L.bq, 0, none⟩) A.slots A.slots) := by rw [cell_of h.hb]; rfl
theorem c9 (h : At mu w L A) : w.cell? ⟨L.b, 9, none⟩ = some (.int .i64 A.front) := by rw [cell_of h.hb]; rfl
theorem c10 (h : At mu w L A) : w.cell? ⟨L.b, 10, none⟩ = some (.int .i64 A.free) := by rw [cell_of h.hb]; rfl
theorem c11 (h : At mu w L A) : w.cell? ⟨L.b, 11, none⟩ = some (.slice (some ⟨L.bi, 0, none⟩) (A.slots + 1) (A.slots + 1)) := by rw [cell_of h.hb]; rfl
theorem c12 (h : At mu w L A) : w.cell? ⟨L.b, 12, none⟩ = some (.slice (some ⟨L.bt, 0, none⟩) (A.slots + 1) (A.slots + 1)) := by rw [cell_of h.hb]; rfl
theorem fz (h : At mu w L A) (o : Nat) : w.frozen? ⟨L.b, o, none⟩ = false := free_of h.hb o
theorem cu (h : At mu w L A) {s : Nat} (hs : s ≤ A.slots) : w.cell? ⟨L.bu, s, none⟩ = some (.int .u32 (bit (nth A.used s false))) := by
  rw [list_cell h.hu (by have := h.fits.used; omega)]
  simp [nth, List.getD_eq_getElem?_getD, show s < A.used.length by have := h.fits.used; omega]

theorem slots_pos (h : At mu w L A) : ((A.slots : Int) == 0) = false := by have := h.fits.s1; simp; omega

theorem missing (h : At mu w L A) :
    Calls Tryz.prog 55 #[.pointer (some ⟨L.b, 0, none⟩)] w fun e w' => e = .returned (.bool false) ∧ w = w' :=
  missing_at L.b A.slots w (c0 h) (slots_pos h)

/-- is the slot in use? -/
def inUseB {α : Type} (A : Arena α) (slot : Int) : Bool := decide (1 ≤ slot) && decide (slot ≤ A.slots) && nth A.used slot.toNat false

theorem inUse (h : At mu w L A) (slot : Int) :
    Calls Tryz.prog 103 #[.pointer (some ⟨L.b, 0, none⟩), .int .i64 slot] w fun e w' => e = .returned (.bool (inUseB A slot)) ∧ w = w' := by
  have e0 := c0 h
  by_cases h1 : 1 ≤ slot
  · by_cases h2 : slot ≤ A.slots
    · obtain ⟨s, rfl⟩ : ∃ s : Nat, slot = s := ⟨slot.toNat, by omega⟩
      have e3 := c3 h
      have hs : s ≤ A.slots := by omega
      have hcu := cu h hs
      have hf : inUseB A s = nth A.used s false := by simp only [inUseB, decide_eq_true h1, decide_eq_true h2, Int.toNat_natCast, Bool.true_and]
      have hbit : (bit (nth A.used s false) != 0) = nth A.used s false := by generalize nth A.used s false = x; cases x <;> rfl
      have H := Lib.hid hf; clear hf
      have H2 := Lib.hid hbit; clear hbit
      have H3 := Lib.hid h; clear h
      go_enter Tryz.func103, Tryz.ntmps103
      go_wp2_with (go_at_call 138; refine (Atom.loadB L.bu s _ _ hcu).mono ?_; rintro e w' ⟨rfl, rfl⟩)
      go_ret
      exact ⟨by rw [H.out]; exact congrArg (fun b => Ending.returned (.bool b)) H2.out, rfl⟩
    · have hf : inUseB A slot = false := by simp [inUseB, h2]
      rw [hf]
      clear h hf
      go_enter Tryz.func103, Tryz.ntmps103
      go_wp2
      go_ret
      exact ⟨rfl, rfl⟩
  · have hf : inUseB A slot = false := by simp [inUseB, h1]
    rw [hf]
    clear h hf
    go_enter Tryz.func103, Tryz.ntmps103
    go_wp2
    go_ret
    exact ⟨rfl, rfl⟩
end Go.Proofs.YtgagiggljlikbaaGreat.En
