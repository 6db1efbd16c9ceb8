/- Picks that came in: how an argument of the type []api.Pick is read; and samePicks over any two lists that can be read. -/
import Derived.Test.YtdkdeiofjoccnaaRows
import Derived.Test.YtdkdeiofjoccnaaBoth
import Derived.ProofKit
import Derived.OpenShut
import Derived.ShutString
import Derived.ChangeOld
import Derived.Below
import Derived.JoinedCond
import Derived.Deep.Slices
import Derived.Deep.Strs
namespace Go.Proofs.Ytdkdeiofjoccnaa.Pick
open Go.RowKit Go.Proofs.Ytdkdeiofjoccnaa.Mem Go.ChangeShapes Go.WideShapes Go.ChangeAt
open Go.Deep
set_option linter.unusedVariables false

section
variable {H : Type} {enc0 : TypeId × Value → H} {W : World} {base : Nat} {spare : Nat → Bool} {held : Bool}

theorem cellsI : Try.prog.cellsOf 3 = 1 := by kernel_rfl
theorem cellsP : Try.prog.cellsOf 29 = 3 := by kernel_rfl

set_option maxRecDepth 100000 in
theorem pick_open {n : Nat} {cs : List Value} {x : DataW H × List MemPlace} (h : DataW.trod enc0 Try.prog W base spare held n 29 cs = some x) : ∃ a b c, cs = [.int .i64 a, .int .i64 b, .int .i64 c] := by
  obtain ⟨y0, y1, y2, m, _, hl, h0, h1, h2⟩ := trod_struct3 Try.underlying29 h
  have hl3 : cs.length = 3 := hl.trans cellsP
  match cs, hl3 with
  | [c0, c1, c2], _ =>
    obtain ⟨a, ea, _⟩ := DataW.trod_int Try.underlying3 (by simpa [cellsI] using h0 : DataW.trod enc0 Try.prog W base spare held m 3 [c0] = some y0)
    obtain ⟨b, eb, _⟩ := DataW.trod_int Try.underlying3 (by simpa [cellsI] using h1 : DataW.trod enc0 Try.prog W base spare held m 3 [c1] = some y1)
    obtain ⟨c, ec, _⟩ := DataW.trod_int Try.underlying3 (by simpa [cellsI] using h2 : DataW.trod enc0 Try.prog W base spare held m 3 [c2] = some y2)
    exact ⟨a, b, c, by rw [List.cons.inj ea |>.1, List.cons.inj eb |>.1, List.cons.inj ec |>.1]⟩

theorem bulk_pos (d : DataW H) : 1 ≤ Rows.uptoBulk d := by
  cases d with
  | lit x => cases x <;> simp [Rows.uptoBulk]
  | _ => simp [Rows.uptoBulk]
theorem bulk_all : ∀ l : List (DataW H), l.length ≤ Rows.uptoBulkAll l
  | [] => by simp
  | d :: r => by
    have h1 := bulk_all r
    have h2 := bulk_pos d
    simp only [Rows.uptoBulkAll, List.length_cons]
    omega

instance : Inhabited Pk := ⟨⟨0, 0, 0⟩⟩

set_option maxRecDepth 100000 in
theorem came {a : Option Addr} {len cap : Nat} {d : DataW H} {p : List MemPlace} (h : DataW.Trod enc0 Try.prog W base spare held 23 (.slice a len cap) d p) : ∃ l : List Pk, l.length = len ∧ Has W a l ∧ len ≤ Rows.uptoBulk d ∧ (len = 0 ∨ ∃ m, len ≤ m ∧ m * Try.prog.bytesOf 29 ∈ d.weights Try.prog 23) := by
  obtain ⟨fuel, hf⟩ := h
  rcases open_slice Try.underlying23 hf with ⟨hcs, hx⟩ | ⟨x, l, c, m, n, D, Pl, hcs, _, hl, hm, hmm, hx, hcell⟩
  · simp [Value.cells] at hcs
    obtain ⟨rfl, rfl, rfl⟩ := hcs
    exact ⟨[], rfl, ⟨fun i hi => by simp at hi⟩, Nat.zero_le _, .inl rfl⟩
  · simp [Value.cells] at hcs
    obtain ⟨rfl, rfl, rfl⟩ := hcs
    have hlm : len ≤ m := by rw [hmm]; split <;> omega
    have hd : d = .slice ((List.range len).map D) ((List.range (m - len)).map fun j => D (len + j)) := congrArg Prod.fst hx
    have hbulk : len ≤ Rows.uptoBulk d := by
      rw [hd]
      have := bulk_all ((List.range len).map D)
      simp only [List.length_map, List.length_range] at this
      simp only [Rows.uptoBulk]
      omega
    have key : ∀ i, i < len → ∃ q : Pk, W.cell? (x.add (i * 3)) = some (.int .i64 q.k) ∧ W.cell? ((x.add (i * 3)).add 1) = some (.int .i64 q.who) ∧ W.cell? ((x.add (i * 3)).add 2) = some (.int .i64 q.n) := by
      intro i hi
      obtain ⟨cs', h1, h2⟩ := hcell i (by omega)
      obtain ⟨k, who, nn, rfl⟩ := pick_open h2
      rw [cellsP] at h1
      obtain ⟨_, _, hc⟩ := World.cells?_some h1
      refine ⟨⟨k, who, nn⟩, ?_, hc 1 (by omega), hc 2 (by omega)⟩
      have := hc 0 (by omega)
      have e0 : (x.add (i * 3)).add 0 = x.add (i * 3) := by unfold Addr.add; split <;> simp_all
      rw [e0] at this
      exact this
    obtain ⟨f, hf2⟩ := choose_lt key
    refine ⟨(List.range len).map f, by simp, ⟨fun i hi => ?_⟩, hbulk, .inr ⟨((List.range len).map D).length + ((List.range (m - len)).map fun j => D (len + j)).length, by simp only [List.length_map, List.length_range]; omega, by
      rw [hd]
      simp only [DataW.weights]
      rw [Try.underlying23]
      exact List.mem_cons_self ..⟩⟩
    have hi' : i < len := by simpa using hi
    obtain ⟨g0, g1, g2⟩ := hf2 i hi'
    obtain ⟨b, off, spot⟩ := x
    have hspot : spot = none := by
      have := World.cell?_spot (hf2 0 (by omega)).1
      simpa [Addr.add] using this
    subst hspot
    have p0 : ∀ j, (⟨b, off, none⟩ : Addr).add j = ⟨b, off + j, none⟩ := by intro j; unfold Addr.add; split <;> simp_all
    have p1 : ∀ q j, (⟨b, q, none⟩ : Addr).add j = ⟨b, q + j, none⟩ := by intro q j; unfold Addr.add; split <;> simp_all
    rw [p0] at g0 g1 g2
    rw [p1] at g1 g2
    refine ⟨b, off, rfl, ?_, ?_, ?_⟩
    · simpa using g0
    · simpa using g1
    · simpa using g2
end

set_option maxRecDepth 100000 in
set_option maxHeartbeats 2000000 in
/-- two lists that hold the same, wherever they lie -/
theorem sameHas {a1 a2 : Option Addr} {cap1 cap2 : Nat} {l : List Pk} {w : World} (h1 : Has w a1 l) (h2 : Has w a2 l) (hl : l.length ≤ 5864062014640) :
    Calls Try.prog 16 #[.slice a1 l.length cap1, .slice a2 l.length cap2] w fun e w' => e = .returned (.bool true) ∧ ∃ m, w' = w.drewN m := by
  have C1 := Lib.hid h1.cell
  have C2 := Lib.hid h2.cell
  clear h1 h2
  have heq := eqPick
  go_enter Try.func16, Try.ntmps16
  go_wp2_with fail
  go_loopw [5] (fun i wr => ∃ (j : Nat) (m : Nat), j ≤ l.length ∧ i = .int .i64 j ∧ wr = w.drewN m) (fun i _ => l.length - (intOf i).toNat)
  case atStart => exact ⟨0, 0, Nat.zero_le _, rfl, rfl⟩
  case round =>
    obtain ⟨j, m, hj, rfl, rfl⟩ := hrel
    by_cases hlt : j < l.length
    · obtain ⟨g1, o1, rfl, p0, p1, p2⟩ := C1.out j hlt
      obtain ⟨g2, o2, rfl, q0, q1, q2⟩ := C2.out j hlt
      generalize l[j].k = x0 at *
      generalize l[j].who = x1 at *
      generalize l[j].n = x2 at *
      go_wp2_with fail
      go_quiet (fail)
      go_wp2_with fail
      go_roundw
      case rel => exact ⟨j + 1, _, hlt, by go_num, rfl⟩
      case measure => simp [intOf]; omega
    · go_wp2_with fail
      go_ret
      exact ⟨rfl, m, rfl⟩
end Go.Proofs.Ytdkdeiofjoccnaa.Pick
