/- The chain's Walk: Step. -/
import Derived.Test.YtgagiggljlikbaaGreatChK
namespace Go.Proofs.YtgagiggljlikbaaGreat.Ch
open Go.RowKit Go.Proofs.YtgagiggljlikbaaGreat.Mem Go.Proofs.YtgagiggljlikbaaGreat.Ar Go.Proofs.YtgagiggljlikbaaGreat.En
set_option linter.unusedVariables false
set_option linter.unusedSimpArgs false
set_option maxRecDepth 100000

/-- all words and heads are links -/
def okA (A : Ars) : Prop := ∀ v ∈ A.words, okL v
def okH (X : CI) : Prop := ∀ v ∈ X.heads, okL v
theorem okL_zero : okL 0 := ⟨by omega, by omega⟩
theorem ok_nth {l : List Int} (h : ∀ v ∈ l, okL v) (i : Nat) : okL (nth l i 0) := by
  rw [nth, List.getD_eq_getElem?_getD]
  cases e : l[i]? with
  | none => exact okL_zero
  | some x => exact h x (List.mem_of_getElem? e)
theorem okA.word {A : Ars} (h : okA A) (s : Int) (c : Nat) : okL (wordA A s c) := ok_nth h _
theorem okH.head {X : CI} (h : okH X) (b : Int) : okL (X.head b) := ok_nth h _
theorem okA.ld {A : Ars} (h : okA A) (s : Int) (c : Nat) : okL (ldA A s c).2.1 := by
  unfold ldA
  split
  · exact h.word s c
  · exact okL_zero
theorem ok_src {X : CI} {A : Ars} (h : okA A) (hx : okH X) (m : MW) : okL (srcW X A m).2.2.1 := by
  unfold srcW
  split
  · split
    · exact hx.head _
    · exact okL_zero
  · exact h.ld _ _

/-- the tail of a walk's step: the word wv has been read, the answer er -/
def tailW (X : CI) (A : Ars) (m : MW) (wv er : Int) : CI × Ars × MW × Bool :=
  if er = 0 then
    (if numL wv = 0 then (X, A, { m with slot := 0, ended := true, code := 42 }, true)
     else (X, A, { m with src := false, next := numL wv, slot := if !m.src && !mkL wv then m.next else 0, ended := beyond (numL wv), code := if beyond (numL wv) && m.whole && decide (numL wv ≠ last m.bucket) then 43 else m.code }, beyond (numL wv) || decide ((if !m.src && !mkL wv then m.next else 0) ≠ 0)))
  else (X, A, { m with slot := 0, ended := true, code := er }, true)
theorem stepW_tail {X X' : CI} {A A' : Ars} {m : MW} {wv er : Int} (he : m.ended = false) (hr : srcW X A m = (X', A', wv, er)) : stepW X A m = tailW X' A' m wv er := by
  unfold stepW tailW
  rw [he, hr]
  simp only [Bool.false_eq_true, if_false]
  by_cases h0 : er = 0
  · subst h0
    by_cases h1 : numL wv = 0
    · simp [h1]
    · simp [h1]
  · simp [h0]

section
variable {w w' w2 : World} {L : Bk} {A A' : Ars} {xb hb mb vb sb : Nat} {X X' : CI} {m m' : MW} {S : List Nat}
theorem keep_set (k : Keep S w w') (hm : mb ∈ S) (i : Nat) (v : Value) : Keep S w (w'.setCell ⟨mb, i, none⟩ v) := k.set (.inl hm) _ _
def StepsW (w : World) (L : Bk) (xb hb mb vb sb : Nat) (X : CI) (A : Ars) (m : MW) (r : Ending) (w' : World) : Prop :=
  r = .returned (.bool (stepW X A m).2.2.2) ∧ Env w' L xb hb (stepW X A m).1 (stepW X A m).2.1 ∧ WlkP w' L xb hb mb vb sb (stepW X A m).2.2.1 ∧ Keep (mb :: xb :: hb :: L.blocks) w w'
theorem step_wlk0 (h : Env w L xb hb X A) (hi : WlkP w L xb hb mb vb sb m) (he : m.ended = true) :
    Calls Tryz.prog 23 #[.pointer (some ⟨mb, 0, none⟩)] w (StepsW w L xb hb mb vb sb X A m) := by
  obtain ⟨sv, nx, hm, -⟩ := hi.hm
  have c4 : w.cell? ⟨mb, 4, none⟩ = some (.int .i64 m.slot) := (cell_of hm 4).trans rfl
  have z4 := free_of hm 4
  have c5 : (w.setCell ⟨mb, 4, none⟩ (.int .i64 0)).cell? ⟨mb, 5, none⟩ = some (.bool true) := by
    rw [cell_off (by omega), ← he]
    exact (cell_of hm 5).trans rfl
  have hs : stepW X A m = (X, A, { m with slot := 0 }, true) := by simp only [stepW, he, if_true]
  have HI := Lib.hid hi
  have HE := Lib.hid h
  have HM := Lib.hid hm
  have HD := Lib.hid he
  unfold StepsW
  rw [hs]
  clear h hi hs hm he
  go_enter Tryz.func23, Tryz.ntmps23
  go_wp2_with fail
  go_ret
  have k4 : Keep [mb] w (w.setCell ⟨mb, 4, none⟩ (.int .i64 0)) := keep_set (Keep.refl _ _) (by simp) _ _
  refine ⟨rfl, HE.out.keep k4 (fun x hx => by rw [List.mem_singleton.1 hx]; exact HI.out.off), ⟨⟨sv, nx, ?_, fun e => ?_⟩, fun e => ?_, HI.out.off, HI.out.offc⟩, k4.mono (by simp)⟩
  · exact (set_same HM.out 4 (.int .i64 0)).trans rfl
  · have : m.ended = false := e
    rw [HD.out] at this
    cases this
  · have o := HI.out.offc e
    exact ⟨k4.old (HI.out.cap e).1 (by simpa using o.1.2.2.2), k4.old (HI.out.cap e).2 (by simpa using o.2.2.2.2)⟩
end
end Go.Proofs.YtgagiggljlikbaaGreat.Ch
