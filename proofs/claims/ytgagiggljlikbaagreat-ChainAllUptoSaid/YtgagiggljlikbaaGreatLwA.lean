import Derived.Test.YtgagiggljlikbaaGreatRcN
import Derived.Deep.CutRange
import Derived.Deep.CutBlock
import Derived.Deep.DeepCutAuto
/- Layer 4's scripts: the machines of both sides in memory, and that a step of one leaves all others. -/
namespace Go.Proofs.YtgagiggljlikbaaGreat.Lw
open Go.RowKit Go.Proofs.YtgagiggljlikbaaGreat.Mem Go.Proofs.YtgagiggljlikbaaGreat.Ar Go.Proofs.YtgagiggljlikbaaGreat.En Go.Proofs.YtgagiggljlikbaaGreat.Ch Go.Proofs.YtgagiggljlikbaaGreat.Rc
open Go.Proofs.YtgagiggljlikbaaGreat.Ra (owns_block RAt rBlocks)
set_option linter.unusedVariables false
set_option linter.unusedSimpArgs false

inductive Mach | ins (m : MI) | wlk (m : MW) | rem (m : MR)
/-- a machine begun: over which index, and where both sides have it -/
structure One where
  i : Nat
  m : Mach
  mb : Nat
  vb : Nat
  sb : Nat
  rb : Nat
def stepO (X : CI) (A : Ars) : Mach → CI × Ars × Mach × Bool
  | .ins m => ((stepI X A m).1, (stepI X A m).2.1, .ins (stepI X A m).2.2.1, (stepI X A m).2.2.2)
  | .wlk m => ((stepW X A m).1, (stepW X A m).2.1, .wlk (stepW X A m).2.2.1, (stepW X A m).2.2.2)
  | .rem m => ((stepR X A m).1, (stepR X A m).2.1, .rem (stepR X A m).2.2.1, (stepR X A m).2.2.2)
def okM (X : CI) : Mach → Prop
  | .ins m => okI X m ∧ (m.at_ = 3 → okL m.head)
  | .wlk m => okW X m
  | .rem m => okR X m

/-! what steps leave as it was, and what they keep -/
theorem okA_set {A A' : Ars} (h : okA A) {v : Int} (hv : okL v) {p : Nat} (hw : A'.words = A.words.set p v) : okA A' := by
  intro x hx
  rw [hw] at hx
  rcases List.mem_or_eq_of_mem_set hx with hx | rfl
  · exact h x hx
  · exact hv
theorem okA_ld {A : Ars} (h : okA A) (s : Int) (c : Nat) : okA (ldA A s c).1 := by unfold ldA; split <;> exact h
theorem okA_st {A : Ars} (h : okA A) (s : Int) (c : Nat) {v : Int} (hv : okL v) : okA (stA A s c v).1 := by
  unfold stA
  split
  · exact okA_set h hv rfl
  · exact h
theorem okA_cas {A : Ars} (h : okA A) (s : Int) (c : Nat) (x : Int) {v : Int} (hv : okL v) : okA (casA A s c x v).1 := by
  unfold casA
  split
  · split
    · exact okA_set h hv rfl
    · exact h
  · exact h
theorem okH_put {X : CI} (h : okH X) (b : Int) {v : Int} (hv : okL v) : okH (X.tick.put b v) := by
  intro x hx
  rcases List.mem_or_eq_of_mem_set (show x ∈ X.heads.set _ v from hx) with hx | rfl
  · exact h x hx
  · exact hv
theorem okL_lk {n : Int} (h0 : 0 ≤ n) (h1 : n ≤ 4352) : okL (lk n) := by unfold okL lk; omega
theorem okX_sw {X : CI} {A : Ars} (hA : okA A) (hH : okH X) (b f x : Int) {v : Int} (hv : okL v) : okA (swA X A b f x v).2.1 ∧ okH (swA X A b f x v).1 := by
  unfold swA
  split
  · split
    · exact ⟨hA, okH_put hH b hv⟩
    · exact ⟨hA, hH⟩
  · exact ⟨okA_cas hA _ _ _ hv, hH⟩

/-- the frame of a step: the shapes stay, the words are links -/
structure Fr (X X' : CI) (A A' : Ars) : Prop where
  cell : X'.cell = X.cell
  len : X'.heads.length = X.heads.length
  width : A'.width = A.width
  slots : A'.slots = A.slots
  fa : okA A'
  fh : okH X'
section
variable {X X' : CI} {A A' : Ars}
theorem Fr.rfl' (hA : okA A) (hH : okH X) : Fr X X A A := ⟨rfl, rfl, rfl, rfl, hA, hH⟩
theorem Fr.tick (hA : okA A) (hH : okH X) : Fr X X.tick A A := ⟨rfl, rfl, rfl, rfl, hA, hH⟩
theorem ld_slots (A : Ars) (s : Int) (c : Nat) : (ldA A s c).1.slots = A.slots := by unfold ldA; split <;> rfl
theorem st_width (A : Ars) (s : Int) (c : Nat) (v : Int) : (stA A s c v).1.width = A.width := by unfold stA; split <;> rfl
theorem st_slots (A : Ars) (s : Int) (c : Nat) (v : Int) : (stA A s c v).1.slots = A.slots := by unfold stA; split <;> rfl
theorem Fr.ld (hA : okA A) (hH : okH X) (s : Int) (c : Nat) : Fr X X A (ldA A s c).1 := ⟨rfl, rfl, ld_width _ _ _, ld_slots _ _ _, okA_ld hA _ _, hH⟩
theorem Fr.st (hA : okA A) (hH : okH X) (s : Int) (c : Nat) {v : Int} (hv : okL v) : Fr X X A (stA A s c v).1 := ⟨rfl, rfl, st_width _ _ _ _, st_slots _ _ _ _, okA_st hA _ _ hv, hH⟩
theorem Fr.cas (hA : okA A) (hH : okH X) (s : Int) (c : Nat) (x : Int) {v : Int} (hv : okL v) : Fr X X A (casA A s c x v).1 := ⟨rfl, rfl, cas_width _ _ _ _ _, cas_slots _ _ _ _ _, okA_cas hA _ _ _ hv, hH⟩
theorem Fr.put (hA : okA A) (hH : okH X) (b : Int) {v : Int} (hv : okL v) : Fr X (X.tick.put b v) A A := ⟨rfl, by simp [CI.put, CI.tick], rfl, rfl, hA, okH_put hH b hv⟩
theorem Fr.sw (hA : okA A) (hH : okH X) (b f x : Int) {v : Int} (hv : okL v) : Fr X (swA X A b f x v).1 A (swA X A b f x v).2.1 := by
  unfold swA
  split
  · split
    · exact Fr.put hA hH b hv
    · exact Fr.tick hA hH
  · exact Fr.cas hA hH _ _ _ hv
theorem frameI {m : MI} (ho : okM X (.ins m)) (hA : okA A) (hH : okH X) : Fr X (stepI X A m).1 A (stepI X A m).2.1 := by
  obtain ⟨⟨o1, o2⟩, o3⟩ := ho
  have h5 : m.at_ = 0 ∨ m.at_ = 1 ∨ m.at_ = 2 ∨ m.at_ = 3 ∨ m.at_ = 4 := by omega
  rcases h5 with e | e | e | e | e
  · simp only [stepI, e]
    exact Fr.rfl' hA hH
  · simp only [stepI, e]
    split
    · split
      · split
        · exact Fr.ld hA hH _ _
        · exact Fr.ld hA hH _ _
      · exact Fr.ld hA hH _ _
    · exact Fr.rfl' hA hH
  · simp only [stepI, e]
    exact Fr.tick hA hH
  · simp only [stepI, e]
    split
    · exact Fr.st hA hH _ _ (o3 e)
    · exact Fr.st hA hH _ _ (o3 e)
  · obtain ⟨b1, b2, b3⟩ := o2 (by omega)
    simp only [stepI, e]
    split
    · exact Fr.put hA hH _ (okL_lk (by omega) (by omega))
    · exact Fr.tick hA hH
theorem okM_ins {m : MI} (ho : okM X (.ins m)) (hA : okA A) (hH : okH X) (hs : A.slots ≤ 4096) : okM (stepI X A m).1 (.ins (stepI X A m).2.2.1) := by
  refine ⟨okI_step ho.1 hs, ?_⟩
  have o1 := ho.1.1
  have h5 : m.at_ = 0 ∨ m.at_ = 1 ∨ m.at_ = 2 ∨ m.at_ = 3 ∨ m.at_ = 4 := by omega
  rcases h5 with e | e | e | e | e
  · simp only [stepI, e]
    intro h
    omega
  · simp only [stepI, e]
    split
    · split
      · split
        · intro h; simp at h
        · intro h; simp [MI.over] at h
      · intro h; simp [MI.over] at h
    · intro h; simp [MI.over] at h
  · simp only [stepI, e]
    intro _
    exact hH.head _
  · simp only [stepI, e]
    split
    · intro h; simp at h
    · intro h; simp [MI.over] at h
  · simp only [stepI, e]
    split
    · intro h; simp [MI.over] at h
    · intro h; simp at h
theorem frameW {m : MW} (hA : okA A) (hH : okH X) : Fr X (stepW X A m).1 A (stepW X A m).2.1 := by
  have hsrc : Fr X (srcW X A m).1 A (srcW X A m).2.1 := by
    unfold srcW
    split
    · split
      · exact Fr.tick hA hH
      · exact Fr.rfl' hA hH
    · exact Fr.ld hA hH _ _
  unfold stepW
  split
  · exact Fr.rfl' hA hH
  · dsimp only
    split
    · split <;> exact hsrc
    · split <;> exact hsrc
theorem frameR {m : MR} (ho : okR X m) (hA : okA A) (hH : okH X) : Fr X (stepR X A m).1 A (stepR X A m).2.1 := by
  have h5 : m.at_ = 0 ∨ m.at_ = 1 ∨ m.at_ = 2 ∨ m.at_ = 3 ∨ m.at_ = 4 ∨ m.at_ = 5 := by have := ho.at_le; omega
  rcases h5 with e | e | e | e | e | e
  · simp only [stepR, e]
    exact Fr.rfl' hA hH
  · simp only [stepR, e]
    split
    · split
      · split
        · exact Fr.ld hA hH _ _
        · split <;> exact Fr.ld hA hH _ _
      · exact Fr.ld hA hH _ _
    · exact Fr.rfl' hA hH
  · have hv : okL (m.word + 1) := by
      obtain ⟨⟨h1, h2⟩, h3⟩ := ho.even e
      unfold okL
      omega
    simp only [stepR, e]
    split
    · split <;> exact Fr.cas hA hH _ _ _ hv
    · exact Fr.cas hA hH _ _ _ hv
  · simp only [stepR, e]
    exact Fr.tick hA hH
  · simp only [stepR, e]
    split
    · split
      · exact Fr.ld hA hH _ _
      · split <;> exact Fr.ld hA hH _ _
    · exact Fr.ld hA hH _ _
  · have hv : okL (lk (numL m.word)) := okL_lk (num_ok (ho.word e)).1 (num_ok (ho.word e)).2
    simp only [stepR, e]
    split
    · split
      · split <;> exact Fr.sw hA hH _ _ _ hv
      · exact Fr.sw hA hH _ _ _ hv
    · exact Fr.sw hA hH _ _ _ hv
theorem frameO {m : Mach} (ho : okM X m) (hA : okA A) (hH : okH X) : Fr X (stepO X A m).1 A (stepO X A m).2.1 := by
  cases m with
  | ins m => exact frameI ho hA hH
  | wlk m => exact frameW hA hH
  | rem m => exact frameR ho hA hH
theorem okM_step {m : Mach} (ho : okM X m) (hA : okA A) (hH : okH X) (hs : A.slots ≤ 4096) : okM (stepO X A m).1 (stepO X A m).2.2.1 := by
  cases m with
  | ins m => exact okM_ins ho hA hH hs
  | wlk m => exact okW_step ho
  | rem m => exact okR_step ho hA hH
theorem has_len {X X' : CI} (h : X'.heads.length = X.heads.length) (b : Int) : X'.has b = X.has b := by unfold CI.has; rw [h]
theorem okM_len {m : Mach} (h : X'.heads.length = X.heads.length) (ho : okM X m) : okM X' m := by
  cases m with
  | ins m => exact ⟨⟨ho.1.1, fun e => by rw [has_len h]; exact ho.1.2 e⟩, ho.2⟩
  | wlk m => intro a b c; rw [has_len h]; exact ho a b c
  | rem m => exact ⟨ho.at_le, fun e => by rw [has_len h]; exact ho.has e, ho.even, ho.now, ho.now4, ho.word⟩
end
end Go.Proofs.YtgagiggljlikbaaGreat.Lw

/- Layer 4's scripts: both sides in memory; a step of a machine. -/
namespace Go.Proofs.YtgagiggljlikbaaGreat.Lw
open Go.RowKit Go.Proofs.YtgagiggljlikbaaGreat.Mem Go.Proofs.YtgagiggljlikbaaGreat.Ar Go.Proofs.YtgagiggljlikbaaGreat.En Go.Proofs.YtgagiggljlikbaaGreat.Ch Go.Proofs.YtgagiggljlikbaaGreat.Rc
open Go.Proofs.YtgagiggljlikbaaGreat.Ra (owns_block RAt rBlocks)
set_option linter.unusedVariables false
set_option linter.unusedSimpArgs false
set_option maxRecDepth 100000

/-- where the fixed things lie; n: how many buckets each index has -/
structure Lay where
  L : Bk
  xb : Nat → Nat
  hb : Nat → Nat
  b : Nat
  sg : Nat
  sc : Nat
  rx : Nat → Nat
  rh : Nat → Nat
  rc : Nat → Nat
  n : Nat → Nat
/-- whose a block is: none: elder; 0, 1 the world's; even: the program's; odd: the document's -/
abbrev Lab := Nat → Option Nat
def Own (f : Lab) (t : Nat) (S : List Nat) : Prop := ∀ x ∈ S, f x = some t
def MP (w : World) (f : Lab) (g : Lay) (k : Nat) (o : One) : Prop :=
  match o.m with
  | .ins m => InsP w g.L (g.xb o.i) (g.hb o.i) o.mb m ∧ f o.mb = some (8 + 2 * k)
  | .wlk m => WlkP w g.L (g.xb o.i) (g.hb o.i) o.mb o.vb o.sb m ∧ f o.mb = some (8 + 2 * k) ∧ (m.whole = false → f o.vb = some (8 + 2 * k) ∧ f o.sb = some (8 + 2 * k))
  | .rem m => RemP w g.L (g.xb o.i) (g.hb o.i) o.mb (g.n o.i) m ∧ f o.mb = some (8 + 2 * k)
def MR_ (w : World) (f : Lab) (g : Lay) (Bl : List Nat) (k : Nat) (o : One) : Prop :=
  match o.m with
  | .ins m => InsR w Bl (g.rx o.i) (g.rh o.i) o.rb m ∧ f o.rb = some (9 + 2 * k)
  | .wlk m => WlkV w Bl (g.rx o.i) (g.rh o.i) o.rb m ∧ f o.rb = some (9 + 2 * k)
  | .rem m => RemQ w Bl (g.rx o.i) (g.rh o.i) o.rb m ∧ f o.rb = some (9 + 2 * k)
def Pt (t : Nat) : Prop := 2 ≤ t ∧ t % 2 = 0
def Rt (t : Nat) : Prop := 2 ≤ t ∧ t % 2 = 1
/-- the program's half -/
structure PHalf (w : World) (f : Lab) (g : Lay) (X : Nat → CI) (A : Ars) (ms : List One) : Prop where
  env : ∀ i, i < 2 → Env w g.L (g.xb i) (g.hb i) (X i) A
  lL : Own f 2 g.L.blocks
  lX : ∀ i, i < 2 → f (g.xb i) = some (4 + 2 * i) ∧ f (g.hb i) = some (4 + 2 * i)
  mach : ∀ (k : Nat) (o : One), ms[k]? = some o → MP w f g k o
/-- the document's half -/
structure RHalf (w : World) (f : Lab) (g : Lay) (X : Nat → CI) (A : Ars) (Q : List Nat) (ms : List One) (qv : Value) (bs : List (Option Nat)) : Prop where
  env : ∀ i, i < 2 → EnvR w g.b g.sg g.sc qv bs (g.rx i) (g.rh i) (g.rc i) (X i) A Q
  lL : Own f 3 (rBlocks g.b g.sg qv bs)
  lX : ∀ i, i < 2 → f (g.rx i) = some (5 + 2 * i) ∧ f (g.rh i) = some (5 + 2 * i)
  mach : ∀ (k : Nat) (o : One), ms[k]? = some o → MR_ w f g (rBlocks g.b g.sg qv bs) k o
/-- what holds of the plain state -/
structure Good (g : Lay) (X : Nat → CI) (A : Ars) (ms : List One) : Prop where
  idx : ∀ o ∈ ms, o.i < 2
  len : ∀ i, i < 2 → (X i).heads.length = g.n i
  okA : Ch.okA A
  okH : ∀ i, i < 2 → Ch.okH (X i)
  okM : ∀ o ∈ ms, Lw.okM (X o.i) o.m
  slots : A.slots ≤ 4096
def put (X : Nat → CI) (i : Nat) (Y : CI) : Nat → CI := fun j => if j = i then Y else X j
section
variable {w w' w2 w0 : World} {f f' : Lab} {g : Lay} {X : Nat → CI} {A A' : Ars} {Q Q' : List Nat} {ms : List One} {qv qv' : Value} {bs bs' : List (Option Nat)} {S : List Nat} {Y : CI} {k : Nat} {o : One} {m' : Mach}
theorem Own.out {t u : Nat} (h : Own f t S) {y : Nat} (hy : f y = some u) (hne : u ≠ t) : y ∉ S := fun hm => hne (by have := h y hm; rw [hy] at this; exact Option.some.inj this)
theorem MP.keep {k : Nat} {o : One} (h : MP w f g k o) (kk : Keep S w w') (hS : ∀ x ∈ S, f x ≠ some (8 + 2 * k)) : MP w' f g k o := by
  have hn : ∀ y, f y = some (8 + 2 * k) → y ∉ S := fun y hy hm => hS y hm hy
  unfold MP at h ⊢
  cases o with
  | mk i m mb vb sb rb =>
    cases m with
    | ins m => exact ⟨h.1.keep kk (hn _ h.2), h.2⟩
    | wlk m => exact ⟨h.1.keep kk ⟨hn _ h.2.1, fun e => ⟨hn _ (h.2.2 e).1, hn _ (h.2.2 e).2⟩⟩, h.2⟩
    | rem m => exact ⟨h.1.keep kk (hn _ h.2), h.2⟩
theorem MR_.keep {Bl : List Nat} {k : Nat} {o : One} (h : MR_ w f g Bl k o) (kk : Keep S w w') (hS : ∀ x ∈ S, f x ≠ some (9 + 2 * k)) : MR_ w' f g Bl k o := by
  have hn : ∀ y, f y = some (9 + 2 * k) → y ∉ S := fun y hy hm => hS y hm hy
  unfold MR_ at h ⊢
  cases o with
  | mk i m mb vb sb rb =>
    cases m with
    | ins m => exact ⟨h.1.keep kk (hn _ h.2), h.2⟩
    | wlk m => exact ⟨h.1.keep kk (hn _ h.2), h.2⟩
    | rem m => exact ⟨h.1.keep kk (hn _ h.2), h.2⟩
theorem MP.relab {k : Nat} {o : One} (h : MP w f g k o) (hf : ∀ x t, f x = some t → f' x = some t) : MP w f' g k o := by
  unfold MP at h ⊢
  cases o with
  | mk i m mb vb sb rb =>
    cases m with
    | ins m => exact ⟨h.1, hf _ _ h.2⟩
    | wlk m => exact ⟨h.1, hf _ _ h.2.1, fun e => ⟨hf _ _ (h.2.2 e).1, hf _ _ (h.2.2 e).2⟩⟩
    | rem m => exact ⟨h.1, hf _ _ h.2⟩
theorem MR_.relab {Bl : List Nat} {k : Nat} {o : One} (h : MR_ w f g Bl k o) (hf : ∀ x t, f x = some t → f' x = some t) : MR_ w f' g Bl k o := by
  unfold MR_ at h ⊢
  cases o with
  | mk i m mb vb sb rb => cases m <;> exact ⟨h.1, hf _ _ h.2⟩
theorem PHalf.relab (h : PHalf w f g X A ms) (hf : ∀ x t, f x = some t → f' x = some t) : PHalf w f' g X A ms :=
  ⟨h.env, fun x hx => hf _ _ (h.lL x hx), fun i hi => ⟨hf _ _ (h.lX i hi).1, hf _ _ (h.lX i hi).2⟩, fun k o ho => (h.mach k o ho).relab hf⟩
theorem RHalf.relab (h : RHalf w f g X A Q ms qv bs) (hf : ∀ x t, f x = some t → f' x = some t) : RHalf w f' g X A Q ms qv bs :=
  ⟨h.env, fun x hx => hf _ _ (h.lL x hx), fun i hi => ⟨hf _ _ (h.lX i hi).1, hf _ _ (h.lX i hi).2⟩, fun k o ho => (h.mach k o ho).relab hf⟩
/-- what others do -/
theorem PHalf.keep (h : PHalf w f g X A ms) (kk : Keep S w w') (hS : ∀ x ∈ S, ∀ t, f x = some t → ¬ Pt t) : PHalf w' f g X A ms := by
  refine ⟨fun i hi => (h.env i hi).keep kk fun x hx => ⟨fun hm => hS x hx _ (h.lL x hm) ⟨by omega, by omega⟩, fun e => ?_, fun e => ?_⟩, h.lL, h.lX, fun k o ho => (h.mach k o ho).keep kk fun x hx e => hS x hx _ e ⟨by omega, by omega⟩⟩
  · subst e
    exact hS _ hx _ (h.lX i hi).1 ⟨by omega, by omega⟩
  · subst e
    exact hS _ hx _ (h.lX i hi).2 ⟨by omega, by omega⟩
theorem RHalf.keep (h : RHalf w f g X A Q ms qv bs) (kk : Keep S w w') (hS : ∀ x ∈ S, ∀ t, f x = some t → ¬ Rt t) : RHalf w' f g X A Q ms qv bs := by
  refine ⟨fun i hi => (h.env i hi).keep kk fun x hx => ⟨fun hm => hS x hx _ (h.lL x hm) ⟨by omega, by omega⟩, fun e => ?_, fun e => ?_⟩, h.lL, h.lX, fun k o ho => (h.mach k o ho).keep kk fun x hx e => hS x hx _ e ⟨by omega, by omega⟩⟩
  · subst e
    exact hS _ hx _ (h.lX i hi).1 ⟨by omega, by omega⟩
  · subst e
    exact hS _ hx _ (h.lX i hi).2 ⟨by omega, by omega⟩
theorem put_self : put X k Y k = Y := by simp [put]
theorem put_other {j : Nat} (h : j ≠ k) : put X k Y j = X j := by simp [put, h]
/-- behind a step of the k-th machine on the program's side -/
theorem PHalf.stepped (h : PHalf w f g X A ms) (hi : o.i < 2) (hk : ms[k]? = some o) (he : Env w' g.L (g.xb o.i) (g.hb o.i) Y A') (hw : A'.width = A.width) (hm : MP w' f g k { o with m := m' })
    (kk : Keep (o.mb :: g.xb o.i :: g.hb o.i :: g.L.blocks) w w') (hmb : f o.mb = some (8 + 2 * k)) : PHalf w' f g (put X o.i Y) A' (ms.set k { o with m := m' }) := by
  have hS : ∀ x ∈ o.mb :: g.xb o.i :: g.hb o.i :: g.L.blocks, f x = some (8 + 2 * k) ∨ f x = some (4 + 2 * o.i) ∨ f x = some 2 := by
    intro x hx
    simp only [List.mem_cons] at hx
    rcases hx with rfl | rfl | rfl | hx
    · exact .inl hmb
    · exact .inr (.inl (h.lX _ hi).1)
    · exact .inr (.inl (h.lX _ hi).2)
    · exact .inr (.inr (h.lL x hx))
  refine ⟨fun i hi2 => ?_, h.lL, h.lX, fun j p hp => ?_⟩
  · by_cases hii : i = o.i
    · subst hii
      rw [put_self]
      exact he
    · rw [put_other hii]
      have h0 := h.env i hi2
      have hne : ∀ y, f y = some (4 + 2 * i) → y ∉ o.mb :: g.xb o.i :: g.hb o.i :: g.L.blocks := fun y hy hm => by
        rcases hS y hm with e | e | e <;> (rw [hy] at e; have := Option.some.inj e; omega)
      refine ⟨he.ar, h0.ix.keep kk fun x hx => ⟨fun e => ?_, fun e => ?_⟩, h0.offx, h0.offh, by rw [hw]; exact h0.cell⟩
      · subst e; exact hne _ (h.lX i hi2).1 hx
      · subst e; exact hne _ (h.lX i hi2).2 hx
  · by_cases hj : j = k
    · subst hj
      rw [List.getElem?_set_self (List.getElem?_eq_some_iff.1 hk).1] at hp
      cases hp
      exact hm
    · rw [List.getElem?_set_ne (Ne.symm hj)] at hp
      refine (h.mach j p hp).keep kk fun x hx e => ?_
      rcases hS x hx with e2 | e2 | e2 <;> (rw [e] at e2; have := Option.some.inj e2; omega)
theorem RHalf.stepped (h : RHalf w f g X A Q ms qv bs) (hi : o.i < 2) (hk : ms[k]? = some o) (he : EnvR w' g.b g.sg g.sc qv bs (g.rx o.i) (g.rh o.i) (g.rc o.i) Y A' Q) (hw : A'.width = A.width) (hm : MR_ w' f g (rBlocks g.b g.sg qv bs) k { o with m := m' })
    (kk : Keep (o.rb :: g.rx o.i :: g.rh o.i :: rBlocks g.b g.sg qv bs) w w') (hmb : f o.rb = some (9 + 2 * k)) : RHalf w' f g (put X o.i Y) A' Q (ms.set k { o with m := m' }) qv bs := by
  have hS : ∀ x ∈ o.rb :: g.rx o.i :: g.rh o.i :: rBlocks g.b g.sg qv bs, f x = some (9 + 2 * k) ∨ f x = some (5 + 2 * o.i) ∨ f x = some 3 := by
    intro x hx
    simp only [List.mem_cons] at hx
    rcases hx with rfl | rfl | rfl | hx
    · exact .inl hmb
    · exact .inr (.inl (h.lX _ hi).1)
    · exact .inr (.inl (h.lX _ hi).2)
    · exact .inr (.inr (h.lL x hx))
  refine ⟨fun i hi2 => ?_, h.lL, h.lX, fun j p hp => ?_⟩
  · by_cases hii : i = o.i
    · subst hii
      rw [put_self]
      exact he
    · rw [put_other hii]
      have h0 := h.env i hi2
      have hne : ∀ y, f y = some (5 + 2 * i) → y ∉ o.rb :: g.rx o.i :: g.rh o.i :: rBlocks g.b g.sg qv bs := fun y hy hm => by
        rcases hS y hm with e | e | e <;> (rw [hy] at e; have := Option.some.inj e; omega)
      refine ⟨he.ar, h0.ix.keep kk fun x hx => ⟨fun e => ?_, fun e => ?_⟩, h0.offx, h0.offh, by rw [hw]; exact h0.cell⟩
      · subst e; exact hne _ (h.lX i hi2).1 hx
      · subst e; exact hne _ (h.lX i hi2).2 hx
  · by_cases hj : j = k
    · subst hj
      rw [List.getElem?_set_self (List.getElem?_eq_some_iff.1 hk).1] at hp
      cases hp
      exact hm
    · rw [List.getElem?_set_ne (Ne.symm hj)] at hp
      refine (h.mach j p hp).keep kk fun x hx e => ?_
      rcases hS x hx with e2 | e2 | e2 <;> (rw [e] at e2; have := Option.some.inj e2; omega)
theorem Good.step (h : Good g X A ms) (hk : ms[k]? = some o) : Good g (put X o.i (stepO (X o.i) A o.m).1) (stepO (X o.i) A o.m).2.1 (ms.set k { o with m := (stepO (X o.i) A o.m).2.2.1 }) := by
  have hm : o ∈ ms := List.mem_of_getElem? hk
  have hi := h.idx o hm
  have fr := frameO (h.okM o hm) h.okA (h.okH _ hi)
  have hl : ∀ j, (put X o.i (stepO (X o.i) A o.m).1 j).heads.length = (X j).heads.length := fun j => by
    by_cases e : j = o.i
    · subst e; rw [put_self]; exact fr.len
    · rw [put_other e]
  refine ⟨fun p hp => ?_, fun i hi => (hl i).trans (h.len i hi), fr.fa, fun i hi2 => ?_, fun p hp => ?_, by rw [fr.slots]; exact h.slots⟩
  · rcases List.mem_or_eq_of_mem_set hp with hp | rfl
    · exact h.idx p hp
    · exact hi
  · by_cases e : i = o.i
    · subst e; rw [put_self]; exact fr.fh
    · rw [put_other e]; exact h.okH i hi2
  · rcases List.mem_or_eq_of_mem_set hp with hp | rfl
    · exact okM_len (hl p.i) (h.okM p hp)
    · show Lw.okM (put X o.i _ o.i) _
      rw [put_self]
      exact okM_step (h.okM o hm) h.okA (h.okH _ hi) h.slots
end
end Go.Proofs.YtgagiggljlikbaaGreat.Lw

/- Layer 4's scripts: the whole in memory; world.step. -/
namespace Go.Proofs.YtgagiggljlikbaaGreat.Lw
open Go.RowKit Go.Proofs.YtgagiggljlikbaaGreat.Mem Go.Proofs.YtgagiggljlikbaaGreat.Ar Go.Proofs.YtgagiggljlikbaaGreat.En Go.Proofs.YtgagiggljlikbaaGreat.Ch Go.Proofs.YtgagiggljlikbaaGreat.Rc
open Go.Proofs.YtgagiggljlikbaaGreat.Ra (owns_block RAt rBlocks)
set_option linter.unusedVariables false
set_option linter.unusedSimpArgs false
set_option maxRecDepth 100000

def Mach.kind : Mach → Nat
  | .ins _ => 0
  | .wlk _ => 1
  | .rem _ => 2
def pt (b : Nat) : Value := .pointer (some ⟨b, 0, none⟩)
/-- a pair's seven cells -/
def pairRow (kd mb rb : Nat) : List Value :=
  match kd with
  | 0 => [.int .i64 1, pt mb, .pointer none, .pointer none, pt rb, .pointer none, .pointer none]
  | 1 => [.int .i64 2, .pointer none, pt mb, .pointer none, .pointer none, pt rb, .pointer none]
  | _ => [.int .i64 4, .pointer none, .pointer none, pt mb, .pointer none, .pointer none, pt rb]
def One.row (o : One) : List Value := pairRow o.m.kind o.mb o.rb
theorem pairRow_len (kd mb rb : Nat) : (pairRow kd mb rb).length = 7 := by unfold pairRow; split <;> rfl
def rowsO (ms : List One) : List Value := ms.flatMap One.row
theorem rowsO_len : ∀ ms : List One, (rowsO ms).length = ms.length * 7
  | [] => rfl
  | o :: ms => by
    have := rowsO_len ms
    unfold rowsO at this ⊢
    rw [List.flatMap_cons, List.length_append, this, One.row, pairRow_len, List.length_cons]
    omega
theorem rowsO_at : ∀ (ms : List One) (k j : Nat) (o : One), ms[k]? = some o → j < 7 → (rowsO ms)[k * 7 + j]? = o.row[j]?
  | [], k, j, o, h, _ => by simp at h
  | p :: ms, 0, j, o, h, hj => by
    simp only [List.getElem?_cons_zero, Option.some.injEq] at h
    subst h
    unfold rowsO
    rw [List.flatMap_cons, List.getElem?_append_left (by rw [One.row, pairRow_len]; omega), Nat.zero_mul, Nat.zero_add]
  | p :: ms, k + 1, j, o, h, hj => by
    have := rowsO_at ms k j o (by simpa using h) hj
    unfold rowsO at this ⊢
    rw [List.flatMap_cons, List.getElem?_append_right (by rw [One.row, pairRow_len]; omega), One.row, pairRow_len, ← this]
    congr 1
    omega
theorem rowsO_set {ms : List One} {k : Nat} {o : One} {m' : Mach} (hk : ms[k]? = some o) (hm : m'.kind = o.m.kind) : rowsO (ms.set k { o with m := m' }) = rowsO ms := by
  apply List.ext_getElem?
  intro q
  by_cases hq : q < ms.length * 7
  · have e : q = q / 7 * 7 + q % 7 := by omega
    have h1 : ∃ p, ms[q / 7]? = some p := ⟨_, List.getElem?_eq_getElem (by omega)⟩
    obtain ⟨p, hp⟩ := h1
    rw [e, rowsO_at ms (q / 7) (q % 7) p hp (by omega)]
    by_cases hkq : q / 7 = k
    · rw [hkq] at hp ⊢
      rw [hk] at hp
      cases hp
      rw [rowsO_at _ k (q % 7) { o with m := m' } (by rw [List.getElem?_set_self (List.getElem?_eq_some_iff.1 hk).1]) (by omega)]
      unfold One.row
      rw [hm]
    · rw [rowsO_at _ (q / 7) (q % 7) p (by rw [List.getElem?_set_ne (Ne.symm hkq)]; exact hp) (by omega)]
  · rw [List.getElem?_eq_none (by rw [rowsO_len, List.length_set]; omega), List.getElem?_eq_none (by rw [rowsO_len]; omega)]
theorem stepO_kind (X : CI) (A : Ars) (m : Mach) : (stepO X A m).2.2.1.kind = m.kind := by cases m <;> rfl

/-- the world's own: its struct at wd, the row of pairs -/
structure WPart (w0 w : World) (f : Lab) (g : Lay) (wd : Nat) (hold : Int) (ms : List One) : Prop where
  st : ∃ ap cap, w.heap[wd]? = some (.cells #[pt g.L.b, pt (g.xb 0), pt (g.xb 1), pt g.b, pt (g.rx 0), pt (g.rx 1), .slice ap ms.length cap, .int .i64 hold] 147 (0, 0)) ∧
    w.ownsRow w0.heap.size 159 7 (.slice ap ms.length cap) ms.length (rowsO ms) ∧ ∀ x, (Value.slice ap ms.length cap).ownBlock = some x → f x = some 1
  lw : f wd = some 0
  dom : ∀ x t, f x = some t → w0.heap.size ≤ x ∧ x < w.heap.size
  keep : Keep [] w0 w
structure All (w0 w : World) (f : Lab) (g : Lay) (wd : Nat) (hold : Int) (X : Nat → CI) (A : Ars) (Q : List Nat) (ms : List One) : Prop where
  p : PHalf w f g X A ms
  r : ∃ qv bs, RHalf w f g X A Q ms qv bs
  wp : WPart w0 w f g wd hold ms
  good : Good g X A ms
section
variable {w w' w2 w0 : World} {f f' : Lab} {g : Lay} {X : Nat → CI} {A A' : Ars} {Q Q' : List Nat} {ms : List One} {qv qv' : Value} {bs bs' : List (Option Nat)} {S : List Nat} {Y : CI} {k wd : Nat} {o : One} {m' : Mach} {hold : Int}
theorem keep_base (h : Keep [] w0 w) (k : Keep S w w') (hS : ∀ x ∈ S, w0.heap.size ≤ x) : Keep [] w0 w' :=
  ⟨k.os.trans h.os, k.tape.trans h.tape, k.output.trans h.output, Nat.le_trans h.size k.size, fun y hy hn => (k.block y (Nat.lt_of_lt_of_le hy h.size) (fun hm => by have := hS y hm; omega)).trans (h.block y hy hn)⟩
theorem WPart.keep' (h : WPart w0 w f g wd hold ms) (kk : Keep S w w') (hS : ∀ x ∈ S, ∃ t, f x = some t ∧ 2 ≤ t) : WPart w0 w' f g wd hold ms := by
  obtain ⟨ap, cap, h1, h2, h3⟩ := h.st
  have hn : ∀ y t, f y = some t → t < 2 → y ∉ S := fun y t hy ht hm => by
    obtain ⟨u, hu, h2⟩ := hS y hm
    rw [hy] at hu
    cases hu
    omega
  refine ⟨⟨ap, cap, kk.old h1 (hn _ 0 h.lw (by omega)), owns_block h2 fun x hx => kk.block x (h2.lt x hx).2 (hn _ 1 (h3 x hx) (by omega)), h3⟩, h.lw, fun x t hx => ⟨(h.dom x t hx).1, Nat.lt_of_lt_of_le (h.dom x t hx).2 kk.size⟩, keep_base h.keep kk fun x hx => ?_⟩
  obtain ⟨t, ht, -⟩ := hS x hx
  exact (h.dom x t ht).1
theorem WPart.set (h : WPart w0 w f g wd hold ms) (hk : ms[k]? = some o) (hm : m'.kind = o.m.kind) : WPart w0 w f g wd hold (ms.set k { o with m := m' }) := by
  obtain ⟨ap, cap, h1, h2, h3⟩ := h.st
  refine ⟨⟨ap, cap, ?_, ?_, ?_⟩, h.lw, h.dom, h.keep⟩
  · rw [List.length_set]; exact h1
  · rw [List.length_set, rowsO_set hk hm]; exact h2
  · rw [List.length_set]; exact h3
/-- quiet calls, and such as make memory -/
theorem All.keep0 (h : All w0 w f g wd hold X A Q ms) (kk : Keep [] w w') : All w0 w' f g wd hold X A Q ms := by
  obtain ⟨qv, bs, hr⟩ := h.r
  exact ⟨h.p.keep kk (by simp), ⟨qv, bs, hr.keep kk (by simp)⟩, h.wp.keep' kk (by simp), h.good⟩
theorem labP (h : PHalf w f g X A ms) (hi : o.i < 2) (hmb : f o.mb = some (8 + 2 * k)) : ∀ x ∈ o.mb :: g.xb o.i :: g.hb o.i :: g.L.blocks, ∃ t, f x = some t ∧ Pt t := by
  intro x hx
  simp only [List.mem_cons] at hx
  rcases hx with rfl | rfl | rfl | hx
  · exact ⟨_, hmb, by omega, by omega⟩
  · exact ⟨_, (h.lX _ hi).1, by omega, by omega⟩
  · exact ⟨_, (h.lX _ hi).2, by omega, by omega⟩
  · exact ⟨_, h.lL x hx, by omega, by omega⟩
theorem labR (h : RHalf w f g X A Q ms qv bs) (hi : o.i < 2) (hmb : f o.rb = some (9 + 2 * k)) : ∀ x ∈ o.rb :: g.rx o.i :: g.rh o.i :: rBlocks g.b g.sg qv bs, ∃ t, f x = some t ∧ Rt t := by
  intro x hx
  simp only [List.mem_cons] at hx
  rcases hx with rfl | rfl | rfl | hx
  · exact ⟨_, hmb, by omega, by omega⟩
  · exact ⟨_, (h.lX _ hi).1, by omega, by omega⟩
  · exact ⟨_, (h.lX _ hi).2, by omega, by omega⟩
  · exact ⟨_, h.lL x hx, by omega, by omega⟩
/-- the program's half has gone ahead by a step -/
structure Mid (w0 w : World) (f : Lab) (g : Lay) (wd : Nat) (hold : Int) (X : Nat → CI) (A : Ars) (Q : List Nat) (ms : List One) (k : Nat) (o : One) (qv : Value) (bs : List (Option Nat)) : Prop where
  p : PHalf w f g (put X o.i (stepO (X o.i) A o.m).1) (stepO (X o.i) A o.m).2.1 (ms.set k { o with m := (stepO (X o.i) A o.m).2.2.1 })
  r : RHalf w f g X A Q ms qv bs
  wp : WPart w0 w f g wd hold ms
  good : Good g X A ms
theorem All.mid (h : All w0 w f g wd hold X A Q ms) (hr : RHalf w f g X A Q ms qv bs) (hk : ms[k]? = some o) (hmb : f o.mb = some (8 + 2 * k))
    (he : Env w' g.L (g.xb o.i) (g.hb o.i) (stepO (X o.i) A o.m).1 (stepO (X o.i) A o.m).2.1) (hm : MP w' f g k { o with m := (stepO (X o.i) A o.m).2.2.1 }) (kk : Keep (o.mb :: g.xb o.i :: g.hb o.i :: g.L.blocks) w w') :
    Mid w0 w' f g wd hold X A Q ms k o qv bs := by
  have hom := List.mem_of_getElem? hk
  have hi := h.good.idx o hom
  have fr := frameO (h.good.okM o hom) h.good.okA (h.good.okH _ hi)
  have hl := labP h.p hi hmb
  refine ⟨h.p.stepped hi hk he fr.width hm kk hmb, hr.keep kk fun x hx t ht hR => ?_, h.wp.keep' kk fun x hx => ?_, h.good⟩
  · obtain ⟨u, hu, hP⟩ := hl x hx
    rw [ht] at hu
    cases hu
    obtain ⟨-, h1⟩ := hP
    obtain ⟨-, h2⟩ := hR
    omega
  · obtain ⟨u, hu, hP⟩ := hl x hx
    exact ⟨u, hu, hP.1⟩
theorem Mid.all (h : Mid w0 w f g wd hold X A Q ms k o qv bs) (hk : ms[k]? = some o) (hrb : f o.rb = some (9 + 2 * k))
    (he : EnvR w' g.b g.sg g.sc qv bs (g.rx o.i) (g.rh o.i) (g.rc o.i) (stepO (X o.i) A o.m).1 (stepO (X o.i) A o.m).2.1 Q) (hm : MR_ w' f g (rBlocks g.b g.sg qv bs) k { o with m := (stepO (X o.i) A o.m).2.2.1 }) (kk : Keep (o.rb :: g.rx o.i :: g.rh o.i :: rBlocks g.b g.sg qv bs) w w') :
    All w0 w' f g wd hold (put X o.i (stepO (X o.i) A o.m).1) (stepO (X o.i) A o.m).2.1 Q (ms.set k { o with m := (stepO (X o.i) A o.m).2.2.1 }) := by
  have hom := List.mem_of_getElem? hk
  have hi := h.good.idx o hom
  have fr := frameO (h.good.okM o hom) h.good.okA (h.good.okH _ hi)
  have hl := labR h.r hi hrb
  refine ⟨h.p.keep kk fun x hx t ht hP => ?_, ⟨qv, bs, h.r.stepped hi hk he fr.width hm kk hrb⟩, (h.wp.keep' kk fun x hx => ?_).set hk (stepO_kind _ _ _), h.good.step hk⟩
  · obtain ⟨u, hu, hR⟩ := hl x hx
    rw [ht] at hu
    cases hu
    obtain ⟨-, h1⟩ := hP
    obtain ⟨-, h2⟩ := hR
    omega
  · obtain ⟨u, hu, hR⟩ := hl x hx
    exact ⟨u, hu, hR.1⟩
end
end Go.Proofs.YtgagiggljlikbaaGreat.Lw
