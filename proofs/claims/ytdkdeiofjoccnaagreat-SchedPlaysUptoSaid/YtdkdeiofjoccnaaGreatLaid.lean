/- stratalaw03.laid: many benches, one harness. -/
import Derived.Test.YtdkdeiofjoccnaaGreatYard
namespace Go.Proofs.YtdkdeiofjoccnaaGreat.Lit
open Go.RowKit Go.Proofs.YtdkdeiofjoccnaaGreat.Mem Go.Proofs.YtdkdeiofjoccnaaGreat.Ar Go.Proofs.YtdkdeiofjoccnaaGreat.Un
set_option linter.unusedVariables false
set_option maxRecDepth 100000

/-- a word as an unsigned number -/
def uN (z : Int) : Nat := (IntKind.u64.wrap z).toNat
theorem uN_eq (z : Int) : IntKind.u64.wrap z = (uN z : Int) := by
  have h0 : 0 ≤ IntKind.u64.wrap z := by
    unfold IntKind.wrap
    simp only [IntKind.bits, IntKind.signed]
    simp
    omega
  unfold uN
  omega
theorem rem_eq (z : Int) (m : Nat) (h1 : 1 ≤ m) (h2 : m ≤ 1000) : wrap64 ((IntKind.u64.wrap z).tmod (m : Int)) = ((uN z % m : Nat) : Int) := by
  rw [uN_eq, Int.tmod_eq_emod_of_nonneg (by omega), ← Int.natCast_emod]
  have := Nat.mod_lt (uN z) (show 0 < m by omega)
  exact IntWalk.wrap64_in _ (by omega)

/-- a job as it comes in -/
structure Jb where
  who : Int
  tag : Int
  len : Int
def Jb.n (j : Jb) : Nat := uN j.len % 11
def Jb.w (wk : Nat) (j : Jb) : Nat := uN j.who % wk
def Jb.cost (j : Jb) : Nat := max 1 j.n
def total (js : List Jb) : Nat := (js.map Jb.cost).sum
/-- .. and as it lies in memory -/
structure JobsIn (w : World) (a : Option Addr) (js : List Jb) : Prop where
  cell : ∀ (i : Nat) (hi : i < js.length), ∃ g o, a = some ⟨g, o, none⟩ ∧ w.cell? ⟨g, o + i * 3, none⟩ = some (.int .i64 js[i].who) ∧ w.cell? ⟨g, o + i * 3 + 1, none⟩ = some (.int .i64 js[i].tag) ∧ w.cell? ⟨g, o + i * 3 + 2, none⟩ = some (.int .i64 js[i].len)
  rng : ∀ j ∈ js, -9223372036854775808 ≤ j.tag ∧ j.tag ≤ 9223372036854775807
theorem JobsIn.keep {w w' : World} {a : Option Addr} {js : List Jb} (h : JobsIn w a js) (k : Keep [] w w') : JobsIn w' a js :=
  ⟨fun i hi => let ⟨g, o, e, c0, c1, c2⟩ := h.cell i hi; ⟨g, o, e, k.cell c0 (by simp), k.cell c1 (by simp), k.cell c2 (by simp)⟩, h.rng⟩

/-- what each instruction of a job is -/
def addI : Ins := ⟨4, 0, 0, -1, 1, 0, 0, 0⟩
def zeroI : Ins := ⟨0, 0, 0, 0, 0, 0, 0, 0⟩

/-- the harness that laid makes -/
structure LaidH (wk : Nat) (js : List Jb) (P : Park) (S : St) (H : Har.Har) : Prop where
  seats : P.seats.length = js.length
  pars : P.ars.length = js.length
  ar : ∀ i (h : i < P.seats.length), P.seats[i].ar = i
  sars : S.ars.length = js.length
  ths : S.ths = js.map fun j => th0 (List.replicate j.n addI)
  steps : H.steps = 0
  events : H.events = []
  ended : H.ended = []
  qs : H.queues = (List.range wk).map fun k => ((P.seats.zip js).filter fun x => x.2.w wk == k).map fun x => ⟨ptr x.1.tb, x.2.tag, false⟩

theorem LaidH.none (wk : Nat) : LaidH wk [] ⟨[], []⟩ ⟨[], []⟩ ⟨List.replicate wk [], 0, [], []⟩ := by
  refine ⟨rfl, rfl, fun i h => by simp at h, rfl, rfl, rfl, rfl, rfl, ?_⟩
  apply List.ext_getElem (by simp)
  intro i h1 h2
  simp

theorem LaidH.more {wk : Nat} {js : List Jb} {P : Park} {S : St} {H : Har.Har} (h : LaidH wk js P S H) (j : Jb) (L : Bk) (s : Seat) (A : Arena Unit) (hk : j.w wk < H.queues.length) :
    LaidH wk (js ++ [j]) (P.plus L s) (S.plus A (th0 (List.replicate j.n addI))) (H.put (j.w wk) (H.queues[j.w wk] ++ [⟨ptr s.tb, j.tag, false⟩])) := by
  have e1 : (P.plus L s).seats = P.seats ++ [⟨s.tb, s.pv, P.ars.length⟩] := rfl
  have hkw : j.w wk < wk := by have := hk; rw [h.qs] at this; simpa using this
  refine ⟨by rw [e1]; simp [h.seats], by show (P.ars ++ [(L, 1)]).length = _; simp [h.pars], fun i hi => ?_, by show (S.ars ++ [A]).length = _; simp [h.sars], ?_, h.steps, h.events, h.ended, ?_⟩
  · simp only [e1] at hi ⊢
    by_cases hlt : i < P.seats.length
    · rw [List.getElem_append_left hlt]
      exact h.ar i hlt
    · have : i = P.seats.length := by simp at hi; omega
      subst this
      simp [h.pars, h.seats]
  · show S.ths ++ [_] = _
    rw [h.ths]
    simp
  · show H.queues.set (j.w wk) _ = _
    rw [e1, List.zip_append h.seats]
    apply List.ext_getElem
    · rw [List.length_set, h.qs]; simp
    · intro i h1 h2
      rw [List.getElem_set]
      simp only [List.getElem_map, List.getElem_range, List.filter_append, List.map_append, h.qs]
      split
      · rename_i e
        subst e
        simp
      · rename_i e
        have : (j.w wk == i) = false := by simpa using e
        simp [this]

/-- n instructions laid, m yet to come -/
theorem lay_one (k m : Nat) (v : Ins) : ((((((((((flatI (List.replicate k addI) ++ flatI (List.replicate (m + 1) zeroI)).toArray).setIfInBounds (k * 8) (.int .i64 v.op)).setIfInBounds (k * 8 + 1) (.int .i64 v.cell)).setIfInBounds (k * 8 + 2) (.int .i64 v.reg)).setIfInBounds (k * 8 + 3) (.int .i64 v.newR)).setIfInBounds (k * 8 + 4) (.int .u64 v.newI)).setIfInBounds (k * 8 + 5) (.int .i64 v.oldR)).setIfInBounds (k * 8 + 6) (.int .u64 v.oldI)).setIfInBounds (k * 8 + 7) (.int .i64 v.n)) =
    (flatI (List.replicate k addI) ++ (v.cells ++ flatI (List.replicate m zeroI))).toArray := by
  have hl : (flatI (List.replicate k addI)).length = k * 8 := by rw [flatI_length]; simp
  have hz : flatI (List.replicate (m + 1) zeroI) = zeroI.cells ++ flatI (List.replicate m zeroI) := by rw [List.replicate_succ]; rfl
  rw [hz]
  apply Array.ext'
  simp only [List.setIfInBounds_toArray, List.toList_toArray]
  rw [List.set_append_right _ _ (by omega), List.set_append_right _ _ (by omega), List.set_append_right _ _ (by omega), List.set_append_right _ _ (by omega), List.set_append_right _ _ (by omega), List.set_append_right _ _ (by omega), List.set_append_right _ _ (by omega), List.set_append_right _ _ (by omega)]
  simp only [hl, Nat.sub_self, Nat.add_sub_cancel_left]
  rfl
theorem addI_snoc (k : Nat) (r : List Value) : flatI (List.replicate k addI) ++ (addI.cells ++ r) = flatI (List.replicate (k + 1) addI) ++ r := by
  rw [List.replicate_succ', show flatI (List.replicate k addI ++ [addI]) = flatI (List.replicate k addI) ++ addI.cells by simp [flatI], List.append_assoc]
/-- a harness of many benches' threads, as laid hands it back -/
def LaidAt (w wr : World) (hb : Nat) (wk : Nat) (js : List Jb) (P : Park) (S : St) (H : Har.Har) : Prop :=
  ∃ hq vs ve vd, Yard w wr hb hq vs ve vd P S H ∧ LaidH wk js P S H ∧ Har.due H ≤ 2 * js.length

theorem LaidAt.keep {w wr : World} {hb wk : Nat} {js : List Jb} {P : Park} {S : St} {H : Har.Har} (h : LaidAt w wr hb wk js P S H) : Keep [] w wr := by
  obtain ⟨hq, vs, ve, vd, hY, -⟩ := h
  exact hY.keep
theorem total_le : ∀ js : List Jb, total js ≤ 11 * js.length
  | [] => Nat.le_refl _
  | j :: js => by
    have := total_le js
    have h1 : j.n < 11 := Nat.mod_lt _ (by omega)
    have h2 : j.cost ≤ 11 := by unfold Jb.cost; omega
    simp only [total, List.map_cons, List.sum_cons, List.length_cons] at this ⊢
    omega
end Go.Proofs.YtdkdeiofjoccnaaGreat.Lit
