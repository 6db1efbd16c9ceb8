/- The document's playing and the program's: alike whatever the schedule (plain Lean). -/
import Derived.Test.YtdkdeiofjoccnaaGreatRefRun
namespace Go.Proofs.YtdkdeiofjoccnaaGreat.Har
open Go.RowKit Go.Proofs.YtdkdeiofjoccnaaGreat.Mem
set_option linter.unusedVariables false
variable {S S' : Type} {M : Mach S} {N : Mach S'}

/-- the other way round -/
def Sim.flip (R : Sim M N) : Sim N M where
  Rel := fun y x => R.Rel x y
  len := fun y x h => (R.len x y h).symm
  pend := fun y x h who => (R.pend x y h who).symm
  move := fun y x h who hp => R.move x y h who (by rw [R.pend x y h who]; exact hp)

theorem stepI_nat (M : Mach S) (H : Har) (s : S) (k : Nat) : stepI M H s (k : Int) = stepH M H s k := by
  unfold stepI
  rw [if_pos (by omega), Int.toNat_natCast]
theorem pend_ne {H : Har} {k : Nat} {j : Job} {l : List Job} (hk : k < H.queues.length) (hq : H.queues[k]? = some (j :: l)) : pend H (k : Int) ≠ 0 := by
  rw [pend_of hk]
  rw [List.getElem?_eq_getElem hk] at hq
  rw [Option.some.inj hq]
  simp

/-- a path of one is a path of the other -/
theorem Sim.path (R : Sim M N) {n : Nat} {y y' : Har × S'} (p : Path N n y y') : ∀ x, R.Rel x y → ∃ x', Path M n x x' ∧ R.Rel x' y' := by
  induction p with
  | nil y => exact fun x h => ⟨x, .nil x, h⟩
  | cons h' p ih =>
    intro x hr
    obtain ⟨k, j, l, hk, hq, rfl⟩ := h'.ex
    have hp : Har.pend x.1 (k : Int) ≠ 0 := by rw [R.pend _ _ hr]; exact pend_ne hk hq
    have hm := R.move _ _ hr (k : Int) hp
    rw [stepI_nat, stepI_nat] at hm
    obtain ⟨k', j', l', hkk, hk', hq'⟩ := pend_pos hp
    obtain rfl : k = k' := by omega
    obtain ⟨x', h1, h2⟩ := ih _ hm
    exact ⟨x', .cons ⟨k, j', l', hk', hq', rfl⟩ h1, h2⟩
end Go.Proofs.YtdkdeiofjoccnaaGreat.Har

namespace Go.Proofs.YtdkdeiofjoccnaaGreat.Ref
open Go.RowKit Go.Proofs.YtdkdeiofjoccnaaGreat.Mem Go.Proofs.YtdkdeiofjoccnaaGreat.Ar Go.Proofs.YtdkdeiofjoccnaaGreat.Un Go.Proofs.YtdkdeiofjoccnaaGreat.Lit
open Go.Proofs.YtdkdeiofjoccnaaGreat.Har (Job Ev playC Conf Path)
set_option linter.unusedVariables false

/-- a program whose words are words -/
structure InR (l : LP) : Prop where
  cells : ∀ x ∈ l.cells, wIn x
  ins : ∀ p ∈ l.threads, ∀ x ∈ p, okIns x

section
variable {l : LP} {P : Park}

theorem fill_len (ws : List Int) (base : Nat) : ∀ (k : Nat) (l : List Int), (fill l base ws k).length = l.length
  | 0, l => rfl
  | k + 1, l => by simp [fill, fill_len ws base k l]
theorem fill_at (ws : List Int) (base : Nat) : ∀ (k : Nat) (l : List Int) (j : Nat), base + k ≤ l.length → nth (fill l base ws k) j 0 = if base ≤ j ∧ j < base + k then nth ws (j - base) 0 else nth l j 0
  | 0, l, j, h => by rw [if_neg (by omega)]; rfl
  | k + 1, l, j, h => by
    show nth ((fill l base ws k).set (base + k) (nth ws k 0)) j 0 = _
    rw [nth_set _ _ _ _ (by rw [fill_len]; omega), fill_at ws base k l j (by omega)]
    by_cases e : base + k = j
    · subst e
      rw [if_pos rfl, if_pos (by omega)]
      congr 1
      omega
    · rw [if_neg e]
      by_cases e2 : base ≤ j ∧ j < base + k
      · rw [if_pos e2, if_pos (by omega)]
      · rw [if_neg e2, if_neg (by omega)]

theorem arena_same (hs : 1 ≤ l.cells.length) (hi : InR l) : SameA (arena0 l) l.cells := by
  have e1 : nextSlot (fresh Unit 1 l.cells.length) = 1 := rfl
  have e2 : (arena0 l).words = fill (List.replicate (1 * l.cells.length) 0) 0 l.cells l.cells.length := by
    show fill _ _ _ _ = _
    rw [e1]
    simp [fresh]
  refine ⟨rfl, ?_, fun j hj => ?_, fun j hj => ?_⟩
  · rw [e2, fill_len]; simp
  · rw [e2, fill_at _ _ _ _ _ (by simp), if_pos (by omega)]
    rfl
  · have : nth l.cells j 0 = l.cells[j] := by simp [nth, List.getD_eq_getElem?_getD, List.getElem?_eq_getElem hj]
    rw [this]
    exact hi.cells _ (List.getElem_mem hj)

/-- laid out -/
theorem begun_pair (h : Laid l P) (hs : soundB l = true) (hi : InR l) : Pair P ((Lit.begun l P).H, (Lit.begun l P).s) (harR l.threads.length l.threads.length, ⟨l.cells, l.threads.map th0⟩) := by
  have hb := hs
  simp only [soundB, betB, Bool.and_eq_true, decide_eq_true_eq] at hb
  refine ⟨begun_good h, h.one, h.ar, ⟨arena0 l, rfl, arena_same (by omega) hi⟩, rfl, fun t ht z hz => ?_, rfl, rfl, ?_⟩
  · obtain ⟨p, hp, rfl⟩ := List.mem_map.1 ht
    exact ⟨(sound_all hs p hp).2 z hz, hi.ins p hp z hz⟩
  · show (harK P l.threads.length).queues.map _ = _
    apply List.ext_getElem (by simp [harK, harR])
    intro i h1 h2
    have hin : i < l.threads.length := by simpa [harK] using h1
    have hiP : i < P.seats.length := by rw [h.n]; exact hin
    have hx := h.idx hiP
    simp only [harK, harR, List.getElem_map, List.getElem_range, List.getElem?_eq_getElem hiP, if_pos hin, List.map_cons, List.map_nil, sk, skR, hx]
    rfl

/-- THE LAW: one play, the budgets 14 and 2^40 -/
theorem both {x : Har.Har × St} {y : Har.Har × RP} (hp : Pair P x y) (hm : muP P x ≤ 14) (pl : List Pick.Pk) :
    Pair P ((playC (machs P) pl ⟨x.1, x.2, 14, false⟩).H, (playC (machs P) pl ⟨x.1, x.2, 14, false⟩).s) ((playC refM pl (begunR y.1 y.2)).H, (playC refM pl (begunR y.1 y.2)).s) ∧
      (playC (machs P) pl ⟨x.1, x.2, 14, false⟩).dry = false ∧ (playC refM pl (begunR y.1 y.2)).dry = false ∧
      (playC refM pl (begunR y.1 y.2)).left + 14 = (playC (machs P) pl ⟨x.1, x.2, 14, false⟩).left + 1099511627776 ∧ muP P ((playC (machs P) pl ⟨x.1, x.2, 14, false⟩).H, (playC (machs P) pl ⟨x.1, x.2, 14, false⟩).s) ≤ 14 := by
  obtain ⟨d, hd⟩ : ∃ d, d = playC (machs P) pl ⟨x.1, x.2, 14, false⟩ := ⟨_, rfl⟩
  obtain ⟨c, hc⟩ : ∃ c, c = playC refM pl (begunR y.1 y.2) := ⟨_, rfl⟩
  have cd := Har.playC_came (M := machs P) pl ⟨x.1, x.2, 14, false⟩
  have cc := Har.playC_came (M := refM) pl (begunR y.1 y.2)
  have t := Har.play_tri (R := (pairs P).flip) (δ := 1099511627762) pl (begunR y.1 y.2) ⟨x.1, x.2, 14, false⟩ ⟨rfl, rfl, hp, by show (1099511627776 : Nat) = 14 + 1099511627762; omega⟩
  rw [← hd] at cd t ⊢
  rw [← hc] at cc t ⊢
  have hg : (rank P).good x := hp.good
  obtain ⟨g1, m1⟩ := (rank P).path cd.path hg
  have m1' : muP P (d.H, d.s) + (14 - d.left) ≤ muP P x := m1
  cases t with
  | dry h =>
    rcases cc.dry h with h | h
    · cases h
    · have q := cc.path
      rw [h] at q
      obtain ⟨x', p', -⟩ := (pairs P).path q x hp
      have m2 := ((rank P).path p' hg).2
      have e : (begunR y.1 y.2).left - 0 = 1099511627776 := by show (1099511627776 : Nat) - 0 = _; omega
      rw [e] at m2
      have m2' : muP P x' + 1099511627776 ≤ muP P x := m2
      omega
  | late h =>
    obtain ⟨z, n, h1, h2, h3, h4⟩ := h.gone
    obtain ⟨x', p', -⟩ := (pairs P).path h3 (d.H, d.s) h1
    have m2 := ((rank P).path p' g1).2
    have m2' : muP P x' + n ≤ muP P (d.H, d.s) := m2
    have := h.none
    omega
  | abreast h => exact ⟨h.rel, h.wd, h.wc, by have := h.left; omega, by omega⟩

theorem words_same {A : Arena Unit} {cells : List Int} (h : SameA A cells) : slotWords A 1 = cells := by
  apply List.ext_getElem
  · rw [slotWords_length, h.width]
  · intro i h1 h2
    have e : wordAt A 1 i = i := by simp [wordAt]
    simp only [slotWords, List.getElem_map, List.getElem_range, e]
    rw [h.at_ i h2]
    simp [nth, List.getD_eq_getElem?_getD, List.getElem?_eq_getElem h2]

theorem drain_picks : Pick.dec drainS.data.toList = [Har.drainPick] := rfl

/-- Run: the two outcomes are one -/
theorem run_same (h : Laid l P) (hs : soundB l = true) (hi : InR l) (s : ByteArray) {A : Arena Unit} (hA : (drained l P s).s.ars = [A]) :
    slotWords A 1 = (drainedR l s).s.cells ∧ regsOf (drained l P s).s.ths = regsOf (drainedR l s).s.ths := by
  obtain ⟨p1, -, -, -, m1⟩ := both (begun_pair h hs hi) (begun_mu h hs) (Pick.dec s.data.toList)
  obtain ⟨p2, -⟩ := both p1 m1 [Har.drainPick]
  have q : Pair P ((drained l P s).H, (drained l P s).s) ((drainedR l s).H, (drainedR l s).s) := by
    unfold drainedR
    rw [drain_picks]
    exact p2
  obtain ⟨A', hA', hS⟩ := q.same
  have hA2 : (drained l P s).s.ars = [A'] := hA'
  rw [hA] at hA2
  simp only [List.cons.injEq, and_true] at hA2
  subst hA2
  exact ⟨words_same hS, congrArg regsOf q.ths⟩
end
end Go.Proofs.YtdkdeiofjoccnaaGreat.Ref
