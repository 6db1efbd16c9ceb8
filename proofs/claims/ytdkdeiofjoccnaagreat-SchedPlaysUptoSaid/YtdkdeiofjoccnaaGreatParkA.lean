import Derived.Test.YtdkdeiofjoccnaaGreatLitB
/- Threads and their arenas, many at once: the machines that a harness plays. -/
namespace Go.Proofs.YtdkdeiofjoccnaaGreat.Lit
open Go.RowKit Go.Proofs.YtdkdeiofjoccnaaGreat.Mem Go.Proofs.YtdkdeiofjoccnaaGreat.Ar Go.Proofs.YtdkdeiofjoccnaaGreat.Un
set_option linter.unusedVariables false

/-- where a thread lies: its block, its program's slice, which arena -/
structure Seat where
  tb : Nat
  pv : Value
  ar : Nat
/-- where all lies: the arenas (each with its slot), the threads -/
structure Park where
  ars : List (Bk × Nat)
  seats : List Seat
/-- .. and how it stands -/
structure St where
  ars : List (Arena Unit)
  ths : List Th

inductive Key where
  | ar (i : Nat)
  | th (j : Nat)
  | pr (j : Nat)
deriving DecidableEq

def Park.own (P : Park) : Key → List Nat
  | .ar i => match P.ars[i]? with
    | some a => a.1.blocks
    | none => []
  | .th j => match P.seats[j]? with
    | some s => [s.tb]
    | none => []
  | .pr j => match P.seats[j]? with
    | some s => s.pv.ownBlock.toList
    | none => []

/-- all blocks -/
def Park.all (P : Park) : List Nat := (P.ars.flatMap fun a => a.1.blocks) ++ (P.seats.map Seat.tb ++ P.seats.flatMap fun s => s.pv.ownBlock.toList)

theorem Park.mem_all {P : Park} {x : Nat} : x ∈ P.all ↔ ∃ k, x ∈ P.own k := by
  constructor
  · intro h
    simp only [Park.all, List.mem_append, List.mem_flatMap, List.mem_map] at h
    rcases h with ⟨a, ha, hx⟩ | ⟨s, hs, rfl⟩ | ⟨s, hs, hx⟩
    · obtain ⟨i, hi, rfl⟩ := List.getElem_of_mem ha
      exact ⟨.ar i, by simp only [Park.own, List.getElem?_eq_getElem hi]; exact hx⟩
    · obtain ⟨j, hj, rfl⟩ := List.getElem_of_mem hs
      exact ⟨.th j, by simp only [Park.own, List.getElem?_eq_getElem hj]; simp⟩
    · obtain ⟨j, hj, rfl⟩ := List.getElem_of_mem hs
      exact ⟨.pr j, by simp only [Park.own, List.getElem?_eq_getElem hj]; exact hx⟩
  · rintro ⟨k, hk⟩
    simp only [Park.all, List.mem_append, List.mem_flatMap, List.mem_map]
    cases k with
    | ar i =>
      simp only [Park.own] at hk
      split at hk
      · rename_i a ha
        exact .inl ⟨a, List.mem_of_getElem? ha, hk⟩
      · simp at hk
    | th j =>
      simp only [Park.own] at hk
      split at hk
      · rename_i s hs
        simp only [List.mem_singleton] at hk
        exact .inr (.inl ⟨s, List.mem_of_getElem? hs, hk.symm⟩)
      · simp at hk
    | pr j =>
      simp only [Park.own] at hk
      split at hk
      · rename_i s hs
        exact .inr (.inr ⟨s, List.mem_of_getElem? hs, hk⟩)
      · simp at hk

/-- It stands so. -/
structure Stand (P : Park) (w : World) (S : St) : Prop where
  apart : ∀ k k', k ≠ k' → ∀ x ∈ P.own k, x ∉ P.own k'
  la : S.ars.length = P.ars.length
  lt : S.ths.length = P.seats.length
  ar : ∀ i (h1 : i < P.ars.length) (h2 : i < S.ars.length), Un.At 0 w P.ars[i].1 S.ars[i] ∧ inUseB S.ars[i] P.ars[i].2 = true
  th : ∀ j (h1 : j < P.seats.length) (h2 : j < S.ths.length), ∃ (h3 : P.seats[j].ar < P.ars.length) (h4 : P.seats[j].ar < S.ars.length), ThAt w P.seats[j].tb P.seats[j].pv P.ars[P.seats[j].ar].1.b P.ars[P.seats[j].ar].2 S.ths[j] ∧
    (∀ x ∈ S.ths[j].prog, fitB x S.ars[P.seats[j].ar].width = true) ∧ S.ths[j].prog.length ≤ 100 ∧ S.ths[j].at_ ≤ S.ths[j].prog.length

section
variable {P : Park} {w w' : World} {S : St}

theorem own_ar {i : Nat} (h : i < P.ars.length) : P.own (.ar i) = P.ars[i].1.blocks := by simp only [Park.own, List.getElem?_eq_getElem h]
theorem own_th {j : Nat} (h : j < P.seats.length) : P.own (.th j) = [P.seats[j].tb] := by simp only [Park.own, List.getElem?_eq_getElem h]
theorem own_pr {j : Nat} (h : j < P.seats.length) : P.own (.pr j) = P.seats[j].pv.ownBlock.toList := by simp only [Park.own, List.getElem?_eq_getElem h]

theorem Stand.lt_heap (h : Stand P w S) : ∀ x ∈ P.all, x < w.heap.size := by
  intro x hx
  rw [Park.mem_all] at hx
  obtain ⟨k, hk⟩ := hx
  cases k with
  | ar i =>
    by_cases hi : i < P.ars.length
    · rw [own_ar hi] at hk
      exact arena_lt (h.ar i hi (by have := h.la; omega)).1 x hk
    · simp only [Park.own, List.getElem?_eq_none (Nat.le_of_not_lt hi)] at hk
      simp at hk
  | th j =>
    by_cases hj : j < P.seats.length
    · rw [own_th hj] at hk
      obtain ⟨_, _, ht, -⟩ := h.th j hj (by have := h.lt; omega)
      simp only [List.mem_singleton] at hk
      rw [hk]
      exact lt_of ht.hb
    · simp only [Park.own, List.getElem?_eq_none (Nat.le_of_not_lt hj)] at hk
      simp at hk
  | pr j =>
    by_cases hj : j < P.seats.length
    · rw [own_pr hj] at hk
      obtain ⟨_, _, ht, -⟩ := h.th j hj (by have := h.lt; omega)
      exact (ht.hp.lt x (by simpa using hk)).2
    · simp only [Park.own, List.getElem?_eq_none (Nat.le_of_not_lt hj)] at hk
      simp at hk

theorem Stand.keep (h : Stand P w S) {T : List Nat} (k : Keep T w w') (hT : ∀ x ∈ T, x ∉ P.all) : Stand P w' S := by
  have hn : ∀ key x, x ∈ P.own key → x ∉ T := fun key x hx ht => hT x ht (Park.mem_all.2 ⟨key, hx⟩)
  refine ⟨h.apart, h.la, h.lt, fun i h1 h2 => ⟨(h.ar i h1 h2).1.keep k fun x hx hm => hn (.ar i) x (by rw [own_ar h1]; exact hm) hx, (h.ar i h1 h2).2⟩, fun j h1 h2 => ?_⟩
  obtain ⟨h3, h4, ht, r⟩ := h.th j h1 h2
  exact ⟨h3, h4, ht.keep k (hn (.th j) _ (by rw [own_th h1]; simp)) (fun g hg => hn (.pr j) g (by rw [own_pr h1, hg]; simp)), r⟩

/-- one thread's view -/
theorem Stand.runs (h : Stand P w S) {j : Nat} (h1 : j < P.seats.length) (h2 : j < S.ths.length) : ∃ (h3 : P.seats[j].ar < P.ars.length) (h4 : P.seats[j].ar < S.ars.length), Runs w P.ars[P.seats[j].ar].1 P.seats[j].tb P.seats[j].pv P.ars[P.seats[j].ar].2 S.ars[P.seats[j].ar] S.ths[j] := by
  obtain ⟨h3, h4, ht, r1, r2, r3⟩ := h.th j h1 h2
  refine ⟨h3, h4, ht, (h.ar _ h3 h4).1, (h.ar _ h3 h4).2, ⟨fun hm => ?_, fun g hg hm => ?_⟩, r1, r2, r3⟩
  · exact h.apart (.th j) (.ar P.seats[j].ar) (by simp) P.seats[j].tb (by rw [own_th h1]; exact List.mem_singleton.2 rfl) (by rw [own_ar h3]; exact hm)
  · exact h.apart (.pr j) (.ar P.seats[j].ar) (by simp) g (by rw [own_pr h1, hg]; simp) (by rw [own_ar h3]; exact hm)

/-- a thread's step, in the midst of all -/
theorem Stand.stepped (h : Stand P w S) {j : Nat} (h1 : j < P.seats.length) {A : Arena Unit} {t : Th} (h3 : P.seats[j].ar < P.ars.length) (h4 : P.seats[j].ar < S.ars.length) (hr : Runs w' P.ars[P.seats[j].ar].1 P.seats[j].tb P.seats[j].pv P.ars[P.seats[j].ar].2 A t)
    (hw : A.width = S.ars[P.seats[j].ar].width) (k : Keep (P.seats[j].tb :: P.ars[P.seats[j].ar].1.blocks) w w') : Stand P w' ⟨S.ars.set P.seats[j].ar A, S.ths.set j t⟩ := by
  have hT : ∀ key x, x ∈ P.own key → key ≠ .th j → key ≠ .ar P.seats[j].ar → x ∉ P.seats[j].tb :: P.ars[P.seats[j].ar].1.blocks := by
    intro key x hx n1 n2 hm
    rcases List.mem_cons.1 hm with rfl | hm
    · exact h.apart key (.th j) n1 _ hx (by rw [own_th h1]; simp)
    · exact h.apart key (.ar P.seats[j].ar) n2 _ hx (by rw [own_ar h3]; exact hm)
  refine ⟨h.apart, by simpa using h.la, by simpa using h.lt, fun i i1 i2 => ?_, fun i i1 i2 => ?_⟩
  · have i2' : i < S.ars.length := by simpa using i2
    simp only [List.getElem_set]
    split
    · rename_i e
      subst e
      exact ⟨hr.mem, hr.use⟩
    · rename_i e
      exact ⟨(h.ar i i1 i2').1.keep k fun x hx hm => hT (.ar i) x (by rw [own_ar i1]; exact hm) (by simp) (by simp; omega) hx, (h.ar i i1 i2').2⟩
  · have i2' : i < S.ths.length := by simpa using i2
    obtain ⟨g3, g4, ht, r1, r2, r3⟩ := h.th i i1 i2'
    refine ⟨g3, by simpa using g4, ?_⟩
    have hwid : ∀ (hh : P.seats[i].ar < (S.ars.set P.seats[j].ar A).length), (S.ars.set P.seats[j].ar A)[P.seats[i].ar].width = S.ars[P.seats[i].ar].width := by
      intro hh
      simp only [List.getElem_set]
      split
      · rename_i e
        rw [hw]
        simp only [e]
      · rfl
    have ew := hwid (by simpa using g4)
    by_cases e : j = i
    · subst e
      simp only [List.getElem_set_self]
      exact ⟨hr.th, fun x hx => hr.fit x hx, hr.short, hr.at_⟩
    · simp only [List.getElem_set_ne e]
      exact ⟨ht.keep k (hT (.th i) _ (by rw [own_th i1]; exact List.mem_singleton.2 rfl) (by simp; omega) (by simp)) (fun g hg => hT (.pr i) g (by rw [own_pr i1, hg]; simp) (by simp) (by simp)), fun x hx => by rw [ew]; exact r1 x hx, r2, r3⟩
end

/-- which thread a value is -/
def Park.idx (P : Park) (v : Value) : Nat := P.seats.findIdx fun s => match v with
  | .pointer (some a) => a.block == s.tb
  | _ => false
/-- a step of thread j -/
def stepP (P : Park) (S : St) (j : Nat) : St × Bool :=
  match P.seats[j]?, S.ths[j]? with
  | some s, some t => match P.ars[s.ar]?, S.ars[s.ar]? with
    | some a, some A => (⟨S.ars.set s.ar (stepT A a.2 t).1.1, S.ths.set j (stepT A a.2 t).1.2⟩, (stepT A a.2 t).2)
    | _, _ => (S, true)
  | _, _ => (S, true)
def ptr (tb : Nat) : Value := .pointer (some ⟨tb, 0, none⟩)

theorem Park.idx_at {P : Park} (hap : ∀ k k', k ≠ k' → ∀ x ∈ P.own k, x ∉ P.own k') {j : Nat} (hj : j < P.seats.length) : P.idx (ptr P.seats[j].tb) = j := by
  unfold Park.idx ptr
  rw [List.findIdx_eq hj]
  refine ⟨by simp, fun k hk => ?_⟩
  simp only [beq_eq_false_iff_ne, ne_eq]
  intro e
  exact hap (.th j) (.th k) (by simp; omega) _ (by rw [own_th hj]; exact List.mem_singleton.2 rfl) (by rw [own_th (by omega), e]; exact List.mem_singleton.2 rfl)

theorem stepT_width (A : Arena Unit) (slot : Int) (t : Th) (h : t.at_ ≤ t.prog.length) : (stepT A slot t).1.1.width = A.width := by
  unfold stepT
  by_cases he : t.at_ < t.prog.length
  · rw [List.getElem?_eq_getElem he]
    exact (actT_same A slot { t with at_ := t.at_ + 1 } _ he).2.2.1
  · rw [List.getElem?_eq_none (by omega)]

/-- the threads as a harness's machines -/
def machs (P : Park) : Har.Mach St where
  B := P.all
  R := fun w S => Stand P w S
  stable := fun h k hT => h.keep k hT
  lt := fun h => h.lt_heap
  ok := fun _ v => ∃ (j : Nat) (hj : j < P.seats.length), v = ptr P.seats[j].tb
  step := fun S v => stepP P S (P.idx v)
  okStep := fun h => h
  addr := by
    rintro s v ⟨j, hj, rfl⟩
    exact ⟨_, rfl⟩
  calls := by
    rintro w S v hS ⟨j, hj, rfl⟩
    have hj2 : j < S.ths.length := by have := hS.lt; omega
    obtain ⟨h3, h4, hr⟩ := hS.runs hj hj2
    have e : stepP P S (P.idx (ptr P.seats[j].tb)) = (⟨S.ars.set P.seats[j].ar (stepT S.ars[P.seats[j].ar] P.ars[P.seats[j].ar].2 S.ths[j]).1.1, S.ths.set j (stepT S.ars[P.seats[j].ar] P.ars[P.seats[j].ar].2 S.ths[j]).1.2⟩, (stepT S.ars[P.seats[j].ar] P.ars[P.seats[j].ar].2 S.ths[j]).2) := by
      rw [Park.idx_at hS.apart hj]
      unfold stepP
      simp only [List.getElem?_eq_getElem hj, List.getElem?_eq_getElem hj2, List.getElem?_eq_getElem h3, List.getElem?_eq_getElem h4]
    rw [e]
    refine (step hr).mono fun e w' ⟨q1, q2, q3⟩ => ⟨q1, hS.stepped hj h3 h4 q2 (stepT_width _ _ _ hr.at_) q3, q3.mono fun x hx => ?_⟩
    rw [Park.mem_all]
    rcases List.mem_cons.1 hx with rfl | hx
    · exact ⟨.th j, by rw [own_th hj]; exact List.mem_singleton.2 rfl⟩
    · exact ⟨.ar P.seats[j].ar, by rw [own_ar h3]; exact hx⟩
end Go.Proofs.YtdkdeiofjoccnaaGreat.Lit

/- A litmus program as it comes in: between, fits, sound. -/
namespace Go.Proofs.YtdkdeiofjoccnaaGreat.Lit
open Go.RowKit Go.Proofs.YtdkdeiofjoccnaaGreat.Mem Go.Proofs.YtdkdeiofjoccnaaGreat.Ar Go.Proofs.YtdkdeiofjoccnaaGreat.Un
set_option linter.unusedVariables false
set_option maxRecDepth 100000

/-- cells that can be read from an address on -/
structure Sees (w : World) (a : Option Addr) (xs : List Value) : Prop where
  at_ : ∀ (i : Nat) (hi : i < xs.length), ∃ g o, a = some ⟨g, o, none⟩ ∧ w.cell? ⟨g, o + i, none⟩ = some xs[i]
theorem Sees.keep {w w' : World} {a : Option Addr} {xs : List Value} (h : Sees w a xs) {S : List Nat} (k : Keep S w w') (ho : ∀ g o, a = some ⟨g, o, none⟩ → g ∉ S) : Sees w' a xs :=
  ⟨fun i hi => let ⟨g, o, e, c⟩ := h.at_ i hi; ⟨g, o, e, k.cell c (ho g o e)⟩⟩
theorem Sees.keep0 {w w' : World} {a : Option Addr} {xs : List Value} (h : Sees w a xs) (k : Keep [] w w') : Sees w' a xs := h.keep k (by simp)

/-- a litmus program -/
structure LP where
  cells : List Int
  threads : List (List Ins)

/-- .. as it lies in memory: its two slices -/
structure LitAt (w : World) (cv tv : Value) (l : LP) : Prop where
  cells : ∃ a c, cv = .slice a l.cells.length c ∧ Sees w a (l.cells.map (.int .u64))
  threads : ∃ a c ps, tv = .slice a l.threads.length c ∧ ps.length = l.threads.length ∧ Sees w a ps ∧ ∀ i (h1 : i < ps.length) (h2 : i < l.threads.length), ∃ a' c', ps[i] = .slice a' l.threads[i].length c' ∧ Sees w a' (flatI l.threads[i])
theorem LitAt.keep0 {w w' : World} {cv tv : Value} {l : LP} (h : LitAt w cv tv l) (k : Keep [] w w') : LitAt w' cv tv l := by
  obtain ⟨⟨a, c, e, s⟩, ⟨a2, c2, ps, e2, e3, s2, s3⟩⟩ := h
  exact ⟨⟨a, c, e, s.keep0 k⟩, ⟨a2, c2, ps, e2, e3, s2.keep0 k, fun i h1 h2 => let ⟨a', c', e4, s4⟩ := s3 i h1 h2; ⟨a', c', e4, s4.keep0 k⟩⟩⟩

def betB (lo n hi : Int) : Bool := decide (lo ≤ n) && decide (n ≤ hi)
theorem between (lo n hi : Int) (w : World) :
    Calls Tryz.prog 70 #[.int .i64 lo, .int .i64 n, .int .i64 hi] w fun e w' => e = .returned (.bool (betB lo n hi)) ∧ w = w' := by
  by_cases h : lo ≤ n
  · have e1 : betB lo n hi = decide (n ≤ hi) := by simp [betB, h]
    rw [e1]
    have hd : decide (lo ≤ n) = true := by simpa using h
    go_enter Tryz.func70, Tryz.ntmps70
    go_wp2_with fail
    go_ret
    exact ⟨rfl, rfl⟩
  · have e1 : betB lo n hi = false := by simp [betB, h]
    rw [e1]
    have hd : decide (lo ≤ n) = false := by simpa using h
    go_enter Tryz.func70, Tryz.ntmps70
    go_wp2_with fail
    go_ret
    exact ⟨rfl, rfl⟩

theorem between' (lo n hi : Int) (w : World) :
    Calls Tryz.prog 70 #[.int .i64 lo, .int .i64 n, .int .i64 hi] w fun e w' => e = .returned (.bool (betB lo n hi)) ∧ w' = w :=
  (between lo n hi w).mono fun e w' ⟨q1, q2⟩ => ⟨q1, q2.symm⟩

/-- fits, out of its four tests -/
def fitC (op n : Int) (c r f o : Bool) : Bool :=
  if op = 1 then c && r else if op = 2 then c && f else if op = 3 then ((c && r) && f) && o else if op = 4 then (c && r) && f else if op = 5 then (r && f) && betB 1 n 10 else false
theorem fitB_eq (x : Ins) (n : Nat) : fitB x n = fitC x.op x.n (betB 0 x.cell ((n : Int) - 1)) (betB 0 x.reg 3) (betB (-1) x.newR 3) (betB (-1) x.oldR 3) := by
  have e1 : betB 0 x.cell ((n : Int) - 1) = (decide (0 ≤ x.cell) && decide (x.cell < n)) := by
    unfold betB
    congr 1
    rw [decide_eq_decide]
    omega
  unfold fitC
  rw [e1]
  rfl

set_option maxHeartbeats 1000000 in
theorem fits (x : Ins) (n : Nat) (hn : n ≤ 9223372036854775807) (w : World) :
    Calls Tryz.prog 71 #[.agg #[.int .i64 x.op, .int .i64 x.cell, .int .i64 x.reg, .int .i64 x.newR, .int .u64 x.newI, .int .i64 x.oldR, .int .u64 x.oldI, .int .i64 x.n], .int .i64 n] w fun e w' => e = .returned (.bool (fitB x n)) ∧ Keep [] w w' := by
  have hsub := IntWalk.i64_in ((n : Int) - 1) (by omega)
  have HE := Lib.hid (fitB_eq x n)
  go_enter Tryz.func71, Tryz.ntmps71
  go_wp2_with fail
  go_quiet ((go_at_call 70; exact Calls.quiet_of_same (between' _ _ _ _)))
  have hx : (w.alloc x.obj).heap[w.heap.size]? = some x.obj := alloc_new w x.obj
  obtain ⟨xb, hxb⟩ : ∃ xb, xb = w.heap.size := ⟨_, rfl⟩
  obtain ⟨w1, hw1⟩ : ∃ w1, w1 = (w.alloc x.obj).drewN nq := ⟨_, rfl⟩
  have K1 := Lib.hid (show Keep [] w w1 by rw [hw1]; exact ((Keep.refl _ _).alloc _).drewN _)
  have hx1 : w1.heap[xb]? = some x.obj := by rw [hw1, hxb]; exact hx
  have hw1' : (w.alloc (.cells #[.int .i64 x.op, .int .i64 x.cell, .int .i64 x.reg, .int .i64 x.newR, .int .u64 x.newI, .int .i64 x.oldR, .int .u64 x.oldI, .int .i64 x.n] 140 (0, 0))).drewN nq = w1 := hw1.symm
  rw [hw1', ← hxb]
  clear hx hxb hw1 hw1'
  have y0 : w1.cell? ⟨xb, 0, none⟩ = some (.int .i64 x.op) := by rw [cell_of hx1]; rfl
  have y3 : w1.cell? ⟨xb, 3, none⟩ = some (.int .i64 x.newR) := by rw [cell_of hx1]; rfl
  have y5 : w1.cell? ⟨xb, 5, none⟩ = some (.int .i64 x.oldR) := by rw [cell_of hx1]; rfl
  have y7 : w1.cell? ⟨xb, 7, none⟩ = some (.int .i64 x.n) := by rw [cell_of hx1]; rfl
  clear hx1
  go_wp2_with fail
  go_quiet ((go_at_call 70; exact Calls.quiet_of_same (between' _ _ _ _)))
  generalize betB 0 x.cell ((n : Int) - 1) = cc at *
  generalize betB 0 x.reg 3 = rr at *
  generalize betB (-1) x.newR 3 = ff at *
  generalize betB (-1) x.oldR 3 = oo at *
  go_wp2_with fail
  all_goals try ((refine (between 1 x.n 10 _).mono ?_); rintro e w' ⟨rfl, rfl⟩; go_wp2_with fail)
  all_goals go_ret
  all_goals
    refine ⟨?_, K1.out.drewN _⟩
    have e := HE.out
    simp only [beq_iff_eq, beq_eq_false_iff_ne, Bool.not_eq_true] at *
    rw [e]
    clear HE e
    unfold fitC
    simp [*]
end Go.Proofs.YtdkdeiofjoccnaaGreat.Lit

/- A litmus program as it comes in: sound. -/
namespace Go.Proofs.YtdkdeiofjoccnaaGreat.Lit
open Go.RowKit Go.Proofs.YtdkdeiofjoccnaaGreat.Mem Go.Proofs.YtdkdeiofjoccnaaGreat.Ar Go.Proofs.YtdkdeiofjoccnaaGreat.Un
set_option linter.unusedVariables false
set_option maxRecDepth 100000

def soundGo (nc : Nat) : Nat → List (List Ins) → Bool
  | _, [] => true
  | n, p :: r => if 10 < n + p.length then false else if p.all (fun x => fitB x nc) then soundGo nc (n + p.length) r else false
def soundB (l : LP) : Bool := betB 1 l.threads.length 4 && (betB 1 l.cells.length 4 && soundGo l.cells.length 0 l.threads)

/-- sizes that the memory holds -/
structure Small (l : LP) : Prop where
  c : l.cells.length ≤ 1000000000000000000
  t : l.threads.length ≤ 1000000000000000000
  p : ∀ p ∈ l.threads, p.length ≤ 1000000000000000000

theorem sound_few {w : World} {a1 a2 : Option Addr} {c1 c2 : Nat} {l : LP} (hs : Small l) (h : (betB 1 l.threads.length 4 && betB 1 l.cells.length 4) = false) :
    Calls Tryz.prog 25 #[.agg #[.slice a1 l.cells.length c1, .slice a2 l.threads.length c2]] w fun e w' => e = .returned (.bool false) ∧ Keep [] w w' := by
  obtain ⟨nt, hnt⟩ : ∃ n, n = l.threads.length := ⟨_, rfl⟩
  obtain ⟨nc, hnc⟩ : ∃ n, n = l.cells.length := ⟨_, rfl⟩
  rw [← hnt, ← hnc] at h ⊢
  clear hs hnt hnc
  go_enter Tryz.func25, Tryz.ntmps25
  go_wp2_with fail
  refine (between 1 nt 4 _).mono ?_
  rintro e w' ⟨rfl, rfl⟩
  by_cases h1 : betB 1 nt 4 = true
  · rw [h1] at h
    simp only [Bool.true_and] at h
    have H := Lib.hid h
    have H1 := Lib.hid h1
    rw [h1]
    clear h h1
    go_wp2_with fail
    refine (between 1 nc 4 _).mono ?_
    rintro e w' ⟨rfl, rfl⟩
    rw [H.out]
    go_wp2_with fail
    go_ret
    exact ⟨rfl, (Keep.refl _ _).alloc _⟩
  · have h1' : betB 1 nt 4 = false := by simpa using h1
    rw [h1']
    clear h h1 h1'
    go_wp2_with fail
    go_ret
    exact ⟨rfl, (Keep.refl _ _).alloc _⟩

theorem flatI_get (p : List Ins) : ∀ (j : Nat) (hj : j < p.length) (r : Nat), r < 8 → (flatI p)[j * 8 + r]? = p[j].cells[r]? := by
  induction p with
  | nil => intro j hj; simp at hj
  | cons x l ih =>
    intro j hj r hr
    rw [show flatI (x :: l) = x.cells ++ flatI l by simp [flatI]]
    cases j with
    | zero => rw [List.getElem?_append_left (by show 0 * 8 + r < 8; omega)]; simp
    | succ j =>
      rw [List.getElem?_append_right (by show 8 ≤ _; omega), show (j + 1) * 8 + r - x.cells.length = j * 8 + r by show (j + 1) * 8 + r - 8 = _; omega]
      exact ih j (by simpa using hj) r hr
theorem Sees.ins {w : World} {a : Option Addr} {p : List Ins} (h : Sees w a (flatI p)) {j : Nat} (hj : j < p.length) : ∃ g o, a = some ⟨g, o, none⟩ ∧ w.cell? ⟨g, o + j * 8, none⟩ = some (.int .i64 p[j].op) ∧ w.cell? ⟨g, o + j * 8 + 1, none⟩ = some (.int .i64 p[j].cell) ∧ w.cell? ⟨g, o + j * 8 + 2, none⟩ = some (.int .i64 p[j].reg) ∧
    w.cell? ⟨g, o + j * 8 + 3, none⟩ = some (.int .i64 p[j].newR) ∧ w.cell? ⟨g, o + j * 8 + 4, none⟩ = some (.int .u64 p[j].newI) ∧ w.cell? ⟨g, o + j * 8 + 5, none⟩ = some (.int .i64 p[j].oldR) ∧ w.cell? ⟨g, o + j * 8 + 6, none⟩ = some (.int .u64 p[j].oldI) ∧ w.cell? ⟨g, o + j * 8 + 7, none⟩ = some (.int .i64 p[j].n) := by
  have hlen := flatI_length p
  obtain ⟨g, o, e, -⟩ := h.at_ (j * 8) (by omega)
  have key : ∀ r, r < 8 → w.cell? ⟨g, o + j * 8 + r, none⟩ = p[j].cells[r]? := by
    intro r hr
    obtain ⟨g', o', e', c⟩ := h.at_ (j * 8 + r) (by omega)
    rw [e] at e'
    simp only [Option.some.injEq, Addr.mk.injEq, and_true] at e'
    obtain ⟨rfl, rfl⟩ := e'
    rw [Nat.add_assoc, c, ← flatI_get p j hj r hr]
    exact (List.getElem?_eq_getElem _).symm
  exact ⟨g, o, e, key 0 (by omega), key 1 (by omega), key 2 (by omega), key 3 (by omega), key 4 (by omega), key 5 (by omega), key 6 (by omega), key 7 (by omega)⟩

set_option maxHeartbeats 1000000 in
theorem sound_many {w : World} {cv tv : Value} {l : LP} (hs : Small l) (hl : LitAt w cv tv l) (h1 : betB 1 l.threads.length 4 = true) (h2 : betB 1 l.cells.length 4 = true) :
    Calls Tryz.prog 25 #[.agg #[cv, tv]] w fun e w' => e = .returned (.bool (soundGo l.cells.length 0 l.threads)) ∧ Keep [] w w' := by
  obtain ⟨a1, c1, rfl, s1⟩ := hl.cells
  obtain ⟨a2, c2, ps, rfl, hps, s2, s3⟩ := hl.threads
  obtain ⟨nt, hnt⟩ : ∃ n, n = l.threads.length := ⟨_, rfl⟩
  obtain ⟨nc, hnc⟩ : ∃ n, n = l.cells.length := ⟨_, rfl⟩
  rw [← hnt] at h1
  rw [← hnc] at h2
  rw [← hnt, ← hnc]
  have HN := Lib.hid (And.intro hnt hnc)
  have HS := Lib.hid hs
  have S1 := Lib.hid s1
  have S2 := Lib.hid s2
  have S3 := Lib.hid s3
  have HP := Lib.hid hps
  have H1 := Lib.hid h1
  have H2 := Lib.hid h2
  have hnt4 : nt ≤ 4 := by
    simp only [betB, Bool.and_eq_true, decide_eq_true_eq] at h1
    omega
  have hnc4 : nc ≤ 4 := by
    simp only [betB, Bool.and_eq_true, decide_eq_true_eq] at h2
    omega
  clear hs hl s1 s2 s3 hps h1 h2 hnt hnc
  go_enter Tryz.func25, Tryz.ntmps25
  go_wp2_with fail
  refine (between 1 nt 4 _).mono ?_
  rintro e w' ⟨rfl, rfl⟩
  rw [H1.out]
  go_wp2_with fail
  refine (between 1 nc 4 _).mono ?_
  rintro e w' ⟨rfl, rfl⟩
  rw [H2.out]
  go_wp2_with fail
  obtain ⟨xb, hxb⟩ : ∃ xb, xb = w.heap.size := ⟨_, rfl⟩
  obtain ⟨w1, hw1⟩ : ∃ w1, w1 = w.alloc (.cells #[.slice a1 nc c1, .slice a2 nt c2] 25) := ⟨_, rfl⟩
  have hx : w1.heap[xb]? = some (.cells #[.slice a1 nc c1, .slice a2 nt c2] 25 (0, 0)) := by rw [hw1, hxb]; exact alloc_new w _
  have K1 := Lib.hid (show Keep [] w w1 by rw [hw1]; exact (Keep.refl _ _).alloc _)
  have y0 : w1.cell? ⟨xb, 0, none⟩ = some (.slice a1 nc c1) := by rw [cell_of hx]; rfl
  have Y0 := Lib.hid y0
  rw [← hw1, ← hxb]
  clear hw1 hxb hx y0
  go_loopw [3, 23] (fun n i wr => ∃ (k m : Nat), n = .int .i64 m ∧ i = .int .i64 k ∧ k ≤ nt ∧ m ≤ 10 ∧ Keep [] w1 wr ∧ soundGo nc m (l.threads.drop k) = soundGo nc 0 l.threads) (fun _ i _ => nt - (intOf i).toNat)
  case atStart => exact ⟨0, 0, rfl, rfl, Nat.zero_le _, Nat.zero_le _, Keep.refl _ _, rfl⟩
  case round =>
    obtain ⟨k, m, rfl, rfl, hk, hm, hK, hS⟩ := hrel
    have KR := Lib.hid hK
    have SR := Lib.hid hS
    clear hK hS
    by_cases hlt : k < nt
    · have hkt : k < l.threads.length := by have := HN.out.1; omega
      have hkp : k < ps.length := by rw [HP.out]; exact hkt
      obtain ⟨g, o, rfl, x0⟩ := (S2.out.keep0 (K1.out.trans KR.out)).at_ k hkp
      obtain ⟨a', c', he, s4⟩ := S3.out k hkp hkt
      rw [he] at x0
      obtain ⟨p, hp⟩ : ∃ p, p = l.threads[k] := ⟨_, rfl⟩
      rw [← hp] at x0 s4
      have S4 := Lib.hid (s4.keep0 (K1.out.trans KR.out))
      have hdrop := Lib.hid (show l.threads.drop k = p :: l.threads.drop (k + 1) by rw [hp]; exact List.drop_eq_getElem_cons hkt)
      have hpl : p.length ≤ 1000000000000000000 := by rw [hp]; exact HS.out.p _ (List.getElem_mem hkt)
      obtain ⟨np, hnp⟩ : ∃ n, n = p.length := ⟨_, rfl⟩
      rw [← hnp] at x0 hpl
      have HNP := Lib.hid hnp
      have hgo := Lib.hid (show soundGo nc 0 l.threads = if 10 < m + np then false else if p.all (fun x => fitB x nc) then soundGo nc (m + np) (l.threads.drop (k + 1)) else false by
        rw [← SR.out, hdrop.out, hnp]
        rfl)
      have r0 := KR.out.cell Y0.out (by simp)
      clear he s4 hp hkt hkp hnp
      by_cases h10 : 10 < m + np
      · have hres : soundGo nc 0 l.threads = false := by rw [hgo.out, if_pos h10]
        have HRES := Lib.hid hres
        clear hres
        go_wp2_with fail
        go_ret
        exact ⟨by rw [HRES.out]; rfl, K1.out.trans KR.out⟩
      · have hsum := IntWalk.i64_in ((m : Int) + (np : Int)) (by omega)
        clear hpl
        have h10' : decide ((10 : Int) < (m : Int) + (np : Int)) = false := by simp; omega
        go_wp2_with fail
        obtain ⟨wo, hwo⟩ : ∃ wo, wo = wr := ⟨_, rfl⟩
        subst hwo
        go_loopw [35] (fun i wi => ∃ j : Nat, i = .int .i64 j ∧ j ≤ np ∧ Keep [] wo wi ∧ (p.take j).all (fun x => fitB x nc) = true) (fun i _ => np - (intOf i).toNat)
        case atStart => exact ⟨0, rfl, Nat.zero_le _, Keep.refl _ _, rfl⟩
        case round =>
          obtain ⟨j, rfl, hj, hK, hA⟩ := hrel
          have KI := Lib.hid hK
          have AI := Lib.hid hA
          clear hK hA
          by_cases hjn : j < np
          · have hjp : j < p.length := by have := HNP.out; omega
            obtain ⟨g2, o2, rfl, x0', x1, x2, x3, x4, x5, x6, x7⟩ := (S4.out.keep0 KI.out).ins hjp
            obtain ⟨x, hx⟩ : ∃ x, x = p[j] := ⟨_, rfl⟩
            rw [← hx] at x0' x1 x2 x3 x4 x5 x6 x7
            have HX := Lib.hid (show ∃ hjp : j < p.length, x = p[j] from ⟨hjp, hx⟩)
            have r1 := (KR.out.trans KI.out).cell Y0.out (by simp)
            have r2 := fun o : Obj => ((KR.out.trans KI.out).alloc o).cell Y0.out (by simp)
            clear hx hjp
            by_cases hf : fitB x nc = true
            · have HFT := Lib.hid hf
              clear hf
              go_wp2_with fail
              refine (fits x nc (by omega) _).mono ?_
              rintro e w2 ⟨rfl, k2⟩
              have K2 := Lib.hid k2
              rw [HFT.out]
              clear k2
              go_wp2_with fail
              go_roundw
              case rel =>
                refine ⟨j + 1, by go_num, hjn, (KI.out.alloc _).trans K2.out, ?_⟩
                obtain ⟨hjp, hx⟩ := HX.out
                rw [List.take_succ_eq_append_getElem hjp, List.all_append, AI.out, ← hx]
                simpa using HFT.out
              case measure => simp [intOf]; omega
            · have HFT := Lib.hid (show fitB x nc = false by simpa using hf)
              clear hf
              go_wp2_with fail
              refine (fits x nc (by omega) _).mono ?_
              rintro e w2 ⟨rfl, k2⟩
              have K2 := Lib.hid k2
              rw [HFT.out]
              clear k2
              go_wp2_with fail
              go_ret
              have hres : soundGo nc 0 l.threads = false := by
                rw [hgo.out, if_neg h10, if_neg]
                intro hall
                rw [List.all_eq_true] at hall
                obtain ⟨hjp, hx⟩ := HX.out
                have := hall x (by rw [hx]; exact List.getElem_mem hjp)
                rw [HFT.out] at this
                cases this
              exact ⟨by rw [hres]; rfl, (K1.out.trans KR.out).trans ((KI.out.alloc _).trans K2.out)⟩
          · have hall : p.all (fun x => fitB x nc) = true := by
              have q := AI.out
              rwa [List.take_of_length_le (by have := HNP.out; omega)] at q
            have HALL := Lib.hid hall
            clear hall
            go_wp2_with fail
            go_roundw
            case rel =>
              refine ⟨k + 1, m + np, by go_num, by go_num, hlt, by omega, KR.out.trans KI.out, ?_⟩
              rw [hgo.out, if_neg h10, if_pos HALL.out]
            case measure => simp [intOf]; omega
    · have hkn : k = nt := by omega
      have hres : soundGo nc 0 l.threads = true := by
        rw [← SR.out, List.drop_of_length_le (by have := HN.out.1; omega)]
        rfl
      have HRES := Lib.hid hres
      clear hres hkn
      go_wp2_with fail
      go_ret
      exact ⟨by rw [HRES.out]; rfl, K1.out.trans KR.out⟩

/-- sound -/
theorem sound {w : World} {cv tv : Value} {l : LP} (hs : Small l) (hl : LitAt w cv tv l) :
    Calls Tryz.prog 25 #[.agg #[cv, tv]] w fun e w' => e = .returned (.bool (soundB l)) ∧ Keep [] w w' := by
  by_cases h : (betB 1 l.threads.length 4 && betB 1 l.cells.length 4) = true
  · have h2 := h
    simp only [Bool.and_eq_true] at h2
    have e : soundB l = soundGo l.cells.length 0 l.threads := by unfold soundB; rw [h2.1, h2.2]; rfl
    rw [e]
    exact sound_many hs hl h2.1 h2.2
  · have h' : (betB 1 l.threads.length 4 && betB 1 l.cells.length 4) = false := by simpa using h
    have e : soundB l = false := by
      unfold soundB
      rw [← Bool.and_assoc, h']
      rfl
    rw [e]
    obtain ⟨a1, c1, rfl, -⟩ := hl.cells
    obtain ⟨a2, c2, ps, rfl, -⟩ := hl.threads
    exact sound_few hs h'
end Go.Proofs.YtdkdeiofjoccnaaGreat.Lit

/- A program being laid out: a thread more. -/
namespace Go.Proofs.YtdkdeiofjoccnaaGreat.Lit
open Go.RowKit Go.Proofs.YtdkdeiofjoccnaaGreat.Mem Go.Proofs.YtdkdeiofjoccnaaGreat.Ar Go.Proofs.YtdkdeiofjoccnaaGreat.Un
set_option linter.unusedVariables false
set_option maxRecDepth 100000

def Park.more (P : Park) (s : Seat) : Park := { P with seats := P.seats ++ [s] }
def St.more (S : St) (t : Th) : St := { S with ths := S.ths ++ [t] }

section
variable {P : Park} {s : Seat} {w w' : World} {S : St}

theorem own_more_th : (P.more s).own (.th P.seats.length) = [s.tb] := by simp [Park.own, Park.more]
theorem own_more_pr : (P.more s).own (.pr P.seats.length) = s.pv.ownBlock.toList := by simp [Park.own, Park.more]
theorem own_more_old (k : Key) (h1 : k ≠ .th P.seats.length) (h2 : k ≠ .pr P.seats.length) : (P.more s).own k = P.own k := by
  have key : ∀ j, j ≠ P.seats.length → (P.seats ++ [s])[j]? = P.seats[j]? := by
    intro j hj
    by_cases hlt : j < P.seats.length
    · rw [List.getElem?_append_left hlt]
    · rw [List.getElem?_eq_none (by simp; omega), List.getElem?_eq_none (by omega)]
  cases k with
  | ar i => rfl
  | th j => simp only [Park.own, Park.more, key j (fun e => h1 (by rw [e]))]
  | pr j => simp only [Park.own, Park.more, key j (fun e => h2 (by rw [e]))]
theorem all_more {x : Nat} : x ∈ (P.more s).all ↔ x ∈ P.all ∨ x = s.tb ∨ s.pv.ownBlock = some x := by
  simp only [Park.all, Park.more, List.map_append, List.flatMap_append, List.mem_append, List.map_cons, List.map_nil, List.flatMap_cons, List.flatMap_nil, List.append_nil, List.mem_singleton, Option.mem_toList]
  constructor
  · rintro (h | (h | h) | h | h)
    · exact .inl (.inl h)
    · exact .inl (.inr (.inl h))
    · exact .inr (.inl h)
    · exact .inl (.inr (.inr h))
    · exact .inr (.inr h)
  · rintro ((h | h | h) | h | h)
    · exact .inl h
    · exact .inr (.inl (.inl h))
    · exact .inr (.inr (.inl h))
    · exact .inr (.inl (.inr h))
    · exact .inr (.inr (.inr h))

theorem get_last {α : Type} (l : List α) (x : α) {n : Nat} (h : l.length = n) (hn : n < (l ++ [x]).length) : (l ++ [x])[n] = x := by
  subst h
  simp

theorem Stand.more (h : Stand P w S) {t : Th} (h3 : s.ar < P.ars.length) (h4 : s.ar < S.ars.length) (ht : ThAt w s.tb s.pv P.ars[s.ar].1.b P.ars[s.ar].2 t) (hf : ∀ x ∈ t.prog, fitB x S.ars[s.ar].width = true) (hl : t.prog.length ≤ 100) (ha : t.at_ ≤ t.prog.length)
    (n1 : s.tb ∉ P.all) (n2 : ∀ g, s.pv.ownBlock = some g → g ∉ P.all) : Stand (P.more s) w (S.more t) := by
  refine ⟨fun k k' hne x hx hx' => ?_, h.la, by simp [Park.more, St.more, h.lt], fun i h1 h2 => h.ar i h1 h2, fun j h1 h2 => ?_⟩
  · have key : ∀ k, x ∈ (P.more s).own k → (k = .th P.seats.length ∧ x = s.tb) ∨ (k = .pr P.seats.length ∧ s.pv.ownBlock = some x) ∨ x ∈ P.own k := by
      intro k hk
      by_cases e1 : k = .th P.seats.length
      · subst e1
        rw [own_more_th] at hk
        exact .inl ⟨rfl, by simpa using hk⟩
      · by_cases e2 : k = .pr P.seats.length
        · subst e2
          rw [own_more_pr] at hk
          exact .inr (.inl ⟨rfl, by simpa using hk⟩)
        · rw [own_more_old k e1 e2] at hk
          exact .inr (.inr hk)
    rcases key k hx with ⟨rfl, e⟩ | ⟨rfl, e⟩ | e <;> rcases key k' hx' with ⟨rfl, e'⟩ | ⟨rfl, e'⟩ | e'
    · exact hne rfl
    · exact ht.off (by rw [e', e])
    · exact n1 (Park.mem_all.2 ⟨k', e ▸ e'⟩)
    · exact ht.off (by rw [e, e'])
    · exact hne rfl
    · exact n2 x e (Park.mem_all.2 ⟨k', e'⟩)
    · exact n1 (Park.mem_all.2 ⟨k, e' ▸ e⟩)
    · exact n2 x e' (Park.mem_all.2 ⟨k, e⟩)
    · exact h.apart k k' hne x e e'
  · have hl' := h.lt
    by_cases hj : j < P.seats.length
    · have e1 : (P.more s).seats[j] = P.seats[j] := List.getElem_append_left hj
      have hj2 : j < S.ths.length := by omega
      have e2 : (S.more t).ths[j] = S.ths[j] := List.getElem_append_left hj2
      rw [e1, e2]
      exact h.th j hj hj2
    · have hj' : j = P.seats.length := by
        simp only [Park.more, List.length_append, List.length_singleton] at h1
        omega
      subst hj'
      have e1 : (P.more s).seats[P.seats.length] = s := by simp [Park.more]
      have e2 : (S.more t).ths[P.seats.length] = t := get_last S.ths t hl' h2
      rw [e1, e2]
      exact ⟨h3, h4, ht, hf, hl, ha⟩

/-- machines of a park are machines of a greater one -/
theorem ok_more {v : Value} (h : ∃ (j : Nat) (hj : j < P.seats.length), v = ptr P.seats[j].tb) : ∃ (j : Nat) (hj : j < (P.more s).seats.length), v = ptr (P.more s).seats[j].tb := by
  obtain ⟨j, hj, rfl⟩ := h
  refine ⟨j, by simp [Park.more]; omega, ?_⟩
  have e1 : (P.more s).seats[j]'(by simp [Park.more]; omega) = P.seats[j] := List.getElem_append_left hj
  rw [e1]
end

/-- how a bench lies in memory while it is made, and then: bb: its block -/
structure Bench (w wr : World) (bb : Nat) (L : Bk) (slot : Nat) (hb hq : Nat) (vs : List Value) (ve vd : Value) (P : Park) (S : St) (tsv : Value) (H : Har.Har) : Prop where
  hbb : wr.heap[bb]? = some (.cells #[.pointer (some ⟨L.b, 0, none⟩), .int .i64 slot, tsv, .pointer (some ⟨hb, 0, none⟩)] 87 (0, 0))
  ars : P.ars = [(L, slot)]
  stand : Stand P wr S
  har : Har.At wr hb hq vs ve vd H
  ok : ∀ q ∈ H.queues, ∀ j ∈ q, ∃ (i : Nat) (hi : i < P.seats.length), j.mach = ptr P.seats[i].tb
  few : H.events.length + Har.due H ≤ 1000000000000 ∧ H.ended.length ≤ H.events.length
  thr : wr.ownsRow 0 38 1 tsv P.seats.length (P.seats.map fun s => ptr s.tb)
  ap1 : ∀ x ∈ P.all, x ∉ Har.blocks hb hq (ve :: vd :: vs)
  ap2 : bb ∉ P.all ∧ bb ∉ Har.blocks hb hq (ve :: vd :: vs)
  ap3 : ∀ g, tsv.ownBlock = some g → g ≠ bb ∧ g ∉ P.all ∧ g ∉ Har.blocks hb hq (ve :: vd :: vs)
  new : ∀ x, (x ∈ P.all ∨ x ∈ Har.blocks hb hq (ve :: vd :: vs) ∨ x = bb ∨ tsv.ownBlock = some x) → w.heap.size ≤ x
  keep : Keep [] w wr

section
variable {w wr w' : World} {bb : Nat} {L : Bk} {slot hb hq : Nat} {vs : List Value} {ve vd : Value} {P : Park} {S : St} {tsv : Value} {H : Har.Har}

/-- all its blocks -/
def benchAll (bb : Nat) (hb hq : Nat) (vs : List Value) (ve vd : Value) (P : Park) (tsv : Value) : List Nat := bb :: (tsv.ownBlock.toList ++ (P.all ++ Har.blocks hb hq (ve :: vd :: vs)))
theorem Bench.lt (h : Bench w wr bb L slot hb hq vs ve vd P S tsv H) : ∀ x ∈ benchAll bb hb hq vs ve vd P tsv, x < wr.heap.size := by
  intro x hx
  simp only [benchAll, List.mem_cons, List.mem_append, Option.mem_toList] at hx
  rcases hx with rfl | hx | hx | hx
  · exact lt_of h.hbb
  · exact (h.thr.lt x hx).2
  · exact h.stand.lt_heap x hx
  · exact h.har.lt x hx
theorem Bench.frame (h : Bench w wr bb L slot hb hq vs ve vd P S tsv H) {T : List Nat} (k : Keep T wr w') (hT : ∀ x ∈ T, x ∉ benchAll bb hb hq vs ve vd P tsv) (kw : Keep [] w w') : Bench w w' bb L slot hb hq vs ve vd P S tsv H := by
  have hn : ∀ x, x ∈ benchAll bb hb hq vs ve vd P tsv → x ∉ T := fun x hx ht => hT x ht hx
  refine ⟨k.old h.hbb (hn _ (by simp [benchAll])), h.ars, h.stand.keep k fun x hx hm => hn x (by simp [benchAll, hm]) hx, h.har.keep k fun x hx hm => hn x (by simp [benchAll, hm]) hx, h.ok, h.few, Har.owns_block h.thr fun g hg => k.block g (h.thr.lt g hg).2 (hn g (by simp [benchAll, hg])), h.ap1, h.ap2, h.ap3, h.new, kw⟩
theorem Bench.frame0 (h : Bench w wr bb L slot hb hq vs ve vd P S tsv H) (k : Keep [] wr w') : Bench w w' bb L slot hb hq vs ve vd P S tsv H := h.frame k (by simp) (h.keep.trans k)

/-- a thread's memory has been made -/
theorem Bench.seat (h : Bench w wr bb L slot hb hq vs ve vd P S tsv H) (s : Seat) (t : Th) (har : s.ar = 0) (ht : ThAt wr s.tb s.pv L.b slot t) (hf : ∀ x ∈ t.prog, ∀ (h0 : 0 < S.ars.length), fitB x S.ars[0].width = true) (hl : t.prog.length ≤ 100) (ha : t.at_ ≤ t.prog.length)
    (n1 : s.tb ∉ benchAll bb hb hq vs ve vd P tsv) (n2 : ∀ g, s.pv.ownBlock = some g → g ∉ benchAll bb hb hq vs ve vd P tsv) (m1 : w.heap.size ≤ s.tb) (m2 : ∀ g, s.pv.ownBlock = some g → w.heap.size ≤ g) :
    Stand (P.more s) wr (S.more t) ∧ (∀ x ∈ (P.more s).all, x ∉ Har.blocks hb hq (ve :: vd :: vs)) ∧ bb ∉ (P.more s).all ∧ (∀ g, tsv.ownBlock = some g → g ∉ (P.more s).all) ∧ (∀ x ∈ (P.more s).all, w.heap.size ≤ x) := by
  have hP : P.ars.length = 1 := by rw [h.ars]; rfl
  have hS : S.ars.length = 1 := by rw [h.stand.la, hP]
  have i1 : ∀ x ∈ P.all, x ∈ benchAll bb hb hq vs ve vd P tsv := fun x hx => by simp [benchAll, hx]
  have i2 : ∀ x ∈ Har.blocks hb hq (ve :: vd :: vs), x ∈ benchAll bb hb hq vs ve vd P tsv := fun x hx => by simp [benchAll, hx]
  have i3 : bb ∈ benchAll bb hb hq vs ve vd P tsv := by simp [benchAll]
  have i4 : ∀ g, tsv.ownBlock = some g → g ∈ benchAll bb hb hq vs ve vd P tsv := fun g hg => by simp [benchAll, hg]
  have h3 : s.ar < P.ars.length := by omega
  have h4 : s.ar < S.ars.length := by omega
  have e0 : P.ars[s.ar] = (L, slot) := by
    have : P.ars[s.ar]? = some (L, slot) := by rw [h.ars, har]; rfl
    rw [List.getElem?_eq_getElem h3] at this
    exact Option.some.inj this
  refine ⟨h.stand.more h3 h4 (by rw [e0]; exact ht) (fun x hx => ?_) hl ha (fun hm => n1 (i1 _ hm)) (fun g hg hm => n2 g hg (i1 _ hm)), fun x hx hm => ?_, fun hm => ?_, fun g hg hm => ?_, fun x hx => ?_⟩
  · have := hf x hx (by omega)
    simp only [har]
    exact this
  · rcases all_more.1 hx with hx | rfl | hx
    · exact h.ap1 x hx hm
    · exact n1 (i2 _ hm)
    · exact n2 x hx (i2 _ hm)
  · rcases all_more.1 hm with hm | hm | hm
    · exact h.ap2.1 hm
    · exact n1 (hm ▸ i3)
    · exact n2 bb hm i3
  · rcases all_more.1 hm with hm | hm | hm
    · exact (h.ap3 g hg).2.1 hm
    · exact n1 (hm ▸ i4 g hg)
    · exact n2 g hm (i4 g hg)
  · rcases all_more.1 hx with hx | rfl | hx
    · exact h.new x (.inl hx)
    · exact m1
    · exact m2 x hx

theorem Bench.since (h : Bench w wr bb L slot hb hq vs ve vd P S tsv H) : Har.Since (machs P) wr (Har.blocks hb hq (ve :: vd :: vs)) wr hb hq vs ve vd H S :=
  ⟨h.har, h.stand, h.ap1, h.ok, h.few, fun x hx => .inl hx, Keep.refl _ _⟩

/-- the harness has been at work -/
theorem Bench.after (h : Bench w wr bb L slot hb hq vs ve vd P S tsv H) {hq' : Nat} {vs' : List Value} {ve' vd' : Value} {H' : Har.Har} {S' : St} (hS : Har.Since (machs P) wr (Har.blocks hb hq (ve :: vd :: vs)) w' hb hq' vs' ve' vd' H' S') : Bench w w' bb L slot hb hq' vs' ve' vd' P S' tsv H' := by
  have hown : ∀ x ∈ Har.blocks hb hq' (ve' :: vd' :: vs'), x ∈ Har.blocks hb hq (ve :: vd :: vs) ∨ wr.heap.size ≤ x := hS.own
  have hlt := h.lt
  have hsz : w.heap.size ≤ wr.heap.size := h.keep.size
  have i3 : bb < wr.heap.size := lt_of h.hbb
  have nb : bb ∉ Har.blocks hb hq (ve :: vd :: vs) ++ P.all := by
    simp only [List.mem_append, not_or]
    exact ⟨h.ap2.2, h.ap2.1⟩
  refine ⟨hS.keep.old h.hbb nb, h.ars, hS.mach, hS.at_, hS.ok, hS.few, Har.owns_block h.thr fun g hg => hS.keep.block g (h.thr.lt g hg).2 ?_, hS.apart, ⟨h.ap2.1, fun hm => ?_⟩, fun g hg => ⟨(h.ap3 g hg).1, (h.ap3 g hg).2.1, fun hm => ?_⟩, ?_, ?_⟩
  · show g ∉ Har.blocks hb hq (ve :: vd :: vs) ++ P.all
    simp only [List.mem_append, not_or]
    exact ⟨(h.ap3 g hg).2.2, (h.ap3 g hg).2.1⟩
  · rcases hown bb hm with h1 | h1
    · exact h.ap2.2 h1
    · omega
  · rcases hown g hm with h1 | h1
    · exact (h.ap3 g hg).2.2 h1
    · have := (h.thr.lt g hg).2
      omega
  · rintro x (hx | hx | rfl | hx)
    · exact h.new x (.inl hx)
    · rcases hown x hx with h1 | h1
      · exact h.new x (.inr (.inl h1))
      · omega
    · exact h.new x (.inr (.inr (.inl rfl)))
    · exact h.new x (.inr (.inr (.inr hx)))
  · refine h.keep.chain hS.keep fun x hx => .inr ?_
    rcases List.mem_append.1 hx with hx | hx
    · exact h.new x (.inr (.inl hx))
    · exact h.new x (.inl hx)

/-- the list of threads has grown -/
theorem Bench.pushT (h : Bench w wr bb L slot hb hq vs ve vd P S tsv H) {s : Seat} {t : Th}
    (hs : Stand (P.more s) wr (S.more t) ∧ (∀ x ∈ (P.more s).all, x ∉ Har.blocks hb hq (ve :: vd :: vs)) ∧ bb ∉ (P.more s).all ∧ (∀ g, tsv.ownBlock = some g → g ∉ (P.more s).all) ∧ (∀ x ∈ (P.more s).all, w.heap.size ≤ x))
    {w7 : World} {tsv' : Value} (hown : w7.ownsRow 0 38 1 tsv' (P.seats.length + 1) ((P.seats.map fun s => ptr s.tb) ++ [ptr s.tb])) (hg : wr.grownBy w7 tsv.ownBlock) (hat : ∀ g, tsv'.ownBlock = some g → tsv.ownBlock = some g ∨ wr.heap.size ≤ g) :
    Bench w (w7.setCell ⟨bb, 2, none⟩ tsv') bb L slot hb hq vs ve vd (P.more s) (S.more t) tsv' H := by
  obtain ⟨h1, h2, h3, h4, h5⟩ := hs
  have k7 : Keep tsv.ownBlock.toList wr w7 := ⟨hg.os, hg.tape, hg.output, hg.size, fun i hi hn => hg.block i hi fun e => hn (by rw [← e]; simp)⟩
  have kk : Keep (bb :: tsv.ownBlock.toList) wr (w7.setCell ⟨bb, 2, none⟩ tsv') := (k7.mono fun x hx => List.mem_cons_of_mem _ hx).set (.inl (List.mem_cons_self ..)) _ _
  have o1 : ∀ x ∈ bb :: tsv.ownBlock.toList, x ∉ (P.more s).all := by
    intro x hx
    simp only [List.mem_cons, Option.mem_toList] at hx
    rcases hx with rfl | hx
    · exact h3
    · exact h4 x hx
  have o2 : ∀ x ∈ bb :: tsv.ownBlock.toList, x ∉ Har.blocks hb hq (ve :: vd :: vs) := by
    intro x hx
    simp only [List.mem_cons, Option.mem_toList] at hx
    rcases hx with rfl | hx
    · exact h.ap2.2
    · exact (h.ap3 x hx).2.2
  have hbo : tsv.ownBlock ≠ some bb := fun e => (h.ap3 bb e).1 rfl
  have hsz : w.heap.size ≤ wr.heap.size := h.keep.size
  have hb7 : w7.heap[bb]? = _ := (hg.block bb (lt_of h.hbb) (fun e => hbo e.symm)).trans h.hbb
  have at' : ∀ g, tsv'.ownBlock = some g → g ≠ bb ∧ g ∉ (P.more s).all ∧ g ∉ Har.blocks hb hq (ve :: vd :: vs) ∧ w.heap.size ≤ g := by
    intro g hg'
    rcases hat g hg' with h6 | h6
    · exact ⟨(h.ap3 g h6).1, h4 g h6, (h.ap3 g h6).2.2, h.new g (.inr (.inr (.inr h6)))⟩
    · exact ⟨fun e => by have := lt_of h.hbb; omega, fun hm => by have := h1.lt_heap g hm; omega, fun hm => by have := h.har.lt g hm; omega, by omega⟩
  refine ⟨by rw [set_same hb7]; rfl, h.ars, h1.keep kk o1, h.har.keep kk o2, fun q hq' j hj => ok_more (h.ok q hq' j hj), h.few, ?_, h2, ⟨h3, h.ap2.2⟩, fun g hg' => ⟨(at' g hg').1, (at' g hg').2.1, (at' g hg').2.2.1⟩, ?_, ?_⟩
  · have e1 : (P.more s).seats.length = P.seats.length + 1 := by simp [Park.more]
    have e2 : ((P.more s).seats.map fun s => ptr s.tb) = (P.seats.map fun s => ptr s.tb) ++ [ptr s.tb] := by simp [Park.more]
    rw [e1, e2]
    exact Har.owns_block hown fun g hg' => set_other (at' g hg').1 _ _
  · rintro x (hx | hx | rfl | hx)
    · exact h5 x hx
    · exact h.new x (.inr (.inl hx))
    · exact h.new x (.inr (.inr (.inl rfl)))
    · exact (at' x hx).2.2.2
  · refine h.keep.chain kk fun x hx => .inr ?_
    simp only [List.mem_cons, Option.mem_toList] at hx
    rcases hx with rfl | hx
    · exact h.new x (.inr (.inr (.inl rfl)))
    · exact h.new x (.inr (.inr (.inr hx)))
end
end Go.Proofs.YtdkdeiofjoccnaaGreat.Lit

/- append([]E(nil), xs...): a copy, wherever xs lies, be it empty or not. -/
namespace Go.Proofs.YtdkdeiofjoccnaaGreat.Lit
open Go.RowKit Go.Proofs.YtdkdeiofjoccnaaGreat.Mem Go.Proofs.YtdkdeiofjoccnaaGreat.Ar Go.Proofs.YtdkdeiofjoccnaaGreat.Un
set_option linter.unusedVariables false
variable {P : Program}

theorem owns_mono {w : World} {base base' : Nat} {e : TypeId} {size : Nat} {v : Value} {n : Nat} {xs : List Value} (h : w.ownsRow base e size v n xs) (hb : base' ≤ base) : w.ownsRow base' e size v n xs :=
  ⟨h.1, h.2.imp id fun ⟨g, cap, cur, h1, h2, h3⟩ => ⟨g, cap, cur, h1, Nat.le_trans hb h2, h3⟩⟩

/-- what a copy is: its address (if there is one), its capacity -/
structure Copied (w w' : World) (e : TypeId) (size : Nat) (a : Option Addr) (m c : Nat) (xs : List Value) : Prop where
  own : w'.ownsRow w.heap.size e size (.slice a m c) m xs
  keep : Keep [] w w'
  at_ : ∀ g, (Value.slice a m c).ownBlock = some g → g = w.heap.size
  first : ∀ g, (Value.slice a m c).ownBlock = some g → w.heap.size < w'.heap.size

theorem run_copy (w : World) (t ty e : TypeId) (i : TypeInfo) (z : Value) (size bytes : Nat) (ht : P.underlying t = some (.slice e)) (hi : P.info? e = some i) (hz : i.zero = some z)
    (hsize : i.size = size) (hby : i.bytes = bytes) (hzs : z.cells.size = size) (hsz : 0 < size) (a : Option Addr) (m c : Nat) (xs : List Value) (hl : xs.length = m * size) (hs : Sees w a xs) (h1 : ∀ u ∈ xs, u.oneCell' = true) (h63 : m ≤ maxLen) (hbytes : m * bytes ≤ 140737488355328) :
    ∃ a' c' w', (Builtin.append_ #[t, t] ty #[.slice none 0 0, .slice a m c]).run P w = .ok (.slice a' m c') w' ∧ Copied w w' e size a' m c' xs := by
  by_cases hm : m = 0
  · subst hm
    have hx : xs = [] := List.eq_nil_of_length_eq_zero (by simpa using hl)
    subst hx
    refine ⟨none, 0, w, ?_, ⟨World.ownsRow_nil w w.heap.size e size, Keep.refl _ _, fun g hg => by simp [Value.ownBlock] at hg, fun g hg => by simp [Value.ownBlock] at hg⟩⟩
    cases a with
    | none => simp [Builtin.append_, run_underlying ht, sizeOf, typeInfo, hi, Builtin.lenOf, Builtin.firstCells]
    | some a => simp [Builtin.append_, run_underlying ht, sizeOf, typeInfo, hi, Builtin.lenOf, Builtin.firstCells, loadCells, loadCellsFrom]
  · have hpos : 0 < xs.length := by rw [hl]; exact Nat.mul_pos (by omega) hsz
    obtain ⟨g, o, rfl, -⟩ := hs.at_ 0 hpos
    have hnews : ∀ j u, xs[j]? = some u → w.cell? ((⟨g, o, none⟩ : Addr).add j) = some u := by
      intro j u hu
      obtain ⟨hj, rfl⟩ := List.getElem?_eq_some_iff.1 hu
      obtain ⟨g', o', e', cc⟩ := hs.at_ j hj
      simp only [Option.some.injEq, Addr.mk.injEq, and_true] at e'
      obtain ⟨rfl, rfl⟩ := e'
      have hadd : (⟨g, o, none⟩ : Addr).add j = ⟨g, o + j, none⟩ := by unfold Addr.add; split <;> simp_all
      rw [hadd, cc]
    obtain ⟨g', cap, w', hr, h2, h3, h4, h5⟩ := run_append_lies (P := P) w t ty w.heap.size e i z size bytes ht hi hz hsize hby hzs hsz (.slice none 0 0) 0 [] (World.ownsRow_nil _ _ _ _) ⟨g, o, none⟩ m c xs hl hnews h1 (by omega) (by omega) (by rw [Nat.zero_add]; exact hbytes) (Nat.le_refl _) w.heap.size rfl
    rw [Nat.zero_add] at hr h2
    rw [List.nil_append] at h2
    refine ⟨_, _, w', hr, ⟨h2, ⟨h3.os, h3.tape, h3.output, h3.size, fun k hk _ => h3.block k hk (by simp [Value.ownBlock])⟩, fun x hx => ?_, fun x hx => ?_⟩⟩
    · have hx' : g' = x := by simpa [Value.ownBlock] using hx
      subst hx'
      exact h4.resolve_left (by simp [Value.ownBlock])
    · have hx' : g' = x := by simpa [Value.ownBlock] using hx
      subst hx'
      have e := h4.resolve_left (by simp [Value.ownBlock])
      omega

/-- at a step of a region that draws -/
theorem step_copy {w : World} {ops : Array Oper} {o : Oper} {act : Act} {K : Act → World → Prop} {Q : Exit → Act → World → Prop} {E : Prop} (hgd : o.guard = none) (y : Operand) (t : TypeId)
    (ho : o.op = .call { callee := .builtin .append, args := #[.const (.slice none 0 0), y], argTypes := #[t, t] })
    (e : TypeId) (i : TypeInfo) (z : Value) (size bytes : Nat) (ht : P.underlying t = some (.slice e)) (hi : P.info? e = some i) (hz : i.zero = some z)
    (hsize : i.size = size) (hby : i.bytes = bytes) (hzs : z.cells.size = size) (hsz : 0 < size) (a : Option Addr) (m c : Nat) (xs : List Value) (hy : act.eval y = .slice a m c) (hl : xs.length = m * size) (hs : Sees w a xs) (h1 : ∀ u ∈ xs, u.oneCell' = true) (h63 : m ≤ maxLen) (hbytes : m * bytes ≤ 140737488355328)
    (hk : ∀ a' c' w', Copied w w' e size a' m c' xs → K (act.put o.dst (.slice a' m c')) w') :
    if Region.wanted o (yielded ops act.tmps) = true then Oper.wp P o act w K Q else E := by
  have hw : Region.wanted o (yielded ops act.tmps) = true := by simp [Region.wanted, hgd]
  rw [if_pos hw]
  obtain ⟨a', c', w', hr, h2⟩ := run_copy (P := P) w t o.type e i z size bytes ht hi hz hsize hby hzs hsz a m c xs hl hs h1 h63 hbytes
  have hc : act.eval (.const (.slice none 0 0)) = .slice none 0 0 := rfl
  unfold Oper.wp execOp
  simp only [ho, resolve, invoke, builtin, Sem.run_bind, Sem.run_pure, Result.andThen_ok, List.map_toArray, List.map_cons, List.map_nil, hc, hy, hr]
  exact hk a' c' w' h2
/-- at a plain region's list -/
theorem wpList_copy {w : World} {ops : Array Oper} {rest : List Oper} {o : Oper} {act : Act} {Q : Exit → Act → World → Prop} (hgd : o.guard = none) (y : Operand) (t : TypeId)
    (ho : o.op = .call { callee := .builtin .append, args := #[.const (.slice none 0 0), y], argTypes := #[t, t] })
    (e : TypeId) (i : TypeInfo) (z : Value) (size bytes : Nat) (ht : P.underlying t = some (.slice e)) (hi : P.info? e = some i) (hz : i.zero = some z)
    (hsize : i.size = size) (hby : i.bytes = bytes) (hzs : z.cells.size = size) (hsz : 0 < size) (a : Option Addr) (m c : Nat) (xs : List Value) (hy : act.eval y = .slice a m c) (hl : xs.length = m * size) (hs : Sees w a xs) (h1 : ∀ u ∈ xs, u.oneCell' = true) (h63 : m ≤ maxLen) (hbytes : m * bytes ≤ 140737488355328)
    (hk : ∀ a' c' w', Copied w w' e size a' m c' xs → wpList P ops Q rest (act.put o.dst (.slice a' m c')) w') : wpList P ops Q (o :: rest) act w := by
  refine wpList_plain hgd fun K hK => ?_
  obtain ⟨a', c', w', hr, h2⟩ := run_copy (P := P) w t o.type e i z size bytes ht hi hz hsize hby hzs hsz a m c xs hl hs h1 h63 hbytes
  have hc : act.eval (.const (.slice none 0 0)) = .slice none 0 0 := rfl
  unfold Oper.wp execOp
  simp only [ho, resolve, invoke, builtin, Sem.run_bind, Sem.run_pure, Result.andThen_ok, List.map_toArray, List.map_cons, List.map_nil, hc, hy, hr]
  exact hK _ _ (hk a' c' w' h2)
end Go.Proofs.YtdkdeiofjoccnaaGreat.Lit
