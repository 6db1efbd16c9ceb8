import Derived.Test.YtdkdeiofjoccnaaGreatOver
import Derived.Test.YtdkdeiofjoccnaaGreatTwin
import Derived.BigQuiet
/- Events that lie in memory. -/
namespace Go.Proofs.YtdkdeiofjoccnaaGreat.Lit
open Go.RowKit Go.Proofs.YtdkdeiofjoccnaaGreat.Mem Go.Proofs.YtdkdeiofjoccnaaGreat.Ar Go.Proofs.YtdkdeiofjoccnaaGreat.Un
open Go.Proofs.YtdkdeiofjoccnaaGreat.Har (Ev evs)
set_option linter.unusedVariables false
set_option maxRecDepth 100000

/-- events that lie in memory -/
structure EvsIn (w : World) (a : Option Addr) (es : List Ev) : Prop where
  cell : ∀ (i : Nat) (hi : i < es.length), ∃ g, a = some ⟨g, 0, none⟩ ∧ w.cell? ⟨g, i * 4, none⟩ = some (.int .i64 es[i].kind) ∧ w.cell? ⟨g, i * 4 + 1, none⟩ = some (.int .i64 es[i].who) ∧ w.cell? ⟨g, i * 4 + 2, none⟩ = some (.int .i64 es[i].tag) ∧ w.cell? ⟨g, i * 4 + 3, none⟩ = some (.int .i64 es[i].at_)
theorem EvsIn.keep {w w' : World} {a : Option Addr} {es : List Ev} (h : EvsIn w a es) (k : Keep [] w w') : EvsIn w' a es :=
  ⟨fun i hi => let ⟨g, e, c0, c1, c2, c3⟩ := h.cell i hi; ⟨g, e, k.cell c0 (by simp), k.cell c1 (by simp), k.cell c2 (by simp), k.cell c3 (by simp)⟩⟩
theorem evs_at (es : List Ev) (i j : Nat) (hi : i < es.length) (hj : j < 4) : (evs es)[i * 4 + j]? = es[i].cells[j]? := by
  induction es generalizing i with
  | nil => simp at hi
  | cons e es ih =>
    rw [show evs (e :: es) = e.cells ++ evs es from rfl]
    cases i with
    | zero => rw [List.getElem?_append_left (by simp [Ev.cells]; omega)]; simp
    | succ i =>
      rw [List.getElem?_append_right (by simp [Ev.cells]; omega)]
      have := ih i (by simpa using hi)
      rw [show (i + 1) * 4 + j - e.cells.length = i * 4 + j by simp [Ev.cells]; omega, this]
      simp
theorem evsIn_of {w : World} {base : Nat} {v : Value} {es : List Ev} (h : w.ownsRow base 190 4 v es.length (evs es)) : ∃ a c, v = .slice a es.length c ∧ EvsIn w a es := by
  rcases h.2 with ⟨e, h0⟩ | ⟨g, cap, cur, e, -⟩
  · exact ⟨none, 0, by rw [e, h0], ⟨fun i hi => by omega⟩⟩
  · refine ⟨some ⟨g, 0, none⟩, cap, e, ⟨fun i hi => ⟨g, rfl, ?_⟩⟩⟩
    have key : ∀ j, j < 4 → w.cell? ⟨g, i * 4 + j, none⟩ = es[i].cells[j]? := by
      intro j hj
      have h1 := h.cells (g := g) (by rw [e]; rfl) (i * 4 + j)
      have e2 : (⟨g, 0, none⟩ : Addr).add (i * 4 + j) = ⟨g, i * 4 + j, none⟩ := by unfold Addr.add; split <;> simp_all
      rw [e2, evs_at es i j hi hj] at h1
      have h4 : es[i].cells[j]? = some (es[i].cells[j]'(by simp [Ev.cells]; omega)) := List.getElem?_eq_getElem _
      rw [h4]
      exact h1 _ h4
    exact ⟨key 0 (by omega), key 1 (by omega), key 2 (by omega), key 3 (by omega)⟩

end Go.Proofs.YtdkdeiofjoccnaaGreat.Lit

/- stratalaw03.sameEvents: the walk; two lists of events that hold the same. -/
namespace Go.Proofs.YtdkdeiofjoccnaaGreat.Lit
open Go.RowKit Go.Proofs.YtdkdeiofjoccnaaGreat.Mem Go.Proofs.YtdkdeiofjoccnaaGreat.Ar Go.Proofs.YtdkdeiofjoccnaaGreat.Un
open Go.Proofs.YtdkdeiofjoccnaaGreat.Har (Ev evs)
set_option linter.unusedVariables false
set_option maxRecDepth 100000

section
variable {P : Program} {d : Nat} {xs ys : Array Value} {f : Field} {fs : List Field} {a b : Value} {r s : Bool} {w : World}
theorem eqf_last (hn : (f.name == "_") = false) (ha : (part f.type xs f.offset).run P w = .ok a w) (hb : (part f.type ys f.offset).run P w = .ok b w) (he : (Op.equalIn d f.type a b).run P w = .ok r w) : (Op.eqFields d xs ys [f]).run P w = .ok r w := by
  have hn' : f.name ≠ "_" := by simpa using hn
  simp only [Op.eqFields, if_pos hn', Sem.run_bind, ha, hb, he, Result.andThen_ok]
  cases r <;> simp
theorem eqf_cons (hn : (f.name == "_") = false) (ha : (part f.type xs f.offset).run P w = .ok a w) (hb : (part f.type ys f.offset).run P w = .ok b w) (he : (Op.equalIn d f.type a b).run P w = .ok r w) (hr : (Op.eqFields d xs ys fs).run P w = .ok s w) : (Op.eqFields d xs ys (f :: fs)).run P w = .ok (r && s) w := by
  have hn' : f.name ≠ "_" := by simpa using hn
  rw [Op.eqFields]
  simp only [if_pos hn', Sem.run_bind, ha, hb, he, Result.andThen_ok]
  cases r
  · simp
  · simpa using hr
theorem eqA_of {t : TypeId} {fs : Array Field} (hu : P.underlying t = some (.struct fs)) (hp : P.stoodInHeld t = false) (h : (Op.eqFields d xs ys fs.toList).run P w = .ok r w) : (Op.equalIn (d + 1) t (.agg xs) (.agg ys)).run P w = .ok r w := by
  have hf : P.fieldsOf t = fs := by simp [Program.fieldsOf, hu]
  rw [run_equalIn_struct (P := P) w d t xs ys (by rw [hf]; exact hu) hp, hf]
  exact h
end
theorem eqEvent (d : Nat) (w : World) (x0 y0 x1 y1 x2 y2 x3 y3 : Int) :
    (Op.equalIn (d + 2) 190 (.agg #[.int .i64 x0, .int .i64 x1, .int .i64 x2, .int .i64 x3]) (.agg #[.int .i64 y0, .int .i64 y1, .int .i64 y2, .int .i64 y3])).run Tryz.prog w = .ok (x0 == y0 && (x1 == y1 && (x2 == y2 && (x3 == y3)))) w := by
  refine eqA_of Tryz.underlying190 (by kernel_rfl) ?_
  refine eqf_cons (by rfl) (by go_simp; rfl) (by go_simp; rfl) (by go_simp) ?_
  refine eqf_cons (by rfl) (by go_simp; rfl) (by go_simp; rfl) (by go_simp) ?_
  refine eqf_cons (by rfl) (by go_simp; rfl) (by go_simp; rfl) (by go_simp) ?_
  exact eqf_last (by rfl) (by go_simp; rfl) (by go_simp; rfl) (by go_simp)

set_option maxHeartbeats 2000000 in
theorem sameEv {a1 a2 : Option Addr} {cap1 cap2 : Nat} {l : List Ev} {w : World} (h1 : EvsIn w a1 l) (h2 : EvsIn w a2 l) (hl : l.length ≤ 1000000000000) :
    Calls Tryz.prog 50 #[.slice a1 l.length cap1, .slice a2 l.length cap2] w fun e w' => e = .returned (.bool true) ∧ ∃ m, w' = w.drewN m := by
  have C1 := Lib.hid h1.cell
  have C2 := Lib.hid h2.cell
  clear h1 h2
  have heq := eqEvent
  go_enter Tryz.func50, Tryz.ntmps50
  go_wp2_with fail
  go_loopw [5] (fun i wr => ∃ (j : Nat) (m : Nat), j ≤ l.length ∧ i = .int .i64 j ∧ wr = w.drewN m) (fun i _ => l.length - (intOf i).toNat)
  case atStart => exact ⟨0, 0, Nat.zero_le _, rfl, rfl⟩
  case round =>
    obtain ⟨j, m, hj, rfl, rfl⟩ := hrel
    by_cases hlt : j < l.length
    · obtain ⟨g1, rfl, p0, p1, p2, p3⟩ := C1.out j hlt
      obtain ⟨g2, rfl, q0, q1, q2, q3⟩ := C2.out j hlt
      generalize l[j].kind = x0 at *
      generalize l[j].who = x1 at *
      generalize l[j].tag = x2 at *
      generalize l[j].at_ = x3 at *
      go_wp2_with fail
      go_quiet (fail)
      go_wp2_with fail
      go_roundw
      case rel => exact ⟨j + 1, _, hlt, by go_num, rfl⟩
      case measure => simp [intOf]; omega
    · go_wp2_with fail
      go_ret
      exact ⟨rfl, m, rfl⟩

/-- another's memory is changed -/
theorem Yard.off {w wr w' : World} {hb hq : Nat} {vs : List Value} {ve vd : Value} {P : Park} {S : St} {H : Har.Har} {T : List Nat} (h : Yard w wr hb hq vs ve vd P S H) (k : Keep T wr w') (hT : ∀ x ∈ T, x ∉ P.all ∧ x ∉ Har.blocks hb hq (ve :: vd :: vs)) (kb : Keep [] w w') : Yard w w' hb hq vs ve vd P S H :=
  ⟨h.stand.keep k fun x hx => (hT x hx).1, h.har.keep k fun x hx => (hT x hx).2, h.ok, h.few, h.ap1, h.new, kb⟩

theorem min_run (b m : Nat) (w : World) : (Builtin.min_ #[3, 3] 3 #[.int .i64 b, .int .i64 (m : Int)]).run Tryz.prog w = .ok (.int .i64 ((min b m : Nat) : Int)) w := by
  rcases Nat.lt_trichotomy b m with h | h | h
  · rw [Nat.min_eq_left (by omega)]
    have h3 : ¬ (m : Int) < b := by omega
    simp [Builtin.min_, Builtin.min2, h3]
  · subst h
    have h3 : ¬ (b : Int) < b := by omega
    simp [Builtin.min_, Builtin.min2, h3]
  · rw [Nat.min_eq_right (by omega)]
    have h2 : (m : Int) < b := by omega
    simp [Builtin.min_, Builtin.min2, h2]
end Go.Proofs.YtdkdeiofjoccnaaGreat.Lit
