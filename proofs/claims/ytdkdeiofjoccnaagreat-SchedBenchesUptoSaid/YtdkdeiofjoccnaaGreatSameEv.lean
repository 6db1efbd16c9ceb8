/- stratalaw03.sameEvents: the walk; two lists of events that hold the same. -/
import Derived.Test.YtdkdeiofjoccnaaGreatEvsIn
import Derived.Test.YtdkdeiofjoccnaaGreatTwin
import Derived.BigQuiet
namespace Go.Proofs.YtdkdeiofjoccnaaGreat.Lit
open Go.RowKit Go.Proofs.YtdkdeiofjoccnaaGreat.Mem Go.Proofs.YtdkdeiofjoccnaaGreat.Ar Go.Proofs.YtdkdeiofjoccnaaGreat.Un
open Go.Proofs.YtdkdeiofjoccnaaGreat.Har (Ev evs)
set_option linter.unusedVariables false
set_option maxRecDepth 100000

section
variable {P : Program} {d : Nat} {xs ys : Array Value} {f : Field} {fs : List Field} {a b : Value} {r s : Bool} {w : World}
theorem eqf_last (hn : (f.name == "_") = false) (ha : (part f.type xs f.offset).run P w = .ok a w) (hb : (part f.type ys f.offset).run P w = .ok b w) (he : (Op.equalIn d f.type a b).run P w = .ok r w) : (Op.eqFields d xs ys [f]).run P w = .ok r w := by
  have hn' : f.name ≠ "_" := by simpa using hn
  simp only [Op.eqFields, if_pos hn', Sem.run_bind, ha, hb, he, Result.andThen_ok]
  cases r <;> simp
theorem eqf_cons (hn : (f.name == "_") = false) (ha : (part f.type xs f.offset).run P w = .ok a w) (hb : (part f.type ys f.offset).run P w = .ok b w) (he : (Op.equalIn d f.type a b).run P w = .ok r w) (hr : (Op.eqFields d xs ys fs).run P w = .ok s w) : (Op.eqFields d xs ys (f :: fs)).run P w = .ok (r && s) w := by
  have hn' : f.name ≠ "_" := by simpa using hn
  rw [Op.eqFields]
  simp only [if_pos hn', Sem.run_bind, ha, hb, he, Result.andThen_ok]
  cases r
  · simp
  · simpa using hr
theorem eqA_of {t : TypeId} {fs : Array Field} (hu : P.underlying t = some (.struct fs)) (hp : P.stoodInHeld t = false) (h : (Op.eqFields d xs ys fs.toList).run P w = .ok r w) : (Op.equalIn (d + 1) t (.agg xs) (.agg ys)).run P w = .ok r w := by
  have hf : P.fieldsOf t = fs := by simp [Program.fieldsOf, hu]
  rw [run_equalIn_struct (P := P) w d t xs ys (by rw [hf]; exact hu) hp, hf]
  exact h
end
theorem eqEvent (d : Nat) (w : World) (x0 y0 x1 y1 x2 y2 x3 y3 : Int) :
    (Op.equalIn (d + 2) 190 (.agg #[.int .i64 x0, .int .i64 x1, .int .i64 x2, .int .i64 x3]) (.agg #[.int .i64 y0, .int .i64 y1, .int .i64 y2, .int .i64 y3])).run Tryz.prog w = .ok (x0 == y0 && (x1 == y1 && (x2 == y2 && (x3 == y3)))) w := by
  refine eqA_of Tryz.underlying190 (by kernel_rfl) ?_
  refine eqf_cons (by rfl) (by go_simp; rfl) (by go_simp; rfl) (by go_simp) ?_
  refine eqf_cons (by rfl) (by go_simp; rfl) (by go_simp; rfl) (by go_simp) ?_
  refine eqf_cons (by rfl) (by go_simp; rfl) (by go_simp; rfl) (by go_simp) ?_
  exact eqf_last (by rfl) (by go_simp; rfl) (by go_simp; rfl) (by go_simp)

set_option maxHeartbeats 2000000 in
theorem sameEv {a1 a2 : Option Addr} {cap1 cap2 : Nat} {l : List Ev} {w : World} (h1 : EvsIn w a1 l) (h2 : EvsIn w a2 l) (hl : l.length ≤ 1000000000000) :
    Calls Tryz.prog 50 #[.slice a1 l.length cap1, .slice a2 l.length cap2] w fun e w' => e = .returned (.bool true) ∧ ∃ m, w' = w.drewN m := by
  have C1 := Lib.hid h1.cell
  have C2 := Lib.hid h2.cell
  clear h1 h2
  have heq := eqEvent
  go_enter Tryz.func50, Tryz.ntmps50
  go_wp2_with fail
  go_loopw [5] (fun i wr => ∃ (j : Nat) (m : Nat), j ≤ l.length ∧ i = .int .i64 j ∧ wr = w.drewN m) (fun i _ => l.length - (intOf i).toNat)
  case atStart => exact ⟨0, 0, Nat.zero_le _, rfl, rfl⟩
  case round =>
    obtain ⟨j, m, hj, rfl, rfl⟩ := hrel
    by_cases hlt : j < l.length
    · obtain ⟨g1, rfl, p0, p1, p2, p3⟩ := C1.out j hlt
      obtain ⟨g2, rfl, q0, q1, q2, q3⟩ := C2.out j hlt
      generalize l[j].kind = x0 at *
      generalize l[j].who = x1 at *
      generalize l[j].tag = x2 at *
      generalize l[j].at_ = x3 at *
      go_wp2_with fail
      go_quiet (fail)
      go_wp2_with fail
      go_roundw
      case rel => exact ⟨j + 1, _, hlt, by go_num, rfl⟩
      case measure => simp [intOf]; omega
    · go_wp2_with fail
      go_ret
      exact ⟨rfl, m, rfl⟩

/-- another's memory is changed -/
theorem Yard.off {w wr w' : World} {hb hq : Nat} {vs : List Value} {ve vd : Value} {P : Park} {S : St} {H : Har.Har} {T : List Nat} (h : Yard w wr hb hq vs ve vd P S H) (k : Keep T wr w') (hT : ∀ x ∈ T, x ∉ P.all ∧ x ∉ Har.blocks hb hq (ve :: vd :: vs)) (kb : Keep [] w w') : Yard w w' hb hq vs ve vd P S H :=
  ⟨h.stand.keep k fun x hx => (hT x hx).1, h.har.keep k fun x hx => (hT x hx).2, h.ok, h.few, h.ap1, h.new, kb⟩

theorem min_run (b m : Nat) (w : World) : (Builtin.min_ #[3, 3] 3 #[.int .i64 b, .int .i64 (m : Int)]).run Tryz.prog w = .ok (.int .i64 ((min b m : Nat) : Int)) w := by
  rcases Nat.lt_trichotomy b m with h | h | h
  · rw [Nat.min_eq_left (by omega)]
    have h3 : ¬ (m : Int) < b := by omega
    simp [Builtin.min_, Builtin.min2, h3]
  · subst h
    have h3 : ¬ (b : Int) < b := by omega
    simp [Builtin.min_, Builtin.min2, h3]
  · rw [Nat.min_eq_right (by omega)]
    have h2 : (m : Int) < b := by omega
    simp [Builtin.min_, Builtin.min2, h2]
end Go.Proofs.YtdkdeiofjoccnaaGreat.Lit
