/- CellsOwned: a slot has one holder at a time, what a holder left is there till the slot is freed, and as long as one is free Alloc gives one. Without conditions. -/
import Derived.Test.YtmdboahjikngeaaRows
import Derived.Test.YtmdboahjikngeaaOwnMain
import Derived.ProofKit
import Derived.OpenShut
import Derived.ShutString
import Derived.ChangeOld
import Derived.Below
import Derived.SizedLaws
import Derived.Deep.Slices
import Derived.Deep.Strs
import Derived.Lib.SmallJoins

namespace Go.Proofs.Ytmdboahjikngeaa.Owned
open Go.RowKit Go.Proofs.Ytmdboahjikngeaa.Mem Go.Proofs.Ytmdboahjikngeaa.Ar Go.ChangeShapes Go.WideShapes Go.ChangeAt
open Go.Deep Go.Joins Go.Proofs.Ytmdboahjikngeaa.Fifo
set_option linter.unusedVariables false

theorem ownK : ownKnob Try.prog.godebug = none := by kernel_rfl
theorem laidOutK : laidOutB Try.prog = true := by kernel_rfl
theorem cellsOp : Try.prog.cellsOf 54 = 7 := by kernel_rfl
theorem cellsInt : Try.prog.cellsOf 3 = 1 := by kernel_rfl
theorem cellsU64 : Try.prog.cellsOf 51 = 1 := by kernel_rfl
theorem cellsWs : Try.prog.cellsOf 52 = 1 := by kernel_rfl
theorem cellsStr : Try.prog.cellsOf 9 = 1 := by kernel_rfl
theorem bytesU64 : Try.prog.bytesOf 51 = 8 := by kernel_rfl

/-- nothing in it weighs more than the row's reach -/
def Light {H : Type} (t : TypeId) (d : DataW H) : Prop := ∀ n ∈ d.weights Try.prog t, n ≤ reachBytes

section
variable {H : Type} {enc0 : TypeId × Value → H} {W : World} {base : Nat} {spare : Nat → Bool} {held : Bool}

theorem weights_mem_all {P : Program} {e : TypeId} : ∀ {l : List (DataW H)} {d : DataW H}, d ∈ l → ∀ n ∈ d.weights P e, n ∈ DataW.weightsAll P e l
  | x :: r, d, h, n, hn => by
    simp only [DataW.weightsAll, List.mem_append]
    rcases List.mem_cons.1 h with rfl | h
    · exact .inl hn
    · exact .inr (weights_mem_all h n hn)

theorem trod_struct7 {P : Program} {t : TypeId} {f0 f1 f2 f3 f4 f5 f6 : Field} {fuel : Nat} {cs : List Value} {x : DataW H × List MemPlace} (ht : P.underlying t = some (.struct #[f0, f1, f2, f3, f4, f5, f6])) (h : DataW.trod enc0 P W base spare held fuel t cs = some x) :
    ∃ y0 y1 y2 y3 y4 y5 y6 n, x.1 = .agg [y0.1, y1.1, y2.1, y3.1, y4.1, y5.1, y6.1] ∧ cs.length = P.cellsOf t ∧ DataW.trod enc0 P W base spare held n f0.type ((cs.drop f0.offset).take (P.cellsOf f0.type)) = some y0 ∧
      DataW.trod enc0 P W base spare held n f1.type ((cs.drop f1.offset).take (P.cellsOf f1.type)) = some y1 ∧ DataW.trod enc0 P W base spare held n f2.type ((cs.drop f2.offset).take (P.cellsOf f2.type)) = some y2 ∧
      DataW.trod enc0 P W base spare held n f3.type ((cs.drop f3.offset).take (P.cellsOf f3.type)) = some y3 ∧ DataW.trod enc0 P W base spare held n f4.type ((cs.drop f4.offset).take (P.cellsOf f4.type)) = some y4 ∧
      DataW.trod enc0 P W base spare held n f5.type ((cs.drop f5.offset).take (P.cellsOf f5.type)) = some y5 ∧ DataW.trod enc0 P W base spare held n f6.type ((cs.drop f6.offset).take (P.cellsOf f6.type)) = some y6 := by
  obtain ⟨xs, n, _, rfl, hl, hlen, hf⟩ := DataW.trod_struct ht h
  match xs, hlen with
  | [y0, y1, y2, y3, y4, y5, y6], _ => exact ⟨y0, y1, y2, y3, y4, y5, y6, n, by simp, hl, by simpa using hf 0 f0 rfl, by simpa using hf 1 f1 rfl, by simpa using hf 2 f2 rfl, by simpa using hf 3 f3 rfl, by simpa using hf 4 f4 rfl, by simpa using hf 5 f5 rfl, by simpa using hf 6 f6 rfl⟩

theorem addr_plain (b off j : Nat) : (⟨b, off, none⟩ : Addr).add j = ⟨b, off + j, none⟩ := by unfold Addr.add; split <;> simp_all

/-- a list of words that came in -/
theorem words_open {n : Nat} {cs : List Value} {x : DataW H × List MemPlace} (h : DataW.trod enc0 Try.prog W base spare held n 52 cs = some x) (hl : Light 52 x.1) :
    ∃ (a : Option Addr) (cap : Nat) (zs : List Int), cs = [.slice a zs.length cap] ∧ Came .u64 W a zs.length zs ∧ zs.length ≤ 17592186043904 := by
  rcases open_slice1 Try.underlying52 cellsU64 h with ⟨rfl, hx⟩ | ⟨a, len, cap, m, n, V, D, Pl, rfl, _, hlc, hm, hmm, hx, hcell⟩
  · exact ⟨none, 0, [], rfl, ⟨fun i hi => by simp at hi⟩, Nat.zero_le _⟩
  · have hlm : len ≤ m := by rw [hmm]; split <;> omega
    have key : ∀ i, i < len → ∃ z : Int, W.cell? (a.add i) = some (.int .u64 z) := by
      intro i hi
      obtain ⟨h1, h2⟩ := hcell i (by omega)
      obtain ⟨z, ez, _⟩ := DataW.trod_int Try.underlying51 h2
      rw [(List.cons.inj ez).1] at h1
      exact ⟨z, h1⟩
    obtain ⟨f, hf⟩ := choose_lt key
    refine ⟨some a, cap, (List.range len).map f, by simp, ⟨fun i hi => ?_⟩, ?_⟩
    · have hi' : i < len := by simpa using hi
      have g := hf i hi'
      obtain ⟨b, off, spot⟩ := a
      have hspot : spot = none := by simpa [Addr.add] using World.cell?_spot (hf 0 (by omega))
      subst hspot
      refine ⟨b, off, rfl, ?_⟩
      rw [addr_plain] at g
      simpa [nth, List.getD_eq_getElem?_getD, hi'] using g
    · have hw := hl ((((List.range len).map D).length + ((List.range (m - len)).map fun j => D (len + j)).length) * Try.prog.bytesOf 51) (by
        rw [hx]
        simp only [DataW.weights]
        rw [Try.underlying52]
        exact List.mem_cons_self ..)
      rw [bytesU64] at hw
      simp only [List.length_map, List.length_range] at hw ⊢
      have : reachBytes = 140737488351232 := rfl
      omega

set_option maxRecDepth 100000 in
/-- a call that came in -/
theorem op_open {n : Nat} {cs : List Value} {x : DataW H × List MemPlace} (h : DataW.trod enc0 Try.prog W base spare held n 54 cs = some x) (hl : Light 54 x.1) :
    ∃ (k s c a b : Int) (ad : Option Addr) (cap : Nat) (zs : List Int) (p : ByteArray), cs = [.int .i64 k, .int .i64 s, .int .i64 c, .int .u64 a, .int .u64 b, .slice ad zs.length cap, .string p] ∧ Came .u64 W ad zs.length zs ∧ zs.length ≤ 17592186043904 := by
  obtain ⟨y0, y1, y2, y3, y4, y5, y6, m, hx, hlc, h0, h1, h2, h3, h4, h5, h6⟩ := trod_struct7 Try.underlying54 h
  have hl5 : Light 52 y5.1 := fun n hn => hl n (by
    rw [hx]
    simp only [DataW.weights]
    rw [Try.underlying54]
    exact DataW.weights_mem_each (j := 5) rfl rfl n hn)
  have hl7 : cs.length = 7 := hlc.trans cellsOp
  match cs, hl7 with
  | [c0, c1, c2, c3, c4, c5, c6], _ =>
    obtain ⟨k, e0, _⟩ := DataW.trod_int Try.underlying3 (by simpa [cellsInt] using h0 : DataW.trod enc0 Try.prog W base spare held m 3 [c0] = some y0)
    obtain ⟨s, e1, _⟩ := DataW.trod_int Try.underlying3 (by simpa [cellsInt] using h1 : DataW.trod enc0 Try.prog W base spare held m 3 [c1] = some y1)
    obtain ⟨c, e2, _⟩ := DataW.trod_int Try.underlying3 (by simpa [cellsInt] using h2 : DataW.trod enc0 Try.prog W base spare held m 3 [c2] = some y2)
    obtain ⟨a, e3, _⟩ := DataW.trod_int Try.underlying51 (by simpa [cellsU64] using h3 : DataW.trod enc0 Try.prog W base spare held m 51 [c3] = some y3)
    obtain ⟨b, e4, _⟩ := DataW.trod_int Try.underlying51 (by simpa [cellsU64] using h4 : DataW.trod enc0 Try.prog W base spare held m 51 [c4] = some y4)
    obtain ⟨ad, cap, zs, e5, hc, hb⟩ := words_open (by simpa [cellsWs] using h5 : DataW.trod enc0 Try.prog W base spare held m 52 [c5] = some y5) hl5
    obtain ⟨p, e6, _⟩ := DataW.trod_string Try.underlying9 (by simpa [cellsStr] using h6 : DataW.trod enc0 Try.prog W base spare held m 9 [c6] = some y6)
    refine ⟨k, s, c, a, b, ad, cap, zs, p, ?_, hc, hb⟩
    rw [(List.cons.inj e0).1, (List.cons.inj e1).1, (List.cons.inj e2).1, (List.cons.inj e3).1, (List.cons.inj e4).1, (List.cons.inj e5).1, (List.cons.inj e6).1]

set_option maxRecDepth 100000 in
theorem ops_open {n : Nat} {c : Value} {x : DataW H × List MemPlace} (h : DataW.trod enc0 Try.prog W base spare held n 25 [c] = some x) (hl : Light 25 x.1) :
    ∃ (a : Option Addr) (len cap : Nat), c = .slice a len cap ∧ len ≤ 9223372036854775807 ∧ Ops W a len := by
  rcases open_slice Try.underlying25 h with ⟨hcs, hx⟩ | ⟨a, len, cap, m, n, D, Pl, hcs, _, hlc, hm, hmm, hx, hcell⟩
  · exact ⟨none, 0, 0, (List.cons.inj hcs).1, by omega, ⟨fun i hi => by omega⟩⟩
  · unfold maxLen at hm
    have hlm : len ≤ m := by rw [hmm]; split <;> omega
    refine ⟨some a, len, cap, (List.cons.inj hcs).1, by omega, ⟨fun i hi => ?_⟩⟩
    have cellAt : ∀ i, i < len → ∃ (k s c a1 b : Int) (ad : Option Addr) (cap : Nat) (zs : List Int) (p : ByteArray), W.cells? base (a.add (i * 7)) 7 = some [.int .i64 k, .int .i64 s, .int .i64 c, .int .u64 a1, .int .u64 b, .slice ad zs.length cap, .string p] ∧ Came .u64 W ad zs.length zs ∧ zs.length ≤ 17592186043904 := by
      intro i hi
      obtain ⟨cs', h1, h2⟩ := hcell i (by omega)
      obtain ⟨k, s, c, a1, b, ad, cp, zs, p, rfl, hc, hz⟩ := op_open h2 (fun n hn => hl n (by
        rw [hx]
        simp only [DataW.weights]
        rw [Try.underlying25]
        exact List.mem_cons_of_mem _ (List.mem_append_left _ (weights_mem_all (List.mem_map.2 ⟨i, List.mem_range.2 hi, rfl⟩) n hn))))
      rw [cellsOp] at h1
      exact ⟨k, s, c, a1, b, ad, cp, zs, p, h1, hc, hz⟩
    obtain ⟨k, s, c, a1, b, ad, cp, zs, p, h1, hc, hz⟩ := cellAt i hi
    obtain ⟨_, _, hcs7⟩ := World.cells?_some h1
    obtain ⟨g, o, spot⟩ := a
    have hspot : spot = none := by
      obtain ⟨k', s', c', a', b', ad', cp', zs', p', h1', _, _⟩ := cellAt 0 (by omega)
      obtain ⟨_, _, hcs0⟩ := World.cells?_some h1'
      have := World.cell?_spot (hcs0 0 (by omega))
      simpa [Addr.add] using this
    subst hspot
    rw [addr_plain] at hcs7
    have q := fun j (hj : j < 7) => hcs7 j hj
    simp only [addr_plain] at q
    exact ⟨g, o, k, s, c, a1, b, ad, cp, zs, p, rfl, hc, hz, q 0 (by omega), q 1 (by omega), q 2 (by omega), q 3 (by omega), q 4 (by omega), q 5 (by omega), q 6 (by omega)⟩
end

theorem cellsScript : Try.prog.cellsOf 27 = 3 := by kernel_rfl
theorem walk (n m : Int) (a : Option Addr) (len cap : Nat) (w : World) (hops : Ops w a len) (hlen : len ≤ 9223372036854775807) :
    Calls Try.prog 6 #[.agg #[.int .i64 n, .int .i64 m, .slice a len cap]] w fun e w' => e = .returned (.bool true) ∧ Below w.heap.size w w' := by
  by_cases h : 1 ≤ n ∧ n ≤ 4096 ∧ 1 ≤ m ∧ m ≤ 16
  · obtain ⟨n, rfl⟩ : ∃ k : Nat, n = k := ⟨n.toNat, by omega⟩
    obtain ⟨m, rfl⟩ : ∃ k : Nat, m = k := ⟨m.toNat, by omega⟩
    exact main_ok n m a len cap w (by omega) (by omega) (by omega) (by omega) hops hlen
  · exact main_bad n m _ w h

set_option maxRecDepth 100000 in
theorem contract (H : Type) (enc : TypeId × Value → H) (W : World) (base : Nat) (args : Array Value) (ds gs : List (DataW H)) (before : List MemPlace)
    (hval : ∀ (j : Nat) t v, Try.f6.params[j]? = some t → args[j]? = some v → Value.okWide Try.prog W .any base t v)
    (hW : DataW.Whole enc Try.prog Try.f6.params.toList Rows.cellsOwnedSpec.vars false W args.toList ds gs before)
    (hz : (DataW.weightsEach Try.prog (Try.f6.params.toList ++ Rows.cellsOwnedSpec.plain.varTypes Try.prog) (ds ++ gs)).all (· ≤ reachBytes) = true) :
    Calls Try.prog 6 args W fun e W' => ∃ v, e = .returned v ∧ Rows.cellsOwnedSpec.post enc Try.prog Try.f6 false true false false W args v W' := by
  have hW' := hW
  obtain ⟨p, q, hA0, hV, rfl, hfz, hnd⟩ := hW
  have hA : DataW.TrodAll enc Try.prog W 0 (fun _ => true) true Try.f6.params.toList args.toList ds p := hA0
  rw [Try.params6] at hA hval hz
  obtain ⟨v0, vs0, d0, ds0, p0, q0, hargs, rfl, rfl, h0, r0⟩ := trodAll_cons hA
  obtain ⟨rfl, rfl, rfl⟩ := trodAll_nil r0
  obtain rfl : args = #[v0] := by cases args; simp_all
  obtain ⟨rfl, rfl⟩ := trodVars_none hV
  have k0 := h0
  have lt0 : ∀ x ∈ p0, x.block < W.heap.size := by obtain ⟨m, hm⟩ := k0; exact DataW.trod_lt m _ _ _ hm
  have hl0 : Light 27 d0 := fun n hn => by
    have := List.all_eq_true.1 hz n (DataW.weights_mem_each (j := 0) rfl rfl n hn)
    exact of_decide_eq_true this
  obtain ⟨c0, c1, c2, y0, y1, y2, m, rfl, hd, hp0, hy0, hy1, hy2⟩ := open_agg3 Try.underlying27 (by kernel_rfl) cellsScript (hval 0 27 v0 rfl rfl) h0
  obtain ⟨a, e0, _, _⟩ := DataW.trod_int Try.underlying3 hy0
  obtain ⟨b, e1, _, _⟩ := DataW.trod_int Try.underlying3 hy1
  simp at e0 e1
  subst e0 e1
  have hl2 : Light 25 y2.1 := fun n hn => hl0 n (by
    rw [hd]
    simp only [DataW.weights]
    rw [Try.underlying27]
    exact DataW.weights_mem_each (j := 2) rfl rfl n hn)
  obtain ⟨ad, len, cap, rfl, hlen, hops⟩ := ops_open hy2 hl2
  clear hA0
  refine (walk a b ad len cap W hops hlen).mono fun e W' ⟨he, bel⟩ => ?_
  subst he
  exact ⟨_, rfl, ⟨_, _, _, [], _, [], hW', trodAll_mk1 (shut_bool Try.underlying4 _), (trodAll_cons_mk (Below.trod laidOutK (by kernel_rfl) (of_decide_eq_true (by kernel_rfl)) k0 bel lt0) trodAll_mk0), rfl, bel.frame _, fun h => by cases h⟩⟩

set_option maxRecDepth 100000 in
theorem lifted (os : Os) (started : os.Started) (H : Type) (enc : TypeId × Value → H) :
    ReturnsInHanded {} Try.checked os 6 .any (Rows.cellsOwnedSpec.pre6 enc Try.prog Try.f6 Rows.cellsOwnedRow.domain false) (Rows.cellsOwnedSpec.post enc Try.prog Try.f6 false true false false) := by
  refine returnsInHanded_of_change_sized (C := Try.checked) ownK started (by kernel_rfl) Try.func6
    (ChangeSpec.witness6 (enc := enc) (C := Try.checked) false ⟨#[], #[.agg #[.int .i64 0, .int .i64 0, .slice none 0 0]], []⟩ 8 (by kernel_rfl) (by kernel_rfl) (by kernel_rfl) (by kernel_rfl)) ?_
  intro W base args ds gs before hval hW _ hz _
  exact contract H enc W base args ds gs before hval hW hz

theorem over : Rows.cellsOwnedRow.holds Try.pinned (OpenSpec.ofChange Rows.cellsOwnedSpec) :=
  OpenClaim.holds_of_wide 6 Try.f6 rfl rfl rfl rfl rfl rfl rfl ⟨rfl, rfl, rfl, rfl, rfl⟩ rfl rfl rfl rfl rfl (by kernel_rfl) Try.func6 (by kernel_rfl)
    (of_decide_eq_true (by kernel_rfl)) (by unfold Func.isWrapper; first | (rw [if_pos (by decide +kernel)]; kernel_rfl) | (rw [if_neg (by decide +kernel)]; exact ⟨rfl, rfl⟩))
    (fun os started H enc _ => lifted os started H enc)

theorem proved : Rows.CellsOwnedSaid := over
end Go.Proofs.Ytmdboahjikngeaa.Owned
