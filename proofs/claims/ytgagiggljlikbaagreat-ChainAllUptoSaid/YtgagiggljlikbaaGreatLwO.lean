import Derived.Test.YtgagiggljlikbaaGreatLwN
import Derived.Test.YtgagiggljlikbaaGreatLwL
/- Layer 4's scripts: world.last. -/
namespace Go.Proofs.YtgagiggljlikbaaGreat.Lw
open Go.RowKit Go.Proofs.YtgagiggljlikbaaGreat.Mem Go.Proofs.YtgagiggljlikbaaGreat.Ar Go.Proofs.YtgagiggljlikbaaGreat.En Go.Proofs.YtgagiggljlikbaaGreat.Ch Go.Proofs.YtgagiggljlikbaaGreat.Rc
open Go.Proofs.YtgagiggljlikbaaGreat.Ra (owns_block RAt rBlocks)
set_option linter.unusedVariables false
set_option linter.unusedSimpArgs false
set_option maxRecDepth 100000
section
variable {w w' w2 w3 w0 : World} {f f' : Lab} {g : Lay} {X : Nat → CI} {A A' : Ars} {Q Q' : List Nat} {ms : List One} {k wd : Nat} {o : One} {hold : Int}
theorem askAll (h : All w0 w f g wd hold X A Q ms) (hk : ms[k]? = some o) :
    Calls Tryz.prog 85 #[.pointer (some ⟨wd, 0, none⟩), .agg o.row.toArray] w fun r w' => r = .returned (.bool true) ∧ All w0 w' f g wd hold X A Q ms := askAny h hk
set_option maxHeartbeats 8000000 in
theorem lastL (h : All w0 w f g wd hold X A Q ms) (hms : ms.length ≤ 1400000000001) :
    Calls Tryz.prog 51 #[.pointer (some ⟨wd, 0, none⟩)] w fun r w' => r = .returned (.bool true) ∧ Keep [] w0 w' := by
  have HA := Lib.hid h
  clear h
  go_enter Tryz.func51, Tryz.ntmps51
  go_wp2_with fail
  go_loopw [3] (fun kk wy => ∃ k : Nat, k ≤ ms.length ∧ kk = .int .i64 k ∧ All w0 wy f g wd hold X A Q ms) (fun kk _ => ms.length - (intOf kk).toNat)
  case atStart => exact ⟨0, Nat.zero_le _, rfl, HA.out⟩
  case round =>
    obtain ⟨k, hk, rfl, hA⟩ := hrel
    have HB := Lib.hid hA
    obtain ⟨ap, cap, h1, h2, -⟩ := hA.wp.st
    have c6 : wr.cell? ⟨wd, 6, none⟩ = some (.slice ap ms.length cap) := (cell_of h1 6).trans rfl
    clear hA
    by_cases hlt : k < ms.length
    · have hk' : (k : Int) < (ms.length : Int) := by omega
      obtain ⟨o, ho⟩ : ∃ o, ms[k]? = some o := ⟨_, List.getElem?_eq_getElem hlt⟩
      obtain ⟨gp, cp, e1, -⟩ := owns_pos h2 (by omega)
      cases e1
      have hc : ∀ j, j < 7 → wr.cell? ⟨gp, k * 7 + j, none⟩ = o.row[j]? := fun j hj => by
        rw [h2.cellAt (k * 7 + j) (by omega), rowsO_at ms k j o ho hj]
      obtain ⟨a0, a1, a2, a3, a4, a5, a6, hr⟩ : ∃ a0 a1 a2 a3 a4 a5 a6, o.row = [.int .i64 a0, .pointer a1, .pointer a2, .pointer a3, .pointer a4, .pointer a5, .pointer a6] := by
        unfold One.row pairRow pt
        split <;> exact ⟨_, _, _, _, _, _, _, rfl⟩
      rw [hr] at hc
      have q0 : wr.cell? ⟨gp, k * 7, none⟩ = some (.int .i64 a0) := hc 0 (by omega)
      have q1 : wr.cell? ⟨gp, k * 7 + 1, none⟩ = some (.pointer a1) := hc 1 (by omega)
      have q2 : wr.cell? ⟨gp, k * 7 + 2, none⟩ = some (.pointer a2) := hc 2 (by omega)
      have q3 : wr.cell? ⟨gp, k * 7 + 3, none⟩ = some (.pointer a3) := hc 3 (by omega)
      have q4 : wr.cell? ⟨gp, k * 7 + 4, none⟩ = some (.pointer a4) := hc 4 (by omega)
      have q5 : wr.cell? ⟨gp, k * 7 + 5, none⟩ = some (.pointer a5) := hc 5 (by omega)
      have q6 : wr.cell? ⟨gp, k * 7 + 6, none⟩ = some (.pointer a6) := hc 6 (by omega)
      have q := askAll HB.out ho
      rw [hr] at q
      have C := Lib.hid q
      clear hc hr ho h1 h2 q
      go_wp2_with fail
      refine C.out.mono ?_
      rintro e w2 ⟨rfl, hA⟩
      have H2 := Lib.hid hA
      clear hA q0 q1 q2 q3 q4 q5 q6 c6 C
      go_wp2_with fail
      go_roundw
      case rel => exact ⟨k + 1, hlt, by go_num, H2.out⟩
      case measure => simp [intOf]; omega
    · have hlt' : ¬ (k : Int) < (ms.length : Int) := by omega
      obtain ⟨w5, hw5⟩ : ∃ w5, w5 = wr := ⟨_, rfl⟩
      have HA := HB
      rw [← hw5] at HA
      clear h1 h2
      go_wp2_with fail
      clear c6
      rw [← hw5]
      clear hw5 HB
      obtain ⟨w, hw⟩ : ∃ w, w = w5 := ⟨_, rfl⟩
      rw [← hw] at HA
      rw [← hw]
      clear hw
      go_loopw [4] (fun ii wy => ∃ n4 : Nat, n4 ≤ 2 ∧ ii = .int .i64 n4 ∧ Keep [] w wy) (fun ii _ => 2 - (intOf ii).toNat)
      case atStart => exact ⟨0, by omega, rfl, Keep.refl _ _⟩
      case round =>
        obtain ⟨n4, hn4, rfl, hK4⟩ := hrel
        have HK4 := Lib.hid hK4
        have HL := Lib.hid (HA.out.keep0 hK4)
        clear hK4
        have h3 : n4 = 0 ∨ n4 = 1 ∨ n4 = 2 := by omega
        rcases h3 with rfl | rfl | rfl
        · obtain ⟨hl0, hhl⟩ : ∃ hl, hl = (X 0).heads.length := ⟨_, rfl⟩
          obtain ⟨qv, bs, hr⟩ := HL.out.r
          have ir := (hr.env 0 (by omega)).ix
          have hf : hl0 ≤ 256 := by rw [hhl]; exact ir.few
          have HHL := Lib.hid hhl
          clear hhl hr ir
          rw [show ((0 : Nat) : Int) = (0 : Int) from rfl]
          go_wp2_with fail
          go_loopw [5] (fun bb wy => ∃ m : Nat, m ≤ hl0 ∧ bb = .int .i64 m ∧ Keep [] w wy) (fun bb _ => hl0 - (intOf bb).toNat)
          case atStart => exact ⟨0, Nat.zero_le _, rfl, HK4.out⟩
          case round =>
            obtain ⟨m, hm, rfl, hKm⟩ := hrel
            have HM := Lib.hid (And.intro hKm (HA.out.keep0 hKm))
            clear hKm
            obtain ⟨s0, s1, s2, s3, s4, s5⟩ := HM.out.2.wp.cs
            unfold pt at s0 s1 s2 s3 s4 s5
            obtain ⟨qv, bs, hr⟩ := HM.out.2.r
            have d2 : wr.cell? ⟨g.rx 0, 2, none⟩ = some (.slice (some ⟨g.rh 0, 0, none⟩) hl0 (g.rc 0)) := by rw [HHL.out]; exact (cell_of (hr.env 0 (by omega)).ix.hx 2).trans rfl
            clear hr
            by_cases hml : m < hl0
            · have hml' : (m : Int) < (hl0 : Int) := by omega
              go_wp2_with fail
              refine (look0 HM.out.2 m).mono ?_
              rintro e w2 ⟨rfl, k2⟩
              have K2 := Lib.hid (HM.out.1.trans k2)
              clear k2 d2 s0 s1 s2 s3 s4 s5
              go_wp2_with fail
              go_roundw
              case rel => exact ⟨m + 1, hml, by go_num, K2.out⟩
              case measure => simp [intOf]; omega
            · have hml' : ¬ (m : Int) < (hl0 : Int) := by omega
              go_wp2_with fail
              go_roundw
              case rel => exact ⟨0 + 1, by omega, by go_num, HM.out.1⟩
              case measure => simp [intOf]
        · obtain ⟨hl1, hhl⟩ : ∃ hl, hl = (X 1).heads.length := ⟨_, rfl⟩
          obtain ⟨qv, bs, hr⟩ := HL.out.r
          have ir := (hr.env 1 (by omega)).ix
          have hf : hl1 ≤ 256 := by rw [hhl]; exact ir.few
          have HHL := Lib.hid hhl
          clear hhl hr ir
          rw [show ((1 : Nat) : Int) = (1 : Int) from rfl]
          go_wp2_with fail
          go_loopw [5] (fun bb wy => ∃ m : Nat, m ≤ hl1 ∧ bb = .int .i64 m ∧ Keep [] w wy) (fun bb _ => hl1 - (intOf bb).toNat)
          case atStart => exact ⟨0, Nat.zero_le _, rfl, HK4.out⟩
          case round =>
            obtain ⟨m, hm, rfl, hKm⟩ := hrel
            have HM := Lib.hid (And.intro hKm (HA.out.keep0 hKm))
            clear hKm
            obtain ⟨s0, s1, s2, s3, s4, s5⟩ := HM.out.2.wp.cs
            unfold pt at s0 s1 s2 s3 s4 s5
            obtain ⟨qv, bs, hr⟩ := HM.out.2.r
            have d2 : wr.cell? ⟨g.rx 1, 2, none⟩ = some (.slice (some ⟨g.rh 1, 0, none⟩) hl1 (g.rc 1)) := by rw [HHL.out]; exact (cell_of (hr.env 1 (by omega)).ix.hx 2).trans rfl
            clear hr
            by_cases hml : m < hl1
            · have hml' : (m : Int) < (hl1 : Int) := by omega
              go_wp2_with fail
              refine (look1 HM.out.2 m).mono ?_
              rintro e w2 ⟨rfl, k2⟩
              have K2 := Lib.hid (HM.out.1.trans k2)
              clear k2 d2 s0 s1 s2 s3 s4 s5
              go_wp2_with fail
              go_roundw
              case rel => exact ⟨m + 1, hml, by go_num, K2.out⟩
              case measure => simp [intOf]; omega
            · have hml' : ¬ (m : Int) < (hl1 : Int) := by omega
              go_wp2_with fail
              go_roundw
              case rel => exact ⟨1 + 1, by omega, by go_num, HM.out.1⟩
              case measure => simp [intOf]
        · go_wp2_with fail
          refine (countsL HL.out).mono ?_
          rintro e w2 ⟨rfl, k2⟩
          have H2 := Lib.hid (HL.out.keep0 k2)
          clear k2
          go_wp2_with fail
          refine (freshL H2.out).mono ?_
          rintro e w3 ⟨rfl, k3⟩
          have K3 := Lib.hid (H2.out.wp.keep.trans k3)
          clear k3
          go_wp2_with fail
          go_ret
          exact ⟨rfl, K3.out⟩
end
end Go.Proofs.YtgagiggljlikbaaGreat.Lw

/- Layer 4's scripts: both sides laid (plain). -/
namespace Go.Proofs.YtgagiggljlikbaaGreat.Lw
open Go.RowKit Go.Proofs.YtgagiggljlikbaaGreat.Mem Go.Proofs.YtgagiggljlikbaaGreat.Ar Go.Proofs.YtgagiggljlikbaaGreat.En Go.Proofs.YtgagiggljlikbaaGreat.Ch Go.Proofs.YtgagiggljlikbaaGreat.Rc
open Go.Proofs.YtgagiggljlikbaaGreat.Ra (owns_block RAt rBlocks)
set_option linter.unusedVariables false
set_option linter.unusedSimpArgs false
set_option maxRecDepth 100000
structure Inf where
  xb : Nat
  hb : Nat
  rx : Nat
  rh : Nat
  rc : Nat
def xq (q : Nat → Option Inf) (i : Nat) : Value := .pointer ((q i).map fun s => ⟨s.xb, 0, none⟩)
def rq (q : Nat → Option Inf) (i : Nat) : Value := .pointer ((q i).map fun s => ⟨s.rx, 0, none⟩)
/-- the arenas are there, and some of the indexes -/
structure Op_ (w0 w : World) (f : Lab) (wd : Nat) (hold : Int) (L : Bk) (b sg sc : Nat) (qv : Value) (bs : List (Option Nat)) (A : Ars) (Q : List Nat) (cs ks : Nat → Int) (q : Nat → Option Inf) : Prop where
  ar : En.At 0 w L A
  rr : RAt w b sg sc qv bs A Q
  lL : Own f 2 L.blocks
  lR : Own f 3 (rBlocks b sg qv bs)
  ix : ∀ i, i < 2 → ∀ s : Inf, q i = some s → IdxP w L s.xb s.hb (newX (cs i) (ks i)) ∧ IdxR w b s.rx s.rh s.rc (newX (cs i) (ks i)) ∧ errX A.width (cs i) (ks i) = 0
  lX : ∀ i, i < 2 → ∀ s : Inf, q i = some s → f s.xb = some (4 + 2 * i) ∧ f s.hb = some (4 + 2 * i) ∧ f s.rx = some (5 + 2 * i) ∧ f s.rh = some (5 + 2 * i)
  wdc : w.heap[wd]? = some (.cells #[pt L.b, xq q 0, xq q 1, pt b, rq q 0, rq q 1, .slice none 0 0, .int .i64 hold] 147 (0, 0))
  lw : f wd = some 0
  dom : ∀ x t, f x = some t → w0.heap.size ≤ x ∧ x < w.heap.size
  keep : Keep [] w0 w
section
variable {w w' w2 w0 : World} {f : Lab} {wd : Nat} {hold : Int} {L : Bk} {b sg sc : Nat} {qv : Value} {bs : List (Option Nat)} {A : Ars} {Q : List Nat} {cs ks : Nat → Int} {q : Nat → Option Inf} {S : List Nat}
theorem Op_.keep0 (h : Op_ w0 w f wd hold L b sg sc qv bs A Q cs ks q) (kk : Keep [] w w') : Op_ w0 w' f wd hold L b sg sc qv bs A Q cs ks q :=
  ⟨h.ar.keep kk (by simp), h.rr.keep kk (by simp), h.lL, h.lR, fun i hi s hs => ⟨(h.ix i hi s hs).1.keep kk (by simp), (h.ix i hi s hs).2.1.keep kk (by simp), (h.ix i hi s hs).2.2⟩, h.lX, kk.old h.wdc (by simp), h.lw, fun x t e => ⟨(h.dom x t e).1, Nat.lt_of_lt_of_le (h.dom x t e).2 kk.size⟩, h.keep.trans kk⟩
theorem errX_cell {wdt : Nat} {c k : Int} (h : errX wdt c k = 0) : (newX c k).cell < wdt ∧ k ≤ 256 := by
  unfold errX at h
  split at h
  · omega
  · split at h
    · omega
    · show c.toNat < wdt ∧ _
      omega
theorem Op_.all (h : Op_ w0 w f wd hold L b sg sc qv bs A Q cs ks q) {s0 s1 : Inf} (h0 : q 0 = some s0) (h1 : q 1 = some s1) (hA : okA A) (hs : A.slots ≤ 4096) :
    ∃ g X, All w0 w f g wd hold X A Q [] := by
  let si : Nat → Inf := fun i => if i = 0 then s0 else s1
  have hq : ∀ i, i < 2 → q i = some (si i) := fun i hi => by
    have : i = 0 ∨ i = 1 := by omega
    rcases this with rfl | rfl
    · exact h0
    · exact h1
  have hne : ∀ y t S u, f y = some t → Own f u S → t ≠ u → y ∉ S := fun y t S u hy hS htu hm => by
    have := hS y hm
    rw [hy] at this
    exact htu (Option.some.inj this)
  refine ⟨⟨L, fun i => (si i).xb, fun i => (si i).hb, b, sg, sc, fun i => (si i).rx, fun i => (si i).rh, fun i => (si i).rc, fun i => (newX (cs i) (ks i)).heads.length⟩, fun i => newX (cs i) (ks i), ⟨fun i hi => ?_, h.lL, fun i hi => ?_, fun k o ho => by simp at ho⟩, ⟨qv, bs, fun i hi => ?_, h.lR, fun i hi => ?_, fun k o ho => by simp at ho⟩, ⟨⟨none, 0, ?_, World.ownsRow_nil _ _ _ _, fun x hx => by cases hx⟩, h.lw, h.dom, h.keep⟩, ⟨by simp, fun i hi => rfl, hA, fun i hi => ?_, by simp, hs⟩⟩
  · obtain ⟨a1, a2, a3⟩ := h.ix i hi _ (hq i hi)
    obtain ⟨l1, l2, l3, l4⟩ := h.lX i hi _ (hq i hi)
    exact ⟨h.ar, a1, hne _ _ _ _ l1 h.lL (by omega), hne _ _ _ _ l2 h.lL (by omega), (errX_cell a3).1⟩
  · obtain ⟨l1, l2, l3, l4⟩ := h.lX i hi _ (hq i hi)
    exact ⟨l1, l2⟩
  · obtain ⟨a1, a2, a3⟩ := h.ix i hi _ (hq i hi)
    obtain ⟨l1, l2, l3, l4⟩ := h.lX i hi _ (hq i hi)
    exact ⟨h.rr, a2, hne _ _ _ _ l3 h.lR (by omega), hne _ _ _ _ l4 h.lR (by omega), (errX_cell a3).1⟩
  · obtain ⟨l1, l2, l3, l4⟩ := h.lX i hi _ (hq i hi)
    exact ⟨l3, l4⟩
  · have := h.wdc
    simp only [xq, rq, h0, h1, Option.map_some] at this
    exact this
  · obtain ⟨a1, a2, a3⟩ := h.ix i hi _ (hq i hi)
    exact newX_ok _ _ (errX_cell a3).2
def labI (f : Lab) (i : Nat) (s : Inf) : Lab := fun x => match f x with
  | some t => some t
  | none => if x = s.xb ∨ x = s.hb then some (4 + 2 * i) else if x = s.rx ∨ x = s.rh then some (5 + 2 * i) else none
def qput (q : Nat → Option Inf) (i : Nat) (s : Inf) : Nat → Option Inf := fun j => if j = i then some s else q j
/-- an index made on both sides and stored -/
theorem Op_.made (h : Op_ w0 w f wd hold L b sg sc qv bs A Q cs ks q) {i : Nat} (hi : i < 2) (hqi : q i = none) {s : Inf} {w1 w2 : World} (k1 : Keep [] w w1) (k2 : Keep [] w1 w2)
    (hP : IdxP w1 L s.xb s.hb (newX (cs i) (ks i))) (hR : IdxR w2 b s.rx s.rh s.rc (newX (cs i) (ks i))) (he : errX A.width (cs i) (ks i) = 0)
    (g1 : w.heap.size ≤ s.xb ∧ w.heap.size ≤ s.hb) (g2 : w1.heap.size ≤ s.rx ∧ w1.heap.size ≤ s.rh) :
    Op_ w0 ((w2.setCell ⟨wd, 1 + i, none⟩ (pt s.xb)).setCell ⟨wd, 4 + i, none⟩ (pt s.rx)) (labI f i s) wd hold L b sg sc qv bs A Q cs ks (qput q i s) := by
  have hold_ : ∀ x t, f x = some t → labI f i s x = some t := fun x t e => by simp only [labI, e]
  have fr : ∀ x, w.heap.size ≤ x → f x = none := fun x hx => by
    cases e : f x with
    | none => rfl
    | some t => have := (h.dom x t e).2; omega
  have b1 := lt_of hP.hx
  have b2 := lt_of hP.hh
  have b3 := lt_of hR.hx
  have b4 : s.rh < w2.heap.size := (hR.hh.lt _ rfl).2
  have z1 := k1.size
  have z2 := k2.size
  have zk := h.keep.size
  have la : labI f i s s.xb = some (4 + 2 * i) := by simp [labI, fr _ g1.1]
  have lb : labI f i s s.hb = some (4 + 2 * i) := by simp [labI, fr _ g1.2]
  have lc : labI f i s s.rx = some (5 + 2 * i) := by
    simp only [labI, fr s.rx (by omega)]
    rw [if_neg (by omega)]
    simp
  have ld : labI f i s s.rh = some (5 + 2 * i) := by
    simp only [labI, fr s.rh (by omega)]
    rw [if_neg (by omega)]
    simp
  have hwd := (h.dom wd 0 h.lw).2
  have h2 := (h.keep0 k1).keep0 k2
  obtain ⟨w4, hw4⟩ : ∃ w4, w4 = (w2.setCell ⟨wd, 1 + i, none⟩ (pt s.xb)).setCell ⟨wd, 4 + i, none⟩ (pt s.rx) := ⟨_, rfl⟩
  have k4 : Keep [wd] w2 w4 := by rw [hw4]; exact keep_set (keep_set (Keep.refl [wd] w2) (List.mem_singleton.2 rfl) _ _) (List.mem_singleton.2 rfl) _ _
  have hnw : ∀ S u, Own f u S → u ≠ 0 → wd ∉ S := fun S u hS hu hm => by
    have := hS wd hm
    rw [h.lw] at this
    exact hu (Option.some.inj this).symm
  have hnx : ∀ y t, f y = some t → t ≠ 0 → y ≠ wd := fun y t hy ht e => by
    rw [e, h.lw] at hy
    exact ht (Option.some.inj hy).symm
  rw [← hw4]
  refine ⟨h2.ar.keep k4 fun x hx => by rw [List.mem_singleton.1 hx]; exact hnw _ _ h.lL (by omega), h2.rr.keep k4 fun x hx => by rw [List.mem_singleton.1 hx]; exact hnw _ _ h.lR (by omega), fun x hx => hold_ _ _ (h.lL x hx), fun x hx => hold_ _ _ (h.lR x hx), fun j hj t ht => ?_, fun j hj t ht => ?_, ?_, hold_ _ _ h.lw, fun x t e => ?_, ?_⟩
  · by_cases hji : j = i
    · subst hji
      simp only [qput, if_true, Option.some.injEq] at ht
      subst ht
      exact ⟨(hP.keep k2 (by simp)).keep k4 (fun x hx => by rw [List.mem_singleton.1 hx]; exact ⟨by omega, by omega⟩), hR.keep k4 (fun x hx => by rw [List.mem_singleton.1 hx]; exact ⟨by omega, by omega⟩), he⟩
    · simp only [qput, if_neg hji] at ht
      obtain ⟨a1, a2, a3⟩ := h2.ix j hj t ht
      obtain ⟨l1, l2, l3, l4⟩ := h.lX j hj t ht
      exact ⟨a1.keep k4 (fun x hx => by rw [List.mem_singleton.1 hx]; exact ⟨(hnx _ _ l1 (by omega)).symm, (hnx _ _ l2 (by omega)).symm⟩), a2.keep k4 (fun x hx => by rw [List.mem_singleton.1 hx]; exact ⟨(hnx _ _ l3 (by omega)).symm, (hnx _ _ l4 (by omega)).symm⟩), a3⟩
  · by_cases hji : j = i
    · subst hji
      simp only [qput, if_true, Option.some.injEq] at ht
      subst ht
      exact ⟨la, lb, lc, ld⟩
    · simp only [qput, if_neg hji] at ht
      obtain ⟨l1, l2, l3, l4⟩ := h.lX j hj t ht
      exact ⟨hold_ _ _ l1, hold_ _ _ l2, hold_ _ _ l3, hold_ _ _ l4⟩
  · have e := set_same (set_same h2.wdc (1 + i) (pt s.xb)) (4 + i) (pt s.rx)
    rw [hw4, e]
    have hi2 : i = 0 ∨ i = 1 := by omega
    rcases hi2 with rfl | rfl
    · simp [xq, rq, qput, pt]
    · simp [xq, rq, qput, pt]
  · cases e2 : f x with
    | some u => exact ⟨(h.dom x u e2).1, by have := (h.dom x u e2).2; have := k4.size; omega⟩
    | none =>
      simp only [labI, e2] at e
      have := k4.size
      split at e
      · rename_i h5
        rcases h5 with rfl | rfl <;> exact ⟨by omega, by omega⟩
      · split at e
        · rename_i h5
          rcases h5 with rfl | rfl <;> exact ⟨by omega, by omega⟩
        · cases e
  · exact keep_base h2.keep k4 fun x hx => by rw [List.mem_singleton.1 hx]; exact (h.dom wd 0 h.lw).1
/-- an index not made: nil is stored -/
theorem Op_.none_ (h : Op_ w0 w f wd hold L b sg sc qv bs A Q cs ks q) {i : Nat} (hi : i < 2) (hqi : q i = none) : Op_ w0 ((w.setCell ⟨wd, 1 + i, none⟩ (.pointer none)).setCell ⟨wd, 4 + i, none⟩ (.pointer none)) f wd hold L b sg sc qv bs A Q cs ks q := by
  obtain ⟨w4, hw4⟩ : ∃ w4, w4 = (w.setCell ⟨wd, 1 + i, none⟩ (.pointer none)).setCell ⟨wd, 4 + i, none⟩ (.pointer none) := ⟨_, rfl⟩
  have k4 : Keep [wd] w w4 := by rw [hw4]; exact keep_set (keep_set (Keep.refl [wd] w) (List.mem_singleton.2 rfl) _ _) (List.mem_singleton.2 rfl) _ _
  have hnw : ∀ S u, Own f u S → u ≠ 0 → wd ∉ S := fun S u hS hu hm => by
    have := hS wd hm
    rw [h.lw] at this
    exact hu (Option.some.inj this).symm
  have hnx : ∀ y t, f y = some t → t ≠ 0 → y ≠ wd := fun y t hy ht e => by
    rw [e, h.lw] at hy
    exact ht (Option.some.inj hy).symm
  rw [← hw4]
  refine ⟨h.ar.keep k4 fun x hx => by rw [List.mem_singleton.1 hx]; exact hnw _ _ h.lL (by omega), h.rr.keep k4 fun x hx => by rw [List.mem_singleton.1 hx]; exact hnw _ _ h.lR (by omega), h.lL, h.lR, fun j hj t ht => ?_, h.lX, ?_, h.lw, fun x t e => ⟨(h.dom x t e).1, by have := (h.dom x t e).2; have := k4.size; omega⟩, keep_base h.keep k4 fun x hx => by rw [List.mem_singleton.1 hx]; exact (h.dom wd 0 h.lw).1⟩
  · obtain ⟨a1, a2, a3⟩ := h.ix j hj t ht
    obtain ⟨l1, l2, l3, l4⟩ := h.lX j hj t ht
    exact ⟨a1.keep k4 (fun x hx => by rw [List.mem_singleton.1 hx]; exact ⟨(hnx _ _ l1 (by omega)).symm, (hnx _ _ l2 (by omega)).symm⟩), a2.keep k4 (fun x hx => by rw [List.mem_singleton.1 hx]; exact ⟨(hnx _ _ l3 (by omega)).symm, (hnx _ _ l4 (by omega)).symm⟩), a3⟩
  · have e := set_same (set_same h.wdc (1 + i) (.pointer none)) (4 + i) (.pointer none)
    rw [hw4, e]
    have hi2 : i = 0 ∨ i = 1 := by omega
    rcases hi2 with rfl | rfl
    · simp [xq, rq, hqi]
    · simp [xq, rq, hqi]
end
end Go.Proofs.YtgagiggljlikbaaGreat.Lw

/- Layer 4's scripts: open. -/
namespace Go.Proofs.YtgagiggljlikbaaGreat.Lw
open Go.RowKit Go.Proofs.YtgagiggljlikbaaGreat.Mem Go.Proofs.YtgagiggljlikbaaGreat.Ar Go.Proofs.YtgagiggljlikbaaGreat.En Go.Proofs.YtgagiggljlikbaaGreat.Ch Go.Proofs.YtgagiggljlikbaaGreat.Rc
open Go.Proofs.YtgagiggljlikbaaGreat.Ra (owns_block RAt rBlocks)
set_option linter.unusedVariables false
set_option linter.unusedSimpArgs false
set_option maxRecDepth 100000
section
variable {w w' w2 w0 : World}
/-- what open leaves: both sides, or a side that is not whole -/
def Opened (w0 : World) (hold : Int) (r : Ending) (w : World) : Prop :=
  ∃ wd, r = .returned (.tuple #[.pointer (some ⟨wd, 0, none⟩), .bool true]) ∧ Keep [] w0 w ∧
    ((∃ f g X A Q, All w0 w f g wd hold X A Q []) ∨ ∃ p3 p4 p5, w.cell? ⟨wd, 3, none⟩ = some (.pointer p3) ∧ w.cell? ⟨wd, 4, none⟩ = some (.pointer p4) ∧ w.cell? ⟨wd, 5, none⟩ = some (.pointer p5) ∧ (p3 = none ∨ p4 = none ∨ p5 = none))
def zw (hold : Int) : Array Value := #[.pointer none, .pointer none, .pointer none, .pointer none, .pointer none, .pointer none, .slice none 0 0, .int .i64 hold]
/-- the script's own block and the world's, nothing laid -/
structure Bare (w wr : World) (slots cell b0 b1 hold : Int) (steps : Value) : Prop where
  s : wr.heap[w.heap.size]? = some (.cells #[.int .i64 slots, .int .i64 cell, .int .i64 b0, .int .i64 b1, steps] 62 (0, 0))
  d : wr.heap[w.heap.size + 1]? = some (.cells (zw hold) 147 (0, 0))
  k : Keep [] w wr
theorem Bare.cs {slots cell b0 b1 hold : Int} {steps : Value} (h : Bare w w' slots cell b0 b1 hold steps) : w'.cell? ⟨w.heap.size, 0, none⟩ = some (.int .i64 slots) ∧ w'.cell? ⟨w.heap.size, 1, none⟩ = some (.int .i64 cell) ∧ w'.cell? ⟨w.heap.size, 2, none⟩ = some (.int .i64 b0) ∧ w'.cell? ⟨w.heap.size, 3, none⟩ = some (.int .i64 b1) ∧ w'.cell? ⟨w.heap.size, 4, none⟩ = some steps :=
  ⟨(cell_of h.s 0).trans rfl, (cell_of h.s 1).trans rfl, (cell_of h.s 2).trans rfl, (cell_of h.s 3).trans rfl, (cell_of h.s 4).trans rfl⟩
theorem Bare.nil {slots cell b0 b1 hold : Int} {steps : Value} (h : Bare w w' slots cell b0 b1 hold steps) {i : Nat} (hi : i < 6) : w'.cell? ⟨w.heap.size + 1, i, none⟩ = some (.pointer none) := by
  have hj : i = 0 ∨ i = 1 ∨ i = 2 ∨ i = 3 ∨ i = 4 ∨ i = 5 := by omega
  rcases hj with rfl | rfl | rfl | rfl | rfl | rfl <;> exact (cell_of h.d _).trans rfl
theorem Bare.fr {slots cell b0 b1 hold : Int} {steps : Value} (h : Bare w w' slots cell b0 b1 hold steps) (i : Nat) : w'.frozen? ⟨w.heap.size + 1, i, none⟩ = false := free_of h.d i
theorem Bare.set {slots cell b0 b1 hold : Int} {steps : Value} (h : Bare w w' slots cell b0 b1 hold steps) {i : Nat} (hi : i < 6) : Bare w (w'.setCell ⟨w.heap.size + 1, i, none⟩ (.pointer none)) slots cell b0 b1 hold steps := by
  have k2 : Keep [w.heap.size + 1] w' (w'.setCell ⟨w.heap.size + 1, i, none⟩ (.pointer none)) := keep_set (Keep.refl _ _) (List.mem_singleton.2 rfl) _ _
  refine ⟨k2.old h.s (by simp), ?_, keep_base h.k k2 fun x hx => by rw [List.mem_singleton.1 hx]; omega⟩
  have hj : i = 0 ∨ i = 1 ∨ i = 2 ∨ i = 3 ∨ i = 4 ∨ i = 5 := by omega
  rcases hj with rfl | rfl | rfl | rfl | rfl | rfl <;> exact (set_same h.d _ _).trans rfl
theorem Bare.step {slots cell b0 b1 hold : Int} {steps : Value} (h : Bare w w' slots cell b0 b1 hold steps) (k : Keep [] w' w2) : Bare w w2 slots cell b0 b1 hold steps :=
  ⟨k.old h.s (by simp), k.old h.d (by simp), h.k.trans k⟩
theorem bare_new (w : World) (slots cell b0 b1 hold : Int) (steps : Value) : Bare w ((w.alloc (.cells #[.int .i64 slots, .int .i64 cell, .int .i64 b0, .int .i64 b1, steps] 62)).alloc (.cells #[.pointer none, .pointer none, .pointer none, .pointer none, .pointer none, .pointer none, .slice none 0 0, .int .i64 hold] 147)) slots cell b0 b1 hold steps := by
  have k1 : Keep [] w (w.alloc (.cells #[.int .i64 slots, .int .i64 cell, .int .i64 b0, .int .i64 b1, steps] 62)) := (Keep.refl _ _).alloc _
  have q := alloc_new (w.alloc (.cells #[.int .i64 slots, .int .i64 cell, .int .i64 b0, .int .i64 b1, steps] 62)) (.cells #[.pointer none, .pointer none, .pointer none, .pointer none, .pointer none, .pointer none, .slice none 0 0, .int .i64 hold] 147)
  rw [World.size_alloc] at q
  exact ⟨((Keep.refl [] _).alloc _).old (alloc_new _ _) (by simp), q, k1.alloc _⟩
set_option maxHeartbeats 4000000 in
theorem open_bad (slots cell b0 b1 hold : Int) (steps : Value) (hs : ¬ (1 ≤ slots ∧ slots ≤ 4096)) :
    Calls Tryz.prog 48 #[.agg #[.int .i64 slots, .int .i64 cell, .int .i64 b0, .int .i64 b1, steps], .int .i64 hold] w (Opened w hold) := by
  have CA : Hid (∀ wx : World, Calls Tryz.prog 27 #[.int .i64 slots, .int .i64 2] wx fun e w' => e = .returned (.tuple #[.pointer none, .int .i64 20]) ∧ wx = w') := Lib.hid fun wx => En.new_bad slots 2 (by omega)
  have CB : Hid (∀ wx : World, Calls Tryz.prog 77 #[.int .i64 slots, .int .i64 2] wx fun e w' => e = .returned (.tuple #[.pointer none, .int .i64 20]) ∧ wx = w') := Lib.hid fun wx => Go.Proofs.YtgagiggljlikbaaGreat.Ref.new_bad slots 2 (by omega)
  have CC : Hid (∀ (wx : World) (c k : Int), Calls Tryz.prog 28 #[.pointer none, .int .i64 c, .int .i64 k] wx fun r w' => r = .returned (.tuple #[.pointer none, .int .i64 1]) ∧ wx = w') := Lib.hid fun wx c k => new_nil c k
  have CD : Hid (∀ (wx : World) (c k : Int), Calls Tryz.prog 78 #[.pointer none, .int .i64 c, .int .i64 k] wx fun r w' => r = .returned (.tuple #[.pointer none, .int .i64 1]) ∧ Keep [] wx w') := Lib.hid fun wx c k => newR_nil c k
  clear hs
  obtain ⟨wq, hwq⟩ : ∃ wq, wq = ((w.alloc (.cells #[.int .i64 slots, .int .i64 cell, .int .i64 b0, .int .i64 b1, steps] 62)).alloc (.cells #[.pointer none, .pointer none, .pointer none, .pointer none, .pointer none, .pointer none, .slice none 0 0, .int .i64 hold] 147)) := ⟨_, rfl⟩
  have B0 := Lib.hid (bare_new w slots cell b0 b1 hold steps)
  rw [← hwq] at B0
  have WQ := Lib.hid hwq
  clear hwq
  go_enter Tryz.func48, Tryz.ntmps48
  go_wp2_with fail
  rw [← WQ.out]
  refine (CA.out _).mono ?_
  rintro _ w2 ⟨rfl, rfl⟩
  have a0 := B0.out.nil (i := 0) (by omega)
  have a3 := B0.out.nil (i := 3) (by omega)
  have z0 := B0.out.fr 0
  have z3 := B0.out.fr 3
  obtain ⟨c0, c1, c2, c3, c4⟩ := B0.out.cs
  go_wp2_with fail
  refine (CB.out _).mono ?_
  rintro _ w2 ⟨rfl, rfl⟩
  go_wp2_with fail
  refine (num_ _ _).mono ?_
  rintro _ w2 ⟨rfl, hx⟩
  obtain rfl := hx.symm
  go_wp2_with fail
  have B1 : Hid (Bare w ((wq.setCell ⟨w.heap.size + 1, 0, none⟩ (.pointer none)).setCell ⟨w.heap.size + 1, 3, none⟩ (.pointer none)) slots cell b0 b1 hold steps) := Lib.hid ((B0.out.set (i := 0) (by omega)).set (i := 3) (by omega))
  clear a0 a3 c0 c1 c2 c3 c4 z0 z3
  go_loopw [11] (fun i wr => ∃ k : Nat, k ≤ 2 ∧ i = .int .i64 k ∧ Bare w wr slots cell b0 b1 hold steps) (fun i _ => 2 - (intOf i).toNat)
  case atStart => exact ⟨0, by omega, rfl, B1.out⟩
  case round =>
    obtain ⟨k, hk, rfl, hK⟩ := hrel
    have H := Lib.hid hK
    clear hK B1 B0
    obtain ⟨c0, c1, c2, c3, c4⟩ := H.out.cs
    have a1 := H.out.nil (i := 1) (by omega)
    have a2 := H.out.nil (i := 2) (by omega)
    have a4 := H.out.nil (i := 4) (by omega)
    have a5 := H.out.nil (i := 5) (by omega)
    have z1 := H.out.fr 1
    have z2 := H.out.fr 2
    have z4 := H.out.fr 4
    have z5 := H.out.fr 5
    have h3 : k = 0 ∨ k = 1 ∨ k = 2 := by omega
    rcases h3 with rfl | rfl | rfl
    · rw [show ((0 : Nat) : Int) = (0 : Int) from rfl]
      go_wp2_with fail
      refine (CC.out _ _ _).mono ?_
      rintro _ w2 ⟨rfl, hx⟩
      obtain rfl := hx
      go_wp2_with fail
      refine (CD.out _ _ _).mono ?_
      rintro _ w2 ⟨rfl, k2⟩
      have H2 := Lib.hid (H.out.step k2)
      clear k2 c0 c1 c2 c3 c4 a1 a2 a4 a5 z1 z2 z4 z5 H
      have a1 := H2.out.nil (i := 1) (by omega)
      have a4 := H2.out.nil (i := 4) (by omega)
      have z1 := H2.out.fr 1
      have z4 := H2.out.fr 4
      go_wp2_with fail
      refine (num_ _ _).mono ?_
      rintro _ w3 ⟨rfl, hx⟩
      obtain rfl := hx.symm
      go_wp2_with fail
      go_roundw
      case rel => exact ⟨1, by omega, by go_num, (H2.out.set (i := 1) (by omega)).set (i := 4) (by omega)⟩
      case measure => simp [intOf]
    · rw [show ((1 : Nat) : Int) = (1 : Int) from rfl]
      go_wp2_with fail
      refine (CC.out _ _ _).mono ?_
      rintro _ w2 ⟨rfl, hx⟩
      obtain rfl := hx
      go_wp2_with fail
      refine (CD.out _ _ _).mono ?_
      rintro _ w2 ⟨rfl, k2⟩
      have H2 := Lib.hid (H.out.step k2)
      clear k2 c0 c1 c2 c3 c4 a1 a2 a4 a5 z1 z2 z4 z5 H
      have a1 := H2.out.nil (i := 2) (by omega)
      have a4 := H2.out.nil (i := 5) (by omega)
      have z1 := H2.out.fr 2
      have z4 := H2.out.fr 5
      go_wp2_with fail
      refine (num_ _ _).mono ?_
      rintro _ w3 ⟨rfl, hx⟩
      obtain rfl := hx.symm
      go_wp2_with fail
      go_roundw
      case rel => exact ⟨2, by omega, by go_num, (H2.out.set (i := 2) (by omega)).set (i := 5) (by omega)⟩
      case measure => simp [intOf]
    · rw [show ((2 : Nat) : Int) = (2 : Int) from rfl]
      go_wp2_with fail
      refine bodyPost_ret (results_tmp2 rfl _ _ _) rfl ?_
      exact ⟨_, rfl, H.out.k, .inr ⟨none, _, _, H.out.nil (by omega), H.out.nil (by omega), H.out.nil (by omega), .inl rfl⟩⟩
end
end Go.Proofs.YtgagiggljlikbaaGreat.Lw

/- Layer 4's scripts: open, where both arenas are made. -/
namespace Go.Proofs.YtgagiggljlikbaaGreat.Lw
open Go.RowKit Go.Proofs.YtgagiggljlikbaaGreat.Mem Go.Proofs.YtgagiggljlikbaaGreat.Ar Go.Proofs.YtgagiggljlikbaaGreat.En Go.Proofs.YtgagiggljlikbaaGreat.Ch Go.Proofs.YtgagiggljlikbaaGreat.Rc
open Go.Proofs.YtgagiggljlikbaaGreat.Ra (owns_block RAt rBlocks)
set_option linter.unusedVariables false
set_option linter.unusedSimpArgs false
set_option maxRecDepth 100000
section
variable {w w' w2 w0 : World}
theorem blocks_lt {L : Bk} {A : Ars} (h : En.At 0 w L A) : ∀ x ∈ L.blocks, x < w.heap.size := fun x hx => by
  simp only [Bk.blocks, List.mem_cons, List.not_mem_nil, or_false] at hx
  rcases hx with rfl | rfl | rfl | rfl | rfl | rfl
  · exact lt_of h.hb
  · exact lt_of h.hw
  · exact lt_of h.hu
  · exact lt_of h.hq
  · exact lt_of h.hi
  · exact lt_of h.ht
def lab0 (wd : Nat) (S T : List Nat) : Lab := fun x => if x = wd then some 0 else if x ∈ S then some 2 else if x ∈ T then some 3 else none
def cs_ (cell : Int) (i : Nat) : Int := if i = 0 then cell else wrap64 (1 - cell)
def ks_ (b0 b1 : Int) (i : Nat) : Int := if i = 0 then b0 else b1
theorem fresh_okA (n m : Nat) : Ch.okA (fresh Ent n m) := fun v hv => by
  have : v = 0 := (List.mem_replicate.1 hv).2
  rw [this]
  exact okL_zero
/-- both arenas laid, no index yet -/
theorem Op_.lay {wq w1 w3 : World} {slots cell b0 b1 hold : Int} {steps : Value} {L : Bk} {n : Nat} {v1 v2 : Value} (h1 : 1 ≤ n) (h2 : n ≤ 4096)
    (B : Bare w wq slots cell b0 b1 hold steps) (hA : En.At 0 w1 L (fresh Ent n 2)) (hL : ∀ x ∈ L.blocks, wq.heap.size ≤ x) (k1 : Keep [] wq w1) (hM : Go.Proofs.YtgagiggljlikbaaGreat.Ref.Making w1 w2 2 n v1 v2)
    (e3 : w3 = (w2.setCell ⟨w.heap.size + 1, 0, none⟩ (pt L.b)).setCell ⟨w.heap.size + 1, 3, none⟩ (pt w1.heap.size)) :
    ∃ f sg sc, Op_ w w3 f (w.heap.size + 1) hold L w1.heap.size sg sc v2 (List.replicate (n + 1) none) (fresh Ent n 2) (List.range' 1 n) (cs_ cell) (ks_ b0 b1) (fun _ => none) ∧
      w3.heap[w.heap.size]? = some (.cells #[.int .i64 slots, .int .i64 cell, .int .i64 b0, .int .i64 b1, steps] 62 (0, 0)) := by
  obtain ⟨sg, sc, hR, hT⟩ := Go.Proofs.YtgagiggljlikbaaGreat.Ra.new_at hM h1 h2 (by omega) (by omega)
  have bl := blocks_lt hA
  have rl := hR.lt
  have k2 := hM.keep
  have z0 := lt_of B.d
  have z1 := k1.size
  have z2 := k2.size
  have k3 : Keep [w.heap.size + 1] w2 w3 := by rw [e3]; exact keep_set (keep_set (Keep.refl _ _) (List.mem_singleton.2 rfl) _ _) (List.mem_singleton.2 rfl) _ _
  have z3 := k3.size
  have nL : w.heap.size + 1 ∉ L.blocks := fun hm => by have := hL _ hm; omega
  have nR : w.heap.size + 1 ∉ rBlocks w1.heap.size sg v2 (List.replicate (n + 1) none) := fun hm => by have := hT _ hm; omega
  have k02 : Keep [] w w2 := (B.k.trans k1).trans k2
  refine ⟨lab0 (w.heap.size + 1) L.blocks (rBlocks w1.heap.size sg v2 (List.replicate (n + 1) none)), sg, sc, ⟨(hA.keep k2 (by simp)).keep k3 fun x hx => by rw [List.mem_singleton.1 hx]; exact nL, hR.keep k3 fun x hx => by rw [List.mem_singleton.1 hx]; exact nR, fun x hx => ?_, fun x hx => ?_, (fun i hi s hs => by cases hs), (fun i hi s hs => by cases hs), ?_, by simp [lab0], fun x t e => ?_, keep_base k02 k3 fun x hx => by rw [List.mem_singleton.1 hx]; omega⟩, ?_⟩
  · have := hL x hx
    simp only [lab0]
    rw [if_neg (by omega), if_pos hx]
  · have := hT x hx
    simp only [lab0]
    rw [if_neg (by omega), if_neg (fun hm => by have := bl x hm; omega), if_pos hx]
  · have hd := (k2.old (k1.old B.d (by simp)) (by simp))
    rw [e3, set_same (set_same hd 0 _) 3 _]
    rfl
  · simp only [lab0] at e
    split at e
    · rename_i h5; subst h5; exact ⟨by omega, by omega⟩
    · split at e
      · rename_i h5; have := hL x h5; have := bl x h5; exact ⟨by omega, by omega⟩
      · split at e
        · rename_i h5; have := hT x h5; have := rl x h5; exact ⟨by omega, by omega⟩
        · cases e
  · exact k3.old (k2.old (k1.old B.s (by simp)) (by simp)) (by simp)
set_option maxHeartbeats 4000000 in
theorem open_ok (n : Nat) (h1 : 1 ≤ n) (h2 : n ≤ 4096) (cell b0 b1 hold : Int) (steps : Value) :
    Calls Tryz.prog 48 #[.agg #[.int .i64 n, .int .i64 cell, .int .i64 b0, .int .i64 b1, steps], .int .i64 hold] w (Opened w hold) := by
  have HN := Lib.hid (And.intro h1 h2)
  clear h1 h2
  obtain ⟨wq, hwq⟩ : ∃ wq, wq = ((w.alloc (.cells #[.int .i64 n, .int .i64 cell, .int .i64 b0, .int .i64 b1, steps] 62)).alloc (.cells #[.pointer none, .pointer none, .pointer none, .pointer none, .pointer none, .pointer none, .slice none 0 0, .int .i64 hold] 147)) := ⟨_, rfl⟩
  have B0 := Lib.hid (bare_new w n cell b0 b1 hold steps)
  rw [← hwq] at B0
  have WQ := Lib.hid hwq
  clear hwq
  go_enter Tryz.func48, Tryz.ntmps48
  go_wp2_with fail
  rw [← WQ.out]
  refine (En.new_ok n 2 HN.out.1 HN.out.2 (by omega) (by omega)).mono ?_
  rintro _ w1 ⟨L, rfl, hL, hA, k1⟩
  have B1 := Lib.hid (B0.out.step k1)
  have HA := Lib.hid (And.intro hL (And.intro hA k1))
  clear hL hA k1
  have c0 := B1.out.cs.1
  go_wp2_with fail
  refine (Go.Proofs.YtgagiggljlikbaaGreat.Ref.new_ok n 2 HN.out.1 HN.out.2 (by omega) (by omega)).mono ?_
  rintro _ w2 ⟨v1, v2, rfl, hM⟩
  have HM := Lib.hid hM
  have B2 := Lib.hid (B1.out.step hM.keep)
  clear hM c0
  have a0 := B2.out.nil (i := 0) (by omega)
  have a3 := B2.out.nil (i := 3) (by omega)
  have z0 := B2.out.fr 0
  have z3 := B2.out.fr 3
  go_wp2_with fail
  refine (num_ _ _).mono ?_
  rintro _ w3 ⟨rfl, hx⟩
  obtain rfl := hx.symm
  go_wp2_with fail
  obtain ⟨w3, e3⟩ : ∃ w3, w3 = (w2.setCell ⟨w.heap.size + 1, 0, none⟩ (pt L.b)).setCell ⟨w.heap.size + 1, 3, none⟩ (pt w1.heap.size) := ⟨_, rfl⟩
  obtain ⟨f, sg, sc, hO, hS⟩ := Op_.lay HN.out.1 HN.out.2 B0.out HA.out.2.1 HA.out.1 HA.out.2.2 HM.out e3
  have HO := Lib.hid (And.intro hO hS)
  clear hO hS
  unfold pt at e3
  rw [← e3]
  clear a0 a3 z0 z3
  have E3 := Lib.hid e3
  clear e3 HM B0 B1 B2 HA
  go_loopw [11] (fun i wr => ∃ k : Nat, k ≤ 2 ∧ i = .int .i64 k ∧ ∃ f q, Op_ w wr f (w.heap.size + 1) hold L w1.heap.size sg sc v2 (List.replicate (n + 1) none) (fresh Ent n 2) (List.range' 1 n) (cs_ cell) (ks_ b0 b1) q ∧ (∀ j, k ≤ j → q j = none) ∧
      wr.heap[w.heap.size]? = some (.cells #[.int .i64 n, .int .i64 cell, .int .i64 b0, .int .i64 b1, steps] 62 (0, 0))) (fun i _ => 2 - (intOf i).toNat)
  case atStart => exact ⟨0, by omega, rfl, _, _, HO.out.1, fun j hj => rfl, HO.out.2⟩
  case round =>
    obtain ⟨k, hk, rfl, f, q, hOp, hn, hS⟩ := hrel
    have H := Lib.hid (And.intro hOp hS)
    clear hOp hS
    have c10 : wr.cell? ⟨w.heap.size, 1, none⟩ = some (.int .i64 cell) := (cell_of H.out.2 1).trans rfl
    have c11 : wr.cell? ⟨w.heap.size, 2, none⟩ = some (.int .i64 b0) := (cell_of H.out.2 2).trans rfl
    have c12 : wr.cell? ⟨w.heap.size, 3, none⟩ = some (.int .i64 b1) := (cell_of H.out.2 3).trans rfl
    have h3 : k = 0 ∨ k = 1 ∨ k = 2 := by omega
    rcases h3 with rfl | rfl | rfl
    · rw [show ((0 : Nat) : Int) = (0 : Int) from rfl]
      have hq0 : q 0 = none := hn 0 (Nat.le_refl _)
      have HQ := Lib.hid hq0
      clear hq0
      by_cases he : errX 2 (cell) b0 = 0
      · have HE := Lib.hid he
        clear he
        go_wp2_with fail
        refine (Ch.new_ok H.out.1.ar _ _ (show errX (fresh Ent n 2).width _ _ = 0 from HE.out)).mono ?_
        rintro _ w4 ⟨xb, hb, rfl, g1, g2, hI, k4⟩
        have H4 := Lib.hid (H.out.1.rr.keep k4 (by simp))
        have K4 := Lib.hid (And.intro g1 (And.intro g2 (And.intro hI k4)))
        have S4 := Lib.hid (And.intro (k4.old H.out.2 (by simp)) (H.out.1.keep0 k4))
        clear g1 g2 hI k4
        have c1 : w4.cell? ⟨w.heap.size, 1, none⟩ = some (.int .i64 cell) := (cell_of S4.out.1 1).trans rfl
        have c2 : w4.cell? ⟨w.heap.size, 2, none⟩ = some (.int .i64 b0) := (cell_of S4.out.1 2).trans rfl
        go_wp2_with fail
        refine (newR_ok H4.out _ _ (show errX (fresh Ent n 2).width _ _ = 0 from HE.out)).mono ?_
        rintro _ w5 ⟨rx, rh, rc, rfl, g3, g4, hR, k5⟩
        have K5 := Lib.hid (And.intro g3 (And.intro g4 (And.intro hR k5)))
        have S5 := Lib.hid (And.intro (k5.old S4.out.1 (by simp)) (S4.out.2.keep0 k5))
        clear g3 g4 hR k5 c1 c2 c10 c11 c12
        have a1 : w5.cell? ⟨w.heap.size + 1, 1, none⟩ = some (xq q 0) := (cell_of S5.out.2.wdc 1).trans rfl
        have a4 : w5.cell? ⟨w.heap.size + 1, 4, none⟩ = some (rq q 0) := (cell_of S5.out.2.wdc 4).trans rfl
        have z1 : w5.frozen? ⟨w.heap.size + 1, 1, none⟩ = false := free_of S5.out.2.wdc 1
        have z4 : w5.frozen? ⟨w.heap.size + 1, 4, none⟩ = false := free_of S5.out.2.wdc 4
        go_wp2_with fail
        refine (num_ _ _).mono ?_
        rintro _ w6 ⟨rfl, hx⟩
        obtain rfl := hx.symm
        go_wp2_with fail
        go_roundw
        case rel =>
          have hM := H.out.1.made (i := 0) (by omega) HQ.out (s := ⟨xb, hb, rx, rh, rc⟩) K4.out.2.2.2 K5.out.2.2.2 K4.out.2.2.1 K5.out.2.2.1 HE.out ⟨K4.out.1, K4.out.2.1⟩ ⟨K5.out.1, K5.out.2.1⟩
          refine ⟨1, by omega, by go_num, _, _, hM, ?_, ?_⟩
          · intro j hj
            show (if j = 0 then _ else q j) = none
            rw [if_neg (by omega)]
            exact hn j (by omega)
          · refine Keep.old (S := [w.heap.size + 1]) (keep_set (keep_set (Keep.refl _ _) (List.mem_singleton.2 rfl) _ _) (List.mem_singleton.2 rfl) _ _) S5.out.1 (by simp)
        case measure => simp [intOf]
      · have HE := Lib.hid he
        clear he
        have T : Hid (∃ er, er = errX 2 (cell) b0) := Lib.hid ⟨_, rfl⟩
        obtain ⟨er, her⟩ := T.out
        have hne : er ≠ 0 := by rw [her]; exact HE.out
        have HER := Lib.hid her
        clear her T
        go_wp2_with fail
        refine (Ch.new_bad H.out.1.ar _ _ (show errX (fresh Ent n 2).width _ _ ≠ 0 from HE.out)).mono ?_
        rintro _ w4 ⟨rfl, k4⟩
        have H4 := Lib.hid (H.out.1.rr.keep k4 (by simp))
        have S4 := Lib.hid (And.intro (k4.old H.out.2 (by simp)) (H.out.1.keep0 k4))
        clear k4
        have c1 : w4.cell? ⟨w.heap.size, 1, none⟩ = some (.int .i64 cell) := (cell_of S4.out.1 1).trans rfl
        have c2 : w4.cell? ⟨w.heap.size, 2, none⟩ = some (.int .i64 b0) := (cell_of S4.out.1 2).trans rfl
        rw [show errX (fresh Ent n 2).width (cell) b0 = er from HER.out.symm]
        go_wp2_with fail
        refine (newR_bad H4.out _ _ (show errX (fresh Ent n 2).width _ _ ≠ 0 from HE.out)).mono ?_
        rintro _ w5 ⟨rfl, k5⟩
        have S5 := Lib.hid (And.intro (k5.old S4.out.1 (by simp)) (S4.out.2.keep0 k5))
        clear k5 c1 c2 c10 c11 c12
        rw [show errX (fresh Ent n 2).width (cell) b0 = er from HER.out.symm]
        have a1 : w5.cell? ⟨w.heap.size + 1, 1, none⟩ = some (xq q 0) := (cell_of S5.out.2.wdc 1).trans rfl
        have a4 : w5.cell? ⟨w.heap.size + 1, 4, none⟩ = some (rq q 0) := (cell_of S5.out.2.wdc 4).trans rfl
        have z1 : w5.frozen? ⟨w.heap.size + 1, 1, none⟩ = false := free_of S5.out.2.wdc 1
        have z4 : w5.frozen? ⟨w.heap.size + 1, 4, none⟩ = false := free_of S5.out.2.wdc 4
        go_wp2_with fail
        refine (num_ _ _).mono ?_
        rintro _ w6 ⟨rfl, hx⟩
        obtain rfl := hx.symm
        go_wp2_with fail
        go_roundw
        case rel =>
          refine ⟨1, by omega, by go_num, _, _, S5.out.2.none_ (i := 0) (by omega) HQ.out, fun j hj => hn j (by omega), ?_⟩
          refine Keep.old (S := [w.heap.size + 1]) (keep_set (keep_set (Keep.refl _ _) (List.mem_singleton.2 rfl) _ _) (List.mem_singleton.2 rfl) _ _) S5.out.1 (by simp)
        case measure => simp [intOf]
    · rw [show ((1 : Nat) : Int) = (1 : Int) from rfl]
      have hq0 : q 1 = none := hn 1 (Nat.le_refl _)
      have HQ := Lib.hid hq0
      clear hq0
      by_cases he : errX 2 (wrap64 (1 - cell)) b1 = 0
      · have HE := Lib.hid he
        clear he
        go_wp2_with fail
        refine (Ch.new_ok H.out.1.ar _ _ (show errX (fresh Ent n 2).width _ _ = 0 from HE.out)).mono ?_
        rintro _ w4 ⟨xb, hb, rfl, g1, g2, hI, k4⟩
        have H4 := Lib.hid (H.out.1.rr.keep k4 (by simp))
        have K4 := Lib.hid (And.intro g1 (And.intro g2 (And.intro hI k4)))
        have S4 := Lib.hid (And.intro (k4.old H.out.2 (by simp)) (H.out.1.keep0 k4))
        clear g1 g2 hI k4
        have c1 : w4.cell? ⟨w.heap.size, 1, none⟩ = some (.int .i64 cell) := (cell_of S4.out.1 1).trans rfl
        have c2 : w4.cell? ⟨w.heap.size, 3, none⟩ = some (.int .i64 b1) := (cell_of S4.out.1 3).trans rfl
        go_wp2_with fail
        refine (newR_ok H4.out _ _ (show errX (fresh Ent n 2).width _ _ = 0 from HE.out)).mono ?_
        rintro _ w5 ⟨rx, rh, rc, rfl, g3, g4, hR, k5⟩
        have K5 := Lib.hid (And.intro g3 (And.intro g4 (And.intro hR k5)))
        have S5 := Lib.hid (And.intro (k5.old S4.out.1 (by simp)) (S4.out.2.keep0 k5))
        clear g3 g4 hR k5 c1 c2 c10 c11 c12
        have a1 : w5.cell? ⟨w.heap.size + 1, 2, none⟩ = some (xq q 1) := (cell_of S5.out.2.wdc 2).trans rfl
        have a4 : w5.cell? ⟨w.heap.size + 1, 5, none⟩ = some (rq q 1) := (cell_of S5.out.2.wdc 5).trans rfl
        have z1 : w5.frozen? ⟨w.heap.size + 1, 2, none⟩ = false := free_of S5.out.2.wdc 2
        have z4 : w5.frozen? ⟨w.heap.size + 1, 5, none⟩ = false := free_of S5.out.2.wdc 5
        go_wp2_with fail
        refine (num_ _ _).mono ?_
        rintro _ w6 ⟨rfl, hx⟩
        obtain rfl := hx.symm
        go_wp2_with fail
        go_roundw
        case rel =>
          have hM := H.out.1.made (i := 1) (by omega) HQ.out (s := ⟨xb, hb, rx, rh, rc⟩) K4.out.2.2.2 K5.out.2.2.2 K4.out.2.2.1 K5.out.2.2.1 HE.out ⟨K4.out.1, K4.out.2.1⟩ ⟨K5.out.1, K5.out.2.1⟩
          refine ⟨2, by omega, by go_num, _, _, hM, ?_, ?_⟩
          · intro j hj
            show (if j = 1 then _ else q j) = none
            rw [if_neg (by omega)]
            exact hn j (by omega)
          · refine Keep.old (S := [w.heap.size + 1]) (keep_set (keep_set (Keep.refl _ _) (List.mem_singleton.2 rfl) _ _) (List.mem_singleton.2 rfl) _ _) S5.out.1 (by simp)
        case measure => simp [intOf]
      · have HE := Lib.hid he
        clear he
        have T : Hid (∃ er, er = errX 2 (wrap64 (1 - cell)) b1) := Lib.hid ⟨_, rfl⟩
        obtain ⟨er, her⟩ := T.out
        have hne : er ≠ 0 := by rw [her]; exact HE.out
        have HER := Lib.hid her
        clear her T
        go_wp2_with fail
        refine (Ch.new_bad H.out.1.ar _ _ (show errX (fresh Ent n 2).width _ _ ≠ 0 from HE.out)).mono ?_
        rintro _ w4 ⟨rfl, k4⟩
        have H4 := Lib.hid (H.out.1.rr.keep k4 (by simp))
        have S4 := Lib.hid (And.intro (k4.old H.out.2 (by simp)) (H.out.1.keep0 k4))
        clear k4
        have c1 : w4.cell? ⟨w.heap.size, 1, none⟩ = some (.int .i64 cell) := (cell_of S4.out.1 1).trans rfl
        have c2 : w4.cell? ⟨w.heap.size, 3, none⟩ = some (.int .i64 b1) := (cell_of S4.out.1 3).trans rfl
        rw [show errX (fresh Ent n 2).width (wrap64 (1 - cell)) b1 = er from HER.out.symm]
        go_wp2_with fail
        refine (newR_bad H4.out _ _ (show errX (fresh Ent n 2).width _ _ ≠ 0 from HE.out)).mono ?_
        rintro _ w5 ⟨rfl, k5⟩
        have S5 := Lib.hid (And.intro (k5.old S4.out.1 (by simp)) (S4.out.2.keep0 k5))
        clear k5 c1 c2 c10 c11 c12
        rw [show errX (fresh Ent n 2).width (wrap64 (1 - cell)) b1 = er from HER.out.symm]
        have a1 : w5.cell? ⟨w.heap.size + 1, 2, none⟩ = some (xq q 1) := (cell_of S5.out.2.wdc 2).trans rfl
        have a4 : w5.cell? ⟨w.heap.size + 1, 5, none⟩ = some (rq q 1) := (cell_of S5.out.2.wdc 5).trans rfl
        have z1 : w5.frozen? ⟨w.heap.size + 1, 2, none⟩ = false := free_of S5.out.2.wdc 2
        have z4 : w5.frozen? ⟨w.heap.size + 1, 5, none⟩ = false := free_of S5.out.2.wdc 5
        go_wp2_with fail
        refine (num_ _ _).mono ?_
        rintro _ w6 ⟨rfl, hx⟩
        obtain rfl := hx.symm
        go_wp2_with fail
        go_roundw
        case rel =>
          refine ⟨2, by omega, by go_num, _, _, S5.out.2.none_ (i := 1) (by omega) HQ.out, fun j hj => hn j (by omega), ?_⟩
          refine Keep.old (S := [w.heap.size + 1]) (keep_set (keep_set (Keep.refl _ _) (List.mem_singleton.2 rfl) _ _) (List.mem_singleton.2 rfl) _ _) S5.out.1 (by simp)
        case measure => simp [intOf]
    · rw [show ((2 : Nat) : Int) = (2 : Int) from rfl]
      go_wp2_with fail
      refine bodyPost_ret (results_tmp2 rfl _ _ _) rfl ?_
      refine ⟨_, rfl, H.out.1.keep, ?_⟩
      have hd := H.out.1.wdc
      have d3 : wr.cell? ⟨w.heap.size + 1, 3, none⟩ = some (.pointer (some ⟨w1.heap.size, 0, none⟩)) := (cell_of hd 3).trans rfl
      have d4 : wr.cell? ⟨w.heap.size + 1, 4, none⟩ = some (rq q 0) := (cell_of hd 4).trans rfl
      have d5 : wr.cell? ⟨w.heap.size + 1, 5, none⟩ = some (rq q 1) := (cell_of hd 5).trans rfl
      cases e0 : q 0 with
      | none => exact .inr ⟨_, _, _, d3, d4, d5, .inr (.inl (by rw [e0]; rfl))⟩
      | some s0 =>
        cases e1 : q 1 with
        | none => exact .inr ⟨_, _, _, d3, d4, d5, .inr (.inr (by rw [e1]; rfl))⟩
        | some s1 =>
          obtain ⟨g, X, hAll⟩ := H.out.1.all e0 e1 (fresh_okA n 2) HN.out.2
          exact .inl ⟨_, _, _, _, _, hAll⟩
end
end Go.Proofs.YtgagiggljlikbaaGreat.Lw

/- Layer 4's scripts: whole, open, runs. -/
namespace Go.Proofs.YtgagiggljlikbaaGreat.Lw
open Go.RowKit Go.Proofs.YtgagiggljlikbaaGreat.Mem Go.Proofs.YtgagiggljlikbaaGreat.Ar Go.Proofs.YtgagiggljlikbaaGreat.En Go.Proofs.YtgagiggljlikbaaGreat.Ch Go.Proofs.YtgagiggljlikbaaGreat.Rc
open Go.Proofs.YtgagiggljlikbaaGreat.Ra (owns_block RAt rBlocks)
set_option linter.unusedVariables false
set_option linter.unusedSimpArgs false
set_option maxRecDepth 100000
/-- one op of a script -/
structure SOp where
  kind : Int
  idx : Int
  a : Int
  b : Int
structure OpsIn (w : World) (a : Option Addr) (zs : List SOp) : Prop where
  cell : ∀ (i : Nat) (hi : i < zs.length), ∃ g o, a = some ⟨g, o, none⟩ ∧ w.cell? ⟨g, o + i * 4, none⟩ = some (.int .i64 zs[i].kind) ∧ w.cell? ⟨g, o + i * 4 + 1, none⟩ = some (.int .i64 zs[i].idx) ∧ w.cell? ⟨g, o + i * 4 + 2, none⟩ = some (.int .i64 zs[i].a) ∧
    w.cell? ⟨g, o + i * 4 + 3, none⟩ = some (.int .i64 zs[i].b)
theorem OpsIn.keep {w w' : World} {a : Option Addr} {ts : List SOp} (h : OpsIn w a ts) (k : Keep [] w w') : OpsIn w' a ts :=
  ⟨fun i hi => let ⟨g, o, e, c0, c1, c2, c3⟩ := h.cell i hi; ⟨g, o, e, k.cell c0 (by simp), k.cell c1 (by simp), k.cell c2 (by simp), k.cell c3 (by simp)⟩⟩
section
variable {w w' w2 w0 : World} {wd : Nat}
theorem whole_ {p3 p4 p5 : Option Addr} (h3 : w.cell? ⟨wd, 3, none⟩ = some (.pointer p3)) (h4 : w.cell? ⟨wd, 4, none⟩ = some (.pointer p4)) (h5 : w.cell? ⟨wd, 5, none⟩ = some (.pointer p5)) :
    Calls Tryz.prog 49 #[.pointer (some ⟨wd, 0, none⟩)] w fun r w' => r = .returned (.bool (p3.isSome && p4.isSome && p5.isSome)) ∧ Keep [] w w' := by
  cases p3 <;> cases p4 <;> cases p5 <;>
  · go_enter Tryz.func49, Tryz.ntmps49
    go_wp2_with fail
    first
      | (go_ret; exact ⟨rfl, Keep.refl _ _⟩)
      | (go_quiet (fail); go_wp2_with fail; go_ret; exact ⟨rfl, (Keep.refl _ _).drewN _⟩)
theorem open_any (slots cell b0 b1 hold : Int) (steps : Value) :
    Calls Tryz.prog 48 #[.agg #[.int .i64 slots, .int .i64 cell, .int .i64 b0, .int .i64 b1, steps], .int .i64 hold] w (Opened w hold) := by
  by_cases hs : 1 ≤ slots ∧ slots ≤ 4096
  · obtain ⟨n, rfl⟩ : ∃ n : Nat, slots = n := ⟨slots.toNat, by omega⟩
    exact open_ok n (by omega) (by omega) cell b0 b1 hold steps
  · exact open_bad slots cell b0 b1 hold steps hs
set_option maxHeartbeats 4000000 in
theorem runs_ (slots cell b0 b1 hold : Int) (a : Option Addr) (ct : Nat) (zs : List SOp) (hlen : zs.length ≤ 1048576) (hz : OpsIn w a zs) :
    Calls Tryz.prog 26 #[.agg #[.int .i64 slots, .int .i64 cell, .int .i64 b0, .int .i64 b1, .slice a zs.length ct], .int .i64 hold] w fun r w' => r = .returned (.bool true) ∧ Keep [] w w' := by
  have HZ := Lib.hid hz
  obtain ⟨n, hn⟩ : ∃ n, n = zs.length := ⟨_, rfl⟩
  have HN := Lib.hid hn
  have hn2 : n ≤ 1048576 := by omega
  rw [← hn]
  clear hz hn hlen
  obtain ⟨wq, hwq⟩ : ∃ wq, wq = w.alloc (.cells #[.int .i64 slots, .int .i64 cell, .int .i64 b0, .int .i64 b1, .slice a n ct] 62) := ⟨_, rfl⟩
  have kq : Keep [] w wq := by rw [hwq]; exact (Keep.refl _ _).alloc _
  have bq : wq.heap[w.heap.size]? = some (.cells #[.int .i64 slots, .int .i64 cell, .int .i64 b0, .int .i64 b1, .slice a n ct] 62 (0, 0)) := by rw [hwq]; exact alloc_new _ _
  have KQ := Lib.hid (And.intro kq bq)
  have WQ := Lib.hid hwq
  clear kq bq hwq
  go_enter Tryz.func26, Tryz.ntmps26
  go_wp2_with fail
  rw [← WQ.out]
  refine (open_any slots cell b0 b1 hold _).mono ?_
  rintro _ w1 ⟨wd, rfl, k1, hO⟩
  have K1 := Lib.hid k1
  clear k1
  rcases hO with ⟨f, g, X, A, Q, hA⟩ | ⟨p3, p4, p5, d3, d4, d5, hp⟩
  · obtain ⟨s0, s1, s2, s3, s4, s5⟩ := hA.wp.cs
    unfold pt at s0 s1 s2 s3 s4 s5
    have HA := Lib.hid hA
    clear hA
    go_wp2_with fail
    refine (whole_ s3 s4 s5).mono ?_
    rintro _ w2 ⟨rfl, k2⟩
    have H2 := Lib.hid (HA.out.keep0 k2)
    clear k2 s0 s1 s2 s3 s4 s5
    simp only [Option.isSome, Bool.and_self]
    go_wp2_with fail
    go_loopw [7] (fun i wr => ∃ k : Nat, k ≤ n ∧ i = .int .i64 k ∧ ∃ f X A Q ms, All wq wr f g wd hold X A Q ms ∧ ms.length ≤ k) (fun i _ => n - (intOf i).toNat)
    case atStart => exact ⟨0, by omega, rfl, _, _, _, _, _, H2.out, Nat.le_refl _⟩
    case round =>
      obtain ⟨k, hk, rfl, f2, X2, A2, Q2, ms, hA2, hms⟩ := hrel
      have HR := Lib.hid (And.intro hA2 hms)
      clear hA2 hms
      have c9 : wr.cell? ⟨w.heap.size, 4, none⟩ = some (.slice a n ct) := (cell_of (HR.out.1.wp.keep.old KQ.out.2 (by simp)) 4).trans rfl
      by_cases hlt : k < n
      · have hk' : (k : Int) < (n : Int) := by omega
        obtain ⟨gs, o, rfl, c0, c1, c2, c3⟩ := (HZ.out.keep (KQ.out.1.trans HR.out.1.wp.keep)).cell k (by have := HN.out; omega)
        obtain ⟨z, hzz⟩ : ∃ z, z = zs[k]'(by have := HN.out; omega) := ⟨_, rfl⟩
        rw [← hzz] at c0 c1 c2 c3
        clear hzz
        go_wp2_with fail
        refine (playL HR.out.1 (by have := HR.out.2; omega) _ _ _ _).mono ?_
        rintro _ w4 ⟨rfl, f4, X4, A4, Q4, ms4, hA4, hm4⟩
        have H4 := Lib.hid (And.intro hA4 hm4)
        clear hA4 hm4 c0 c1 c2 c3
        go_wp2_with fail
        go_roundw
        case rel => exact ⟨k + 1, hlt, by go_num, _, _, _, _, _, H4.out.1, by have := H4.out.2; have := HR.out.2; omega⟩
        case measure => simp [intOf]; omega
      · have hke : ¬ (k : Int) < (n : Int) := by omega
        go_wp2_with fail
        refine (lastL HR.out.1 (by have := HR.out.2; omega)).mono ?_
        rintro _ w4 ⟨rfl, k4⟩
        have K4 := Lib.hid k4
        clear k4
        go_wp2_with fail
        go_ret
        exact ⟨rfl, KQ.out.1.trans K4.out⟩
  · have hb : (p3.isSome && p4.isSome && p5.isSome) = false := by
      rcases hp with rfl | rfl | rfl <;> simp
    have HB := Lib.hid hb
    clear hb hp
    go_wp2_with fail
    refine (whole_ d3 d4 d5).mono ?_
    rintro _ w2 ⟨rfl, k2⟩
    have K2 := Lib.hid (K1.out.trans k2)
    clear k2 d3 d4 d5
    rw [HB.out]
    go_wp2_with fail
    go_ret
    exact ⟨rfl, KQ.out.1.trans K2.out⟩
end
end Go.Proofs.YtgagiggljlikbaaGreat.Lw
