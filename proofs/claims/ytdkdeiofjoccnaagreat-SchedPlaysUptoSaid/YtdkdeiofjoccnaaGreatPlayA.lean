import Derived.Test.YtdkdeiofjoccnaaGreatEven
import Derived.WalkSpells
import Derived.Test.YtdkdeiofjoccnaaGreatLend
import Derived.LaidEqlPtr
import Derived.Lib.Builder
/- The harness's and the bench's small calls that SchedPlays makes: the refusals of Submit, Thread, Regs, the document's Take, Steps. -/
namespace Go.Proofs.YtdkdeiofjoccnaaGreat.Har
open Go.RowKit Go.Proofs.YtdkdeiofjoccnaaGreat.Mem
set_option linter.unusedVariables false
set_option maxRecDepth 100000
section
variable {S : Type} {M : Mach S} {w0 w w' : World} {F : List Nat} {b p : Nat} {H : Har} {s : S} {bq : Nat} {vs : List Value} {ve vd : Value}
theorem submit_who (h : At w b bq vs ve vd H) (who tag : Int) (hk : ¬ (0 ≤ who ∧ who < H.queues.length)) (v : Value) :
    Calls Tryz.prog 28 #[.pointer (some ⟨b, 0, none⟩), .int .i64 who, .int .i64 tag, v] w fun e w' => e = .returned (.int .i64 31) ∧ w = w' := by
  have c0 : w.cell? ⟨b, 0, none⟩ = some (.slice (some ⟨bq, 0, none⟩) vs.length vs.length) := cell_of h.hb 0
  have hl := h.len.1
  clear h
  by_cases h1 : who < 0
  · clear hk hl
    go_enter Tryz.func28, Tryz.ntmps28
    go_wp2_with fail
    go_ret
    exact ⟨rfl, rfl⟩
  · obtain ⟨k, rfl⟩ : ∃ k : Nat, who = k := ⟨who.toNat, by omega⟩
    have hge : vs.length ≤ k := by omega
    obtain ⟨n, hn⟩ : ∃ n, n = vs.length := ⟨_, rfl⟩
    rw [← hn] at c0 hge
    have b1 : decide ((k : Int) < 0) = false := by simp
    clear hk hl hn h1
    go_enter Tryz.func28, Tryz.ntmps28
    go_wp2_with fail
    go_ret
    exact ⟨rfl, rfl⟩
theorem submit_full (h : At w b bq vs ve vd H) (k : Nat) (hk : k < H.queues.length) (tag : Int) (a : Option Addr) (n cap : Nat) (hn : n ≤ 1000000000000) (hp : pend H k ≤ 1000000000000) (hq : 64 < pend H k + n) :
    Calls Tryz.prog 28 #[.pointer (some ⟨b, 0, none⟩), .int .i64 k, .int .i64 tag, .slice a n cap] w fun e w' => e = .returned (.int .i64 32) ∧ w = w' := by
  have c0 : w.cell? ⟨b, 0, none⟩ = some (.slice (some ⟨bq, 0, none⟩) vs.length vs.length) := cell_of h.hb 0
  obtain ⟨a1, cc, hcq⟩ := h.queue hk
  have hkv : k < vs.length := by have := h.len.1; omega
  obtain ⟨N, hN⟩ : ∃ N, N = vs.length := ⟨_, rfl⟩
  rw [← hN] at c0 hkv
  obtain ⟨q, hqq⟩ : ∃ q, q = pend H k := ⟨_, rfl⟩
  rw [← hqq] at hcq hp hq
  have b1 : decide ((k : Int) < 0) = false := by simp
  have b2 : decide (N ≤ k) = false := by simpa using hkv
  have b3 : decide ((64 : Int) - (q : Int) < (n : Int)) = true := by simp; omega
  clear h hN hqq hk
  go_enter Tryz.func28, Tryz.ntmps28
  go_wp2_with fail
  go_ret
  exact ⟨rfl, rfl⟩
end
end Go.Proofs.YtdkdeiofjoccnaaGreat.Har

namespace Go.Proofs.YtdkdeiofjoccnaaGreat.Ref
open Go.RowKit Go.Proofs.YtdkdeiofjoccnaaGreat.Mem Go.Proofs.YtdkdeiofjoccnaaGreat.Har Go.Proofs.YtdkdeiofjoccnaaGreat.Lit
set_option linter.unusedVariables false
set_option maxRecDepth 100000
section
variable {w0 w w' : World} {F : List Nat} {b pb bq : Nat} {vs : List Value} {ve vd : Value} {B : RB} {H : Har.Har} {S : RP}
theorem submit_full (h : RS w F w b pb B H S) (k : Nat) (hk : k < H.queues.length) (tag : Int) (a : Option Addr) (n cap : Nat) (hn : n ≤ 1000000000000) (hp : pend H k ≤ 1000000000000) (hq : 64 < pend H k + n) :
    Calls Tryz.prog 30 #[.pointer (some ⟨b, 0, none⟩), .int .i64 k, .int .i64 tag, .slice a n cap] w fun e w' => e = .returned (.int .i64 32) ∧ w = w' := by
  obtain ⟨⟨bq, vs, ve, vd, h⟩, hf⟩ := h
  have HW := Lib.hid (worker h.at_ (k : Int))
  have hwk : (decide (0 ≤ (k : Int)) && decide ((k : Int) < H.queues.length)) = true := by simp; omega
  rw [hwk] at HW
  have c1 : w.cell? ⟨b, 1, none⟩ = some (.slice (some ⟨bq, 0, none⟩) vs.length vs.length) := cell_of h.at_.hb 1
  obtain ⟨a1, cc, hcq⟩ := h.at_.queue hk
  have hkv : k < vs.length := by have := h.at_.len.1; omega
  obtain ⟨N, hN⟩ : ∃ N, N = vs.length := ⟨_, rfl⟩
  rw [← hN] at c1 hkv
  obtain ⟨q, hqq⟩ : ∃ q, q = pend H k := ⟨_, rfl⟩
  rw [← hqq] at hcq hp hq
  have b3 : decide ((64 : Int) < (q : Int) + (n : Int)) = true := by simp; omega
  clear h hf hN hqq hk hwk
  go_enter Tryz.func30, Tryz.ntmps30
  go_wp2_with fail
  refine HW.out.mono ?_
  rintro e w2 ⟨rfl, rfl⟩
  go_wp2_with fail
  go_ret
  exact ⟨rfl, rfl⟩
theorem stepsR (h : RAt w b pb bq vs ve vd H) :
    Calls Tryz.prog 46 #[.pointer (some ⟨b, 0, none⟩)] w fun e w' => e = .returned (.int .i64 H.steps) ∧ w = w' := by
  have c2 : w.cell? ⟨b, 2, none⟩ = some (.int .i64 H.steps) := cell_of h.hb 2
  clear h
  go_enter Tryz.func46, Tryz.ntmps46
  go_wp2_with fail
  go_ret
  exact ⟨rfl, rfl⟩
theorem takeR (h : RSince w F w b pb bq vs ve vd B H S) (hF : F = Har.blocks b bq (ve :: vd :: vs)) :
    Calls Tryz.prog 54 #[.pointer (some ⟨b, 0, none⟩)] w fun e w' => e = .returned vd ∧ w'.ownsRow 0 3 1 vd H.ended.length H.ended ∧ RSince w F w' b pb bq vs ve (.slice none 0 0) B { H with ended := [] } S := by
  have c4 : w.cell? ⟨b, 4, none⟩ = some vd := cell_of h.at_.hb 4
  have f4 := free_of h.at_.hb 4
  have HS := Lib.hid h
  have HF := Lib.hid hF
  clear h hF
  obtain ⟨a, c, hv⟩ := row_form HS.out.at_.hd
  rw [hv] at c4
  have HV := Lib.hid hv
  clear hv
  go_enter Tryz.func54, Tryz.ntmps54
  go_wp2_with fail
  go_ret
  have hS := HS.out
  have hg : w.grownBy w vd.ownBlock := ⟨rfl, rfl, rfl, Nat.le_refl _, fun _ _ _ => rfl⟩
  obtain ⟨h1, -⟩ := hS.at_.setEnded (vd' := .slice none 0 0) (l := []) ⟨rfl, .inl ⟨rfl, rfl⟩⟩ hg (by simp [Value.ownBlock])
  have k : Keep [b] w (w.setCell ⟨b, 4, none⟩ (.slice none 0 0)) := (Keep.refl _ _).set (.inl (by simp)) _ _
  refine ⟨by rw [HV.out]; rfl, owns_block hS.at_.hd fun x hx => set_other (hS.at_.ne_b.2.2.1 x hx) _ _, hS.turn h1 k (fun x hx => by simp at hx; subst hx; exact mem_b) (fun x hx => .inl ?_) hS.ok ⟨hS.few.1, Nat.zero_le _⟩⟩
  rw [mem_blocks] at hx
  rcases hx with rfl | rfl | ⟨i, hi, hx⟩
  · exact mem_b
  · exact mem_bq
  · rcases i with _ | _ | i
    · exact mem_ve hx
    · simp [Value.ownBlock] at hx
    · exact mem_vs (by simpa using hi) hx
theorem new_badR (n : Int) (hn : n < 1 ∨ 16 < n) (v : Option Addr) (w : World) :
    Calls Tryz.prog 11 #[.int .i64 n, .pointer v] w fun e w' => e = .returned (.tuple #[.pointer none, .int .i64 30]) ∧ w = w' := by
  by_cases h1 : n < 1
  · clear hn
    go_enter Tryz.func11, Tryz.ntmps11
    go_wp2_with fail
    go_ret2
    exact ⟨rfl, rfl⟩
  · have h2 : 16 < n := by omega
    have b1 : decide (n < 1) = false := by simpa using h1
    clear hn h1
    go_enter Tryz.func11, Tryz.ntmps11
    go_wp2_with fail
    go_ret2
    exact ⟨rfl, rfl⟩
end
end Go.Proofs.YtdkdeiofjoccnaaGreat.Ref

namespace Go.Proofs.YtdkdeiofjoccnaaGreat.Lit
open Go.RowKit Go.Proofs.YtdkdeiofjoccnaaGreat.Mem Go.Proofs.YtdkdeiofjoccnaaGreat.Ar Go.Proofs.YtdkdeiofjoccnaaGreat.Un
set_option linter.unusedVariables false
set_option maxRecDepth 100000
section
variable {w0 w w' : World} {bb : Nat} {P : Park} {H : Har.Har} {S : St} {T : List Nat}
/-- the thread of that number, if there is one -/
def thrA (P : Park) (i : Int) : Option Addr := if 0 ≤ i then (P.seats[i.toNat]?).map fun s => ⟨s.tb, 0, none⟩ else none
theorem thrA_at {P : Park} {i : Nat} (h : i < P.seats.length) : thrA P i = some ⟨P.seats[i].tb, 0, none⟩ := by
  unfold thrA
  rw [if_pos (by omega), Int.toNat_natCast, List.getElem?_eq_getElem h]
  rfl
theorem thrA_none {P : Park} {i : Int} (h : ¬ (0 ≤ i ∧ i < P.seats.length)) : thrA P i = none := by
  unfold thrA
  split
  · rw [List.getElem?_eq_none (by omega)]
    rfl
  · rfl
theorem Rest.thread (h : Rest w0 T w bb P H S) (hn : P.seats.length ≤ 16) (i : Int) :
    Calls Tryz.prog 32 #[.pointer (some ⟨bb, 0, none⟩), .int .i64 i] w fun e w' => e = .returned (.pointer (thrA P i)) ∧ w = w' := by
  obtain ⟨L, hb, hq, vs, ve, vd, tsv, h, -⟩ := h
  have c2 := (cell_of h.hbb 2).trans rfl
  obtain ⟨ta, tc, hts, htr⟩ : ∃ a c, tsv = .slice a P.seats.length c ∧ ∀ (i : Nat) (hi : i < P.seats.length), ∃ g, a = some ⟨g, 0, none⟩ ∧ w.cell? ⟨g, i, none⟩ = some (.pointer (some ⟨P.seats[i].tb, 0, none⟩)) := by
    rcases h.thr.2 with ⟨e, h0⟩ | ⟨g, cap, cur, e, -⟩
    · exact ⟨none, 0, by rw [e, h0], fun i hi => by omega⟩
    · refine ⟨_, cap, e, fun i hi => ⟨g, rfl, ?_⟩⟩
      have h1 := h.thr.cells (g := g) (by rw [e]; rfl) i (ptr P.seats[i].tb) (by rw [List.getElem?_map, List.getElem?_eq_getElem hi]; rfl)
      have e2 : (⟨g, 0, none⟩ : Addr).add i = ⟨g, i, none⟩ := by unfold Addr.add; split <;> simp_all
      rw [e2] at h1
      exact h1
  rw [hts] at c2
  clear h hts
  by_cases h1 : i < 0
  · have HT := Lib.hid (thrA_none (P := P) (i := i) (by omega))
    rw [HT.out]
    clear htr
    go_enter Tryz.func32, Tryz.ntmps32
    go_wp2_with fail
    go_ret
    exact ⟨rfl, rfl⟩
  · obtain ⟨k, rfl⟩ : ∃ k : Nat, i = k := ⟨i.toNat, by omega⟩
    have b1 : decide ((k : Int) < 0) = false := by simp
    by_cases h2 : k < P.seats.length
    · obtain ⟨g, rfl, x0⟩ := htr k h2
      have HT := Lib.hid (thrA_at h2)
      rw [HT.out]
      obtain ⟨tb, htb⟩ : ∃ tb, tb = P.seats[k].tb := ⟨_, rfl⟩
      rw [← htb] at x0 ⊢
      obtain ⟨N, hN⟩ : ∃ N, N = P.seats.length := ⟨_, rfl⟩
      rw [← hN] at c2 h2 hn
      have b2 : decide (N ≤ k) = false := by simpa using h2
      clear htr htb hN
      go_enter Tryz.func32, Tryz.ntmps32
      go_wp2_with fail
      go_ret
      exact ⟨rfl, rfl⟩
    · have HT := Lib.hid (thrA_none (P := P) (i := (k : Int)) (by omega))
      rw [HT.out]
      obtain ⟨N, hN⟩ : ∃ N, N = P.seats.length := ⟨_, rfl⟩
      rw [← hN] at c2 h2 hn
      have b2 : N ≤ k := by omega
      clear htr hN h2
      go_enter Tryz.func32, Tryz.ntmps32
      go_wp2_with fail
      go_ret
      exact ⟨rfl, rfl⟩
theorem thread_regs {tb b slot : Nat} {pv : Value} {t : Th} (h : ThAt w tb pv b slot t) :
    Calls Tryz.prog 55 #[.pointer (some ⟨tb, 0, none⟩)] w fun e w' => ∃ v, e = .returned v ∧ w'.ownsRow w.heap.size 75 1 v 4 (t.regs.map (.int .u64)) ∧ Keep [] w w' := by
  obtain ⟨i0, hi0, hz0, hz1, hz2⟩ := info_parts infoW64
  have HI := Lib.hid hi0
  have HZ := Lib.hid (And.intro hz0 (And.intro hz1 hz2))
  have r0 := regs_cells h
  have RS : Hid (Sees w (some ⟨tb, 2, none⟩) (t.regs.map (.int .u64))) := Lib.hid ⟨fun i hi => ⟨tb, 2, rfl, by
    have := r0 i _ (List.getElem?_eq_getElem hi)
    have e2 : (⟨tb, 2, none⟩ : Addr).add i = ⟨tb, 2 + i, none⟩ := by unfold Addr.add; split <;> simp_all
    rw [e2] at this
    exact this⟩⟩
  have r1 := Lib.hid (one_nums t.regs)
  have r2 := Lib.hid (show (t.regs.map (Value.int .u64)).length = 4 * 1 by rw [List.length_map, h.regs])
  have ht0 := cell_of h.hb 2
  clear h hi0 hz0 hz1 hz2 r0
  go_enter Tryz.func55, Tryz.ntmps55
  go_wp2_with (at_builtin; refine wpList_copy rfl _ 22 rfl 75 i0 _ 1 8 Tryz.underlying22 HI.out HZ.out.1 HZ.out.2.1 HZ.out.2.2 rfl (by decide) (some ⟨tb, 2, none⟩) 4 4 (t.regs.map (.int .u64)) rfl r2.out RS.out r1.out (by unfold maxLen; omega) (by omega) ?_)
  intro a7 c7 w7 hc7
  have C7 := Lib.hid hc7
  clear hc7
  go_wp2_with fail
  go_ret
  exact ⟨_, rfl, C7.out.own, C7.out.keep⟩
end
end Go.Proofs.YtdkdeiofjoccnaaGreat.Lit

/- evented: a list of events is written full and made longer: nothing else is turned. -/
namespace Go.Proofs.YtdkdeiofjoccnaaGreat.Lit
open Go.RowKit Go.Proofs.YtdkdeiofjoccnaaGreat.Mem Go.Proofs.YtdkdeiofjoccnaaGreat.Ar Go.Proofs.YtdkdeiofjoccnaaGreat.Un
set_option linter.unusedVariables false
set_option maxRecDepth 100000
section
variable {w : World} {B n z : Nat} {v : Value} {xs : List Value} {t : TypeId}
theorem row_set (hz : 0 < z) (h : w.ownsRow B t z v n xs) (g o : Nat) (u : Value) : ∃ ys, (w.setCell ⟨g, o, none⟩ u).ownsRow B t z v n ys := by
  rcases h.2 with ⟨rfl, rfl⟩ | ⟨b, cap, cur, rfl, hb, hg, h1, h2, h3, h4⟩
  · exact ⟨[], World.ownsRow_nil _ _ _ _⟩
  · by_cases e : b = g
    · subst e
      refine ⟨(cur.setIfInBounds o u).toList.take (n * z), ?_, .inr ⟨b, cap, _, rfl, hb, set_same hg o u, h1, h2, by simpa using h3, rfl⟩⟩
      have hle : n * z ≤ cur.size := by rw [h3]; exact Nat.mul_le_mul_right z h1
      rw [List.length_take, Array.length_toList, Array.size_setIfInBounds]
      omega
    · exact ⟨xs, h.1, .inr ⟨b, cap, cur, rfl, hb, (set_other e o u).trans hg, h1, h2, h3, h4⟩⟩
theorem row_shape4 (h : w.ownsRow B t 4 v n xs) : ∃ a cap, v = .slice a n cap ∧ ∀ i, i < n → ∃ g, a = some ⟨g, 0, none⟩ ∧ v.ownBlock = some g ∧
    (∃ u, w.cell? ⟨g, i * 4, none⟩ = some u) ∧ (∃ u, w.cell? ⟨g, i * 4 + 1, none⟩ = some u) ∧ (∃ u, w.cell? ⟨g, i * 4 + 2, none⟩ = some u) ∧ (∃ u, w.cell? ⟨g, i * 4 + 3, none⟩ = some u) ∧ (∀ o, w.frozen? ⟨g, o, none⟩ = false) := by
  rcases h.2 with ⟨rfl, rfl⟩ | ⟨b, cap, cur, rfl, hb, hg, h1, h2, h3, h4⟩
  · exact ⟨none, 0, rfl, fun i hi => by omega⟩
  · refine ⟨_, cap, rfl, fun i hi => ⟨b, rfl, rfl, ?_, ?_, ?_, ?_, fun o => free_of hg o⟩⟩
    · exact ⟨cur[i * 4]'(by omega), by rw [cell_of hg]; exact Array.getElem?_eq_getElem _⟩
    · exact ⟨cur[i * 4 + 1]'(by omega), by rw [cell_of hg]; exact Array.getElem?_eq_getElem _⟩
    · exact ⟨cur[i * 4 + 2]'(by omega), by rw [cell_of hg]; exact Array.getElem?_eq_getElem _⟩
    · exact ⟨cur[i * 4 + 3]'(by omega), by rw [cell_of hg]; exact Array.getElem?_eq_getElem _⟩
end

set_option maxHeartbeats 2000000 in
theorem evented {w : World} {v : Value} {n : Nat} {xs : List Value} (h : w.ownsRow 0 190 4 v n xs) (hn : n ≤ 1000000000000) :
    Calls Tryz.prog 51 #[v] w fun e w' => e = .returned (.tuple #[]) ∧ Keep v.ownBlock.toList w w' := by
  obtain ⟨i0, hi, hz0, hz1, hz2⟩ := info_parts Har.infoE
  have HI := Lib.hid hi; clear hi
  have HZ := Lib.hid (And.intro hz0 (And.intro hz1 hz2)); clear hz0 hz1 hz2
  obtain ⟨S, hS⟩ : ∃ S, S = v.ownBlock.toList := ⟨_, rfl⟩
  rw [← hS]
  have HS := Lib.hid hS; clear hS
  obtain ⟨a, cap, hv, -⟩ := row_shape4 h
  subst hv
  have H0 : Hid (∃ xs, w.ownsRow 0 190 4 (.slice a n cap) n xs) := Lib.hid ⟨xs, h⟩
  clear h
  go_enter Tryz.func51, Tryz.ntmps51
  go_wp2_with fail
  go_loopw [2] (fun i wr => ∃ (j : Nat), j ≤ n ∧ i = .int .i64 j ∧ (∃ xs, wr.ownsRow 0 190 4 (.slice a n cap) n xs) ∧ Keep S w wr) (fun i _ => n - (intOf i).toNat)
  case atStart => exact ⟨0, Nat.zero_le _, rfl, H0.out, Keep.refl _ _⟩
  case round =>
    obtain ⟨j, hj, rfl, ⟨xs, hx⟩, hk⟩ := hrel
    have HX := Lib.hid hx; clear hx
    have HK := Lib.hid hk; clear hk H0
    obtain ⟨wo, rfl⟩ : ∃ wo : World, wo = wr := ⟨_, rfl⟩
    by_cases hlt : j < n
    · obtain ⟨a', cap', hv, hc⟩ := row_shape4 HX.out
      obtain ⟨rfl, -, rfl⟩ : a = a' ∧ n = n ∧ cap = cap' := by simpa using hv
      obtain ⟨g, rfl, hg, ⟨u0, p0⟩, ⟨u1, p1⟩, ⟨u2, p2⟩, ⟨u3, p3⟩, hf⟩ := hc j hlt
      have hgS : g ∈ S := by rw [HS.out]; simp [Value.ownBlock]
      have HG := Lib.hid hgS; clear hgS hg hv hc
      have f0 := hf (j * 4)
      have f1 := hf (j * 4 + 1)
      have f2 := hf (j * 4 + 2)
      have f3 := hf (j * 4 + 3)
      clear hf
      go_wp2_with fail
      go_roundw
      case rel =>
        obtain ⟨y1, h1⟩ := row_set (by decide) HX.out g (j * 4) (.int .i64 9)
        obtain ⟨y2, h2⟩ := row_set (by decide) h1 g (j * 4 + 1) (.int .i64 (j : Int))
        obtain ⟨y3, h3⟩ := row_set (by decide) h2 g (j * 4 + 2) (.int .i64 (-3))
        exact ⟨j + 1, hlt, by go_num, row_set (by decide) h3 g (j * 4 + 3) _, (((HK.out.set (.inl HG.out) _ _).set (.inl HG.out) _ _).set (.inl HG.out) _ _).set (.inl HG.out) _ _⟩
      case measure => simp [intOf]; omega
    · go_wp2_with fail
      go_loopw [0, 3] (fun v' i wr => ∃ (j m : Nat) (xs : List Value), j ≤ 40 ∧ i = .int .i64 j ∧ m ≤ n + j ∧ wr.ownsRow 0 190 4 v' m xs ∧ (∀ g, v'.ownBlock = some g → g ∈ S ∨ w.heap.size ≤ g) ∧ Keep S w wr) (fun _ i _ => 40 - (intOf i).toNat)
      case atStart => exact ⟨0, n, xs, Nat.zero_le _, rfl, Nat.le_refl _, HX.out, fun g hg => .inl (by rw [HS.out, hg]; simp), HK.out⟩
      case round =>
        clear HX HK
        obtain ⟨j, m, xs, hj, rfl, hm, hx, hg, hk⟩ := hrel
        have HX := Lib.hid hx; clear hx
        have HG := Lib.hid hg; clear hg
        have HK := Lib.hid hk; clear hk
        obtain ⟨wo, rfl⟩ : ∃ wo : World, wo = wr := ⟨_, rfl⟩
        by_cases hlt : j < 40
        · have d1 := Lib.hid (Har.ev_one [⟨8, 0, 0, 0⟩])
          have d2 := Lib.hid (show m + 1 ≤ maxLen by unfold maxLen; omega)
          have d3 := Lib.hid (show (m + 1) * 32 ≤ 140737488355328 by omega)
          have N1 := Lib.hid (alloc_new wo (.cells #[.int .i64 8, .int .i64 0, .int .i64 0, .int .i64 0] 190))
          go_wp2_with (at_builtin; refine wpList_append_own_at _ rfl _ _ 103 rfl 0 190 i0 (.agg #[.int .i64 0, .int .i64 0, .int .i64 0, .int .i64 0]) 4 32 Tryz.underlying103 HI.out HZ.out.1 HZ.out.2.1 HZ.out.2.2 rfl (by decide) _ _ _ rfl (HX.out.alloc _) ⟨_, 0, none⟩ 1 1 (Har.evs [⟨8, 0, 0, 0⟩]) rfl rfl (World.news_of_block (cs := #[.int .i64 8, .int .i64 0, .int .i64 0, .int .i64 0]) (fr := (0, 0)) N1.out) d1.out d2.out d3.out (Nat.zero_le _) ?_; intro v' w3 q1 q2 _ q3; have A1 := Lib.hid q1; have G1 := Lib.hid q2; have P1 := Lib.hid q3; clear q1 q2 q3)
          go_roundw
          case rel =>
            refine ⟨j + 1, m + 1, _, hlt, by go_num, by omega, A1.out, fun g hg => ?_, ?_⟩
            · rcases P1.out with p | p
              · exact HG.out g (p ▸ hg)
              · rw [p] at hg
                obtain rfl := Option.some.inj hg
                exact .inr (Nat.le_trans HK.out.size (by simp))
            · exact Pick.Keep.grown (HK.out.alloc _) G1.out HG.out
          case measure => simp [intOf]; omega
        · go_wp2_with fail
          exact bodyPost_end (results_none rfl _ _ _) rfl ⟨rfl, HK.out⟩

/-! ### took -/
/-- the machines that have ended, and their numbers, in two lists -/
structure Ended (w : World) (v : Value) (va : Value) (P : Park) (l : List Value) (ns : List Value) : Prop where
  row : w.ownsRow 0 38 1 v l.length l
  nums : w.ownsRow 0 3 1 va ns.length ns
  len : l.length = ns.length
  each : ∀ i (h1 : i < l.length) (h2 : i < ns.length), ∃ k : Nat, k < P.seats.length ∧ ns[i] = .int .i64 k ∧ l[i] = .pointer (thrA P k)
end Go.Proofs.YtdkdeiofjoccnaaGreat.Lit

/- took: the machines that have ended are those threads; then the list is wiped. threads: those of a list of numbers that there are. -/
namespace Go.Proofs.YtdkdeiofjoccnaaGreat.Lit
open Go.RowKit Go.Proofs.YtdkdeiofjoccnaaGreat.Mem Go.Proofs.YtdkdeiofjoccnaaGreat.Ar Go.Proofs.YtdkdeiofjoccnaaGreat.Un
set_option linter.unusedVariables false
set_option maxRecDepth 100000

theorem thread_neq (a : Addr) (w : World) : (binOp .neq 38 (.pointer (some a)) (.pointer (some a))).run Tryz.prog w = .ok (.bool false) w := by
  have h : (Tryz.prog.info? 98).isSome = true := by kernel_rfl
  obtain ⟨j, hj⟩ := Option.isSome_iff_exists.1 h
  exact Lib.run_neq_ptr_same w a Tryz.underlying38 hj
theorem thread_eql (a : Addr) (w : World) : (binOp .eql 38 (.pointer (some a)) (.pointer (some a))).run Tryz.prog w = .ok (.bool true) w := by
  have h : (Tryz.prog.info? 98).isSome = true := by kernel_rfl
  obtain ⟨j, hj⟩ := Option.isSome_iff_exists.1 h
  exact run_eql_ptr_same w a Tryz.underlying38 hj

section
variable {w0 w w' : World} {bb sb : Nat} {P : Park} {H : Har.Har} {S : St} {T : List Nat}
theorem row_cell {B n : Nat} {a : Option Addr} {c : Nat} {xs : List Value} {t : TypeId} (h : w.ownsRow B t 1 (.slice a n c) n xs) {i : Nat} (hi : i < xs.length) : ∃ g, a = some ⟨g, 0, none⟩ ∧ w.cell? ⟨g, i, none⟩ = some xs[i] ∧ w.frozen? ⟨g, i, none⟩ = false := by
  rcases h.2 with ⟨e, h0⟩ | ⟨g, cap, cur, e, hb, hg, -⟩
  · have := h.1
    omega
  · simp only [Value.slice.injEq] at e
    obtain ⟨rfl, -⟩ := e
    have h1 := h.cells (g := g) rfl i _ (List.getElem?_eq_getElem hi)
    have e2 : (⟨g, 0, none⟩ : Addr).add i = ⟨g, i, none⟩ := by unfold Addr.add; split <;> simp_all
    rw [e2] at h1
    exact ⟨g, rfl, h1, free_of hg i⟩
theorem Rest.thread' (h : Rest w0 T w bb P H S) (hn : P.seats.length ≤ 16) (i : Int) :
    Calls Tryz.prog 32 #[.pointer (some ⟨bb, 0, none⟩), .int .i64 i] w fun e w' => e = .returned (.pointer (thrA P i)) ∧ w' = w :=
  (h.thread hn i).mono fun e w' ⟨a, b⟩ => ⟨a, b.symm⟩

set_option maxHeartbeats 1000000 in
theorem took (hb : w.cell? ⟨sb, 1, none⟩ = some (.pointer (some ⟨bb, 0, none⟩))) (h : Rest w0 T w bb P H S) (hn : P.seats.length ≤ 16) {v va : Value} {l ns : List Value} (he : Ended w v va P l ns) (hl : l.length ≤ 1000000000000) :
    Calls Tryz.prog 52 #[.pointer (some ⟨sb, 0, none⟩), v, va] w fun e w' => e = .returned (.bool true) ∧ Keep v.ownBlock.toList w w' := by
  obtain ⟨a, c, rfl⟩ := row_form he.row
  obtain ⟨a', c', rfl⟩ := row_form he.nums
  have hln := he.len
  obtain ⟨n, hnn⟩ : ∃ n, n = l.length := ⟨_, rfl⟩
  rw [← hln, ← hnn]
  have HT : Hid (∀ (wx : World) (i : Int), Keep [] w wx → Calls Tryz.prog 32 #[.pointer (some ⟨bb, 0, none⟩), .int .i64 i] wx fun e w' => e = .returned (.pointer (thrA P i)) ∧ w' = wx) := Lib.hid fun wx i k => (h.frame0 k).thread' hn i
  have HE := Lib.hid he
  have HN := Lib.hid (And.intro hnn hln)
  rw [← hnn] at hl
  clear h he hn hnn hln
  have b0 : decide ((n : Int) ≠ (n : Int)) = false := by simp
  go_enter Tryz.func52, Tryz.ntmps52
  go_wp2_with fail
  go_loopw [7] (fun i wr => ∃ k : Nat, i = .int .i64 k ∧ k ≤ n ∧ Keep [] w wr) (fun i _ => n - (intOf i).toNat)
  case atStart => exact ⟨0, rfl, Nat.zero_le _, Keep.refl _ _⟩
  case round =>
    obtain ⟨k, rfl, hk, hK⟩ := hrel
    have KR := Lib.hid hK
    clear hK
    obtain ⟨wo, rfl⟩ : ∃ wo : World, wo = wr := ⟨_, rfl⟩
    by_cases hlt : k < n
    · have k1 : k < l.length := by rw [← HN.out.1]; exact hlt
      have k2 : k < ns.length := by rw [← HN.out.2]; exact k1
      obtain ⟨q, hq, e1, e2⟩ := HE.out.each k k1 k2
      obtain ⟨g, rfl, x0, -⟩ := row_cell HE.out.row k1
      obtain ⟨g', rfl, x1, -⟩ := row_cell HE.out.nums k2
      rw [e2, thrA_at hq] at x0
      rw [e1] at x1
      have TQ : Hid (∀ wx : World, Keep [] w wx → Calls Tryz.prog 32 #[.pointer (some ⟨bb, 0, none⟩), .int .i64 q] wx fun e w' => e = .returned (.pointer (some ⟨P.seats[q].tb, 0, none⟩)) ∧ w' = wx) := Lib.hid fun wx k => by rw [← thrA_at hq]; exact HT.out wx q k
      obtain ⟨tb, htb⟩ : ∃ tb, tb = P.seats[q].tb := ⟨_, rfl⟩
      rw [← htb] at x0 TQ
      have y0 := KR.out.cell x0 (by simp)
      have y1 := KR.out.cell x1 (by simp)
      have y2 := KR.out.cell hb (by simp)
      have hne := thread_neq ⟨tb, 0, none⟩
      clear k1 k2 e1 e2 x0 x1 htb hq hb
      go_wp2_with fail
      go_quiet ((go_at_call 32; exact Calls.quiet_of_same (TQ.out _ (KR.out.drewN _))))
      go_wp2_with fail
      go_roundw
      case rel => exact ⟨k + 1, by go_num, hlt, KR.out.drewN _⟩
      case measure => simp [intOf]; omega
    · clear hb
      have R0 : Hid (∃ ys, wo.ownsRow 0 38 1 (.slice a n c) n ys) := Lib.hid ⟨l, by
        have := HE.out.row
        rw [← HN.out.1] at this
        exact Har.owns_block this fun g hg => KR.out.block g (this.lt g hg).2 (by simp)⟩
      go_wp2_with fail
      go_loopw [8] (fun i wr => ∃ k : Nat, i = .int .i64 k ∧ k ≤ n ∧ (∃ ys, wr.ownsRow 0 38 1 (.slice a n c) n ys) ∧ Keep (Value.slice a n c).ownBlock.toList w wr) (fun i _ => n - (intOf i).toNat)
      case atStart => exact ⟨0, rfl, Nat.zero_le _, R0.out, KR.out.mono (by simp)⟩
      case round =>
        obtain ⟨k, rfl, hk, ⟨ys, hR⟩, hK⟩ := hrel
        have RR := Lib.hid hR
        have K2 := Lib.hid hK
        clear hR hK
        by_cases hlt : k < n
        · have hys : k < ys.length := by have := RR.out.1; omega
          obtain ⟨g, rfl, x0, x1⟩ := row_cell RR.out hys
          obtain ⟨u, hu⟩ : ∃ u, u = ys[k] := ⟨_, rfl⟩
          rw [← hu] at x0
          clear hu hys
          go_wp2_with fail
          go_roundw
          case rel => exact ⟨k + 1, by go_num, hlt, row_set (by decide) RR.out _ _ _, K2.out.set (.inl (by simp [Value.ownBlock])) _ _⟩
          case measure => simp [intOf]; omega
        · go_wp2_with fail
          go_ret
          exact ⟨rfl, K2.out⟩
end
end Go.Proofs.YtdkdeiofjoccnaaGreat.Lit
