/- picked: the walk: only the list's own block, and new ones, are written. -/
import Derived.Test.YtdkdeiofjoccnaaPick
namespace Go.Proofs.Ytdkdeiofjoccnaa.Pick
open Go.RowKit Go.Proofs.Ytdkdeiofjoccnaa.Mem
set_option linter.unusedVariables false

variable {w : World} {B n : Nat} {v : Value} {xs : List Value} {t : TypeId}

theorem any_set (h : w.ownsRow B t 3 v n xs) (g o : Nat) (u : Value) : ∃ ys, (w.setCell ⟨g, o, none⟩ u).ownsRow B t 3 v n ys := by
  rcases h.2 with ⟨rfl, rfl⟩ | ⟨b, cap, cur, rfl, hb, hg, h1, h2, h3, h4⟩
  · exact ⟨[], World.ownsRow_nil _ _ _ _⟩
  · by_cases e : b = g
    · subst e
      refine ⟨(cur.setIfInBounds o u).toList.take (n * 3), ?_, .inr ⟨b, cap, _, rfl, hb, set_same hg o u, h1, h2, by simpa using h3, rfl⟩⟩
      rw [List.length_take, Array.length_toList, Array.size_setIfInBounds, h3]
      omega
    · exact ⟨xs, h.1, .inr ⟨b, cap, cur, rfl, hb, (set_other e o u).trans hg, h1, h2, h3, h4⟩⟩

theorem any_shape (h : w.ownsRow B t 3 v n xs) : ∃ a cap, v = .slice a n cap ∧ ∀ i, i < n → ∃ g, a = some ⟨g, 0, none⟩ ∧ v.ownBlock = some g ∧
    (∃ u, w.cell? ⟨g, i * 3, none⟩ = some u) ∧ (∃ u, w.cell? ⟨g, i * 3 + 1, none⟩ = some u) ∧ (∃ u, w.cell? ⟨g, i * 3 + 2, none⟩ = some u) ∧ (∀ o, w.frozen? ⟨g, o, none⟩ = false) := by
  rcases h.2 with ⟨rfl, rfl⟩ | ⟨b, cap, cur, rfl, hb, hg, h1, h2, h3, h4⟩
  · exact ⟨none, 0, rfl, fun i hi => by omega⟩
  · refine ⟨_, cap, rfl, fun i hi => ⟨b, rfl, rfl, ?_, ?_, ?_, fun o => free_of hg o⟩⟩
    · exact ⟨cur[i * 3]'(by omega), by rw [cell_of hg]; exact Array.getElem?_eq_getElem _⟩
    · exact ⟨cur[i * 3 + 1]'(by omega), by rw [cell_of hg]; exact Array.getElem?_eq_getElem _⟩
    · exact ⟨cur[i * 3 + 2]'(by omega), by rw [cell_of hg]; exact Array.getElem?_eq_getElem _⟩

theorem Keep.new {w w1 w2 : World} {S : List Nat} (h : Keep [] w w1) (k : Keep S w1 w2) (hS : ∀ x ∈ S, w.heap.size ≤ x) : Keep [] w w2 :=
  ⟨k.os.trans h.os, k.tape.trans h.tape, k.output.trans h.output, Nat.le_trans h.size k.size, fun i hi hn => (k.block i (Nat.lt_of_lt_of_le hi h.size) (fun hx => by have := hS i hx; omega)).trans (h.block i hi hn)⟩

set_option maxRecDepth 100000 in
set_option maxHeartbeats 2000000 in
theorem picked {l : List Pk} (h : Row w B v l) (hl : l.length ≤ 4194304) (hB : B ≤ w.heap.size) :
    Calls Try.prog 17 #[v] w fun e w' => e = .returned (.tuple #[]) ∧ Keep v.ownBlock.toList w w' := by
  obtain ⟨i0, hi, hz0, hz1, hz2⟩ := info_parts infoP
  have HI := Lib.hid hi; clear hi
  have HZ := Lib.hid (And.intro hz0 (And.intro hz1 hz2)); clear hz0 hz1 hz2
  obtain ⟨S, hS⟩ : ∃ S, S = v.ownBlock.toList := ⟨_, rfl⟩
  rw [← hS]
  have HS := Lib.hid hS; clear hS
  obtain ⟨n, hn⟩ : ∃ n, n = l.length := ⟨_, rfl⟩
  have H := Lib.hid h; clear h
  obtain ⟨a, cap, hv, -⟩ := H.out.shape
  rw [← hn] at hv hl
  have HV := Lib.hid hv
  subst hv
  have H0 : Hid (∃ xs, w.ownsRow B 29 3 (.slice a n cap) n xs) := Lib.hid ⟨flat l, by have := H.out; unfold Row at this; rw [← hn] at this; exact this⟩
  clear hn H HV
  go_enter Try.func17, Try.ntmps17
  go_wp2_with fail
  go_loopw [2] (fun i wr => ∃ (j : Nat), j ≤ n ∧ i = .int .i64 j ∧ (∃ xs, wr.ownsRow B 29 3 (.slice a n cap) n xs) ∧ Keep S w wr) (fun i _ => n - (intOf i).toNat)
  case atStart => exact ⟨0, Nat.zero_le _, rfl, H0.out, Keep.refl _ _⟩
  case round =>
    obtain ⟨j, hj, rfl, ⟨xs, hx⟩, hk⟩ := hrel
    have HX := Lib.hid hx; clear hx
    have HK := Lib.hid hk; clear hk H0
    obtain ⟨wo, rfl⟩ : ∃ wo : World, wo = wr := ⟨_, rfl⟩
    by_cases hlt : j < n
    · obtain ⟨a', cap', hv, hc⟩ := any_shape HX.out
      obtain ⟨rfl, -, rfl⟩ : a = a' ∧ n = n ∧ cap = cap' := by simpa using hv
      obtain ⟨g, rfl, hg, ⟨u0, p0⟩, ⟨u1, p1⟩, ⟨u2, p2⟩, hf⟩ := hc j hlt
      have hgS : g ∈ S := by rw [HS.out]; simp [Value.ownBlock]
      have HG := Lib.hid hgS; clear hgS hg hv hc
      have f0 := hf (j * 3)
      have f1 := hf (j * 3 + 1)
      have f2 := hf (j * 3 + 2)
      clear hf
      go_wp2_with fail
      go_roundw
      case rel =>
        obtain ⟨y1, h1⟩ := any_set HX.out g (j * 3) (.int .i64 (-9))
        obtain ⟨y2, h2⟩ := any_set h1 g (j * 3 + 1) (.int .i64 (j : Int))
        exact ⟨j + 1, hlt, by go_num, any_set h2 g (j * 3 + 2) (.int .i64 7), ((HK.out.set (.inl HG.out) _ _).set (.inl HG.out) _ _).set (.inl HG.out) _ _⟩
      case measure => simp [intOf]; omega
    · go_wp2_with fail
      go_loopw [0, 3] (fun v' i wr => ∃ (j m : Nat) (xs : List Value), j ≤ 40 ∧ i = .int .i64 j ∧ m ≤ n + j ∧ wr.ownsRow B 29 3 v' m xs ∧ (∀ g, v'.ownBlock = some g → g ∈ S ∨ w.heap.size ≤ g) ∧ Keep S w wr) (fun _ i _ => 40 - (intOf i).toNat)
      case atStart => exact ⟨0, n, xs, Nat.zero_le _, rfl, Nat.le_refl _, HX.out, fun g hg => .inl (by rw [HS.out, hg]; simp), HK.out⟩
      case round =>
        clear HX HK
        obtain ⟨j, m, xs, hj, rfl, hm, hx, hg, hk⟩ := hrel
        have HX := Lib.hid hx; clear hx
        have HG := Lib.hid hg; clear hg
        have HK := Lib.hid hk; clear hk
        obtain ⟨wo, rfl⟩ : ∃ wo : World, wo = wr := ⟨_, rfl⟩
        by_cases hlt : j < 40
        · have d1 := Lib.hid (one_cells ⟨-8, j, 0⟩)
          have d2 := Lib.hid (show m + 1 ≤ maxLen by unfold maxLen; omega)
          have d3 := Lib.hid (show (m + 1) * 24 ≤ 140737488355328 by omega)
          have d4 := Lib.hid (Nat.le_trans hB HK.out.size)
          go_wp2_with (at_builtin; refine wpList_append_own_at _ rfl _ _ 23 rfl B 29 i0 (.agg #[.int .i64 0, .int .i64 0, .int .i64 0]) 3 24 Try.underlying23 HI.out HZ.out.1 HZ.out.2.1 HZ.out.2.2 rfl (by decide) _ _ _ rfl (HX.out.alloc _) ⟨_, 0, none⟩ 1 1 (Pk.cells ⟨-8, (j : Int), 0⟩) rfl rfl (pick_new _ ⟨-8, j, 0⟩ _) d1.out d2.out d3.out (Nat.le_trans d4.out (by simp)) ?_; intro v' w3 q1 q2 _ q3; have A1 := Lib.hid q1; have G1 := Lib.hid q2; have P1 := Lib.hid q3; clear q1 q2 q3)
          go_roundw
          case rel =>
            refine ⟨j + 1, m + 1, _, hlt, by go_num, by omega, A1.out, fun g hg => ?_, ?_⟩
            · rcases P1.out with p | p
              · exact HG.out g (p ▸ hg)
              · rw [p] at hg
                obtain rfl := Option.some.inj hg
                exact .inr (Nat.le_trans HK.out.size (by simp))
            · exact Keep.grown (HK.out.alloc _) G1.out HG.out
          case measure => simp [intOf]; omega
        · go_wp2_with fail
          exact bodyPost_end (results_none rfl _ _ _) rfl ⟨rfl, HK.out⟩
end Go.Proofs.Ytdkdeiofjoccnaa.Pick
