/- stratalaw03.worded: a list of words written full, and appended to (the seat .Z alone has it). -/
import Derived.Test.YtdkdeiofjoccnaaGreatLend
namespace Go.Proofs.YtdkdeiofjoccnaaGreat.Lit
open Go.RowKit Go.Proofs.YtdkdeiofjoccnaaGreat.Mem Go.Proofs.YtdkdeiofjoccnaaGreat.Ar Go.Proofs.YtdkdeiofjoccnaaGreat.Un
set_option linter.unusedVariables false
set_option maxRecDepth 100000

theorem one_u64 (x : Int) : ∀ u ∈ [Value.int .u64 x], u.oneCell' = true := by simp [Value.oneCell']

set_option maxHeartbeats 1000000 in
theorem worded {w : World} {v : Value} {n : Nat} {xs : List Value} (h : w.ownsRow 0 75 1 v n xs) (hn : n ≤ 1000000000000) (mark : Int) :
    Calls Tryz.prog 21 #[v, .int .u64 mark] w fun e w' => e = .returned (.tuple #[]) ∧ Keep v.ownBlock.toList w w' := by
  obtain ⟨a, c, rfl⟩ : ∃ a c, v = .slice a n c := by
    rcases h.2 with ⟨e, h0⟩ | ⟨g, cap, cur, e, -⟩
    · exact ⟨none, 0, by rw [e, h0]⟩
    · exact ⟨_, _, e⟩
  obtain ⟨i0, hi0, hz0, hz1, hz2⟩ := info_parts infoW64
  have HI := Lib.hid hi0
  have HZ := Lib.hid (And.intro hz0 (And.intro hz1 hz2))
  have H := Lib.hid h
  clear h hi0 hz0 hz1 hz2
  go_enter Tryz.func21, Tryz.ntmps21
  go_wp2_with fail
  go_loopw [4] (fun i wr => ∃ (k : Nat) (ys : List Value), i = .int .i64 k ∧ k ≤ n ∧ wr.ownsRow 0 75 1 (.slice a n c) n ys ∧ Keep (Value.slice a n c).ownBlock.toList w wr) (fun i _ => n - (intOf i).toNat)
  case atStart => exact ⟨0, xs, rfl, Nat.zero_le _, H.out, Keep.refl _ _⟩
  case round =>
    obtain ⟨k, ys, rfl, hk, hR, hK⟩ := hrel
    have RR := Lib.hid hR
    have KR := Lib.hid hK
    by_cases hlt : k < n
    · obtain ⟨g, rfl⟩ : ∃ g, a = some ⟨g, 0, none⟩ := by
        rcases hR.2 with ⟨e, h0⟩ | ⟨g, cap, cur, e, -⟩
        · omega
        · simp only [Value.slice.injEq] at e
          exact ⟨g, e.1⟩
      have hlen : ys.length = n := by have := hR.1; omega
      have add0 : (⟨g, 0, none⟩ : Addr).add k = ⟨g, k, none⟩ := by unfold Addr.add; split <;> simp_all
      have y1 : wr.cell? ⟨g, k, none⟩ = some (ys[k]'(by omega)) := by
        have q := hR.cells (g := g) rfl k (ys[k]'(by omega)) (List.getElem?_eq_getElem (by omega))
        rw [add0] at q
        exact q
      obtain ⟨yv, hyv⟩ : ∃ yv, yv = ys[k]'(by omega) := ⟨_, rfl⟩
      rw [← hyv] at y1
      have y2 : wr.frozen? ⟨g, k, none⟩ = false := by
        rcases hR.2 with ⟨e, h0⟩ | ⟨g', cap, cur, e, -, hg, -⟩
        · omega
        · simp only [Value.slice.injEq, Option.some.injEq, Addr.mk.injEq] at e
          obtain ⟨⟨rfl, -⟩, -⟩ := e
          exact free_of hg k
      clear hR hK hlen hyv add0
      go_wp2_with fail
      go_roundw
      case rel => exact ⟨k + 1, _, by go_num, hlt, (RR.out.stored k _).1, KR.out.set (.inl (by simp [Value.ownBlock])) _ _⟩
      case measure => simp [intOf]; omega
    · clear hR hK
      obtain ⟨wo, rfl⟩ : ∃ wo : World, wo = wr := ⟨_, rfl⟩
      go_wp2_with fail
      go_loopw [0, 5] (fun v0 i wi => ∃ (k : Nat) (a2 : Option Addr) (c2 : Nat) (zs : List Value), v0 = .slice a2 (n + k) c2 ∧ i = .int .i64 k ∧ k ≤ 80 ∧ wi.ownsRow 0 75 1 (.slice a2 (n + k) c2) (n + k) zs ∧ (∀ x, (Value.slice a2 (n + k) c2).ownBlock = some x → (Value.slice a n c).ownBlock = some x ∨ w.heap.size ≤ x) ∧ Keep (Value.slice a n c).ownBlock.toList w wi) (fun _ i _ => 80 - (intOf i).toNat)
      case atStart => exact ⟨0, a, c, ys, rfl, rfl, Nat.zero_le _, RR.out, fun x hx => .inl hx, KR.out⟩
      case round =>
        obtain ⟨j, a2, c2, zs, rfl, rfl, hj, hR, hO, hK⟩ := hrel
        have R2 := Lib.hid hR
        have O2 := Lib.hid hO
        have K2 := Lib.hid hK
        clear hR hO hK
        by_cases hjl : j < 80
        · have hjl' : (j : Int) < 80 := by omega
          have d1 := Lib.hid (show n + j + 1 ≤ maxLen by unfold maxLen; omega)
          have d2 := Lib.hid (show (n + j + 1) * 8 ≤ 140737488355328 by omega)
          have N1 := Lib.hid (alloc_new wr (.cells #[.int .u64 mark] 75))
          go_wp2_with (at_builtin; refine wpList_append_lies _ rfl _ _ 22 rfl 0 75 i0 _ 1 8 Tryz.underlying22 HI.out HZ.out.1 HZ.out.2.1 HZ.out.2.2 rfl (by decide) (.slice a2 (n + j) c2) (n + j) zs rfl (R2.out.alloc _) ⟨wr.heap.size, 0, none⟩ 1 1 [.int .u64 mark] rfl rfl (World.news_of_block (cs := #[.int .u64 mark]) (fr := (0, 0)) N1.out) (one_u64 _) (by decide) d1.out d2.out (Nat.zero_le _) _ rfl ?_)
          intro g9 cap9 w9 hown9 hgrow9 hat9 hlt9
          have R9 := Lib.hid hown9
          have O9 : Hid (∀ x, (Value.slice (some ⟨g9, 0, none⟩) (n + j + 1) cap9).ownBlock = some x → (Value.slice a n c).ownBlock = some x ∨ w.heap.size ≤ x) := Lib.hid (fun x hx => by
            have hx' : g9 = x := by simpa [Value.ownBlock] using hx
            subst hx'
            rcases hat9 with h1 | h1
            · exact O2.out g9 h1
            · right; rw [h1]; have := K2.out.size; simp; omega)
          have K9 : Hid (Keep (Value.slice a n c).ownBlock.toList w w9) := Lib.hid ((K2.out.alloc _).chain (T := (Value.slice a2 (n + j) c2).ownBlock.toList) ⟨hgrow9.os, hgrow9.tape, hgrow9.output, hgrow9.size, fun i hi hn => hgrow9.block i hi fun e => hn (by rw [← e]; simp)⟩ fun x hx => (O2.out x (by simpa using hx)).imp (fun e => by simpa using e) id)
          clear hown9 hgrow9 hat9
          go_wp2_with fail
          go_roundw
          case rel => exact ⟨j + 1, some ⟨g9, 0, none⟩, cap9, _, rfl, by go_num, hjl, R9.out, O9.out, K9.out⟩
          case measure => simp [intOf]; omega
        · have hj80 : j = 80 := by omega
          subst hj80
          go_wp2_with fail
          refine bodyPost_end (results_none rfl _ _ _) rfl ?_
          exact ⟨rfl, K2.out⟩
end Go.Proofs.YtdkdeiofjoccnaaGreat.Lit
