/- The document's index: Row, List, Held. -/
import Derived.Test.YtgagiggljlikbaaGreatRcT
namespace Go.Proofs.YtgagiggljlikbaaGreat.Rc
open Go.RowKit Go.Proofs.YtgagiggljlikbaaGreat.Mem Go.Proofs.YtgagiggljlikbaaGreat.Ar Go.Proofs.YtgagiggljlikbaaGreat.En Go.Proofs.YtgagiggljlikbaaGreat.Ch
open Go.Proofs.YtgagiggljlikbaaGreat.Ra (owns_block RAt rBlocks)
open Go.Proofs.YtgagiggljlikbaaGreat.Ref (one_int' news_at owns_shape)
set_option linter.unusedVariables false
set_option linter.unusedSimpArgs false
set_option maxRecDepth 100000
def lenV : Value → Nat
  | .slice _ n _ => n
  | _ => 0
theorem infoBool : (Tryz.prog.info? 4).map (fun i => (i.zero, i.size, i.bytes)) = some (some (.bool false), 1, 1) := by kernel_rfl
theorem bool_one (s : Bool) : ∀ u ∈ [Value.bool s], u.oneCell' = true := by simp [Value.oneCell']
/-- a row under way: its slots at v1, their marks at v2 -/
structure RowAt (w0 w : World) (v1 v2 : Value) (acc : List (Int × Bool)) : Prop where
  o1 : w.ownsRow w0.heap.size 3 1 v1 acc.length (acc.map fun p => .int .i64 p.1)
  o2 : w.ownsRow w0.heap.size 4 1 v2 acc.length (acc.map fun p => .bool p.2)
  sep : ∀ g, v1.ownBlock = some g → v2.ownBlock ≠ some g
  keep : Keep [] w0 w
theorem owns_pos {w : World} {base : Nat} {e : TypeId} {size : Nat} {v : Value} {n : Nat} {xs : List Value} (h : w.ownsRow base e size v n xs) (hn : 0 < n) : ∃ g cap, v = .slice (some ⟨g, 0, none⟩) n cap ∧ base ≤ g := by
  rcases h.2 with ⟨rfl, rfl⟩ | ⟨g, cap, cur, rfl, hb, _⟩
  · omega
  · exact ⟨g, cap, rfl, hb⟩
section
variable {w w' w0 w2 w3 w4 : World} {b sg sc : Nat} {qv : Value} {bs : List (Option Nat)} {A A' : Ars} {Q : List Nat} {xb hb hc mb : Nat} {X X' : CI} {acc : List (Int × Bool)} {v1 v2 v1' v2' : Value}
theorem RowAt.keep0 (h : RowAt w0 w v1 v2 acc) (k : Keep [] w w') : RowAt w0 w' v1 v2 acc :=
  ⟨owns_block h.o1 fun g hg => k.block g (h.o1.lt g hg).2 (by simp), owns_block h.o2 fun g hg => k.block g (h.o2.lt g hg).2 (by simp), h.sep, h.keep.trans k⟩
theorem grown_cell {o : Obj} {row : Option Nat} {b o' : Nat} {v : Value} (g : (w.alloc o).grownBy w3 row) (hb : b < w.heap.size) (hne : row ≠ some b) (hc : w.cell? ⟨b, o', none⟩ = some v) : w3.cell? ⟨b, o', none⟩ = some v := by
  rw [World.cell?_of_block (w := w) ((g.block b (by simp; omega) (fun e => hne e.symm)).trans (alloc_old _ hb))]
  exact hc
theorem RowAt.other (h : RowAt w0 w v1 v2 acc) {o1 : Obj} (g1 : (w.alloc o1).grownBy w2 v1.ownBlock) : w2.ownsRow w0.heap.size 4 1 v2 acc.length (acc.map fun p => .bool p.2) :=
  owns_block h.o2 fun g hg => by
    have hl := (h.o2.lt g hg).2
    exact (g1.block g (by simp; omega) (fun e => h.sep g e.symm hg)).trans (alloc_old _ hl)
/-- both appends -/
theorem RowAt.push (h : RowAt w0 w v1 v2 acc) {n : Int} {mk : Bool} {o1 o2 : Obj}
    (a1 : w2.ownsRow w0.heap.size 3 1 v1' (acc.length + 1) (acc.map (fun p => Value.int .i64 p.1) ++ [.int .i64 n])) (g1 : (w.alloc o1).grownBy w2 v1.ownBlock) (p1 : v1'.ownBlock = v1.ownBlock ∨ v1'.ownBlock = some (w.alloc o1).heap.size)
    (a2 : w3.ownsRow w0.heap.size 4 1 v2' (acc.length + 1) (acc.map (fun p => Value.bool p.2) ++ [.bool mk])) (g2 : (w2.alloc o2).grownBy w3 v2.ownBlock) (p2 : v2'.ownBlock = v2.ownBlock ∨ v2'.ownBlock = some (w2.alloc o2).heap.size) :
    RowAt w0 w3 v1' v2' (acc ++ [(n, mk)]) := by
  have k1 : Keep [] w0 w2 := Keep.grown (h.keep.alloc o1) g1 fun y hy => (h.o1.lt y hy).1
  have k2 : Keep [] w0 w3 := Keep.grown (k1.alloc o2) g2 fun y hy => (h.o2.lt y hy).1
  have hn1 : ∀ g, v1'.ownBlock = some g → v2.ownBlock ≠ some g := by
    intro g hg he
    rcases p1 with p | p
    · exact h.sep g (p ▸ hg) he
    · rw [p] at hg
      have := (h.o2.lt g he).2
      simp only [Option.some.injEq, World.size_alloc] at hg
      omega
  refine ⟨?_, ?_, fun g hg he => ?_, k2⟩
  · have q : w3.ownsRow w0.heap.size 3 1 v1' (acc.length + 1) (acc.map (fun p => Value.int .i64 p.1) ++ [.int .i64 n]) := by
      refine owns_block a1 fun g hg => ?_
      have hl := (a1.lt g hg).2
      exact (g2.block g (by simp; omega) (fun e => hn1 g hg e.symm)).trans (alloc_old _ hl)
    simpa using q
  · simpa using a2
  · rcases p2 with p | p
    · exact hn1 g hg (p ▸ he)
    · rw [p] at he
      have := (a1.lt g hg).2
      simp only [Option.some.injEq, World.size_alloc] at he
      omega

set_option maxHeartbeats 4000000 in
theorem rowR (h : EnvR w b sg sc qv bs xb hb hc X A Q) (hA : okA A) (hH : okH X) (i : Int) (hh : X.has i = true) :
    Calls Tryz.prog 157 #[.pointer (some ⟨xb, 0, none⟩), .int .i64 i] w fun r w' => ∃ p1 c1 p2 c2, r = .returned (.tuple #[.slice p1 (rowX X A i).length c1, .slice p2 (rowX X A i).length c2]) ∧ RowAt w w' (.slice p1 (rowX X A i).length c1) (.slice p2 (rowX X A i).length c2) (rowX X A i) := by
  obtain ⟨bn, rfl, hbn⟩ : ∃ bn : Nat, i = bn ∧ bn < X.heads.length := by
    simp only [CI.has, Bool.and_eq_true, decide_eq_true_eq] at hh
    exact ⟨i.toNat, by omega, by omega⟩
  have hf := h.ix.few
  have c2 : w.cell? ⟨xb, 2, none⟩ = some (.slice (some ⟨hb, 0, none⟩) X.heads.length hc) := (cell_of h.ix.hx 2).trans rfl
  obtain ⟨v, hv⟩ : ∃ v, v = X.head (bn : Int) := ⟨_, rfl⟩
  have d1 : w.cell? ⟨hb, bn, none⟩ = some (.int .u64 v) := by rw [hv]; exact (h.ix.hd hbn).1
  have hok : okL v := by rw [hv]; exact hH.head _
  have hcell := h.cell
  have hsl : A.slots ≤ 4096 := h.ar.fits.s2
  obtain ⟨i0, hi0, hz0, hz1, hz2⟩ := info_parts infoI
  obtain ⟨j0, hj0, hy0, hy1, hy2⟩ := info_parts infoBool
  have I0 := Lib.hid hi0
  have Z0 := Lib.hid (And.intro hz0 (And.intro hz1 hz2))
  have J0 := Lib.hid hj0
  have Y0 := Lib.hid (And.intro hy0 (And.intro hy1 hy2))
  have HE := Lib.hid (And.intro h (And.intro hA hok))
  have HV := Lib.hid hv
  have CN : Hid (∀ x, okL x → ∀ wx, Calls Tryz.prog 149 #[.int .u64 x] wx fun e w' => e = .returned (.int .i64 (numL x)) ∧ wx = w') := Lib.hid fun x hx wx => number_ x wx hx
  have CM : Hid (∀ x, okL x → ∀ wx, Calls Tryz.prog 150 #[.int .u64 x] wx fun e w' => e = .returned (.bool (mkL x)) ∧ wx = w') := Lib.hid fun x hx wx => marked_ x wx hx
  clear h hA hH hh hv hok hi0 hz0 hz1 hz2 hj0 hy0 hy1 hy2
  go_enter Tryz.func157, Tryz.ntmps157
  go_wp2_with fail
  refine (CN.out v HE.out.2.2 _).mono ?_
  rintro e wx ⟨rfl, rfl⟩
  clear d1 c2
  go_wp2_with fail
  go_loopw [6, 7, 8] (fun v1 v2 n wr => ∃ (acc : List (Int × Bool)) (p1 : Option Addr) (c1 : Nat) (p2 : Option Addr) (c2 : Nat) (nn : Int), v1 = .slice p1 acc.length c1 ∧ v2 = .slice p2 acc.length c2 ∧ n = .int .i64 nn ∧ 0 ≤ nn ∧ acc.length ≤ 4096 ∧ RowAt w wr (.slice p1 acc.length c1) (.slice p2 acc.length c2) acc ∧ acc ++ rowA X A (4096 - acc.length) nn = rowX X A (bn : Int)) (fun v1 _ _ _ => 4096 - lenV v1)
  case atStart =>
    refine ⟨[], none, 0, none, 0, _, rfl, rfl, rfl, (num_ok HE.out.2.2).1, by simp, ⟨World.ownsRow_nil _ _ _ _, World.ownsRow_nil _ _ _ _, fun g hg => (by cases hg), Keep.refl _ _⟩, ?_⟩
    rw [HV.out]
    simp [rowX]
  case round =>
    obtain ⟨acc, p1, c1, p2, c2, nn, rfl, rfl, rfl, hnn, hacc, hR, hrow⟩ := hrel
    have HR := Lib.hid (And.intro hR (And.intro hrow (And.intro hnn hacc)))
    have CB : Hid (∀ wx, Calls Tryz.prog 171 #[.int .i64 nn] wx fun e w' => e = .returned (.bool (beyond nn)) ∧ wx = w') := Lib.hid fun wx => end_ nn wx
    have fin : ∀ w', Keep [] wr w' → (nn = 0 ∨ beyond nn = true ∨ inUseB A nn = false ∨ acc.length = 4096) → acc = rowX X A (bn : Int) ∧ RowAt w w' (.slice p1 acc.length c1) (.slice p2 acc.length c2) acc := fun w' k' hs => by
      have e : rowA X A (4096 - acc.length) nn = [] := by
        rcases hs with hs | hs | hs | hs
        · exact rowA_stop (.inl hs)
        · exact rowA_stop (.inr (.inl hs))
        · exact rowA_stop (.inr (.inr hs))
        · rw [hs]; rfl
      have hr := HR.out.2.1
      rw [e, List.append_nil] at hr
      exact ⟨hr, HR.out.1.keep0 k'⟩
    have FIN := Lib.hid fin
    clear fin hR hrow
    by_cases hz : nn = 0
    · have hz' : ¬ 0 < nn := by omega
      have HZ := Lib.hid hz
      clear hz
      go_wp2_with fail
      go_ret2
      obtain ⟨r1, r2⟩ := FIN.out _ (Keep.refl _ _) (.inl HZ.out)
      rw [← r1]
      exact ⟨p1, c1, p2, c2, rfl, r2⟩
    · have hz' : 0 < nn := by omega
      have HZ := Lib.hid hz
      clear hz
      obtain ⟨by_, hby⟩ : ∃ by_, by_ = beyond nn := ⟨_, rfl⟩
      rw [← hby] at CB
      have HBY := Lib.hid hby
      clear hby
      go_wp2_with fail
      refine (CB.out _).mono ?_
      rintro e wx ⟨rfl, rfl⟩
      cases by_
      · by_cases hk4 : acc.length < 4096
        · have hk4' : (acc.length : Int) < 4096 := by omega
          have HKR := Lib.hid (HE.out.1.keep HR.out.1.keep (by simp))
          have x0 : wr.cell? ⟨xb, 0, none⟩ = some (.pointer (some ⟨b, 0, none⟩)) := (cell_of HKR.out.ix.hx 0).trans rfl
          cases hin : inUseB A nn
          · have HIN := Lib.hid hin
            clear hin
            go_wp2_with fail
            refine (peekR_no HKR.out.ar nn HIN.out).mono ?_
            rintro e wx ⟨rfl, rfl⟩
            go_wp2_with fail
            go_ret2
            obtain ⟨r1, r2⟩ := FIN.out _ (Keep.refl _ _) (.inr (.inr (.inl HIN.out)))
            rw [← r1]
            exact ⟨p1, c1, p2, c2, rfl, r2⟩
          · have HIN := Lib.hid hin
            clear hin
            go_wp2_with fail
            refine (peekR_ok HKR.out.ar nn HIN.out).mono ?_
            rintro e wq ⟨vq, rfl, hpk, k2⟩
            obtain ⟨gq, cq, rfl, hgq⟩ := owns_pos hpk (by omega)
            have x1 : wq.cell? ⟨xb, 1, none⟩ = some (.int .i64 X.cell) := k2.cell ((cell_of HKR.out.ix.hx 1).trans rfl) (by simp)
            have d2 : wq.cell? ⟨gq, X.cell, none⟩ = some (.int .u64 (wordA A nn X.cell)) := by
              rw [hpk.cellAt X.cell (by omega), List.getElem?_map, List.getElem?_eq_getElem (by rw [slotWords_length]; exact hcell), slotWords_cell hcell]
              rfl
            have hcI : (X.cell : Int) < (A.width : Int) := by omega
            have okw := HE.out.2.1.word nn X.cell
            obtain ⟨wv, hwv⟩ : ∃ wv, wv = wordA A nn X.cell := ⟨_, rfl⟩
            rw [← hwv] at d2 okw
            have hHk := HE.out.1.keep (HR.out.1.keep.trans k2) (by simp)
            have HOK := Lib.hid (And.intro okw (And.intro hwv (And.intro (HR.out.1.keep0 k2) (And.intro hgq hHk))))
            have hgl := (hpk.lt gq rfl).2
            have n1 : (Value.slice p1 acc.length c1).ownBlock ≠ some gq := fun e => by have := (HR.out.1.o1.lt gq e).2; omega
            have n2 : (Value.slice p2 acc.length c2).ownBlock ≠ some gq := fun e => by have := (HR.out.1.o2.lt gq e).2; omega
            have hxl : xb < w.heap.size := lt_of HE.out.1.ix.hx
            have n3 : (Value.slice p1 acc.length c1).ownBlock ≠ some xb := fun e => by have := (HR.out.1.o1.lt xb e).1; omega
            have n4 : (Value.slice p2 acc.length c2).ownBlock ≠ some xb := fun e => by have := (HR.out.1.o2.lt xb e).1; omega
            have hxq : xb < wq.heap.size := Nat.lt_of_lt_of_le hxl (Nat.le_trans HR.out.1.keep.size k2.size)
            have NN := Lib.hid (And.intro n1 (And.intro n2 (And.intro n3 (And.intro n4 (And.intro hgl hxq)))))
            have e1 := Lib.hid (show acc.length + 1 ≤ maxLen by unfold maxLen; omega)
            have e2 := Lib.hid (show (acc.length + 1) * 8 ≤ 140737488355328 by omega)
            have e3 := Lib.hid (show (acc.length + 1) * 1 ≤ 140737488355328 by omega)
            have e7 := Lib.hid (int_one nn)
            have e8 := Lib.hid (bool_one (mkL wv))
            clear hpk k2 okw hwv x0 hgq hgl hHk n1 n2 n3 n4 hxl hxq
            go_wp2_with (at_builtin; go_loud (refine wpList_append_own_at _ rfl _ _ 31 rfl w.heap.size 3 i0 (.int .i64 0) 1 8 Tryz.underlying31 I0.out Z0.out.1 Z0.out.2.1 Z0.out.2.2 rfl (by decide) (.slice p1 acc.length c1) acc.length (acc.map fun p => .int .i64 p.1) rfl (HOK.out.2.2.1.o1.alloc _) ⟨_, 0, none⟩ 1 1 [.int .i64 nn] rfl rfl (news_at rfl) e7.out e1.out e2.out (Nat.le_trans HOK.out.2.2.1.keep.size (alloc_le _ _)) ?_; intro v' w3 a1 g1 _ q1; obtain ⟨ap, cp, rfl⟩ := owns_shape a1; have A1 := Lib.hid a1; have G1 := Lib.hid g1; have P1 := Lib.hid q1; clear a1 g1 q1; have y1 := grown_cell G1.out NN.out.2.2.2.2.2 NN.out.2.2.1 x1; have y2 := grown_cell G1.out NN.out.2.2.2.2.1 NN.out.1 d2; have O2 := Lib.hid (HOK.out.2.2.1.other G1.out); have S3 := Lib.hid (Nat.le_trans (alloc_le wq _) G1.out.size); clear x1 d2))
            refine (CM.out wv HOK.out.1 _).mono ?_
            rintro e wx ⟨rfl, rfl⟩
            go_wp2_with (at_builtin; go_loud (refine wpList_append_own_at _ rfl _ _ 217 rfl w.heap.size 4 j0 (.bool false) 1 1 Tryz.underlying217 J0.out Y0.out.1 Y0.out.2.1 Y0.out.2.2 rfl (by decide) (.slice p2 acc.length c2) acc.length (acc.map fun p => .bool p.2) rfl (O2.out.alloc _) ⟨_, 0, none⟩ 1 1 [.bool (mkL wv)] rfl rfl (news_at rfl) e8.out e1.out e3.out (Nat.le_trans (Nat.le_trans HOK.out.2.2.1.keep.size S3.out) (alloc_le _ _)) ?_; intro v2' w4 a2 g2 _ q2; obtain ⟨aq, cq2, rfl⟩ := owns_shape a2; have A2 := Lib.hid a2; have G2 := Lib.hid g2; have P2 := Lib.hid q2; clear a2 g2 q2; have z1 := grown_cell G2.out (Nat.lt_of_lt_of_le NN.out.2.2.2.2.2 S3.out) NN.out.2.2.2.1 y1; have z2 := grown_cell G2.out (Nat.lt_of_lt_of_le NN.out.2.2.2.2.1 S3.out) NN.out.2.1 y2; clear y1 y2))
            refine (CN.out wv HOK.out.1 _).mono ?_
            rintro e wx ⟨rfl, rfl⟩
            obtain ⟨n2, hn2⟩ : ∃ n2, n2 = numL wv := ⟨_, rfl⟩
            have HN2 := Lib.hid (And.intro hn2 (hn2 ▸ (num_ok HOK.out.1).1))
            rw [← hn2]
            have HP := Lib.hid (HOK.out.2.2.1.push (n := nn) A1.out G1.out P1.out A2.out G2.out P2.out)
            clear hn2 z1 z2
            go_wp2_with fail
            go_roundw
            case rel =>
              have hl : (acc ++ [(nn, mkL wv)]).length = acc.length + 1 := by simp
              refine ⟨acc ++ [(nn, mkL wv)], ap, cp, aq, cq2, n2, by rw [hl], by rw [hl], rfl, HN2.out.2, by rw [hl]; have := HR.out.2.2.2; omega, ?_, ?_⟩
              · rw [hl]
                exact HP.out
              · have hr := HR.out.2.1
                have e : 4096 - acc.length = (4096 - (acc.length + 1)) + 1 := by omega
                rw [e, rowA_go HZ.out HBY.out.symm HIN.out, ← HOK.out.2.1, ← HN2.out.1] at hr
                rw [← hr, hl]
                simp
            case measure => simp [lenV]; omega
        · have hk4' : ¬ (acc.length : Int) < 4096 := by omega
          have HK4 := Lib.hid hk4
          clear hk4
          go_wp2_with fail
          go_ret2
          obtain ⟨r1, r2⟩ := FIN.out _ (Keep.refl _ _) (.inr (.inr (.inr (by have := HK4.out; have := HR.out.2.2.2; omega))))
          rw [← r1]
          exact ⟨p1, c1, p2, c2, rfl, r2⟩
      · go_wp2_with fail
        go_ret2
        obtain ⟨r1, r2⟩ := FIN.out _ (Keep.refl _ _) (.inr (.inl HBY.out.symm))
        rw [← r1]
        exact ⟨p1, c1, p2, c2, rfl, r2⟩
end
end Go.Proofs.YtgagiggljlikbaaGreat.Rc
