import Derived.Deep.AppendLies
import Derived.Test.YtdkdeiofjoccnaaGreatHeap
import Derived.Test.YtdkdeiofjoccnaaGreatPlayA
import Derived.LoopN
/- append, told with one thing more: the slice that was appended to is still there, as it was (plain: no program). -/
namespace Go.Proofs.YtdkdeiofjoccnaaGreat.Mem
open Go Go.RowKit
set_option linter.unusedVariables false
section
variable {P : Program}
theorem run_append_stay (w : World) (t ty : TypeId) (base : Nat) (e : TypeId) (i : TypeInfo) (z : Value) (size bytes : Nat) (ht : P.underlying t = some (.slice e)) (hi : P.info? e = some i) (hz : i.zero = some z)
    (hsize : i.size = size) (hby : i.bytes = bytes) (hzs : z.cells.size = size) (hsz : 0 < size)
    (v : Value) (n : Nat) (xs : List Value) (hown : w.ownsRow base e size v n xs)
    (ad : Addr) (m c : Nat) (news : List Value) (hl : news.length = m * size) (hnews : ∀ j u, news[j]? = some u → w.cell? (ad.add j) = some u) (h1 : ∀ u ∈ news, u.oneCell' = true)
    (hm : 0 < m) (h63 : n + m ≤ maxLen) (hbytes : (n + m) * bytes ≤ 140737488355328) (hbase : base ≤ w.heap.size) (H : Nat) (hH : w.heap.size = H) :
    ∃ g cap w', (Builtin.append_ #[t, t] ty #[v, .slice (some ad) m c]).run P w = .ok (.slice (some ⟨g, 0, none⟩) (n + m) cap) w' ∧
      w'.ownsRow base e size (.slice (some ⟨g, 0, none⟩) (n + m) cap) (n + m) (xs ++ news) ∧ w.grownBy w' v.ownBlock ∧ (v.ownBlock = some g ∨ g = H) ∧ g < w'.heap.size ∧ w'.ownsRow base e size v n xs := by
  obtain ⟨g, cap, w', hr, h2, h3, h4, h5⟩ := run_append_lies (P := P) w t ty base e i z size bytes ht hi hz hsize hby hzs hsz v n xs hown ad m c news hl hnews h1 hm h63 hbytes hbase H hH
  refine ⟨g, cap, w', hr, h2, h3, h4, h5, ?_⟩
  rcases hown.2 with ⟨rfl, h0⟩ | ⟨b, k, cur, rfl, hb, hg, hnc, hcm, hcs, htake⟩
  · exact ⟨hown.1, .inl ⟨rfl, h0⟩⟩
  · by_cases hroom : n + m ≤ k
    · have hfit : n * i.size + news.length ≤ cur.size := by
        rw [hl, hcs, hsize, ← Nat.add_mul]
        exact Nat.mul_le_mul_right _ hroom
      have hr' := run_append_room (P := P) w t ty e i ht hi b n k cur hg ad m c news (by rw [hsize]; exact hl) hnews h1 hroom hfit
      rw [hr] at hr'
      have hw : w' = w.setRow b (cur.toList.take (n * i.size) ++ news ++ cur.toList.drop (n * i.size + news.length)).toArray := by
        simp only [Result.ok.injEq] at hr'
        exact hr'.2
      refine ⟨hown.1, .inr ⟨b, k, _, rfl, hb, by rw [hw]; exact setRow_heap w b cur _ e _ hg, hnc, hcm, ?_, ?_⟩⟩
      · rw [hsize] at hfit ⊢
        simp only [List.size_toArray, List.length_append, List.length_take, List.length_drop, Array.length_toList]
        omega
      · rw [hsize] at hfit ⊢
        have hle : n * size ≤ cur.size := by omega
        simp only [List.append_assoc]
        rw [List.take_append_of_le_length (by simp; omega), List.take_take, Nat.min_self]
        exact htake
    · have hlo := hown.1
      have holds : ∀ j u, xs[j]? = some u → w.cell? ((⟨b, 0, none⟩ : Addr).add j) = some u := hown.cells (g := b) rfl
      have h63' : ((n + m : Nat) : Int) ≤ 9223372036854775807 := by unfold maxLen at h63; omega
      have hr' := run_append_grow (P := P) w t ty e i z ht hi hz ⟨b, 0, none⟩ n k xs (by rw [hsize]; exact hlo) holds ad m c news (by rw [hsize]; exact hl) hnews (by omega) h63' (growslice_fits (by omega) (by rw [hby]; exact hbytes))
      rw [hr] at hr'
      simp only [Result.ok.injEq] at hr'
      rw [hr'.2]
      refine ⟨hown.1, .inr ⟨b, k, cur, rfl, hb, ?_, hnc, hcm, hcs, htake⟩⟩
      have hlt : b < w.heap.size := lt_of hg
      exact (alloc_old (w := w.drew) _ hlt).trans hg

theorem wp_append_stay {w : World} {o : Oper} {a : Act} {K : Act → World → Prop} {Q : Exit → Act → World → Prop} (s x : Operand) (t : TypeId)
    (ho : o.op = .call { callee := .builtin .append, args := #[s, x], argTypes := #[t, t] })
    (base : Nat) (e : TypeId) (i : TypeInfo) (z : Value) (size bytes : Nat) (ht : P.underlying t = some (.slice e)) (hi : P.info? e = some i) (hz : i.zero = some z)
    (hsize : i.size = size) (hby : i.bytes = bytes) (hzs : z.cells.size = size) (hsz : 0 < size)
    (v : Value) (n : Nat) (xs : List Value) (hs : a.eval s = v) (hown : w.ownsRow base e size v n xs)
    (ad : Addr) (m c : Nat) (news : List Value) (hx : a.eval x = .slice (some ad) m c) (hl : news.length = m * size) (hnews : ∀ j u, news[j]? = some u → w.cell? (ad.add j) = some u) (h1 : ∀ u ∈ news, u.oneCell' = true)
    (hm : 0 < m) (h63 : n + m ≤ maxLen) (hbytes : (n + m) * bytes ≤ 140737488355328) (hbase : base ≤ w.heap.size) (H : Nat) (hH : w.heap.size = H)
    (h : ∀ g cap w', w'.ownsRow base e size (.slice (some ⟨g, 0, none⟩) (n + m) cap) (n + m) (xs ++ news) → w.grownBy w' v.ownBlock → (v.ownBlock = some g ∨ g = H) → g < w'.heap.size → w'.ownsRow base e size v n xs → K (a.put o.dst (.slice (some ⟨g, 0, none⟩) (n + m) cap)) w') : o.wp P a w K Q := by
  obtain ⟨g, cap, w', hr, h2, h3, h4, h5, h6⟩ := run_append_stay (P := P) w t o.type base e i z size bytes ht hi hz hsize hby hzs hsz v n xs hown ad m c news hl hnews h1 hm h63 hbytes hbase H hH
  unfold Oper.wp execOp
  simp only [ho, resolve, invoke, builtin, Sem.run_bind, Sem.run_pure, Result.andThen_ok, List.map_toArray, List.map_cons, List.map_nil, hs, hx, hr]
  exact h g cap w' h2 h3 h4 h5 h6
theorem wpList_append_stay {w : World} {ops : Array Oper} {rest : List Oper} {o : Oper} {a : Act} {Q : Exit → Act → World → Prop} (hgd : o.guard = none) (s x : Operand) (t : TypeId)
    (ho : o.op = .call { callee := .builtin .append, args := #[s, x], argTypes := #[t, t] })
    (base : Nat) (e : TypeId) (i : TypeInfo) (z : Value) (size bytes : Nat) (ht : P.underlying t = some (.slice e)) (hi : P.info? e = some i) (hz : i.zero = some z)
    (hsize : i.size = size) (hby : i.bytes = bytes) (hzs : z.cells.size = size) (hsz : 0 < size)
    (v : Value) (n : Nat) (xs : List Value) (hs : a.eval s = v) (hown : w.ownsRow base e size v n xs)
    (ad : Addr) (m c : Nat) (news : List Value) (hx : a.eval x = .slice (some ad) m c) (hl : news.length = m * size) (hnews : ∀ j u, news[j]? = some u → w.cell? (ad.add j) = some u) (h1 : ∀ u ∈ news, u.oneCell' = true)
    (hm : 0 < m) (h63 : n + m ≤ maxLen) (hbytes : (n + m) * bytes ≤ 140737488355328) (hbase : base ≤ w.heap.size) (H : Nat) (hH : w.heap.size = H)
    (h : ∀ g cap w', w'.ownsRow base e size (.slice (some ⟨g, 0, none⟩) (n + m) cap) (n + m) (xs ++ news) → w.grownBy w' v.ownBlock → (v.ownBlock = some g ∨ g = H) → g < w'.heap.size → w'.ownsRow base e size v n xs → wpList P ops Q rest (a.put o.dst (.slice (some ⟨g, 0, none⟩) (n + m) cap)) w') : wpList P ops Q (o :: rest) a w :=
  wpList_plain hgd fun _ hK => wp_append_stay s x t ho base e i z size bytes ht hi hz hsize hby hzs hsz v n xs hs hown ad m c news hx hl hnews h1 hm h63 hbytes hbase H hH fun g cap w' h2 h3 h4 h5 h6 => hK _ _ (h g cap w' h2 h3 h4 h5 h6)
end
end Go.Proofs.YtdkdeiofjoccnaaGreat.Mem

/- apart, of one outcome: it is written full, both lists are made longer: each is as it was left. -/
namespace Go.Proofs.YtdkdeiofjoccnaaGreat.Lit
open Go.RowKit Go.Proofs.YtdkdeiofjoccnaaGreat.Mem Go.Proofs.YtdkdeiofjoccnaaGreat.Ar Go.Proofs.YtdkdeiofjoccnaaGreat.Un
set_option linter.unusedVariables false
set_option linter.unusedSimpArgs false
set_option maxRecDepth 100000

theorem infoWs : (Tryz.prog.info? 22).map (fun i => (i.zero, i.size, i.bytes)) = some (some (.slice none 0 0), 1, 24) := by kernel_rfl
theorem one_word (x : Int) : ∀ u ∈ [Value.int .u64 x], u.oneCell' = true := by simp [Value.oneCell']
theorem one_pair (a b : Option Addr) (n m c d : Nat) : ∀ u ∈ [Value.slice a n c, Value.slice b m d], u.oneCell' = true := by simp [Value.oneCell']

/-- every element is x -/
def Full (x : Int) (l : List Value) : Prop := ∀ u ∈ l, u = .int .u64 x
theorem full_take {x : Int} {zs : List Value} {k : Nat} (hk : k < zs.length) (h : Full x (zs.take k)) : Full x ((zs.set k (.int .u64 x)).take (k + 1)) := by
  intro u hu
  rw [List.take_succ_eq_append_getElem (by simpa using hk), List.getElem_set_self] at hu
  rcases List.mem_append.1 hu with hu | hu
  · rw [List.take_set_of_le (Nat.le_refl _)] at hu
    exact h u hu
  · simpa using hu
/-- a list v0, and one that goes on behind it -/
structure Tail (B : Nat) (w : World) (v0 : Value) (n0 : Nat) (xs : List Value) (v : Value) (m : Nat) (zs : List Value) : Prop where
  orig : w.ownsRow 0 75 1 v0 n0 xs
  cur : w.ownsRow 0 75 1 v m zs
  pre : zs.take n0 = xs
  le : n0 ≤ m
  at_ : v.ownBlock = v0.ownBlock ∨ ∀ g, v.ownBlock = some g → B ≤ g
theorem row_prefix {w w' : World} {B n m c c2 g : Nat} {t : TypeId} {xs zs : List Value} (h0 : w.ownsRow B t 1 (.slice (some ⟨g, 0, none⟩) n c) n xs) (h1 : w.ownsRow B t 1 (.slice (some ⟨g, 0, none⟩) m c2) m zs) (h2 : w'.ownsRow B t 1 (.slice (some ⟨g, 0, none⟩) m c2) m zs) (hp : zs.take n = xs) (hle : n ≤ m) : w'.ownsRow B t 1 (.slice (some ⟨g, 0, none⟩) n c) n xs := by
  rcases h0.2 with ⟨e, -⟩ | ⟨g0, k0, cur0, e0, b0, q0, r0, s0, t0, u0⟩
  · simp at e
  rcases h1.2 with ⟨e, -⟩ | ⟨g1, k1, cur1, e1, b1, q1, r1, s1, t1, u1⟩
  · simp at e
  rcases h2.2 with ⟨e, -⟩ | ⟨g2, k2, cur2, e2, b2, q2, r2, s2, t2, u2⟩
  · simp at e
  simp only [Value.slice.injEq, Option.some.injEq, Addr.mk.injEq] at e0 e1 e2
  obtain ⟨⟨rfl, -, -⟩, -, rfl⟩ := e0
  obtain ⟨⟨rfl, -, -⟩, -, rfl⟩ := e1
  obtain ⟨⟨rfl, -, -⟩, -, rfl⟩ := e2
  rw [q0] at q1
  simp only [Option.some.injEq, Obj.cells.injEq, true_and, and_true] at q1
  subst q1
  refine ⟨h0.1, .inr ⟨g, c, cur2, rfl, b0, q2, r0, s0, by omega, ?_⟩⟩
  rw [← hp, ← u2, List.take_take]
  congr 1
  omega
theorem Tail.start {B : Nat} {w : World} {v0 : Value} {n0 : Nat} {xs : List Value} (h : w.ownsRow 0 75 1 v0 n0 xs) : Tail B w v0 n0 xs v0 n0 xs :=
  ⟨h, h, List.take_of_length_le (by have := h.1; omega), Nat.le_refl _, .inl rfl⟩
theorem Tail.keep {B : Nat} {w w' : World} {v0 : Value} {n0 : Nat} {xs : List Value} {v : Value} {m : Nat} {zs : List Value} (h : Tail B w v0 n0 xs v m zs) {S : List Nat} (k : Keep S w w') (hS : ∀ g, v0.ownBlock = some g ∨ v.ownBlock = some g → g ∉ S) : Tail B w' v0 n0 xs v m zs :=
  ⟨Har.owns_block h.orig fun g hg => k.block g (h.orig.lt g hg).2 (hS g (.inl hg)), Har.owns_block h.cur fun g hg => k.block g (h.cur.lt g hg).2 (hS g (.inr hg)), h.pre, h.le, h.at_⟩
theorem Tail.push {B : Nat} {w w' : World} {v0 : Value} {n0 : Nat} {xs : List Value} {v : Value} {m : Nat} {zs : List Value} (h : Tail B w v0 n0 xs v m zs) {g cap : Nat} {u : Value} (hown : w'.ownsRow 0 75 1 (.slice (some ⟨g, 0, none⟩) (m + 1) cap) (m + 1) (zs ++ [u])) (hg : w.grownBy w' v.ownBlock) (hat : v.ownBlock = some g ∨ g = w.heap.size) (hst : w'.ownsRow 0 75 1 v m zs) (hB : B ≤ w.heap.size) :
    Tail B w' v0 n0 xs (.slice (some ⟨g, 0, none⟩) (m + 1) cap) (m + 1) (zs ++ [u]) := by
  have hlz := h.cur.1
  have hle := h.le
  refine ⟨?_, hown, by rw [List.take_append_of_le_length (by omega)]; exact h.pre, by omega, ?_⟩
  · by_cases e : v.ownBlock = v0.ownBlock
    · obtain ⟨a0, c0, rfl⟩ := row_form h.orig
      obtain ⟨a1, c1, rfl⟩ := row_form h.cur
      rcases h.orig.2 with ⟨e0, e1⟩ | ⟨g0, k0, cur0, e0, b0, q0, -⟩
      · exact ⟨h.orig.1, .inl ⟨e0, e1⟩⟩
      · simp only [Value.slice.injEq] at e0
        obtain ⟨rfl, -, rfl⟩ := e0
        rcases h.cur.2 with ⟨e1, -⟩ | ⟨g1, k1, cur1, e1, -⟩
        · simp only [Value.slice.injEq] at e1
          obtain ⟨rfl, -⟩ := e1
          simp [Value.ownBlock] at e
        · simp only [Value.slice.injEq] at e1
          obtain ⟨rfl, -, rfl⟩ := e1
          have e2 : g1 = g0 := by simpa [Value.ownBlock] using e
          subst e2
          exact row_prefix h.orig h.cur hst h.pre h.le
    · exact Har.owns_block h.orig fun g0 hg0 => hg.block g0 (h.orig.lt g0 hg0).2 fun e' => e (by rw [← e', hg0])
  · rcases hat with h1 | h1
    · rcases h.at_ with h2 | h2
      · exact .inl (by rw [← h2, h1]; rfl)
      · exact .inr fun x hx => by
          have hx' : g = x := by simpa [Value.ownBlock] using hx
          subst hx'
          exact h2 g h1
    · exact .inr fun x hx => by
        have hx' : g = x := by simpa [Value.ownBlock] using hx
        omega

set_option maxHeartbeats 4000000 in
theorem apart1 {w : World} {ab cap : Nat} {a1 a2 : Option Addr} {n1 n2 c1 c2 : Nat} {xs ys : List Value} (hb : w.heap[ab]? = some (.cells #[.slice a1 n1 c1, .slice a2 n2 c2] 68 (0, 0)))
    (h1 : w.ownsRow 0 75 1 (.slice a1 n1 c1) n1 xs) (h2 : w.ownsRow 0 75 1 (.slice a2 n2 c2) n2 ys) (hn1 : n1 ≤ 1000000000000) (hn2 : n2 ≤ 1000000000000)
    (hd : ∀ g, (Value.slice a1 n1 c1).ownBlock = some g → (Value.slice a2 n2 c2).ownBlock ≠ some g) (ho : ∀ g, (Value.slice a1 n1 c1).ownBlock = some g ∨ (Value.slice a2 n2 c2).ownBlock = some g → g ≠ ab) :
    Calls Tryz.prog 59 #[.slice (some ⟨ab, 0, none⟩) 1 cap] w fun e w' => e = .returned (.bool true) ∧ Keep ((Value.slice a1 n1 c1).ownBlock.toList ++ (Value.slice a2 n2 c2).ownBlock.toList) w w' := by
  obtain ⟨S, hS⟩ : ∃ S, S = (Value.slice a1 n1 c1).ownBlock.toList ++ (Value.slice a2 n2 c2).ownBlock.toList := ⟨_, rfl⟩
  rw [← hS]
  have s1 : ∀ g, (Value.slice a1 n1 c1).ownBlock = some g → g ∈ S := fun g hg => by rw [hS, hg]; simp
  have s2 : ∀ g, (Value.slice a2 n2 c2).ownBlock = some g → g ∈ S := fun g hg => by rw [hS, hg]; simp
  have sab : ab ∉ S := fun hm => by
    rw [hS] at hm
    rcases List.mem_append.1 hm with hm | hm
    · exact ho ab (.inl (by simpa using hm)) rfl
    · exact ho ab (.inr (by simpa using hm)) rfl
  have HS := Lib.hid (And.intro s1 (And.intro s2 sab))
  have HB := Lib.hid hb
  have R1 := Lib.hid h1
  have R2 := Lib.hid h2
  have HD := Lib.hid hd
  clear hS s1 s2 sab hb h1 h2 hd ho
  have q0 := (cell_of HB.out 0).trans rfl
  go_enter Tryz.func59, Tryz.ntmps59
  go_wp2_with fail
  refine wp_loop_rounds 2 ?_
  rw [rounds_succ]
  go_wp2_with fail
  go_loopw [5] (fun j wr => ∃ (k : Nat) (zs : List Value), j = .int .i64 k ∧ k ≤ n1 ∧ wr.ownsRow 0 75 1 (.slice a1 n1 c1) n1 zs ∧ Full 1000 (zs.take k) ∧ Keep (Value.slice a1 n1 c1).ownBlock.toList w wr) (fun j _ => n1 - (intOf j).toNat)
  case atStart => exact ⟨0, xs, rfl, Nat.zero_le _, R1.out, by simp [Full], Keep.refl _ _⟩
  case round =>
    obtain ⟨k, zs, rfl, hk, hR, hF, hK⟩ := hrel
    have RR := Lib.hid hR
    have FR := Lib.hid hF
    have KR := Lib.hid hK
    clear hR hF hK
    have hbr := KR.out.old HB.out (fun hm => HS.out.2.2 (HS.out.1 _ (by simpa using hm)))
    have HBR := Lib.hid hbr
    have x0 := (cell_of hbr 0).trans rfl
    clear hbr q0
    by_cases hlt : k < n1
    · have hzl : k < zs.length := by have := RR.out.1; omega
      obtain ⟨g, rfl, y0, y1⟩ := row_cell RR.out hzl
      obtain ⟨u, hu⟩ : ∃ u, u = zs[k] := ⟨_, rfl⟩
      rw [← hu] at y0
      have HZ := Lib.hid hzl
      clear hu hzl
      go_wp2_with fail
      go_roundw
      case rel => exact ⟨k + 1, _, by go_num, hlt, (RR.out.stored k _).1, full_take HZ.out FR.out, KR.out.set (.inl (by simp [Value.ownBlock])) _ _⟩
      case measure => simp [intOf]; omega
    · obtain ⟨w3, rfl⟩ : ∃ w3 : World, w3 = wr := ⟨_, rfl⟩
      have F3 : Hid (Full 1000 zs) := Lib.hid (by have := FR.out; rw [List.take_of_length_le (by have := RR.out.1; omega)] at this; exact this)
      have y1 := (cell_of HBR.out 1).trans rfl
      have R23 : Hid (w3.ownsRow 0 75 1 (.slice a2 n2 c2) n2 ys) := Lib.hid (Har.owns_block R2.out fun g hg => KR.out.block g (R2.out.lt g hg).2 fun hm => HD.out g (by simpa using hm) hg)
      go_wp2_with fail
      go_loopw [6] (fun j wr => ∃ (k : Nat) (vs : List Value), j = .int .i64 k ∧ k ≤ n2 ∧ wr.ownsRow 0 75 1 (.slice a2 n2 c2) n2 vs ∧ Full 2000 (vs.take k) ∧ Keep (Value.slice a2 n2 c2).ownBlock.toList w3 wr) (fun j _ => n2 - (intOf j).toNat)
      case atStart => exact ⟨0, ys, rfl, Nat.zero_le _, R23.out, by simp [Full], Keep.refl _ _⟩
      case round =>
        obtain ⟨k, vs, rfl, hk, hR, hF, hK⟩ := hrel
        have RV := Lib.hid hR
        have FV := Lib.hid hF
        have KV := Lib.hid hK
        clear hR hF hK
        have hbr := KV.out.old HBR.out (fun hm => HS.out.2.2 (HS.out.2.1 _ (by simpa using hm)))
        have HBV := Lib.hid hbr
        have z1 := (cell_of hbr 1).trans rfl
        clear hbr x0 y1
        by_cases hlt : k < n2
        · have hzl : k < vs.length := by have := RV.out.1; omega
          obtain ⟨g, rfl, y0, y1⟩ := row_cell RV.out hzl
          obtain ⟨u, hu⟩ : ∃ u, u = vs[k] := ⟨_, rfl⟩
          rw [← hu] at y0
          have HZ := Lib.hid hzl
          clear hu hzl
          go_wp2_with fail
          go_roundw
          case rel => exact ⟨k + 1, _, by go_num, hlt, (RV.out.stored k _).1, full_take HZ.out FV.out, KV.out.set (.inl (by simp [Value.ownBlock])) _ _⟩
          case measure => simp [intOf]; omega
        · obtain ⟨w4, rfl⟩ : ∃ w4 : World, w4 = wr := ⟨_, rfl⟩
          have F4 : Hid (Full 2000 vs) := Lib.hid (by have := FV.out; rw [List.take_of_length_le (by have := RV.out.1; omega)] at this; exact this)
          have R14 : Hid (w4.ownsRow 0 75 1 (.slice a1 n1 c1) n1 zs) := Lib.hid (Har.owns_block RR.out fun g hg => KV.out.block g (RR.out.lt g hg).2 fun hm => HD.out g hg (by simpa using hm))
          have K4 : Hid (Keep S w w4) := Lib.hid ((KR.out.mono fun x hx => HS.out.1 x (by simpa using hx)).trans (KV.out.mono fun x hx => HS.out.2.1 x (by simpa using hx)))
          have z0 : w4.cell? ⟨ab, 0, none⟩ = some (.slice a1 n1 c1) := cell_of HBV.out 0
          go_wp2_with fail
          rw [rounds_succ]
          go_wp2_with fail
          refine wp_loop_rounds 2 ?_
          rw [rounds_succ]
          go_wp2_with fail
          obtain ⟨i0, hi0, hz0, hz1, hz2⟩ := info_parts infoW64
          have HI := Lib.hid hi0
          have HZ := Lib.hid (And.intro hz0 (And.intro hz1 hz2))
          clear hi0 hz0 hz1 hz2
          go_loopw [8, 9, 10] (fun c r j wr => ∃ (k : Nat) (a3 a4 : Option Addr) (c3 c4 : Nat) (us ws : List Value), c = .slice a3 (n1 + k) c3 ∧ r = .slice a4 (n2 + k) c4 ∧ j = .int .i64 k ∧ k ≤ 40 ∧
            Tail w4.heap.size wr (.slice a1 n1 c1) n1 zs (.slice a3 (n1 + k) c3) (n1 + k) us ∧ Tail w4.heap.size wr (.slice a2 n2 c2) n2 vs (.slice a4 (n2 + k) c4) (n2 + k) ws ∧
            (0 < k → (∃ us0, us = us0 ++ [.int .u64 3000]) ∧ ∃ ws0, ws = ws0 ++ [.int .u64 4000]) ∧
            (∀ g, (Value.slice a3 (n1 + k) c3).ownBlock = some g → (Value.slice a4 (n2 + k) c4).ownBlock ≠ some g ∧ (Value.slice a2 n2 c2).ownBlock ≠ some g) ∧
            (∀ g, (Value.slice a4 (n2 + k) c4).ownBlock = some g → (Value.slice a1 n1 c1).ownBlock ≠ some g) ∧ Keep S w4 wr) (fun _ _ j _ => 40 - (intOf j).toNat)
          case atStart => exact ⟨0, a1, a2, c1, c2, zs, vs, rfl, rfl, rfl, Nat.zero_le _, Tail.start R14.out, Tail.start RV.out, fun h => absurd h (Nat.lt_irrefl _), fun g hg => ⟨HD.out g hg, HD.out g hg⟩, fun g hg hg' => HD.out g hg' hg, Keep.refl _ _⟩
          case round =>
            obtain ⟨k, a3, a4, c3, c4, us, ws, rfl, rfl, rfl, hk, hT1, hT2, hL, hD1, hD2, hK⟩ := hrel
            have T1 := Lib.hid hT1
            have T2 := Lib.hid hT2
            have LL := Lib.hid hL
            have D1 := Lib.hid hD1
            have D2 := Lib.hid hD2
            have K5 := Lib.hid hK
            clear hT1 hT2 hL hD1 hD2 hK
            obtain ⟨wo, rfl⟩ : ∃ wo : World, wo = wr := ⟨_, rfl⟩
            by_cases hk40 : k < 40
            · have hk40' : (k : Int) < 40 := by omega
              have d1 := Lib.hid (show n1 + k + 1 ≤ maxLen by unfold maxLen; omega)
              have d2 := Lib.hid (show (n1 + k + 1) * 8 ≤ 140737488355328 by omega)
              have e1 := Lib.hid (show n2 + k + 1 ≤ maxLen by unfold maxLen; omega)
              have e2 := Lib.hid (show (n2 + k + 1) * 8 ≤ 140737488355328 by omega)
              have N1 := Lib.hid (alloc_new wo (.cells #[.int .u64 3000] 75))
              go_wp2_with (at_builtin; refine wpList_append_stay rfl _ _ 22 rfl 0 75 i0 _ 1 8 Tryz.underlying22 HI.out HZ.out.1 HZ.out.2.1 HZ.out.2.2 rfl (by decide) (.slice a3 (n1 + k) c3) (n1 + k) us rfl (T1.out.cur.alloc _) ⟨wo.heap.size, 0, none⟩ 1 1 [.int .u64 3000] rfl rfl (World.news_of_block (cs := #[.int .u64 3000]) (fr := (0, 0)) N1.out) (one_word _) (by decide) d1.out d2.out (Nat.zero_le _) _ rfl ?_)
              intro g9 cap9 w9 hown9 hgrow9 hat9 hlt9 hst9
              have kk9 : Keep (Value.slice a3 (n1 + k) c3).ownBlock.toList (wo.alloc (.cells #[.int .u64 3000] 75)) w9 := ⟨hgrow9.os, hgrow9.tape, hgrow9.output, hgrow9.size, fun i hi hn => hgrow9.block i hi fun e => hn (by rw [← e]; simp)⟩
              have T19 := Lib.hid ((T1.out.keep (S := []) ((Keep.refl [] wo).alloc (.cells #[.int .u64 3000] 75)) (by simp)).push hown9 hgrow9 (hat9.imp id fun e => by rw [e, World.size_alloc]) hst9 (by have := K5.out.size; simp; omega))
              have T29 := Lib.hid ((T2.out.keep (S := []) ((Keep.refl [] wo).alloc (.cells #[.int .u64 3000] 75)) (by simp)).keep kk9 (fun g hg hm => by
                have hm' : (Value.slice a3 (n1 + k) c3).ownBlock = some g := by simpa using hm
                rcases hg with hg | hg
                · exact (D1.out g hm').2 hg
                · exact (D1.out g hm').1 hg))
              have E1 : Hid (∀ g, (Value.slice (some ⟨g9, 0, none⟩) (n1 + k + 1) cap9).ownBlock = some g → (Value.slice a4 (n2 + k) c4).ownBlock ≠ some g ∧ (Value.slice a2 n2 c2).ownBlock ≠ some g) := Lib.hid (fun g hg => by
                have hg' : g9 = g := by simpa [Value.ownBlock] using hg
                subst hg'
                rcases hat9 with h1 | h1
                · exact D1.out g9 h1
                · exact ⟨fun e => by have := (T2.out.cur.lt g9 e).2; omega, fun e => by have := (T2.out.orig.lt g9 e).2; omega⟩)
              have K9 : Hid (Keep S w4 w9) := Lib.hid ((K5.out.alloc _).chain kk9 (fun x hx => by
                have hx' : (Value.slice a3 (n1 + k) c3).ownBlock = some x := by simpa using hx
                rcases T1.out.at_ with h1 | h1
                · exact .inl (HS.out.1 x (by rw [← h1]; exact hx'))
                · exact .inr (h1 x hx')))
              have N2 := Lib.hid (alloc_new w9 (.cells #[.int .u64 4000] 75))
              clear hown9 hgrow9 hat9 hlt9 hst9 kk9
              go_wp2_with (at_builtin; refine wpList_append_stay rfl _ _ 22 rfl 0 75 i0 _ 1 8 Tryz.underlying22 HI.out HZ.out.1 HZ.out.2.1 HZ.out.2.2 rfl (by decide) (.slice a4 (n2 + k) c4) (n2 + k) ws rfl (T29.out.cur.alloc _) ⟨w9.heap.size, 0, none⟩ 1 1 [.int .u64 4000] rfl rfl (World.news_of_block (cs := #[.int .u64 4000]) (fr := (0, 0)) N2.out) (one_word _) (by decide) e1.out e2.out (Nat.zero_le _) _ rfl ?_)
              intro g8 cap8 w8 hown8 hgrow8 hat8 hlt8 hst8
              have kk8 : Keep (Value.slice a4 (n2 + k) c4).ownBlock.toList (w9.alloc (.cells #[.int .u64 4000] 75)) w8 := ⟨hgrow8.os, hgrow8.tape, hgrow8.output, hgrow8.size, fun i hi hn => hgrow8.block i hi fun e => hn (by rw [← e]; simp)⟩
              have T28 := Lib.hid ((T29.out.keep (S := []) ((Keep.refl [] w9).alloc (.cells #[.int .u64 4000] 75)) (by simp)).push hown8 hgrow8 (hat8.imp id fun e => by rw [e, World.size_alloc]) hst8 (by have := K9.out.size; simp; omega))
              have T18 := Lib.hid ((T19.out.keep (S := []) ((Keep.refl [] w9).alloc (.cells #[.int .u64 4000] 75)) (by simp)).keep kk8 (fun g hg hm => by
                have hm' : (Value.slice a4 (n2 + k) c4).ownBlock = some g := by simpa using hm
                rcases hg with hg | hg
                · exact D2.out g hm' hg
                · exact (E1.out g hg).1 hm'))
              have E3 : Hid (∀ g, (Value.slice (some ⟨g9, 0, none⟩) (n1 + k + 1) cap9).ownBlock = some g → (Value.slice (some ⟨g8, 0, none⟩) (n2 + k + 1) cap8).ownBlock ≠ some g ∧ (Value.slice a2 n2 c2).ownBlock ≠ some g) := Lib.hid (fun g hg => ⟨fun e => by
                have e' : g8 = g := by simpa [Value.ownBlock] using e
                subst e'
                rcases hat8 with h1 | h1
                · exact (E1.out g8 hg).1 h1
                · have := (T19.out.cur.lt g8 hg).2
                  omega, (E1.out g hg).2⟩)
              have E4 : Hid (∀ g, (Value.slice (some ⟨g8, 0, none⟩) (n2 + k + 1) cap8).ownBlock = some g → (Value.slice a1 n1 c1).ownBlock ≠ some g) := Lib.hid (fun g hg e => by
                have e' : g8 = g := by simpa [Value.ownBlock] using hg
                subst e'
                rcases hat8 with h1 | h1
                · exact D2.out g8 h1 e
                · have := (T19.out.orig.lt g8 e).2
                  omega)
              have K8 : Hid (Keep S w4 w8) := Lib.hid ((K9.out.alloc _).chain kk8 (fun x hx => by
                have hx' : (Value.slice a4 (n2 + k) c4).ownBlock = some x := by simpa using hx
                rcases T2.out.at_ with h1 | h1
                · exact .inl (HS.out.2.1 x (by rw [← h1]; exact hx'))
                · exact .inr (h1 x hx')))
              clear hown8 hgrow8 hat8 hlt8 hst8 kk8
              go_wp2_with fail
              go_roundw
              case rel => exact ⟨k + 1, some ⟨g9, 0, none⟩, some ⟨g8, 0, none⟩, cap9, cap8, _, _, rfl, rfl, by go_num, hk40, T18.out, T28.out, fun _ => ⟨⟨us, rfl⟩, ⟨ws, rfl⟩⟩, E3.out, E4.out, K8.out⟩
              case measure => simp [intOf]; omega
            · obtain rfl : k = 40 := by omega
              obtain ⟨⟨us0, hus⟩, ws0, hws⟩ := LL.out (by decide)
              obtain ⟨j0, hj0, hy0, hy1, hy2⟩ := info_parts infoWs
              have HJ := Lib.hid hj0
              have HY := Lib.hid (And.intro hy0 (And.intro hy1 hy2))
              have U1 := Lib.hid (And.intro hus hws)
              have N3 := Lib.hid (alloc_new wo (.cells #[.slice a3 (n1 + 40) c3, .slice a4 (n2 + 40) c4] 22))
              clear hj0 hy0 hy1 hy2 hus hws
              go_wp2_with (at_builtin; refine wpList_append_lies _ rfl _ _ 202 rfl 0 22 j0 _ 1 24 Tryz.underlying202 HJ.out HY.out.1 HY.out.2.1 HY.out.2.2 rfl (by decide) (.slice none 0 0) 0 [] rfl (World.ownsRow_nil _ _ _ _) ⟨wo.heap.size, 0, none⟩ 2 2 [.slice a3 (n1 + 40) c3, .slice a4 (n2 + 40) c4] rfl rfl (World.news_of_block (cs := #[.slice a3 (n1 + 40) c3, .slice a4 (n2 + 40) c4]) (fr := (0, 0)) N3.out) (one_pair _ _ _ _ _ _) (by decide) (by unfold maxLen; omega) (by omega) (Nat.zero_le _) _ rfl ?_)
              intro gm capm w6 hownm hgrowm hatm hltm
              have K6 := Lib.hid (Pick.Keep.grown ((Keep.refl [] wo).alloc _) hgrowm (by simp [Value.ownBlock]))
              have M6 : Hid (w6.cell? ⟨gm, 0, none⟩ = some (.slice a3 (n1 + 40) c3) ∧ w6.cell? ⟨gm, 1, none⟩ = some (.slice a4 (n2 + 40) c4)) := Lib.hid (by
                obtain ⟨g, e, m0, -⟩ := row_cell hownm (i := 0) (by simp)
                obtain ⟨g', e', m1, -⟩ := row_cell hownm (i := 1) (by simp)
                simp only [Option.some.injEq, Addr.mk.injEq, and_true] at e e'
                subst e e'
                exact ⟨by simpa using m0, by simpa using m1⟩)
              have T16 := Lib.hid (T1.out.keep K6.out (by simp))
              have T26 := Lib.hid (T2.out.keep K6.out (by simp))
              have HB6 := Lib.hid ((K5.out.trans (K6.out.mono (by simp))).old HBV.out HS.out.2.2)
              clear hownm hgrowm hatm hltm
              go_wp2_with fail
              rw [rounds_succ]
              go_wp2_with fail
              have z6 : w6.cell? ⟨ab, 0, none⟩ = some (.slice a1 n1 c1) := cell_of HB6.out 0
              have z7 : w6.cell? ⟨ab, 1, none⟩ = some (.slice a2 n2 c2) := cell_of HB6.out 1
              clear z0 z1
              refine wp_loop_rounds 2 ?_
              rw [rounds_succ]
              go_wp2_with fail
              go_loopw [12] (fun j wr => ∃ (k : Nat), j = .int .i64 k ∧ k ≤ n1 ∧ Keep [] w6 wr) (fun j _ => n1 - (intOf j).toNat)
              case atStart => exact ⟨0, rfl, Nat.zero_le _, Keep.refl _ _⟩
              case round =>
                obtain ⟨k, rfl, hk, hK⟩ := hrel
                have KX := Lib.hid hK
                clear hK
                have v6 := KX.out.cell z6 (by simp)
                have v7 := KX.out.cell z7 (by simp)
                by_cases hlt : k < n1
                · have hzl : k < zs.length := by have := RR.out.1; omega
                  obtain ⟨g, rfl, y0, -⟩ := row_cell (T16.out.keep KX.out (by simp)).orig hzl
                  rw [F3.out _ (List.getElem_mem hzl)] at y0
                  clear hzl
                  go_wp2_with fail
                  go_roundw
                  case rel => exact ⟨k + 1, by go_num, hlt, KX.out⟩
                  case measure => simp [intOf]; omega
                · obtain ⟨w7, rfl⟩ : ∃ w7 : World, w7 = wr := ⟨_, rfl⟩
                  clear z6 z7
                  go_wp2_with fail
                  go_loopw [13] (fun j wr => ∃ (k : Nat), j = .int .i64 k ∧ k ≤ n2 ∧ Keep [] w7 wr) (fun j _ => n2 - (intOf j).toNat)
                  case atStart => exact ⟨0, rfl, Nat.zero_le _, Keep.refl _ _⟩
                  case round =>
                    obtain ⟨q, rfl, hq, hK⟩ := hrel
                    have KY := Lib.hid (KX.out.trans hK)
                    have KZ := Lib.hid hK
                    have u6 := hK.cell v6 (by simp)
                    have u7 := hK.cell v7 (by simp)
                    clear hK v6 v7
                    by_cases hlq : q < n2
                    · have hzl : q < vs.length := by have := RV.out.1; omega
                      obtain ⟨g, rfl, y0, -⟩ := row_cell (T26.out.keep KY.out (by simp)).orig hzl
                      rw [F4.out _ (List.getElem_mem hzl)] at y0
                      clear hzl
                      go_wp2_with fail
                      go_roundw
                      case rel => exact ⟨q + 1, by go_num, hlq, KZ.out⟩
                      case measure => simp [intOf]; omega
                    · have m0 := KY.out.cell M6.out.1 (by simp)
                      have m1 := KY.out.cell M6.out.2 (by simp)
                      have hl1 := T16.out.cur.1
                      have hl2 := T26.out.cur.1
                      obtain ⟨g3, rfl, x3, -⟩ := row_cell (T16.out.keep KY.out (by simp)).cur (i := n1 + 39) (by omega)
                      obtain ⟨g4, rfl, x4, -⟩ := row_cell (T26.out.keep KY.out (by simp)).cur (i := n2 + 39) (by omega)
                      have e3 : us[n1 + 39]'(by omega) = .int .u64 3000 := by
                        have hlu := hl1
                        rw [U1.out.1] at hlu
                        simp only [U1.out.1]
                        rw [List.getElem_append_right (by simp at hlu; omega)]
                        simp
                      have e4 : ws[n2 + 39]'(by omega) = .int .u64 4000 := by
                        have hlu := hl2
                        rw [U1.out.2] at hlu
                        simp only [U1.out.2]
                        rw [List.getElem_append_right (by simp at hlu; omega)]
                        simp
                      rw [e3] at x3
                      rw [e4] at x4
                      clear hl1 hl2 e3 e4
                      go_wp2_with fail
                      rw [rounds_succ]
                      go_wp2_with fail
                      exact bodyPost_ret (results_tmp rfl _ _ _) rfl ⟨rfl, (K4.out.trans K5.out).trans ((K6.out.trans KY.out).mono (by simp))⟩
end Go.Proofs.YtdkdeiofjoccnaaGreat.Lit
