/- stratalaw03.copyLitmus: the same program in memory of its own. -/
import Derived.Test.YtdkdeiofjoccnaaGreatPathA
import Derived.Deep.CutRange
import Derived.Deep.CutBlock
import Derived.Deep.DeepCutAuto
namespace Go.Proofs.YtdkdeiofjoccnaaGreat.Lit
open Go.RowKit Go.Proofs.YtdkdeiofjoccnaaGreat.Mem Go.Proofs.YtdkdeiofjoccnaaGreat.Ar Go.Proofs.YtdkdeiofjoccnaaGreat.Un
set_option linter.unusedVariables false
set_option maxRecDepth 100000

/-- what a copy behind an empty list is -/
structure CopiedE (w w' : World) (e : TypeId) (size : Nat) (a : Option Addr) (m c : Nat) (xs : List Value) : Prop where
  own : w'.ownsRow w.heap.size e size (.slice a m c) m xs
  keep : Keep [] w w'

section
variable {P : Program}
theorem run_copyE (w : World) (t ty e : TypeId) (i : TypeInfo) (z : Value) (size bytes : Nat) (ht : P.underlying t = some (.slice e)) (hi : P.info? e = some i) (hz : i.zero = some z)
    (hsize : i.size = size) (hby : i.bytes = bytes) (hzs : z.cells.size = size) (hsz : 0 < size) (a : Option Addr) (m c : Nat) (xs : List Value) (hl : xs.length = m * size) (hs : Sees w a xs) (h1 : ∀ u ∈ xs, u.oneCell' = true) (h63 : m ≤ maxLen) (hbytes : m * bytes ≤ 140737488355328) :
    ∃ a' c' w', (Builtin.append_ #[t, t] ty #[.slice (some ⟨w.heap.size, 0, none⟩) 0 0, .slice a m c]).run P (w.alloc (.cells #[] e)) = .ok (.slice a' m c') w' ∧ CopiedE w w' e size a' m c' xs := by
  have k0 : Keep [] w (w.alloc (.cells #[] e)) := (Keep.refl _ _).alloc _
  have ho : (w.alloc (.cells #[] e)).ownsRow w.heap.size e size (.slice (some ⟨w.heap.size, 0, none⟩) 0 0) 0 [] :=
    ⟨by simp, .inr ⟨_, 0, _, rfl, Nat.le_refl _, alloc_new _ _, Nat.le_refl _, by unfold maxLen; omega, by simp, by simp⟩⟩
  by_cases hm : m = 0
  · subst hm
    have hx : xs = [] := List.eq_nil_of_length_eq_zero (by simpa using hl)
    subst hx
    refine ⟨some ⟨w.heap.size, 0, none⟩, 0, w.alloc (.cells #[] e), ?_, ⟨ho, k0⟩⟩
    cases a with
    | none => simp [Builtin.append_, run_underlying ht, sizeOf, typeInfo, hi, Builtin.lenOf, Builtin.firstCells, loadCells, loadCellsFrom, storeCells]
    | some a => simp [Builtin.append_, run_underlying ht, sizeOf, typeInfo, hi, Builtin.lenOf, Builtin.firstCells, loadCells, loadCellsFrom, storeCells]
  · have hpos : 0 < xs.length := by rw [hl]; exact Nat.mul_pos (by omega) hsz
    obtain ⟨g, o, rfl, -⟩ := hs.at_ 0 hpos
    have hnews : ∀ j u, xs[j]? = some u → (w.alloc (.cells #[] e)).cell? ((⟨g, o, none⟩ : Addr).add j) = some u := by
      intro j u hu
      obtain ⟨hj, rfl⟩ := List.getElem?_eq_some_iff.1 hu
      obtain ⟨g', o', e', cc⟩ := (hs.keep0 k0).at_ j hj
      simp only [Option.some.injEq, Addr.mk.injEq, and_true] at e'
      obtain ⟨rfl, rfl⟩ := e'
      have hadd : (⟨g, o, none⟩ : Addr).add j = ⟨g, o + j, none⟩ := by unfold Addr.add; split <;> simp_all
      rw [hadd, cc]
    obtain ⟨g', cap, w', hr, h2, h3, h4, h5⟩ := run_append_lies (P := P) (w.alloc (.cells #[] e)) t ty w.heap.size e i z size bytes ht hi hz hsize hby hzs hsz (.slice (some ⟨w.heap.size, 0, none⟩) 0 0) 0 [] ho ⟨g, o, none⟩ m c xs hl hnews h1 (by omega) (by omega) (by rw [Nat.zero_add]; exact hbytes) (by simp) (w.alloc (.cells #[] e)).heap.size rfl
    rw [Nat.zero_add] at hr h2
    rw [List.nil_append] at h2
    refine ⟨_, _, w', hr, ⟨h2, ?_⟩⟩
    exact k0.chain (T := [w.heap.size]) ⟨h3.os, h3.tape, h3.output, h3.size, fun k hk hn => h3.block k hk (by simp [Value.ownBlock] at hn ⊢; exact fun e => hn e)⟩ fun x hx => .inr (by simp at hx; omega)

/-- at a step of a region that draws -/
theorem step_copyE {w wa : World} {ops : Array Oper} {o : Oper} {act : Act} {K : Act → World → Prop} {Q : Exit → Act → World → Prop} {E : Prop} (hgd : o.guard = none) (x y : Operand) (t : TypeId)
    (ho : o.op = .call { callee := .builtin .append, args := #[x, y], argTypes := #[t, t] })
    (e : TypeId) (i : TypeInfo) (z : Value) (size bytes : Nat) (ht : P.underlying t = some (.slice e)) (hi : P.info? e = some i) (hz : i.zero = some z)
    (hsize : i.size = size) (hby : i.bytes = bytes) (hzs : z.cells.size = size) (hsz : 0 < size) (hwa : wa = w.alloc (.cells #[] e)) (hx : act.eval x = .slice (some ⟨w.heap.size, 0, none⟩) 0 0) (a : Option Addr) (m c : Nat) (xs : List Value) (hy : act.eval y = .slice a m c) (hl : xs.length = m * size) (hs : Sees w a xs) (h1 : ∀ u ∈ xs, u.oneCell' = true) (h63 : m ≤ maxLen) (hbytes : m * bytes ≤ 140737488355328)
    (hk : ∀ a' c' w', CopiedE w w' e size a' m c' xs → K (act.put o.dst (.slice a' m c')) w') :
    if Region.wanted o (yielded ops act.tmps) = true then Oper.wp P o act wa K Q else E := by
  have hw : Region.wanted o (yielded ops act.tmps) = true := by simp [Region.wanted, hgd]
  rw [if_pos hw, hwa]
  obtain ⟨a', c', w', hr, h2⟩ := run_copyE (P := P) w t o.type e i z size bytes ht hi hz hsize hby hzs hsz a m c xs hl hs h1 h63 hbytes
  unfold Oper.wp execOp
  simp only [ho, resolve, invoke, builtin, Sem.run_bind, Sem.run_pure, Result.andThen_ok, List.map_toArray, List.map_cons, List.map_nil, hx, hy, hr]
  exact hk a' c' w' h2
/-- at a plain region's list -/
theorem wpList_copyE {w wa : World} {ops : Array Oper} {rest : List Oper} {o : Oper} {act : Act} {Q : Exit → Act → World → Prop} (hgd : o.guard = none) (x y : Operand) (t : TypeId)
    (ho : o.op = .call { callee := .builtin .append, args := #[x, y], argTypes := #[t, t] })
    (e : TypeId) (i : TypeInfo) (z : Value) (size bytes : Nat) (ht : P.underlying t = some (.slice e)) (hi : P.info? e = some i) (hz : i.zero = some z)
    (hsize : i.size = size) (hby : i.bytes = bytes) (hzs : z.cells.size = size) (hsz : 0 < size) (hwa : wa = w.alloc (.cells #[] e)) (hx : act.eval x = .slice (some ⟨w.heap.size, 0, none⟩) 0 0) (a : Option Addr) (m c : Nat) (xs : List Value) (hy : act.eval y = .slice a m c) (hl : xs.length = m * size) (hs : Sees w a xs) (h1 : ∀ u ∈ xs, u.oneCell' = true) (h63 : m ≤ maxLen) (hbytes : m * bytes ≤ 140737488355328)
    (hk : ∀ a' c' w', CopiedE w w' e size a' m c' xs → wpList P ops Q rest (act.put o.dst (.slice a' m c')) w') : wpList P ops Q (o :: rest) act wa := by
  refine wpList_plain hgd fun K hK => ?_
  rw [hwa]
  obtain ⟨a', c', w', hr, h2⟩ := run_copyE (P := P) w t o.type e i z size bytes ht hi hz hsize hby hzs hsz a m c xs hl hs h1 h63 hbytes
  unfold Oper.wp execOp
  simp only [ho, resolve, invoke, builtin, Sem.run_bind, Sem.run_pure, Result.andThen_ok, List.map_toArray, List.map_cons, List.map_nil, hx, hy, hr]
  exact hK _ _ (hk a' c' w' h2)
end

theorem infoIs : (Tryz.prog.info? 93).map (fun i => (i.zero, i.size, i.bytes)) = some (some (.slice none 0 0), 1, 24) := by kernel_rfl
theorem one_sl (a : Option Addr) (n c : Nat) : ∀ u ∈ [Value.slice a n c], u.oneCell' = true := by simp [Value.oneCell']
theorem sees_of {w : World} {base : Nat} {e : TypeId} {size n : Nat} {a : Option Addr} {c : Nat} {xs : List Value} (h : w.ownsRow base e size (.slice a n c) n xs) : Sees w a xs := by
  refine ⟨fun i hi => ?_⟩
  rcases h.2 with ⟨e1, h0⟩ | ⟨g, cap, cur, e1, -⟩
  · have := h.1
    rw [h0] at this
    omega
  · have hv : a = some ⟨g, 0, none⟩ := by simp only [Value.slice.injEq] at e1; exact e1.1
    have h1 := h.cells (g := g) (by rw [e1]; rfl) i xs[i] (List.getElem?_eq_getElem hi)
    have e2 : (⟨g, 0, none⟩ : Addr).add i = ⟨g, 0 + i, none⟩ := by unfold Addr.add; split <;> simp_all
    rw [e2] at h1
    exact ⟨g, 0, hv, h1⟩

/-- rows of instructions, each in a block of its own -/
structure CopyRow (w : World) (base : Nat) (tv : Value) (ls : List (List Ins)) (ps : List Value) : Prop where
  len : ps.length = ls.length
  row : w.ownsRow base 93 1 tv ps.length ps
  each : ∀ i (h1 : i < ps.length) (h2 : i < ls.length), ∃ a c, ps[i] = .slice a ls[i].length c ∧ w.ownsRow base 140 8 ps[i] ls[i].length (flatI ls[i]) ∧ ∀ g, ps[i].ownBlock = some g → tv.ownBlock ≠ some g

theorem CopyRow.zero (w : World) (base : Nat) : CopyRow w base (.slice none 0 0) [] [] := ⟨rfl, World.ownsRow_nil _ _ _ _, fun i h => absurd h (Nat.not_lt_zero _)⟩
theorem CopyRow.keep {w w' : World} {base : Nat} {tv : Value} {ls : List (List Ins)} {ps : List Value} (h : CopyRow w base tv ls ps) {T : List Nat} (k : Keep T w w') (hT : ∀ x ∈ T, x < base) : CopyRow w' base tv ls ps := by
  have key : ∀ {e : TypeId} {size : Nat} {v : Value} {n : Nat} {xs : List Value}, w.ownsRow base e size v n xs → w'.ownsRow base e size v n xs := fun ho =>
    Har.owns_block ho fun g hg => k.block g (ho.lt g hg).2 fun hm => by have := hT g hm; have := (ho.lt g hg).1; omega
  exact ⟨h.len, key h.row, fun i h1 h2 => let ⟨a, c, e1, e2, e3⟩ := h.each i h1 h2; ⟨a, c, e1, key e2, e3⟩⟩
theorem CopyRow.snoc {w wx w8 : World} {base : Nat} {tv : Value} {ls : List (List Ins)} {ps : List Value} (h : CopyRow w base tv ls ps) (k : Keep [] w wx) {a7 : Option Addr} {n7 c7 : Nat} {p : List Ins} (hn : n7 = p.length) (h7 : wx.ownsRow w.heap.size 140 8 (.slice a7 n7 c7) n7 (flatI p)) (hbase : base ≤ w.heap.size)
    {g8 cap8 : Nat} (hown : w8.ownsRow base 93 1 (.slice (some ⟨g8, 0, none⟩) (ps.length + 1) cap8) (ps.length + 1) (ps ++ [.slice a7 n7 c7])) (hg : wx.grownBy w8 tv.ownBlock) (hat : tv.ownBlock = some g8 ∨ g8 = wx.heap.size) :
    CopyRow w8 base (.slice (some ⟨g8, 0, none⟩) (ps.length + 1) cap8) (ls ++ [p]) (ps ++ [.slice a7 n7 c7]) := by
  subst hn
  refine ⟨by simp [h.len], by simpa using hown, fun i h1 h2 => ?_⟩
  by_cases hi : i < ps.length
  · have hi2 : i < ls.length := by rw [← h.len]; exact hi
    obtain ⟨a, c, e1, e2, e3⟩ := h.each i hi hi2
    rw [List.getElem_append_left hi, List.getElem_append_left hi2]
    refine ⟨a, c, e1, Har.owns_block e2 fun g hg' => ?_, fun g hg' hx => ?_⟩
    · exact (hg.block g (Nat.lt_of_lt_of_le (e2.lt g hg').2 k.size) (fun e => e3 g hg' e.symm)).trans (k.block g (e2.lt g hg').2 (by simp))
    · have hx' : g8 = g := by simpa [Value.ownBlock] using hx
      subst hx'
      rcases hat with h3 | h3
      · exact e3 _ hg' h3
      · have := (e2.lt _ hg').2; have := k.size; omega
  · have hi' : i = ps.length := by simp at h1; omega
    subst hi'
    have e0 : (ps ++ [Value.slice a7 p.length c7])[ps.length] = .slice a7 p.length c7 := by simp
    have e1 : (ls ++ [p])[ps.length]'h2 = p := by simp [h.len]
    simp only [e0, e1]
    refine ⟨a7, c7, rfl, ⟨h7.1, (Har.owns_block (w' := w8) (owns_mono h7 hbase) fun g hg' => hg.block g (h7.lt g hg').2 fun e => ?_).2⟩, fun g hg' hx => ?_⟩
    · have := (h.row.lt g e.symm).2
      have := (h7.lt g hg').1
      omega
    · have hx' : g8 = g := by simpa [Value.ownBlock] using hx
      subst hx'
      rcases hat with h3 | h3
      · have := (h.row.lt _ h3).2
        have := (h7.lt _ hg').1
        omega
      · have := (h7.lt _ hg').2; omega
theorem CopyRow.form {w : World} {base : Nat} {tv : Value} {ls : List (List Ins)} {ps : List Value} (h : CopyRow w base tv ls ps) : ∃ a c, tv = .slice a ls.length c := by
  rcases h.row.2 with ⟨e, h0⟩ | ⟨g, cap, cur, e, -⟩
  · exact ⟨.none, 0, by rw [e, ← h.len, h0]⟩
  · exact ⟨_, _, by rw [e, h.len]⟩
theorem CopyRow.lit {w : World} {base : Nat} {tv : Value} {l : LP} {ps : List Value} (h : CopyRow w base tv l.threads ps) {a : Option Addr} {c : Nat} (hc : Sees w a (l.cells.map (.int .u64))) : LitAt w (.slice a l.cells.length c) tv l := by
  obtain ⟨a2, c2, rfl⟩ := h.form
  refine ⟨⟨a, c, rfl, hc⟩, ⟨a2, c2, ps, rfl, h.len, ?_, fun i h1 h2 => ?_⟩⟩
  · have := h.row
    rw [h.len] at this
    exact sees_of this
  · obtain ⟨a', c', e1, e2, -⟩ := h.each i h1 h2
    rw [e1] at e2
    exact ⟨a', c', e1, sees_of e2⟩

set_option maxHeartbeats 4000000 in
theorem copy_lit (l : LP) (hs : l.cells.length ≤ 1000000000000 ∧ l.threads.length ≤ 1000000000000 ∧ ∀ p ∈ l.threads, p.length ≤ 1000000000000) {cv tv : Value} (w : World) (h : LitAt w cv tv l) :
    Calls Tryz.prog 8 #[.agg #[cv, tv]] w fun e w' => ∃ cv' tv', e = .returned (.agg #[cv', tv']) ∧ LitAt w' cv' tv' l ∧ Keep [] w w' := by
  obtain ⟨⟨a, c, rfl, s⟩, ⟨a2, c2, ps, rfl, e3, s2, s3⟩⟩ := h
  obtain ⟨nc, hnc⟩ : ∃ n, n = l.cells.length := ⟨_, rfl⟩
  obtain ⟨nt, hnt⟩ : ∃ n, n = l.threads.length := ⟨_, rfl⟩
  have HN := Lib.hid (And.intro hnc hnt)
  have HS := Lib.hid hs
  have SC := Lib.hid s
  have S2 := Lib.hid s2
  have S3 := Lib.hid (And.intro e3 s3)
  rw [← hnc, ← hnt]
  have hnc12 : nc ≤ 1000000000000 := by rw [hnc]; exact hs.1
  have hnt12 : nt ≤ 1000000000000 := by rw [hnt]; exact hs.2.1
  obtain ⟨i0, hi0, hz0, hz1, hz2⟩ := info_parts infoW64
  have HI := Lib.hid hi0
  have HZ := Lib.hid (And.intro hz0 (And.intro hz1 hz2))
  obtain ⟨w1, hw1⟩ : ∃ w1, w1 = (w.alloc (.cells #[.slice a nc c, .slice a2 nt c2] 25)).alloc (.cells #[.slice none 0 0, .slice none 0 0] 25) := ⟨_, rfl⟩
  have W1 := Lib.hid hw1
  have K1 := Lib.hid (show Keep [] w w1 by rw [hw1]; exact ((Keep.refl _ _).alloc _).alloc _)
  have d1 := Lib.hid (show (l.cells.map (Value.int .u64)).length = nc * 1 by rw [List.length_map, Nat.mul_one, hnc])
  have d2 := Lib.hid (one_nums l.cells)
  clear hi0 hz0 hz1 hz2 hs s s2 e3 s3 hnc hnt hw1
  go_enter Tryz.func8, Tryz.ntmps8
  go_wp2_with (at_builtin; refine wpList_copyE (w := w1) rfl _ _ 22 rfl 75 i0 _ 1 8 Tryz.underlying22 HI.out HZ.out.1 HZ.out.2.1 HZ.out.2.2 rfl (by decide) (by rw [W1.out]) (by rw [W1.out]; simp; rfl) a nc c (l.cells.map (.int .u64)) rfl d1.out (SC.out.keep0 K1.out) d2.out (by unfold maxLen; omega) (by omega) ?_)
  intro ca cc w2 hc
  have C2 := Lib.hid hc.own
  have K2 := Lib.hid hc.keep
  clear hc
  obtain ⟨lb, hlb⟩ : ∃ lb, lb = w.heap.size := ⟨_, rfl⟩
  obtain ⟨cb, hcb⟩ : ∃ cb, cb = w.heap.size + 1 := ⟨_, rfl⟩
  have e0 : w1.heap.size = w.heap.size + 2 := by rw [W1.out]; simp
  have L2 := Lib.hid (K2.out.old (show w1.heap[lb]? = some (.cells #[.slice a nc c, .slice a2 nt c2] 25 (0, 0)) by rw [W1.out, hlb]; exact alloc_some _ (alloc_new w _)) (by simp))
  have B2 := Lib.hid (K2.out.old (show w1.heap[cb]? = some (.cells #[.slice none 0 0, .slice none 0 0] 25 (0, 0)) by
    rw [W1.out, hcb]
    have := alloc_new (w.alloc (.cells #[.slice a nc c, .slice a2 nt c2] 25)) (.cells #[.slice none 0 0, .slice none 0 0] 25)
    rw [World.size_alloc] at this
    exact this) (by simp))
  rw [← hcb, ← hlb]
  have HB := Lib.hid (And.intro hlb (And.intro hcb e0))
  clear hlb hcb e0
  have f0 := free_of B2.out 0
  have m0 := (cell_of B2.out 0).trans rfl
  have m1 := (cell_of L2.out 1).trans rfl
  go_wp2_with fail
  obtain ⟨vb, hvb⟩ : ∃ vb, vb = w2.heap.size := ⟨_, rfl⟩
  obtain ⟨w3, hw3⟩ : ∃ w3, w3 = w2.alloc (.cells #[.slice ca nc cc, .slice none 0 0] 25) := ⟨_, rfl⟩
  have K3 := Lib.hid (show Keep [] w2 w3 by rw [hw3]; exact (Keep.refl _ _).alloc _)
  have V3 := Lib.hid (show w3.heap[vb]? = some (.cells #[.slice ca nc cc, .slice none 0 0] 25 (0, 0)) by rw [hw3, hvb]; exact alloc_new _ _)
  rw [← hw3, ← hvb]
  have HV := Lib.hid hvb
  have hlvb : lb < vb := by rw [hvb]; exact lt_of L2.out
  clear hw3 hvb f0 m0 m1
  obtain ⟨iS, hiS, hzS0, hzS1, hzS2⟩ := info_parts infoIs
  have HIS := Lib.hid hiS
  have HZS := Lib.hid (And.intro hzS0 (And.intro hzS1 hzS2))
  obtain ⟨iI, hiI, hzI0, hzI1, hzI2⟩ := info_parts infoInstr
  have HII := Lib.hid hiI
  have HZI := Lib.hid (And.intro hzI0 (And.intro hzI1 hzI2))
  clear hiS hzS0 hzS1 hzS2 hiI hzI0 hzI1 hzI2
  go_loopw [4] (fun i wr => ∃ (k : Nat) (tv2 : Value) (qs : List Value), i = .int .i64 k ∧ k ≤ nt ∧ wr.heap[vb]? = some (.cells #[.slice ca nc cc, tv2] 25 (0, 0)) ∧ CopyRow wr (vb + 1) tv2 (l.threads.take k) qs ∧ Keep [] w2 wr) (fun i _ => nt - (intOf i).toNat)
  case atStart => exact ⟨0, _, [], rfl, Nat.zero_le _, V3.out, CopyRow.zero _ _, K3.out⟩
  case round =>
    obtain ⟨k, tv2, qs, rfl, hk, hV, hR, hK⟩ := hrel
    have VR := Lib.hid hV
    have RR := Lib.hid hR
    have KR := Lib.hid hK
    clear hV hK
    have m1 := (cell_of (KR.out.old L2.out (by simp)) 1).trans rfl
    by_cases hlt : k < nt
    · have hkt : k < l.threads.length := by have := HN.out.2; omega
      have hkp : k < ps.length := by rw [S3.out.1]; exact hkt
      obtain ⟨g, o, rfl, x0⟩ := (((S2.out.keep0 K1.out).keep0 K2.out).keep0 KR.out).at_ k hkp
      obtain ⟨a', c', he, s4⟩ := S3.out.2 k hkp hkt
      rw [he] at x0
      obtain ⟨p, hp⟩ : ∃ p, p = l.threads[k] := ⟨_, rfl⟩
      rw [← hp] at x0 s4
      have hpn : p.length ≤ 1000000000000 := by rw [hp]; exact HS.out.2.2 _ (List.getElem_mem hkt)
      obtain ⟨np, hnp⟩ : ∃ n, n = p.length := ⟨_, rfl⟩
      rw [← hnp] at x0 hpn
      have S4 := Lib.hid (((s4.keep0 K1.out).keep0 K2.out).keep0 KR.out)
      have htk : l.threads.take (k + 1) = l.threads.take k ++ [p] := by rw [List.take_succ_eq_append_getElem hkt, hp]
      have HTK := Lib.hid htk
      have HNP := Lib.hid hnp
      obtain ⟨va, vc, hf⟩ : ∃ a c, tv2 = .slice a qs.length c := by
        obtain ⟨a, c, e⟩ := hR.form
        exact ⟨a, c, by rw [e, hR.len]⟩
      subst hf
      have z1 := (cell_of VR.out 1).trans rfl
      have q1 := Lib.hid (show (flatI p).length = np * 8 by rw [flatI_length, ← hnp])
      have q2 := Lib.hid (flatI_one p)
      have hqn : qs.length ≤ 1000000000000 := by rw [hR.len, List.length_take]; omega
      have q3 := Lib.hid (show qs.length + 1 ≤ maxLen by unfold maxLen; omega)
      have q4 := Lib.hid (show (qs.length + 1) * 24 ≤ 140737488355328 by omega)
      have hsz : Hid (vb < wr.heap.size) := Lib.hid (lt_of VR.out)
      have hvo : Hid (some vb ≠ (Value.slice va qs.length vc).ownBlock) := Lib.hid (fun e => by have := (RR.out.row.lt vb e.symm).1; omega)
      have hvl : Hid (some lb ≠ (Value.slice va qs.length vc).ownBlock) := Lib.hid (fun e => by have := (RR.out.row.lt lb e.symm).1; omega)
      have zl : ∀ ob : Obj, (wr.alloc ob).drew.cell? ⟨lb, 1, none⟩ = some (.slice (some ⟨g, o, none⟩) nt c2) := fun ob => (((Keep.refl [] wr).alloc ob).drew.cell m1 (by simp)).trans rfl
      have zx : ∀ ob : Obj, (wr.alloc ob).drew.cell? ⟨g, o + k, none⟩ = some (.slice a' np c') := fun ob => (((Keep.refl [] wr).alloc ob).drew.cell x0 (by simp)).trans rfl
      have zv : ∀ ob : Obj, (wr.alloc ob).drew.cell? ⟨vb, 1, none⟩ = some (.slice va qs.length vc) := fun ob => (((Keep.refl [] wr).alloc ob).drew.cell z1 (by simp)).trans rfl
      clear hkt hkp he hp s4 hnp htk hR
      go_upto_block 1 with fail
      go_cut [4] (fun v4 wx => v4 = .int .i64 k ∧ ∃ (tv2 : Value) (qs : List Value), wx.heap[vb]? = some (.cells #[.slice ca nc cc, tv2] 25 (0, 0)) ∧ CopyRow wx (vb + 1) tv2 (l.threads.take (k + 1)) qs ∧ Keep [] w2 wx)
      case first =>
        go_wp2_with fail
        go_region_law
          (first
            | (refine step_copyE (w := wr.drew) (by rfl) _ _ _ (by rfl) 140 iI _ 8 64 Tryz.underlying93 HII.out HZI.out.1 HZI.out.2.1 HZI.out.2.2 rfl (by decide) (by rfl) (by rfl) a' np c' (flatI p) (by rfl) q1.out (S4.out.keep0 ((Keep.refl [] _).drew)) q2.out (by unfold maxLen; omega) (by omega) ?_; intro a7 c7 w7 hc7; have C7 := Lib.hid hc7; have y1 := hc7.keep.cell (show wr.drew.cell? ⟨vb, 1, none⟩ = _ from z1) (by simp); have y3 := hc7.keep.cell (show wr.drew.cell? ⟨lb, 1, none⟩ = _ from m1) (by simp); have y4 := hc7.keep.cell (show wr.drew.cell? ⟨g, o + k, none⟩ = _ from x0) (by simp); have R7 : Hid (w7.ownsRow (vb + 1) 93 1 (.slice va qs.length vc) qs.length qs) := Lib.hid (Har.owns_block RR.out.row fun x hx => hc7.keep.block x (RR.out.row.lt x hx).2 (by simp)); have N7 := Lib.hid (alloc_new w7 (.cells #[.slice a7 np c7] 93)); have V7 : Hid (w7.heap[vb]? = some (.cells #[.slice ca nc cc, .slice va qs.length vc] 25 (0, 0))) := Lib.hid (hc7.keep.old (show wr.drew.heap[vb]? = _ from VR.out) (by simp)); have y5 : ∀ ob : Obj, (w7.alloc ob).cell? ⟨vb, 1, none⟩ = some (.slice va qs.length vc) := fun ob => (cell_of (alloc_some ob V7.out) 1).trans rfl; have S7 := Lib.hid hc7.keep.size; clear hc7)
            | (refine step_append_lies _ (by rfl) _ _ _ (by rfl) (vb + 1) 93 iS _ 1 24 Tryz.underlying23 HIS.out HZS.out.1 HZS.out.2.1 HZS.out.2.2 rfl (by decide) (.slice va qs.length vc) qs.length qs (by rfl) (R7.out.alloc _) ⟨w7.heap.size, 0, none⟩ 1 1 [.slice a7 np c7] (by rfl) (by rfl) (World.news_of_block (cs := #[.slice a7 np c7]) (fr := (0, 0)) N7.out) (one_sl _ _ _) (by decide) q3.out q4.out (by have := S7.out; have := hsz.out; simp at *; omega) _ rfl ?_; intro g8 cap8 w8 hown8 hgrow8 hat8 hlt8; have V8 : Hid (w8.heap[vb]? = some (.cells #[.slice ca nc cc, .slice va qs.length vc] 25 (0, 0))) := Lib.hid ((hgrow8.block vb (by have := lt_of V7.out; simp; omega) hvo.out).trans (alloc_some _ V7.out)); have y8 := (cell_of V8.out 1).trans rfl; have y9 := free_of V8.out 1; have W8 := Lib.hid hown8; have G8 := Lib.hid hgrow8; have A8 := Lib.hid hat8; clear hown8 hgrow8 hat8 hlt8))
        all_goals
          have kx : Keep [] wr (w7.alloc (.cells #[.slice a7 np c7] 93)) := ((Keep.refl [] wr).drew.trans C7.out.keep).alloc _
          have KX := Lib.hid kx
          have hsn := RR.out.snoc kx HNP.out (C7.out.own.alloc _) (by have := hsz.out; omega) W8.out G8.out A8.out
          have HSN := Lib.hid hsn
          clear kx hsn y1 y3 y4 y5 zl zx zv z1 x0 m1
          go_wp2_with fail
          go_meet
          case rel =>
            refine ⟨rfl, .slice (some ⟨g8, 0, none⟩) (qs.length + 1) cap8, qs ++ [.slice a7 np c7], ?_, ?_, ?_⟩
            · rw [set_same V8.out]; rfl
            · rw [HTK.out]
              exact HSN.out.keep ((Keep.refl [vb] w8).set (.inl (by simp)) 1 _) (fun x hx => by simp at hx; omega)
            · refine ((KR.out.trans KX.out).chain (T := (Value.slice va qs.length vc).ownBlock.toList) ⟨G8.out.os, G8.out.tape, G8.out.output, G8.out.size, fun i hi hn => G8.out.block i hi fun e => hn (by rw [← e]; simp)⟩ fun x hx => .inr ?_).set (.inr (Nat.le_of_eq HV.out.symm)) 1 _
              have := (RR.out.row.lt x (by simpa using hx)).1
              have := HV.out
              omega
      case rest =>
        obtain ⟨rfl, tv3, qs3, h5, h6, h7⟩ := hcut
        have H5 := Lib.hid (And.intro h5 (And.intro h6 h7))
        clear h5 h6 h7 zl zx zv z1 x0 m1
        go_wp2_with fail
        go_roundw
        case rel => exact ⟨k + 1, tv3, qs3, by go_num, hlt, H5.out.1, H5.out.2.1, H5.out.2.2⟩
        case measure => simp [intOf]; omega
    · have hkn : k = nt := by omega
      obtain ⟨va, vc, hf⟩ : ∃ a c, tv2 = .slice a nt c := by
        obtain ⟨a, c, e⟩ := RR.out.form
        exact ⟨a, c, by rw [e, List.length_take, ← HN.out.2, hkn, Nat.min_self]⟩
      subst hf
      have htk : l.threads.take k = l.threads := List.take_of_length_le (by have := HN.out.2; omega)
      rw [htk] at RR hR
      have z0 := (cell_of VR.out 0).trans rfl
      have z1 := (cell_of VR.out 1).trans rfl
      have hcb := KR.out.old B2.out (by simp)
      have HCB := Lib.hid hcb
      have y0 := (cell_of hcb 0).trans rfl
      have y1 := (cell_of hcb 1).trans rfl
      have f0 := free_of hcb 0
      have f1 := free_of hcb 1
      have HCB2 := Lib.hid (show w.heap.size ≤ cb by rw [HB.out.2.1]; omega)
      have HCB3 := Lib.hid (show w2.heap.size ≤ vb by rw [HV.out]; exact Nat.le_refl _)
      have HCB4 := Lib.hid (show cb < w2.heap.size from lt_of B2.out)
      clear hkn htk hR hcb
      go_wp2_with fail
      have hrow := set_same (set_same HCB.out 0 (.slice ca nc cc)) 1 (.slice va nt vc)
      refine bodyPost_ret (results_cell_row rfl _ _ cb 25 _ (0, 0) _ rfl hrow Tryz.underlying25 rfl (by kernel_rfl)) rfl ?_
      refine ⟨_, _, rfl, ?_, (((K1.out.trans K2.out).trans KR.out).set (.inr HCB2.out) _ _).set (.inr HCB2.out) _ _⟩
      have k9 : Keep [cb] wr ((wr.setCell ⟨cb, 0, none⟩ (.slice ca nc cc)).setCell ⟨cb, 1, none⟩ (.slice va nt vc)) := ((Keep.refl [cb] wr).set (.inl (by simp)) _ _).set (.inl (by simp)) _ _
      have h9 : ((wr.setCell ⟨cb, 0, none⟩ (.slice ca nc cc)).setCell ⟨cb, 1, none⟩ (.slice va nt vc)).ownsRow w1.heap.size 75 1 (.slice ca nc cc) nc (l.cells.map (.int .u64)) :=
        Har.owns_block C2.out fun x hx => (k9.block x (Nat.lt_of_lt_of_le (C2.out.lt x hx).2 KR.out.size) (by simp; have := (C2.out.lt x hx).1; have := HB.out.2; omega)).trans (KR.out.block x (C2.out.lt x hx).2 (by simp))
      have h8 := (RR.out.keep k9 fun x hx => by simp at hx; have := HCB3.out; have := HCB4.out; omega).lit (l := l) (c := cc) (sees_of h9)
      rw [← HN.out.1] at h8
      exact h8
end Go.Proofs.YtdkdeiofjoccnaaGreat.Lit
