/- stratalaw03.lend: a program in memory of its own, marks in the room behind its lists. -/
import Derived.Test.YtdkdeiofjoccnaaGreatCopyLit
namespace Go.Proofs.YtdkdeiofjoccnaaGreat.Lit
open Go.RowKit Go.Proofs.YtdkdeiofjoccnaaGreat.Mem Go.Proofs.YtdkdeiofjoccnaaGreat.Ar Go.Proofs.YtdkdeiofjoccnaaGreat.Un
set_option linter.unusedVariables false
set_option maxRecDepth 100000

section
variable {P : Program}
/-- a copy behind an empty list that lies somewhere -/
theorem run_copyG (wa : World) (t ty e : TypeId) (i : TypeInfo) (z : Value) (size bytes : Nat) (ht : P.underlying t = some (.slice e)) (hi : P.info? e = some i) (hz : i.zero = some z)
    (hsize : i.size = size) (hby : i.bytes = bytes) (hzs : z.cells.size = size) (hsz : 0 < size) (base gE : Nat) (hb : base ≤ gE) (hE : wa.heap[gE]? = some (.cells #[] e (0, 0))) (a : Option Addr) (m c : Nat) (xs : List Value) (hl : xs.length = m * size) (hs : Sees wa a xs) (h1 : ∀ u ∈ xs, u.oneCell' = true) (h63 : m ≤ maxLen) (hbytes : m * bytes ≤ 140737488355328) :
    ∃ a' c' w', (Builtin.append_ #[t, t] ty #[.slice (some ⟨gE, 0, none⟩) 0 0, .slice a m c]).run P wa = .ok (.slice a' m c') w' ∧ w'.ownsRow base e size (.slice a' m c') m xs ∧ Keep [gE] wa w' := by
  have hlt : gE < wa.heap.size := lt_of hE
  have ho : wa.ownsRow base e size (.slice (some ⟨gE, 0, none⟩) 0 0) 0 [] :=
    ⟨by simp, .inr ⟨gE, 0, _, rfl, hb, hE, Nat.le_refl _, by unfold maxLen; omega, by simp, by simp⟩⟩
  by_cases hm : m = 0
  · subst hm
    have hx : xs = [] := List.eq_nil_of_length_eq_zero (by simpa using hl)
    subst hx
    refine ⟨some ⟨gE, 0, none⟩, 0, wa, ?_, ho, Keep.refl _ _⟩
    cases a with
    | none => simp [Builtin.append_, run_underlying ht, sizeOf, typeInfo, hi, Builtin.lenOf, Builtin.firstCells, loadCells, loadCellsFrom, storeCells]
    | some a => simp [Builtin.append_, run_underlying ht, sizeOf, typeInfo, hi, Builtin.lenOf, Builtin.firstCells, loadCells, loadCellsFrom, storeCells]
  · have hpos : 0 < xs.length := by rw [hl]; exact Nat.mul_pos (by omega) hsz
    obtain ⟨g, o, rfl, -⟩ := hs.at_ 0 hpos
    have hnews : ∀ j u, xs[j]? = some u → wa.cell? ((⟨g, o, none⟩ : Addr).add j) = some u := by
      intro j u hu
      obtain ⟨hj, rfl⟩ := List.getElem?_eq_some_iff.1 hu
      obtain ⟨g', o', e', cc⟩ := hs.at_ j hj
      simp only [Option.some.injEq, Addr.mk.injEq, and_true] at e'
      obtain ⟨rfl, rfl⟩ := e'
      have hadd : (⟨g, o, none⟩ : Addr).add j = ⟨g, o + j, none⟩ := by unfold Addr.add; split <;> simp_all
      rw [hadd, cc]
    obtain ⟨g', cap, w', hr, h2, h3, h4, h5⟩ := run_append_lies (P := P) wa t ty base e i z size bytes ht hi hz hsize hby hzs hsz (.slice (some ⟨gE, 0, none⟩) 0 0) 0 [] ho ⟨g, o, none⟩ m c xs hl hnews h1 (by omega) (by omega) (by rw [Nat.zero_add]; exact hbytes) (by omega) wa.heap.size rfl
    rw [Nat.zero_add] at hr h2
    rw [List.nil_append] at h2
    exact ⟨_, _, w', hr, h2, h3.os, h3.tape, h3.output, h3.size, fun k hk hn => h3.block k hk (by simp [Value.ownBlock] at hn ⊢; exact fun e => hn e)⟩

/-- at a step of a region that draws -/
theorem step_copyG {wa : World} {ops : Array Oper} {o : Oper} {act : Act} {K : Act → World → Prop} {Q : Exit → Act → World → Prop} {E : Prop} (hgd : o.guard = none) (x y : Operand) (t : TypeId)
    (ho : o.op = .call { callee := .builtin .append, args := #[x, y], argTypes := #[t, t] })
    (e : TypeId) (i : TypeInfo) (z : Value) (size bytes : Nat) (ht : P.underlying t = some (.slice e)) (hi : P.info? e = some i) (hz : i.zero = some z)
    (hsize : i.size = size) (hby : i.bytes = bytes) (hzs : z.cells.size = size) (hsz : 0 < size) (base gE : Nat) (hb : base ≤ gE) (hE : wa.heap[gE]? = some (.cells #[] e (0, 0))) (hx : act.eval x = .slice (some ⟨gE, 0, none⟩) 0 0) (a : Option Addr) (m c : Nat) (xs : List Value) (hy : act.eval y = .slice a m c) (hl : xs.length = m * size) (hs : Sees wa a xs) (h1 : ∀ u ∈ xs, u.oneCell' = true) (h63 : m ≤ maxLen) (hbytes : m * bytes ≤ 140737488355328)
    (hk : ∀ a' c' w', w'.ownsRow base e size (.slice a' m c') m xs → Keep [gE] wa w' → K (act.put o.dst (.slice a' m c')) w') :
    if Region.wanted o (yielded ops act.tmps) = true then Oper.wp P o act wa K Q else E := by
  have hw : Region.wanted o (yielded ops act.tmps) = true := by simp [Region.wanted, hgd]
  rw [if_pos hw]
  obtain ⟨a', c', w', hr, h2, h3⟩ := run_copyG (P := P) wa t o.type e i z size bytes ht hi hz hsize hby hzs hsz base gE hb hE a m c xs hl hs h1 h63 hbytes
  unfold Oper.wp execOp
  simp only [ho, resolve, invoke, builtin, Sem.run_bind, Sem.run_pure, Result.andThen_ok, List.map_toArray, List.map_cons, List.map_nil, hx, hy, hr]
  exact hk a' c' w' h2 h3
end

/-- the marks -/
def i77 : Ins := ⟨77, 0, 0, 0, 0, 0, 0, 0⟩
def i78 : Ins := ⟨78, 0, 0, 0, 0, 0, 0, 0⟩
def i79 : Ins := ⟨79, 0, 0, 0, 0, 0, 0, 0⟩
/-- slices over blocks, d longer than the lists -/
def rowS (d : Nat) : List (List Ins) → List (Nat × Nat) → List Value
  | p :: ls, b :: bs => .slice (some ⟨b.1, 0, none⟩) (p.length + d) b.2 :: rowS d ls bs
  | _, _ => []
theorem rowS_len (d : Nat) : ∀ (ls : List (List Ins)) (bs : List (Nat × Nat)), bs.length = ls.length → (rowS d ls bs).length = ls.length
  | [], [], _ => rfl
  | p :: ls, b :: bs, h => by simp [rowS, rowS_len d ls bs (by simpa using h)]
  | [], b :: bs, h => by simp at h
  | p :: ls, [], h => by simp at h
theorem rowS_at (d : Nat) : ∀ (ls : List (List Ins)) (bs : List (Nat × Nat)) (i : Nat) (h1 : i < ls.length) (h2 : i < bs.length), (rowS d ls bs)[i]? = some (.slice (some ⟨bs[i].1, 0, none⟩) (ls[i].length + d) bs[i].2)
  | p :: ls, b :: bs, 0, _, _ => rfl
  | p :: ls, b :: bs, i + 1, h1, h2 => by
    show (rowS d ls bs)[i]? = _
    rw [rowS_at d ls bs i (by simpa using h1) (by simpa using h2)]
    rfl
  | [], _, i, h1, _ => by simp at h1
  | _ :: _, [], i, _, h2 => by simp at h2
theorem rowS_snoc (d : Nat) : ∀ (ls : List (List Ins)) (bs : List (Nat × Nat)) (p : List Ins) (b : Nat × Nat), bs.length = ls.length → rowS d (ls ++ [p]) (bs ++ [b]) = rowS d ls bs ++ [.slice (some ⟨b.1, 0, none⟩) (p.length + d) b.2]
  | [], [], p, b, _ => rfl
  | q :: ls, c :: bs, p, b, h => by
    show _ :: rowS d (ls ++ [p]) (bs ++ [b]) = _ :: _
    rw [rowS_snoc d ls bs p b (by simpa using h)]
    rfl
  | [], b :: bs, _, _, h => by simp at h
  | p :: ls, [], _, _, h => by simp at h

/-- programs that are lent, one behind the other -/
structure LendRow (w : World) (base : Nat) (tv : Value) (ls : List (List Ins)) (bs : List (Nat × Nat)) : Prop where
  len : bs.length = ls.length
  row : w.ownsRow base 93 1 tv ls.length (rowS 2 ls bs)
  each : ∀ i (h1 : i < bs.length) (h2 : i < ls.length), w.ownsRow base 140 8 (.slice (some ⟨bs[i].1, 0, none⟩) (ls[i].length + 2) bs[i].2) (ls[i].length + 2) (flatI (ls[i] ++ [i77, i78]))
  nd : (bs.map Prod.fst).Nodup

theorem LendRow.zero (w : World) (base : Nat) : LendRow w base (.slice none 0 0) [] [] := ⟨rfl, World.ownsRow_nil _ _ _ _, fun i h => absurd h (Nat.not_lt_zero _), List.nodup_nil⟩
theorem LendRow.keep {w w' : World} {base : Nat} {tv : Value} {ls : List (List Ins)} {bs : List (Nat × Nat)} (h : LendRow w base tv ls bs) {T : List Nat} (k : Keep T w w') (hT : ∀ x ∈ T, x < base) : LendRow w' base tv ls bs := by
  have key : ∀ {e : TypeId} {size : Nat} {v : Value} {n : Nat} {xs : List Value}, w.ownsRow base e size v n xs → w'.ownsRow base e size v n xs := fun ho =>
    Har.owns_block ho fun g hg => k.block g (ho.lt g hg).2 fun hm => by have := hT g hm; have := (ho.lt g hg).1; omega
  exact ⟨h.len, key h.row, fun i h1 h2 => key (h.each i h1 h2), h.nd⟩
theorem LendRow.mono {w : World} {base base' : Nat} {tv : Value} {ls : List (List Ins)} {bs : List (Nat × Nat)} (h : LendRow w base tv ls bs) (hb : base' ≤ base) : LendRow w base' tv ls bs :=
  ⟨h.len, Pick.owns_mono h.row hb, fun i h1 h2 => Pick.owns_mono (h.each i h1 h2) hb, h.nd⟩
theorem LendRow.snoc {w wx w8 : World} {base : Nat} {tv : Value} {ls : List (List Ins)} {bs : List (Nat × Nat)} (h : LendRow w base tv ls bs) (k : Keep [] w wx) {g7 c7 : Nat} {p : List Ins}
    (h7 : wx.ownsRow w.heap.size 140 8 (.slice (some ⟨g7, 0, none⟩) (p.length + 2) c7) (p.length + 2) (flatI (p ++ [i77, i78]))) (hb : base ≤ w.heap.size) {g8 cap8 : Nat}
    (hown : w8.ownsRow base 93 1 (.slice (some ⟨g8, 0, none⟩) (ls.length + 1) cap8) (ls.length + 1) (rowS 2 ls bs ++ [.slice (some ⟨g7, 0, none⟩) (p.length + 2) c7]))
    (hg : wx.grownBy w8 tv.ownBlock) (hat : tv.ownBlock = some g8 ∨ g8 = wx.heap.size) : LendRow w8 base (.slice (some ⟨g8, 0, none⟩) (ls.length + 1) cap8) (ls ++ [p]) (bs ++ [(g7, c7)]) := by
  have hl := h.len
  have l7 := h7.lt g7 rfl
  have tvne : ∀ {e : TypeId} {size : Nat} {v : Value} {n : Nat} {xs : List Value}, e ≠ 93 → w.ownsRow base e size v n xs → ∀ g, v.ownBlock = some g → some g ≠ tv.ownBlock := by
    intro e size v n xs he ho g hg' e2
    rcases ho.2 with ⟨e1, -⟩ | ⟨g', cap, cur, e1, -, hgg, -⟩
    · rw [e1] at hg'; simp [Value.ownBlock] at hg'
    · rw [e1] at hg'
      obtain rfl : g' = g := by simpa [Value.ownBlock] using hg'
      rcases h.row.2 with ⟨e3, -⟩ | ⟨g3, cap3, cur3, e3, -, hg3, -⟩
      · rw [e3] at e2; simp [Value.ownBlock] at e2
      · rw [e3] at e2
        obtain rfl : g' = g3 := by simpa [Value.ownBlock] using e2
        rw [hgg] at hg3
        simp only [Option.some.injEq, Obj.cells.injEq] at hg3
        exact he hg3.2.1
  refine ⟨by simp [hl], ?_, fun i h1 h2 => ?_, ?_⟩
  · rw [rowS_snoc 2 ls bs p (g7, c7) hl, List.length_append, List.length_singleton]
    exact hown
  · by_cases hi : i < bs.length
    · have hi2 : i < ls.length := by omega
      have e := h.each i hi hi2
      simp only [List.getElem_append_left hi, List.getElem_append_left hi2]
      refine Har.owns_block e fun g hg' => ?_
      exact (hg.block g (Nat.lt_of_lt_of_le (e.lt g hg').2 k.size) (tvne (by decide) e g hg')).trans (k.block g (e.lt g hg').2 (by simp))
    · have hib : i = bs.length := by simp at h1; omega
      subst hib
      have e1 : (bs ++ [(g7, c7)])[bs.length]'h1 = (g7, c7) := by simp
      have e2 : (ls ++ [p])[bs.length]'h2 = p := by simp [hl]
      rw [e1, e2]
      refine Pick.owns_mono (Har.owns_block h7 fun g hg' => hg.block g (h7.lt g hg').2 fun e3 => ?_) hb
      have := (h7.lt g hg').1
      have := (h.row.lt g e3.symm).2
      omega
  · rw [List.map_append, List.nodup_append]
    refine ⟨h.nd, by simp, fun x hx y hy => ?_⟩
    simp only [List.map_cons, List.map_nil, List.mem_singleton] at hy
    obtain ⟨b, hb', rfl⟩ := List.mem_map.1 hx
    obtain ⟨i, hi, rfl⟩ := List.getElem_of_mem hb'
    have q : bs[i].1 < w.heap.size := ((h.each i hi (by omega)).lt _ rfl).2
    omega
end Go.Proofs.YtdkdeiofjoccnaaGreat.Lit
