/- strataref03.words, NewProgram: the walks (under way). -/
import Derived.Test.YtdkdeiofjoccnaaGreatRefSound
import Derived.Test.YtdkdeiofjoccnaaGreatCopyLit
import Derived.StillTailTactics
namespace Go.Proofs.YtdkdeiofjoccnaaGreat.Ref
open Go.RowKit Go.Proofs.YtdkdeiofjoccnaaGreat.Mem Go.Proofs.YtdkdeiofjoccnaaGreat.Ar Go.Proofs.YtdkdeiofjoccnaaGreat.Un Go.Proofs.YtdkdeiofjoccnaaGreat.Lit
set_option linter.unusedVariables false
set_option maxRecDepth 100000

theorem words {w : World} {a : Option Addr} {l : List Int} (hs : Sees w a (l.map (.int .u64))) (c : Nat) (hl : l.length ≤ 1000000000000) :
    Calls Tryz.prog 78 #[.slice a l.length c] w fun e w' => ∃ a' c', e = .returned (.slice a' l.length c') ∧ CopiedE w w' 75 1 a' l.length c' (l.map (.int .u64)) := by
  obtain ⟨n, hn⟩ : ∃ n, n = l.length := ⟨_, rfl⟩
  rw [← hn]
  rw [← hn] at hl
  have HS := Lib.hid hs
  have d1 := Lib.hid (show (l.map (Value.int .u64)).length = n * 1 by rw [List.length_map, Nat.mul_one, hn])
  have d2 := Lib.hid (one_nums l)
  obtain ⟨i0, hi0, hz0, hz1, hz2⟩ := info_parts infoW64
  have HI := Lib.hid hi0
  have HZ := Lib.hid (And.intro hz0 (And.intro hz1 hz2))
  clear hs hn hi0 hz0 hz1 hz2
  go_enter Tryz.func78, Tryz.ntmps78
  go_wp2_with (at_builtin; refine wpList_copyE (w := w) rfl _ _ 22 rfl 75 i0 _ 1 8 Tryz.underlying22 HI.out HZ.out.1 HZ.out.2.1 HZ.out.2.2 rfl (by decide) rfl rfl a n c (l.map (.int .u64)) rfl d1.out HS.out d2.out (by unfold maxLen; omega) (by omega) ?_)
  intro a' c' w' h'
  have H := Lib.hid h'
  clear h'
  go_wp2_with fail
  go_ret
  exact ⟨_, _, rfl, H.out⟩

theorem infoTh : (Tryz.prog.info? 132).map (fun i => (i.zero, i.size, i.bytes)) = some (some (.agg #[.slice none 0 0, .slice none 0 0, .int .i64 0]), 3, 56) := by kernel_rfl
/-- threads as they are made, one behind the other -/
structure PRow (w : World) (base : Nat) (tv : Value) (ls : List (List Ins)) (ss : List RSeat) : Prop where
  len : ss.length = ls.length
  row : w.ownsRow base 132 3 tv ls.length (rows ss (ls.map th0))
  regs : ∀ i (h : i < ss.length), w.heap[ss[i].rb]? = some (.cells #[.int .u64 0, .int .u64 0, .int .u64 0, .int .u64 0] 75 (0, 0)) ∧ base ≤ ss[i].rb
  progs : ∀ i (h : i < ss.length) (h2 : i < ls.length), ∃ a c, ss[i].pv = .slice a ls[i].length c ∧ w.ownsRow base 140 8 ss[i].pv ls[i].length (flatI ls[i])
  nd : (ss.map RSeat.rb).Nodup
  tvo : ∀ g, tv.ownBlock = some g → g ∉ ss.map RSeat.rb ∧ ∀ s ∈ ss, s.pv.ownBlock ≠ some g
  pvo : ∀ s ∈ ss, ∀ g, s.pv.ownBlock = some g → g ∉ ss.map RSeat.rb

theorem PRow.zero (w : World) (base : Nat) : PRow w base (.slice none 0 0) [] [] :=
  ⟨rfl, World.ownsRow_nil _ _ _ _, fun i h => absurd h (Nat.not_lt_zero _), fun i h => absurd h (Nat.not_lt_zero _), List.nodup_nil, fun g hg => by simp [Value.ownBlock] at hg, fun s hs => by simp at hs⟩
theorem PRow.keep {w w' : World} {base : Nat} {tv : Value} {ls : List (List Ins)} {ss : List RSeat} (h : PRow w base tv ls ss) {T : List Nat} (k : Keep T w w') (hT : ∀ x ∈ T, x < base) : PRow w' base tv ls ss := by
  have key : ∀ {e : TypeId} {size : Nat} {v : Value} {n : Nat} {xs : List Value}, w.ownsRow base e size v n xs → w'.ownsRow base e size v n xs := fun ho =>
    Har.owns_block ho fun g hg => k.block g (ho.lt g hg).2 fun hm => by have := hT g hm; have := (ho.lt g hg).1; omega
  refine ⟨h.len, key h.row, fun i hi => ⟨k.old (h.regs i hi).1 fun hm => by have := hT _ hm; have := (h.regs i hi).2; omega, (h.regs i hi).2⟩, fun i h1 h2 => ?_, h.nd, h.tvo, h.pvo⟩
  obtain ⟨a, c, e1, e2⟩ := h.progs i h1 h2
  exact ⟨a, c, e1, key e2⟩
theorem PRow.mono {w : World} {base base' : Nat} {tv : Value} {ls : List (List Ins)} {ss : List RSeat} (h : PRow w base tv ls ss) (hb : base' ≤ base) : PRow w base' tv ls ss :=
  ⟨h.len, owns_mono h.row hb, fun i hi => ⟨(h.regs i hi).1, Nat.le_trans hb (h.regs i hi).2⟩, fun i h1 h2 => let ⟨a, c, e1, e2⟩ := h.progs i h1 h2; ⟨a, c, e1, owns_mono e2 hb⟩, h.nd, h.tvo, h.pvo⟩
theorem rows_snoc : ∀ (ss : List RSeat) (ts : List Th) (s : RSeat) (t : Th), ss.length = ts.length → rows (ss ++ [s]) (ts ++ [t]) = rows ss ts ++ tCells s t
  | [], [], s, t, _ => by simp [rows]
  | a :: ss, b :: ts, s, t, h => by
    have := rows_snoc ss ts s t (by simpa using h)
    simp only [List.cons_append, rows, this, List.append_assoc]
  | [], _ :: _, _, _, h => by simp at h
  | _ :: _, [], _, _, h => by simp at h

theorem PRow.snoc {w wx w8 : World} {base : Nat} {tv : Value} {ls : List (List Ins)} {ss : List RSeat} (h : PRow w base tv ls ss) (k : Keep [] w wx) {a7 : Option Addr} {n7 c7 : Nat} {p : List Ins} (hn : n7 = p.length)
    (h7 : wx.ownsRow w.heap.size 140 8 (.slice a7 n7 c7) n7 (flatI p)) (hb : base ≤ w.heap.size) {rb : Nat} (hr : wx.heap[rb]? = some (.cells #[.int .u64 0, .int .u64 0, .int .u64 0, .int .u64 0] 75 (0, 0))) (hrb : w.heap.size ≤ rb)
    (hne : (Value.slice a7 n7 c7).ownBlock ≠ some rb) {g8 cap8 : Nat} (hown : w8.ownsRow base 132 3 (.slice (some ⟨g8, 0, none⟩) (ls.length + 1) cap8) (ls.length + 1) (rows ss (ls.map th0) ++ tCells ⟨.slice a7 n7 c7, rb⟩ (th0 p)))
    (hg : wx.grownBy w8 tv.ownBlock) (hat : tv.ownBlock = some g8 ∨ g8 = wx.heap.size) : PRow w8 base (.slice (some ⟨g8, 0, none⟩) (ls.length + 1) cap8) (ls ++ [p]) (ss ++ [⟨.slice a7 n7 c7, rb⟩]) := by
  subst hn
  have hlen := h.len
  have oldblk : ∀ x, x < w.heap.size → tv.ownBlock ≠ some x → w8.heap[x]? = w.heap[x]? := fun x hx hx2 => (hg.block x (Nat.lt_of_lt_of_le hx k.size) (fun e => hx2 e.symm)).trans (k.block x hx (by simp))
  have newblk : ∀ x, w.heap.size ≤ x → x < wx.heap.size → w8.heap[x]? = wx.heap[x]? := fun x hx hx2 => hg.block x hx2 fun e => by have := (h.row.lt x e.symm).2; omega
  have rblt : ∀ i (hi : i < ss.length), ss[i].rb < w.heap.size := fun i hi => lt_of (h.regs i hi).1
  have pvlt : ∀ s ∈ ss, ∀ g, s.pv.ownBlock = some g → g < w.heap.size := fun s hs g hgg => by
    obtain ⟨i, hi, rfl⟩ := List.getElem_of_mem hs
    obtain ⟨a, c, e1, e2⟩ := h.progs i hi (by omega)
    exact (e2.lt g hgg).2
  have rbmem : ∀ x ∈ ss.map RSeat.rb, x < w.heap.size := fun x hx => by
    obtain ⟨s, hs, rfl⟩ := List.mem_map.1 hx
    obtain ⟨i, hi, rfl⟩ := List.getElem_of_mem hs
    exact rblt i hi
  have hrlt : rb < wx.heap.size := lt_of hr
  have g8c : ∀ x, x < w.heap.size → g8 = x → tv.ownBlock = some x := fun x hx e => by
    rcases hat with h1 | h1
    · rw [h1, e]
    · have := k.size; omega
  have g8n : ∀ x, w.heap.size ≤ x → x < wx.heap.size → g8 ≠ x := fun x hx hx2 e => by
    rcases hat with h1 | h1
    · have := (h.row.lt g8 h1).2; omega
    · omega
  refine ⟨by simp [hlen], ?_, fun i hi => ?_, fun i h1 h2 => ?_, ?_, fun g hgg => ?_, fun s hs g hgg hm => ?_⟩
  · rw [List.map_append, List.map_singleton, rows_snoc _ _ _ _ (by simpa using hlen)]
    simpa using hown
  · by_cases hi2 : i < ss.length
    · rw [List.getElem_append_left hi2]
      obtain ⟨r1, r2⟩ := h.regs i hi2
      exact ⟨(oldblk _ (rblt i hi2) fun e => (h.tvo _ e).1 (List.mem_map.2 ⟨_, List.getElem_mem hi2, rfl⟩)).trans r1, r2⟩
    · have hi' : i = ss.length := by simp at hi; omega
      subst hi'
      have e0 : (ss ++ [(⟨.slice a7 p.length c7, rb⟩ : RSeat)])[ss.length] = ⟨.slice a7 p.length c7, rb⟩ := by simp
      rw [e0]
      exact ⟨(newblk rb hrb hrlt).trans hr, by show base ≤ rb; omega⟩
  · by_cases hi2 : i < ss.length
    · have hi3 : i < ls.length := by omega
      rw [List.getElem_append_left hi2, List.getElem_append_left hi3]
      obtain ⟨a, c, e1, e2⟩ := h.progs i hi2 hi3
      refine ⟨a, c, e1, Har.owns_block e2 fun g hgg => oldblk g (e2.lt g hgg).2 fun e => (h.tvo g e).2 _ (List.getElem_mem hi2) hgg⟩
    · have hi' : i = ss.length := by simp at h1; omega
      subst hi'
      have e0 : (ss ++ [(⟨.slice a7 p.length c7, rb⟩ : RSeat)])[ss.length] = ⟨.slice a7 p.length c7, rb⟩ := by simp
      have e1 : (ls ++ [p])[ss.length]'h2 = p := by simp [hlen]
      simp only [e0, e1]
      refine ⟨a7, c7, rfl, owns_mono (Har.owns_block (w' := w8) h7 fun g hgg => newblk g (h7.lt g hgg).1 (h7.lt g hgg).2) hb⟩
  · rw [List.map_append, List.nodup_append]
    refine ⟨h.nd, by simp, fun x hx y hy => ?_⟩
    have := rbmem x hx
    simp at hy
    omega
  · have e : g8 = g := by simpa [Value.ownBlock] using hgg
    subst e
    refine ⟨fun hm => ?_, fun s hs hx => ?_⟩
    · rw [List.map_append] at hm
      rcases List.mem_append.1 hm with hm | hm
      · exact (h.tvo g8 (g8c g8 (rbmem g8 hm) rfl)).1 hm
      · exact g8n rb hrb hrlt (by simpa using hm)
    · rcases List.mem_append.1 hs with hs | hs
      · exact (h.tvo g8 (g8c g8 (pvlt s hs g8 hx) rfl)).2 s hs hx
      · have : s = ⟨.slice a7 p.length c7, rb⟩ := by simpa using hs
        subst this
        exact g8n g8 (h7.lt g8 hx).1 (h7.lt g8 hx).2 rfl
  · rw [List.map_append] at hm
    rcases List.mem_append.1 hs with hs | hs
    · have hlt := pvlt s hs g hgg
      rcases List.mem_append.1 hm with hm | hm
      · exact h.pvo s hs g hgg hm
      · have : g = rb := by simpa using hm
        omega
    · have e : s = ⟨.slice a7 p.length c7, rb⟩ := by simpa using hs
      subst e
      have hge := (h7.lt g hgg).1
      rcases List.mem_append.1 hm with hm | hm
      · have := rbmem g hm; omega
      · have : g = rb := by simpa using hm
        exact hne (by rw [← this]; exact hgg)

/-- what a program is, once it lies in a block -/
theorem PRow.prog {w : World} {base pb cb cc : Nat} {tg tc : Nat} {l : LP} {ss : List RSeat} (h : PRow w base (.slice (some ⟨tg, 0, none⟩) l.threads.length tc) l.threads ss) (hso : soundB l = true)
    (hc : w.ownsRow base 75 1 (.slice (some ⟨cb, 0, none⟩) l.cells.length cc) l.cells.length (l.cells.map (.int .u64))) (hcb : cb ≠ tg ∧ cb ∉ ss.map RSeat.rb ∧ ∀ s ∈ ss, s.pv.ownBlock ≠ some cb)
    (hp : pb ≠ cb ∧ pb ≠ tg ∧ pb ∉ ss.map RSeat.rb)
    (c0 : w.cell? ⟨pb, 0, none⟩ = some (.slice (some ⟨cb, 0, none⟩) l.cells.length cc)) (c1 : w.cell? ⟨pb, 1, none⟩ = some (.slice (some ⟨tg, 0, none⟩) l.threads.length tc)) :
    PAt w pb ⟨cb, cc, tg, tc, ss⟩ ⟨l.cells, l.threads.map th0⟩ := by
  have hb := hso
  simp only [soundB, betB, Bool.and_eq_true, decide_eq_true_eq] at hb
  have tvo := h.tvo tg rfl
  refine ⟨c0, by simpa using c1, owns_mono hc (Nat.zero_le _), by simpa using h.len, ?_, fun i h1 h2 => ?_, fun i h1 h2 => ?_, ?_, ⟨?_, fun s hs g hg => ?_⟩, fun t ht => ?_, by simp; omega⟩
  · have := owns_mono h.row (Nat.zero_le base)
    simpa using this
  · have := (h.regs i h1).1
    refine ⟨by rw [this]; simp [th0], by simp [th0]⟩
  · have h3 : i < l.threads.length := by simpa using h2
    obtain ⟨a, c, e1, e2⟩ := h.progs i h1 h3
    refine ⟨a, c, by simpa [th0] using e1, ?_⟩
    have := owns_mono e2 (Nat.zero_le base)
    simpa [th0] using this
  · refine List.nodup_cons.2 ⟨?_, List.nodup_cons.2 ⟨tvo.1, h.nd⟩⟩
    intro hm
    rcases List.mem_cons.1 hm with e | hm
    · exact hcb.1 e
    · exact hcb.2.1 hm
  · intro hm
    rcases List.mem_cons.1 hm with e | hm
    · exact hp.1 e
    rcases List.mem_cons.1 hm with e | hm
    · exact hp.2.1 e
    · exact hp.2.2 hm
  · intro hm
    rcases List.mem_cons.1 hm with e | hm
    · exact hcb.2.2 s hs (hg.trans (congrArg some e))
    rcases List.mem_cons.1 hm with e | hm
    · exact tvo.2 s hs (hg.trans (congrArg some e))
    · exact h.pvo s hs g hg hm
  · obtain ⟨p, hpm, rfl⟩ := List.mem_map.1 ht
    have hall := sound_all hso p hpm
    have hlen := sound_len hso p hpm
    exact ⟨fun x hx => hall.2 x hx, Nat.zero_le _, hlen⟩

set_option maxHeartbeats 4000000 in
theorem newProgram (l : LP) (hs : l.cells.length ≤ 1000000000000 ∧ l.threads.length ≤ 1000000000000 ∧ ∀ p ∈ l.threads, p.length ≤ 1000000000000) {cv tv : Value} (w : World) (h : LitAt w cv tv l) :
    Calls Tryz.prog 29 #[.agg #[cv, tv]] w fun e w' => ∃ ca cc tv' ss, e = .returned (.agg #[.slice ca l.cells.length cc, tv']) ∧ w'.ownsRow w.heap.size 75 1 (.slice ca l.cells.length cc) l.cells.length (l.cells.map (.int .u64)) ∧
      PRow w' w.heap.size tv' l.threads ss ∧ (∀ g, (Value.slice ca l.cells.length cc).ownBlock = some g → tv'.ownBlock ≠ some g ∧ g ∉ ss.map RSeat.rb ∧ ∀ s ∈ ss, s.pv.ownBlock ≠ some g) ∧ Keep [] w w' := by
  obtain ⟨⟨a, c, rfl, s⟩, ⟨a2, c2, ps, rfl, e3, s2, s3⟩⟩ := h
  obtain ⟨nc, hnc⟩ : ∃ n, n = l.cells.length := ⟨_, rfl⟩
  obtain ⟨nt, hnt⟩ : ∃ n, n = l.threads.length := ⟨_, rfl⟩
  have HN := Lib.hid (And.intro hnc hnt)
  have HS := Lib.hid hs
  have SC := Lib.hid s
  have S2 := Lib.hid s2
  have S3 := Lib.hid (And.intro e3 s3)
  rw [← hnc, ← hnt]
  have hnt12 : nt ≤ 1000000000000 := by rw [hnt]; exact hs.2.1
  obtain ⟨w1, hw1⟩ : ∃ w1, w1 = (w.alloc (.cells #[.slice a nc c, .slice a2 nt c2] 25)).alloc (.cells #[.slice none 0 0, .slice none 0 0] 45) := ⟨_, rfl⟩
  have W1 := Lib.hid hw1
  have K1 := Lib.hid (show Keep [] w w1 by rw [hw1]; exact ((Keep.refl _ _).alloc _).alloc _)
  clear hs s s2 e3 s3 hnc hnt hw1
  go_enter Tryz.func29, Tryz.ntmps29
  go_wp2_with fail
  rw [← W1.out]
  have HW := Lib.hid (words (SC.out.keep0 K1.out) c HS.out.1)
  rw [← HN.out.1] at HW
  refine HW.out.mono ?_
  rintro e w2 ⟨ca, cc, rfl, hc⟩
  have C2 := Lib.hid hc.own
  have K2 := Lib.hid hc.keep
  clear hc
  obtain ⟨lb, hlb⟩ : ∃ lb, lb = w.heap.size := ⟨_, rfl⟩
  obtain ⟨cb, hcb⟩ : ∃ cb, cb = w.heap.size + 1 := ⟨_, rfl⟩
  have e0 : w1.heap.size = w.heap.size + 2 := by rw [W1.out]; simp
  have L2 := Lib.hid (K2.out.old (show w1.heap[lb]? = some (.cells #[.slice a nc c, .slice a2 nt c2] 25 (0, 0)) by rw [W1.out, hlb]; exact alloc_some _ (alloc_new w _)) (by simp))
  have B2 := Lib.hid (K2.out.old (show w1.heap[cb]? = some (.cells #[.slice none 0 0, .slice none 0 0] 45 (0, 0)) by
    rw [W1.out, hcb]
    have := alloc_new (w.alloc (.cells #[.slice a nc c, .slice a2 nt c2] 25)) (.cells #[.slice none 0 0, .slice none 0 0] 45)
    rw [World.size_alloc] at this
    exact this) (by simp))
  rw [← hcb, ← hlb]
  have HB := Lib.hid (And.intro hlb (And.intro hcb e0))
  clear hlb hcb e0
  go_wp2_with fail
  obtain ⟨vb, hvb⟩ : ∃ vb, vb = w2.heap.size := ⟨_, rfl⟩
  obtain ⟨w3, hw3⟩ : ∃ w3, w3 = w2.alloc (.cells #[.slice ca nc cc, .slice none 0 0] 45) := ⟨_, rfl⟩
  have K3 := Lib.hid (show Keep [] w2 w3 by rw [hw3]; exact (Keep.refl _ _).alloc _)
  have V3 := Lib.hid (show w3.heap[vb]? = some (.cells #[.slice ca nc cc, .slice none 0 0] 45 (0, 0)) by rw [hw3, hvb]; exact alloc_new _ _)
  rw [← hw3, ← hvb]
  have HV := Lib.hid hvb
  have hlvb : lb < vb := by rw [hvb]; exact lt_of L2.out
  clear hw3 hvb
  obtain ⟨iT, hiT, hzT0, hzT1, hzT2⟩ := info_parts infoTh
  have HIT := Lib.hid hiT
  have HZT := Lib.hid (And.intro hzT0 (And.intro hzT1 hzT2))
  obtain ⟨iI, hiI, hzI0, hzI1, hzI2⟩ := info_parts infoInstr
  have HII := Lib.hid hiI
  have HZI := Lib.hid (And.intro hzI0 (And.intro hzI1 hzI2))
  have mk : ∀ w : World, (Instr.makeSlice 22 (.int .i64 4) (.int .i64 4)).run Tryz.prog w = .ok (.slice (some ⟨w.heap.size, 0, none⟩) 4 4) (w.alloc (.cells #[.int .u64 0, .int .u64 0, .int .u64 0, .int .u64 0] 75)) := fun w => by
    have h := Har.make_row 22 75 _ (.int .u64 0) 8 Tryz.underlying22 infoW64 rfl 4 (by omega) (by omega) w
    rw [Har.made_list] at h
    exact h
  clear hiT hzT0 hzT1 hzT2 hiI hzI0 hzI1 hzI2
  go_loopw [4] (fun i wr => ∃ (k : Nat) (tv2 : Value) (ss : List RSeat), i = .int .i64 k ∧ k ≤ nt ∧ wr.heap[vb]? = some (.cells #[.slice ca nc cc, tv2] 45 (0, 0)) ∧ PRow wr (vb + 1) tv2 (l.threads.take k) ss ∧ Keep [] w2 wr) (fun i _ => nt - (intOf i).toNat)
  case atStart => exact ⟨0, _, [], rfl, Nat.zero_le _, V3.out, PRow.zero _ _, K3.out⟩
  case round =>
    obtain ⟨k, tv2, ss, rfl, hk, hV, hR, hK⟩ := hrel
    have VR := Lib.hid hV
    have RR := Lib.hid hR
    have KR := Lib.hid hK
    clear hV hK
    have m1 := (cell_of (KR.out.old L2.out (by simp)) 1).trans rfl
    by_cases hlt : k < nt
    · have hkt : k < l.threads.length := by have := HN.out.2; omega
      have hkp : k < ps.length := by rw [S3.out.1]; exact hkt
      obtain ⟨g, o, rfl, x0⟩ := (((S2.out.keep0 K1.out).keep0 K2.out).keep0 KR.out).at_ k hkp
      obtain ⟨a', c', he, s4⟩ := S3.out.2 k hkp hkt
      rw [he] at x0
      obtain ⟨p, hp⟩ : ∃ p, p = l.threads[k] := ⟨_, rfl⟩
      rw [← hp] at x0 s4
      have hpn : p.length ≤ 1000000000000 := by rw [hp]; exact HS.out.2.2 _ (List.getElem_mem hkt)
      obtain ⟨np, hnp⟩ : ∃ n, n = p.length := ⟨_, rfl⟩
      rw [← hnp] at x0 hpn
      have S4 := Lib.hid (((s4.keep0 K1.out).keep0 K2.out).keep0 KR.out)
      have htk : l.threads.take (k + 1) = l.threads.take k ++ [p] := by rw [List.take_succ_eq_append_getElem hkt, hp]
      have HTK := Lib.hid htk
      have HNP := Lib.hid hnp
      obtain ⟨ln, hln⟩ : ∃ x, x = (l.threads.take k).length := ⟨_, rfl⟩
      have HLN := Lib.hid hln
      have hlk : ln ≤ 1000000000000 := by rw [hln, List.length_take]; omega
      obtain ⟨va, vc, hf⟩ : ∃ a c, tv2 = .slice a ln c := by
        rcases hR.row.2 with ⟨e, h0⟩ | ⟨g', cap', cur', e', -⟩
        · exact ⟨none, 0, by rw [e, hln, h0]⟩
        · exact ⟨_, _, by rw [e', hln]⟩
      subst hf
      have q1 := Lib.hid (show (flatI p).length = np * 8 by rw [flatI_length, ← hnp])
      have q2 := Lib.hid (flatI_one p)
      have q3 := Lib.hid (show ln + 1 ≤ maxLen by unfold maxLen; omega)
      have q4 := Lib.hid (show (ln + 1) * 56 ≤ 140737488355328 by omega)
      clear hkt hkp he hp s4 hnp htk hR hln
      go_upto_block 1 with fail
      go_cut [4] (fun v4 wx => v4 = .int .i64 k ∧ ∃ (tv2 : Value) (ss : List RSeat), wx.heap[vb]? = some (.cells #[.slice ca nc cc, tv2] 45 (0, 0)) ∧ PRow wx (vb + 1) tv2 (l.threads.take (k + 1)) ss ∧ Keep [] w2 wx)
      case first =>
        have zl : ∀ ob : Obj, (wr.alloc ob).cell? ⟨lb, 1, none⟩ = some (.slice (some ⟨g, o, none⟩) nt c2) := fun ob => (((Keep.refl [] wr).alloc ob).cell m1 (by simp)).trans rfl
        have zx : ∀ ob : Obj, (wr.alloc ob).cell? ⟨g, o + k, none⟩ = some (.slice a' np c') := fun ob => (((Keep.refl [] wr).alloc ob).cell x0 (by simp)).trans rfl
        go_wp2_with (at_builtin; refine wpList_copyE (w := wr) rfl _ _ 93 rfl 140 iI _ 8 64 Tryz.underlying93 HII.out HZI.out.1 HZI.out.2.1 HZI.out.2.2 rfl (by decide) rfl rfl a' np c' (flatI p) rfl q1.out S4.out q2.out (by unfold maxLen; omega) (by omega) ?_)
        intro a7 c7 w7 hc7
        have C7 := Lib.hid hc7
        have V7 := Lib.hid (hc7.keep.old VR.out (by simp))
        clear hc7 zl zx m1 x0
        have y1 : w7.cell? ⟨vb, 1, none⟩ = some (.slice va ln vc) := (cell_of V7.out 1).trans rfl
        have y2 : ∀ ob : Obj, (w7.alloc ob).drew.cell? ⟨vb, 1, none⟩ = some (.slice va ln vc) := fun ob => (cell_of (show (w7.alloc ob).drew.heap[vb]? = _ from alloc_some ob V7.out) 1).trans rfl
        go_wp2_with fail
        have y3 : w7.drew.cell? ⟨vb, 1, none⟩ = some (.slice va ln vc) := y1
        have y4 : ∀ ob : Obj, (w7.drew.alloc ob).cell? ⟨vb, 1, none⟩ = some (.slice va ln vc) := y2
        have y5 : ∀ ob ob2 : Obj, ((w7.drew.alloc ob).alloc ob2).cell? ⟨vb, 1, none⟩ = some (.slice va ln vc) := fun ob ob2 => (cell_of (show ((w7.drew.alloc ob).alloc ob2).heap[vb]? = _ from alloc_some ob2 (alloc_some ob V7.out)) 1).trans rfl
        have y6 : ∀ ob ob2 : Obj, ((w7.alloc ob).drew.alloc ob2).cell? ⟨vb, 1, none⟩ = some (.slice va ln vc) := y5
        have y7 : ∀ ob ob2 : Obj, ((w7.alloc ob).alloc ob2).drew.cell? ⟨vb, 1, none⟩ = some (.slice va ln vc) := y5
        have R7 : Hid (w7.ownsRow (vb + 1) 132 3 (.slice va ln vc) ln (rows ss ((l.threads.take k).map th0))) := Lib.hid (by
          rw [HLN.out]
          have h := RR.out.row
          rw [← HLN.out] at h ⊢
          exact Har.owns_block h fun x hx => C7.out.keep.block x (h.lt x hx).2 (by simp))
        obtain ⟨rb, hrb⟩ : ∃ x, x = w7.heap.size := ⟨_, rfl⟩
        obtain ⟨wy, hwy⟩ : ∃ wy, wy = ((w7.alloc (.cells #[.int .u64 0, .int .u64 0, .int .u64 0, .int .u64 0] 75)).alloc (.cells #[.slice a7 np c7, .slice (some ⟨w7.heap.size, 0, none⟩) 4 4, .int .i64 0] 132)).drew := ⟨_, rfl⟩
        have N7 := Lib.hid (show wy.heap[w7.heap.size + 1]? = some (.cells #[.slice a7 np c7, .slice (some ⟨w7.heap.size, 0, none⟩) 4 4, .int .i64 0] 132 (0, 0)) by
          rw [hwy]
          have := alloc_new (w7.alloc (.cells #[.int .u64 0, .int .u64 0, .int .u64 0, .int .u64 0] 75)) (.cells #[.slice a7 np c7, .slice (some ⟨w7.heap.size, 0, none⟩) 4 4, .int .i64 0] 132)
          rw [World.size_alloc] at this
          exact this)
        have RG7 := Lib.hid (show wy.heap[w7.heap.size]? = some (.cells #[.int .u64 0, .int .u64 0, .int .u64 0, .int .u64 0] 75 (0, 0)) by rw [hwy]; exact alloc_some _ (alloc_new w7 _))
        have KY := Lib.hid (show Keep [] w7 wy by rw [hwy]; exact (((Keep.refl _ _).alloc _).alloc _).drew)
        have SY := Lib.hid (show wy.heap.size = w7.heap.size + 2 by rw [hwy]; show ((w7.alloc _).alloc _).heap.size = _; simp)
        have R9 : Hid (wy.ownsRow (vb + 1) 132 3 (.slice va ln vc) ln (rows ss ((l.threads.take k).map th0))) := Lib.hid (Har.owns_block R7.out fun x hx => KY.out.block x (R7.out.lt x hx).2 (by simp))
        have HWY := Lib.hid hwy
        have hvo : Hid (some vb ≠ (Value.slice va ln vc).ownBlock) := Lib.hid (fun e => by have := (R7.out.lt vb e.symm).1; omega)
        have VY := Lib.hid (KY.out.old V7.out (by simp))
        have q5 := Lib.hid (show vb + 1 ≤ wy.heap.size by have := lt_of VY.out; omega)
        have tl : ∀ u ∈ [Value.slice a7 np c7, .slice (some ⟨w7.heap.size, 0, none⟩) 4 4, .int .i64 0], u.oneCell' = true := by simp [Value.oneCell']
        have TL := Lib.hid tl
        have r9 := R9.out
        have n9 := N7.out
        have q9 := q5.out
        rw [HWY.out] at r9 n9 q9
        have R9x := Lib.hid r9
        have N9x := Lib.hid n9
        have Q9x := Lib.hid q9
        clear hrb hwy tl r9 n9 q9
        go_region_law
          (first
            | (refine step_append_lies _ (by rfl) _ _ _ (by rfl) (vb + 1) 132 iT _ 3 56 Tryz.underlying43 HIT.out HZT.out.1 HZT.out.2.1 HZT.out.2.2 rfl (by decide) (.slice va ln vc) ln (rows ss ((l.threads.take k).map th0)) (by rfl) R9x.out ⟨w7.heap.size + 1, 0, none⟩ 1 1 [.slice a7 np c7, .slice (some ⟨w7.heap.size, 0, none⟩) 4 4, .int .i64 0] (by rfl) (by rfl) (World.news_of_block (fr := (0, 0)) N9x.out) TL.out (by decide) q3.out q4.out Q9x.out _ rfl ?_; intro g8 cap8 w8 hown8 hgrow8 hat8 hlt8; rw [← HWY.out] at hgrow8 hat8; have V8 := Lib.hid ((hgrow8.block vb (lt_of VY.out) hvo.out).trans VY.out); have y8 := (cell_of V8.out 1).trans rfl; have y9 := free_of V8.out 1; have W8 := Lib.hid hown8; have G8 := Lib.hid hgrow8; have A8 := Lib.hid hat8; clear hown8 hgrow8 hat8 hlt8))
        all_goals
          have hsn := (RR.out.snoc (C7.out.keep.trans KY.out) HNP.out (Har.owns_block C7.out.own fun x hx => KY.out.block x (C7.out.own.lt x hx).2 (by simp)) (by have := lt_of VR.out; omega) RG7.out C7.out.keep.size (fun e => by have := (C7.out.own.lt _ e).2; omega) (by rw [← HLN.out]; exact W8.out) G8.out A8.out)
          rw [← HLN.out] at hsn
          have HSN := Lib.hid hsn
          clear hsn y1 y2 y3 y4 y5 y6 y7
          go_wp2_with fail
          go_meet
          case rel =>
            refine ⟨rfl, .slice (some ⟨g8, 0, none⟩) (ln + 1) cap8, ss ++ [⟨.slice a7 np c7, w7.heap.size⟩], ?_, ?_, ?_⟩
            · rw [set_same V8.out]; rfl
            · rw [HTK.out]
              exact HSN.out.keep ((Keep.refl [vb] w8).set (.inl (by simp)) 1 _) (fun x hx => by simp at hx; omega)
            · refine ((KR.out.trans (C7.out.keep.trans KY.out)).chain (T := (Value.slice va ln vc).ownBlock.toList) ⟨G8.out.os, G8.out.tape, G8.out.output, G8.out.size, fun i hi hn => G8.out.block i hi fun e => hn (by rw [← e]; simp)⟩ fun x hx => .inr ?_).set (.inr (Nat.le_of_eq HV.out.symm)) 1 _
              have := (R7.out.lt x (by simpa using hx)).1
              have := HV.out
              omega
      case rest =>
        obtain ⟨rfl, tv3, ss3, h5, h6, h7⟩ := hcut
        have H5 := Lib.hid (And.intro h5 (And.intro h6 h7))
        clear h5 h6 h7 x0 m1
        go_wp2_with fail
        go_roundw
        case rel => exact ⟨k + 1, tv3, ss3, by go_num, hlt, H5.out.1, H5.out.2.1, H5.out.2.2⟩
        case measure => simp [intOf]; omega
    · have hkn : k = nt := by omega
      have htk : l.threads.take k = l.threads := List.take_of_length_le (by have := HN.out.2; omega)
      obtain ⟨va, vc, hf⟩ : ∃ a c, tv2 = .slice a nt c := by
        rcases hR.row.2 with ⟨e, h0⟩ | ⟨g', cap', cur', e', -⟩
        · rw [htk, ← HN.out.2] at h0
          exact ⟨none, 0, by rw [e, h0]⟩
        · rw [htk, ← HN.out.2] at e'
          exact ⟨_, _, e'⟩
      subst hf
      rw [htk] at RR hR
      have z0 := (cell_of VR.out 0).trans rfl
      have z1 := (cell_of VR.out 1).trans rfl
      have hcb := KR.out.old B2.out (by simp)
      have HCB := Lib.hid hcb
      have y0 := (cell_of hcb 0).trans rfl
      have y1 := (cell_of hcb 1).trans rfl
      have f0 := free_of hcb 0
      have f1 := free_of hcb 1
      have HCB2 := Lib.hid (show w.heap.size ≤ cb by rw [HB.out.2.1]; omega)
      have HCB3 := Lib.hid (show w2.heap.size ≤ vb by rw [HV.out]; exact Nat.le_refl _)
      have HCB4 := Lib.hid (show cb < w2.heap.size from lt_of B2.out)
      clear hkn htk hR hcb
      go_wp2_with fail
      have hrow := set_same (set_same HCB.out 0 (.slice ca nc cc)) 1 (.slice va nt vc)
      refine bodyPost_ret (results_cell_row rfl _ _ cb 45 _ (0, 0) _ rfl hrow Tryz.underlying45 rfl (by kernel_rfl)) rfl ?_
      have k9 : Keep [cb] wr ((wr.setCell ⟨cb, 0, none⟩ (.slice ca nc cc)).setCell ⟨cb, 1, none⟩ (.slice va nt vc)) := ((Keep.refl [cb] wr).set (.inl (by simp)) _ _).set (.inl (by simp)) _ _
      have h9 : ((wr.setCell ⟨cb, 0, none⟩ (.slice ca nc cc)).setCell ⟨cb, 1, none⟩ (.slice va nt vc)).ownsRow w1.heap.size 75 1 (.slice ca nc cc) nc (l.cells.map (.int .u64)) :=
        Har.owns_block C2.out fun x hx => (k9.block x (Nat.lt_of_lt_of_le (C2.out.lt x hx).2 KR.out.size) (by simp; have := (C2.out.lt x hx).1; have := HB.out.2; omega)).trans (KR.out.block x (C2.out.lt x hx).2 (by simp))
      have h8 := RR.out.keep k9 fun x hx => by simp at hx; have := HCB3.out; have := HCB4.out; omega
      have hlo : w.heap.size ≤ w1.heap.size := K1.out.size
      refine ⟨ca, cc, _, ss, rfl, owns_mono h9 hlo, h8.mono (by have := HCB3.out; have := HCB4.out; have := HCB2.out; omega), fun g hg => ?_, (((K1.out.trans K2.out).trans KR.out).set (.inr HCB2.out) _ _).set (.inr HCB2.out) _ _⟩
      have hlt2 : g < vb + 1 := by have := (C2.out.lt g hg).2; have := HCB3.out; omega
      exact ⟨fun e => by have := (h8.row.lt g e).1; omega, fun hm => by
        obtain ⟨s, hs, rfl⟩ := List.mem_map.1 hm
        obtain ⟨i, hi, rfl⟩ := List.getElem_of_mem hs
        have := (h8.regs i hi).2; omega, fun s hs e => by
        obtain ⟨i, hi, rfl⟩ := List.getElem_of_mem hs
        obtain ⟨a, c, e1, e2⟩ := h8.progs i hi (by rw [← h8.len]; exact hi)
        have := (e2.lt g e).1; omega⟩
end Go.Proofs.YtdkdeiofjoccnaaGreat.Ref
