/- strataref03: Lay. -/
import Derived.Test.YtdkdeiofjoccnaaGreatRefSub
import Derived.Test.YtdkdeiofjoccnaaGreatRefNewP
import Derived.Test.YtdkdeiofjoccnaaGreatRefSound
import Derived.Test.YtdkdeiofjoccnaaGreatRefDec
import Derived.Test.YtdkdeiofjoccnaaGreatRunA
namespace Go.Proofs.YtdkdeiofjoccnaaGreat.Ref
open Go.RowKit Go.Proofs.YtdkdeiofjoccnaaGreat.Mem Go.Proofs.YtdkdeiofjoccnaaGreat.Ar Go.Proofs.YtdkdeiofjoccnaaGreat.Un Go.Proofs.YtdkdeiofjoccnaaGreat.Lit
open Go.Proofs.YtdkdeiofjoccnaaGreat.Har (Job Ev evs Apart pend pend_of dueQ due_put)
set_option linter.unusedVariables false
set_option maxRecDepth 100000

section
variable {w0 w w' : World} {F : List Nat} {b pb bq : Nat} {vs : List Value} {ve vd : Value} {B : RB} {H : Har.Har} {S : RP}

theorem RSince.rebase (h : RSince w0 F w b pb bq vs ve vd B H S) : RSince w (Har.blocks b bq (ve :: vd :: vs)) w b pb bq vs ve vd B H S :=
  ⟨h.at_, h.prog, h.apart, h.ok, h.few, fun x hx => .inl hx, Keep.refl _ _⟩

/-- from a later world on, anew: only F1 and the program's blocks may be turned from there on, all of them elder -/
theorem RS.rebase {w1 : World} (h : RS w0 F w b pb B H S) (k : Keep [] w w1) : ∃ F1, RS w1 F1 w1 b pb B H S ∧ pb ∉ F1 ++ B.mem ∧ (∀ x ∈ F1 ++ B.mem, x < w.heap.size) ∧ (∀ x ∈ F1, x ∈ F ∨ w0.heap.size ≤ x) ∧ (∀ w' H' S', RS w1 F1 w' b pb B H' S' → RS w0 F w' b pb B H' S') := by
  have h1 := h.keep0 k
  obtain ⟨⟨bq, vs, ve, vd, h⟩, hf⟩ := h
  refine ⟨Har.blocks b bq (ve :: vd :: vs), ⟨⟨bq, vs, ve, vd, (h.keep0 k).rebase⟩, hf⟩, fun hm => ?_, fun x hx => ?_, h.own, fun w' H' S' ⟨⟨bq', vs', ve', vd', h'⟩, hf'⟩ => ⟨⟨bq', vs', ve', vd', h'.at_, h'.prog, h'.apart, h'.ok, h'.few, fun x hx => ?_, (h.keep.chain k (by simp)).chain h'.keep fun x hx => ?_⟩, hf'⟩⟩
  · rcases List.mem_append.1 hm with hm | hm
    · exact h.apart pb (by simp) hm
    · exact h.prog.off.1 hm
  · rcases List.mem_append.1 hx with hx | hx
    · exact h.at_.lt x hx
    · exact h.prog.lt x hx
  · rcases h'.own x hx with h1 | h1
    · exact h.own x h1
    · exact .inr (Nat.le_trans h.keep.size (Nat.le_trans k.size h1))
  · rcases List.mem_append.1 hx with h1 | h1
    · rcases h.own x h1 with h2 | h2
      · exact .inl (List.mem_append_left _ h2)
      · exact .inr h2
    · exact .inl (List.mem_append_right _ h1)

/-- .. since an elder world -/
theorem RS.since {w1 : World} (h : RS w1 F w b pb B H S) (k : Keep [] w0 w1) : RS w0 F w b pb B H S := by
  obtain ⟨⟨bq, vs, ve, vd, h⟩, hf⟩ := h
  exact ⟨⟨bq, vs, ve, vd, h.at_, h.prog, h.apart, h.ok, h.few, fun x hx => (h.own x hx).imp id (Nat.le_trans k.size), (k.mono (by simp)).trans h.keep⟩, hf⟩

/-- what lies in a bench's block besides the program -/
theorem PAt.setH (h : PAt w pb B S) {cs : Array Value} (hb : w.heap[pb]? = some (.cells cs 47 (0, 0))) (v : Value) : PAt (w.setCell ⟨pb, 2, none⟩ v) pb B S := by
  have hne : ∀ {e : TypeId} {size : Nat} {v : Value} {n : Nat} {xs : List Value}, e ≠ 47 → w.ownsRow 0 e size v n xs → ∀ g, v.ownBlock = some g → g ≠ pb := by
    intro e size v n xs he ho g hg hgp
    subst hgp
    rcases ho.2 with ⟨e1, -⟩ | ⟨g', cap, cur, e1, -, hg', -⟩
    · rw [e1] at hg; simp [Value.ownBlock] at hg
    · rw [e1] at hg
      obtain rfl : g' = g := by simpa [Value.ownBlock] using hg
      rw [hb] at hg'
      simp only [Option.some.injEq, Obj.cells.injEq] at hg'
      exact he hg'.2.1.symm
  have key : ∀ {e : TypeId} {size : Nat} {u : Value} {n : Nat} {xs : List Value}, e ≠ 47 → w.ownsRow 0 e size u n xs → (w.setCell ⟨pb, 2, none⟩ v).ownsRow 0 e size u n xs := fun he ho =>
    Har.owns_block ho fun g hg => set_other (hne he ho g hg) _ _
  refine ⟨cell_aside h.c0 (ne_off (by omega)), cell_aside h.c1 (ne_off (by omega)), key (by decide) h.cells, h.len, key (by decide) h.ths, fun i h1 h2 => ⟨(set_other (fun e => ?_) _ _).trans (h.regs i h1 h2).1, (h.regs i h1 h2).2⟩, fun i h1 h2 => ?_, h.nd, h.off, h.fit, h.few⟩
  · exact h.off.1 (e ▸ RB.mem_rb h1)
  · obtain ⟨a, c, e1, e2⟩ := h.progs i h1 h2
    exact ⟨a, c, e1, key (by decide) e2⟩
end

/-- the document's harness, k of its n machines handed in -/
def harR (n k : Nat) : Har.Har := ⟨(List.range n).map fun i => if i < k then [⟨.int .i64 i, i, false⟩] else [], 0, [], []⟩
theorem harR_len (n k : Nat) : (harR n k).queues.length = n := by simp [harR]
theorem harR_zero (n : Nat) : harR n 0 = ⟨List.replicate n [], 0, [], []⟩ := by
  simp [harR, List.map_const']
theorem harR_at (n k : Nat) {i : Nat} (hi : i < (harR n k).queues.length) : (harR n k).queues[i] = if i < k then [⟨.int .i64 i, i, false⟩] else [] := by
  simp [harR]
theorem harR_due (n k : Nat) : Har.due (harR n k) ≤ 2 * n := by
  have h := sum_le2 (fun i => dueQ (if i < k then [(⟨.int .i64 i, i, false⟩ : Job)] else [])) (fun i => by split <;> simp [dueQ, Job.due]) (List.range n)
  simp only [Har.due, harR, List.map_map, List.length_range, Function.comp_def] at h ⊢
  exact h
theorem harR_next (n k : Nat) (hk : k < n) (h64 : n ≤ 16) : (harR n k).put k ((harR n k).queues.getD k [] ++ jobsR k 0 [k]) = harR n (k + 1) := by
  have hkl : k < (harR n k).queues.length := by rw [harR_len]; exact hk
  have hj : jobsR k 0 [k] = [⟨.int .i64 k, k, false⟩] := by
    simp only [jobsR]
    rw [IntWalk.i64_in _ (by omega)]
    simp
  rw [List.getD_eq_getElem?_getD, List.getElem?_eq_getElem hkl, harR_at, hj]
  simp only [Nat.lt_irrefl, if_false, Option.getD_some, List.nil_append]
  unfold Har.Har.put harR
  simp only [Har.Har.mk.injEq, and_true]
  apply List.ext_getElem
  · simp
  · intro i h1 h2
    simp only [List.getElem_set, List.getElem_map, List.getElem_range]
    by_cases e : k = i
    · subst e
      simp
    · rw [if_neg e]
      by_cases e2 : i < k
      · rw [if_pos e2, if_pos (by omega)]
      · rw [if_neg e2, if_neg (by omega)]
theorem harR_pend (n k : Nat) (hk : k < n) : pend (harR n k) (k : Int) = 0 := by
  rw [pend_of (by rw [harR_len]; exact hk), harR_at]
  simp

theorem layR_bad {w : World} {cv tv : Value} {l : LP} (hs : Small l) (hl : LitAt w cv tv l) (h : soundB l = false) :
    Calls Tryz.prog 9 #[.agg #[cv, tv]] w fun e w' => e = .returned (.tuple #[.pointer none, .int .i64 35]) ∧ Keep [] w w' := by
  have k1 : Keep [] w (w.alloc (.cells #[cv, tv] 25)) := (Keep.refl _ _).alloc _
  have HS := Lib.hid (Sound hs (hl.keep0 k1))
  rw [h] at HS
  have K1 := Lib.hid k1
  clear hl k1 h
  go_enter Tryz.func9, Tryz.ntmps9
  go_wp2_with fail
  refine HS.out.mono ?_
  rintro e w2 ⟨rfl, k2⟩
  have K2 := Lib.hid k2
  clear k2
  go_wp2_with fail
  go_ret2
  exact ⟨rfl, K1.out.trans K2.out⟩
/-- a bench of the document's -/
structure BenchR (w0 w : World) (bb b : Nat) (B : RB) (H : Har.Har) (S : RP) : Prop where
  c2 : w.cell? ⟨bb, 2, none⟩ = some (.pointer (some ⟨b, 0, none⟩))
  rs : RS w0 [] w b bb B H S
  new : ∀ x ∈ bb :: B.all, w0.heap.size ≤ x

theorem BenchR.kept {w0 w : World} {bb b : Nat} {B : RB} {H : Har.Har} {S : RP} (h : BenchR w0 w bb b B H S) : Keep [] w0 w := by
  have k := h.rs.kept
  refine ⟨k.os, k.tape, k.output, k.size, fun i hi _ => k.block i hi fun hm => ?_⟩
  have := h.new i (List.mem_cons_of_mem _ (List.mem_append_left _ (by simpa using hm)))
  omega
theorem BenchR.turn {w0 w w' : World} {bb b : Nat} {B : RB} {H H' : Har.Har} {S S' : RP} (h : BenchR w0 w bb b B H S) {F1 : List Nat} (hn : bb ∉ F1 ++ B.mem) (back : ∀ w' H' S', RS w F1 w' b bb B H' S' → RS w0 [] w' b bb B H' S') (h' : RS w F1 w' b bb B H' S') : BenchR w0 w' bb b B H' S' :=
  ⟨h'.kept.cell h.c2 hn, back _ _ _ h', h.new⟩
theorem BenchR.keep0 {w0 w w' : World} {bb b : Nat} {B : RB} {H : Har.Har} {S : RP} (h : BenchR w0 w bb b B H S) (k : Keep [] w w') : BenchR w0 w' bb b B H S :=
  ⟨k.cell h.c2 (by simp), h.rs.keep0 k, h.new⟩

set_option maxHeartbeats 2000000 in
theorem layR_ok {w : World} {cv tv : Value} {l : LP} (hs : Small l) (hl : LitAt w cv tv l) (h : soundB l = true) :
    Calls Tryz.prog 9 #[.agg #[cv, tv]] w fun e w' => ∃ bb b B, e = .returned (.tuple #[.pointer (some ⟨bb, 0, none⟩), .int .i64 0]) ∧ BenchR w w' bb b B (harR l.threads.length l.threads.length) ⟨l.cells, l.threads.map th0⟩ := by
  have hso := h
  simp only [soundB, betB, Bool.and_eq_true, decide_eq_true_eq] at hso
  have hb4 : 1 ≤ l.threads.length ∧ l.threads.length ≤ 4 ∧ 1 ≤ l.cells.length ∧ l.cells.length ≤ 4 := by omega
  have hfew : l.cells.length ≤ 1000000000000 ∧ l.threads.length ≤ 1000000000000 ∧ ∀ p ∈ l.threads, p.length ≤ 1000000000000 := ⟨by omega, by omega, fun p hp => by have := sound_len h p hp; omega⟩
  obtain ⟨a2, c2, ps, rfl, -⟩ := hl.threads
  obtain ⟨w1, hw1⟩ : ∃ w1, w1 = w.alloc (.cells #[cv, .slice a2 l.threads.length c2] 25) := ⟨_, rfl⟩
  have k1 : Keep [] w w1 := by rw [hw1]; exact (Keep.refl _ _).alloc _
  have b1 : w1.heap[w.heap.size]? = some (.cells #[cv, .slice a2 l.threads.length c2] 25 (0, 0)) := by rw [hw1]; exact alloc_new _ _
  have s1 : w1.heap.size = w.heap.size + 1 := by rw [hw1]; simp
  have HS := Lib.hid (Sound hs (hl.keep0 k1))
  rw [h] at HS
  have HSO := Lib.hid h
  have HF := Lib.hid hfew
  have HL := Lib.hid (hl.keep0 k1)
  have K1 := Lib.hid k1
  have B1 := Lib.hid (And.intro b1 s1)
  have H4 := Lib.hid hb4
  obtain ⟨nt, hnt⟩ : ∃ nt, nt = l.threads.length := ⟨_, rfl⟩
  obtain ⟨S0, hS0⟩ : ∃ S0 : RP, S0 = ⟨l.cells, l.threads.map th0⟩ := ⟨_, rfl⟩
  rw [← hS0]
  have HS0 := Lib.hid hS0
  clear hS0
  have HN := Lib.hid hnt
  have hnt4 : 1 ≤ nt ∧ nt ≤ 4 := by omega
  have x0 : w1.cell? ⟨w.heap.size, 0, none⟩ = some cv := (cell_of b1 0).trans rfl
  have x1 : w1.cell? ⟨w.heap.size, 1, none⟩ = some (.slice a2 nt c2) := by rw [hnt]; exact (cell_of b1 1).trans rfl
  rw [← hnt] at HS HL ⊢
  clear hl k1 h hso hb4 hfew b1 s1 hs
  go_enter Tryz.func9, Tryz.ntmps9
  rw [hnt]
  go_wp2_with fail
  rw [show w.alloc (.cells #[cv, .slice a2 l.threads.length c2] 25 (0, 0)) = w1 from hw1.symm, ← hnt]
  clear hnt hw1
  refine HS.out.mono ?_
  rintro e w2 ⟨rfl, k2⟩
  have K2 := Lib.hid k2
  have y0 := k2.cell x0 (by simp)
  have y1 := k2.cell x1 (by simp)
  have L2 := Lib.hid (HL.out.keep0 k2)
  clear k2
  go_wp2_with fail
  refine (newProgram l HF.out w2 L2.out).mono ?_
  rintro e w3 ⟨ca, cc, tv', ss, rfl, ho3, hp3, hc3, k3⟩
  obtain ⟨nc, hnc⟩ : ∃ nc, nc = l.cells.length := ⟨_, rfl⟩
  obtain ⟨tg, tc, rfl⟩ : ∃ tg tc, tv' = .slice (some ⟨tg, 0, none⟩) l.threads.length tc := by
    rcases hp3.row.2 with ⟨-, h0⟩ | ⟨g, cap, cur, hv, -⟩
    · have := H4.out; omega
    · exact ⟨g, cap, hv⟩
  obtain ⟨cb, rfl⟩ : ∃ cb, ca = some ⟨cb, 0, none⟩ := by
    rcases ho3.2 with ⟨-, h0⟩ | ⟨g, cap, cur, hv, -⟩
    · have := H4.out; omega
    · simp only [Value.slice.injEq] at hv
      exact ⟨g, hv.1⟩
  have hz := hc3 cb rfl
  have O3 := Lib.hid ho3
  have P3 := Lib.hid hp3
  have Z3 := Lib.hid hz
  have K3 := Lib.hid k3
  have z0 := k3.cell y1 (by simp)
  have HNC := Lib.hid hnc
  rw [← hnc]
  rw [← HN.out]
  clear ho3 hp3 hc3 hz k3 x0 x1 y0 y1 hnc
  obtain ⟨bb, hbb⟩ : ∃ bb, bb = w3.heap.size := ⟨_, rfl⟩
  obtain ⟨w4, hw4⟩ : ∃ w4, w4 = w3.alloc (.cells #[.slice (some ⟨cb, 0, none⟩) nc cc, .slice (some ⟨tg, 0, none⟩) nt tc, .pointer none] 47) := ⟨_, rfl⟩
  have k4 : Keep [] w3 w4 := by rw [hw4]; exact (Keep.refl _ _).alloc _
  have b4 : w4.heap[bb]? = some (.cells #[.slice (some ⟨cb, 0, none⟩) nc cc, .slice (some ⟨tg, 0, none⟩) nt tc, .pointer none] 47 (0, 0)) := by rw [hw4, hbb]; exact alloc_new _ _
  have s4 : w4.heap.size = bb + 1 := by rw [hw4, hbb]; simp
  have P4 : Hid (PAt w4 bb ⟨cb, cc, tg, tc, ss⟩ ⟨l.cells, l.threads.map th0⟩) := Lib.hid (by
    have hp4 := P3.out.keep k4 (by simp)
    have ho4 := Har.owns_block O3.out fun g hg => k4.block g (O3.out.lt g hg).2 (by simp)
    refine hp4.prog HSO.out ho4 ⟨fun e => Z3.out.1 (by rw [e]; rfl), Z3.out.2.1, Z3.out.2.2⟩ ⟨?_, ?_, ?_⟩ ?_ ?_
    · have := (O3.out.lt cb rfl).2; omega
    · have := (P3.out.row.lt tg rfl).2; omega
    · intro hm
      obtain ⟨s, hs, he⟩ := List.mem_map.1 hm
      obtain ⟨i, hi, rfl⟩ := List.getElem_of_mem hs
      have := lt_of (P3.out.regs i hi).1
      omega
    · rw [← HNC.out]; exact (cell_of b4 0).trans rfl
    · rw [← HN.out]; exact (cell_of b4 1).trans rfl)
  have N4 : Hid (∀ x ∈ bb :: (⟨cb, cc, tg, tc, ss⟩ : RB).all, w2.heap.size ≤ x) := Lib.hid (by
    intro x hx
    simp only [RB.all, RB.mem, List.mem_cons, List.mem_map, List.mem_append, List.mem_filterMap] at hx
    rcases hx with rfl | (rfl | rfl | ⟨s, hs, rfl⟩) | ⟨s, hs, hg⟩
    · have := K3.out.size; omega
    · exact (O3.out.lt x rfl).1
    · exact (P3.out.row.lt x rfl).1
    · obtain ⟨i, hi, rfl⟩ := List.getElem_of_mem hs
      exact (P3.out.regs i hi).2
    · obtain ⟨i, hi, rfl⟩ := List.getElem_of_mem hs
      obtain ⟨a, c, -, q⟩ := P3.out.progs i hi (by have := P3.out.len; omega)
      exact (q.lt x hg).1)
  have x1 := k4.cell z0 (by simp)
  have K4 := Lib.hid k4
  have B4 := Lib.hid (And.intro b4 s4)
  go_wp2_with fail
  rw [show w3.alloc (.cells #[.slice (some ⟨cb, 0, none⟩) nc cc, .slice (some ⟨tg, 0, none⟩) nt tc, .pointer none] 47 (0, 0)) = w4 from hw4.symm, ← hbb]
  clear z0 k4 b4 s4 hbb hw4
  go_region_held3 (fun w' => w'.cell? ⟨w.heap.size, 1, none⟩ = some (.slice a2 nt c2)) (go_keep)
    (first | (go_at_call 11; refine (new_ok bb nt (by omega) (by omega) w4.drew).mono ?_; rintro e w5 ⟨b, bq, vs, ve, vd, rfl, hA, hB, hK⟩; have A5 := Lib.hid hA; have N5 := Lib.hid hB; have K5 := Lib.hid hK; have y1 := hK.cell (show w4.drew.cell? ⟨w.heap.size, 1, none⟩ = _ from x1) (by simp); clear hA hB hK))
  have b5 : w5.heap[bb]? = some (.cells #[.slice (some ⟨cb, 0, none⟩) nc cc, .slice (some ⟨tg, 0, none⟩) nt tc, .pointer none] 47 (0, 0)) := K5.out.old (show w4.drew.heap[bb]? = _ from B4.out.1) (by simp)
  have B5 := Lib.hid b5
  have v2 : w5.cell? ⟨bb, 2, none⟩ = some (.pointer none) := (cell_of b5 2).trans rfl
  have f2 := free_of b5 2
  clear b5
  obtain ⟨Bk, hBk⟩ : ∃ Bk : RB, Bk = ⟨cb, cc, tg, tc, ss⟩ := ⟨_, rfl⟩
  rw [← hBk] at P4 N4
  have hSl : S0.ths.length = nt := by rw [HS0.out, HN.out]; simp
  rw [← HS0.out] at P4
  have HSl := Lib.hid hSl
  clear hBk hSl
  have k45 := (((Keep.refl [] w4).drew).trans K5.out)
  have k14 : Keep [] w1 w4 := (K2.out.trans K3.out).trans K4.out
  have hw12 : w1.heap.size ≤ w2.heap.size := K2.out.size
  have hb1 : w1.heap.size ≤ bb := by have := N4.out bb (by simp); omega
  have hRS : RS w1 [] (w5.setCell ⟨bb, 2, none⟩ (.pointer (some ⟨b, 0, none⟩))) b bb Bk (harR nt 0) S0 := by
    have nb : ∀ x ∈ Har.blocks b bq (ve :: vd :: vs), w4.heap.size ≤ x := N5.out
    refine ⟨⟨bq, vs, ve, vd, ?_, (P4.out.keep0 k45).setH B5.out _, fun x hx hm => ?_, fun q hq j hj => ?_, ⟨?_, by simp [harR]⟩, fun x hx => .inr ?_, ?_⟩, ?_⟩
    · rw [harR_zero]
      exact A5.out.keep ((Keep.refl [bb] w5).set (.inl (by simp)) 2 _) (fun x hx hm => by
        simp at hx
        have := nb x hm
        have := B4.out.2
        omega)
    · have := P4.out.ltAll x hx
      have := nb x hm
      omega
    · obtain ⟨i, hi, rfl⟩ := List.getElem_of_mem hq
      rw [harR_at] at hj
      simp at hj
    · have := harR_due nt 0
      show 0 + Har.due (harR nt 0) ≤ _
      omega
    · have := nb x hx
      have := k14.size
      omega
    · exact ((k14.trans k45).mono (by simp)).set (.inr hb1) 2 _
    · have := harR_due nt 0
      show 0 + Har.due (harR nt 0) ≤ _
      omega
  obtain ⟨w6, hw6⟩ : ∃ w6, w6 = w5.setCell ⟨bb, 2, none⟩ (.pointer (some ⟨b, 0, none⟩)) := ⟨_, rfl⟩
  rw [← hw6] at hRS
  have c6 : w6.cell? ⟨bb, 2, none⟩ = some (.pointer (some ⟨b, 0, none⟩)) := by rw [hw6, cell_of (set_same B5.out 2 _)]; rfl
  have hwb : w.heap.size ≠ bb := by have := B1.out.2; omega
  have x6 : w6.cell? ⟨w.heap.size, 1, none⟩ = some (.slice a2 nt c2) := by rw [hw6]; exact cell_aside y1 (ne_block hwb)
  obtain ⟨F1, R1, hn1, hlt1, hF1, back⟩ := hRS.rebase (Keep.refl _ _)
  have hnw : w.heap.size ∉ F1 ++ Bk.mem := by
    intro hm
    have := B1.out.2
    rcases List.mem_append.1 hm with hm | hm
    · rcases hF1 _ hm with hm | hm
      · simp at hm
      · omega
    · have := N4.out _ (List.mem_cons_of_mem _ (List.mem_append_left _ hm))
      omega
  have R6 := Lib.hid R1
  have BACK := Lib.hid (And.intro back (And.intro hn1 (And.intro hnw (And.intro c6 x6))))
  go_wp2_with fail
  rw [← hw6]
  clear hw6 c6 x6 back hn1 hnw hRS R1 y1 v2 f2
  go_loopw [8] (fun i8 wr => ∃ i : Nat, i8 = .int .i64 i ∧ i ≤ nt ∧ RS w6 F1 wr b bb Bk (harR nt i) S0) (fun i8 _ => nt - (intOf i8).toNat)
  case atStart => exact ⟨0, rfl, Nat.zero_le _, R6.out⟩
  case round =>
    obtain ⟨i, rfl, hi, hR⟩ := hrel
    have RR := Lib.hid hR
    have x7 := hR.kept.cell BACK.out.2.2.2.2 BACK.out.2.2.1
    have c7 := hR.kept.cell BACK.out.2.2.2.1 BACK.out.2.1
    clear hR
    by_cases hlt : i < nt
    · obtain ⟨F2, R2, hn2, hlt2, hF2, back2⟩ := RR.out.rebase ((Keep.refl [] wr).alloc (.cells #[.int .i64 i] 3))
      have hms : Nums (wr.alloc (.cells #[.int .i64 i] 3)) (F2 ++ Bk.mem) (some ⟨wr.heap.size, 0, none⟩) [i] := by
        refine ⟨fun j hj => ⟨wr.heap.size, 0, rfl, ?_⟩, fun g o e => ?_⟩
        · obtain rfl : j = 0 := by simpa using hj
          exact (cell_of (alloc_new wr _) 0).trans rfl
        · simp only [Option.some.injEq, Addr.mk.injEq] at e
          obtain ⟨rfl, rfl, -⟩ := e
          exact ⟨fun hm => by have := hlt2 _ hm; omega, by simp⟩
      have hsub := Lib.hid (submit R2 i (by rw [harR_len]; exact hlt) i (some ⟨wr.heap.size, 0, none⟩) 1 [i] hms (fun m hm => by simp at hm; rw [HSl.out, hm]; exact hlt) (by rw [harR_pend nt i hlt]; simp) (by have := harR_due nt i; show 0 + Har.due (harR nt i) + 2 * 1 ≤ _; omega))
      rw [harR_next nt i hlt (by omega)] at hsub
      have BK2 := Lib.hid back2
      clear R2 hn2 hlt2 hF2 back2 hms
      go_wp2_with fail
      refine hsub.out.mono ?_
      rintro e w8 ⟨rfl, h8⟩
      have R8 := Lib.hid (BK2.out _ _ _ h8)
      clear h8
      go_wp2_with fail
      go_roundw
      case rel => exact ⟨i + 1, by go_num, hlt, R8.out⟩
      case measure => simp [intOf]; omega
    · have hin : i = nt := by omega
      subst hin
      go_wp2_with fail
      go_ret2
      have R1 := BACK.out.1 _ _ _ RR.out
      refine ⟨bb, b, Bk, rfl, c7, ?_, fun x hx => ?_⟩
      · rw [← HN.out]
        exact R1.since K1.out
      · have := N4.out x hx
        have := K1.out.size
        omega
end Go.Proofs.YtdkdeiofjoccnaaGreat.Ref
