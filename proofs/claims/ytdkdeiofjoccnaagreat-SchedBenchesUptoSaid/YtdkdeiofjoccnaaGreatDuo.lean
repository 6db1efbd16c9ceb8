/- bench: one turn of a bench, the program's and the document's side by side. -/
import Derived.Test.YtdkdeiofjoccnaaGreatBenchRef
import Derived.Test.YtdkdeiofjoccnaaGreatRefLaw
import Derived.Test.YtdkdeiofjoccnaaGreatSameEv
import Derived.WalkSpells
namespace Go.Proofs.YtdkdeiofjoccnaaGreat.Ref
open Go.RowKit Go.Proofs.YtdkdeiofjoccnaaGreat.Mem Go.Proofs.YtdkdeiofjoccnaaGreat.Har Go.Proofs.YtdkdeiofjoccnaaGreat.Lit
set_option linter.unusedVariables false
set_option maxRecDepth 100000

/-- two benches that are one: T holds the blocks of both -/
def Duo (w0 : World) (T : List Nat) (w : World) (bb pb : Nat) : Prop :=
  ∃ T1 T2 P H S H' S', Lit.Rest w0 T1 w bb P H S ∧ RestR w0 T2 w pb H' S' ∧ (∀ x ∈ T1, x ∉ T2) ∧ Pair P (H, S) (H', S') ∧ muP P (H, S) ≤ 14 ∧ P.seats.length ≤ 4 ∧ T = T1 ++ T2
section
variable {w0 w w' : World} {T : List Nat} {bb pb : Nat}
theorem Duo.lt (h : Duo w0 T w bb pb) : ∀ x ∈ T, x < w.heap.size := by
  obtain ⟨T1, T2, P, H, S, H', S', h1, h2, h3, h4, h5, h6, rfl⟩ := h
  intro x hx
  rcases List.mem_append.1 hx with hx | hx
  · exact h1.lt x hx
  · exact h2.lt x hx
theorem Duo.ge (h : Duo w0 T w bb pb) : ∀ x ∈ T, w0.heap.size ≤ x := by
  obtain ⟨T1, T2, P, H, S, H', S', h1, h2, h3, h4, h5, h6, rfl⟩ := h
  intro x hx
  rcases List.mem_append.1 hx with hx | hx
  · exact h1.ge x hx
  · exact h2.ge x hx
theorem Duo.kept (h : Duo w0 T w bb pb) : Keep [] w0 w := by
  obtain ⟨T1, T2, P, H, S, H', S', h1, -⟩ := h
  exact h1.kept
theorem Duo.frame (h : Duo w0 T w bb pb) {U : List Nat} (k : Keep U w w') (hU : ∀ x ∈ U, x ∉ T ∧ w0.heap.size ≤ x) : Duo w0 T w' bb pb := by
  obtain ⟨T1, T2, P, H, S, H', S', h1, h2, h3, h4, h5, h6, rfl⟩ := h
  exact ⟨T1, T2, P, H, S, H', S', h1.frame k fun x hx => ⟨fun hm => (hU x hx).1 (List.mem_append_left _ hm), (hU x hx).2⟩, h2.frame k fun x hx => ⟨fun hm => (hU x hx).1 (List.mem_append_right _ hm), (hU x hx).2⟩, h3, h4, h5, h6, rfl⟩
theorem Duo.frame0 (h : Duo w0 T w bb pb) (k : Keep [] w w') : Duo w0 T w' bb pb := h.frame k (by simp)

set_option maxHeartbeats 2000000 in
theorem benchPlay (h : Duo w0 T w bb pb) (second : Bool) (s : ByteArray) (hs : s.size ≤ 2097152) :
    Calls Tryz.prog 17 #[.pointer (some ⟨bb, 0, none⟩), .pointer (some ⟨pb, 0, none⟩), .agg #[.bool second, .bool false, .string s]] w fun e w' => e = .returned (.bool true) ∧
      ∃ T', Duo w0 T' w' bb pb ∧ Keep T w w' ∧ ∀ x ∈ T', x ∈ T ∨ w.heap.size ≤ x := by
  obtain ⟨T1, T2, P, H, S, H', S', h1, h2, h3, h4, h5, h6, rfl⟩ := h
  obtain ⟨p1, d1, d2, el, m1⟩ := both h4 h5 (Pick.dec s.data.toList)
  have hval : (1099511627776 - ((playC refM (Pick.dec s.data.toList) (begunR H' S')).left : Int)) = playN 14 (playC (machs P) (Pick.dec s.data.toList) ⟨H, S, 14, false⟩) := by
    unfold playN
    rw [d1, if_neg (by simp)]
    have el' : (playC refM (Pick.dec s.data.toList) (begunR H' S')).left + 14 = (playC (machs P) (Pick.dec s.data.toList) ⟨H, S, 14, false⟩).left + 1099511627776 := el
    omega
  have hk : Keep [] w (w.alloc (.cells #[.bool second, .bool false, .string s] 64)) := (Keep.refl _ _).alloc _
  obtain ⟨tb, htb⟩ : ∃ tb, tb = w.heap.size := ⟨_, rfl⟩
  obtain ⟨w1, hw1⟩ : ∃ w1, w1 = w.alloc (.cells #[.bool second, .bool false, .string s] 64) := ⟨_, rfl⟩
  have b1 : w1.heap[tb]? = some (.cells #[.bool second, .bool false, .string s] 64 (0, 0)) := by rw [hw1, htb]; exact alloc_new _ _
  rw [← hw1] at hk
  have R1 := Lib.hid (h1.frame0 hk.drew)
  have R2 := Lib.hid (h2.frame0 hk.drew)
  have LT := Lib.hid (And.intro h1.lt h2.lt)
  have GE := Lib.hid (And.intro h1.ge h2.ge)
  have K1 := Lib.hid hk
  have DS := Lib.hid h3
  have PP := Lib.hid (And.intro p1 (And.intro m1 h6))
  have HV := Lib.hid hval
  have y1 := (cell_of b1 1).trans rfl
  have y2 := (cell_of b1 2).trans rfl
  have TB := Lib.hid htb
  clear h1 h2 h3 h4 h5 p1 d1 d2 el m1 hk hval b1
  go_enter Tryz.func17, Tryz.ntmps17
  go_upto_region 1 with fail
  rw [show w.alloc (.cells #[.bool second, .bool false, .string s] 64 (0, 0)) = w1 from hw1.symm, ← htb]
  clear hw1 htb
  go_wp2_with fail
  go_region_held3 (fun w' => w'.cell? ⟨tb, 2, none⟩ = some (.string s)) (go_keep)
    (first
      | (go_at_call 60; refine (R1.out.play s hs).mono ?_; rintro e w2 ⟨rfl, T1', hr, hk2, hn2⟩; have N1 := Lib.hid (And.intro hr (And.intro hk2 hn2)); have c22 := hk2.cell (show w1.drew.cell? ⟨tb, 2, none⟩ = _ from y2) (fun hm => by have := LT.out.1 tb hm; have := TB.out; omega); clear hr hk2 hn2)
      | (go_at_call 61; have hp := (R2.out.frame N1.out.2.1 (fun x hx => ⟨fun hm => DS.out x hx hm, GE.out.1 x hx⟩)).play s hs; rw [HV.out] at hp; refine hp.mono ?_; rintro e w3 ⟨rfl, T2', hr, hk3, hn3⟩; have N2 := Lib.hid (And.intro hr (And.intro hk3 hn3)); have c33 := hk3.cell c22 (fun hm => by have := LT.out.2 tb hm; have := TB.out; omega); clear hp hr hk3 hn3))
  go_wp2_with fail
  refine bodyPost_ret (results_tmp rfl _ _ _) rfl ⟨rfl, ?_⟩
  obtain ⟨hr1, hk2, hn2⟩ := N1.out
  obtain ⟨hr2, hk3, hn3⟩ := N2.out
  have hk1 : Keep [] w w1.drew := K1.out.drew
  have hd : ∀ x ∈ T1', x ∉ T2' := by
    intro x hx hm
    have q1 := hr1.lt x hx
    rcases hn2 x hx with h1 | h1
    · rcases hn3 x hm with h2 | h2
      · exact DS.out x h1 h2
      · omega
    · rcases hn3 x hm with h2 | h2
      · have := LT.out.2 x h2
        have := hk1.size
        omega
      · omega
  have hd2 : ∀ x ∈ T2, x ∉ T1' := by
    intro x hm hx
    rcases hn2 x hx with h1 | h1
    · exact DS.out x h1 hm
    · have := LT.out.2 x hm
      have := hk1.size
      omega
  obtain ⟨p1, m1, h6⟩ := PP.out
  refine ⟨T1' ++ T2', ⟨T1', T2', P, _, _, _, _, hr1.frame hk3 fun x hx => ⟨hd2 x hx, GE.out.2 x hx⟩, hr2, hd, p1, m1, h6, rfl⟩, ?_, fun x hx => ?_⟩
  · exact ((hk1.mono (fun x hx => by simp at hx)).trans (hk2.mono fun x hx => List.mem_append_left _ hx)).trans (hk3.mono fun x hx => List.mem_append_right _ hx)
  · have q1 := hk1.size
    have q2 := hk2.size
    rcases List.mem_append.1 hx with hx | hx
    · rcases hn2 x hx with h1 | h1
      · exact .inl (List.mem_append_left _ h1)
      · exact .inr (by omega)
    · rcases hn3 x hx with h1 | h1
      · exact .inl (List.mem_append_right _ h1)
      · exact .inr (by omega)
end
end Go.Proofs.YtdkdeiofjoccnaaGreat.Ref
