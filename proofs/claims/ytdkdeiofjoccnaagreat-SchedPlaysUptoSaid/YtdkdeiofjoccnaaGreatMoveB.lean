import Derived.Test.YtdkdeiofjoccnaaGreatThreads
import Derived.LoopN
/- moves: Step, Drain and Play of a script, on both sides. -/
namespace Go.Proofs.YtdkdeiofjoccnaaGreat.Ref
open Go.RowKit Go.Proofs.YtdkdeiofjoccnaaGreat.Mem Go.Proofs.YtdkdeiofjoccnaaGreat.Har Go.Proofs.YtdkdeiofjoccnaaGreat.Lit Go.Proofs.YtdkdeiofjoccnaaGreat.Ar Go.Proofs.YtdkdeiofjoccnaaGreat.Un
open Go.Proofs.YtdkdeiofjoccnaaGreat.Pick (Pk flat)
set_option linter.unusedVariables false
set_option linter.unusedSimpArgs false
set_option maxRecDepth 100000

theorem handed_new (w : World) {T : List Nat} (hT : w.heap.size ∉ T) : Har.Handed (w.alloc (.cells #[.int .i64 6, .int .i64 0, .int .i64 0] 119)).drew T (some ⟨w.heap.size, 0, none⟩) [drainPick] := by
  have hb : (w.alloc (.cells #[.int .i64 6, .int .i64 0, .int .i64 0] 119)).drew.heap[w.heap.size]? = some (.cells #[.int .i64 6, .int .i64 0, .int .i64 0] 119 (0, 0)) := alloc_new w _
  refine ⟨fun i hi => ?_, fun g o e => ?_, by simp [drainPick]⟩
  · obtain rfl : i = 0 := by simpa using hi
    exact ⟨_, _, rfl, cell_of hb 0, cell_of hb 1, cell_of hb 2⟩
  · simp only [Option.some.injEq, Addr.mk.injEq, and_true] at e
    obtain ⟨rfl, rfl⟩ := e
    exact ⟨hT, lt_of hb⟩
theorem lt_of_cell {w : World} {g o : Nat} {v : Value} (h : w.cell? ⟨g, o, none⟩ = some v) : g < w.heap.size := by
  rcases Nat.lt_or_ge g w.heap.size with h1 | h1
  · exact h1
  · unfold World.cell? at h
    simp only [Array.getElem?_eq_none h1] at h
    cases h
/-- picks that lay there at the begin -/
theorem picks_off {w0 : World} {pa : Option Addr} {l : List Pk} (h : Sees w0 pa (flat l)) (hne : l ≠ []) {g o : Nat} (e : pa = some ⟨g, o, none⟩) : g < w0.heap.size := by
  obtain ⟨g', o', e', c, -⟩ := sees_pk h (i := 0) (List.length_pos_iff.2 hne)
  rw [e] at e'
  simp only [Option.some.injEq, Addr.mk.injEq, and_true] at e'
  obtain ⟨rfl, rfl⟩ := e'
  exact lt_of_cell c
/-- no picks, wherever they do not lie -/
theorem play_nil {w : World} {F : List Nat} {b pb : Nat} {B : RB} {H : Har.Har} {S : RP} (bud : Nat) (hb : bud ≤ 9223372036854775807) (a : Option Addr) (cap : Nat) :
    Calls Tryz.prog 36 #[.pointer (some ⟨b, 0, none⟩), .int .i64 bud, .slice a 0 cap] w fun e w' => e = .returned (.tuple #[.int .i64 0, .int .i64 0]) ∧ w = w' := by
  have b1 : decide ((bud : Int) < 0) = false := by simp
  go_enter Tryz.func36, Tryz.ntmps36
  go_wp2_with fail
  refine wp_loop_rounds 1 ?_
  rw [rounds_succ]
  go_wp2_with fail
  go_ret2
  exact ⟨rfl, rfl⟩
theorem play_any {w : World} {F : List Nat} {b pb : Nat} {B : RB} {H : Har.Har} {S : RP} (h : RS w F w b pb B H S) (bud : Nat) (hb : bud ≤ 9223372036854775807) (a : Option Addr) (cap : Nat) (l : List Pk) (hs : Sees w a (flat l)) (hT : l ≠ [] → ∀ g o, a = some ⟨g, o, none⟩ → g ∉ F ++ B.mem ∧ g < w.heap.size) (hn : ∀ x ∈ l, x.n ≤ 9223372036854775807) (hll : l.length ≤ 9223372036854775807) :
    Calls Tryz.prog 36 #[.pointer (some ⟨b, 0, none⟩), .int .i64 bud, .slice a l.length cap] w fun e w' =>
      e = .returned (.tuple #[.int .i64 ((bud : Int) - (playC refM l ⟨H, S, bud, false⟩).left), .int .i64 (errOf (playC refM l ⟨H, S, bud, false⟩).dry)]) ∧ RS w F w' b pb B (playC refM l ⟨H, S, bud, false⟩).H (playC refM l ⟨H, S, bud, false⟩).s := by
  cases l with
  | nil =>
    refine (play_nil (F := F) (pb := pb) (B := B) (H := H) (S := S) bud hb a cap).mono ?_
    rintro e w' ⟨rfl, rfl⟩
    exact ⟨by simp [playC, errOf], h⟩
  | cons p l => exact Ref.play (c := ⟨H, S, bud, false⟩) h rfl hb a cap (p :: l) (sees_handed hs (hT (by simp)) hn) hll
section
variable {w0 w : World} {sb bb hb pb rb b0 n : Nat}
set_option maxHeartbeats 2000000 in
theorem moves_step (h : PlayAt w0 w sb bb hb pb rb b0 n) (hn : n ≤ 900000000000) (who tag num : Int) (pa ma : Option Addr) (np pc nm mc : Nat) :
    Calls Tryz.prog 12 #[.pointer (some ⟨sb, 0, none⟩), .agg #[.int .i64 2, .int .i64 who, .int .i64 tag, .int .i64 num, .slice pa np pc, .slice ma nm mc]] w fun e w' => e = .returned (.bool true) ∧ PlayAt w0 w' sb bb hb pb rb b0 n := by
  obtain ⟨P, H0, H, S, B, H0', H', S', T, U, T', U', h, hl, hf⟩ := h
  obtain ⟨w1, hw1⟩ : ∃ w1, w1 = w.alloc (.cells #[.int .i64 2, .int .i64 who, .int .i64 tag, .int .i64 num, .slice pa np pc, .slice ma nm mc] 54) := ⟨_, rfl⟩
  obtain ⟨tb, htb⟩ : ∃ tb, tb = w.heap.size := ⟨_, rfl⟩
  have k1 : Keep [] w w1 := by rw [hw1]; exact (Keep.refl _ _).alloc _
  have b1 : w1.heap[tb]? = some (.cells #[.int .i64 2, .int .i64 who, .int .i64 tag, .int .i64 num, .slice pa np pc, .slice ma nm mc] 54 (0, 0)) := by rw [hw1, htb]; exact alloc_new _ _
  have hall := h.lt
  have hsub := h.p.rest.sub
  have hsub' := h.d.sub
  have hpend := hl.eh.pend who
  have M1 := Lib.hid (h.frame0 k1.drew)
  have y0 := (cell_of b1 0).trans rfl
  have y1 := (cell_of b1 1).trans rfl
  have s0 := k1.cell (cell_of h.hrec 0) (by simp)
  have s2 := k1.cell (cell_of h.hrec 2) (by simp)
  have offT : tb ∉ U ++ P.all ∧ tb ∉ U' ++ B.mem := ⟨fun hm => by
    have hlt : tb < w.heap.size := by
      rcases List.mem_append.1 hm with hm | hm
      · exact hall.1 tb (List.mem_append_right _ hm)
      · exact hall.1 tb (List.mem_append_left _ (hsub tb hm))
    omega, fun hm => by
    have hlt : tb < w.heap.size := by
      rcases List.mem_append.1 hm with hm | hm
      · exact hall.2 tb (List.mem_append_right _ hm)
      · exact hall.2 tb (List.mem_append_left _ (hsub' tb (by simp [RB.all, hm])))
    omega⟩
  have offS : sb ∉ U ++ P.all ∧ sb ∉ U' ++ B.mem := ⟨fun hm => h.off.1 (by
    rcases List.mem_append.1 hm with hm | hm
    · exact List.mem_append_right _ hm
    · exact List.mem_append_left _ (hsub sb hm)), fun hm => h.off.2.1 (by
    rcases List.mem_append.1 hm with hm | hm
    · exact List.mem_append_right _ hm
    · exact List.mem_append_left _ (hsub' sb (by simp [RB.all, hm])))⟩
  have OF := Lib.hid (And.intro offT offS)
  have PL := Lib.hid hl
  have HF := Lib.hid hf
  have HP := Lib.hid (show Har.dueB H' who = Har.dueB H who by unfold Har.dueB; rw [hpend])
  obtain ⟨d, hd⟩ : ∃ d, d = Har.dueB H who := ⟨_, rfl⟩
  have HD := Lib.hid hd
  clear h hl hf k1 b1 hall hsub hsub' hpend offT offS hd
  go_enter Tryz.func12, Tryz.ntmps12
  go_upto_region 1 with fail
  rw [show w.alloc (.cells #[.int .i64 2, .int .i64 who, .int .i64 tag, .int .i64 num, .slice pa np pc, .slice ma nm mc] 54 (0, 0)) = w1 from hw1.symm, ← htb]
  clear hw1 htb
  go_wp2_with fail
  go_region_held3 (fun w' => w'.cell? ⟨tb, 1, none⟩ = some (.int .i64 who) ∧ w'.cell? ⟨sb, 0, none⟩ = some (.pointer (some ⟨hb, 0, none⟩)) ∧ w'.cell? ⟨sb, 2, none⟩ = some (.pointer (some ⟨rb, 0, none⟩))) (go_keep)
    (first
      | (go_at_call 33; obtain ⟨hq, vs, ve, vd, hS, hU⟩ := M1.out.p.har; refine (Har.step hS who).mono ?_; rintro e w2 ⟨he, vs', ve', vd', hS2⟩; rw [← HD.out] at he; subst he; obtain ⟨U1, hp, k2, hn2⟩ := M1.out.prog ⟨hq, vs', ve', vd', hS2⟩; have M2 := Lib.hid hp; have z1 := k2.cell (show w1.drew.cell? ⟨tb, 1, none⟩ = _ from y1) OF.out.1.1; have z0 := k2.cell (show w1.drew.cell? ⟨sb, 0, none⟩ = _ from s0) OF.out.2.1; have z2 := k2.cell (show w1.drew.cell? ⟨sb, 2, none⟩ = _ from s2) OF.out.2.1; clear hS hU hS2 hp k2 hn2)
      | (go_at_call 34; refine (Ref.step M2.out.d.rs who).mono ?_; rintro e w3 ⟨he, hr⟩; rw [HP.out, ← HD.out] at he; subst he; obtain ⟨U2, hp, k3, hn3⟩ := M2.out.doc hr; have M3 := Lib.hid hp; have v1 := k3.cell z1 OF.out.1.2; have v0 := k3.cell z0 OF.out.2.2; have v2 := k3.cell z2 OF.out.2.2; clear hr hp k3 hn3))
  go_wp2_with fail
  refine bodyPost_ret (results_tmp rfl _ _ _) rfl ⟨by cases d <;> rfl, ?_⟩
  exact ⟨P, H0, _, _, B, H0', _, _, T, U1, T', U2, M3.out, PL.out.step who, by rw [stepI_few]; exact HF.out⟩

theorem PlayM.offs {P : Park} {H0 H : Har.Har} {S : St} {B : RB} {H0' H' : Har.Har} {S' : RP} {T U T' U' : List Nat} (h : PlayM w0 w sb bb hb pb rb b0 P H0 H S B H0' H' S' T U T' U') : (∀ x, w.heap.size ≤ x → x ∉ U ++ P.all ∧ x ∉ U' ++ B.mem) ∧ (∀ x, x < w0.heap.size → x ∉ U ++ P.all ∧ x ∉ U' ++ B.mem) ∧ sb ∉ U ++ P.all ∧ sb ∉ U' ++ B.mem := by
  have hsub := h.p.rest.sub
  have hsub' := h.d.sub
  have hl := h.lt
  have hg := h.ge
  have hg' := h.d.new
  have i1 : ∀ x ∈ U ++ P.all, x ∈ T ++ U := fun x hm => by
    rcases List.mem_append.1 hm with hm | hm
    · exact List.mem_append_right _ hm
    · exact List.mem_append_left _ (hsub x hm)
  have i2 : ∀ x ∈ U' ++ B.mem, x ∈ T' ++ U' := fun x hm => by
    rcases List.mem_append.1 hm with hm | hm
    · exact List.mem_append_right _ hm
    · exact List.mem_append_left _ (hsub' x (by simp [RB.all, hm]))
  exact ⟨fun x hx => ⟨fun hm => by have := hl.1 x (i1 x hm); omega, fun hm => by have := hl.2 x (i2 x hm); omega⟩, fun x hx => ⟨fun hm => by have := hg x (i1 x hm); omega, fun hm => by have := hg' x (i2 x hm); omega⟩, fun hm => h.off.1 (i1 _ hm), fun hm => h.off.2.1 (i2 _ hm)⟩

set_option maxHeartbeats 4000000 in
theorem moves_drain (h : PlayAt w0 w sb bb hb pb rb b0 n) (hn : n ≤ 900000000000) (who tag num : Int) (hnum : num ≤ 9223372036854775807) (pa ma : Option Addr) (np pc nm mc : Nat) :
    Calls Tryz.prog 12 #[.pointer (some ⟨sb, 0, none⟩), .agg #[.int .i64 4, .int .i64 who, .int .i64 tag, .int .i64 num, .slice pa np pc, .slice ma nm mc]] w fun e w' => e = .returned (.bool true) ∧ PlayAt w0 w' sb bb hb pb rb b0 n := by
  obtain ⟨P, H0, H, S, B, H0', H', S', T, U, T', U', h, hl, hf⟩ := h
  obtain ⟨w1, hw1⟩ : ∃ w1, w1 = w.alloc (.cells #[.int .i64 4, .int .i64 who, .int .i64 tag, .int .i64 num, .slice pa np pc, .slice ma nm mc] 54) := ⟨_, rfl⟩
  obtain ⟨tb, htb⟩ : ∃ tb, tb = w.heap.size := ⟨_, rfl⟩
  have k1 : Keep [] w w1 := by rw [hw1]; exact (Keep.refl _ _).alloc _
  have b1 : w1.heap[tb]? = some (.cells #[.int .i64 4, .int .i64 who, .int .i64 tag, .int .i64 num, .slice pa np pc, .slice ma nm mc] 54 (0, 0)) := by rw [hw1, htb]; exact alloc_new _ _
  have M1 := Lib.hid (h.frame0 k1.drew)
  have y0 := (cell_of b1 0).trans rfl
  have y3 := (cell_of b1 3).trans rfl
  have s0 := k1.cell (cell_of h.hrec 0) (by simp)
  have s2 := k1.cell (cell_of h.hrec 2) (by simp)
  have OF := Lib.hid (And.intro (h.offs.1 tb (by omega)) h.offs.2.2)
  have PL := Lib.hid hl
  have HF := Lib.hid hf
  clear h hl hf k1 b1
  by_cases hneg : num < 0
  · go_enter Tryz.func12, Tryz.ntmps12
    go_upto_region 1 with fail
    rw [show w.alloc (.cells #[.int .i64 4, .int .i64 who, .int .i64 tag, .int .i64 num, .slice pa np pc, .slice ma nm mc] 54 (0, 0)) = w1 from hw1.symm, ← htb]
    clear hw1 htb
    go_wp2_with fail
    go_region_held3 (fun w' => w'.cell? ⟨tb, 3, none⟩ = some (.int .i64 num) ∧ w'.cell? ⟨sb, 0, none⟩ = some (.pointer (some ⟨hb, 0, none⟩))) (go_keep)
      (first | (go_at_call 38; refine (Har.drain_neg num hneg).mono ?_; rintro e w2 ⟨rfl, k2⟩; have M2 := Lib.hid (M1.out.frame0 k2); have z3 := k2.cell (show w1.drew.cell? ⟨tb, 3, none⟩ = _ from y3) (by simp); have z2 := k2.cell (show w1.drew.cell? ⟨sb, 2, none⟩ = _ from s2) (by simp); have z0 := k2.cell (show w1.drew.cell? ⟨sb, 0, none⟩ = _ from s0) (by simp); clear k2))
    go_wp2_with fail
    go_region_held3 (fun w' => w'.cell? ⟨tb, 3, none⟩ = some (.int .i64 num) ∧ w'.cell? ⟨sb, 2, none⟩ = some (.pointer (some ⟨rb, 0, none⟩))) (go_keep)
      (first | (go_at_call 36; refine (Ref.play_neg _ _ num hneg _ _ _).mono ?_; rintro e w3 ⟨rfl, hw3⟩; have K3 : Hid (Keep [] w2 w3) := Lib.hid (by rw [← hw3]; exact ((Keep.refl _ _).alloc _).drew); have v3 := K3.out.cell z3 (by simp); have v2 := K3.out.cell z2 (by simp); clear hw3))
    go_wp2_with fail
    exact bodyPost_ret (results_tmp rfl _ _ _) rfl ⟨rfl, P, H0, H, S, B, H0', H', S', T, U, T', U', M2.out.frame0 K3.out, PL.out, HF.out⟩
  · obtain ⟨bud, rfl⟩ : ∃ bud : Nat, num = bud := ⟨num.toNat, by omega⟩
    have hbud : bud ≤ 9223372036854775807 := by omega
    obtain ⟨an1, an2⟩ := PL.out.answer bud [drainPick]
    obtain ⟨x, hx⟩ : ∃ x, x = Har.playN bud (playC (machs P) [drainPick] ⟨H, S, bud, false⟩) := ⟨_, rfl⟩
    obtain ⟨er, her⟩ : ∃ x, x = Har.playE (playC (machs P) [drainPick] ⟨H, S, bud, false⟩) := ⟨_, rfl⟩
    rw [← hx] at an1
    rw [← her] at an2
    have AN := Lib.hid (And.intro hx (And.intro her (And.intro an1 an2)))
    clear hx her an1 an2 hneg hnum
    go_enter Tryz.func12, Tryz.ntmps12
    go_upto_region 1 with fail
    rw [show w.alloc (.cells #[.int .i64 4, .int .i64 who, .int .i64 tag, .int .i64 (bud : Int), .slice pa np pc, .slice ma nm mc] 54 (0, 0)) = w1 from hw1.symm, ← htb]
    clear hw1 htb
    go_wp2_with fail
    go_region_held3 (fun w' => w'.cell? ⟨tb, 3, none⟩ = some (.int .i64 (bud : Int)) ∧ w'.cell? ⟨sb, 0, none⟩ = some (.pointer (some ⟨hb, 0, none⟩))) (go_keep)
      (first | (go_at_call 38; obtain ⟨hq, vs, ve, vd, hS, hU⟩ := M1.out.p.har; refine (Har.drain hS bud hbud).mono ?_; rintro e w2 ⟨he, hS2⟩; rw [← AN.out.1, ← AN.out.2.1] at he; subst he; obtain ⟨U1, hp, k2, hn2⟩ := M1.out.prog hS2; have M2 := Lib.hid hp; have z3 := k2.cell (show w1.drew.cell? ⟨tb, 3, none⟩ = _ from y3) OF.out.1.1; have z2 := k2.cell (show w1.drew.cell? ⟨sb, 2, none⟩ = _ from s2) OF.out.2.1; have z0 := k2.cell (show w1.drew.cell? ⟨sb, 0, none⟩ = _ from s0) OF.out.2.1; clear hS hU hS2 hp k2 hn2))
    go_wp2_with fail
    go_region_held3 (fun w' => w'.cell? ⟨tb, 3, none⟩ = some (.int .i64 (bud : Int)) ∧ w'.cell? ⟨sb, 2, none⟩ = some (.pointer (some ⟨rb, 0, none⟩))) (go_keep)
      (first | (go_at_call 36; have MX := Lib.hid (M2.out.frame0 (((Keep.refl [] w2).alloc (.cells #[.int .i64 6, .int .i64 0, .int .i64 0] 119)).drew)); refine (Ref.play (c := ⟨H', S', bud, false⟩) MX.out.d.rs rfl hbud _ 1 [drainPick] (handed_new w2 (M2.out.offs.1 _ (Nat.le_refl _)).2) (by decide)).mono ?_; rintro e w3 ⟨he, hr⟩; rw [← AN.out.2.2.1, ← AN.out.2.2.2] at he; subst he; obtain ⟨U2, hp, k3, hn3⟩ := MX.out.doc hr; have M3 := Lib.hid hp; have KX : Hid (Keep [] w2 (w2.alloc (.cells #[.int .i64 6, .int .i64 0, .int .i64 0] 119)).drew) := Lib.hid ((Keep.refl [] w2).alloc _).drew; have v3 := k3.cell (KX.out.cell z3 (by simp)) OF.out.1.2; have v2 := k3.cell (KX.out.cell z2 (by simp)) OF.out.2.2; clear hr hp k3 hn3))
    go_wp2_with fail
    refine bodyPost_ret (results_tmp rfl _ _ _) rfl ⟨rfl, ?_⟩
    exact ⟨P, H0, _, _, B, H0', _, _, T, U1, T', U2, M3.out, PL.out.play bud [drainPick], by rw [play_few]; exact HF.out⟩

set_option maxHeartbeats 4000000 in
theorem moves_play (h : PlayAt w0 w sb bb hb pb rb b0 n) (hn : n ≤ 900000000000) (who tag num : Int) (hnum : num ≤ 9223372036854775807) (pa ma : Option Addr) (pc nm mc : Nat) (l : List Pk) (hp : Sees w0 pa (flat l)) (hsm : ∀ x ∈ l, x.n ≤ 9223372036854775807) (hll : l.length ≤ 1000000000000) :
    Calls Tryz.prog 12 #[.pointer (some ⟨sb, 0, none⟩), .agg #[.int .i64 3, .int .i64 who, .int .i64 tag, .int .i64 num, .slice pa l.length pc, .slice ma nm mc]] w fun e w' => e = .returned (.bool true) ∧ PlayAt w0 w' sb bb hb pb rb b0 n := by
  obtain ⟨P, H0, H, S, B, H0', H', S', T, U, T', U', h, hl, hf⟩ := h
  obtain ⟨w1, hw1⟩ : ∃ w1, w1 = w.alloc (.cells #[.int .i64 3, .int .i64 who, .int .i64 tag, .int .i64 num, .slice pa l.length pc, .slice ma nm mc] 54) := ⟨_, rfl⟩
  obtain ⟨tb, htb⟩ : ∃ tb, tb = w.heap.size := ⟨_, rfl⟩
  have k1 : Keep [] w w1 := by rw [hw1]; exact (Keep.refl _ _).alloc _
  have z1 : w1.heap.size = w.heap.size + 1 := by rw [hw1]; simp
  have b1 : w1.heap[tb]? = some (.cells #[.int .i64 3, .int .i64 who, .int .i64 tag, .int .i64 num, .slice pa l.length pc, .slice ma nm mc] 54 (0, 0)) := by rw [hw1, htb]; exact alloc_new _ _
  have HM := Lib.hid h
  have K1 := Lib.hid k1
  have B1 := Lib.hid b1
  have y0 := (cell_of b1 0).trans rfl
  have y4 := fun o => (cell_of (alloc_some o b1) 4).trans rfl
  have OF := Lib.hid (And.intro (h.offs.1 tb (by omega)) h.offs.2.2)
  have S0 := Lib.hid (hp.keep0 (h.kept.trans k1))
  have HS := Lib.hid hp
  have SM := Lib.hid hsm
  have PL := Lib.hid hl
  have HF := Lib.hid hf
  obtain ⟨i0, hi0, hz0, hz1, hz2⟩ := info_parts Pick.infoP
  have HI := Lib.hid hi0
  have HZ := Lib.hid (And.intro hz0 (And.intro hz1 hz2))
  have fl := Pick.flat_length l
  have ONE : Hid (∀ u ∈ flat l, u.oneCell' = true) := Lib.hid (fun u hu => by
    obtain ⟨p, -, hu⟩ := List.mem_flatMap.1 hu
    exact Pick.one_cells p u hu)
  obtain ⟨ln, hln⟩ : ∃ x, x = l.length := ⟨_, rfl⟩
  have LN := Lib.hid hln
  have d1 := Lib.hid (show ln ≤ maxLen by unfold maxLen; omega)
  have d2 := Lib.hid (show ln * 24 ≤ 140737488355328 by omega)
  have SZ := Lib.hid (And.intro z1 htb)
  rw [← hln] at hw1 b1 y4 hll fl ⊢
  have FL := Lib.hid fl
  have B2 := Lib.hid b1
  clear fl B1 h hl hf k1 b1 hp hsm hi0 hz0 hz1 hz2 hln z1
  go_enter Tryz.func12, Tryz.ntmps12
  go_upto_region 1 with fail
  rw [show w.alloc (.cells #[.int .i64 3, .int .i64 who, .int .i64 tag, .int .i64 num, .slice pa ln pc, .slice ma nm mc] 54 (0, 0)) = w1 from hw1.symm, ← htb]
  clear hw1 htb
  go_wp2_with (at_builtin; refine wpList_copyE (w := w1) rfl _ _ 51 rfl 119 i0 _ 3 24 Tryz.underlying51 HI.out HZ.out.1 HZ.out.2.1 HZ.out.2.2 rfl (by decide) rfl rfl pa ln pc (flat l) rfl FL.out S0.out ONE.out d1.out d2.out ?_)
  intro a7 c7 w7 hc7
  have C7 := Lib.hid hc7
  have K7 := Lib.hid (hc7.keep.drew)
  have M7 := Lib.hid (HM.out.frame0 (K1.out.trans hc7.keep.drew))
  have off7 : ∀ g o, a7 = some ⟨g, o, none⟩ → w.heap.size < g ∧ g < w7.drew.heap.size := fun g o e => by
    have q := hc7.own.lt g (by rw [e]; rfl)
    have := SZ.out.1
    exact ⟨by omega, q.2⟩
  have O7 := Lib.hid off7
  have b7 := K7.out.old B2.out (by simp)
  have B7 := Lib.hid b7
  have y3 := (cell_of b7 3).trans rfl
  have s0 := (cell_of M7.out.hrec 0).trans rfl
  clear hc7 y0 y4 off7 b7
  by_cases hneg : num < 0
  · go_wp2_with fail
    go_region_held3 (fun w' => w'.cell? ⟨tb, 3, none⟩ = some (.int .i64 num) ∧ w'.cell? ⟨sb, 0, none⟩ = some (.pointer (some ⟨hb, 0, none⟩))) (go_keep)
      (first | (go_at_call 35; refine (Har.play_neg num hneg _ _ _).mono ?_; rintro e w2 ⟨rfl, hw2⟩; have K2 : Hid (Keep [] w7 w2) := Lib.hid (by rw [← hw2]; exact (Keep.refl _ _).drew); have z3 := K2.out.cell y3 (by simp); have z0 := K2.out.cell s0 (by simp); clear hw2))
    have M2 := Lib.hid (HM.out.frame0 (K1.out.trans (C7.out.keep.trans K2.out)))
    have b2 := (C7.out.keep.trans K2.out).old B2.out (by simp)
    have z4 := (cell_of b2 4).trans rfl
    have z2 := (cell_of M2.out.hrec 2).trans rfl
    clear b2
    go_wp2_with fail
    go_region_held3 (fun w' => w'.cell? ⟨tb, 3, none⟩ = some (.int .i64 num) ∧ w'.cell? ⟨tb, 4, none⟩ = some (.slice pa ln pc) ∧ w'.cell? ⟨sb, 2, none⟩ = some (.pointer (some ⟨rb, 0, none⟩))) (go_keep)
      (first | (go_at_call 36; refine (Ref.play_neg _ _ num hneg _ _ _).mono ?_; rintro e w3 ⟨rfl, hw3⟩; have K3 : Hid (Keep [] w2 w3) := Lib.hid (by rw [← hw3]; exact (Keep.refl _ _).drew); have v3 := K3.out.cell z3 (by simp); have v4 := K3.out.cell z4 (by simp); have v2 := K3.out.cell z2 (by simp); clear hw3))
    have M3 := Lib.hid (M2.out.frame0 K3.out)
    have G3 : Hid (Sees w3 a7 (flat l)) := Lib.hid ((sees_of C7.out.own).keep0 (K2.out.trans K3.out))
    go_wp2_with fail
    rw [LN.out]
    refine (samePk G3.out (HS.out.keep0 M3.out.kept) (by have := LN.out; omega)).mono ?_
    rintro e w4 ⟨rfl, hw4⟩
    have K4 := Lib.hid (keep_of_drewN hw4)
    clear hw4
    go_wp2_with fail
    exact bodyPost_ret (results_tmp rfl _ _ _) rfl ⟨rfl, P, H0, H, S, B, H0', H', S', T, U, T', U', M3.out.frame0 K4.out, PL.out, HF.out⟩
  · obtain ⟨bud, rfl⟩ : ∃ bud : Nat, num = bud := ⟨num.toNat, by omega⟩
    have hbud : bud ≤ 9223372036854775807 := by omega
    obtain ⟨an1, an2⟩ := PL.out.answer bud l
    obtain ⟨x, hx⟩ : ∃ x, x = Har.playN bud (playC (machs P) l ⟨H, S, bud, false⟩) := ⟨_, rfl⟩
    obtain ⟨er, her⟩ : ∃ x, x = Har.playE (playC (machs P) l ⟨H, S, bud, false⟩) := ⟨_, rfl⟩
    rw [← hx] at an1
    rw [← her] at an2
    have AN := Lib.hid (And.intro hx (And.intro her (And.intro an1 an2)))
    clear hx her an1 an2 hneg hnum
    go_wp2_with fail
    go_region_held3 (fun w' => w'.cell? ⟨tb, 3, none⟩ = some (.int .i64 (bud : Int)) ∧ w'.cell? ⟨sb, 0, none⟩ = some (.pointer (some ⟨hb, 0, none⟩))) (go_keep)
      (first | (go_at_call 35; obtain ⟨hq, vs, ve, vd, hS, hU⟩ := M7.out.p.har; rw [LN.out]; refine (Har.play hS bud hbud a7 c7 l (sees_handed (sees_of (show w7.drew.ownsRow _ _ 3 (.slice a7 l.length c7) l.length _ from by have := C7.out.own.drew; rw [LN.out] at this; exact this)) (fun g o e => ⟨by rw [← hU]; exact (HM.out.offs.1 g (Nat.le_of_lt (O7.out g o e).1)).1, (O7.out g o e).2⟩) SM.out) (by have := LN.out; omega)).mono ?_; rintro e w2 ⟨he, hS2⟩; rw [← AN.out.1, ← AN.out.2.1] at he; subst he; obtain ⟨U1, hp, k2, hn2⟩ := M7.out.prog hS2; have M2 := Lib.hid hp; have K2 := Lib.hid k2; have z3 := k2.cell (show w7.drew.cell? ⟨tb, 3, none⟩ = _ from y3) OF.out.1.1; have z0 := k2.cell (show w7.drew.cell? ⟨sb, 0, none⟩ = _ from s0) OF.out.2.1; clear hS hU hS2 hp k2 hn2))
    have b2 := K2.out.old (show w7.drew.heap[tb]? = _ from B7.out) OF.out.1.1
    have B3 := Lib.hid b2
    have z4 := (cell_of b2 4).trans rfl
    have z2 := (cell_of M2.out.hrec 2).trans rfl
    clear b2
    go_wp2_with fail
    go_region_held3 (fun w' => w'.cell? ⟨tb, 3, none⟩ = some (.int .i64 (bud : Int)) ∧ w'.cell? ⟨tb, 4, none⟩ = some (.slice pa ln pc) ∧ w'.cell? ⟨sb, 2, none⟩ = some (.pointer (some ⟨rb, 0, none⟩))) (go_keep)
      (first | (go_at_call 36; rw [LN.out]; have MX := Lib.hid (M2.out.frame0 ((Keep.refl [] w2).drew)); refine (play_any MX.out.d.rs bud hbud pa pc l (HS.out.keep0 MX.out.kept) (fun hne g o e => ⟨(MX.out.offs.2.1 g (picks_off HS.out hne e)).2, Nat.lt_of_lt_of_le (picks_off HS.out hne e) MX.out.kept.size⟩) SM.out (by have := LN.out; omega)).mono ?_; rintro e w3 ⟨he, hr⟩; rw [← AN.out.2.2.1, ← AN.out.2.2.2] at he; subst he; obtain ⟨U2, hp, k3, hn3⟩ := MX.out.doc hr; have M3 := Lib.hid hp; have K3 := Lib.hid k3; have v3 := k3.cell (show w2.drew.cell? ⟨tb, 3, none⟩ = _ from z3) OF.out.1.2; have v4 := k3.cell (show w2.drew.cell? ⟨tb, 4, none⟩ = _ from z4) OF.out.1.2; have v2 := k3.cell (show w2.drew.cell? ⟨sb, 2, none⟩ = _ from z2) OF.out.2.2; clear hr hp k3 hn3))
    have G3 : Hid (Sees w3 a7 (flat l)) := Lib.hid (by
      have q := sees_of (show w7.drew.ownsRow _ _ 3 (.slice a7 ln c7) ln _ from C7.out.own.drew)
      exact ((q.keep K2.out fun g o e => (HM.out.offs.1 g (Nat.le_of_lt (O7.out g o e).1)).1).keep0 ((Keep.refl [] w2).drew)).keep K3.out fun g o e => (HM.out.offs.1 g (Nat.le_of_lt (O7.out g o e).1)).2)
    go_wp2_with fail
    rw [LN.out]
    refine (samePk G3.out (HS.out.keep0 M3.out.kept) (by have := LN.out; omega)).mono ?_
    rintro e w4 ⟨rfl, hw4⟩
    have K4 := Lib.hid (keep_of_drewN hw4)
    clear hw4
    go_wp2_with fail
    refine bodyPost_ret (results_tmp rfl _ _ _) rfl ⟨rfl, ?_⟩
    exact ⟨P, H0, _, _, B, H0', _, _, T, U1, T', U2, M3.out.frame0 K4.out, PL.out.play bud l, by rw [play_few]; exact HF.out⟩
end
end Go.Proofs.YtdkdeiofjoccnaaGreat.Ref

/- moves: a step of a thread by hand; Submit, on both sides. -/
namespace Go.Proofs.YtdkdeiofjoccnaaGreat.Ref
open Go.RowKit Go.Proofs.YtdkdeiofjoccnaaGreat.Mem Go.Proofs.YtdkdeiofjoccnaaGreat.Har Go.Proofs.YtdkdeiofjoccnaaGreat.Lit Go.Proofs.YtdkdeiofjoccnaaGreat.Ar Go.Proofs.YtdkdeiofjoccnaaGreat.Un
open Go.Proofs.YtdkdeiofjoccnaaGreat.Pick (Pk flat)
set_option linter.unusedVariables false
set_option linter.unusedSimpArgs false
set_option maxRecDepth 100000

section
variable {w0 w : World} {sb bb hb pb rb b0 n : Nat}
theorem EvenS.len {P : Park} {S : St} {S' : RP} (h : EvenS P S S') : S'.ths.length = P.seats.length := by rw [← h.ths]; exact h.lths

theorem stand_of {P : Park} {H0 H : Har.Har} {S : St} {T U : List Nat} (h : ProgS w0 w bb hb P H0 H S T U) : Stand P w S := by
  obtain ⟨hq, vs, ve, vd, hS, -⟩ := h.har
  exact hS.mach
set_option maxHeartbeats 4000000 in
theorem moves_thread (h : PlayAt w0 w sb bb hb pb rb b0 n) (who tag num : Int) (pa ma : Option Addr) (np pc nm mc : Nat) :
    Calls Tryz.prog 12 #[.pointer (some ⟨sb, 0, none⟩), .agg #[.int .i64 10, .int .i64 who, .int .i64 tag, .int .i64 num, .slice pa np pc, .slice ma nm mc]] w fun e w' => e = .returned (.bool true) ∧ PlayAt w0 w' sb bb hb pb rb b0 n := by
  obtain ⟨P, H0, H, S, B, H0', H', S', T, U, T', U', h, hl, hf⟩ := h
  obtain ⟨w1, hw1⟩ : ∃ w1, w1 = w.alloc (.cells #[.int .i64 10, .int .i64 who, .int .i64 tag, .int .i64 num, .slice pa np pc, .slice ma nm mc] 54) := ⟨_, rfl⟩
  obtain ⟨tb, htb⟩ : ∃ tb, tb = w.heap.size := ⟨_, rfl⟩
  have k1 : Keep [] w w1 := by rw [hw1]; exact (Keep.refl _ _).alloc _
  have b1 : w1.heap[tb]? = some (.cells #[.int .i64 10, .int .i64 who, .int .i64 tag, .int .i64 num, .slice pa np pc, .slice ma nm mc] 54 (0, 0)) := by rw [hw1, htb]; exact alloc_new _ _
  have M1 := Lib.hid (h.frame0 k1)
  have y0 := (cell_of b1 0).trans rfl
  have y3 := (cell_of b1 3).trans rfl
  have s1 := k1.cell (cell_of h.hrec 1) (by simp)
  have s3 := k1.cell (cell_of h.hrec 3) (by simp)
  have p1 := k1.cell h.d.prog.c1 (by simp)
  rw [hl.es.len] at p1
  have OF := Lib.hid (And.intro (h.offs.1 tb (by omega)) h.offs.2.2)
  have PL := Lib.hid hl
  have HF := Lib.hid hf
  have B1 := Lib.hid b1
  obtain ⟨ps, hps⟩ : ∃ n, n = P.seats.length := ⟨_, rfl⟩
  rw [← hps] at p1
  have hps4 : ps ≤ 4 := by rw [hps]; exact hl.few
  have HPS := Lib.hid hps
  have HT : Hid (∀ (wx : World) (i : Int), Keep [] w1 wx → Calls Tryz.prog 32 #[.pointer (some ⟨bb, 0, none⟩), .int .i64 i] wx fun e w' => e = .returned (.pointer (thrA P i)) ∧ w' = wx) := Lib.hid fun wx i k => (M1.out.frame0 k).p.rest.thread' (by have := PL.out.few; omega) i
  clear h hl hf k1 b1 hps
  by_cases hin : 0 ≤ num ∧ num < ps
  · obtain ⟨j, rfl⟩ : ∃ j : Nat, num = j := ⟨num.toNat, by omega⟩
    have hj : j < P.seats.length := by rw [← HPS.out]; omega
    have HJ := Lib.hid hj
    have TQ : Hid (∀ wx : World, Keep [] w1 wx → Calls Tryz.prog 32 #[.pointer (some ⟨bb, 0, none⟩), .int .i64 j] wx fun e w' => e = .returned (.pointer (some ⟨P.seats[j].tb, 0, none⟩)) ∧ w' = wx) := Lib.hid fun wx k => by have q := HT.out wx j k; rw [thrA_at hj] at q; exact q
    obtain ⟨th, hth⟩ : ∃ x, x = P.seats[j].tb := ⟨_, rfl⟩
    rw [← hth] at TQ
    have HTH := Lib.hid hth
    have hidx : P.idx (.pointer (some ⟨th, 0, none⟩)) = j := by
      obtain ⟨hq, vs, ve, vd, hS, -⟩ := M1.out.p.har
      have := Park.idx_at hS.mach.apart HJ.out
      rw [hth]
      exact this
    have stp : ((machs P).step S (.pointer (some ⟨th, 0, none⟩))).2 = (refStep S' j).2 ∧ EvenS P ((machs P).step S (.pointer (some ⟨th, 0, none⟩))).1 (refStep S' j).1 := by
      have q := PL.out.es.step HJ.out
      show (stepP P S (P.idx _)).2 = _ ∧ EvenS P (stepP P S (P.idx _)).1 _
      rw [hidx]
      exact ⟨q.2, q.1⟩
    have STP := Lib.hid stp
    obtain ⟨d, hd⟩ : ∃ d, d = (refStep S' j).2 := ⟨_, rfl⟩
    have HD := Lib.hid hd
    clear stp hidx hd
    have g0 : decide ((j : Int) < 0) = false := by simp
    have g1 : decide (ps ≤ j) = false := by simp; omega
    clear hin hj hth
    go_enter Tryz.func12, Tryz.ntmps12
    go_upto_region 1 with fail
    rw [show w.alloc (.cells #[.int .i64 10, .int .i64 who, .int .i64 tag, .int .i64 (j : Int), .slice pa np pc, .slice ma nm mc] 54 (0, 0)) = w1 from hw1.symm, ← htb]
    clear hw1 htb
    go_upto_region 26 with fail
    go_quiet (fail)
    generalize hwy : World.drewN w1 _ = wy
    have ky : Keep [] w1 wy := by rw [← hwy]; exact (Keep.refl _ _).drewN _
    have KY := Lib.hid ky
    have z3 := ky.cell y3 (by simp)
    have z1 := ky.cell s1 (by simp)
    clear hwy ky y0 y3 s1
    go_wp2_with fail
    go_quiet ((go_at_call 32; exact Calls.quiet_of_same (TQ.out _ (KY.out.drewN _))))
    generalize hwz : World.drewN wy _ = wz
    have kz : Keep [] w1 wz := by rw [← hwz]; exact KY.out.drewN _
    have KZ := Lib.hid kz
    have MZ := Lib.hid (M1.out.frame0 (kz.drew))
    have bz := kz.old B1.out (by simp)
    have v3 := (cell_of bz 3).trans rfl
    have t3 := kz.cell s3 (by simp)
    clear hwz kz z3 z1 bz s3
    go_wp2_with fail
    go_region_held3 (fun w' => w'.cell? ⟨tb, 3, none⟩ = some (.int .i64 (j : Int)) ∧ w'.cell? ⟨sb, 3, none⟩ = some (.pointer (some ⟨pb, 0, none⟩))) (go_keep)
      (first
        | (go_at_call 39; refine ((machs P).calls (s := S) (v := .pointer (some ⟨th, 0, none⟩)) (show Stand P wz.drew S from stand_of MZ.out.p) ⟨j, HJ.out, by rw [HTH.out]; rfl⟩).mono ?_; rintro e w2 ⟨he, hst, k2⟩; rw [STP.out.1, ← HD.out] at he; subst he; have M2 := Lib.hid (MZ.out.progHand hst k2); have u3 := k2.cell (show wz.drew.cell? ⟨tb, 3, none⟩ = _ from v3) (fun hm => OF.out.1.1 (List.mem_append_right _ hm)); have r3 := k2.cell (show wz.drew.cell? ⟨sb, 3, none⟩ = _ from t3) (fun hm => OF.out.2.1 (List.mem_append_right _ hm)); clear hst k2)
        | (go_at_call 40; refine (Ref.step_any M2.out.d.prog j (by rw [PL.out.es.len]; exact HJ.out)).mono ?_; rintro e w3 ⟨he, hp, k3⟩; rw [← HD.out] at he; subst he; have M3 := Lib.hid (M2.out.docHand hp (refStep_len S' j).1 k3); have u4 := k3.cell u3 (fun hm => OF.out.1.2 (List.mem_append_right _ hm)); have r4 := k3.cell r3 (fun hm => OF.out.2.2 (List.mem_append_right _ hm)); clear hp k3))
    go_wp2_with fail
    refine bodyPost_ret (results_tmp rfl _ _ _) rfl ⟨by cases d <;> rfl, ?_⟩
    exact ⟨P, H0, H, _, B, H0', H', _, T, U, T', U', M3.out, ⟨STP.out.2, PL.out.e0, PL.out.eh, PL.out.few⟩, HF.out⟩
  · have hnone := thrA_none (P := P) (i := num) (by rw [← HPS.out]; exact hin)
    have TQ : Hid (∀ wx : World, Keep [] w1 wx → Calls Tryz.prog 32 #[.pointer (some ⟨bb, 0, none⟩), .int .i64 num] wx fun e w' => e = .returned (.pointer none) ∧ w' = wx) := Lib.hid fun wx k => by have q := HT.out wx num k; rw [hnone] at q; exact q
    clear hnone
    by_cases hneg : num < 0
    · have g0 : decide (num < 0) = true := by simpa using hneg
      clear hin hneg
      go_enter Tryz.func12, Tryz.ntmps12
      go_upto_region 1 with fail
      rw [show w.alloc (.cells #[.int .i64 10, .int .i64 who, .int .i64 tag, .int .i64 num, .slice pa np pc, .slice ma nm mc] 54 (0, 0)) = w1 from hw1.symm, ← htb]
      clear hw1 htb
      go_upto_region 26 with fail
      go_quiet (fail)
      generalize hwy : World.drewN w1 _ = wy
      have ky : Keep [] w1 wy := by rw [← hwy]; exact (Keep.refl _ _).drewN _
      have KY := Lib.hid ky
      have z3 := ky.cell y3 (by simp)
      have z1 := ky.cell s1 (by simp)
      clear hwy ky y0 y3 s1
      go_wp2_with fail
      go_quiet ((go_at_call 32; exact Calls.quiet_of_same (TQ.out _ (KY.out.drewN _))))
      go_wp2_with fail
      exact bodyPost_ret (results_tmp rfl _ _ _) rfl ⟨rfl, P, H0, H, S, B, H0', H', S', T, U, T', U', M1.out.frame0 (KY.out.drewN _), PL.out, HF.out⟩
    · have g0 : decide (num < 0) = false := by simpa using hneg
      have g1 : decide ((ps : Int) ≤ num) = true := by simp; omega
      clear hin hneg
      go_enter Tryz.func12, Tryz.ntmps12
      go_upto_region 1 with fail
      rw [show w.alloc (.cells #[.int .i64 10, .int .i64 who, .int .i64 tag, .int .i64 num, .slice pa np pc, .slice ma nm mc] 54 (0, 0)) = w1 from hw1.symm, ← htb]
      clear hw1 htb
      go_upto_region 26 with fail
      go_quiet (fail)
      generalize hwy : World.drewN w1 _ = wy
      have ky : Keep [] w1 wy := by rw [← hwy]; exact (Keep.refl _ _).drewN _
      have KY := Lib.hid ky
      have z3 := ky.cell y3 (by simp)
      have z1 := ky.cell s1 (by simp)
      clear hwy ky y0 y3 s1
      go_wp2_with fail
      go_quiet ((go_at_call 32; exact Calls.quiet_of_same (TQ.out _ (KY.out.drewN _))))
      go_wp2_with fail
      exact bodyPost_ret (results_tmp rfl _ _ _) rfl ⟨rfl, P, H0, H, S, B, H0', H', S', T, U, T', U', M1.out.frame0 (KY.out.drewN _), PL.out, HF.out⟩
end
end Go.Proofs.YtdkdeiofjoccnaaGreat.Ref

/- Submit on both sides, whatever comes of it. -/
namespace Go.Proofs.YtdkdeiofjoccnaaGreat.Ref
open Go.RowKit Go.Proofs.YtdkdeiofjoccnaaGreat.Mem Go.Proofs.YtdkdeiofjoccnaaGreat.Har Go.Proofs.YtdkdeiofjoccnaaGreat.Lit Go.Proofs.YtdkdeiofjoccnaaGreat.Ar Go.Proofs.YtdkdeiofjoccnaaGreat.Un
set_option linter.unusedVariables false
set_option linter.unusedSimpArgs false
set_option maxRecDepth 100000

def subE (H : Har.Har) (who : Int) (k : Nat) : Int := if 0 ≤ who ∧ who < H.queues.length then (if 64 < Har.pend H who + k then 32 else 0) else 31
def subH (H : Har.Har) (who : Int) (js : List Job) : Har.Har := if subE H who js.length = 0 then H.put who.toNat (H.queues.getD who.toNat [] ++ js) else H
theorem dueQ_ge : ∀ q : List Job, q.length ≤ dueQ q
  | [] => by simp [dueQ]
  | j :: q => by
    have := dueQ_ge q
    unfold dueQ at this ⊢
    simp only [List.map_cons, List.sum_cons, List.length_cons]
    have : 1 ≤ j.due := by unfold Job.due; split <;> omega
    omega
theorem sum_ge : ∀ (l : List Nat) (k : Nat), l.getD k 0 ≤ l.sum
  | [], k => by simp
  | x :: l, 0 => by simp
  | x :: l, k + 1 => by
    have := sum_ge l k
    simp only [List.getD_cons_succ, List.sum_cons]
    omega
theorem pend_due (H : Har.Har) (who : Int) : pend H who ≤ Har.due H := by
  unfold pend
  split
  · have h1 := sum_ge (H.queues.map dueQ) who.toNat
    have h2 := dueQ_ge (H.queues.getD who.toNat [])
    have h3 : (H.queues.map dueQ).getD who.toNat 0 = dueQ (H.queues.getD who.toNat []) := by
      simp only [List.getD_eq_getElem?_getD, List.getElem?_map]
      cases H.queues[who.toNat]? <;> simp [dueQ]
    unfold Har.due
    omega
  · omega
theorem sub_ok {H : Har.Har} {who : Int} {k : Nat} (h : subE H who k = 0) : ∃ q : Nat, who = q ∧ q < H.queues.length ∧ pend H q + k ≤ 64 := by
  unfold subE at h
  split at h
  · rename_i h1
    split at h
    · simp at h
    · refine ⟨who.toNat, by omega, by omega, ?_⟩
      rw [show ((who.toNat : Nat) : Int) = who by omega]
      omega
  · simp at h

section
variable {w : World} {hb rb pb : Nat} {P : Park} {H : Har.Har} {S : St} {B : RB} {H' : Har.Har} {S' : RP} {U U' : List Nat} {hq : Nat} {vs : List Value} {ve vd : Value}
theorem adrs_ok {P : Park} {l : List Nat} (h : ∀ q ∈ l, q < P.seats.length) : ∀ m ∈ adrs P l, ∃ (i : Nat) (hi : i < P.seats.length), (Value.pointer (some m)) = ptr P.seats[i].tb := by
  intro m hm
  obtain ⟨q, hq, rfl⟩ := List.mem_map.1 hm
  refine ⟨q, h q hq, ?_⟩
  rw [thrA_at (h q hq)]
  rfl
theorem submitP (hS : Since (machs P) w U w hb hq vs ve vd H S) (hU : U = Har.blocks hb hq (ve :: vd :: vs)) (who tag : Int) (a : Option Addr) (cap : Nat) (ns : List Nat) (hm : Machs w (U ++ P.all) a (adrs P ns)) (hok : ∀ q ∈ ns, q < P.seats.length) (hfew : H.events.length + Har.due H ≤ 900000000000) (hl : ns.length ≤ 1000000000000) :
    Calls Tryz.prog 28 #[.pointer (some ⟨hb, 0, none⟩), .int .i64 who, .int .i64 tag, .slice a ns.length cap] w fun e w' => e = .returned (.int .i64 (subE H who ns.length)) ∧ Stands (machs P) w U w' hb (subH H who (jobsOf tag 0 (adrs P ns))) S := by
  have hla : (adrs P ns).length = ns.length := List.length_map _
  have hlj : (jobsOf tag 0 (adrs P ns)).length = ns.length := by rw [jobsOf_length, hla]
  have hp := pend_due H who
  by_cases h1 : 0 ≤ who ∧ who < H.queues.length
  · obtain ⟨k, rfl⟩ : ∃ k : Nat, who = k := ⟨who.toNat, by omega⟩
    have hk : k < H.queues.length := by omega
    by_cases h2 : 64 < pend H k + ns.length
    · refine (Har.submit_full hS.at_ k hk tag a ns.length cap hl (by omega) h2).mono ?_
      rintro e w' ⟨rfl, rfl⟩
      have e1 : subE H k ns.length = 32 := by unfold subE; rw [if_pos h1, if_pos h2]
      refine ⟨by rw [e1], ?_⟩
      unfold subH
      rw [hlj, e1, if_neg (by decide)]
      exact ⟨hq, vs, ve, vd, hS⟩
    · have hq1 : (adrs P ns).length ≤ 64 - pend H k := by omega
      have := Har.submit hS k hk tag a cap (adrs P ns) (by rw [← hU]; exact hm) (adrs_ok hok) hq1 (by omega) (by omega)
      rw [hla] at this
      refine this.mono ?_
      rintro e w' ⟨rfl, h3⟩
      have e1 : subE H k ns.length = 0 := by unfold subE; rw [if_pos h1, if_neg h2]
      refine ⟨by rw [e1], ?_⟩
      unfold subH
      rw [hlj, e1, if_pos rfl, Int.toNat_natCast, List.getD_eq_getElem?_getD, List.getElem?_eq_getElem hk]
      exact h3
  · refine (Har.submit_who hS.at_ who tag h1 _).mono ?_
    rintro e w' ⟨rfl, rfl⟩
    have e1 : subE H who ns.length = 31 := by unfold subE; rw [if_neg h1]
    refine ⟨by rw [e1], ?_⟩
    unfold subH
    rw [hlj, e1, if_neg (by decide)]
    exact ⟨hq, vs, ve, vd, hS⟩
theorem submitR (h : RS w U' w rb pb B H' S') (who tag : Int) (a : Option Addr) (cap : Nat) (ns : List Nat) (hm : Nums w (U' ++ B.mem) a ns) (hok : ∀ q ∈ ns, q < S'.ths.length) (hfew : H'.events.length + Har.due H' ≤ 900000000000) (hl : ns.length ≤ 1000000000000) :
    Calls Tryz.prog 30 #[.pointer (some ⟨rb, 0, none⟩), .int .i64 who, .int .i64 tag, .slice a ns.length cap] w fun e w' => e = .returned (.int .i64 (subE H' who ns.length)) ∧ RS w U' w' rb pb B (subH H' who (jobsR tag 0 ns)) S' := by
  have hlj : (jobsR tag 0 ns).length = ns.length := jobsR_length tag ns 0
  have hp := pend_due H' who
  by_cases h1 : 0 ≤ who ∧ who < H'.queues.length
  · obtain ⟨k, rfl⟩ : ∃ k : Nat, who = k := ⟨who.toNat, by omega⟩
    have hk : k < H'.queues.length := by omega
    by_cases h2 : 64 < pend H' k + ns.length
    · refine (Ref.submit_full h k hk tag a ns.length cap hl (by omega) h2).mono ?_
      rintro e w' ⟨rfl, rfl⟩
      have e1 : subE H' k ns.length = 32 := by unfold subE; rw [if_pos h1, if_pos h2]
      refine ⟨by rw [e1], ?_⟩
      unfold subH
      rw [hlj, e1, if_neg (by decide)]
      exact h
    · refine (Ref.submit h k hk tag a cap ns hm hok (by omega) (by omega)).mono ?_
      rintro e w' ⟨rfl, h3⟩
      have e1 : subE H' k ns.length = 0 := by unfold subE; rw [if_pos h1, if_neg h2]
      refine ⟨by rw [e1], ?_⟩
      unfold subH
      rw [hlj, e1, if_pos rfl, Int.toNat_natCast]
      exact h3
  · refine (submit_worker h who tag ⟨?_, h1⟩ _).mono ?_
    · unfold pend
      split
      · rw [List.getD_eq_getElem?_getD, List.getElem?_eq_none (by omega)]
        rfl
      · rfl
    rintro e w' ⟨rfl, rfl⟩
    have e1 : subE H' who ns.length = 31 := by unfold subE; rw [if_neg h1]
    refine ⟨by rw [e1], ?_⟩
    unfold subH
    rw [hlj, e1, if_neg (by decide)]
    exact h
/-- what was handed in alike is alike -/
theorem even_sub (hap : ∀ k k', k ≠ k' → ∀ x ∈ P.own k, x ∉ P.own k') (h : EvenH P H H') (who tag : Int) (ns : List Nat) (hok : ∀ q ∈ ns, q < P.seats.length) :
    subE H who ns.length = subE H' who ns.length ∧ EvenH P (subH H who (jobsOf tag 0 (adrs P ns))) (subH H' who (jobsR tag 0 ns)) ∧ (subH H' who (jobsR tag 0 ns)).events.length + Har.due (subH H' who (jobsR tag 0 ns)) ≤ H'.events.length + Har.due H' + 128 := by
  have hla : (adrs P ns).length = ns.length := List.length_map _
  have hlj : (jobsOf tag 0 (adrs P ns)).length = ns.length := by rw [jobsOf_length, hla]
  have hlr : (jobsR tag 0 ns).length = ns.length := jobsR_length tag ns 0
  have e0 : subE H who ns.length = subE H' who ns.length := by unfold subE; rw [h.len, h.pend]
  refine ⟨e0, ?_⟩
  unfold subH
  rw [hlj, hlr, e0]
  split
  · rename_i hz
    obtain ⟨q, rfl, hq, hp⟩ := sub_ok hz
    rw [Int.toNat_natCast]
    have hqH : q < H.queues.length := by rw [h.len]; exact hq
    refine ⟨⟨⟨fun l hl j hj => ?_, h.all.2⟩, ⟨fun l hl j hj => ?_, h.all'.2⟩, h.steps, h.events, ?_, h.ended⟩, ?_⟩
    · rcases List.mem_or_eq_of_mem_set hl with hl | rfl
      · exact h.all.1 l hl j hj
      · rcases List.mem_append.1 hj with hj | hj
        · rw [List.getD_eq_getElem?_getD, List.getElem?_eq_getElem hqH] at hj
          exact h.all.1 _ (List.getElem_mem hqH) j hj
        · refine jobsOf_mem tag (Q := OkP P) (adrs P ns) 0 (fun m hm => ?_) j hj
          obtain ⟨i, hi, e⟩ := adrs_ok hok m hm
          refine ⟨i, hi, e, ?_⟩
          rw [e]
          exact Park.idx_at hap hi
    · rcases List.mem_or_eq_of_mem_set hl with hl | rfl
      · exact h.all'.1 l hl j hj
      · rcases List.mem_append.1 hj with hj | hj
        · rw [List.getD_eq_getElem?_getD, List.getElem?_eq_getElem hq] at hj
          exact h.all'.1 _ (List.getElem_mem hq) j hj
        · obtain ⟨i, e, -⟩ := jobsR_ok tag (n := P.seats.length) ns 0 hok j hj
          exact ⟨i, e⟩
    · unfold Har.put
      simp only [List.map_set]
      rw [h.queues, List.map_append, List.map_append, jobs_even P tag hap ns 0 hok]
      congr 1
      congr 1
      have hk := congrArg (fun l : List (List (Nat × Int × Bool)) => l[q]?) h.queues
      simp only [List.getElem?_map, List.getElem?_eq_getElem hqH, List.getElem?_eq_getElem hq, Option.map_some, Option.some.injEq] at hk
      rw [List.getD_eq_getElem?_getD, List.getElem?_eq_getElem hqH, List.getD_eq_getElem?_getD, List.getElem?_eq_getElem hq]
      exact hk
    · have h1 := due_put H' hq (H'.queues.getD q [] ++ jobsR tag 0 ns)
      rw [dueQ_append, jobsR_due] at h1
      rw [List.getD_eq_getElem?_getD, List.getElem?_eq_getElem hq] at h1 ⊢
      simp only [Option.getD_some] at h1 ⊢
      show H'.events.length + _ ≤ _
      omega
  · exact ⟨h, by omega⟩
end
end Go.Proofs.YtdkdeiofjoccnaaGreat.Ref

/- moves: Submit of a script, on both sides: the walk. -/
namespace Go.Proofs.YtdkdeiofjoccnaaGreat.Ref
open Go.RowKit Go.Proofs.YtdkdeiofjoccnaaGreat.Mem Go.Proofs.YtdkdeiofjoccnaaGreat.Har Go.Proofs.YtdkdeiofjoccnaaGreat.Lit Go.Proofs.YtdkdeiofjoccnaaGreat.Ar Go.Proofs.YtdkdeiofjoccnaaGreat.Un
set_option linter.unusedVariables false
set_option linter.unusedSimpArgs false
set_option maxRecDepth 100000

section
variable {w0 w : World} {sb bb hb pb rb b0 n : Nat}
theorem made_machs {w wr : World} {P : Park} {v1 : Value} {a : Option Addr} {q c : Nat} {l : List Nat} (h : Made2 w wr P v1 (.slice a q c) l) (hok : ∀ x ∈ l, x < P.seats.length) {T : List Nat} (hT : ∀ x, w.heap.size ≤ x → x < wr.heap.size → x ∉ T) : Machs wr T a (adrs P l) := by
  have hr := h.thrs
  have hq : q = l.length := by
    obtain ⟨a', c', e⟩ := row_form hr
    simp only [Value.slice.injEq] at e
    exact e.2.1
  subst hq
  refine ⟨fun i hi => ?_, fun g o e => ?_⟩
  · have hi' : i < l.length := by simpa [adrs] using hi
    obtain ⟨g, rfl, x0, -⟩ := row_cell hr (i := i) (by simpa using hi')
    refine ⟨g, 0, rfl, ?_⟩
    rw [Nat.zero_add, x0]
    simp only [List.getElem_map, adrs]
    rw [thrA_at (hok _ (List.getElem_mem hi'))]
    rfl
  · have hl := hr.lt g (by rw [e]; rfl)
    exact ⟨hT g hl.1 hl.2, hl.2⟩
theorem made_nums {w wr : World} {P : Park} {v2 : Value} {a : Option Addr} {q c : Nat} {l : List Nat} (h : Made2 w wr P (.slice a q c) v2 l) {T : List Nat} (hT : ∀ x, w.heap.size ≤ x → x < wr.heap.size → x ∉ T) : Nums wr T a l := by
  have hr := h.nums
  have hq : q = l.length := by
    obtain ⟨a', c', e⟩ := row_form hr
    simp only [Value.slice.injEq] at e
    exact e.2.1
  subst hq
  refine ⟨fun i hi => ?_, fun g o e => ?_⟩
  · obtain ⟨g, rfl, x0, -⟩ := row_cell hr (i := i) (by simpa using hi)
    refine ⟨g, 0, rfl, ?_⟩
    rw [Nat.zero_add, x0]
    simp
  · have hl := hr.lt g (by rw [e]; rfl)
    exact ⟨hT g hl.1 hl.2, hl.2⟩
theorem made_keep {w wr w' : World} {P : Park} {v1 v2 : Value} {l : List Nat} (h : Made2 w wr P v1 v2 l) {T : List Nat} (k : Keep T wr w') (hT : ∀ x, w.heap.size ≤ x → x < wr.heap.size → x ∉ T) : Made2 w w' P v1 v2 l :=
  ⟨Har.owns_block h.nums fun g hg => k.block g (h.nums.lt g hg).2 (hT g (h.nums.lt g hg).1 (h.nums.lt g hg).2), Har.owns_block h.thrs fun g hg => k.block g (h.thrs.lt g hg).2 (hT g (h.thrs.lt g hg).1 (h.thrs.lt g hg).2), h.ap⟩

set_option maxHeartbeats 4000000 in
theorem moves_submit (h : PlayAt w0 w sb bb hb pb rb b0 n) (hn : n ≤ 900000000000) (who tag num : Int) (pa ma : Option Addr) (np pc mc : Nat) (ms : List Int) (hms : Sees w0 ma (ms.map (.int .i64))) (hml : ms.length ≤ 1000000000000) :
    Calls Tryz.prog 12 #[.pointer (some ⟨sb, 0, none⟩), .agg #[.int .i64 1, .int .i64 who, .int .i64 tag, .int .i64 num, .slice pa np pc, .slice ma ms.length mc]] w fun e w' => e = .returned (.bool true) ∧ PlayAt w0 w' sb bb hb pb rb b0 (n + 128) := by
  obtain ⟨P, H0, H, S, B, H0', H', S', T, U, T', U', h, hl, hf⟩ := h
  obtain ⟨w1, hw1⟩ : ∃ w1, w1 = w.alloc (.cells #[.int .i64 1, .int .i64 who, .int .i64 tag, .int .i64 num, .slice pa np pc, .slice ma ms.length mc] 54) := ⟨_, rfl⟩
  obtain ⟨tb, htb⟩ : ∃ tb, tb = w.heap.size := ⟨_, rfl⟩
  have k1 : Keep [] w w1 := by rw [hw1]; exact (Keep.refl _ _).alloc _
  have b1 : w1.heap[tb]? = some (.cells #[.int .i64 1, .int .i64 who, .int .i64 tag, .int .i64 num, .slice pa np pc, .slice ma ms.length mc] 54 (0, 0)) := by rw [hw1, htb]; exact alloc_new _ _
  have M1 := Lib.hid (h.frame0 k1)
  have y0 := (cell_of b1 0).trans rfl
  have y5 := (cell_of b1 5).trans rfl
  have OF := Lib.hid (And.intro (h.offs.1 tb (by omega)) h.offs.2.2)
  have PL := Lib.hid hl
  have HF := Lib.hid hf
  have B1 := Lib.hid b1
  obtain ⟨ns, hns⟩ : ∃ x, x = thrN P.seats.length ms := ⟨_, rfl⟩
  have hnl : ns.length ≤ 1000000000000 := by rw [hns]; exact Nat.le_trans (thrN_len _ _) hml
  have hno : ∀ x ∈ ns, x < P.seats.length := by rw [hns]; exact thrN_lt _ _
  have TH := Lib.hid (threads ((cell_of M1.out.hrec 1).trans rfl) ((cell_of M1.out.hrec 3).trans rfl) M1.out.p.rest (by have := hl.few; omega) M1.out.d.prog hl.es.len ma mc ms (hms.keep0 M1.out.kept) hml)
  rw [← hns] at TH
  obtain ⟨ev1, ev2, ev3⟩ := even_sub (stand_of M1.out.p).apart hl.eh who tag ns hno
  have EV := Lib.hid (And.intro ev1 (And.intro ev2 ev3))
  obtain ⟨er, her⟩ : ∃ x, x = subE H who ns.length := ⟨_, rfl⟩
  have HE := Lib.hid (show er = subE H who ns.length ∧ er = subE H' who ns.length from ⟨her, her.trans ev1⟩)
  have HNO := Lib.hid (And.intro hnl hno)
  clear h hl hf k1 b1 hns ev1 ev2 ev3 her hnl hno
  go_enter Tryz.func12, Tryz.ntmps12
  go_upto_region 1 with fail
  rw [show w.alloc (.cells #[.int .i64 1, .int .i64 who, .int .i64 tag, .int .i64 num, .slice pa np pc, .slice ma ms.length mc] 54 (0, 0)) = w1 from hw1.symm, ← htb]
  clear hw1 htb
  go_wp2_with fail
  refine TH.out.mono ?_
  clear TH
  rintro e w2 ⟨v1, v2, rfl, hM, k2⟩
  obtain ⟨a1, p1, rfl⟩ := row_form hM.nums
  obtain ⟨a2, p2, rfl⟩ := row_form hM.thrs
  obtain ⟨q, hq⟩ : ∃ q, q = ns.length := ⟨_, rfl⟩
  have HQ := Lib.hid hq
  have MD : Hid (Made2 w1 w2 P (.slice a1 q p1) (.slice a2 q p2) ns) := Lib.hid (by rw [hq]; exact hM)
  rw [← hq]
  have K2 := Lib.hid k2
  have M2 := Lib.hid (M1.out.frame0 k2)
  have b2 := k2.old B1.out (by simp)
  have B2 := Lib.hid b2
  have x1 := (cell_of b2 1).trans rfl
  have x2 := (cell_of b2 2).trans rfl
  have t0 := (cell_of M2.out.hrec 0).trans rfl
  clear hM hq k2 b2 y0 y5
  go_wp2_with fail
  go_region_held3 (fun w' => w'.cell? ⟨tb, 1, none⟩ = some (.int .i64 who) ∧ w'.cell? ⟨tb, 2, none⟩ = some (.int .i64 tag) ∧ w'.cell? ⟨sb, 0, none⟩ = some (.pointer (some ⟨hb, 0, none⟩))) (go_keep)
    (first | (go_at_call 28; have MX := Lib.hid (M2.out.frame0 ((Keep.refl [] w2).drew)); have DX := Lib.hid (MD.out.keep ((Keep.refl [] w2).drew)); obtain ⟨hq, vs, ve, vd, hS, hU⟩ := MX.out.p.har; rw [HQ.out]; refine (submitP hS hU who tag a2 p2 ns (made_machs DX.out HNO.out.2 (fun x hx _ => (M1.out.offs.1 x hx).1)) HNO.out.2 (by have := HF.out; have e1 := PL.out.eh.events; have e2 := PL.out.eh.due; rw [e1, e2]; omega) HNO.out.1).mono ?_; rintro e w3 ⟨he, hS3⟩; rw [← HE.out.1] at he; subst he; obtain ⟨U1, hp, k3, hn3⟩ := MX.out.prog hS3; have M3 := Lib.hid hp; have K3 := Lib.hid k3; have N3 := Lib.hid hn3; have z1 := k3.cell (show w2.drew.cell? ⟨tb, 1, none⟩ = _ from x1) OF.out.1.1; have z2 := k3.cell (show w2.drew.cell? ⟨tb, 2, none⟩ = _ from x2) OF.out.1.1; have z0 := k3.cell (show w2.drew.cell? ⟨sb, 0, none⟩ = _ from t0) OF.out.2.1; have D3 := Lib.hid (made_keep DX.out k3 (fun x hx _ => (M1.out.offs.1 x hx).1)); clear hS hU hS3 hp k3 hn3))
  have t2 := (cell_of M3.out.hrec 2).trans rfl
  go_wp2_with fail
  go_region_held3 (fun w' => w'.cell? ⟨tb, 1, none⟩ = some (.int .i64 who) ∧ w'.cell? ⟨tb, 2, none⟩ = some (.int .i64 tag) ∧ w'.cell? ⟨sb, 2, none⟩ = some (.pointer (some ⟨rb, 0, none⟩))) (go_keep)
    (first | (go_at_call 30; have MY := Lib.hid (M3.out.frame0 ((Keep.refl [] w3).drew)); have DY := Lib.hid (D3.out.keep ((Keep.refl [] w3).drew)); refine (submitR MY.out.d.rs who tag a1 p1 ns (made_nums DY.out (fun x hx _ => (M1.out.offs.1 x hx).2)) (by rw [PL.out.es.len]; exact HNO.out.2) (by have := HF.out; omega) HNO.out.1).mono ?_; rintro e w4 ⟨he, hr⟩; rw [← HE.out.2] at he; subst he; obtain ⟨U2, hp, k4, hn4⟩ := MY.out.doc hr; have M4 := Lib.hid hp; have N4 := Lib.hid hn4; have D4 := Lib.hid (made_keep DY.out k4 (fun x hx _ => (M1.out.offs.1 x hx).2)); have u1 := k4.cell (show w3.drew.cell? ⟨tb, 1, none⟩ = _ from z1) OF.out.1.2; have u2 := k4.cell (show w3.drew.cell? ⟨tb, 2, none⟩ = _ from z2) OF.out.1.2; have u0 := k4.cell (show w3.drew.cell? ⟨sb, 2, none⟩ = _ from t2) OF.out.2.2; have KZ := Lib.hid (show w2.heap.size ≤ w3.heap.size from K3.out.size); clear hr hp k4 hn4))
  have ofv : ∀ x ∈ (Value.slice a2 q p2).ownBlock.toList, x ∉ T ++ U1 ∧ x ∉ T' ++ U2 ∧ x ≠ sb ∧ w0.heap.size ≤ x := by
    intro x hx
    have hb := MD.out.thrs.lt x (by simpa using hx)
    have l1 := M1.out.lt
    have l2 := lt_of M1.out.hrec
    have l3 := M1.out.kept.size
    have l4 := KZ.out
    refine ⟨fun hm => ?_, fun hm => ?_, by omega, by omega⟩
    · rcases List.mem_append.1 hm with hm | hm
      · have := l1.1 x (List.mem_append_left _ hm); omega
      · rcases N3.out x hm with h1 | h1
        · have := l1.1 x (List.mem_append_right _ h1); omega
        · have h2 : w2.heap.size ≤ x := h1
          omega
    · rcases List.mem_append.1 hm with hm | hm
      · have := l1.2 x (List.mem_append_left _ hm); omega
      · rcases N4.out x hm with h1 | h1
        · have := l1.2 x (List.mem_append_right _ h1); omega
        · have h2 : w3.heap.size ≤ x := h1
          omega
  have OFV := Lib.hid ofv
  have RW4 : Hid (w4.ownsRow 0 38 1 (.slice a2 q p2) q (ns.map fun i => .pointer (thrA P (i : Nat)))) := Lib.hid (by
    have := D4.out.thrs
    rw [← HQ.out] at this
    exact Pick.owns_mono this (Nat.zero_le _))
  have NW4 : Hid (w4.ownsRow 0 3 1 (.slice a1 q p1) q (ns.map fun i => .int .i64 (i : Nat))) := Lib.hid (by
    have := D4.out.nums
    rw [← HQ.out] at this
    exact Pick.owns_mono this (Nat.zero_le _))
  have AP := Lib.hid D4.out.ap
  have hql : q ≤ 1000000000000 := by rw [HQ.out]; exact HNO.out.1
  clear ofv u1 u2 u0 z1 z2 z0 x1 x2 t0 t2
  rw [← HQ.out]
  go_wp2_with fail
  go_loopw [10, 11] (fun sm i wr => ∃ (k : Nat) (ys : List Value), sm = .bool true ∧ i = .int .i64 k ∧ k ≤ q ∧ wr.ownsRow 0 38 1 (.slice a2 q p2) q ys ∧ ys.drop k = (ns.map fun i => Value.pointer (thrA P (i : Nat))).drop k ∧ Keep (Value.slice a2 q p2).ownBlock.toList w4 wr) (fun _ i _ => q - (intOf i).toNat)
  case atStart => exact ⟨0, _, rfl, rfl, Nat.zero_le _, RW4.out, rfl, Keep.refl _ _⟩
  case round =>
    obtain ⟨k, ys, rfl, rfl, hk, hR, hY, hK⟩ := hrel
    have RR := Lib.hid hR
    have YY := Lib.hid hY
    have KR := Lib.hid hK
    clear hR hY hK
    obtain ⟨wo, rfl⟩ : ∃ wo : World, wo = wr := ⟨_, rfl⟩
    have MR := Lib.hid (M4.out.frame KR.out OFV.out)
    by_cases hlt : k < q
    · have hkn : k < ns.length := by rw [← HQ.out]; exact hlt
      have hky : k < ys.length := by have := RR.out.1; omega
      have hj := HNO.out.2 _ (List.getElem_mem hkn)
      have hval : ys[k] = .pointer (thrA P (ns[k] : Nat)) := by
        have h1 := congrArg (fun l : List Value => l[0]?) YY.out
        simp only [List.getElem?_drop, Nat.add_zero, List.getElem?_map, List.getElem?_eq_getElem hky, List.getElem?_eq_getElem hkn, Option.map_some, Option.some.injEq] at h1
        exact h1
      obtain ⟨g, rfl, y0, y1⟩ := row_cell RR.out hky
      have NR := Har.owns_block NW4.out fun g' hg' => KR.out.block g' (NW4.out.lt g' hg').2 fun hm => AP.out g' hg' (by simpa using hm)
      obtain ⟨g', rfl, y2, -⟩ := row_cell NR (i := k) (by simpa using hkn)
      rw [List.getElem_map] at y2
      rw [hval, thrA_at hj] at y0
      obtain ⟨j, hjj⟩ : ∃ j, j = ns[k] := ⟨_, rfl⟩
      have TQ : Hid (∀ wx : World, Keep [] wo wx → Calls Tryz.prog 32 #[.pointer (some ⟨bb, 0, none⟩), .int .i64 (ns[k] : Nat)] wx fun e w' => e = .returned (.pointer (some ⟨P.seats[ns[k]].tb, 0, none⟩)) ∧ w' = wx) := Lib.hid fun wx kk => by
        have q := (MR.out.frame0 kk).p.rest.thread' (by have := PL.out.few; omega) (ns[k] : Nat)
        rw [thrA_at hj] at q
        exact q
      obtain ⟨th, hth⟩ : ∃ x, x = P.seats[ns[k]].tb := ⟨_, rfl⟩
      rw [← hth, ← hjj] at TQ
      rw [← hth] at y0
      rw [← hjj] at y2
      have heq := thread_eql ⟨th, 0, none⟩
      have s1 := (cell_of MR.out.hrec 1).trans rfl
      have HY2 : Hid (∀ v : Value, (ys.set k v).drop (k + 1) = (ns.map fun i => Value.pointer (thrA P (i : Nat))).drop (k + 1)) := Lib.hid fun v => by
        rw [List.drop_set_of_lt (by omega)]
        have h1 := congrArg (fun l : List Value => l.drop 1) YY.out
        simp only [List.drop_drop] at h1
        rw [Nat.add_comm] at h1
        simpa [Nat.add_comm] using h1
      clear hkn hky hj hval NR hjj hth
      go_upto_region 12 with fail
      go_quiet ((go_at_call 32; exact Calls.quiet_of_same (TQ.out _ ((Keep.refl _ _).drewN _))))
      generalize hwy : World.drewN wo _ = wy
      have ky : Keep [] wo wy := by rw [← hwy]; exact (Keep.refl _ _).drewN _
      have RY := Lib.hid (Har.owns_block RR.out fun g' hg' => ky.block g' (RR.out.lt g' hg').2 (by simp))
      have KY := Lib.hid (KR.out.trans (ky.mono (by simp)))
      have v0 := ky.cell y0 (by simp)
      have v1 : wy.frozen? ⟨g, k, none⟩ = false := by rw [← hwy]; exact y1
      clear hwy ky y0 y1 y2 s1
      go_wp2_with fail
      go_roundw
      case rel => exact ⟨k + 1, _, rfl, by go_num, hlt, (RY.out.stored k _).1, HY2.out _, KY.out.set (.inl (by simp [Value.ownBlock])) _ _⟩
      case measure => simp [intOf]; omega
    · go_wp2_with fail
      refine bodyPost_ret (results_tmp rfl _ _ _) rfl ⟨by simp, ?_⟩
      exact ⟨P, H0, _, _, B, H0', _, _, T, U1, T', U2, MR.out, ⟨PL.out.es, PL.out.e0, EV.out.2.1, PL.out.few⟩, by have := EV.out.2.2; have := HF.out; omega⟩
end
end Go.Proofs.YtdkdeiofjoccnaaGreat.Ref
