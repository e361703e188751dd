/-
  SolverCone: its body.
-/
import Derived.Test.YtafigekkhpepkaaGreatCM10
import Derived.Test.YtafigekkhpepkaaGreatRows
import Derived.WalkKit
import Derived.ProofKit
section
set_option linter.unusedVariables false
set_option linter.unusedSimpArgs false
set_option maxHeartbeats 4000000
set_option maxRecDepth 100000
namespace Go.Ax
open Go.Proofs
/-- The numbers of a thing. -/
structure Th where
  a : Int
  b : Int
  c : Int
  x : Int
  y : Int
  u : Int
  p : Int
  q : Int
  r : Int
  d : Int
  k : Int
def thC (t : Th) : List AV := [i64 t.a, i64 t.b, i64 t.c, i64 t.x, i64 t.y, i64 t.u, i64 t.p, i64 t.q, i64 t.r, i64 t.d, i64 t.k]
def inT (t : Th) : Prop := inR t.a ∧ inR t.b ∧ inR t.c ∧ inR t.x ∧ inR t.y ∧ inR t.u ∧ inR t.p ∧ inR t.q ∧ inR t.r ∧ inR t.d ∧ inR t.k
def mkT (t : Th) (s : Int) : Bd := mkB t.a t.b t.c t.x t.y t.u t.p t.q t.r t.d t.k s
theorem mkT_eq {t : Th} {s : Int} : mkB t.a t.b t.c t.x t.y t.u t.p t.q t.r t.d t.k s = mkT t s := rfl
theorem mkT_in {t : Th} {s : Int} (hs : 1 ≤ s ∧ s ≤ 4000) : inB (mkT t s) := mkB_in hs
theorem mkT_n {t : Th} {s : Int} (hs : 1 ≤ s ∧ s ≤ 4000) : (mkT t s).n ≤ 1000 := mkB_n hs
theorem hitI_cone {A B : Bd} {c : Ct} (h : gw2 A B) (hc : inC c) : coneB (hitI A B c 1).c.p0 (hitI A B c 1).c.r0 ∧ coneB (hitI A B c 2).c.p0 (hitI A B c 2).c.r0 ∧ coneB (hitI A B c 2).c.p1 (hitI A B c 2).c.r1 := by
  obtain ⟨c1, c2, c3, c4, c5, c6, c7, c8, c9⟩ := hc
  obtain ⟨h1, h2⟩ := hitR_cone (x := c.P 0) (n := c.nv) h c6 c8
  exact ⟨h1, h1, (hitR_cone h2 c7 c9).1⟩
def ctP (c : Ct) (a b : Nb) : Ct := { c with p0 := a, p1 := b }
def ctR (c : Ct) (a b : Nb) : Ct := { c with r0 := a, r1 := b }
theorem put7_cont {c : Ct} {a b : Int} {e f : Bool} : List.take 7 (contC c) ++ [i64 a, bo e, i64 b, bo f] ++ List.drop 11 (contC c) = contC (ctP c (a, e) (b, f)) := (rfl)
theorem put11_cont {c : Ct} {a b : Int} {e f : Bool} : List.take 11 (contC c) ++ [i64 a, bo e, i64 b, bo f] = contC (ctR c (a, e) (b, f)) := (rfl)
theorem take15_cont {c : Ct} : List.take 15 (contC c) = contC c := (rfl)
theorem len15_cont {c : Ct} : (contC c).length = 15 := (rfl)
attribute [go_sem] put7_cont put11_cont take15_cont len15_cont
theorem vc5 (t v : Th) (p0 p1 r0 r1 : Int) (e0 e1 f0 f1 : Bool) (ht : inT t) (hv : inT v) (j0 : inR p0) (j1 : inR p1) (j2 : inR r0) (j3 : inR r1) :
    fnVC Tryz.prog [(24, kb24), (25, kCntW), (26, kw26), (15, c15), (22, kHitW), (28, k54), (27, k52), (29, c29), (30, k45)] [(5, ⟨[(3, .slot 10), (5, .slot 10)], [(1, [.slot 10])]⟩), (12, ⟨[(7, .made 6)], []⟩)] Tryz.f5 [.agg (thC t), .agg (thC v), .agg [i64 p0, bo e0, i64 p1, bo e1], .agg [i64 r0, bo f0, i64 r1, bo f1]] (· = bo true) := by
  refine fnVC_go (rs := [.tmp 8]) rfl rfl ?_
  obtain ⟨a0, a1, a2, a3, a4, a5, a6, a7, a8, a9, a10⟩ := ht
  obtain ⟨b0, b1, b2, b3, b4, b5, b6, b7, b8, b9, b10⟩ := hv
  obtain ⟨A, hA⟩ : ∃ A, mkT t 12 = A := ⟨_, rfl⟩
  obtain ⟨B, hB⟩ : ∃ B, mkT v 12 = B := ⟨_, rfl⟩
  simp only [thC, go_sem, kb24, kCntW, kw26, c15, kHitW, k54, k52, c29, k45, boA, cLw_eq, cL_eq, cB_eq, kCnt, kHit, mkT_eq, contD_C, hA, hB, a0, a1, a2, a3, a4, a5, a6, a7, a8, a9, a10, b0, b1, b2, b3, b4, b5, b6, b7, b8, b9, b10]
  intro z hz
  have iA : inB A := hA ▸ mkT_in (by omega)
  have iB : inB B := hB ▸ mkT_in (by omega)
  have nA : A.n ≤ 1000 := hA ▸ mkT_n (by omega)
  have nB : B.n ≤ 1000 := hB ▸ mkT_n (by omega)
  refine ⟨⟨⟨iA, nA⟩, iB, nB⟩, fun _ => trivial, fun _ => trivial, fun z1 hz1 => ⟨fun _ => trivial, fun _ => iA.2.2.2.2.2.2.2.2.2.2.2.2.1, fun _ => iA.2.2.2.2.2.2.2.2.2.2.2.2.2.1, fun _ => trivial, fun _ => trivial, fun z2 hz2 => ⟨fun _ => trivial, fun _ => iB.2.2.2.2.2.2.2.2.2.2.2.2.1, fun _ => iB.2.2.2.2.2.2.2.2.2.2.2.2.2.1, fun a b => ⟨a, b⟩, fun _ _ => trivial, fun hg => ?_⟩⟩⟩
  have hz' : inR 0 := by unfold inR; decide
  obtain ⟨q1, q2⟩ := @cnt_in A B 0 1 hz' (by unfold inR; decide)
  obtain ⟨c, hc⟩ : ∃ c, ctR (ctP (cntS A B 0 1) (p0, e0) (p1, e1)) (r0, f0) (r1, f1) = c := ⟨_, rfl⟩
  have cin : inC c := by
    obtain ⟨w1, w2, w3, w4, w5, w6, w7, w8, w9⟩ := q1
    rw [← hc]
    exact ⟨w1, w2, w3, w4, w5, j0, j1, j2, j3⟩
  have cn : c.n ≤ 2 := by rw [← hc]; exact q2
  have ca : c.a = 0 := by rw [← hc]; rfl
  have cb : c.b = 1 := by rw [← hc]; rfl
  simp only [hc]
  have hgw : gw2 A B := by
    have g1 := @mkB_gw t.a t.b t.c t.x t.y t.u t.p t.q t.r t.d t.k 12 (by omega)
    have g2 := @mkB_gw v.a v.b v.c v.x v.y v.u v.p v.q v.r v.d v.k 12 (by omega)
    rw [mkT_eq, hA] at g1
    rw [mkT_eq, hB] at g2
    refine ⟨g1.1, g2.1, iA.2.2.2.2.2.2.2.2.2.2.2.2.1, iB.2.2.2.2.2.2.2.2.2.2.2.2.1, ?_⟩
    have := hg.2
    cases h1 : z1 with
    | true => exact .inl (g1.2 (hz1 ▸ h1))
    | false =>
      cases h2 : z2 with
      | true => exact .inr (g2.2 (hz2 ▸ h2))
      | false => rw [h1, h2] at this; cases this
  have eD : hitC 2 (bsD (ros2 A B)) c = (hitI A B c c.n).c := by
    have e : apB 2 c.a c.b := by rw [ca, cb]; unfold apB; decide
    unfold hitC
    rw [if_pos e, ca, cb]
    show (hitS A B c).c = _
    unfold hitS
    rw [Nat.min_eq_right cn]
  obtain ⟨d, hd⟩ : ∃ d, hitC 2 (bsD (ros2 A B)) c = d := ⟨_, rfl⟩
  have cone := hitI_cone hgw cin
  have dC0 : 0 < c.n → coneB d.p0 d.r0 := fun h => by
    rw [← hd, eD]
    rcases (show c.n = 1 ∨ c.n = 2 by omega) with e | e <;> rw [e]
    · exact cone.1
    · exact cone.2.1
  have dC1 : 1 < c.n → coneB d.p1 d.r1 := fun h => by
    rw [← hd, eD, show c.n = 2 by omega]
    exact cone.2.2
  have din : inC d := by
    rw [← hd, eD]
    exact (hitI_in iA iB cin _).2.2
  obtain ⟨d1, d2, d3, d4, d5, d6, d7, d8, d9⟩ := id din
  simp only [hd]
  refine ⟨⟨⟨iA, nA⟩, iB, nB⟩, cin, by omega, fun h => absurd h (by decide), fun _ => ?_⟩
  refine loopC_go (fun (i : Nat) => i ≤ 2 ∧ i ≤ c.n) (fun i => 2 - i) (fun i => [(14, i64 (i : Int))]) (fun _ => []) [47, 16] [56, 57, 58, 59, 60, 61, 62, 63, 64, 65, 68, 69, 70, 71, 72, 73, 15, 74, 75, 76, 77, 78, 79, 80, 81, 82, 83, 84, 85, 86, 87, 88, 89, 90, 8, 66, 67, 14] 0 (by kernel_rfl) ?_ ⟨by omega, by omega⟩ ?_ ?_
  · intro x _; simp [goodNames, asg]
  · simp only [go_sem]
  intro i hi
  have key : ∀ p r : Nb, coneB p r → ¬ cmpS (whV p.1) (whV 0) < 0 ∧ ¬ 0 < cmpS (whV (nAbs r).1) (whV (nMul p (nRat 1 2)).1) := fun p r h => by
    obtain ⟨h1, h2, h3⟩ := h
    rw [wh_pos h1 h2, show whV 0 = 0 from rfl]
    have h4 : whV (nAbs r).1 ≤ whV (nMul p (nRat 1 2)).1 := h3
    unfold cmpS
    refine ⟨?_, ?_⟩ <;> (repeat' split) <;> omega
  match i, hi with
  | 0, hi =>
    simp only [contC, go_sem, kb24, kCntW, kw26, c15, kHitW, k54, k52, c29, k45, d6, d8]
    simp only [forall_eq]
    refine ⟨fun h => ?_, fun _ _ => trivial⟩
    obtain ⟨q3, q4⟩ := key d.p0 d.r0 (dC0 (by omega))
    exact ⟨fun _ => trivial, fun _ => trivial, fun _ => trivial, fun q => q.elim q3 q4, fun _ => ⟨1, by omega, by omega, by decide⟩⟩
  | 1, hi =>
    simp only [contC, go_sem, kb24, kCntW, kw26, c15, kHitW, k54, k52, c29, k45, d7, d9]
    simp only [forall_eq]
    refine ⟨fun h => ?_, fun _ _ => trivial⟩
    obtain ⟨q3, q4⟩ := key d.p1 d.r1 (dC1 (by omega))
    exact ⟨fun _ => trivial, fun _ => trivial, fun _ => trivial, fun q => q.elim q3 q4, fun _ => ⟨2, by omega, by omega, by decide⟩⟩
  | 2, hi =>
    simp only [contC, go_sem, kb24, kCntW, kw26, c15, kHitW, k54, k52, c29, k45]
    exact ⟨fun h => h.elim, fun _ _ => trivial⟩
  | i + 3, hi => omega
end Go.Ax
end

section
/-
  What is proved: for every input bagatellelaw05.SolverCone returns true, and the input reads ars it did. No further condition.
-/
namespace Go.Proofs.YtafigekkhpepkaaGreat.solverConeDone
open Go.ChangeShapes Go.WideShapes Go.ChangeAt Go.RowKit Go.Ax
set_option linter.unusedVariables false

theorem own : ownKnob Tryz.prog.godebug = none := by kernel_rfl

theorem ctx : CtxOK Tryz.prog [(24, kb24), (25, kCntW), (26, kw26), (15, c15), (22, kHitW), (28, k54), (27, k52), (29, c29), (30, k45)] :=
  (.cons con24 (.cons con25w (.cons konw26 (.cons con15 (.cons con22w (.cons kon54 (.cons kon52 (.cons con29 (.cons kon45 .nil)))))))))

set_option maxRecDepth 100000 in
theorem walk {w : World} {avs : List AV} {vs : List Value} (h : fitVs [.agg [.int .i64, .int .i64, .int .i64, .int .i64, .int .i64, .int .i64, .int .i64, .int .i64, .int .i64, .int .i64, .int .i64], .agg [.int .i64, .int .i64, .int .i64, .int .i64, .int .i64, .int .i64, .int .i64, .int .i64, .int .i64, .int .i64, .int .i64], .agg [.int .i64, .bool, .int .i64, .bool], .agg [.int .i64, .bool, .int .i64, .bool]] avs) (hR : Rs w (.ext (All w)) avs vs) :
    Calls Tryz.prog 5 vs.toArray w fun e w' => e = .returned (.bool true) ∧ Below w.heap.size w w' := by
  obtain ⟨_, _, rfl, ⟨_, rfl, ⟨_, _, rfl, ⟨a_1, rfl, ja_1⟩, _, _, rfl, ⟨b_1, rfl, jb_1⟩, _, _, rfl, ⟨c_1, rfl, jc_1⟩, _, _, rfl, ⟨x_1, rfl, jx_1⟩, _, _, rfl, ⟨y_1, rfl, jy_1⟩, _, _, rfl, ⟨u_1, rfl, ju_1⟩, _, _, rfl, ⟨p_1, rfl, jp_1⟩, _, _, rfl, ⟨q_1, rfl, jq_1⟩, _, _, rfl, ⟨r_1, rfl, jr_1⟩, _, _, rfl, ⟨d_1, rfl, jd_1⟩, _, _, rfl, ⟨k_1, rfl, jk_1⟩, rfl⟩⟩, _, _, rfl, ⟨_, rfl, ⟨_, _, rfl, ⟨a_2, rfl, ja_2⟩, _, _, rfl, ⟨b_2, rfl, jb_2⟩, _, _, rfl, ⟨c_2, rfl, jc_2⟩, _, _, rfl, ⟨x_2, rfl, jx_2⟩, _, _, rfl, ⟨y_2, rfl, jy_2⟩, _, _, rfl, ⟨u_2, rfl, ju_2⟩, _, _, rfl, ⟨p_2, rfl, jp_2⟩, _, _, rfl, ⟨q_2, rfl, jq_2⟩, _, _, rfl, ⟨r_2, rfl, jr_2⟩, _, _, rfl, ⟨d_2, rfl, jd_2⟩, _, _, rfl, ⟨k_2, rfl, jk_2⟩, rfl⟩⟩, _, _, rfl, ⟨_, rfl, ⟨_, _, rfl, ⟨s0, rfl, a0⟩, _, _, rfl, ⟨s1, rfl⟩, _, _, rfl, ⟨s2, rfl, a2⟩, _, _, rfl, ⟨s3, rfl⟩, rfl⟩⟩, _, _, rfl, ⟨_, rfl, ⟨_, _, rfl, ⟨t0, rfl, b0⟩, _, _, rfl, ⟨t1, rfl⟩, _, _, rfl, ⟨t2, rfl, b2⟩, _, _, rfl, ⟨t3, rfl⟩, rfl⟩⟩, rfl⟩ := h
  obtain ⟨_, k2⟩ := fn_sound ctx Tryz.func5 (by kernel_rfl) (vc5 ⟨a_1, b_1, c_1, x_1, y_1, u_1, p_1, q_1, r_1, d_1, k_1⟩ ⟨a_2, b_2, c_2, x_2, y_2, u_2, p_2, q_2, r_2, d_2, k_2⟩ s0 s2 t0 t2 s1 s3 t1 t3 ⟨wf_i64 ja_1, wf_i64 jb_1, wf_i64 jc_1, wf_i64 jx_1, wf_i64 jy_1, wf_i64 ju_1, wf_i64 jp_1, wf_i64 jq_1, wf_i64 jr_1, wf_i64 jd_1, wf_i64 jk_1⟩ ⟨wf_i64 ja_2, wf_i64 jb_2, wf_i64 jc_2, wf_i64 jx_2, wf_i64 jy_2, wf_i64 ju_2, wf_i64 jp_2, wf_i64 jq_2, wf_i64 jr_2, wf_i64 jd_2, wf_i64 jk_2⟩ (wf_i64 a0) (wf_i64 a2) (wf_i64 b0) (wf_i64 b2)) (All w) w vs (fun _ h => h) hR
  refine k2.mono fun e w' ⟨v, he, ⟨r, hr, hv⟩, hb⟩ => ?_
  subst hr
  cases hv
  exact ⟨he, hb⟩

set_option maxRecDepth 100000 in
theorem lifted (os : Os) (started : os.Started) (H : Type) (enc : TypeId × Value → H) :
    ReturnsInHanded {} Tryz.checked os 5 .any (Rows.solverConeSpec.pre6 enc Tryz.prog Tryz.f5 Rows.solverConeRow.domain false) (Rows.solverConeSpec.post enc Tryz.prog Tryz.f5 false true false false) := by
  refine returnsInHanded_of_change (C := Tryz.checked) own started (by kernel_rfl) Tryz.func5
    (ChangeSpec.witness6 (enc := enc) (C := Tryz.checked) false ⟨#[], #[.agg #[.int .i64 0, .int .i64 0, .int .i64 0, .int .i64 0, .int .i64 0, .int .i64 0, .int .i64 0, .int .i64 0, .int .i64 0, .int .i64 0, .int .i64 0], .agg #[.int .i64 0, .int .i64 0, .int .i64 0, .int .i64 0, .int .i64 0, .int .i64 0, .int .i64 0, .int .i64 0, .int .i64 0, .int .i64 0, .int .i64 0], .agg #[.int .i64 0, .bool false, .int .i64 0, .bool false], .agg #[.int .i64 0, .bool false, .int .i64 0, .bool false]], []⟩ 8 (by kernel_rfl) (by kernel_rfl) (by kernel_rfl) (by kernel_rfl)) ?_
  intro W base args ds gs before hval hW hcnd _
  have hW' := hW
  obtain ⟨p, q, hA, hV, rfl, hfz, hnd⟩ := hW
  obtain ⟨rfl, rfl⟩ := trodVars_none hV
  have hA' := hA
  rw [Tryz.params5] at hA hval
  obtain ⟨avs, w1, w2⟩ := args_read (P := Tryz.prog) (ss := [.agg [.int .i64, .int .i64, .int .i64, .int .i64, .int .i64, .int .i64, .int .i64, .int .i64, .int .i64, .int .i64, .int .i64], .agg [.int .i64, .int .i64, .int .i64, .int .i64, .int .i64, .int .i64, .int .i64, .int .i64, .int .i64, .int .i64, .int .i64], .agg [.int .i64, .bool, .int .i64, .bool], .agg [.int .i64, .bool, .int .i64, .bool]]) (by kernel_rfl) (fun j t v hj hv => hval j t v (by simpa using hj) (by simpa using hv)) hA
  obtain ⟨v0, vs0, d0, ds0, p0, q0, hargs, rfl, rfl, h0, r0⟩ := trodAll_cons hA
  obtain ⟨v1, vs1, d1, ds1, p1, q1, rfl, rfl, rfl, h1, r1⟩ := trodAll_cons r0
  obtain ⟨v2, vs2, d2, ds2, p2, q2, rfl, rfl, rfl, h2, r2⟩ := trodAll_cons r1
  obtain ⟨v3, vs3, d3, ds3, p3, q3, rfl, rfl, rfl, h3, r3⟩ := trodAll_cons r2
  obtain ⟨rfl, rfl, rfl⟩ := trodAll_nil r3
  have hw := walk w1 w2
  rw [show args.toList.toArray = args by simp] at hw
  refine hw.mono fun e W' ⟨he, bel⟩ => ?_
  subst he
  obtain ⟨ps, hst⟩ := args_stay laidOut bel (by kernel_rfl) hA'
  exact ⟨_, rfl, _, _, _, [], _, [], hW', trodAll_mk1 (shut_bool Tryz.underlying4 _), hst, rfl, bel.frame _, fun h => by cases h⟩

theorem func : Tryz.pinned.checked.prog.funcNamed Rows.solverConeRow.func = some 5 := by kernel_rfl
theorem four : ((Rows.solverConeRow.inPlace == Tryz.prog.inPlace 5) = true) ∧ ((Rows.solverConeRow.unfollowed == Tryz.prog.unfollowed 5) = true) ∧ ((Rows.solverConeRow.recurses == Tryz.prog.recurses 5) = true) ∧ ((Rows.solverConeRow.named == Tryz.prog.varsNamed 5) = true) := by
  have h : ((Rows.solverConeRow.inPlace == Tryz.prog.inPlace 5) && ((Rows.solverConeRow.unfollowed == Tryz.prog.unfollowed 5) && ((Rows.solverConeRow.recurses == Tryz.prog.recurses 5) && (Rows.solverConeRow.named == Tryz.prog.varsNamed 5)))) = true := by kernel_rfl
  simpa only [Bool.and_eq_true] using h
theorem facts : joinedFacts Tryz.prog 5 Tryz.f5 Rows.solverConeSpec Rows.solverConeRow = true :=
  andT (andT (andT (andT (andT (andT (andT (andT (andT (andT (andT (andT (andT (andT (andT (andT (andT (andT (andT (andT (andT (andT (andT (andT (andT (andT (andT (andT (andT (andT (andT (by kernel_rfl) laidOut) fRowed) (by kernel_rfl)) (by kernel_rfl)) (by kernel_rfl)) fStops) (by kernel_rfl)) fStopK) four.1) four.2.1) four.2.2.1) four.2.2.2) (by kernel_rfl)) (by kernel_rfl)) (by kernel_rfl)) (by kernel_rfl)) (by kernel_rfl)) (by kernel_rfl)) (by kernel_rfl)) (by kernel_rfl)) (by kernel_rfl)) fPlain) (by kernel_rfl)) fHeard) fMay) fLift) fMake) (by kernel_rfl)) (by kernel_rfl)) (by kernel_rfl)) (by kernel_rfl)
theorem over : Rows.solverConeRow.holds Tryz.pinned (OpenSpec.ofChange Rows.solverConeSpec) :=
  OpenClaim.holds_of_wide 5 Tryz.f5 rfl rfl rfl rfl rfl rfl rfl ⟨rfl, rfl, rfl, rfl, rfl⟩ rfl rfl rfl rfl rfl func Tryz.func5 facts
    (of_decide_eq_true (by kernel_rfl)) (by unfold Func.isWrapper; first | (rw [if_pos (by decide +kernel)]; kernel_rfl) | (rw [if_neg (by decide +kernel)]; exact ⟨rfl, rfl⟩))
    (fun os started H enc _ => lifted os started H enc)

theorem proved : Rows.SolverConeSaid := over
#print axioms proved
end Go.Proofs.YtafigekkhpepkaaGreat.solverConeDone
end
