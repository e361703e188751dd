/-
  What is proved: for every input bagatellelaw03.SolidWays returns true, and the input reads ars it did. No further condition.
-/
import Derived.Test.YtiikkfegcmejcaaGreatCM5
import Derived.Test.YtiikkfegcmejcaaGreatRows
import Derived.WalkKit
import Derived.ProofKit
namespace Go.Proofs.YtiikkfegcmejcaaGreat.solidWaysDone
open Go.ChangeShapes Go.WideShapes Go.ChangeAt Go.RowKit Go.Ax
set_option linter.unusedVariables false

theorem own : ownKnob Tryz.prog.godebug = none := by kernel_rfl
theorem laidOut : laidOutB Tryz.prog = true := by kernel_rfl

/-- The contracts of what it calls. -/
theorem ctx : CtxOK Tryz.prog [(13, c13), (14, c14), (15, c15), (19, c19), (34, c34), (39, c39), (40, c40), (41, c41)] :=
  .cons con13 (.cons con14 (.cons con15 (.cons con19 (.cons con34 (.cons con39 (.cons con40 (.cons con41 .nil)))))))

theorem row2 {l : List AV} (h : fitS [.int .i64, .int .i64] l) : l = [i64 (gi l 0), i64 (gi l 1)] ∧ inR (gi l 0) ∧ inR (gi l 1) := by
  obtain ⟨_, _, rfl, ⟨x0, rfl, k0⟩, _, _, rfl, ⟨x1, rfl, k1⟩, rfl⟩ := h
  exact ⟨rfl, wf_i64 k0, wf_i64 k1⟩

theorem row5 {l : List AV} (h : fitS [.int .i64, .int .i64, .int .i64, .int .i64, .slice 2 [.int .i64, .int .i64]] l) :
    l = formC (gi l 0) (gi l 1) (gi l 2) (gi l 3) (cn l 4) (gx (cg l 4) 0) (gx (cg l 4) 1) ∧ (inR (gi l 1) ∧ inR (gi l 2) ∧ inR (gi l 3)) ∧ (∀ j, inR (gx (cg l 4) 0 j) ∧ inR (gx (cg l 4) 1 j)) ∧ cn l 4 ≤ maxLen := by
  obtain ⟨_, _, rfl, ⟨x0, rfl, a0⟩, _, _, rfl, ⟨x1, rfl, a1⟩, _, _, rfl, ⟨x2, rfl, a2⟩, _, _, rfl, ⟨x3, rfl, a3⟩, _, _, rfl, ⟨n, get, rfl, hn, hf⟩, rfl⟩ := h
  have hg : get = fun i => [i64 (gx get 0 i), i64 (gx get 1 i)] := funext fun i => (row2 (hf i)).1
  refine ⟨?_, ⟨wf_i64 a1, wf_i64 a2, wf_i64 a3⟩, fun j => (row2 (hf j)).2, hn⟩
  show [i64 x0, i64 x1, i64 x2, i64 x3, .ro n 2 get] = [i64 x0, i64 x1, i64 x2, i64 x3, .ro n 2 fun i => [i64 (gx get 0 i), i64 (gx get 1 i)]]
  rw [← hg]

set_option maxRecDepth 100000 in
theorem walk {w : World} {avs : List AV} {vs : List Value} (h : fitVs [.agg [.int .i64, .int .i64, .int .i64, .int .i64], .agg [.int .i64, .int .i64], .agg [.int .i64, .int .i64], .slice 5 [.int .i64, .int .i64, .int .i64, .int .i64, .slice 2 [.int .i64, .int .i64]]] avs) (hR : Rs w (.ext (All w)) avs vs) :
    Calls Tryz.prog 8 vs.toArray w fun e w' => e = .returned (.bool true) ∧ Below w.heap.size w w' := by
  obtain ⟨_, _, rfl, ⟨_, rfl, _, _, rfl, ⟨x0, rfl, a0⟩, _, _, rfl, ⟨x1, rfl, a1⟩, _, _, rfl, ⟨x2, rfl, a2⟩, _, _, rfl, ⟨x3, rfl, a3⟩, rfl⟩, _, _, rfl, ⟨_, rfl, _, _, rfl, ⟨y0, rfl, b0⟩, _, _, rfl, ⟨y1, rfl, b1⟩, rfl⟩, _, _, rfl, ⟨_, rfl, _, _, rfl, ⟨z0, rfl, c0⟩, _, _, rfl, ⟨z1, rfl, c1⟩, rfl⟩, _, _, rfl, ⟨m, get, rfl, hm, df⟩, rfl⟩ := h
  have hg : get = fun i => formC (gi (get i) 0) (gi (get i) 1) (gi (get i) 2) (gi (get i) 3) (cn (get i) 4) (gx (cg (get i) 4) 0) (gx (cg (get i) 4) 1) := funext fun i => (row5 (df i)).1
  have hR : Rs w (.ext (All w)) [.agg [i64 x0, i64 x1, i64 x2, i64 x3], .agg [i64 y0, i64 y1], .agg [i64 z0, i64 z1], .ro m 5 fun i => formC (gi (get i) 0) (gi (get i) 1) (gi (get i) 2) (gi (get i) 3) (cn (get i) 4) (gx (cg (get i) 4) 0) (gx (cg (get i) 4) 1)] vs := by rw [← hg]; exact hR
  unfold maxLen at hm
  obtain ⟨_, k2⟩ := fn_sound ctx Tryz.func8 (by kernel_rfl) (vc8 x0 x1 x2 x3 y0 y1 z0 z1 m (fun i => gi (get i) 0) (fun i => gi (get i) 1) (fun i => gi (get i) 2) (fun i => gi (get i) 3) (fun i => cn (get i) 4) (fun i => gx (cg (get i) 4) 0) (fun i => gx (cg (get i) 4) 1) (wf_i64 a0) (wf_i64 a1) (wf_i64 a2) (wf_i64 a3) (wf_i64 b0) (wf_i64 b1) (wf_i64 c0) (wf_i64 c1) (fun i _ => (row5 (df i)).2.1) (fun i j _ _ => (row5 (df i)).2.2.1 j) (by omega) (fun i _ => by have := (row5 (df i)).2.2.2; unfold maxLen at this; omega)) (All w) w vs (fun _ h => h) hR
  refine k2.mono fun e w' ⟨v, he, ⟨r, hr, hv⟩, hb⟩ => ?_
  subst hr
  cases hv
  exact ⟨he, hb⟩

set_option maxRecDepth 100000 in
theorem lifted (os : Os) (started : os.Started) (H : Type) (enc : TypeId × Value → H) :
    ReturnsInHanded {} Tryz.checked os 8 .any (Rows.solidWaysSpec.pre6 enc Tryz.prog Tryz.f8 Rows.solidWaysRow.domain false) (Rows.solidWaysSpec.post enc Tryz.prog Tryz.f8 false true false false) := by
  refine returnsInHanded_of_change (C := Tryz.checked) own started (by kernel_rfl) Tryz.func8
    (ChangeSpec.witness6 (enc := enc) (C := Tryz.checked) false ⟨#[], #[.agg #[.int .i64 0, .int .i64 0, .int .i64 0, .int .i64 0], .agg #[.int .i64 0, .int .i64 0], .agg #[.int .i64 0, .int .i64 0], .slice none 0 0], []⟩ 8 (by kernel_rfl) (by kernel_rfl) (by kernel_rfl) (by kernel_rfl)) ?_
  intro W base args ds gs before hval hW hcnd _
  have hW' := hW
  obtain ⟨p, q, hA, hV, rfl, hfz, hnd⟩ := hW
  obtain ⟨rfl, rfl⟩ := trodVars_none hV
  have hA' := hA
  rw [Tryz.params8] at hA hval
  obtain ⟨avs, w1, w2⟩ := args_read (P := Tryz.prog) (ss := [.agg [.int .i64, .int .i64, .int .i64, .int .i64], .agg [.int .i64, .int .i64], .agg [.int .i64, .int .i64], .slice 5 [.int .i64, .int .i64, .int .i64, .int .i64, .slice 2 [.int .i64, .int .i64]]]) (by kernel_rfl) (fun j t v hj hv => hval j t v (by simpa using hj) (by simpa using hv)) hA
  obtain ⟨v0, vs0, d0, ds0, p0, q0, hargs, rfl, rfl, h0, r0⟩ := trodAll_cons hA
  obtain ⟨v1, vs1, d1, ds1, p1, q1, rfl, rfl, rfl, h1, r1⟩ := trodAll_cons r0
  obtain ⟨v2, vs2, d2, ds2, p2, q2, rfl, rfl, rfl, h2, r2⟩ := trodAll_cons r1
  obtain ⟨v3, vs3, d3, ds3, p3, q3, rfl, rfl, rfl, h3, r3⟩ := trodAll_cons r2
  obtain ⟨rfl, rfl, rfl⟩ := trodAll_nil r3
  have hw := walk w1 w2
  rw [show args.toList.toArray = args by simp] at hw
  refine hw.mono fun e W' ⟨he, bel⟩ => ?_
  subst he
  obtain ⟨ps, hst⟩ := args_stay laidOut bel (by kernel_rfl) hA'
  exact ⟨_, rfl, _, _, _, [], _, [], hW', trodAll_mk1 (shut_bool Tryz.underlying4 _), hst, rfl, bel.frame _, fun h => by cases h⟩

theorem over : Rows.solidWaysRow.holds Tryz.pinned (OpenSpec.ofChange Rows.solidWaysSpec) :=
  OpenClaim.holds_of_wide 8 Tryz.f8 rfl rfl rfl rfl rfl rfl rfl ⟨rfl, rfl, rfl, rfl, rfl⟩ rfl rfl rfl rfl rfl (by kernel_rfl) Tryz.func8 (by kernel_rfl)
    (of_decide_eq_true (by kernel_rfl)) (by unfold Func.isWrapper; first | (rw [if_pos (by decide +kernel)]; kernel_rfl) | (rw [if_neg (by decide +kernel)]; exact ⟨rfl, rfl⟩))
    (fun os started H enc _ => lifted os started H enc)

theorem proved : Rows.SolidWaysSaid := over
#print axioms proved
end Go.Proofs.YtiikkfegcmejcaaGreat.solidWaysDone
