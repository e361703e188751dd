/-
  What is proved: for every input bagatellelaw03.SolidFirst returns true, and the input reads ars it did. No further condition.
-/
import Derived.Test.YtiikkfegcmejcaaGreatCM6
import Derived.Test.YtiikkfegcmejcaaGreatRows
import Derived.WalkKit
import Derived.ProofKit
namespace Go.Proofs.YtiikkfegcmejcaaGreat.solidFirstDone
open Go.ChangeShapes Go.WideShapes Go.ChangeAt Go.RowKit Go.Ax
set_option linter.unusedVariables false

theorem own : ownKnob Tryz.prog.godebug = none := by kernel_rfl
theorem laidOut : laidOutB Tryz.prog = true := by kernel_rfl

/-- The contracts of what it calls. -/
theorem ctx : CtxOK Tryz.prog [(14, c14), (23, c23), (32, c32), (33, c33), (34, c34)] :=
  .cons con14 (.cons con23 (.cons con32 (.cons con33 (.cons con34 .nil))))

theorem row6 {l : List AV} (h : fitS [.int .i64, .int .i64, .int .i64, .int .i64, .int .i64, .int .i64] l) :
    l = [i64 (gi l 0), i64 (gi l 1), i64 (gi l 2), i64 (gi l 3), i64 (gi l 4), i64 (gi l 5)] ∧ (inR (gi l 0) ∧ inR (gi l 1) ∧ inR (gi l 2)) ∧ inR (gi l 3) ∧ inR (gi l 4) ∧ inR (gi l 5) := by
  obtain ⟨_, _, rfl, ⟨x0, rfl, a0⟩, _, _, rfl, ⟨x1, rfl, a1⟩, _, _, rfl, ⟨x2, rfl, a2⟩, _, _, rfl, ⟨x3, rfl, a3⟩, _, _, rfl, ⟨x4, rfl, a4⟩, _, _, rfl, ⟨x5, rfl, a5⟩, rfl⟩ := h
  exact ⟨rfl, ⟨wf_i64 a0, wf_i64 a1, wf_i64 a2⟩, wf_i64 a3, wf_i64 a4, wf_i64 a5⟩

set_option maxRecDepth 100000 in
theorem walk {w : World} {avs : List AV} {vs : List Value} (h : fitVs [.slice 6 [.int .i64, .int .i64, .int .i64, .int .i64, .int .i64, .int .i64], .int .i64, .int .i64, .int .i64, .int .i64] avs) (hR : Rs w (.ext (All w)) avs vs) :
    Calls Tryz.prog 6 vs.toArray w fun e w' => e = .returned (.bool true) ∧ Below w.heap.size w w' := by
  obtain ⟨_, _, rfl, ⟨m, get, rfl, hm, df⟩, _, _, rfl, ⟨x0, rfl, a0⟩, _, _, rfl, ⟨x1, rfl, a1⟩, _, _, rfl, ⟨x2, rfl, a2⟩, _, _, rfl, ⟨x3, rfl, a3⟩, rfl⟩ := h
  have hg : get = fun i => [i64 (gi (get i) 0), i64 (gi (get i) 1), i64 (gi (get i) 2), i64 (gi (get i) 3), i64 (gi (get i) 4), i64 (gi (get i) 5)] := funext fun i => (row6 (df i)).1
  have hR : Rs w (.ext (All w)) [.ro m 6 fun i => [i64 (gi (get i) 0), i64 (gi (get i) 1), i64 (gi (get i) 2), i64 (gi (get i) 3), i64 (gi (get i) 4), i64 (gi (get i) 5)], i64 x0, i64 x1, i64 x2, i64 x3] vs := by rw [← hg]; exact hR
  obtain ⟨_, k2⟩ := fn_sound ctx Tryz.func6 (by kernel_rfl) (vc6 m (fun i => gi (get i) 0) (fun i => gi (get i) 1) (fun i => gi (get i) 2) (fun i => gi (get i) 3) (fun i => gi (get i) 4) (fun i => gi (get i) 5) x0 x1 x2 x3 (fun i _ => (row6 (df i)).2) (wf_i64 a0) (wf_i64 a1) (wf_i64 a2) (wf_i64 a3)) (All w) w vs (fun _ h => h) hR
  refine k2.mono fun e w' ⟨v, he, ⟨r, hr, hv⟩, hb⟩ => ?_
  subst hr
  cases hv
  exact ⟨he, hb⟩

set_option maxRecDepth 100000 in
theorem lifted (os : Os) (started : os.Started) (H : Type) (enc : TypeId × Value → H) :
    ReturnsInHanded {} Tryz.checked os 6 .any (Rows.solidFirstSpec.pre6 enc Tryz.prog Tryz.f6 Rows.solidFirstRow.domain false) (Rows.solidFirstSpec.post enc Tryz.prog Tryz.f6 false true false false) := by
  refine returnsInHanded_of_change (C := Tryz.checked) own started (by kernel_rfl) Tryz.func6
    (ChangeSpec.witness6 (enc := enc) (C := Tryz.checked) false ⟨#[], #[.slice none 0 0, .int .i64 0, .int .i64 0, .int .i64 0, .int .i64 0], []⟩ 8 (by kernel_rfl) (by kernel_rfl) (by kernel_rfl) (by kernel_rfl)) ?_
  intro W base args ds gs before hval hW hcnd _
  have hW' := hW
  obtain ⟨p, q, hA, hV, rfl, hfz, hnd⟩ := hW
  obtain ⟨rfl, rfl⟩ := trodVars_none hV
  have hA' := hA
  rw [Tryz.params6] at hA hval
  obtain ⟨avs, w1, w2⟩ := args_read (P := Tryz.prog) (ss := [.slice 6 [.int .i64, .int .i64, .int .i64, .int .i64, .int .i64, .int .i64], .int .i64, .int .i64, .int .i64, .int .i64]) (by kernel_rfl) (fun j t v hj hv => hval j t v (by simpa using hj) (by simpa using hv)) hA
  obtain ⟨v0, vs0, d0, ds0, p0, q0, hargs, rfl, rfl, h0, r0⟩ := trodAll_cons hA
  obtain ⟨v1, vs1, d1, ds1, p1, q1, rfl, rfl, rfl, h1, r1⟩ := trodAll_cons r0
  obtain ⟨v2, vs2, d2, ds2, p2, q2, rfl, rfl, rfl, h2, r2⟩ := trodAll_cons r1
  obtain ⟨v3, vs3, d3, ds3, p3, q3, rfl, rfl, rfl, h3, r3⟩ := trodAll_cons r2
  obtain ⟨v4, vs4, d4, ds4, p4, q4, rfl, rfl, rfl, h4, r4⟩ := trodAll_cons r3
  obtain ⟨rfl, rfl, rfl⟩ := trodAll_nil r4
  have hw := walk w1 w2
  rw [show args.toList.toArray = args by simp] at hw
  refine hw.mono fun e W' ⟨he, bel⟩ => ?_
  subst he
  obtain ⟨ps, hst⟩ := args_stay laidOut bel (by kernel_rfl) hA'
  exact ⟨_, rfl, _, _, _, [], _, [], hW', trodAll_mk1 (shut_bool Tryz.underlying4 _), hst, rfl, bel.frame _, fun h => by cases h⟩

theorem over : Rows.solidFirstRow.holds Tryz.pinned (OpenSpec.ofChange Rows.solidFirstSpec) :=
  OpenClaim.holds_of_wide 6 Tryz.f6 rfl rfl rfl rfl rfl rfl rfl ⟨rfl, rfl, rfl, rfl, rfl⟩ rfl rfl rfl rfl rfl (by kernel_rfl) Tryz.func6 (by kernel_rfl)
    (of_decide_eq_true (by kernel_rfl)) (by unfold Func.isWrapper; first | (rw [if_pos (by decide +kernel)]; kernel_rfl) | (rw [if_neg (by decide +kernel)]; exact ⟨rfl, rfl⟩))
    (fun os started H enc _ => lifted os started H enc)

theorem proved : Rows.SolidFirstSaid := over
#print axioms proved
end Go.Proofs.YtiikkfegcmejcaaGreat.solidFirstDone
