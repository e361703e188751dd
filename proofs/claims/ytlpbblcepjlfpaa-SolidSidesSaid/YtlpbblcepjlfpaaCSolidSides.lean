/-
  What is proved: for every input bagatellelaw03.SolidSides returns true, and the input reads ars it did. No further condition.
-/
import Derived.Test.YtlpbblcepjlfpaaCM6
import Derived.Test.YtlpbblcepjlfpaaRows
import Derived.WalkKit
import Derived.ProofKit

namespace Go.Proofs.Ytlpbblcepjlfpaa.solidSidesDone
open Go.ChangeShapes Go.WideShapes Go.ChangeAt Go.RowKit Go.Ax
set_option linter.unusedVariables false

theorem own : ownKnob Try.prog.godebug = none := by kernel_rfl
theorem laidOut : laidOutB Try.prog = true := by kernel_rfl

theorem ctx : CtxOK Try.prog [(6, c6), (10, c10), (7, c7), (12, c12), (11, c11), (13, c13), (9, c9)] :=
  (.cons con6 (.cons con10 (.cons con7 (.cons con12 (.cons con11 (.cons con13 (.cons con9 .nil)))))))

set_option maxRecDepth 100000 in
theorem walk {w : World} {avs : List AV} {vs : List Value} (h : fitVs [.agg [.int .i64, .int .i64, .int .i64, .int .i64, .int .i64, .int .i64], .agg [.int .i64, .int .i64, .int .i64, .int .i64, .int .i64, .int .i64], .int .i64, .int .i64] avs) (hR : Rs w (.ext (All w)) avs vs) :
    Calls Try.prog 4 vs.toArray w fun e w' => e = .returned (.bool true) ∧ Below w.heap.size w w' := by
  obtain ⟨_, _, rfl, ⟨_, rfl, _, _, rfl, ⟨y0, rfl, b0⟩, _, _, rfl, ⟨y1, rfl, b1⟩, _, _, rfl, ⟨y2, rfl, b2⟩, _, _, rfl, ⟨y3, rfl, b3⟩, _, _, rfl, ⟨y4, rfl, b4⟩, _, _, rfl, ⟨y5, rfl, b5⟩, rfl⟩, _, _, rfl, ⟨_, rfl, _, _, rfl, ⟨z0, rfl, c0⟩, _, _, rfl, ⟨z1, rfl, c1⟩, _, _, rfl, ⟨z2, rfl, c2⟩, _, _, rfl, ⟨z3, rfl, c3⟩, _, _, rfl, ⟨z4, rfl, c4⟩, _, _, rfl, ⟨z5, rfl, c5⟩, rfl⟩, _, _, rfl, ⟨x0, rfl, a0⟩, _, _, rfl, ⟨x1, rfl, a1⟩, rfl⟩ := h
  obtain ⟨_, k2⟩ := fn_sound ctx Try.func4 (by kernel_rfl) (vc4 y0 y1 y2 y3 y4 y5 z0 z1 z2 z3 z4 z5 x0 x1 ⟨wf_i64 b0, wf_i64 b1, wf_i64 b2, wf_i64 b3, wf_i64 b4, wf_i64 b5⟩ ⟨wf_i64 c0, wf_i64 c1, wf_i64 c2, wf_i64 c3, wf_i64 c4, wf_i64 c5⟩ (wf_i64 a0) (wf_i64 a1)) (All w) w vs (fun _ h => h) hR
  refine k2.mono fun e w' ⟨v, he, ⟨r, hr, hv⟩, hb⟩ => ?_
  subst hr
  cases hv
  exact ⟨he, hb⟩

set_option maxRecDepth 100000 in
theorem lifted (os : Os) (started : os.Started) (H : Type) (enc : TypeId × Value → H) :
    ReturnsInHanded {} Try.checked os 4 .any (Rows.solidSidesSpec.pre6 enc Try.prog Try.f4 Rows.solidSidesRow.domain false) (Rows.solidSidesSpec.post enc Try.prog Try.f4 false true false false) := by
  refine returnsInHanded_of_change (C := Try.checked) own started (by kernel_rfl) Try.func4
    (ChangeSpec.witness6 (enc := enc) (C := Try.checked) false ⟨#[], #[.agg #[.int .i64 0, .int .i64 0, .int .i64 0, .int .i64 0, .int .i64 0, .int .i64 0], .agg #[.int .i64 0, .int .i64 0, .int .i64 0, .int .i64 0, .int .i64 0, .int .i64 0], .int .i64 0, .int .i64 0], []⟩ 8 (by kernel_rfl) (by kernel_rfl) (by kernel_rfl) (by kernel_rfl)) ?_
  intro W base args ds gs before hval hW hcnd _
  have hW' := hW
  obtain ⟨p, q, hA, hV, rfl, hfz, hnd⟩ := hW
  obtain ⟨rfl, rfl⟩ := trodVars_none hV
  have hA' := hA
  rw [Try.params4] at hA hval
  obtain ⟨avs, w1, w2⟩ := args_read (P := Try.prog) (ss := [.agg [.int .i64, .int .i64, .int .i64, .int .i64, .int .i64, .int .i64], .agg [.int .i64, .int .i64, .int .i64, .int .i64, .int .i64, .int .i64], .int .i64, .int .i64]) (by kernel_rfl) (fun j t v hj hv => hval j t v (by simpa using hj) (by simpa using hv)) hA
  obtain ⟨v0, vs0, d0, ds0, p0, q0, hargs, rfl, rfl, h0, r0⟩ := trodAll_cons hA
  obtain ⟨v1, vs1, d1, ds1, p1, q1, rfl, rfl, rfl, h1, r1⟩ := trodAll_cons r0
  obtain ⟨v2, vs2, d2, ds2, p2, q2, rfl, rfl, rfl, h2, r2⟩ := trodAll_cons r1
  obtain ⟨v3, vs3, d3, ds3, p3, q3, rfl, rfl, rfl, h3, r3⟩ := trodAll_cons r2
  obtain ⟨rfl, rfl, rfl⟩ := trodAll_nil r3
  have hw := walk w1 w2
  rw [show args.toList.toArray = args by simp] at hw
  refine hw.mono fun e W' ⟨he, bel⟩ => ?_
  subst he
  obtain ⟨ps, hst⟩ := args_stay laidOut bel (by kernel_rfl) hA'
  exact ⟨_, rfl, _, _, _, [], _, [], hW', trodAll_mk1 (shut_bool Try.underlying4 _), hst, rfl, bel.frame _, fun h => by cases h⟩

theorem over : Rows.solidSidesRow.holds Try.pinned (OpenSpec.ofChange Rows.solidSidesSpec) :=
  OpenClaim.holds_of_wide 4 Try.f4 rfl rfl rfl rfl rfl rfl rfl ⟨rfl, rfl, rfl, rfl, rfl⟩ rfl rfl rfl rfl rfl (by kernel_rfl) Try.func4 (by kernel_rfl)
    (of_decide_eq_true (by kernel_rfl)) (by unfold Func.isWrapper; first | (rw [if_pos (by decide +kernel)]; kernel_rfl) | (rw [if_neg (by decide +kernel)]; exact ⟨rfl, rfl⟩))
    (fun os started H enc _ => lifted os started H enc)

theorem proved : Rows.SolidSidesSaid := over
#print axioms proved
end Go.Proofs.Ytlpbblcepjlfpaa.solidSidesDone
