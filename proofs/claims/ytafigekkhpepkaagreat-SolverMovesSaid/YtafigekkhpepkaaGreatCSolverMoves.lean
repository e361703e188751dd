/-
  What is proved: for every input bagatellelaw05.SolverMoves returns true, and the input reads ars it did. No further condition.
-/
import Derived.Test.YtafigekkhpepkaaGreatCM9
import Derived.Test.YtafigekkhpepkaaGreatRows
import Derived.WalkKit
import Derived.ProofKit
namespace Go.Proofs.YtafigekkhpepkaaGreat.solverMovesDone
open Go.ChangeShapes Go.WideShapes Go.ChangeAt Go.RowKit Go.Ax
set_option linter.unusedVariables false

theorem own : ownKnob Tryz.prog.godebug = none := by kernel_rfl


theorem ctx : CtxOK Tryz.prog [(14, kLit1), (15, c15), (35, kb35), (37, kb37), (38, kb38), (36, kb36), (39, kb39), (40, kb40), (41, kb41), (42, kb42), (43, kb43), (44, kb44), (45, kb45), (46, kb46)] :=
  (.cons konL14 (.cons con15 (.cons konb35 (.cons konb37 (.cons konb38 (.cons konb36 (.cons konb39 (.cons konb40 (.cons konb41 (.cons konb42 (.cons konb43 (.cons konb44 (.cons konb45 (.cons konb46 .nil))))))))))))))

set_option maxRecDepth 100000 in
theorem walk {w : World} {avs : List AV} {vs : List Value} (h : fitVs [.agg shB, .agg [.int .i64, .bool, .int .i64, .bool], .agg [.int .i64, .bool, .int .i64, .bool], .agg [.int .i64, .bool]] avs) (hR : Rs w (.ext (All w)) avs vs) :
    Calls Tryz.prog 7 vs.toArray w fun e w' => e = .returned (.bool true) ∧ Below w.heap.size w w' := by
  obtain ⟨_, _, rfl, ⟨l, rfl, hl⟩, _, _, rfl, ⟨_, rfl, ⟨_, _, rfl, ⟨x0, rfl, a0⟩, _, _, rfl, ⟨x1, rfl⟩, _, _, rfl, ⟨x2, rfl, a2⟩, _, _, rfl, ⟨x3, rfl⟩, rfl⟩⟩, _, _, rfl, ⟨_, rfl, ⟨_, _, rfl, ⟨y0, rfl, b0⟩, _, _, rfl, ⟨y1, rfl⟩, _, _, rfl, ⟨y2, rfl, b2⟩, _, _, rfl, ⟨y3, rfl⟩, rfl⟩⟩, _, _, rfl, ⟨_, rfl, ⟨_, _, rfl, ⟨z0, rfl, c0⟩, _, _, rfl, ⟨z1, rfl⟩, rfl⟩⟩, rfl⟩ := h
  rw [(rowB hl).1] at hR
  obtain ⟨_, k2⟩ := fn_sound ctx Tryz.func7 (by kernel_rfl) (vc7 (bodyD l) (rowB hl).2.1 (rowB hl).2.2 x0 x2 y0 y2 z0 x1 x3 y1 y3 z1 (wf_i64 a0) (wf_i64 a2) (wf_i64 b0) (wf_i64 b2) (wf_i64 c0)) (All w) w vs (fun _ h => h) hR
  refine k2.mono fun e w' ⟨v, he, ⟨r, hr, hv⟩, hb⟩ => ?_
  subst hr
  cases hv
  exact ⟨he, hb⟩

set_option maxRecDepth 100000 in
theorem lifted (os : Os) (started : os.Started) (H : Type) (enc : TypeId × Value → H) :
    ReturnsInHanded {} Tryz.checked os 7 .any (Rows.solverMovesSpec.pre6 enc Tryz.prog Tryz.f7 Rows.solverMovesRow.domain false) (Rows.solverMovesSpec.post enc Tryz.prog Tryz.f7 false true false false) := by
  refine returnsInHanded_of_change (C := Tryz.checked) own started (by kernel_rfl) Tryz.func7
    (ChangeSpec.witness6 (enc := enc) (C := Tryz.checked) false ⟨#[], #[.agg #[.int .i64 0, .int .i64 0, .int .i64 0, .int .i64 0, .slice none 0 0, .int .i64 0, .bool false, .int .i64 0, .bool false, .int .i64 0, .bool false, .int .i64 0, .bool false, .int .i64 0, .bool false, .int .i64 0, .bool false, .int .i64 0, .bool false, .int .i64 0, .bool false, .int .i64 0, .bool false, .int .i64 0, .bool false, .bool false, .int .i64 0], .agg #[.int .i64 0, .bool false, .int .i64 0, .bool false], .agg #[.int .i64 0, .bool false, .int .i64 0, .bool false], .agg #[.int .i64 0, .bool false]], []⟩ 8 (by kernel_rfl) (by kernel_rfl) (by kernel_rfl) (by kernel_rfl)) ?_
  intro W base args ds gs before hval hW hcnd _
  have hW' := hW
  obtain ⟨p, q, hA, hV, rfl, hfz, hnd⟩ := hW
  obtain ⟨rfl, rfl⟩ := trodVars_none hV
  have hA' := hA
  rw [Tryz.params7] at hA hval
  obtain ⟨avs, w1, w2⟩ := args_read (P := Tryz.prog) (ss := [.agg shB, .agg [.int .i64, .bool, .int .i64, .bool], .agg [.int .i64, .bool, .int .i64, .bool], .agg [.int .i64, .bool]]) (by kernel_rfl) (fun j t v hj hv => hval j t v (by simpa using hj) (by simpa using hv)) hA
  obtain ⟨v0, vs0, d0, ds0, p0, q0, hargs, rfl, rfl, h0, r0⟩ := trodAll_cons hA
  obtain ⟨v1, vs1, d1, ds1, p1, q1, rfl, rfl, rfl, h1, r1⟩ := trodAll_cons r0
  obtain ⟨v2, vs2, d2, ds2, p2, q2, rfl, rfl, rfl, h2, r2⟩ := trodAll_cons r1
  obtain ⟨v3, vs3, d3, ds3, p3, q3, rfl, rfl, rfl, h3, r3⟩ := trodAll_cons r2
  obtain ⟨rfl, rfl, rfl⟩ := trodAll_nil r3
  have hw := walk w1 w2
  rw [show args.toList.toArray = args by simp] at hw
  refine hw.mono fun e W' ⟨he, bel⟩ => ?_
  subst he
  obtain ⟨ps, hst⟩ := args_stay laidOut bel (by kernel_rfl) hA'
  exact ⟨_, rfl, _, _, _, [], _, [], hW', trodAll_mk1 (shut_bool Tryz.underlying4 _), hst, rfl, bel.frame _, fun h => by cases h⟩

theorem func : Tryz.pinned.checked.prog.funcNamed Rows.solverMovesRow.func = some 7 := by kernel_rfl
theorem four : ((Rows.solverMovesRow.inPlace == Tryz.prog.inPlace 7) = true) ∧ ((Rows.solverMovesRow.unfollowed == Tryz.prog.unfollowed 7) = true) ∧ ((Rows.solverMovesRow.recurses == Tryz.prog.recurses 7) = true) ∧ ((Rows.solverMovesRow.named == Tryz.prog.varsNamed 7) = true) := by
  have h : ((Rows.solverMovesRow.inPlace == Tryz.prog.inPlace 7) && ((Rows.solverMovesRow.unfollowed == Tryz.prog.unfollowed 7) && ((Rows.solverMovesRow.recurses == Tryz.prog.recurses 7) && (Rows.solverMovesRow.named == Tryz.prog.varsNamed 7)))) = true := by kernel_rfl
  simpa only [Bool.and_eq_true] using h
theorem facts : joinedFacts Tryz.prog 7 Tryz.f7 Rows.solverMovesSpec Rows.solverMovesRow = true :=
  andT (andT (andT (andT (andT (andT (andT (andT (andT (andT (andT (andT (andT (andT (andT (andT (andT (andT (andT (andT (andT (andT (andT (andT (andT (andT (andT (andT (andT (andT (andT (by kernel_rfl) laidOut) fRowed) (by kernel_rfl)) (by kernel_rfl)) (by kernel_rfl)) fStops) (by kernel_rfl)) fStopK) four.1) four.2.1) four.2.2.1) four.2.2.2) (by kernel_rfl)) (by kernel_rfl)) (by kernel_rfl)) (by kernel_rfl)) (by kernel_rfl)) (by kernel_rfl)) (by kernel_rfl)) (by kernel_rfl)) (by kernel_rfl)) fPlain) (by kernel_rfl)) fHeard) fMay) fLift) fMake) (by kernel_rfl)) (by kernel_rfl)) (by kernel_rfl)) (by kernel_rfl)
theorem over : Rows.solverMovesRow.holds Tryz.pinned (OpenSpec.ofChange Rows.solverMovesSpec) :=
  OpenClaim.holds_of_wide 7 Tryz.f7 rfl rfl rfl rfl rfl rfl rfl ⟨rfl, rfl, rfl, rfl, rfl⟩ rfl rfl rfl rfl rfl func Tryz.func7 facts
    (of_decide_eq_true (by kernel_rfl)) (by unfold Func.isWrapper; first | (rw [if_pos (by decide +kernel)]; kernel_rfl) | (rw [if_neg (by decide +kernel)]; exact ⟨rfl, rfl⟩))
    (fun os started H enc _ => lifted os started H enc)

theorem proved : Rows.SolverMovesSaid := over
#print axioms proved
end Go.Proofs.YtafigekkhpepkaaGreat.solverMovesDone
