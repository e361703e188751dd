/-
  What is proved: for every input bagatellelaw05.SolverForms returns true, and the input reads ars it did. No further condition.
-/
import Derived.Test.YtafigekkhpepkaaGreatCM9
import Derived.Test.YtafigekkhpepkaaGreatRows
import Derived.WalkKit
import Derived.ProofKit
namespace Go.Proofs.YtafigekkhpepkaaGreat.solverFormsDone
open Go.ChangeShapes Go.WideShapes Go.ChangeAt Go.RowKit Go.Ax
set_option linter.unusedVariables false

theorem own : ownKnob Tryz.prog.godebug = none := by kernel_rfl

theorem ctx : CtxOK Tryz.prog [(14, kLit1), (15, c15), (35, kb35), (61, kb61), (62, kb62), (63, c63), (64, kb64), (65, kb65), (26, kw26), (66, kw26), (67, kw67), (68, kw67), (69, kb69), (33, kb33), (70, kb70), (71, kb71), (36, kb36)] :=
  (.cons konL14 (.cons con15 (.cons konb35 (.cons konb61 (.cons konb62 (.cons con63 (.cons konb64 (.cons konb65 (.cons konw26 (.cons konw66 (.cons konw67 (.cons konw68 (.cons konb69 (.cons konb33 (.cons konb70 (.cons konb71 (.cons konb36 .nil)))))))))))))))))

set_option maxRecDepth 100000 in
theorem walk {w : World} {avs : List AV} {vs : List Value} (h : fitVs [.agg shB, .agg [.int .i64, .bool, .int .i64, .bool], .agg [.int .i64, .bool, .int .i64, .bool]] avs) (hR : Rs w (.ext (All w)) avs vs) :
    Calls Tryz.prog 13 vs.toArray w fun e w' => e = .returned (.bool true) ∧ Below w.heap.size w w' := by
  obtain ⟨_, _, rfl, ⟨l, rfl, hl⟩, _, _, rfl, ⟨_, rfl, ⟨_, _, rfl, ⟨x0, rfl, a0⟩, _, _, rfl, ⟨x1, rfl⟩, _, _, rfl, ⟨x2, rfl, a2⟩, _, _, rfl, ⟨x3, rfl⟩, rfl⟩⟩, _, _, rfl, ⟨_, rfl, ⟨_, _, rfl, ⟨y0, rfl, b0⟩, _, _, rfl, ⟨y1, rfl⟩, _, _, rfl, ⟨y2, rfl, b2⟩, _, _, rfl, ⟨y3, rfl⟩, rfl⟩⟩, rfl⟩ := h
  rw [(rowB hl).1] at hR
  obtain ⟨_, k2⟩ := fn_sound ctx Tryz.func13 (by kernel_rfl) (vc13 (bodyD l) (rowB hl).2.1 (rowB hl).2.2 x0 x2 y0 y2 x1 x3 y1 y3 (wf_i64 a0) (wf_i64 a2) (wf_i64 b0) (wf_i64 b2)) (All w) w vs (fun _ h => h) hR
  refine k2.mono fun e w' ⟨v, he, ⟨r, hr, hv⟩, hb⟩ => ?_
  subst hr
  cases hv
  exact ⟨he, hb⟩

set_option maxRecDepth 100000 in
theorem lifted (os : Os) (started : os.Started) (H : Type) (enc : TypeId × Value → H) :
    ReturnsInHanded {} Tryz.checked os 13 .any (Rows.solverFormsSpec.pre6 enc Tryz.prog Tryz.f13 Rows.solverFormsRow.domain false) (Rows.solverFormsSpec.post enc Tryz.prog Tryz.f13 false true false false) := by
  refine returnsInHanded_of_change (C := Tryz.checked) own started (by kernel_rfl) Tryz.func13
    (ChangeSpec.witness6 (enc := enc) (C := Tryz.checked) false ⟨#[], #[.agg #[.int .i64 0, .int .i64 0, .int .i64 0, .int .i64 0, .slice none 0 0, .int .i64 0, .bool false, .int .i64 0, .bool false, .int .i64 0, .bool false, .int .i64 0, .bool false, .int .i64 0, .bool false, .int .i64 0, .bool false, .int .i64 0, .bool false, .int .i64 0, .bool false, .int .i64 0, .bool false, .int .i64 0, .bool false, .bool false, .int .i64 0], .agg #[.int .i64 0, .bool false, .int .i64 0, .bool false], .agg #[.int .i64 0, .bool false, .int .i64 0, .bool false]], []⟩ 8 (by kernel_rfl) (by kernel_rfl) (by kernel_rfl) (by kernel_rfl)) ?_
  intro W base args ds gs before hval hW hcnd _
  have hW' := hW
  obtain ⟨p, q, hA, hV, rfl, hfz, hnd⟩ := hW
  obtain ⟨rfl, rfl⟩ := trodVars_none hV
  have hA' := hA
  rw [Tryz.params13] at hA hval
  obtain ⟨avs, w1, w2⟩ := args_read (P := Tryz.prog) (ss := [.agg shB, .agg [.int .i64, .bool, .int .i64, .bool], .agg [.int .i64, .bool, .int .i64, .bool]]) (by kernel_rfl) (fun j t v hj hv => hval j t v (by simpa using hj) (by simpa using hv)) hA
  obtain ⟨v0, vs0, d0, ds0, p0, q0, hargs, rfl, rfl, h0, r0⟩ := trodAll_cons hA
  obtain ⟨v1, vs1, d1, ds1, p1, q1, rfl, rfl, rfl, h1, r1⟩ := trodAll_cons r0
  obtain ⟨v2, vs2, d2, ds2, p2, q2, rfl, rfl, rfl, h2, r2⟩ := trodAll_cons r1
  obtain ⟨rfl, rfl, rfl⟩ := trodAll_nil r2
  have hw := walk w1 w2
  rw [show args.toList.toArray = args by simp] at hw
  refine hw.mono fun e W' ⟨he, bel⟩ => ?_
  subst he
  obtain ⟨ps, hst⟩ := args_stay laidOut bel (by kernel_rfl) hA'
  exact ⟨_, rfl, _, _, _, [], _, [], hW', trodAll_mk1 (shut_bool Tryz.underlying4 _), hst, rfl, bel.frame _, fun h => by cases h⟩

theorem func : Tryz.pinned.checked.prog.funcNamed Rows.solverFormsRow.func = some 13 := by kernel_rfl
theorem four : ((Rows.solverFormsRow.inPlace == Tryz.prog.inPlace 13) = true) ∧ ((Rows.solverFormsRow.unfollowed == Tryz.prog.unfollowed 13) = true) ∧ ((Rows.solverFormsRow.recurses == Tryz.prog.recurses 13) = true) ∧ ((Rows.solverFormsRow.named == Tryz.prog.varsNamed 13) = true) := by
  have h : ((Rows.solverFormsRow.inPlace == Tryz.prog.inPlace 13) && ((Rows.solverFormsRow.unfollowed == Tryz.prog.unfollowed 13) && ((Rows.solverFormsRow.recurses == Tryz.prog.recurses 13) && (Rows.solverFormsRow.named == Tryz.prog.varsNamed 13)))) = true := by kernel_rfl
  simpa only [Bool.and_eq_true] using h
theorem facts : joinedFacts Tryz.prog 13 Tryz.f13 Rows.solverFormsSpec Rows.solverFormsRow = true :=
  andT (andT (andT (andT (andT (andT (andT (andT (andT (andT (andT (andT (andT (andT (andT (andT (andT (andT (andT (andT (andT (andT (andT (andT (andT (andT (andT (andT (andT (andT (andT (by kernel_rfl) laidOut) fRowed) (by kernel_rfl)) (by kernel_rfl)) (by kernel_rfl)) fStops) (by kernel_rfl)) fStopK) four.1) four.2.1) four.2.2.1) four.2.2.2) (by kernel_rfl)) (by kernel_rfl)) (by kernel_rfl)) (by kernel_rfl)) (by kernel_rfl)) (by kernel_rfl)) (by kernel_rfl)) (by kernel_rfl)) (by kernel_rfl)) fPlain) (by kernel_rfl)) fHeard) fMay) fLift) fMake) (by kernel_rfl)) (by kernel_rfl)) (by kernel_rfl)) (by kernel_rfl)
theorem over : Rows.solverFormsRow.holds Tryz.pinned (OpenSpec.ofChange Rows.solverFormsSpec) :=
  OpenClaim.holds_of_wide 13 Tryz.f13 rfl rfl rfl rfl rfl rfl rfl ⟨rfl, rfl, rfl, rfl, rfl⟩ rfl rfl rfl rfl rfl func Tryz.func13 facts
    (of_decide_eq_true (by kernel_rfl)) (by unfold Func.isWrapper; first | (rw [if_pos (by decide +kernel)]; kernel_rfl) | (rw [if_neg (by decide +kernel)]; exact ⟨rfl, rfl⟩))
    (fun os started H enc _ => lifted os started H enc)

theorem proved : Rows.SolverFormsSaid := over
#print axioms proved
end Go.Proofs.YtafigekkhpepkaaGreat.solverFormsDone
