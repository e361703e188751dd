/-
  What is proved: for every input bagatellelaw05.SolverParts returns true, and the input reads ars it did. No further condition.
-/
import Derived.Test.YtafigekkhpepkaaGreatCM8
import Derived.Test.YtafigekkhpepkaaGreatRows
import Derived.WalkKit
import Derived.ProofKit
namespace Go.Proofs.YtafigekkhpepkaaGreat.solverPartsDone
open Go.ChangeShapes Go.WideShapes Go.ChangeAt Go.RowKit Go.Ax
set_option linter.unusedVariables false

theorem own : ownKnob Tryz.prog.godebug = none := by kernel_rfl

theorem ctx : CtxOK Tryz.prog [(14, kLitL), (15, c15), (16, kBs), (17, kCon), (19, kPar), (20, kPar), (18, kSaB), (21, kSaC)] :=
  (.cons konLL14 (.cons con15 (.cons con16 (.cons con17 (.cons con19 (.cons con20 (.cons con18 (.cons con21 .nil))))))))

set_option maxRecDepth 100000 in
theorem walk {w : World} {avs : List AV} {vs : List Value} (h : fitVs [.slice 27 shB, .agg shC] avs) (hR : Rs w (.ext (All w)) avs vs) :
    Calls Tryz.prog 3 vs.toArray w fun e w' => e = .returned (.bool true) ∧ Below w.heap.size w w' := by
  obtain ⟨_, _, rfl, ⟨n, get, rfl, hn, hb⟩, _, _, rfl, ⟨l, rfl, hl⟩, rfl⟩ := h
  rw [(rowC hl).1, (rowsB hb).1] at hR
  unfold maxLen at hn
  obtain ⟨_, k2⟩ := fn_sound ctx Tryz.func3 (by kernel_rfl) (vc3 n (bsD get) (contD l) (by omega) (rowsB hb).2 (rowC hl).2.1 (rowC hl).2.2) (All w) w vs (fun _ h => h) hR
  refine k2.mono fun e w' ⟨v, he, ⟨r, hr, hv⟩, hb⟩ => ?_
  subst hr
  cases hv
  exact ⟨he, hb⟩

set_option maxRecDepth 100000 in
theorem lifted (os : Os) (started : os.Started) (H : Type) (enc : TypeId × Value → H) :
    ReturnsInHanded {} Tryz.checked os 3 .any (Rows.solverPartsSpec.pre6 enc Tryz.prog Tryz.f3 Rows.solverPartsRow.domain false) (Rows.solverPartsSpec.post enc Tryz.prog Tryz.f3 false true false false) := by
  refine returnsInHanded_of_change (C := Tryz.checked) own started (by kernel_rfl) Tryz.func3
    (ChangeSpec.witness6 (enc := enc) (C := Tryz.checked) false ⟨#[], #[.slice none 0 0, .agg #[.int .i64 0, .int .i64 0, .int .i64 0, .bool false, .int .i64 0, .bool false, .slice none 0 0, .int .i64 0, .bool false, .int .i64 0, .bool false, .int .i64 0, .bool false, .int .i64 0, .bool false]], []⟩ 8 (by kernel_rfl) (by kernel_rfl) (by kernel_rfl) (by kernel_rfl)) ?_
  intro W base args ds gs before hval hW hcnd _
  have hW' := hW
  obtain ⟨p, q, hA, hV, rfl, hfz, hnd⟩ := hW
  obtain ⟨rfl, rfl⟩ := trodVars_none hV
  have hA' := hA
  rw [Tryz.params3] at hA hval
  obtain ⟨avs, w1, w2⟩ := args_read (P := Tryz.prog) (ss := [.slice 27 shB, .agg shC]) (by kernel_rfl) (fun j t v hj hv => hval j t v (by simpa using hj) (by simpa using hv)) hA
  obtain ⟨v0, vs0, d0, ds0, p0, q0, hargs, rfl, rfl, h0, r0⟩ := trodAll_cons hA
  obtain ⟨v1, vs1, d1, ds1, p1, q1, rfl, rfl, rfl, h1, r1⟩ := trodAll_cons r0
  obtain ⟨rfl, rfl, rfl⟩ := trodAll_nil r1
  have hw := walk w1 w2
  rw [show args.toList.toArray = args by simp] at hw
  refine hw.mono fun e W' ⟨he, bel⟩ => ?_
  subst he
  obtain ⟨ps, hst⟩ := args_stay laidOut bel (by kernel_rfl) hA'
  exact ⟨_, rfl, _, _, _, [], _, [], hW', trodAll_mk1 (shut_bool Tryz.underlying4 _), hst, rfl, bel.frame _, fun h => by cases h⟩

theorem func : Tryz.pinned.checked.prog.funcNamed Rows.solverPartsRow.func = some 3 := by kernel_rfl
theorem four : ((Rows.solverPartsRow.inPlace == Tryz.prog.inPlace 3) = true) ∧ ((Rows.solverPartsRow.unfollowed == Tryz.prog.unfollowed 3) = true) ∧ ((Rows.solverPartsRow.recurses == Tryz.prog.recurses 3) = true) ∧ ((Rows.solverPartsRow.named == Tryz.prog.varsNamed 3) = true) := by
  have h : ((Rows.solverPartsRow.inPlace == Tryz.prog.inPlace 3) && ((Rows.solverPartsRow.unfollowed == Tryz.prog.unfollowed 3) && ((Rows.solverPartsRow.recurses == Tryz.prog.recurses 3) && (Rows.solverPartsRow.named == Tryz.prog.varsNamed 3)))) = true := by kernel_rfl
  simpa only [Bool.and_eq_true] using h
theorem facts : joinedFacts Tryz.prog 3 Tryz.f3 Rows.solverPartsSpec Rows.solverPartsRow = true :=
  andT (andT (andT (andT (andT (andT (andT (andT (andT (andT (andT (andT (andT (andT (andT (andT (andT (andT (andT (andT (andT (andT (andT (andT (andT (andT (andT (andT (andT (andT (andT (by kernel_rfl) laidOut) fRowed) (by kernel_rfl)) (by kernel_rfl)) (by kernel_rfl)) fStops) (by kernel_rfl)) fStopK) four.1) four.2.1) four.2.2.1) four.2.2.2) (by kernel_rfl)) (by kernel_rfl)) (by kernel_rfl)) (by kernel_rfl)) (by kernel_rfl)) (by kernel_rfl)) (by kernel_rfl)) (by kernel_rfl)) (by kernel_rfl)) fPlain) (by kernel_rfl)) fHeard) fMay) fLift) fMake) (by kernel_rfl)) (by kernel_rfl)) (by kernel_rfl)) (by kernel_rfl)
theorem over : Rows.solverPartsRow.holds Tryz.pinned (OpenSpec.ofChange Rows.solverPartsSpec) :=
  OpenClaim.holds_of_wide 3 Tryz.f3 rfl rfl rfl rfl rfl rfl rfl ⟨rfl, rfl, rfl, rfl, rfl⟩ rfl rfl rfl rfl rfl func Tryz.func3 facts
    (of_decide_eq_true (by kernel_rfl)) (by unfold Func.isWrapper; first | (rw [if_pos (by decide +kernel)]; kernel_rfl) | (rw [if_neg (by decide +kernel)]; exact ⟨rfl, rfl⟩))
    (fun os started H enc _ => lifted os started H enc)

theorem proved : Rows.SolverPartsSaid := over
#print axioms proved
end Go.Proofs.YtafigekkhpepkaaGreat.solverPartsDone
