/-
  What is proved: for every input bagatellelaw05.SolverSleeps returns true, and the input reads ars it did. No further condition.
-/
import Derived.Test.YtafigekkhpepkaaGreatCM8
import Derived.Test.YtafigekkhpepkaaGreatRows
import Derived.WalkKit
import Derived.ProofKit
namespace Go.Proofs.YtafigekkhpepkaaGreat.solverSleepsDone
open Go.ChangeShapes Go.WideShapes Go.ChangeAt Go.RowKit Go.Ax
set_option linter.unusedVariables false

theorem own : ownKnob Tryz.prog.godebug = none := by kernel_rfl

theorem ctx : CtxOK Tryz.prog [(24, kb24), (48, kt48), (41, kb41), (47, kb47), (43, kb43), (15, c15)] :=
  (.cons con24 (.cons kont48 (.cons konb41 (.cons con47 (.cons konb43 (.cons con15 .nil))))))

set_option maxRecDepth 100000 in
theorem walk {w : World} {avs : List AV} {vs : List Value} (h : fitVs [.agg [.int .i64, .int .i64, .int .i64, .int .i64, .int .i64, .int .i64, .int .i64, .int .i64, .int .i64, .int .i64, .int .i64], .int .i64] avs) (hR : Rs w (.ext (All w)) avs vs) :
    Calls Tryz.prog 8 vs.toArray w fun e w' => e = .returned (.bool true) ∧ Below w.heap.size w w' := by
  obtain ⟨_, _, rfl, ⟨_, rfl, ⟨_, _, rfl, ⟨a, rfl, ja⟩, _, _, rfl, ⟨b, rfl, jb⟩, _, _, rfl, ⟨c, rfl, jc⟩, _, _, rfl, ⟨x, rfl, jx⟩, _, _, rfl, ⟨y, rfl, jy⟩, _, _, rfl, ⟨u, rfl, ju⟩, _, _, rfl, ⟨p, rfl, jp⟩, _, _, rfl, ⟨q, rfl, jq⟩, _, _, rfl, ⟨r, rfl, jr⟩, _, _, rfl, ⟨d, rfl, jd⟩, _, _, rfl, ⟨k, rfl, _jk⟩, rfl⟩⟩, _, _, rfl, ⟨n, rfl, jn⟩, rfl⟩ := h
  obtain ⟨_, k2⟩ := fn_sound ctx Tryz.func8 (by kernel_rfl) (vc8' a b c x y u p q r d k n (wf_i64 ja) (wf_i64 jb) (wf_i64 jc) (wf_i64 jx) (wf_i64 jy) (wf_i64 ju) (wf_i64 jp) (wf_i64 jq) (wf_i64 jr) (wf_i64 jd) (wf_i64 jn)) (All w) w vs (fun _ h => h) hR
  refine k2.mono fun e w' ⟨v, he, ⟨r, hr, hv⟩, hb⟩ => ?_
  subst hr
  cases hv
  exact ⟨he, hb⟩

set_option maxRecDepth 100000 in
theorem lifted (os : Os) (started : os.Started) (H : Type) (enc : TypeId × Value → H) :
    ReturnsInHanded {} Tryz.checked os 8 .any (Rows.solverSleepsSpec.pre6 enc Tryz.prog Tryz.f8 Rows.solverSleepsRow.domain false) (Rows.solverSleepsSpec.post enc Tryz.prog Tryz.f8 false true false false) := by
  refine returnsInHanded_of_change (C := Tryz.checked) own started (by kernel_rfl) Tryz.func8
    (ChangeSpec.witness6 (enc := enc) (C := Tryz.checked) false ⟨#[], #[.agg #[.int .i64 0, .int .i64 0, .int .i64 0, .int .i64 0, .int .i64 0, .int .i64 0, .int .i64 0, .int .i64 0, .int .i64 0, .int .i64 0, .int .i64 0], .int .i64 0], []⟩ 8 (by kernel_rfl) (by kernel_rfl) (by kernel_rfl) (by kernel_rfl)) ?_
  intro W base args ds gs before hval hW hcnd _
  have hW' := hW
  obtain ⟨p, q, hA, hV, rfl, hfz, hnd⟩ := hW
  obtain ⟨rfl, rfl⟩ := trodVars_none hV
  have hA' := hA
  rw [Tryz.params8] at hA hval
  obtain ⟨avs, w1, w2⟩ := args_read (P := Tryz.prog) (ss := [.agg [.int .i64, .int .i64, .int .i64, .int .i64, .int .i64, .int .i64, .int .i64, .int .i64, .int .i64, .int .i64, .int .i64], .int .i64]) (by kernel_rfl) (fun j t v hj hv => hval j t v (by simpa using hj) (by simpa using hv)) hA
  obtain ⟨v0, vs0, d0, ds0, p0, q0, hargs, rfl, rfl, h0, r0⟩ := trodAll_cons hA
  obtain ⟨v1, vs1, d1, ds1, p1, q1, rfl, rfl, rfl, h1, r1⟩ := trodAll_cons r0
  obtain ⟨rfl, rfl, rfl⟩ := trodAll_nil r1
  have hw := walk w1 w2
  rw [show args.toList.toArray = args by simp] at hw
  refine hw.mono fun e W' ⟨he, bel⟩ => ?_
  subst he
  obtain ⟨ps, hst⟩ := args_stay laidOut bel (by kernel_rfl) hA'
  exact ⟨_, rfl, _, _, _, [], _, [], hW', trodAll_mk1 (shut_bool Tryz.underlying4 _), hst, rfl, bel.frame _, fun h => by cases h⟩

theorem func : Tryz.pinned.checked.prog.funcNamed Rows.solverSleepsRow.func = some 8 := by kernel_rfl
theorem four : ((Rows.solverSleepsRow.inPlace == Tryz.prog.inPlace 8) = true) ∧ ((Rows.solverSleepsRow.unfollowed == Tryz.prog.unfollowed 8) = true) ∧ ((Rows.solverSleepsRow.recurses == Tryz.prog.recurses 8) = true) ∧ ((Rows.solverSleepsRow.named == Tryz.prog.varsNamed 8) = true) := by
  have h : ((Rows.solverSleepsRow.inPlace == Tryz.prog.inPlace 8) && ((Rows.solverSleepsRow.unfollowed == Tryz.prog.unfollowed 8) && ((Rows.solverSleepsRow.recurses == Tryz.prog.recurses 8) && (Rows.solverSleepsRow.named == Tryz.prog.varsNamed 8)))) = true := by kernel_rfl
  simpa only [Bool.and_eq_true] using h
theorem facts : joinedFacts Tryz.prog 8 Tryz.f8 Rows.solverSleepsSpec Rows.solverSleepsRow = true :=
  andT (andT (andT (andT (andT (andT (andT (andT (andT (andT (andT (andT (andT (andT (andT (andT (andT (andT (andT (andT (andT (andT (andT (andT (andT (andT (andT (andT (andT (andT (andT (by kernel_rfl) laidOut) fRowed) (by kernel_rfl)) (by kernel_rfl)) (by kernel_rfl)) fStops) (by kernel_rfl)) fStopK) four.1) four.2.1) four.2.2.1) four.2.2.2) (by kernel_rfl)) (by kernel_rfl)) (by kernel_rfl)) (by kernel_rfl)) (by kernel_rfl)) (by kernel_rfl)) (by kernel_rfl)) (by kernel_rfl)) (by kernel_rfl)) fPlain) (by kernel_rfl)) fHeard) fMay) fLift) fMake) (by kernel_rfl)) (by kernel_rfl)) (by kernel_rfl)) (by kernel_rfl)
theorem over : Rows.solverSleepsRow.holds Tryz.pinned (OpenSpec.ofChange Rows.solverSleepsSpec) :=
  OpenClaim.holds_of_wide 8 Tryz.f8 rfl rfl rfl rfl rfl rfl rfl ⟨rfl, rfl, rfl, rfl, rfl⟩ rfl rfl rfl rfl rfl func Tryz.func8 facts
    (of_decide_eq_true (by kernel_rfl)) (by unfold Func.isWrapper; first | (rw [if_pos (by decide +kernel)]; kernel_rfl) | (rw [if_neg (by decide +kernel)]; exact ⟨rfl, rfl⟩))
    (fun os started H enc _ => lifted os started H enc)

theorem proved : Rows.SolverSleepsSaid := over
#print axioms proved
end Go.Proofs.YtafigekkhpepkaaGreat.solverSleepsDone
