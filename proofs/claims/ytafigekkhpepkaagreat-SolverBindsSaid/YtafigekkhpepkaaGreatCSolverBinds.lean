/-
  SolverBinds: its body.
-/
import Derived.Test.YtafigekkhpepkaaGreatCM8
import Derived.Test.YtafigekkhpepkaaGreatRows
import Derived.WalkKit
import Derived.ProofKit
section
set_option linter.unusedVariables false
set_option linter.unusedSimpArgs false
set_option maxHeartbeats 4000000
set_option maxRecDepth 100000
namespace Go.Ax
open Go.Proofs
theorem vc9 (N : Nat) (B : Nat → Bd) (k a b x y z u l n r : Int) (e f g h m q : Bool) (hN : N ≤ 9223372036854775807) (hB : ∀ i, inB (B i) ∧ (B i).n ≤ 9223372036854775807) (h1 : inR x) (h2 : inR y) (h3 : inR z) (h4 : inR u) (h5 : inR l) (h6 : inR n) (h7 : inR r) :
    fnVC Tryz.prog [(14, kLitL), (15, c15), (16, kBs), (49, kBnd), (50, kBnd), (18, kSaB), (51, kj51), (52, kj52)] [] Tryz.f9 [.ro N 27 (bsC B), .agg [i64 k, i64 a, i64 b, i64 x, bo e, i64 y, bo f, i64 z, bo g, i64 u, bo h, i64 l, bo m], i64 n, .agg [i64 r, bo q]] (· = bo true) := by
  refine fnVC_go (rs := [.tmp 8]) rfl rfl ?_
  simp only [go_sem, kLitL, c15, kBs, kBnd, kBnd, kSaB, kj51, kj52, cL_eq, bsD_C, h1, h2, h3, h4, h5, h6, h7]
  intro z hz
  refine ⟨fun _ => trivial, fun _ => hN, fun _ i _ => (hB i).2, fun _ _ => trivial, fun h => ?_⟩
  have h12 : ∀ i, i < N → (B i).n ≤ 12 := of_decide_eq_true (hz.symm.trans h.2)
  have hN5 : N ≤ 1000 := by omega
  have hb : inBs N B := fun i hi => ⟨(hB i).1, by have := h12 i hi; omega⟩
  simp only [hN5, hb, bnd_in, forall_eq, implies_true, and_self, true_and, and_true, reduceCtorEq, false_imp_iff, true_imp_iff, imp_self, beq_self_eq_true]
end Go.Ax
end

section
/-
  What is proved: for every input bagatellelaw05.SolverBinds returns true, and the input reads ars it did. No further condition.
-/
namespace Go.Proofs.YtafigekkhpepkaaGreat.solverBindsDone
open Go.ChangeShapes Go.WideShapes Go.ChangeAt Go.RowKit Go.Ax
set_option linter.unusedVariables false

theorem own : ownKnob Tryz.prog.godebug = none := by kernel_rfl

theorem ctx : CtxOK Tryz.prog [(14, kLitL), (15, c15), (16, kBs), (49, kBnd), (50, kBnd), (18, kSaB), (51, kj51), (52, kj52)] :=
  (.cons konLL14 (.cons con15 (.cons con16 (.cons con49 (.cons con50 (.cons con18 (.cons konj51 (.cons konj52 .nil))))))))

set_option maxRecDepth 100000 in
theorem walk {w : World} {avs : List AV} {vs : List Value} (h : fitVs [.slice 27 shB, .agg [.int .i64, .int .i64, .int .i64, .int .i64, .bool, .int .i64, .bool, .int .i64, .bool, .int .i64, .bool, .int .i64, .bool], .int .i64, .agg [.int .i64, .bool]] avs) (hR : Rs w (.ext (All w)) avs vs) :
    Calls Tryz.prog 9 vs.toArray w fun e w' => e = .returned (.bool true) ∧ Below w.heap.size w w' := by
  obtain ⟨_, _, rfl, ⟨n, get, rfl, hn, hb⟩, _, _, rfl, ⟨_, rfl, ⟨_, _, rfl, ⟨k, rfl, _kk⟩, _, _, rfl, ⟨a, rfl, _ka⟩, _, _, rfl, ⟨b, rfl, _kb⟩, _, _, rfl, ⟨x, rfl, j0⟩, _, _, rfl, ⟨e, rfl⟩, _, _, rfl, ⟨y, rfl, j1⟩, _, _, rfl, ⟨f, rfl⟩, _, _, rfl, ⟨z, rfl, j2⟩, _, _, rfl, ⟨g, rfl⟩, _, _, rfl, ⟨u, rfl, j3⟩, _, _, rfl, ⟨h, rfl⟩, _, _, rfl, ⟨l, rfl, j4⟩, _, _, rfl, ⟨m, rfl⟩, rfl⟩⟩, _, _, rfl, ⟨c, rfl, hc⟩, _, _, rfl, ⟨_, rfl, ⟨_, _, rfl, ⟨r0, rfl, w0⟩, _, _, rfl, ⟨r1, rfl⟩, rfl⟩⟩, rfl⟩ := h
  rw [(rowsB hb).1] at hR
  unfold maxLen at hn
  obtain ⟨_, k2⟩ := fn_sound ctx Tryz.func9 (by kernel_rfl) (vc9 n (bsD get) k a b x y z u l c r0 e f g h m r1 (by omega) (rowsB hb).2 (wf_i64 j0) (wf_i64 j1) (wf_i64 j2) (wf_i64 j3) (wf_i64 j4) (wf_i64 hc) (wf_i64 w0)) (All w) w vs (fun _ h => h) hR
  refine k2.mono fun e w' ⟨v, he, ⟨r, hr, hv⟩, hb⟩ => ?_
  subst hr
  cases hv
  exact ⟨he, hb⟩

set_option maxRecDepth 100000 in
theorem lifted (os : Os) (started : os.Started) (H : Type) (enc : TypeId × Value → H) :
    ReturnsInHanded {} Tryz.checked os 9 .any (Rows.solverBindsSpec.pre6 enc Tryz.prog Tryz.f9 Rows.solverBindsRow.domain false) (Rows.solverBindsSpec.post enc Tryz.prog Tryz.f9 false true false false) := by
  refine returnsInHanded_of_change (C := Tryz.checked) own started (by kernel_rfl) Tryz.func9
    (ChangeSpec.witness6 (enc := enc) (C := Tryz.checked) false ⟨#[], #[.slice none 0 0, .agg #[.int .i64 0, .int .i64 0, .int .i64 0, .int .i64 0, .bool false, .int .i64 0, .bool false, .int .i64 0, .bool false, .int .i64 0, .bool false, .int .i64 0, .bool false], .int .i64 0, .agg #[.int .i64 0, .bool false]], []⟩ 8 (by kernel_rfl) (by kernel_rfl) (by kernel_rfl) (by kernel_rfl)) ?_
  intro W base args ds gs before hval hW hcnd _
  have hW' := hW
  obtain ⟨p, q, hA, hV, rfl, hfz, hnd⟩ := hW
  obtain ⟨rfl, rfl⟩ := trodVars_none hV
  have hA' := hA
  rw [Tryz.params9] at hA hval
  obtain ⟨avs, w1, w2⟩ := args_read (P := Tryz.prog) (ss := [.slice 27 shB, .agg [.int .i64, .int .i64, .int .i64, .int .i64, .bool, .int .i64, .bool, .int .i64, .bool, .int .i64, .bool, .int .i64, .bool], .int .i64, .agg [.int .i64, .bool]]) (by kernel_rfl) (fun j t v hj hv => hval j t v (by simpa using hj) (by simpa using hv)) hA
  obtain ⟨v0, vs0, d0, ds0, p0, q0, hargs, rfl, rfl, h0, r0⟩ := trodAll_cons hA
  obtain ⟨v1, vs1, d1, ds1, p1, q1, rfl, rfl, rfl, h1, r1⟩ := trodAll_cons r0
  obtain ⟨v2, vs2, d2, ds2, p2, q2, rfl, rfl, rfl, h2, r2⟩ := trodAll_cons r1
  obtain ⟨v3, vs3, d3, ds3, p3, q3, rfl, rfl, rfl, h3, r3⟩ := trodAll_cons r2
  obtain ⟨rfl, rfl, rfl⟩ := trodAll_nil r3
  have hw := walk w1 w2
  rw [show args.toList.toArray = args by simp] at hw
  refine hw.mono fun e W' ⟨he, bel⟩ => ?_
  subst he
  obtain ⟨ps, hst⟩ := args_stay laidOut bel (by kernel_rfl) hA'
  exact ⟨_, rfl, _, _, _, [], _, [], hW', trodAll_mk1 (shut_bool Tryz.underlying4 _), hst, rfl, bel.frame _, fun h => by cases h⟩

theorem func : Tryz.pinned.checked.prog.funcNamed Rows.solverBindsRow.func = some 9 := by kernel_rfl
theorem four : ((Rows.solverBindsRow.inPlace == Tryz.prog.inPlace 9) = true) ∧ ((Rows.solverBindsRow.unfollowed == Tryz.prog.unfollowed 9) = true) ∧ ((Rows.solverBindsRow.recurses == Tryz.prog.recurses 9) = true) ∧ ((Rows.solverBindsRow.named == Tryz.prog.varsNamed 9) = true) := by
  have h : ((Rows.solverBindsRow.inPlace == Tryz.prog.inPlace 9) && ((Rows.solverBindsRow.unfollowed == Tryz.prog.unfollowed 9) && ((Rows.solverBindsRow.recurses == Tryz.prog.recurses 9) && (Rows.solverBindsRow.named == Tryz.prog.varsNamed 9)))) = true := by kernel_rfl
  simpa only [Bool.and_eq_true] using h
theorem facts : joinedFacts Tryz.prog 9 Tryz.f9 Rows.solverBindsSpec Rows.solverBindsRow = true :=
  andT (andT (andT (andT (andT (andT (andT (andT (andT (andT (andT (andT (andT (andT (andT (andT (andT (andT (andT (andT (andT (andT (andT (andT (andT (andT (andT (andT (andT (andT (andT (by kernel_rfl) laidOut) fRowed) (by kernel_rfl)) (by kernel_rfl)) (by kernel_rfl)) fStops) (by kernel_rfl)) fStopK) four.1) four.2.1) four.2.2.1) four.2.2.2) (by kernel_rfl)) (by kernel_rfl)) (by kernel_rfl)) (by kernel_rfl)) (by kernel_rfl)) (by kernel_rfl)) (by kernel_rfl)) (by kernel_rfl)) (by kernel_rfl)) fPlain) (by kernel_rfl)) fHeard) fMay) fLift) fMake) (by kernel_rfl)) (by kernel_rfl)) (by kernel_rfl)) (by kernel_rfl)
theorem over : Rows.solverBindsRow.holds Tryz.pinned (OpenSpec.ofChange Rows.solverBindsSpec) :=
  OpenClaim.holds_of_wide 9 Tryz.f9 rfl rfl rfl rfl rfl rfl rfl ⟨rfl, rfl, rfl, rfl, rfl⟩ rfl rfl rfl rfl rfl func Tryz.func9 facts
    (of_decide_eq_true (by kernel_rfl)) (by unfold Func.isWrapper; first | (rw [if_pos (by decide +kernel)]; kernel_rfl) | (rw [if_neg (by decide +kernel)]; exact ⟨rfl, rfl⟩))
    (fun os started H enc _ => lifted os started H enc)

theorem proved : Rows.SolverBindsSaid := over
#print axioms proved
end Go.Proofs.YtafigekkhpepkaaGreat.solverBindsDone
end
