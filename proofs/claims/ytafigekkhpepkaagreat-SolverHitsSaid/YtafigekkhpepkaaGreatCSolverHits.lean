/-
  SolverHits: its body.
-/
import Derived.Test.YtafigekkhpepkaaGreatCM8
import Derived.Test.YtafigekkhpepkaaGreatRows
import Derived.WalkKit
import Derived.ProofKit
section
set_option linter.unusedVariables false
set_option linter.unusedSimpArgs false
set_option maxHeartbeats 4000000
set_option maxRecDepth 100000
namespace Go.Ax
open Go.Proofs
theorem vc4 (N : Nat) (B : Nat → Bd) (c : Ct) (hN : N ≤ 9223372036854775807) (hB : ∀ i, inB (B i) ∧ (B i).n ≤ 9223372036854775807) (hc : inC c) (hn : c.n ≤ 9223372036854775807) :
    fnVC Tryz.prog [(14, kLitL), (15, c15), (16, kBs), (17, kCon), (22, kHit), (23, kHit), (18, kSaB), (21, kSaC)] [(3, ⟨[(6, .made 4)], []⟩)] Tryz.f4 [.ro N 27 (bsC B), .agg (contC c)] (· = bo true) := by
  refine fnVC_go (rs := [.tmp 4]) rfl rfl ?_
  have q6 : List.drop 6 (contC c) = .ro c.n 6 (tchs c.P c.D) :: List.drop 7 (contC c) := rfl
  simp only [go_sem, kLitL, c15, kBs, kCon, kHit, kHit, kSaB, kSaC, cL_eq, bsD_C, q6]
  intro z hz
  refine ⟨fun _ => trivial, fun _ => hN, fun _ i _ => (hB i).2, fun _ _ => trivial, fun h => ?_⟩
  have h12 : ∀ i, i < N → (B i).n ≤ 12 := of_decide_eq_true (hz.symm.trans h.1.2)
  have hN5 : N ≤ 1000 := by omega
  have hb : inBs N B := fun i hi => ⟨(hB i).1, by have := h12 i hi; omega⟩
  have hcn : c.n ≤ 1000 := by omega
  simp only [hN5, hb, hcn, hc, hitT_in, hitC_in, hitC_n, forall_eq, implies_true, and_self]
end Go.Ax
end

section
/-
  What is proved: for every input bagatellelaw05.SolverHits returns true, and the input reads ars it did. No further condition.
-/
namespace Go.Proofs.YtafigekkhpepkaaGreat.solverHitsDone
open Go.ChangeShapes Go.WideShapes Go.ChangeAt Go.RowKit Go.Ax
set_option linter.unusedVariables false

theorem own : ownKnob Tryz.prog.godebug = none := by kernel_rfl

theorem ctx : CtxOK Tryz.prog [(14, kLitL), (15, c15), (16, kBs), (17, kCon), (22, kHit), (23, kHit), (18, kSaB), (21, kSaC)] :=
  (.cons konLL14 (.cons con15 (.cons con16 (.cons con17 (.cons con22 (.cons con23 (.cons con18 (.cons con21 .nil))))))))

set_option maxRecDepth 100000 in
theorem walk {w : World} {avs : List AV} {vs : List Value} (h : fitVs [.slice 27 shB, .agg shC] avs) (hR : Rs w (.ext (All w)) avs vs) :
    Calls Tryz.prog 4 vs.toArray w fun e w' => e = .returned (.bool true) ∧ Below w.heap.size w w' := by
  obtain ⟨_, _, rfl, ⟨n, get, rfl, hn, hb⟩, _, _, rfl, ⟨l, rfl, hl⟩, rfl⟩ := h
  rw [(rowC hl).1, (rowsB hb).1] at hR
  unfold maxLen at hn
  obtain ⟨_, k2⟩ := fn_sound ctx Tryz.func4 (by kernel_rfl) (vc4 n (bsD get) (contD l) (by omega) (rowsB hb).2 (rowC hl).2.1 (rowC hl).2.2) (All w) w vs (fun _ h => h) hR
  refine k2.mono fun e w' ⟨v, he, ⟨r, hr, hv⟩, hb⟩ => ?_
  subst hr
  cases hv
  exact ⟨he, hb⟩

set_option maxRecDepth 100000 in
theorem lifted (os : Os) (started : os.Started) (H : Type) (enc : TypeId × Value → H) :
    ReturnsInHanded {} Tryz.checked os 4 .any (Rows.solverHitsSpec.pre6 enc Tryz.prog Tryz.f4 Rows.solverHitsRow.domain false) (Rows.solverHitsSpec.post enc Tryz.prog Tryz.f4 false true false false) := by
  refine returnsInHanded_of_change (C := Tryz.checked) own started (by kernel_rfl) Tryz.func4
    (ChangeSpec.witness6 (enc := enc) (C := Tryz.checked) false ⟨#[], #[.slice none 0 0, .agg #[.int .i64 0, .int .i64 0, .int .i64 0, .bool false, .int .i64 0, .bool false, .slice none 0 0, .int .i64 0, .bool false, .int .i64 0, .bool false, .int .i64 0, .bool false, .int .i64 0, .bool false]], []⟩ 8 (by kernel_rfl) (by kernel_rfl) (by kernel_rfl) (by kernel_rfl)) ?_
  intro W base args ds gs before hval hW hcnd _
  have hW' := hW
  obtain ⟨p, q, hA, hV, rfl, hfz, hnd⟩ := hW
  obtain ⟨rfl, rfl⟩ := trodVars_none hV
  have hA' := hA
  rw [Tryz.params4] at hA hval
  obtain ⟨avs, w1, w2⟩ := args_read (P := Tryz.prog) (ss := [.slice 27 shB, .agg shC]) (by kernel_rfl) (fun j t v hj hv => hval j t v (by simpa using hj) (by simpa using hv)) hA
  obtain ⟨v0, vs0, d0, ds0, p0, q0, hargs, rfl, rfl, h0, r0⟩ := trodAll_cons hA
  obtain ⟨v1, vs1, d1, ds1, p1, q1, rfl, rfl, rfl, h1, r1⟩ := trodAll_cons r0
  obtain ⟨rfl, rfl, rfl⟩ := trodAll_nil r1
  have hw := walk w1 w2
  rw [show args.toList.toArray = args by simp] at hw
  refine hw.mono fun e W' ⟨he, bel⟩ => ?_
  subst he
  obtain ⟨ps, hst⟩ := args_stay laidOut bel (by kernel_rfl) hA'
  exact ⟨_, rfl, _, _, _, [], _, [], hW', trodAll_mk1 (shut_bool Tryz.underlying4 _), hst, rfl, bel.frame _, fun h => by cases h⟩

theorem func : Tryz.pinned.checked.prog.funcNamed Rows.solverHitsRow.func = some 4 := by kernel_rfl
theorem four : ((Rows.solverHitsRow.inPlace == Tryz.prog.inPlace 4) = true) ∧ ((Rows.solverHitsRow.unfollowed == Tryz.prog.unfollowed 4) = true) ∧ ((Rows.solverHitsRow.recurses == Tryz.prog.recurses 4) = true) ∧ ((Rows.solverHitsRow.named == Tryz.prog.varsNamed 4) = true) := by
  have h : ((Rows.solverHitsRow.inPlace == Tryz.prog.inPlace 4) && ((Rows.solverHitsRow.unfollowed == Tryz.prog.unfollowed 4) && ((Rows.solverHitsRow.recurses == Tryz.prog.recurses 4) && (Rows.solverHitsRow.named == Tryz.prog.varsNamed 4)))) = true := by kernel_rfl
  simpa only [Bool.and_eq_true] using h
theorem facts : joinedFacts Tryz.prog 4 Tryz.f4 Rows.solverHitsSpec Rows.solverHitsRow = true :=
  andT (andT (andT (andT (andT (andT (andT (andT (andT (andT (andT (andT (andT (andT (andT (andT (andT (andT (andT (andT (andT (andT (andT (andT (andT (andT (andT (andT (andT (andT (andT (by kernel_rfl) laidOut) fRowed) (by kernel_rfl)) (by kernel_rfl)) (by kernel_rfl)) fStops) (by kernel_rfl)) fStopK) four.1) four.2.1) four.2.2.1) four.2.2.2) (by kernel_rfl)) (by kernel_rfl)) (by kernel_rfl)) (by kernel_rfl)) (by kernel_rfl)) (by kernel_rfl)) (by kernel_rfl)) (by kernel_rfl)) (by kernel_rfl)) fPlain) (by kernel_rfl)) fHeard) fMay) fLift) fMake) (by kernel_rfl)) (by kernel_rfl)) (by kernel_rfl)) (by kernel_rfl)
theorem over : Rows.solverHitsRow.holds Tryz.pinned (OpenSpec.ofChange Rows.solverHitsSpec) :=
  OpenClaim.holds_of_wide 4 Tryz.f4 rfl rfl rfl rfl rfl rfl rfl ⟨rfl, rfl, rfl, rfl, rfl⟩ rfl rfl rfl rfl rfl func Tryz.func4 facts
    (of_decide_eq_true (by kernel_rfl)) (by unfold Func.isWrapper; first | (rw [if_pos (by decide +kernel)]; kernel_rfl) | (rw [if_neg (by decide +kernel)]; exact ⟨rfl, rfl⟩))
    (fun os started H enc _ => lifted os started H enc)

theorem proved : Rows.SolverHitsSaid := over
#print axioms proved
end Go.Proofs.YtafigekkhpepkaaGreat.solverHitsDone
end
