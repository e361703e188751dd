/-
  SolverSolves: its body.
-/
import Derived.Test.YtafigekkhpepkaaGreatCM9
import Derived.Test.YtafigekkhpepkaaGreatRows
import Derived.WalkKit
import Derived.ProofKit
section
set_option linter.unusedVariables false
set_option linter.unusedSimpArgs false
set_option maxHeartbeats 4000000
set_option maxRecDepth 100000
namespace Go.Ax
open Go.Proofs
theorem vc11 (N : Nat) (B : Nat → Bd) (M : Nat) (C : Nat → Ct) (L : Nat) (J : Nat → Jt) (r d : Int) (q : Bool) (hN : N ≤ 9223372036854775807) (hB : ∀ i, inB (B i) ∧ (B i).n ≤ 9223372036854775807) (hM : M ≤ 9223372036854775807) (hC : ∀ i, inC (C i) ∧ (C i).n ≤ 9223372036854775807) (hL : L ≤ 9223372036854775807) (hJ : ∀ i, inJ (J i)) (hr : inR r) (hd : inR d) :
    fnVC Tryz.prog [(14, kLitL), (15, c15), (16, kBs), (57, kCs), (58, kSol), (59, kSol), (18, kSaB), (60, kSaCs)] [] Tryz.f11 [.ro N 27 (bsC B), .ro M 15 (csC C), .ro L 13 (jsC J), i64 r, .agg [i64 d, bo q]] (· = bo true) := by
  refine fnVC_go (rs := [.tmp 10]) rfl rfl ?_
  simp only [go_sem, kLitL, c15, kBs, kCs, kSol, kSol, kSaB, kSaCs, cL_eq, bsD_C, hr, hd]
  intro z hz
  refine ⟨fun _ => trivial, fun _ => hN, fun _ i _ => (hB i).2, fun _ _ => trivial, fun h => ?_⟩
  have h12 : ∀ i, i < N → (B i).n ≤ 12 := of_decide_eq_true (hz.symm.trans h.1.1.2)
  have hN5 : N ≤ 1000 := by omega
  have hM5 : M ≤ 1000 := by omega
  have hL5 : L ≤ 1000 := by omega
  have hb : inBs N B := fun i hi => ⟨(hB i).1, by have := h12 i hi; omega⟩
  have hj : inJs L J := fun i _ => hJ i
  have q6 : ∀ c : Ct, List.drop 6 (contC c) = .ro c.n 6 (tchs c.P c.D) :: List.drop 7 (contC c) := fun _ => rfl
  refine loopC_go (fun (i : Nat) => i ≤ M ∧ ∀ k, k < i → (C k).n ≤ 6) (fun i => M - i) (fun i => [(11, i64 (i : Int))]) (fun i => []) [0] [37, 38, 39, 40, 43, 44, 45, 46, 47, 48, 49, 50, 51, 10, 41, 42, 11] 0 (by kernel_rfl) ?_ ⟨Nat.zero_le _, fun k hk => absurd hk (Nat.not_lt_zero k)⟩ ?_ ?_
  · intro i _; simp [goodNames, asg]
  · simp only [go_sem]
  intro i ⟨hi, hn⟩
  by_cases hiM : i < M
  · simp only [go_sem, kLitL, c15, kBs, kCs, kSol, kSol, kSaB, kSaCs, drop2_cont, forall_eq]
    refine ⟨fun h => ⟨by omega, h, fun _ _ => trivial, fun h6 => ⟨i + 1, ⟨by omega, fun k hk => ?_⟩, by omega, by rw [wrap_in (by unfold inR; omega)]; rfl⟩⟩, fun h => absurd hiM (by omega)⟩
    by_cases e : k < i
    · exact hn k e
    · have e : k = i := by omega
      subst e
      omega
  have e : M = i := by omega
  subst e
  have hc : inCs M C := fun k hk => ⟨(hC k).1, by have := hn k hk; omega⟩
  simp only [go_sem, kLitL, c15, kBs, kCs, kSol, kSol, kSaB, kSaCs, cL_eq, bsD_C, hr, hd, hN5, hM5, hL5, hb, hc, hj, drop2_cont, forall_eq]
  have hs := rndS_in (M := M) (L := L) (J := J) (dt := (d, q)) (s := ⟨B, C⟩) hb hc (rdN r)
  exact ⟨fun h => absurd h (by omega), fun _ => ⟨parL_in hs.1 M, fun _ => hs.2⟩⟩
end Go.Ax
end

section
/-
  What is proved: for every input bagatellelaw05.SolverSolves returns true, and the input reads ars it did. No further condition.
-/
namespace Go.Proofs.YtafigekkhpepkaaGreat.solverSolvesDone
open Go.ChangeShapes Go.WideShapes Go.ChangeAt Go.RowKit Go.Ax
set_option linter.unusedVariables false

theorem own : ownKnob Tryz.prog.godebug = none := by kernel_rfl

theorem ctx : CtxOK Tryz.prog [(14, kLitL), (15, c15), (16, kBs), (57, kCs), (58, kSol), (59, kSol), (18, kSaB), (60, kSaCs)] :=
  (.cons konLL14 (.cons con15 (.cons con16 (.cons con57 (.cons con58 (.cons con59 (.cons con18 (.cons con60 .nil))))))))

set_option maxRecDepth 100000 in
theorem walk {w : World} {avs : List AV} {vs : List Value} (h : fitVs [.slice 27 shB, .slice 15 shC, .slice 13 shJ, .int .i64, .agg [.int .i64, .bool]] avs) (hR : Rs w (.ext (All w)) avs vs) :
    Calls Tryz.prog 11 vs.toArray w fun e w' => e = .returned (.bool true) ∧ Below w.heap.size w w' := by
  obtain ⟨_, _, rfl, ⟨n, get, rfl, hn, hb⟩, _, _, rfl, ⟨m, gc, rfl, hm, hc⟩, _, _, rfl, ⟨l, gj, rfl, hl, hj⟩, _, _, rfl, ⟨r, rfl, hr⟩, _, _, rfl, ⟨_, rfl, ⟨_, _, rfl, ⟨d0, rfl, w0⟩, _, _, rfl, ⟨d1, rfl⟩, rfl⟩⟩, rfl⟩ := h
  rw [(rowsB hb).1, (rowsC hc).1, (rowsJ hj).1] at hR
  unfold maxLen at hn hm hl
  obtain ⟨_, k2⟩ := fn_sound ctx Tryz.func11 (by kernel_rfl) (vc11 n (bsD get) m (csD gc) l (jsD gj) r d0 d1 (by omega) (rowsB hb).2 (by omega) (rowsC hc).2 (by omega) (rowsJ hj).2 (wf_i64 hr) (wf_i64 w0)) (All w) w vs (fun _ h => h) hR
  refine k2.mono fun e w' ⟨v, he, ⟨r, hr, hv⟩, hb⟩ => ?_
  subst hr
  cases hv
  exact ⟨he, hb⟩

set_option maxRecDepth 100000 in
theorem lifted (os : Os) (started : os.Started) (H : Type) (enc : TypeId × Value → H) :
    ReturnsInHanded {} Tryz.checked os 11 .any (Rows.solverSolvesSpec.pre6 enc Tryz.prog Tryz.f11 Rows.solverSolvesRow.domain false) (Rows.solverSolvesSpec.post enc Tryz.prog Tryz.f11 false true false false) := by
  refine returnsInHanded_of_change (C := Tryz.checked) own started (by kernel_rfl) Tryz.func11
    (ChangeSpec.witness6 (enc := enc) (C := Tryz.checked) false ⟨#[], #[.slice none 0 0, .slice none 0 0, .slice none 0 0, .int .i64 0, .agg #[.int .i64 0, .bool false]], []⟩ 8 (by kernel_rfl) (by kernel_rfl) (by kernel_rfl) (by kernel_rfl)) ?_
  intro W base args ds gs before hval hW hcnd _
  have hW' := hW
  obtain ⟨p, q, hA, hV, rfl, hfz, hnd⟩ := hW
  obtain ⟨rfl, rfl⟩ := trodVars_none hV
  have hA' := hA
  rw [Tryz.params11] at hA hval
  obtain ⟨avs, w1, w2⟩ := args_read (P := Tryz.prog) (ss := [.slice 27 shB, .slice 15 shC, .slice 13 shJ, .int .i64, .agg [.int .i64, .bool]]) (by kernel_rfl) (fun j t v hj hv => hval j t v (by simpa using hj) (by simpa using hv)) hA
  obtain ⟨v0, vs0, d0, ds0, p0, q0, hargs, rfl, rfl, h0, r0⟩ := trodAll_cons hA
  obtain ⟨v1, vs1, d1, ds1, p1, q1, rfl, rfl, rfl, h1, r1⟩ := trodAll_cons r0
  obtain ⟨v2, vs2, d2, ds2, p2, q2, rfl, rfl, rfl, h2, r2⟩ := trodAll_cons r1
  obtain ⟨v3, vs3, d3, ds3, p3, q3, rfl, rfl, rfl, h3, r3⟩ := trodAll_cons r2
  obtain ⟨v4, vs4, d4, ds4, p4, q4, rfl, rfl, rfl, h4, r4⟩ := trodAll_cons r3
  obtain ⟨rfl, rfl, rfl⟩ := trodAll_nil r4
  have hw := walk w1 w2
  rw [show args.toList.toArray = args by simp] at hw
  refine hw.mono fun e W' ⟨he, bel⟩ => ?_
  subst he
  obtain ⟨ps, hst⟩ := args_stay laidOut bel (by kernel_rfl) hA'
  exact ⟨_, rfl, _, _, _, [], _, [], hW', trodAll_mk1 (shut_bool Tryz.underlying4 _), hst, rfl, bel.frame _, fun h => by cases h⟩

theorem func : Tryz.pinned.checked.prog.funcNamed Rows.solverSolvesRow.func = some 11 := by kernel_rfl
theorem four : ((Rows.solverSolvesRow.inPlace == Tryz.prog.inPlace 11) = true) ∧ ((Rows.solverSolvesRow.unfollowed == Tryz.prog.unfollowed 11) = true) ∧ ((Rows.solverSolvesRow.recurses == Tryz.prog.recurses 11) = true) ∧ ((Rows.solverSolvesRow.named == Tryz.prog.varsNamed 11) = true) := by
  have h : ((Rows.solverSolvesRow.inPlace == Tryz.prog.inPlace 11) && ((Rows.solverSolvesRow.unfollowed == Tryz.prog.unfollowed 11) && ((Rows.solverSolvesRow.recurses == Tryz.prog.recurses 11) && (Rows.solverSolvesRow.named == Tryz.prog.varsNamed 11)))) = true := by kernel_rfl
  simpa only [Bool.and_eq_true] using h
theorem facts : joinedFacts Tryz.prog 11 Tryz.f11 Rows.solverSolvesSpec Rows.solverSolvesRow = true :=
  andT (andT (andT (andT (andT (andT (andT (andT (andT (andT (andT (andT (andT (andT (andT (andT (andT (andT (andT (andT (andT (andT (andT (andT (andT (andT (andT (andT (andT (andT (andT (by kernel_rfl) laidOut) fRowed) (by kernel_rfl)) (by kernel_rfl)) (by kernel_rfl)) fStops) (by kernel_rfl)) fStopK) four.1) four.2.1) four.2.2.1) four.2.2.2) (by kernel_rfl)) (by kernel_rfl)) (by kernel_rfl)) (by kernel_rfl)) (by kernel_rfl)) (by kernel_rfl)) (by kernel_rfl)) (by kernel_rfl)) (by kernel_rfl)) fPlain) (by kernel_rfl)) fHeard) fMay) fLift) fMake) (by kernel_rfl)) (by kernel_rfl)) (by kernel_rfl)) (by kernel_rfl)
theorem over : Rows.solverSolvesRow.holds Tryz.pinned (OpenSpec.ofChange Rows.solverSolvesSpec) :=
  OpenClaim.holds_of_wide 11 Tryz.f11 rfl rfl rfl rfl rfl rfl rfl ⟨rfl, rfl, rfl, rfl, rfl⟩ rfl rfl rfl rfl rfl func Tryz.func11 facts
    (of_decide_eq_true (by kernel_rfl)) (by unfold Func.isWrapper; first | (rw [if_pos (by decide +kernel)]; kernel_rfl) | (rw [if_neg (by decide +kernel)]; exact ⟨rfl, rfl⟩))
    (fun os started H enc _ => lifted os started H enc)

theorem proved : Rows.SolverSolvesSaid := over
#print axioms proved
end Go.Proofs.YtafigekkhpepkaaGreat.solverSolvesDone
end
