/-
  SolverSleeps: its body.
-/
import Derived.Test.YtafigekkhpepkaaGreatCM7
import Derived.Test.YtafigekkhpepkaaGreatRows
import Derived.WalkKit
import Derived.ProofKit
section
set_option linter.unusedVariables false
set_option linter.unusedSimpArgs false
set_option maxHeartbeats 4000000
set_option maxRecDepth 100000
namespace Go.Ax
open Go.Proofs
/-- The body that sleeps. -/
def slB (a b c x y u p q r d : Int) : Bd := { mkB a b c x y u p q r d 1 4000 with v := zV, w := (0, false) }
def slQ (b : Bd) : Nat → Bd
  | 0 => b
  | i + 1 => resS (slQ b i)
theorem slQ_s {b : Bd} {i : Nat} : slQ b (i + 1) = resS (slQ b i) := rfl
theorem vc8 (a b c x y u p q r d k n : Int) (h0 : inR a) (h1 : inR b) (h2 : inR c) (h3 : inR x) (h4 : inR y) (h5 : inR u) (h6 : inR p) (h7 : inR q) (h8 : inR r) (h9 : inR d) (hn : inR n)
    (hb : inB (slB a b c x y u p q r d)) (hbn : (slB a b c x y u p q r d).n ≤ 1000) (hg : goS (slB a b c x y u p q r d) (tiN n, false) = slB a b c x y u p q r d)
    (hQ : ∀ i, i ≤ 30 → inB (slQ (slB a b c x y u p q r d) i) ∧ (slQ (slB a b c x y u p q r d) i).n ≤ 1000) (hS : ∀ i, i < 30 → (slQ (slB a b c x y u p q r d) i).sl = false) (hS2 : (slQ (slB a b c x y u p q r d) 30).sl = true) (hR : resS (slQ (slB a b c x y u p q r d) 30) = slQ (slB a b c x y u p q r d) 30) :
    fnVC Tryz.prog [(24, kb24), (48, kt48), (41, kb41), (47, kb47), (43, kb43), (15, c15)] [] Tryz.f8 [.agg [i64 a, i64 b, i64 c, i64 x, i64 y, i64 u, i64 p, i64 q, i64 r, i64 d, i64 k], i64 n] (· = bo true) := by
  refine fnVC_go (rs := [.tmp 4]) rfl rfl ?_
  simp only [bodyC, go_sem, kb24, kt48, kb41, kb47, kb43, c15, cB_eq, cBR_eq, bodyD_lit, gx_pts0, gx_pts1, spots_can, etaN, etaV, bd_eta, h0, h1, h2, h3, h4, h5, h6, h7, h8, h9, hn]
  intro b' hb' b1 hb1
  subst hb'
  have hb1 : b1 = slB a b c x y u p q r d := hb1.trans hg
  subst hb1
  refine ⟨hb, hbn, by have := @tiN_bd n; unfold inR; omega, fun z hz => ⟨hb, hbn, rfl, fun hz2 => (by rw [hz] at hz2; cases hz2), fun _ => ?_⟩⟩
  refine loopC_go (fun (i : Nat) => i ≤ 30) (fun i => 30 - i) (fun i => [(6, i64 (i : Int))]) (fun i => [(6, fam1 57 27 (bodyC (slQ (slB a b c x y u p q r d) i)) none)]) [0] [21, 22, 25, 26, 4, 27, 28, 23, 24, 6] 0 (by kernel_rfl) ?_ (Nat.zero_le _) ?_ ?_
  · intro i _; simp [goodNames, asg]
  · simp only [go_sem]
    exact fitL_clean rfl
  intro i hi
  obtain ⟨i1, i2⟩ := hQ i hi
  generalize hq : slQ (slB a b c x y u p q r d) i = B at *
  simp only [bodyC, go_sem, kb24, kt48, kb41, kb47, kb43, c15, cB_eq, cBR_eq, bodyD_lit, gx_pts0, gx_pts1, spots_can, etaN, etaV, bd_eta, i1, i2]
  refine ⟨fun h => ⟨fun w => ?_, fun w b' hb' z hz => ⟨i + 1, by omega, by omega, by rw [hz, wrap_in (by unfold inR; omega)]; rfl, ?_⟩⟩, fun h => ?_⟩
  · have := hS i (by omega)
    rw [hq, w] at this
    cases this
  · have e : slQ (slB a b c x y u p q r d) (i + 1) = b' := by rw [slQ_s, hq, hb']
    rw [e]
    (repeat' (first | rfl | apply And.intro))
  · have e : i = 30 := by omega
    subst e
    rw [hq] at hS2 hR
    rw [hS2, hR]
    intro b' hb'
    subst hb'
    refine ⟨fun _ => trivial, fun _ => trivial, fun _ => trivial, fun z hz => ⟨fun _ => trivial, fun _ => i1, fun _ => i2, fun _ => by rw [hS2], fun z1 hz1 => ⟨⟨rfl, hz⟩, hz1⟩⟩⟩
end Go.Ax
end

section
/-
  What is proved: for every input bagatellelaw05.SolverSleeps returns true, and the input reads ars it did. No further condition.
-/
namespace Go.Proofs.YtafigekkhpepkaaGreat.solverSleepsDone
open Go.ChangeShapes Go.WideShapes Go.ChangeAt Go.RowKit Go.Ax
set_option linter.unusedVariables false

theorem own : ownKnob Tryz.prog.godebug = none := by kernel_rfl

theorem ctx : CtxOK Tryz.prog [(24, kb24), (48, kt48), (41, kb41), (47, kb47), (43, kb43), (15, c15)] :=
  (.cons con24 (.cons kont48 (.cons konb41 (.cons con47 (.cons konb43 (.cons con15 .nil))))))

set_option maxRecDepth 100000 in
theorem walk {w : World} {avs : List AV} {vs : List Value} (h : fitVs [.agg [.int .i64, .int .i64, .int .i64, .int .i64, .int .i64, .int .i64, .int .i64, .int .i64, .int .i64, .int .i64, .int .i64], .int .i64] avs) (hR : Rs w (.ext (All w)) avs vs) :
    Calls Tryz.prog 8 vs.toArray w fun e w' => e = .returned (.bool true) ∧ Below w.heap.size w w' := by
  obtain ⟨_, _, rfl, ⟨_, rfl, ⟨_, _, rfl, ⟨a, rfl, ja⟩, _, _, rfl, ⟨b, rfl, jb⟩, _, _, rfl, ⟨c, rfl, jc⟩, _, _, rfl, ⟨x, rfl, jx⟩, _, _, rfl, ⟨y, rfl, jy⟩, _, _, rfl, ⟨u, rfl, ju⟩, _, _, rfl, ⟨p, rfl, jp⟩, _, _, rfl, ⟨q, rfl, jq⟩, _, _, rfl, ⟨r, rfl, jr⟩, _, _, rfl, ⟨d, rfl, jd⟩, _, _, rfl, ⟨k, rfl, _jk⟩, rfl⟩⟩, _, _, rfl, ⟨n, rfl, jn⟩, rfl⟩ := h
  obtain ⟨_, k2⟩ := fn_sound ctx Tryz.func8 (by kernel_rfl) (vc8' a b c x y u p q r d k n (wf_i64 ja) (wf_i64 jb) (wf_i64 jc) (wf_i64 jx) (wf_i64 jy) (wf_i64 ju) (wf_i64 jp) (wf_i64 jq) (wf_i64 jr) (wf_i64 jd) (wf_i64 jn)) (All w) w vs (fun _ h => h) hR
  refine k2.mono fun e w' ⟨v, he, ⟨r, hr, hv⟩, hb⟩ => ?_
  subst hr
  cases hv
  exact ⟨he, hb⟩

set_option maxRecDepth 100000 in
theorem lifted (os : Os) (started : os.Started) (H : Type) (enc : TypeId × Value → H) :
    ReturnsInHanded {} Tryz.checked os 8 .any (Rows.solverSleepsSpec.pre6 enc Tryz.prog Tryz.f8 Rows.solverSleepsRow.domain false) (Rows.solverSleepsSpec.post enc Tryz.prog Tryz.f8 false true false false) := by
  refine returnsInHanded_of_change (C := Tryz.checked) own started (by kernel_rfl) Tryz.func8
    (ChangeSpec.witness6 (enc := enc) (C := Tryz.checked) false ⟨#[], #[.agg #[.int .i64 0, .int .i64 0, .int .i64 0, .int .i64 0, .int .i64 0, .int .i64 0, .int .i64 0, .int .i64 0, .int .i64 0, .int .i64 0, .int .i64 0], .int .i64 0], []⟩ 8 (by kernel_rfl) (by kernel_rfl) (by kernel_rfl) (by kernel_rfl)) ?_
  intro W base args ds gs before hval hW hcnd _
  have hW' := hW
  obtain ⟨p, q, hA, hV, rfl, hfz, hnd⟩ := hW
  obtain ⟨rfl, rfl⟩ := trodVars_none hV
  have hA' := hA
  rw [Tryz.params8] at hA hval
  obtain ⟨avs, w1, w2⟩ := args_read (P := Tryz.prog) (ss := [.agg [.int .i64, .int .i64, .int .i64, .int .i64, .int .i64, .int .i64, .int .i64, .int .i64, .int .i64, .int .i64, .int .i64], .int .i64]) (by kernel_rfl) (fun j t v hj hv => hval j t v (by simpa using hj) (by simpa using hv)) hA
  obtain ⟨v0, vs0, d0, ds0, p0, q0, hargs, rfl, rfl, h0, r0⟩ := trodAll_cons hA
  obtain ⟨v1, vs1, d1, ds1, p1, q1, rfl, rfl, rfl, h1, r1⟩ := trodAll_cons r0
  obtain ⟨rfl, rfl, rfl⟩ := trodAll_nil r1
  have hw := walk w1 w2
  rw [show args.toList.toArray = args by simp] at hw
  refine hw.mono fun e W' ⟨he, bel⟩ => ?_
  subst he
  obtain ⟨ps, hst⟩ := args_stay laidOut bel (by kernel_rfl) hA'
  exact ⟨_, rfl, _, _, _, [], _, [], hW', trodAll_mk1 (shut_bool Tryz.underlying4 _), hst, rfl, bel.frame _, fun h => by cases h⟩

theorem func : Tryz.pinned.checked.prog.funcNamed Rows.solverSleepsRow.func = some 8 := by kernel_rfl
theorem four : ((Rows.solverSleepsRow.inPlace == Tryz.prog.inPlace 8) = true) ∧ ((Rows.solverSleepsRow.unfollowed == Tryz.prog.unfollowed 8) = true) ∧ ((Rows.solverSleepsRow.recurses == Tryz.prog.recurses 8) = true) ∧ ((Rows.solverSleepsRow.named == Tryz.prog.varsNamed 8) = true) := by
  have h : ((Rows.solverSleepsRow.inPlace == Tryz.prog.inPlace 8) && ((Rows.solverSleepsRow.unfollowed == Tryz.prog.unfollowed 8) && ((Rows.solverSleepsRow.recurses == Tryz.prog.recurses 8) && (Rows.solverSleepsRow.named == Tryz.prog.varsNamed 8)))) = true := by kernel_rfl
  simpa only [Bool.and_eq_true] using h
theorem facts : joinedFacts Tryz.prog 8 Tryz.f8 Rows.solverSleepsSpec Rows.solverSleepsRow = true :=
  andT (andT (andT (andT (andT (andT (andT (andT (andT (andT (andT (andT (andT (andT (andT (andT (andT (andT (andT (andT (andT (andT (andT (andT (andT (andT (andT (andT (andT (andT (andT (by kernel_rfl) laidOut) fRowed) (by kernel_rfl)) (by kernel_rfl)) (by kernel_rfl)) fStops) (by kernel_rfl)) fStopK) four.1) four.2.1) four.2.2.1) four.2.2.2) (by kernel_rfl)) (by kernel_rfl)) (by kernel_rfl)) (by kernel_rfl)) (by kernel_rfl)) (by kernel_rfl)) (by kernel_rfl)) (by kernel_rfl)) (by kernel_rfl)) fPlain) (by kernel_rfl)) fHeard) fMay) fLift) fMake) (by kernel_rfl)) (by kernel_rfl)) (by kernel_rfl)) (by kernel_rfl)
theorem over : Rows.solverSleepsRow.holds Tryz.pinned (OpenSpec.ofChange Rows.solverSleepsSpec) :=
  OpenClaim.holds_of_wide 8 Tryz.f8 rfl rfl rfl rfl rfl rfl rfl ⟨rfl, rfl, rfl, rfl, rfl⟩ rfl rfl rfl rfl rfl func Tryz.func8 facts
    (of_decide_eq_true (by kernel_rfl)) (by unfold Func.isWrapper; first | (rw [if_pos (by decide +kernel)]; kernel_rfl) | (rw [if_neg (by decide +kernel)]; exact ⟨rfl, rfl⟩))
    (fun os started H enc _ => lifted os started H enc)

theorem proved : Rows.SolverSleepsSaid := over
#print axioms proved
end Go.Proofs.YtafigekkhpepkaaGreat.solverSleepsDone
end
