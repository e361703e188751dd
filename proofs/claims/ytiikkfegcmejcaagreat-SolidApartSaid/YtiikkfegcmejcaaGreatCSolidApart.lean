/-
  What is proved: for every input bagatellelaw03.SolidApart returns true, and the input reads ars it did. No further condition.
-/
import Derived.Test.YtiikkfegcmejcaaGreatCM7
import Derived.Test.YtiikkfegcmejcaaGreatRows
import Derived.WalkKit
import Derived.ProofKit
namespace Go.Proofs.YtiikkfegcmejcaaGreat.solidApartDone
open Go.ChangeShapes Go.WideShapes Go.ChangeAt Go.RowKit Go.Ax
set_option linter.unusedVariables false

theorem own : ownKnob Tryz.prog.godebug = none := by kernel_rfl
theorem laidOut : laidOutB Tryz.prog = true := by kernel_rfl

/-- The contracts of what it calls. -/
theorem ctx : CtxOK Tryz.prog [(13, c13), (14, c14), (15, c15), (19, c19), (35, c35), (36, c35), (37, c37), (38, c37)] :=
  .cons con13 (.cons con14 (.cons con15 (.cons con19 (.cons con35 (.cons con36 (.cons con37 (.cons con38 .nil)))))))

theorem row2 {l : List AV} (h : fitS [.int .i64, .int .i64] l) : l = [i64 (gi l 0), i64 (gi l 1)] ∧ inR (gi l 0) ∧ inR (gi l 1) := by
  obtain ⟨_, _, rfl, ⟨x0, rfl, k0⟩, _, _, rfl, ⟨x1, rfl, k1⟩, rfl⟩ := h
  exact ⟨rfl, wf_i64 k0, wf_i64 k1⟩

set_option maxRecDepth 100000 in
theorem walk {w : World} {avs : List AV} {vs : List Value} (h : fitVs [.agg [.int .i64, .int .i64, .int .i64, .int .i64, .slice 2 [.int .i64, .int .i64]], .agg [.int .i64, .int .i64, .int .i64, .int .i64, .slice 2 [.int .i64, .int .i64]]] avs) (hR : Rs w (.ext (All w)) avs vs) :
    Calls Tryz.prog 7 vs.toArray w fun e w' => e = .returned (.bool true) ∧ Below w.heap.size w w' := by
  obtain ⟨_, _, rfl, ⟨_, rfl, _, _, rfl, ⟨x0, rfl, a0⟩, _, _, rfl, ⟨x1, rfl, a1⟩, _, _, rfl, ⟨x2, rfl, a2⟩, _, _, rfl, ⟨x3, rfl, a3⟩, _, _, rfl, ⟨n, get, rfl, hn, af⟩, rfl⟩, _, _, rfl, ⟨_, rfl, _, _, rfl, ⟨z0, rfl, c0⟩, _, _, rfl, ⟨z1, rfl, c1⟩, _, _, rfl, ⟨z2, rfl, c2⟩, _, _, rfl, ⟨z3, rfl, c3⟩, _, _, rfl, ⟨m, get2, rfl, hm, cf⟩, rfl⟩, rfl⟩ := h
  have hg : get = fun i => [i64 (gx get 0 i), i64 (gx get 1 i)] := funext fun i => (row2 (af i)).1
  rw [hg] at hR
  have hg2 : get2 = fun i => [i64 (gx get2 0 i), i64 (gx get2 1 i)] := funext fun i => (row2 (cf i)).1
  have hR : Rs w (.ext (All w)) [formA x0 x1 x2 x3 n fun i => [i64 (gx get 0 i), i64 (gx get 1 i)], formA z0 z1 z2 z3 m fun i => [i64 (gx get2 0 i), i64 (gx get2 1 i)]] vs := by rw [← hg2]; exact hR
  obtain ⟨_, k2⟩ := fn_sound ctx Tryz.func7 (by kernel_rfl) (vc7 x0 x1 x2 x3 n (gx get 0) (gx get 1) z0 z1 z2 z3 m (gx get2 0) (gx get2 1) (fun i _ => (row2 (af i)).2) (wf_i64 a1) (wf_i64 a2) (wf_i64 a3) (fun i _ => (row2 (cf i)).2) (wf_i64 c1) (wf_i64 c2) (wf_i64 c3)) (All w) w vs (fun _ h => h) hR
  refine k2.mono fun e w' ⟨v, he, ⟨r, hr, hv⟩, hb⟩ => ?_
  subst hr
  cases hv
  exact ⟨he, hb⟩

set_option maxRecDepth 100000 in
theorem lifted (os : Os) (started : os.Started) (H : Type) (enc : TypeId × Value → H) :
    ReturnsInHanded {} Tryz.checked os 7 .any (Rows.solidApartSpec.pre6 enc Tryz.prog Tryz.f7 Rows.solidApartRow.domain false) (Rows.solidApartSpec.post enc Tryz.prog Tryz.f7 false true false false) := by
  refine returnsInHanded_of_change (C := Tryz.checked) own started (by kernel_rfl) Tryz.func7
    (ChangeSpec.witness6 (enc := enc) (C := Tryz.checked) false ⟨#[], #[.agg #[.int .i64 0, .int .i64 0, .int .i64 0, .int .i64 0, .slice none 0 0], .agg #[.int .i64 0, .int .i64 0, .int .i64 0, .int .i64 0, .slice none 0 0]], []⟩ 8 (by kernel_rfl) (by kernel_rfl) (by kernel_rfl) (by kernel_rfl)) ?_
  intro W base args ds gs before hval hW hcnd _
  have hW' := hW
  obtain ⟨p, q, hA, hV, rfl, hfz, hnd⟩ := hW
  obtain ⟨rfl, rfl⟩ := trodVars_none hV
  have hA' := hA
  rw [Tryz.params7] at hA hval
  obtain ⟨avs, w1, w2⟩ := args_read (P := Tryz.prog) (ss := [.agg [.int .i64, .int .i64, .int .i64, .int .i64, .slice 2 [.int .i64, .int .i64]], .agg [.int .i64, .int .i64, .int .i64, .int .i64, .slice 2 [.int .i64, .int .i64]]]) (by kernel_rfl) (fun j t v hj hv => hval j t v (by simpa using hj) (by simpa using hv)) hA
  obtain ⟨v0, vs0, d0, ds0, p0, q0, hargs, rfl, rfl, h0, r0⟩ := trodAll_cons hA
  obtain ⟨v1, vs1, d1, ds1, p1, q1, rfl, rfl, rfl, h1, r1⟩ := trodAll_cons r0
  obtain ⟨rfl, rfl, rfl⟩ := trodAll_nil r1
  have hw := walk w1 w2
  rw [show args.toList.toArray = args by simp] at hw
  refine hw.mono fun e W' ⟨he, bel⟩ => ?_
  subst he
  obtain ⟨ps, hst⟩ := args_stay laidOut bel (by kernel_rfl) hA'
  exact ⟨_, rfl, _, _, _, [], _, [], hW', trodAll_mk1 (shut_bool Tryz.underlying4 _), hst, rfl, bel.frame _, fun h => by cases h⟩

theorem over : Rows.solidApartRow.holds Tryz.pinned (OpenSpec.ofChange Rows.solidApartSpec) :=
  OpenClaim.holds_of_wide 7 Tryz.f7 rfl rfl rfl rfl rfl rfl rfl ⟨rfl, rfl, rfl, rfl, rfl⟩ rfl rfl rfl rfl rfl (by kernel_rfl) Tryz.func7 (by kernel_rfl)
    (of_decide_eq_true (by kernel_rfl)) (by unfold Func.isWrapper; first | (rw [if_pos (by decide +kernel)]; kernel_rfl) | (rw [if_neg (by decide +kernel)]; exact ⟨rfl, rfl⟩))
    (fun os started H enc _ => lifted os started H enc)

theorem proved : Rows.SolidApartSaid := over
#print axioms proved
end Go.Proofs.YtiikkfegcmejcaaGreat.solidApartDone
