/-
  The law of objects that are not valid.
-/
import Derived.Test.YtfpgjkeelegdpaaGreatCM8
import Derived.Test.YtfpgjkeelegdpaaGreatRows
import Derived.WalkKit
import Derived.ProofKit
section
set_option linter.unusedVariables false
set_option linter.unusedSimpArgs false
set_option maxHeartbeats 4000000
set_option maxRecDepth 100000
namespace Go.Ax
open Go.Proofs
theorem eq57m {xo yo : Operand} : eqE Tryz.prog true 57 xo yo (.v (.pointer none)) (.v (.pointer none)) = some ⟨[], .v (.bool false), .none⟩ := by kernel_rfl
theorem eq25m {xo yo : Operand} : eqE Tryz.prog true 25 xo yo (.v (.pointer none)) (.v (.pointer none)) = some ⟨[], .v (.bool false), .none⟩ := by kernel_rfl
theorem vc12 {a0 a1 i b0 b1 b2 b3 f0 f1 t0 t1 : Int} : fnVC Tryz.prog [(40, c40W), (37, c37W), (44, c44W), (60, c60W), (39, c39W), (36, c36W), (41, c41W), (35, c35W), (42, c42W), (22, c22W), (19, c19W), (17, c17W), (18, c18W), (59, c59V), (23, c23W), (21, c21W), (50, c50W), (24, c24W), (30, c30W), (15, c15)] [] Tryz.f12 [.agg [i64 a0, i64 a1], i64 i, .agg [i64 b0, i64 b1, i64 b2, i64 b3], .agg [i64 f0, i64 f1], .agg [i64 t0, i64 t1]] (· = bo true) := by
  refine fnVC_go (rs := [.tmp 10]) rfl rfl ?_
  simp only [go_sem]
  refine loopN_go (fun (j : Nat) => j ≤ 2) (fun j => 2 - j) (fun j => [(11, i64 j)]) (fun _ => []) [3, 2, 1, 0] [20, 21, 12, 13, 24, 25, 26, 27, 28, 29, 12, 13, 31, 32, 30, 33, 34, 14, 15, 36, 37, 38, 35, 39, 40, 16, 17, 41, 42, 43, 44, 45, 46, 47, 48, 49, 50, 51, 52, 53, 54, 55, 56, 57, 58, 59, 60, 61, 62, 63, 64, 65, 66, 67, 68, 69, 70, 71, 72, 73, 74, 75, 76, 77, 78, 79, 80, 81, 82, 83, 84, 85, 86, 87, 88, 89, 90, 91, 92, 93, 10, 95, 96, 97, 94, 98, 99, 18, 19, 100, 101, 102, 103, 104, 105, 106, 107, 108, 109, 110, 111, 112, 113, 114, 115, 116, 117, 118, 119, 120, 121, 122, 123, 124, 125, 126, 127, 128, 129, 130, 131, 132, 133, 134, 135, 136, 137, 138, 139, 140, 141, 142, 143, 144, 145, 146, 147, 148, 149, 150, 151, 152, 153, 154, 155, 156, 157, 158, 159, 160, 161, 162, 10, 22, 23, 11] 0 0 (by kernel_rfl) (Nat.zero_le _) ⟨[], ?_, ?_, ?_, ?_⟩ ?_
  · simp only [go_sem, Int.cast_ofNat_Int]
  · simp only [go_sem]
  · simp only [go_sem]
  · simp [goodNames, asg]
  intro j hj
  have e00 : ((0 : Int) != 0) = false := by decide
  have e11 : ((1 : Int) != 1) = false := by decide
  have e01 : ((0 : Int) == 1) = false := by decide
  have e1 : ((1 : Int) == 1) = true := by decide
  have l00 : (0 : Int) < 2 := by decide
  have l01 : (1 : Int) < 2 := by decide
  have l02 : ((2 : Int) < 2) = False := eq_false (by omega)
  have l0 : ((0 : Int) < 0) = False := eq_false (by omega)
  rcases (show j = 0 ∨ j = 1 ∨ j = 2 by omega) with rfl | rfl | rfl
  · simp only [go_sem, Int.cast_ofNat_Int, Int.natCast_zero, Int.natCast_one, c15, c40W, c37W_0, c44W, c60W, c39W_0, c36W, c41W, c35W, c42W, c22W, c19W, c17W, c18W, c59V, c23W, c21W, c50W, c24W, c30W, len22n, len35n, len58n, eq57m, eq25m, eq32, ↓forall_eq, e00, e11, e01, e1, l00, l01, l02, l0, Bool.or_false, Bool.false_or, beq_self_eq_true, Bool.and_self, Bool.not_true, Bool.not_false, decide_true, decide_false, or_self, or_false, false_or]
    exact ⟨⟨1, by omega, by omega, [], by rw [wrap_in (by unfold inR; omega)]; rfl, by simp [goodNames, asg]⟩, fun h => (by cases h)⟩
  · simp only [go_sem, Int.cast_ofNat_Int, Int.natCast_zero, Int.natCast_one, c15, c40W, c37W_1, c44W, c60W, c39W_1, c36W, c41W, c35W, c42W, c22W, c19W, c17W, c18W, c59V, c23W, c21W, c50W, c24W, c30W, len22n, len35n, len58n, eq57m, eq25m, eq32, ↓forall_eq, e00, e11, e01, e1, l00, l01, l02, l0, Bool.or_false, Bool.false_or, beq_self_eq_true, Bool.and_self, Bool.not_true, Bool.not_false, decide_true, decide_false, or_self, or_false, false_or]
    have hw : IntKind.i64.wrap 2 = ((2 : Nat) : Int) := by rw [wrap_in (by unfold inR; omega)]; rfl
    exact ⟨⟨⟨2, by omega, by omega, [], hw, by simp [goodNames, asg]⟩, fun h => (by cases h)⟩, fun h => (by cases h)⟩
  · simp only [go_sem, Int.cast_ofNat_Int, Int.natCast_zero, Int.natCast_one, c15, c40W, c37W_0, c44W, c60W, c39W_0, c36W, c41W, c35W, c42W, c22W, c19W, c17W, c18W, c59V, c23W, c21W, c50W, c24W, c30W, len22n, len35n, len58n, eq57m, eq25m, eq32, ↓forall_eq, e00, e11, e01, e1, l00, l01, l02, l0, Bool.or_false, Bool.false_or, beq_self_eq_true, Bool.and_self, Bool.not_true, Bool.not_false, decide_true, decide_false, or_self, or_false, false_or]
end Go.Ax
end

section
/-
  What is proved: for every input bagatellelaw04.IndexNone returns true, and the input reads ars it did. No further condition.
-/
namespace Go.Proofs.YtfpgjkeelegdpaaGreat.indexNoneDone
open Go.ChangeShapes Go.WideShapes Go.ChangeAt Go.RowKit Go.Ax
set_option linter.unusedVariables false

theorem own : ownKnob Tryz.prog.godebug = none := by kernel_rfl

theorem ctx : CtxOK Tryz.prog [(40, c40W), (37, c37W), (44, c44W), (60, c60W), (39, c39W), (36, c36W), (41, c41W), (35, c35W), (42, c42W), (22, c22W), (19, c19W), (17, c17W), (18, c18W), (59, c59V), (23, c23W), (21, c21W), (50, c50W), (24, c24W), (30, c30W), (15, c15)] :=
  (.cons con40W (.cons con37W (.cons con44W (.cons con60W (.cons con39W (.cons con36W (.cons con41W (.cons con35W (.cons con42W (.cons con22W (.cons con19W (.cons con17W (.cons con18W (.cons con59V (.cons con23W (.cons con21W (.cons con50W (.cons con24W (.cons con30W (.cons con15 .nil))))))))))))))))))))

set_option maxRecDepth 100000 in
theorem walk {w : World} {avs : List AV} {vs : List Value} (h : fitVs [.agg [.int .i64, .int .i64], .int .i64, .agg [.int .i64, .int .i64, .int .i64, .int .i64], .agg [.int .i64, .int .i64], .agg [.int .i64, .int .i64]] avs) (hR : Rs w (.ext (All w)) avs vs) :
    Calls Tryz.prog 12 vs.toArray w fun e w' => e = .returned (.bool true) ∧ Below w.heap.size w w' := by
  obtain ⟨_, _, rfl, ⟨_, rfl, ⟨_, _, rfl, ⟨a0, rfl, _⟩, _, _, rfl, ⟨a1, rfl, _⟩, rfl⟩⟩, _, _, rfl, ⟨i, rfl, _⟩, _, _, rfl, ⟨_, rfl, ⟨_, _, rfl, ⟨b0, rfl, _⟩, _, _, rfl, ⟨b1, rfl, _⟩, _, _, rfl, ⟨b2, rfl, _⟩, _, _, rfl, ⟨b3, rfl, _⟩, rfl⟩⟩, _, _, rfl, ⟨_, rfl, ⟨_, _, rfl, ⟨f0, rfl, _⟩, _, _, rfl, ⟨f1, rfl, _⟩, rfl⟩⟩, _, _, rfl, ⟨_, rfl, ⟨_, _, rfl, ⟨t0, rfl, _⟩, _, _, rfl, ⟨t1, rfl, _⟩, rfl⟩⟩, rfl⟩ := h
  obtain ⟨_, k2⟩ := fn_sound ctx Tryz.func12 (by kernel_rfl) (vc12 ) (All w) w vs (fun _ h => h) hR
  refine k2.mono fun e w' ⟨v, he, ⟨r, hr, hv⟩, hb⟩ => ?_
  subst hr
  cases hv
  exact ⟨he, hb⟩

set_option maxRecDepth 100000 in
theorem lifted (os : Os) (started : os.Started) (H : Type) (enc : TypeId × Value → H) :
    ReturnsInHanded {} Tryz.checked os 12 .any (Rows.indexNoneSpec.pre6 enc Tryz.prog Tryz.f12 Rows.indexNoneRow.domain false) (Rows.indexNoneSpec.post enc Tryz.prog Tryz.f12 false true false false) := by
  refine returnsInHanded_of_change (C := Tryz.checked) own started (by kernel_rfl) Tryz.func12
    (ChangeSpec.witness6 (enc := enc) (C := Tryz.checked) false ⟨#[], #[.agg #[.int .i64 0, .int .i64 0], .int .i64 0, .agg #[.int .i64 0, .int .i64 0, .int .i64 0, .int .i64 0], .agg #[.int .i64 0, .int .i64 0], .agg #[.int .i64 0, .int .i64 0]], []⟩ 8 (by kernel_rfl) (by kernel_rfl) (by kernel_rfl) (by kernel_rfl)) ?_
  intro W base args ds gs before hval hW hcnd _
  have hW' := hW
  obtain ⟨p, q, hA, hV, rfl, hfz, hnd⟩ := hW
  obtain ⟨rfl, rfl⟩ := trodVars_none hV
  have hA' := hA
  rw [Tryz.params12] at hA hval
  obtain ⟨avs, w1, w2⟩ := args_read (P := Tryz.prog) (ss := [.agg [.int .i64, .int .i64], .int .i64, .agg [.int .i64, .int .i64, .int .i64, .int .i64], .agg [.int .i64, .int .i64], .agg [.int .i64, .int .i64]]) (by kernel_rfl) (fun j t v hj hv => hval j t v (by simpa using hj) (by simpa using hv)) hA
  obtain ⟨v0, vs0, d0, ds0, p0, q0, hargs, rfl, rfl, h0, r0⟩ := trodAll_cons hA
  obtain ⟨v1, vs1, d1, ds1, p1, q1, rfl, rfl, rfl, h1, r1⟩ := trodAll_cons r0
  obtain ⟨v2, vs2, d2, ds2, p2, q2, rfl, rfl, rfl, h2, r2⟩ := trodAll_cons r1
  obtain ⟨v3, vs3, d3, ds3, p3, q3, rfl, rfl, rfl, h3, r3⟩ := trodAll_cons r2
  obtain ⟨v4, vs4, d4, ds4, p4, q4, rfl, rfl, rfl, h4, r4⟩ := trodAll_cons r3
  obtain ⟨rfl, rfl, rfl⟩ := trodAll_nil r4
  have hw := walk w1 w2
  rw [show args.toList.toArray = args by simp] at hw
  refine hw.mono fun e W' ⟨he, bel⟩ => ?_
  subst he
  obtain ⟨ps, hst⟩ := args_stay laidOut bel (by kernel_rfl) hA'
  exact ⟨_, rfl, _, _, _, [], _, [], hW', trodAll_mk1 (shut_bool Tryz.underlying4 _), hst, rfl, bel.frame _, fun h => by cases h⟩

theorem func : Tryz.pinned.checked.prog.funcNamed Rows.indexNoneRow.func = some 12 := by kernel_rfl
theorem four : ((Rows.indexNoneRow.inPlace == Tryz.prog.inPlace 12) = true) ∧ ((Rows.indexNoneRow.unfollowed == Tryz.prog.unfollowed 12) = true) ∧ ((Rows.indexNoneRow.recurses == Tryz.prog.recurses 12) = true) ∧ ((Rows.indexNoneRow.named == Tryz.prog.varsNamed 12) = true) := by
  have h : ((Rows.indexNoneRow.inPlace == Tryz.prog.inPlace 12) && ((Rows.indexNoneRow.unfollowed == Tryz.prog.unfollowed 12) && ((Rows.indexNoneRow.recurses == Tryz.prog.recurses 12) && (Rows.indexNoneRow.named == Tryz.prog.varsNamed 12)))) = true := by kernel_rfl
  simpa only [Bool.and_eq_true] using h
theorem facts : joinedFacts Tryz.prog 12 Tryz.f12 Rows.indexNoneSpec Rows.indexNoneRow = true :=
  andT (andT (andT (andT (andT (andT (andT (andT (andT (andT (andT (andT (andT (andT (andT (andT (andT (andT (andT (andT (andT (andT (andT (andT (andT (andT (andT (andT (andT (andT (andT (by kernel_rfl) laidOut) fRowed) (by kernel_rfl)) (by kernel_rfl)) (by kernel_rfl)) fStops) (by kernel_rfl)) fStopK) four.1) four.2.1) four.2.2.1) four.2.2.2) (by kernel_rfl)) (by kernel_rfl)) (by kernel_rfl)) (by kernel_rfl)) (by kernel_rfl)) (by kernel_rfl)) (by kernel_rfl)) (by kernel_rfl)) (by kernel_rfl)) fPlain) (by kernel_rfl)) fHeard) fMay) fLift) fMake) (by kernel_rfl)) (by kernel_rfl)) (by kernel_rfl)) (by kernel_rfl)
theorem over : Rows.indexNoneRow.holds Tryz.pinned (OpenSpec.ofChange Rows.indexNoneSpec) :=
  OpenClaim.holds_of_wide 12 Tryz.f12 rfl rfl rfl rfl rfl rfl rfl ⟨rfl, rfl, rfl, rfl, rfl⟩ rfl rfl rfl rfl rfl func Tryz.func12 facts
    (of_decide_eq_true (by kernel_rfl)) (by unfold Func.isWrapper; first | (rw [if_pos (by decide +kernel)]; kernel_rfl) | (rw [if_neg (by decide +kernel)]; exact ⟨rfl, rfl⟩))
    (fun os started H enc _ => lifted os started H enc)

theorem proved : Rows.IndexNoneSaid := over
#print axioms proved
end Go.Proofs.YtfpgjkeelegdpaaGreat.indexNoneDone
end
