/-
  The law of a full sweep.
-/
import Derived.Test.YtfpgjkeelegdpaaCM10
import Derived.Test.YtfpgjkeelegdpaaRows
import Derived.WalkKit
import Derived.ProofKit
section
set_option linter.unusedVariables false
set_option linter.unusedSimpArgs false
set_option maxHeartbeats 4000000
set_option maxRecDepth 100000
namespace Go.Ax
open Go.Proofs
theorem vc5 {n : Int} (hn : inR n) : fnVC Try.prog [(16, c16), (19, .wr mN19), (20, c20), (17, .wr m17), (21, c21), (12, .wr mN12), (22, .wr m22), (11, c11), (13, c13)] [] Try.f5 [i64 n] (· = bo true) := by
  refine fnVC_go (rs := [.tmp 2]) rfl rfl ?_
  simp only [go_sem, c16, hn, swF_eq, famNK_W']
  intro z hz
  have hzb := modS_in (n := n) (m := 1048576) (by omega)
  rw [← hz] at hzb
  clear hz
  refine ⟨by unfold inR; omega, fun s hs => ?_⟩
  have hs : s = z + 1 := by rw [hs, wrap_in (by unfold inR; omega)]; omega
  have hs1 : 1 ≤ s := by omega
  have hs2 : s ≤ 1048576 := by omega
  clear hs hzb
  refine loopN_go (fun (i : Nat) => i ≤ 256) (fun i => 256 - i) (fun i => [(5, i64 i)]) (fun i => [(5, famR [⟨1, 1, 73, fun _ => [.mp 5 1], none⟩, mapR 4 (fulL s i)] noRows)]) [] [11, 12, 15, 16, 17, 18, 19, 20, 21, 22, 23, 24, 25, 26, 27, 28, 29, 30, 2, 13, 14, 5] 0 0 (by kernel_rfl) (Nat.zero_le _) ⟨[], ?_, ?_, ?_, ?_⟩ ?_
  · simp only [go_sem, Int.cast_ofNat_Int]
  · simp only [go_sem]
    exact fitF_sw (L := []) (by decide) (of_eq_true tlOK_no)
  · simp only [go_sem]
  · simp [goodNames, asg]
  intro i hi
  have hge0 : ∀ j : Nat, 0 ≤ (j : Int) * s := fun j => Int.mul_nonneg (by omega) (by omega)
  have hle0 : ∀ j : Nat, j ≤ 256 → (j : Int) * s ≤ 268435456 := fun j hj => by
    have h1 : (j : Int) * s ≤ (j : Int) * 1048576 := Int.mul_le_mul_of_nonneg_left hs2 (by omega)
    omega
  rcases Nat.lt_or_ge i 256 with hlt | hge
  · have h1 : ((i : Int) < 256) = True := eq_true (by omega)
    have g0 := hge0 i
    have g1 := hle0 i (by omega)
    have e0 : IntKind.i64.wrap ((i : Int) * s) = (i : Int) * s := wrap_in (by unfold inR; omega)
    have e1 : IntKind.i64.wrap (3 * (i : Int)) = 3 * (i : Int) := wrap_in (by unfold inR; omega)
    have e2 : IntKind.i64.wrap (3 * (i : Int) + 1) = 3 * (i : Int) + 1 := wrap_in (by unfold inR; omega)
    have hcb : checkBoxS (3 * (i : Int)) 0 (3 * (i : Int) + 1) 1 = 0 := checkBoxS_iff.2 (by omega)
    have p1 : putE (fulL s i) ((i : Int) * s) (3 * (i : Int)) 0 (3 * (i : Int) + 1) 1 = 0 := by
      unfold putE
      rw [if_neg (by omega), if_neg (by rw [hcb]; decide), ful_none hs1 (Nat.le_refl i), if_neg (by decide), if_neg (by rw [ful_len]; omega)]
    have p2 : putW ⟨fulL s i, noRows⟩ ((i : Int) * s) (3 * (i : Int)) 0 (3 * (i : Int) + 1) 1 = ⟨fulL s (i + 1), noRows⟩ := by
      unfold putW
      dsimp only
      rw [p1, if_pos rfl]
      exact congrArg (fun L => (⟨L, noRows⟩ : SwS)) (ful_put hs1)
    simp only [go_sem, h1, c20, m17, F17, ↓forall_eq, e0, e1, e2, p1, p2, swF_eq]
    refine ⟨⟨⟨by unfold inR; omega, by unfold inR; omega, by unfold inR; omega, by unfold inR; omega, fun h => by simp at h, fun _ => ⟨i + 1, by omega, by omega, [], by rw [wrap_in (by unfold inR; omega)]; omega, ?_, by simp [goodNames, asg]⟩⟩, fun h => by cases h⟩, fun h => by cases h⟩
    simp only [go_sem]
    exact fitF_sw (by decide) (of_eq_true tlOK_no)
  · have e : i = 256 := by omega
    subst e
    have h1 : (((256 : Nat) : Int) < 256) = False := eq_false (by omega)
    have g1 := hle0 256 (by omega)
    have g0 := hge0 256
    have e0 : IntKind.i64.wrap (256 * s) = 256 * s := wrap_in (by unfold inR; omega)
    have hl : ((fulL s 256).length : Int) = 256 := by rw [ful_len]; rfl
    have hl2 : (fulL s 256).length ≤ 256 := by rw [ful_len]; omega
    have hsn : selIn (fulL s 256) := selIn_of (ful_box (Nat.le_refl _))
    have hcb : checkBoxS 1 1 2 2 = 0 := checkBoxS_iff.2 (by omega)
    have hz : memSel (fulL s 256) (256 * s) = none := ful_none hs1 (i := 256) (j := 256) (Nat.le_refl _)
    have hs' : (memSel (fulL s 256) s).isSome = true := sel_some_mem.2 (s_mem hs1)
    have p1 : putE (fulL s 256) (256 * s) 1 1 2 2 = 10 := by
      unfold putE
      rw [if_neg (by omega), if_neg (by rw [hcb]; decide), hz, if_neg (by decide), if_pos (by omega)]
    have p2 : putW ⟨fulL s 256, noRows⟩ (256 * s) 1 1 2 2 = ⟨fulL s 256, noRows⟩ := by
      unfold putW
      dsimp only
      rw [p1, if_neg (by decide)]
    have p3 : putE (fulL s 256) s 1 1 2 2 = 11 := by
      unfold putE
      rw [if_neg (by omega), if_neg (by rw [hcb]; decide), if_pos hs']
    have p4 : putW ⟨fulL s 256, noRows⟩ s 1 1 2 2 = ⟨fulL s 256, noRows⟩ := by
      unfold putW
      dsimp only
      rw [p3, if_neg (by decide)]
    have p5 : drpE (fulL s 256) s = 0 := by
      unfold drpE
      rw [if_neg (by omega), if_pos hs']
    have p6 : drpW ⟨fulL s 256, noRows⟩ s = ⟨memDel (fulL s 256) s, noRows⟩ := by
      unfold drpW
      dsimp only
      rw [p5, if_pos rfl]
    have hdl : (memDel (fulL s 256) s).length ≤ 255 := by
      have h := congrArg List.length (keys_del (k := s) (L := fulL s 256))
      rw [List.length_map, List.length_erase_of_mem (s_mem hs1), List.length_map, ful_len] at h
      omega
    have hz2 : memSel (memDel (fulL s 256) s) (256 * s) = none := by
      rw [sel_del (ful_nod hs1)]
      split
      · rfl
      · exact hz
    have p7 : putE (memDel (fulL s 256) s) (256 * s) 1 1 2 2 = 0 := by
      unfold putE
      rw [if_neg (by omega), if_neg (by rw [hcb]; decide), hz2, if_neg (by decide), if_neg (by omega)]
    have p8 : putW ⟨memDel (fulL s 256) s, noRows⟩ (256 * s) 1 1 2 2 = ⟨fulM s, noRows⟩ := by
      unfold putW
      dsimp only
      rw [p7, if_pos rfl]
      rfl
    have hm1 : ((fulM s).length : Int) = 256 := by rw [fulM_len hs1]; rfl
    have hm2 : (fulM s).length ≤ 256 := by rw [fulM_len hs1]; omega
    have hm3 : selIn (fulM s) := selIn_of (fulM_box hs1)
    have q1 := ful_pairs hs1 (i := 256)
    have q2 := fulM_pairs hs1
    have i1 : inR 1 = True := eq_true (by unfold inR; omega)
    have i2 : inR 2 = True := eq_true (by unfold inR; omega)
    have b0 : ((0 : Int) != 0) = false := by decide
    have b1 : ((10 : Int) != 10) = false := by decide
    have b2 : ((11 : Int) != 11) = false := by decide
    have b3 : ((256 : Int) != 256) = false := by decide
    have b4 : (((0 : Nat) : Int) != 0) = false := by decide
    have t0 : tlOK noRows = True := tlOK_no
    simp only [go_sem, h1, c20, c21, m17, F17, m22, F22, ↓forall_eq, e0, p1, p2, p3, p4, p5, p6, p7, p8, hl, hl2, hsn, hm1, hm2, hm3, q1, q2, b0, b1, b2, b3, b4, t0, i1, i2, swF_eq, List.length_nil, beq_self_eq_true]
    simp only [or_self, false_imp_iff, true_imp_iff, and_true, true_and, and_self, implies_true, Bool.true_eq_false]
    refine ⟨fun i hi => ?_, rfl⟩
    have : i = 0 := by omega
    subst this
    rfl
end Go.Ax
end

section
/-
  What is proved: for every input bagatellelaw04.IndexFull returns true, and the input reads ars it did. No further condition.
-/
namespace Go.Proofs.Ytfpgjkeelegdpaa.indexFullDone
open Go.ChangeShapes Go.WideShapes Go.ChangeAt Go.RowKit Go.Ax
set_option linter.unusedVariables false

theorem own : ownKnob Try.prog.godebug = none := by kernel_rfl

theorem ctx : CtxOK Try.prog [(16, c16), (19, .wr mN19), (20, c20), (17, .wr m17), (21, c21), (12, .wr mN12), (22, .wr m22), (11, c11), (13, c13)] :=
  (.cons con16 (.mcons mon19 (.cons con20 (.mcons mon17 (.cons con21 (.mcons mon12 (.mcons mon22 (.cons con11 (.cons con13 .nil)))))))))

set_option maxRecDepth 100000 in
theorem walk {w : World} {avs : List AV} {vs : List Value} (h : fitVs [.int .i64] avs) (hR : Rs w (.ext (All w)) avs vs) :
    Calls Try.prog 5 vs.toArray w fun e w' => e = .returned (.bool true) ∧ Below w.heap.size w w' := by
  obtain ⟨_, _, rfl, ⟨n, rfl, hn⟩, rfl⟩ := h
  obtain ⟨_, k2⟩ := fn_sound ctx Try.func5 (by kernel_rfl) (vc5 (wf_i64 hn)) (All w) w vs (fun _ h => h) hR
  refine k2.mono fun e w' ⟨v, he, ⟨r, hr, hv⟩, hb⟩ => ?_
  subst hr
  cases hv
  exact ⟨he, hb⟩

set_option maxRecDepth 100000 in
theorem lifted (os : Os) (started : os.Started) (H : Type) (enc : TypeId × Value → H) :
    ReturnsInHanded {} Try.checked os 5 .any (Rows.indexFullSpec.pre6 enc Try.prog Try.f5 Rows.indexFullRow.domain false) (Rows.indexFullSpec.post enc Try.prog Try.f5 false true false false) := by
  refine returnsInHanded_of_change (C := Try.checked) own started (by kernel_rfl) Try.func5
    (ChangeSpec.witness6 (enc := enc) (C := Try.checked) false ⟨#[], #[.int .i64 0], []⟩ 8 (by kernel_rfl) (by kernel_rfl) (by kernel_rfl) (by kernel_rfl)) ?_
  intro W base args ds gs before hval hW hcnd _
  have hW' := hW
  obtain ⟨p, q, hA, hV, rfl, hfz, hnd⟩ := hW
  obtain ⟨rfl, rfl⟩ := trodVars_none hV
  have hA' := hA
  rw [Try.params5] at hA hval
  obtain ⟨avs, w1, w2⟩ := args_read (P := Try.prog) (ss := [.int .i64]) (by kernel_rfl) (fun j t v hj hv => hval j t v (by simpa using hj) (by simpa using hv)) hA
  obtain ⟨v0, vs0, d0, ds0, p0, q0, hargs, rfl, rfl, h0, r0⟩ := trodAll_cons hA
  obtain ⟨rfl, rfl, rfl⟩ := trodAll_nil r0
  have hw := walk w1 w2
  rw [show args.toList.toArray = args by simp] at hw
  refine hw.mono fun e W' ⟨he, bel⟩ => ?_
  subst he
  obtain ⟨ps, hst⟩ := args_stay laidOut bel (by kernel_rfl) hA'
  exact ⟨_, rfl, _, _, _, [], _, [], hW', trodAll_mk1 (shut_bool Try.underlying4 _), hst, rfl, bel.frame _, fun h => by cases h⟩

theorem func : Try.pinned.checked.prog.funcNamed Rows.indexFullRow.func = some 5 := by kernel_rfl
theorem four : ((Rows.indexFullRow.inPlace == Try.prog.inPlace 5) = true) ∧ ((Rows.indexFullRow.unfollowed == Try.prog.unfollowed 5) = true) ∧ ((Rows.indexFullRow.recurses == Try.prog.recurses 5) = true) ∧ ((Rows.indexFullRow.named == Try.prog.varsNamed 5) = true) := by
  have h : ((Rows.indexFullRow.inPlace == Try.prog.inPlace 5) && ((Rows.indexFullRow.unfollowed == Try.prog.unfollowed 5) && ((Rows.indexFullRow.recurses == Try.prog.recurses 5) && (Rows.indexFullRow.named == Try.prog.varsNamed 5)))) = true := by kernel_rfl
  simpa only [Bool.and_eq_true] using h
theorem facts : joinedFacts Try.prog 5 Try.f5 Rows.indexFullSpec Rows.indexFullRow = true :=
  andT (andT (andT (andT (andT (andT (andT (andT (andT (andT (andT (andT (andT (andT (andT (andT (andT (andT (andT (andT (andT (andT (andT (andT (andT (andT (andT (andT (andT (andT (andT (by kernel_rfl) laidOut) fRowed) (by kernel_rfl)) (by kernel_rfl)) (by kernel_rfl)) fStops) (by kernel_rfl)) fStopK) four.1) four.2.1) four.2.2.1) four.2.2.2) (by kernel_rfl)) (by kernel_rfl)) (by kernel_rfl)) (by kernel_rfl)) (by kernel_rfl)) (by kernel_rfl)) (by kernel_rfl)) (by kernel_rfl)) (by kernel_rfl)) fPlain) (by kernel_rfl)) fHeard) fMay) fLift) fMake) (by kernel_rfl)) (by kernel_rfl)) (by kernel_rfl)) (by kernel_rfl)
theorem over : Rows.indexFullRow.holds Try.pinned (OpenSpec.ofChange Rows.indexFullSpec) :=
  OpenClaim.holds_of_wide 5 Try.f5 rfl rfl rfl rfl rfl rfl rfl ⟨rfl, rfl, rfl, rfl, rfl⟩ rfl rfl rfl rfl rfl func Try.func5 facts
    (of_decide_eq_true (by kernel_rfl)) (by unfold Func.isWrapper; first | (rw [if_pos (by decide +kernel)]; kernel_rfl) | (rw [if_neg (by decide +kernel)]; exact ⟨rfl, rfl⟩))
    (fun os started H enc _ => lifted os started H enc)

theorem proved : Rows.IndexFullSaid := over
#print axioms proved
end Go.Proofs.Ytfpgjkeelegdpaa.indexFullDone
end
