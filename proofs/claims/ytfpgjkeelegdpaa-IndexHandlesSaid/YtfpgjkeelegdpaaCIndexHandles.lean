/-
  The law of handles.
-/
import Derived.Test.YtfpgjkeelegdpaaCM9
import Derived.Test.YtfpgjkeelegdpaaRows
import Derived.WalkKit
import Derived.ProofKit
section
set_option linter.unusedVariables false
set_option linter.unusedSimpArgs false
set_option maxHeartbeats 4000000
set_option maxRecDepth 100000
namespace Go.Ax
open Go.Proofs
theorem vc7 {most : Int} {k : Nat} {X : Nat → Int} (hm : inR most) (hX : ∀ i, inR (X i)) : fnVC Try.prog [(13, c13), (28, .wr mN28), (29, c29), (27, k60), (30, c30), (24, k39)] [(12, ⟨[(10, .made 9)], []⟩)] Try.f7 [i64 most, .ro k 1 fun i => [i64 (X i)]] (· = bo true) := by
  refine fnVC_go (rs := [.tmp 4]) rfl rfl ?_
  simp only [go_sem, c13, c29, k60, c30, k39, hm]
  refine ⟨fun _ _ => trivial, fun hk z hz => ⟨by omega, hX, fun zc hzc => ?_⟩⟩
  subst hz
  have hn := tdN_in (most := most)
  have hI := tdAt_I (X := X) hn k (by omega)
  generalize tdAt (tdN most) X k = t at hI hzc ⊢
  generalize tdN most = n at hn hI
  obtain ⟨⟨x, N, G, tl⟩, live, given⟩ := t
  have hN : n = N := hI.sn.symm
  subst hN
  have hx0 : 0 ≤ x ∧ x < 18446744073709551616 := hI.x0
  have hG : ∀ i, i < n → 0 ≤ G i ∧ G i ≤ k := hI.gen
  have hhi : ∀ j, n ≤ j → x.toNat.testBit j = false := hI.hi
  have hcnt : live.length = cntB x.toNat.testBit n := hI.cnt
  have hliv : ∀ h, h ∈ live ↔ ∃ i : Nat, i < n ∧ h = ((i : Int), G i) ∧ x.toNat.testBit i = true := fun h => ⟨hI.liv h, fun ⟨i, h1, h2, h3⟩ => by rw [h2]; exact hI.has i h1 h3⟩
  have hgiv : ∀ h ∈ given, ∃ i : Nat, i < n ∧ h.1 = i ∧ 1 ≤ h.2 ∧ h.2 ≤ G i := hI.giv
  have hgl : given.length ≤ k := hI.gl
  clear hI
  dsimp only at hzc ⊢
  have hll : live.length ≤ 64 := by rw [hcnt]; exact Nat.le_trans (cntB_le n) hn.2
  rw [cntB_up hhi 64 hn.2, ← hcnt] at hzc
  subst hzc
  have hn0 : 0 < n := by omega
  refine ⟨fun _ => hx0.1, fun _ => hx0.2, fun _ => hn0, fun h => by simp at h, fun _ => ?_⟩
  refine loopN_go (fun (j : Nat) => j ≤ given.length) (fun j => given.length - j) (fun j => [(6, i64 j)]) (fun j => []) [7, 6] [28, 29, 30, 31, 32, 35, 36, 37, 38, 39, 7, 40, 41, 42, 43, 44, 45, 46, 47, 48, 49, 50, 51, 52, 53, 54, 55, 56, 57, 58, 4, 59, 60, 61, 62, 63, 64, 65, 66, 67, 8, 68, 69, 70, 71, 4, 33, 34, 6] 0 0 (by kernel_rfl) (Nat.zero_le _) ⟨[], ?_, ?_, ?_, ?_⟩ ?_
  · simp only [go_sem, Int.cast_ofNat_Int]
  · simp only [go_sem]
  · simp only [go_sem]
  · simp [goodNames, asg]
  intro j hj
  have hls : ∀ i, lsF given i = [i64 (given.getD i (0, 0)).1, i64 (given.getD i (0, 0)).2] := fun _ => rfl
  simp only [go_sem, c29, c30, c30f, k39, k60, hx0, hn0, hn, F24, F27, hls, famR_n2, famR_n3]
  have hlsall : lP live.length (gxP fun i => lsF live i) = live := lP_ls
  rw [hlsall]
  refine ⟨fun hlt => ⟨by omega, hlt, by omega, ?_⟩, fun _ _ => trivial⟩
  have hmem : given.getD j (0, 0) ∈ given := by
    rw [List.getD_eq_getElem?_getD, List.getElem?_eq_getElem (by omega)]
    exact List.getElem_mem _
  obtain ⟨i, i1, i2, i3, i4⟩ := hgiv _ hmem
  generalize given.getD j (0, 0) = h at i2 i3 i4 ⊢
  obtain ⟨a, b⟩ := h
  dsimp only at i2 i3 i4 ⊢
  subst i2
  have hGi := hG i i1
  rw [atOk_nat i1, Int.toNat_natCast, if_pos ⟨by omega, by omega⟩]
  have hb : (x.toNat.testBit i && G i == b) = decide (((i : Int), b) ∈ live) := by
    by_cases hm : ((i : Int), b) ∈ live
    · obtain ⟨i', j1, j2, j3⟩ := (hliv _).1 hm
      have e1 : (i : Int) = i' := congrArg Prod.fst j2
      have e2 : b = G i' := congrArg Prod.snd j2
      have e1 : i = i' := by omega
      subst e1
      rw [decide_eq_true hm, j3, e2]; simp
    · rw [decide_eq_false hm]
      by_cases hb2 : x.toNat.testBit i = true ∧ G i = b
      · exact absurd ((hliv _).2 ⟨i, i1, by rw [hb2.2], hb2.1⟩) hm
      · by_cases h5 : x.toNat.testBit i = true
        · have : G i ≠ b := fun e => hb2 ⟨h5, e⟩
          rw [h5, beq_false_of_ne this]; rfl
        · have h5 : x.toNat.testBit i = false := by simpa using h5
          rw [h5]; rfl
  intro z hz z1 hz1
  rw [hb, ← hz1] at hz
  subst hz
  refine ⟨by omega, fun _ _ => trivial, fun z2 hz2 => ⟨fun _ => trivial, fun _ => trivial, fun hc => ?_, fun _ z3 hz3 z4 hz4 z5 hz5 => ⟨fun h5 => ?_, fun _ z6 hz6 => ⟨j + 1, by omega, by omega, [], by rw [hz6, wrap_in (by unfold inR; omega)]; omega, by simp [goodNames, asg]⟩⟩⟩⟩
  · rcases hc with hc | hc
    · simp at hc
    · omega
  · rw [hz4, hz3, wrap_in (by unfold inR; omega)] at hz5
    rw [hz5] at h5
    simp only [Bool.and_eq_true, beq_iff_eq] at h5
    omega
end Go.Ax
end

section
/-
  What is proved: for every input bagatellelaw04.IndexHandles returns true, and the input reads ars it did. No further condition.
-/
namespace Go.Proofs.Ytfpgjkeelegdpaa.indexHandlesDone
open Go.ChangeShapes Go.WideShapes Go.ChangeAt Go.RowKit Go.Ax
set_option linter.unusedVariables false

theorem own : ownKnob Try.prog.godebug = none := by kernel_rfl

theorem ctx : CtxOK Try.prog [(13, c13), (28, .wr mN28), (29, c29), (27, k60), (30, c30), (24, k39)] :=
  (.cons con13 (.mcons mon28 (.cons con29 (.cons con27 (.cons con30 (.cons con24 .nil))))))

set_option maxRecDepth 100000 in
theorem walk {w : World} {avs : List AV} {vs : List Value} (h : fitVs [.int .i64, .slice 1 [.int .i64]] avs) (hR : Rs w (.ext (All w)) avs vs) :
    Calls Try.prog 7 vs.toArray w fun e w' => e = .returned (.bool true) ∧ Below w.heap.size w w' := by
  obtain ⟨_, _, rfl, ⟨most, rfl, hmost⟩, _, _, rfl, ⟨k, get, rfl, hnk, hget⟩, rfl⟩ := h
  rw [(rowsI hget).1] at hR
  obtain ⟨_, k2⟩ := fn_sound ctx Try.func7 (by kernel_rfl) (vc7 (k := k) (wf_i64 hmost) (rowsI hget).2) (All w) w vs (fun _ h => h) hR
  refine k2.mono fun e w' ⟨v, he, ⟨r, hr, hv⟩, hb⟩ => ?_
  subst hr
  cases hv
  exact ⟨he, hb⟩

set_option maxRecDepth 100000 in
theorem lifted (os : Os) (started : os.Started) (H : Type) (enc : TypeId × Value → H) :
    ReturnsInHanded {} Try.checked os 7 .any (Rows.indexHandlesSpec.pre6 enc Try.prog Try.f7 Rows.indexHandlesRow.domain false) (Rows.indexHandlesSpec.post enc Try.prog Try.f7 false true false false) := by
  refine returnsInHanded_of_change (C := Try.checked) own started (by kernel_rfl) Try.func7
    (ChangeSpec.witness6 (enc := enc) (C := Try.checked) false ⟨#[], #[.int .i64 0, .slice none 0 0], []⟩ 8 (by kernel_rfl) (by kernel_rfl) (by kernel_rfl) (by kernel_rfl)) ?_
  intro W base args ds gs before hval hW hcnd _
  have hW' := hW
  obtain ⟨p, q, hA, hV, rfl, hfz, hnd⟩ := hW
  obtain ⟨rfl, rfl⟩ := trodVars_none hV
  have hA' := hA
  rw [Try.params7] at hA hval
  obtain ⟨avs, w1, w2⟩ := args_read (P := Try.prog) (ss := [.int .i64, .slice 1 [.int .i64]]) (by kernel_rfl) (fun j t v hj hv => hval j t v (by simpa using hj) (by simpa using hv)) hA
  obtain ⟨v0, vs0, d0, ds0, p0, q0, hargs, rfl, rfl, h0, r0⟩ := trodAll_cons hA
  obtain ⟨v1, vs1, d1, ds1, p1, q1, rfl, rfl, rfl, h1, r1⟩ := trodAll_cons r0
  obtain ⟨rfl, rfl, rfl⟩ := trodAll_nil r1
  have hw := walk w1 w2
  rw [show args.toList.toArray = args by simp] at hw
  refine hw.mono fun e W' ⟨he, bel⟩ => ?_
  subst he
  obtain ⟨ps, hst⟩ := args_stay laidOut bel (by kernel_rfl) hA'
  exact ⟨_, rfl, _, _, _, [], _, [], hW', trodAll_mk1 (shut_bool Try.underlying4 _), hst, rfl, bel.frame _, fun h => by cases h⟩

theorem func : Try.pinned.checked.prog.funcNamed Rows.indexHandlesRow.func = some 7 := by kernel_rfl
theorem four : ((Rows.indexHandlesRow.inPlace == Try.prog.inPlace 7) = true) ∧ ((Rows.indexHandlesRow.unfollowed == Try.prog.unfollowed 7) = true) ∧ ((Rows.indexHandlesRow.recurses == Try.prog.recurses 7) = true) ∧ ((Rows.indexHandlesRow.named == Try.prog.varsNamed 7) = true) := by
  have h : ((Rows.indexHandlesRow.inPlace == Try.prog.inPlace 7) && ((Rows.indexHandlesRow.unfollowed == Try.prog.unfollowed 7) && ((Rows.indexHandlesRow.recurses == Try.prog.recurses 7) && (Rows.indexHandlesRow.named == Try.prog.varsNamed 7)))) = true := by kernel_rfl
  simpa only [Bool.and_eq_true] using h
theorem facts : joinedFacts Try.prog 7 Try.f7 Rows.indexHandlesSpec Rows.indexHandlesRow = true :=
  andT (andT (andT (andT (andT (andT (andT (andT (andT (andT (andT (andT (andT (andT (andT (andT (andT (andT (andT (andT (andT (andT (andT (andT (andT (andT (andT (andT (andT (andT (andT (by kernel_rfl) laidOut) fRowed) (by kernel_rfl)) (by kernel_rfl)) (by kernel_rfl)) fStops) (by kernel_rfl)) fStopK) four.1) four.2.1) four.2.2.1) four.2.2.2) (by kernel_rfl)) (by kernel_rfl)) (by kernel_rfl)) (by kernel_rfl)) (by kernel_rfl)) (by kernel_rfl)) (by kernel_rfl)) (by kernel_rfl)) (by kernel_rfl)) fPlain) (by kernel_rfl)) fHeard) fMay) fLift) fMake) (by kernel_rfl)) (by kernel_rfl)) (by kernel_rfl)) (by kernel_rfl)
theorem over : Rows.indexHandlesRow.holds Try.pinned (OpenSpec.ofChange Rows.indexHandlesSpec) :=
  OpenClaim.holds_of_wide 7 Try.f7 rfl rfl rfl rfl rfl rfl rfl ⟨rfl, rfl, rfl, rfl, rfl⟩ rfl rfl rfl rfl rfl func Try.func7 facts
    (of_decide_eq_true (by kernel_rfl)) (by unfold Func.isWrapper; first | (rw [if_pos (by decide +kernel)]; kernel_rfl) | (rw [if_neg (by decide +kernel)]; exact ⟨rfl, rfl⟩))
    (fun os started H enc _ => lifted os started H enc)

theorem proved : Rows.IndexHandlesSaid := over
#print axioms proved
end Go.Proofs.Ytfpgjkeelegdpaa.indexHandlesDone
end
