/-
  The law of pairs.
-/
import Derived.Test.YtfpgjkeelegdpaaCM10
import Derived.Test.YtfpgjkeelegdpaaRows
import Derived.WalkKit
import Derived.ProofKit
section
set_option linter.unusedVariables false
set_option linter.unusedSimpArgs false
set_option maxHeartbeats 4000000
set_option maxRecDepth 100000
namespace Go.Ax
open Go.Proofs
theorem vc3 {k : Nat} {X : Nat → Int} (hk : k ≤ 9223372036854775807) (hX : ∀ i, inR (X i)) : fnVC Try.prog [(8, c8), (9, .wr mN9), (10, c10), (12, .wr mN12), (11, c11), (13, c13)] [] Try.f3 [.ro k 1 fun i => [i64 (X i)]] (· = bo true) := by
  refine fnVC_go (rs := [.tmp 2]) rfl rfl ?_
  simp only [go_sem, hk, swF_eq, famNK_W']
  have hn30 : bxN k 30 ≤ 30 := by unfold bxN; omega
  refine ⟨hX, by omega, by omega, fun h => by simp at h, ?_⟩
  have hsp := bxS_in (k := k) (X := X)
  have hok := fun j => bxG_ok (X := X) hsp.1 hsp.2.1 hsp.2.2 j
  generalize (bxS k X).1 = sp at hok ⊢
  generalize (bxS k X).2 = sz at hok ⊢
  generalize bxN k 30 = n at hn30
  obtain ⟨P0, hP0⟩ : ∃ P : Nat → Int, P = fun j => bxX (X (4 * j)) sp := ⟨_, rfl⟩
  obtain ⟨P1, hP1⟩ : ∃ P : Nat → Int, P = fun j => bxX (X (4 * j + 1)) sp := ⟨_, rfl⟩
  obtain ⟨P2, hP2⟩ : ∃ P : Nat → Int, P = fun j => bxF (X (4 * j)) (X (4 * j + 2)) sp sz := ⟨_, rfl⟩
  obtain ⟨P3, hP3⟩ : ∃ P : Nat → Int, P = fun j => bxF (X (4 * j + 1)) (X (4 * j + 3)) sp sz := ⟨_, rfl⟩
  have hbx : bxG sp sz X = fun j => [i64 (P0 j), i64 (P1 j), i64 (P2 j), i64 (P3 j)] := by rw [hP0, hP1, hP2, hP3]; rfl
  have hok : ∀ j, checkBoxS (P0 j) (P1 j) (P2 j) (P3 j) = 0 := fun j => by rw [hP0, hP1, hP2, hP3]; exact hok j
  rw [hbx]
  clear hP0 hP1 hP2 hP3 hbx hsp
  have hB : bxI (fun j => [i64 (P0 j), i64 (P1 j), i64 (P2 j), i64 (P3 j)]) = fun j => [P0 j, P1 j, P2 j, P3 j] := rfl
  rw [hB]
  obtain ⟨B, hBd⟩ : ∃ B : Nat → List Int, B = fun j => [P0 j, P1 j, P2 j, P3 j] := ⟨_, rfl⟩
  rw [← hBd]
  have hBok : ∀ j, j < n → okBx (B j) := fun j _ => by rw [hBd]; exact ⟨_, _, _, _, rfl, hok j⟩
  have hIv : SwI n (ptL n false B n) := ptL_I hBok
  have hIw : SwI n (ptL n true B n) := ptL_I hBok
  have hsel : ∀ (last : Bool) (j : Nat), j < n → memSel (ptL n last B n) (j : Int) = some (B j) := fun last j hj => ptL_sel hj
  obtain ⟨M, hM⟩ : ∃ M : Nat → Nat → Bool, M = fun i k => decide (P0 i ≤ P2 k ∧ P0 k ≤ P2 i ∧ P1 i ≤ P3 k ∧ P1 k ≤ P3 i) := ⟨_, rfl⟩
  have hpr : ∀ last, pairsL (ptL n last B n) = wOut M (fun k => (k : Int)) n n := fun last => by
    have hI : SwI n (ptL n last B n) := ptL_I hBok
    have hg : ∀ j, j < n → (rngI n).getD j 0 = j := fun j hj => by
      unfold rngI
      rw [List.getD_eq_getElem?_getD, List.getElem?_map, List.getElem?_range hj]; rfl
    have h1 := wOut_bru (L := ptL n last B n) (o := rngI n) (M := M) fun i k hik hk => by
      rw [rngI_len] at hk
      rw [hg i (by omega), hg k hk]
      unfold mtK
      rw [hsel last i (by omega), hsel last k hk, hBd, hM]
      show _ = meetsS (P0 i) (P1 i) (P2 i) (P3 i) (P0 k) (P1 k) (P2 k) (P3 k)
      unfold meetsS
      simp [hok]
    rw [pairs_eq hI.nod, hI.srt, ← h1, rngI_len]
    exact wOut_congr hg n (Nat.le_refl n)
  have hpv := hpr false
  have hpw := hpr true
  generalize ptL n false B n = Lv at hIv hpv ⊢
  generalize ptL n true B n = Lw at hIw hpw ⊢
  have hvl := hIv.len
  have hwl := hIw.len
  have hvs := hIv.selIn
  have hws := hIw.selIn
  clear hpr hsel hBok hBd hB B
  refine loopN_go (fun (i : Nat) => i ≤ n) (fun i => n - i) (fun i => [(7, i64 i), (6, .own 18 0 (wOut M (fun k => (k : Int)) n i).length 2)])
    (fun i => [(18, famN (wOut M (fun k => (k : Int)) n i).length 2 32 (lsF (wOut M (fun k => (k : Int)) n i)) none)]) [7, 5] [21, 22, 23, 24, 27, 28, 8, 29, 30, 31, 32, 35, 36, 37, 38, 39, 40, 41, 42, 43, 44, 45, 46, 47, 48, 49, 6, 33, 34, 8, 25, 26, 7] 1 0 (by kernel_rfl) (Nat.zero_le _) ⟨[(18, none)], ?_, ?_, ?_, ?_⟩ ?_
  · simp only [go_sem, wOut, List.length_nil, Int.cast_ofNat_Int]
  · simp only [go_sem, wOut, List.length_nil]
  · simp only [go_sem]
  · simp [goodNames, asg]
  intro i hi
  simp only [go_sem]
  have l1 := wOut_le (M := M) (X := fun k => (k : Int)) (n := n) i
  have l1b : i * n ≤ 30 * 30 := Nat.mul_le_mul (by omega) hn30
  have hls : ∀ l : List (Int × Int), lP l.length (gxP fun i => lsF l i) = l := fun l => lP_ls
  refine ⟨fun hlt z hz => ?_, fun hge => ?_⟩
  · have hz : z = ((i + 1 + 0 : Nat) : Int) := by rw [hz, wrap_in (by unfold inR; omega)]; omega
    rw [hz]
    have hst : wOut M (fun k => (k : Int)) n (i + 1) = wOut M (fun k => (k : Int)) n i ++ wIn M (fun k => (k : Int)) i (n - (i + 1)) := rfl
    generalize wOut M (fun k => (k : Int)) n i = O at l1 hst ⊢
    refine loopN_go (fun (j : Nat) => i + 1 + j ≤ n) (fun j => n - j) (fun j => [(8, i64 (i + 1 + j : Nat)), (6, .own 26 0 (O ++ wIn M (fun k => (k : Int)) i j).length 2)])
      (fun j => [(26, famN (O ++ wIn M (fun k => (k : Int)) i j).length 2 32 (lsF (O ++ wIn M (fun k => (k : Int)) i j)) none)]) [7, 5] [29, 30, 31, 32, 35, 36, 37, 38, 39, 40, 41, 42, 43, 44, 45, 46, 47, 48, 49, 6, 33, 34, 8] 1 0 (by kernel_rfl) (by show i + 1 + 0 ≤ n; omega) ⟨[(26, some 18)], ?_, ?_, ?_, ?_⟩ ?_
    · simp only [go_sem, wIn, List.append_nil]
    · simp only [go_sem, wIn, List.append_nil]
      intro q hq
      exact fitL_clean rfl
    · simp only [go_sem]
    · simp [goodNames, asg]
    intro j hj
    simp only [go_sem, c10]
    have hb : bytesT Try.prog 32 = 16 := by kernel_rfl
    have n1 := wIn_le (M := M) (X := fun k => (k : Int)) (i := i) j
    refine ⟨fun hlt2 => ⟨by omega, by omega, by omega, hlt2, fun z2 hz2 => ⟨fun ht => ⟨?_, ?_, fun z3 k3 => ⟨j + 1, by omega, by omega, [(26, some 45)], ?_⟩⟩, fun hf z3 k3 => ⟨j + 1, by omega, by omega, [(26, some 26)], ?_⟩⟩⟩, fun hge => ?_⟩
    · rw [hb, List.length_append]; omega
    · rw [List.length_append]; omega
    · have e : wIn M (fun k => (k : Int)) i (j + 1) = wIn M (fun k => (k : Int)) i j ++ [((i : Int), ((i + 1 + j : Nat) : Int))] := by
        rw [wIn, if_pos (by rw [hM, ← ht, hz2])]
      rw [e, ← List.append_assoc, List.length_append, List.length_singleton]
      simp only [go_sem]
      refine ⟨by rw [k3, wrap_in (by unfold inR; omega)]; omega, fun q hq => ?_, by simp [goodNames, asg]⟩
      rw [lsF_push hq]
      exact fitL_clean rfl
    · have e : wIn M (fun k => (k : Int)) i (j + 1) = wIn M (fun k => (k : Int)) i j := by
        rw [wIn, if_neg (by rw [hM]; rw [hf] at hz2; dsimp only; rw [← hz2]; decide), List.append_nil]
      rw [e]
      simp only [go_sem]
      exact ⟨by rw [k3, wrap_in (by unfold inR; omega)]; omega, fun q hq => fitL_clean rfl, by simp [goodNames, asg]⟩
    · have ej : n - (i + 1) = j := by omega
      intro z3 k3
      refine ⟨i + 1, by omega, by omega, [(18, some 26)], ?_⟩
      rw [hst, ej]
      simp only [go_sem]
      exact ⟨by rw [k3, wrap_in (by unfold inR; omega)]; omega, fun q hq => fitL_clean rfl, by simp [goodNames, asg]⟩
  · have ei : i = n := by omega
    subst ei
    rw [hpv, hpw, hls]
    refine ⟨hvs, by omega, fun z hz => ?_⟩
    have hz : z = true := by rw [hz]; simp
    subst hz
    refine ⟨by omega, fun _ _ => trivial, fun _ _ => trivial, fun _ => ⟨rfl, hws, by omega, fun z1 hz1 => ⟨fun _ => trivial, fun _ => by omega, fun _ _ _ => trivial, fun _ _ _ => trivial, fun z2 hz2 => ?_⟩⟩, fun h => by cases h⟩
    rw [hz1, hz2]
    simp
end Go.Ax
end

section
/-
  What is proved: for every input bagatellelaw04.IndexPairs returns true, and the input reads ars it did. No further condition.
-/
namespace Go.Proofs.Ytfpgjkeelegdpaa.indexPairsDone
open Go.ChangeShapes Go.WideShapes Go.ChangeAt Go.RowKit Go.Ax
set_option linter.unusedVariables false

theorem own : ownKnob Try.prog.godebug = none := by kernel_rfl

theorem ctx : CtxOK Try.prog [(8, c8), (9, .wr mN9), (10, c10), (12, .wr mN12), (11, c11), (13, c13)] :=
  (.cons con8 (.mcons mon9 (.cons con10 (.mcons mon12 (.cons con11 (.cons con13 .nil))))))

set_option maxRecDepth 100000 in
theorem walk {w : World} {avs : List AV} {vs : List Value} (h : fitVs [.slice 1 [.int .i64]] avs) (hR : Rs w (.ext (All w)) avs vs) :
    Calls Try.prog 3 vs.toArray w fun e w' => e = .returned (.bool true) ∧ Below w.heap.size w w' := by
  obtain ⟨_, _, rfl, ⟨k, get, rfl, hnk, hget⟩, rfl⟩ := h
  rw [(rowsI hget).1] at hR
  have hk : k ≤ 9223372036854775807 := by unfold maxLen at hnk; omega
  obtain ⟨_, k2⟩ := fn_sound ctx Try.func3 (by kernel_rfl) (vc3 (k := k) hk (rowsI hget).2) (All w) w vs (fun _ h => h) hR
  refine k2.mono fun e w' ⟨v, he, ⟨r, hr, hv⟩, hb⟩ => ?_
  subst hr
  cases hv
  exact ⟨he, hb⟩

set_option maxRecDepth 100000 in
theorem lifted (os : Os) (started : os.Started) (H : Type) (enc : TypeId × Value → H) :
    ReturnsInHanded {} Try.checked os 3 .any (Rows.indexPairsSpec.pre6 enc Try.prog Try.f3 Rows.indexPairsRow.domain false) (Rows.indexPairsSpec.post enc Try.prog Try.f3 false true false false) := by
  refine returnsInHanded_of_change (C := Try.checked) own started (by kernel_rfl) Try.func3
    (ChangeSpec.witness6 (enc := enc) (C := Try.checked) false ⟨#[], #[.slice none 0 0], []⟩ 8 (by kernel_rfl) (by kernel_rfl) (by kernel_rfl) (by kernel_rfl)) ?_
  intro W base args ds gs before hval hW hcnd _
  have hW' := hW
  obtain ⟨p, q, hA, hV, rfl, hfz, hnd⟩ := hW
  obtain ⟨rfl, rfl⟩ := trodVars_none hV
  have hA' := hA
  rw [Try.params3] at hA hval
  obtain ⟨avs, w1, w2⟩ := args_read (P := Try.prog) (ss := [.slice 1 [.int .i64]]) (by kernel_rfl) (fun j t v hj hv => hval j t v (by simpa using hj) (by simpa using hv)) hA
  obtain ⟨v0, vs0, d0, ds0, p0, q0, hargs, rfl, rfl, h0, r0⟩ := trodAll_cons hA
  obtain ⟨rfl, rfl, rfl⟩ := trodAll_nil r0
  have hw := walk w1 w2
  rw [show args.toList.toArray = args by simp] at hw
  refine hw.mono fun e W' ⟨he, bel⟩ => ?_
  subst he
  obtain ⟨ps, hst⟩ := args_stay laidOut bel (by kernel_rfl) hA'
  exact ⟨_, rfl, _, _, _, [], _, [], hW', trodAll_mk1 (shut_bool Try.underlying4 _), hst, rfl, bel.frame _, fun h => by cases h⟩

theorem func : Try.pinned.checked.prog.funcNamed Rows.indexPairsRow.func = some 3 := by kernel_rfl
theorem four : ((Rows.indexPairsRow.inPlace == Try.prog.inPlace 3) = true) ∧ ((Rows.indexPairsRow.unfollowed == Try.prog.unfollowed 3) = true) ∧ ((Rows.indexPairsRow.recurses == Try.prog.recurses 3) = true) ∧ ((Rows.indexPairsRow.named == Try.prog.varsNamed 3) = true) := by
  have h : ((Rows.indexPairsRow.inPlace == Try.prog.inPlace 3) && ((Rows.indexPairsRow.unfollowed == Try.prog.unfollowed 3) && ((Rows.indexPairsRow.recurses == Try.prog.recurses 3) && (Rows.indexPairsRow.named == Try.prog.varsNamed 3)))) = true := by kernel_rfl
  simpa only [Bool.and_eq_true] using h
theorem facts : joinedFacts Try.prog 3 Try.f3 Rows.indexPairsSpec Rows.indexPairsRow = true :=
  andT (andT (andT (andT (andT (andT (andT (andT (andT (andT (andT (andT (andT (andT (andT (andT (andT (andT (andT (andT (andT (andT (andT (andT (andT (andT (andT (andT (andT (andT (andT (by kernel_rfl) laidOut) fRowed) (by kernel_rfl)) (by kernel_rfl)) (by kernel_rfl)) fStops) (by kernel_rfl)) fStopK) four.1) four.2.1) four.2.2.1) four.2.2.2) (by kernel_rfl)) (by kernel_rfl)) (by kernel_rfl)) (by kernel_rfl)) (by kernel_rfl)) (by kernel_rfl)) (by kernel_rfl)) (by kernel_rfl)) (by kernel_rfl)) fPlain) (by kernel_rfl)) fHeard) fMay) fLift) fMake) (by kernel_rfl)) (by kernel_rfl)) (by kernel_rfl)) (by kernel_rfl)
theorem over : Rows.indexPairsRow.holds Try.pinned (OpenSpec.ofChange Rows.indexPairsSpec) :=
  OpenClaim.holds_of_wide 3 Try.f3 rfl rfl rfl rfl rfl rfl rfl ⟨rfl, rfl, rfl, rfl, rfl⟩ rfl rfl rfl rfl rfl func Try.func3 facts
    (of_decide_eq_true (by kernel_rfl)) (by unfold Func.isWrapper; first | (rw [if_pos (by decide +kernel)]; kernel_rfl) | (rw [if_neg (by decide +kernel)]; exact ⟨rfl, rfl⟩))
    (fun os started H enc _ => lifted os started H enc)

theorem proved : Rows.IndexPairsSaid := over
#print axioms proved
end Go.Proofs.Ytfpgjkeelegdpaa.indexPairsDone
end
