/-
  The law of the chapter's examples.
-/
import Derived.Test.YtfpgjkeelegdpaaGreatCM10
import Derived.Test.YtfpgjkeelegdpaaGreatRows
import Derived.WalkKit
import Derived.ProofKit
section
set_option linter.unusedVariables false
set_option linter.unusedSimpArgs false
set_option maxHeartbeats 4000000
set_option maxRecDepth 100000
namespace Go.Ax
open Go.Proofs
def sh1 : Ents := [(5, [0, 0, 10, 10]), (2, [10, 5, 20, 8]), (9, [10, 0, 12, 5])]
def sh2 : Ents := [(2, [10, 5, 20, 8]), (9, [10, 0, 12, 5])]
theorem selIn_1 : selIn sh1 := fun k j => by
  have h : memSel sh1 k = none ∨ memSel sh1 k = some [0, 0, 10, 10] ∨ memSel sh1 k = some [10, 5, 20, 8] ∨ memSel sh1 k = some [10, 0, 12, 5] := by
    unfold sh1
    simp only [memSel]
    repeat' split
    all_goals simp
  rcases h with h | h | h | h <;> rw [h] <;> unfold selAt inR <;> dsimp only <;> (try (rcases j with _ | _ | _ | _ | j <;> simp <;> omega)) <;> (try omega)
theorem selIn_2 : selIn sh2 := fun k j => by
  have h : memSel sh2 k = none ∨ memSel sh2 k = some [10, 5, 20, 8] ∨ memSel sh2 k = some [10, 0, 12, 5] := by
    unfold sh2
    simp only [memSel]
    repeat' split
    all_goals simp
  rcases h with h | h | h <;> rw [h] <;> unfold selAt inR <;> dsimp only <;> (try (rcases j with _ | _ | _ | _ | j <;> simp <;> omega)) <;> (try omega)
theorem nod_1 : keysN sh1 := by unfold keysN; decide
theorem nod_2 : keysN sh2 := by unfold keysN; decide
theorem pairs_1 : pairsL sh1 = [(2, 5), (2, 9), (5, 9)] := by
  rw [pairs_eq nod_1, srtK_eq (l := [2, 5, 9]) (by decide) (by decide)]
  decide +kernel
theorem pairs_2 : pairsL sh2 = [(2, 9)] := by
  rw [pairs_eq nod_2, srtK_eq (l := [2, 9]) (by decide) (by decide)]
  decide +kernel
theorem seen_no : seenL shL (fun x y z t => meetsS x y z t 3 2 1 0) = [] := by
  unfold seenL
  rw [srtK_sh]
  decide +kernel
theorem ids_sh : ((lX (List.length shL) fun i => (srtK shL).getD i 0) = lX 3 (gx (rowsOf 1 [i64 2, i64 5, i64 9]) 0)) = True := eq_true (by
  rw [srtK_sh]
  decide +kernel)
theorem ints_3 {a b c : Int} : ints 3 (rowsOf 1 [i64 a, i64 b, i64 c]) := fun i hi => by
  match i, hi with
  | 0, _ => rfl
  | 1, _ => rfl
  | 2, _ => rfl
theorem mv_1 : movE shL 9 10 0 12 5 = 0 := by decide +kernel
theorem mvw_1 : movW ⟨shL, noRows⟩ 9 10 0 12 5 = ⟨sh1, noRows⟩ := by unfold movW; dsimp only; rw [mv_1]; rfl
theorem pt_1 : putE sh1 5 0 0 1 1 = 11 := by decide +kernel
theorem ptw_1 : putW ⟨sh1, noRows⟩ 5 0 0 1 1 = ⟨sh1, noRows⟩ := by unfold putW; dsimp only; rw [pt_1]; rfl
theorem mv_2 : movE sh1 7 0 0 1 1 = 9 := by decide +kernel
theorem mvw_2 : movW ⟨sh1, noRows⟩ 7 0 0 1 1 = ⟨sh1, noRows⟩ := by unfold movW; dsimp only; rw [mv_2]; rfl
theorem dr_1 : drpE sh1 7 = 9 := by decide +kernel
theorem drw_1 : drpW ⟨sh1, noRows⟩ 7 = ⟨sh1, noRows⟩ := by unfold drpW; dsimp only; rw [dr_1]; rfl
theorem pt_2 : putE sh1 (-1) 0 0 1 1 = 3 := by decide +kernel
theorem ptw_2 : putW ⟨sh1, noRows⟩ (-1) 0 0 1 1 = ⟨sh1, noRows⟩ := by unfold putW; dsimp only; rw [pt_2]; rfl
theorem pt_3 : putE sh1 (-1) 2 0 1 1 = 3 := by decide +kernel
theorem ptw_3 : putW ⟨sh1, noRows⟩ (-1) 2 0 1 1 = ⟨sh1, noRows⟩ := by unfold putW; dsimp only; rw [pt_3]; rfl
theorem dr_2 : drpE sh1 5 = 0 := by decide +kernel
theorem drw_2 : drpW ⟨sh1, noRows⟩ 5 = ⟨sh2, noRows⟩ := by unfold drpW; dsimp only; rw [dr_2]; rfl
theorem bx_5 : memSel sh2 5 = none := by decide +kernel
theorem bx_2 : memSel sh2 2 = some [10, 5, 20, 8] := by decide +kernel
theorem sh1_len : sh1.length = 3 := (rfl)
theorem sh2_len : sh2.length = 2 := (rfl)
theorem pq_1 : (lP 3 (gxP fun i => lsF [(2, 5), (2, 9), (5, 9)] i) = lP 3 (gxP (rowsOf 2 [i64 2, i64 5, i64 2, i64 9, i64 5, i64 9]))) = True := eq_true (by decide +kernel)
theorem pq_2 : (lP 1 (gxP fun i => lsF [(2, 9)] i) = lP 1 (gxP (rowsOf 2 [i64 2, i64 9]))) = True := eq_true (by decide +kernel)
theorem pc_1 : ∀ i, i < 3 → List.take 2 (List.drop (i * 2) [i64 2, i64 5, i64 2, i64 9, i64 5, i64 9]) = canP (rowsOf 2 [i64 2, i64 5, i64 2, i64 9, i64 5, i64 9]) i := fun i hi => by
  match i, hi with
  | 0, _ => rfl
  | 1, _ => rfl
  | 2, _ => rfl
theorem pc_2 : ∀ i, i < 1 → List.take 2 (List.drop (i * 2) [i64 2, i64 9]) = canP (rowsOf 2 [i64 2, i64 9]) i := fun i hi => by
  match i, hi with
  | 0, _ => rfl
theorem sA_no {j : Nat} : selAt none j = 0 := by unfold selAt; rfl
theorem sA_0 {a b c d : Int} : selAt (some [a, b, c, d]) 0 = a := (rfl)
theorem sA_1 {a b c d : Int} : selAt (some [a, b, c, d]) 1 = b := (rfl)
theorem sA_2 {a b c d : Int} : selAt (some [a, b, c, d]) 2 = c := (rfl)
theorem sA_3 {a b c d : Int} : selAt (some [a, b, c, d]) 3 = d := (rfl)
theorem vc11 : fnVC Tryz.prog [(57, .wr mN57), (15, c15), (58, c58), (59, .wr mN59), (49, c49), (25, c25), (50, .wr mN50), (17, .wr m17), (21, .wr mN21), (20, c20), (19, .wr m19), (18, .wr m18), (22, c22)] [] Tryz.f11 [] (· = bo true) := by
  refine fnVC_go (rs := [.tmp 0]) rfl rfl ?_
  have t0 : tlOK noRows = True := tlOK_no
  have iR : ∀ z : Int, -100 ≤ z ∧ z ≤ 100 → inR z = True := fun z hz => eq_true (by unfold inR; omega)
  have i0 := iR 0 (by omega)
  have i1 := iR 1 (by omega)
  have i2 := iR 2 (by omega)
  have i3 := iR 3 (by omega)
  have i5 := iR 5 (by omega)
  have i8 := iR 8 (by omega)
  have i10 := iR 10 (by omega)
  have i12 := iR 12 (by omega)
  have i20 := iR 20 (by omega)
  have b0 : ((0 : Int) != 0) = false := by decide
  have b1 : ((0 : Int) == 0) = true := by decide
  have b2 : (((0 : Nat) : Int) == 0) = true := by decide
  have b3 : ((11 : Int) == 11) = true := by decide
  have b4 : ((9 : Int) == 9) = true := by decide
  have b5 : ((3 : Int) == 3) = true := by decide
  simp only [go_sem, stepC_Wt, stepC_Wf, ↓forall_eq, mN57_eq, swF_eq, famNK_W', c58, c22, c25, m17, F17, m18, F18, m19, F19, F21, mN21_eq, F50, F59, t0, i0, i1, i2, i3, i5, i8, i10, i12, i20, b0, b1, b2, b3, b4, b5, ids_sh, decide_true, seen_no, List.length_nil, Bool.and_self, Bool.and_true, Bool.true_and, Bool.not_true, Bool.not_false, Bool.or_self, Bool.false_or, Bool.or_false, mv_1, mvw_1, pairs_1, pt_1, ptw_1, mv_2, mvw_2, dr_1, drw_1, pt_2, ptw_2, pt_3, ptw_3, dr_2, drw_2, pairs_2, bx_5, bx_2, eq32, pq_1, pq_2, sA_no, sA_0, sA_1, sA_2, sA_3, beq_self_eq_true, Option.isSome, selIn_sh, selIn_1, selIn_2]
  exact ⟨by decide, by decide, ints_3, by decide, by decide, fun _ _ => trivial, pc_1, by decide, fun _ _ => trivial, pc_2⟩
end Go.Ax
end

section
/-
  What is proved: for every input bagatellelaw04.IndexKnown returns true, and the input reads ars it did. No further condition.
-/
namespace Go.Proofs.YtfpgjkeelegdpaaGreat.indexKnownDone
open Go.ChangeShapes Go.WideShapes Go.ChangeAt Go.RowKit Go.Ax
set_option linter.unusedVariables false

theorem own : ownKnob Tryz.prog.godebug = none := by kernel_rfl

theorem ctx : CtxOK Tryz.prog [(57, .wr mN57), (15, c15), (58, c58), (59, .wr mN59), (49, c49), (25, c25), (50, .wr mN50), (17, .wr m17), (21, .wr mN21), (20, c20), (19, .wr m19), (18, .wr m18), (22, c22)] :=
  (.mcons mon57 (.cons con15 (.cons con58 (.mcons mon59 (.cons con49 (.cons con25 (.mcons mon50 (.mcons mon17 (.mcons mon21 (.cons con20 (.mcons mon19 (.mcons mon18 (.cons con22 .nil)))))))))))))

set_option maxRecDepth 100000 in
theorem walk {w : World} {avs : List AV} {vs : List Value} (h : fitVs [] avs) (hR : Rs w (.ext (All w)) avs vs) :
    Calls Tryz.prog 11 vs.toArray w fun e w' => e = .returned (.bool true) ∧ Below w.heap.size w w' := by
  subst h
  obtain ⟨_, k2⟩ := fn_sound ctx Tryz.func11 (by kernel_rfl) (vc11 ) (All w) w vs (fun _ h => h) hR
  refine k2.mono fun e w' ⟨v, he, ⟨r, hr, hv⟩, hb⟩ => ?_
  subst hr
  cases hv
  exact ⟨he, hb⟩

set_option maxRecDepth 100000 in
theorem lifted (os : Os) (started : os.Started) (H : Type) (enc : TypeId × Value → H) :
    ReturnsInHanded {} Tryz.checked os 11 .any (Rows.indexKnownSpec.pre6 enc Tryz.prog Tryz.f11 Rows.indexKnownRow.domain false) (Rows.indexKnownSpec.post enc Tryz.prog Tryz.f11 false true false false) := by
  refine returnsInHanded_of_change (C := Tryz.checked) own started (by kernel_rfl) Tryz.func11
    (ChangeSpec.witness6 (enc := enc) (C := Tryz.checked) false ⟨#[], #[], []⟩ 8 (by kernel_rfl) (by kernel_rfl) (by kernel_rfl) (by kernel_rfl)) ?_
  intro W base args ds gs before hval hW hcnd _
  have hW' := hW
  obtain ⟨p, q, hA, hV, rfl, hfz, hnd⟩ := hW
  obtain ⟨rfl, rfl⟩ := trodVars_none hV
  have hA' := hA
  rw [Tryz.params11] at hA hval
  obtain ⟨avs, w1, w2⟩ := args_read (P := Tryz.prog) (base := base) (ss := []) (by kernel_rfl) (fun j t v hj hv => by cases hj) hA
  obtain ⟨hx, rfl, rfl⟩ := trodAll_nil hA
  obtain rfl : args = #[] := Array.ext' hx
  have hw := walk w1 w2
  rw [show (#[] : Array Value).toList.toArray = #[] from rfl] at hw
  refine hw.mono fun e W' ⟨he, bel⟩ => ?_
  subst he
  obtain ⟨ps, hst⟩ := args_stay laidOut bel (by kernel_rfl) hA'
  exact ⟨_, rfl, _, _, _, [], _, [], hW', trodAll_mk1 (shut_bool Tryz.underlying4 _), hst, rfl, bel.frame _, fun h => by cases h⟩

theorem func : Tryz.pinned.checked.prog.funcNamed Rows.indexKnownRow.func = some 11 := by kernel_rfl
theorem four : ((Rows.indexKnownRow.inPlace == Tryz.prog.inPlace 11) = true) ∧ ((Rows.indexKnownRow.unfollowed == Tryz.prog.unfollowed 11) = true) ∧ ((Rows.indexKnownRow.recurses == Tryz.prog.recurses 11) = true) ∧ ((Rows.indexKnownRow.named == Tryz.prog.varsNamed 11) = true) := by
  have h : ((Rows.indexKnownRow.inPlace == Tryz.prog.inPlace 11) && ((Rows.indexKnownRow.unfollowed == Tryz.prog.unfollowed 11) && ((Rows.indexKnownRow.recurses == Tryz.prog.recurses 11) && (Rows.indexKnownRow.named == Tryz.prog.varsNamed 11)))) = true := by kernel_rfl
  simpa only [Bool.and_eq_true] using h
theorem facts : joinedFacts Tryz.prog 11 Tryz.f11 Rows.indexKnownSpec Rows.indexKnownRow = true :=
  andT (andT (andT (andT (andT (andT (andT (andT (andT (andT (andT (andT (andT (andT (andT (andT (andT (andT (andT (andT (andT (andT (andT (andT (andT (andT (andT (andT (andT (andT (andT (by kernel_rfl) laidOut) fRowed) (by kernel_rfl)) (by kernel_rfl)) (by kernel_rfl)) fStops) (by kernel_rfl)) fStopK) four.1) four.2.1) four.2.2.1) four.2.2.2) (by kernel_rfl)) (by kernel_rfl)) (by kernel_rfl)) (by kernel_rfl)) (by kernel_rfl)) (by kernel_rfl)) (by kernel_rfl)) (by kernel_rfl)) (by kernel_rfl)) fPlain) (by kernel_rfl)) fHeard) fMay) fLift) fMake) (by kernel_rfl)) (by kernel_rfl)) (by kernel_rfl)) (by kernel_rfl)
theorem over : Rows.indexKnownRow.holds Tryz.pinned (OpenSpec.ofChange Rows.indexKnownSpec) :=
  OpenClaim.holds_of_wide 11 Tryz.f11 rfl rfl rfl rfl rfl rfl rfl ⟨rfl, rfl, rfl, rfl, rfl⟩ rfl rfl rfl rfl rfl func Tryz.func11 facts
    (of_decide_eq_true (by kernel_rfl)) (by unfold Func.isWrapper; first | (rw [if_pos (by decide +kernel)]; kernel_rfl) | (rw [if_neg (by decide +kernel)]; exact ⟨rfl, rfl⟩))
    (fun os started H enc _ => lifted os started H enc)

theorem proved : Rows.IndexKnownSaid := over
#print axioms proved
end Go.Proofs.YtfpgjkeelegdpaaGreat.indexKnownDone
end
