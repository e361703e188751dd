/-
  The chapter's examples hold.
-/
import Derived.Test.YtfpgjkeelegdpaaGreatCM7
import Derived.ShutString
import Derived.ChangeOld
import Derived.Below
section
set_option linter.unusedVariables false
set_option linter.unusedSimpArgs false
set_option maxHeartbeats 4000000
set_option maxRecDepth 100000
namespace Go.Ax
open Go.Proofs
theorem F45_3 : F45 [i64 3] = some ([], fun k => .tup [.bx k 0, i64 0], fun k => some (slF k ⟨0, 3, fun _ => 0, noRows⟩)) := (rfl)
theorem slF_eq {K : Nat} {s : SlS} : slF K s = famR [⟨1, 2, 100, fun _ => [u64 s.x, .own K 1 s.n 1], none⟩, ⟨s.n, 1, 3, fun i => [i64 (s.G i)], none⟩] s.tl := (rfl)
def g0 : Nat → Int := fun _ => 0
def g1 : Nat → Int := upI g0 0 1
def g2 : Nat → Int := upI g1 1 1
theorem F45_3' : F45 [i64 3] = some ([], fun k => .tup [.bx k 0, i64 0], fun k => some (slF k ⟨0, 3, g0, noRows⟩)) := (rfl)
theorem tkI_0 : tkI ⟨0, 3, g0, noRows⟩ = 0 := by decide +kernel
theorem tkI_1 : tkI ⟨1, 3, g1, noRows⟩ = 1 := by decide +kernel
theorem tkS_0 : tkS ⟨0, 3, g0, noRows⟩ = ⟨1, 3, g1, noRows⟩ := by
  unfold tkS; rw [tkI_0]; rfl
theorem tkS_1 : tkS ⟨1, 3, g1, noRows⟩ = ⟨3, 3, g2, noRows⟩ := by
  unfold tkS; rw [tkI_1]; rfl
theorem tkE_0 : tkE ⟨0, 3, g0, noRows⟩ = 0 := by decide +kernel
theorem tkE_1 : tkE ⟨1, 3, g1, noRows⟩ = 0 := by decide +kernel
theorem tkH_0 : tkH ⟨0, 3, g0, noRows⟩ = (0, 1) := by decide +kernel
theorem tkH_1 : tkH ⟨1, 3, g1, noRows⟩ = (1, 1) := by decide +kernel
theorem slOK_0 : slOK ⟨0, 3, g0, noRows⟩ = True := eq_true ⟨⟨by decide, by decide⟩, ⟨by decide, by decide⟩, by decide⟩
theorem slOK_1 : slOK ⟨1, 3, g1, noRows⟩ = True := eq_true ⟨⟨by decide, by decide⟩, ⟨by decide, by decide⟩, by decide⟩
theorem slOK_2 : slOK ⟨3, 3, g2, noRows⟩ = True := eq_true ⟨⟨by decide, by decide⟩, ⟨by decide, by decide⟩, by decide⟩
theorem has_2 : hasI ⟨3, 3, g2, noRows⟩ 1 1 = true := by decide +kernel
theorem fr_2 : frS ⟨3, 3, g2, noRows⟩ 1 1 = ⟨1, 3, g2, noRows⟩ := by
  unfold frS; rw [has_2]; rfl
theorem at_3 : atOk 1 3 1 = false := by decide +kernel
theorem at_4 : atOk 1 3 0 = true := by decide +kernel
theorem g2_0 : g2 0 = 1 := (rfl)
theorem g2_0' : g2 (Int.toNat 0) = 1 := (rfl)
theorem selIn_sh : selIn shL = True := eq_true fun k j => by
  have h : memSel shL k = none ∨ memSel shL k = some [0, 0, 10, 10] ∨ memSel shL k = some [10, 5, 20, 8] ∨ memSel shL k = some [11, 0, 12, 4] := by
    unfold shL
    simp only [memSel]
    repeat' split
    all_goals simp
  rcases h with h | h | h | h <;> rw [h] <;> unfold selAt inR <;> dsimp only <;> (try (rcases j with _ | _ | _ | _ | j <;> simp <;> omega)) <;> (try omega)
theorem ms_eq {α : Type} {le : α → α → Bool} (tr : ∀ a b c, le a b = true → le b c = true → le a c = true) (tot : ∀ a b, (le a b || le b a) = true) (anti : ∀ a b, le a b = true → le b a = true → a = b) {l l' : List α} (hp : l.Perm l') (hs : l'.Pairwise fun a b => le a b = true) : l.mergeSort le = l' :=
  List.Perm.eq_of_pairwise (le := fun a b => le a b = true) (fun a b _ _ h1 h2 => anti a b h1 h2) (List.pairwise_mergeSort tr tot l) hs ((List.mergeSort_perm l le).trans hp)
theorem srtK_eq {L : Ents} {l : List Int} (hp : (L.map (·.1)).Perm l) (hs : l.Pairwise fun a b => a ≤ b) : srtK L = l :=
  ms_eq (by simp; omega) (by simp; omega) (by simp; omega) hp (hs.imp fun h => by simpa using h)
theorem srtX_eq {L : Ents} {l l' : List Int} (hp : l.Perm l') (hs : l'.Pairwise fun a b => (!Go.Proofs.ltOf (cfL L) b a) = true) : srtX L l = l' :=
  ms_eq (fun a b c h1 h2 => by rw [cfL_lt] at *; simp at *; omega) (fun a b => by rw [cfL_lt, cfL_lt, Bool.or_eq_true]; simp; omega) (fun a b h1 h2 => by rw [cfL_lt] at *; simp at *; omega) hp hs
theorem srtP_eq {l l' : List (Int × Int)} (hp : l.Perm l') (hs : l'.Pairwise fun a b => (!Go.Proofs.ltOf cfP b a) = true) : srtP l = l' :=
  ms_eq (fun a b c h1 h2 => by rw [cfP_lt] at *; simp at *; omega) (fun a b => by rw [cfP_lt, cfP_lt, Bool.or_eq_true]; simp; omega) (fun a b h1 h2 => cfP_tot (by simpa using h2) (by simpa using h1)) hp hs
theorem srtK_sh : srtK shL = [2, 5, 9] := srtK_eq (by decide) (by decide)
theorem ord_sh : ordL shL = [5, 2, 9] := by
  unfold ordL
  rw [srtK_sh]
  exact srtX_eq (by decide) (by decide +kernel)
theorem pairs_sh : pairsL shL = [(2, 5)] := by
  unfold pairsL
  rw [ord_sh, show (pw shL [5, 2, 9]).1 = [(2, 5)] by decide +kernel]
  exact srtP_eq (List.Perm.refl _) (by decide)
theorem seen_sh : seenL shL (fun x y z t => meetsS x y z t 12 4 13 6) = [2, 9] := by
  unfold seenL
  rw [srtK_sh]
  decide +kernel
theorem shL_len : shL.length = 3 := (rfl)
theorem c20_eq {a b : AV} : c20 [a, b] = c20f (roP a) (roP b) := (rfl)
theorem c20f_some {o1 o2 : List Prop} {n m : Nat} {X Y : Nat → Int × Int} : c20f (some (o1, n, X)) (some (o2, m, Y)) = some ((n ≤ 100000) :: (o1 ++ o2), bo (decide (lP n X = lP m Y))) := (rfl)
theorem c49_eq {a b : AV} : c49 [a, b] = c49f (roI a) (roI b) := (rfl)
theorem c49f_some {o1 o2 : List Prop} {n m : Nat} {X Y : Nat → Int} : c49f (some (o1, n, X)) (some (o2, m, Y)) = some ((n ≤ 100000) :: (o1 ++ o2), bo (decide (lX n X = lX m Y))) := (rfl)
theorem famNK_ls {key n : Nat} {l : List (Int × Int)} {ty : TypeId} {g : Option Bool} : famNK key (famN n 2 ty (lsF l) g) = True := eq_true fun f j hj c hc => by
  match f with
  | 0 =>
    have hc : c ∈ lsF l j := hc
    simp only [lsF, List.mem_cons, List.not_mem_nil, or_false] at hc
    rcases hc with rfl | rfl <;> trivial
  | f + 1 => have hj : j < 0 := hj; omega
theorem purL_ls {d : Nat} {m : Mem} {l : List (Int × Int)} {i : Nat} : purL (d + 1) m (lsF l i) = lsF l i := (rfl)
attribute [go_sem] purL_ls c20_eq c20f_some c49_eq c49f_some famNK_ls roI_ro roI_nil roP_ro roP_nil
def c15 : Con
  | [] => some ([], bo true)
  | _ => none
theorem aw_p : decide (lP 1 (gxP fun i => lsF [(2, 5)] i) = lP 1 (gxP (rowsOf 2 [i64 2, i64 5]))) = true := by decide +kernel
theorem aw_i : decide ((lX 2 fun i => [2, 9].getD i 0) = lX 2 (gx (rowsOf 1 [i64 2, i64 9]) 0)) = true := by decide +kernel
theorem aw_q : (∀ i, i < 1 → List.take 2 (List.drop (i * 2) [i64 2, i64 5]) = canP (rowsOf 2 [i64 2, i64 5]) i) = True := eq_true fun i hi => by
  obtain rfl : i = 0 := by omega
  rfl
theorem aw_j : ints 2 (rowsOf 1 [i64 2, i64 9]) = True := eq_true fun i hi => by
  match i, hi with
  | 0, _ => rfl
  | 1, _ => rfl
theorem inR_13 : inR 13 = True := inR_l (by decide)
theorem inR_6 : inR 6 = True := inR_l (by decide)
theorem con15 : ConOK Tryz.prog 15 c15 := ConOK.of (G := [(45, .wr m45), (57, .wr mN57), (40, .wr m40), (44, .wr m44), (60, k60), (21, .wr mN21), (20, c20), (25, c25), (50, .wr mN50), (49, c49)]) (H := []) (.mcons mon45 (.mcons mon57 (.mcons mon40 (.mcons mon44 (.cons con60 (.mcons mon21 (.cons con20 (.cons con25 (.mcons mon50 (.cons con49 .nil)))))))))) Tryz.func15 fun l ob rr hc hob => by
  unfold c15 at hc
  split at hc
  · cases hc
    refine ⟨by kernel_rfl, fnVC_go (rs := [.tmp 0]) rfl rfl ?_⟩
    simp only [go_sem, mN57_eq, m40, m44, m45, k60, slF_eq, swF_eq, F45_3', F40, F44, F60, tkS_0, tkS_1, tkE_0, tkE_1, tkH_0, tkH_1, slOK_0, slOK_1, slOK_2, has_2, fr_2, at_3, at_4, g2_0, g2_0', famNK_W', selIn_sh, pairs_sh, seen_sh, shL_len, F21, F50, mN21_eq, c25, aw_p, aw_i, aw_q, aw_j, inR_4, inR_12, inR_13, inR_6]
    have b0 : ((0 : Int) != 0) = false := by decide
    have b1 : ((0 : Int) == 0) = true := by decide
    have b2 : ((1 : Int) == 1) = true := by decide
    simp only [forall_eq, b0, b1, b2, false_or, or_false, Bool.false_eq_true, false_imp_iff, true_imp_iff, true_and, and_true, and_self, not_true, eq_self, not_false_iff, imp_self, implies_true, Bool.and_true, Bool.not_false, Bool.and_self, Bool.true_eq_false, false_imp_iff, imp_true_iff, aw_p, aw_i, aw_q, aw_j]
  · cases hc
end Go.Ax
end

section
/-
  What the laws ask of lists of handles, and of what is in a list.
-/
set_option linter.unusedVariables false
set_option linter.unusedSimpArgs false
set_option maxHeartbeats 4000000
set_option maxRecDepth 100000
namespace Go.Ax
open Go.Proofs
def c43f : Option (List Prop × Nat × (Nat → Int × Int)) → Option (List Prop × Nat × (Nat → Int × Int)) → Option (List Prop × AV)
  | some (o1, n, X), some (o2, m, Y) => some ((n ≤ 100000) :: (o1 ++ o2), bo (decide (lP n X = lP m Y)))
  | _, _ => none
def c43 : Con
  | [a, b] => c43f (roP a) (roP b)
  | _ => none
theorem con43 : ConOK Tryz.prog 43 c43 := ConOK.go (G := []) (H := []) .nil Tryz.func43 fun l ob rr hc hob => by
  unfold c43 at hc
  split at hc
  · rename_i a b
    unfold c43f at hc
    split at hc
    · rename_i o1 n X o2 m Y ha hb
      cases hc
      have hn : n ≤ 100000 := hob _ (by simp)
      refine ⟨[.ro n 2 fun i => [i64 (X i).1, i64 (X i).2], .ro m 2 fun i => [i64 (Y i).1, i64 (Y i).2]], fun w I vs hR => ?_, by kernel_rfl, fnVC_go (rs := [.tmp 4]) rfl rfl ?_⟩
      · obtain ⟨y, ys, rfl, k1, k2⟩ := hR.inv
        obtain ⟨y2, ys2, rfl, k3, k4⟩ := k2.inv
        exact .cons (roP_sound ha (fun p hp => hob p (by simp [hp])) k1) (.cons (roP_sound hb (fun p hp => hob p (by simp [hp])) k3) k4)
      simp only [go_sem]
      refine ⟨fun h => ?_, fun h => ?_⟩
      · have hne : n ≠ m := fun e => by subst e; simp at h
        symm
        rw [decide_eq_false_iff_not, lP_eq]
        exact fun e => hne e.1
      have hnm' : (n : Int) = m := by simpa using h
      have hnm : n = m := by omega
      clear hnm'
      subst hnm
      refine loopN_go (fun (i : Nat) => i ≤ n ∧ ∀ j, j < i → X j = Y j) (fun i => n - i) (fun i => [(5, i64 i)]) (fun i => []) [] [11, 12, 13, 14, 17, 18, 19, 20, 21, 22, 23, 24, 25, 4, 15, 16, 5] 0 0 (by kernel_rfl) ⟨Nat.zero_le _, fun j hj => by omega⟩ ⟨[], ?_, ?_, ?_, ?_⟩ ?_
      · simp only [go_sem]
      · simp only [go_sem]
      · simp only [go_sem]
      · simp [goodNames, asg]
      rintro i ⟨hi, hj⟩
      simp only [go_sem]
      refine ⟨fun h => ⟨by omega, h, by omega, h, fun hne => ?_, fun he z hz => ⟨i + 1, ⟨by omega, fun j h2 => ?_⟩, by omega, [], by rw [hz, wrap_in (by unfold inR; omega)]; omega, by simp [goodNames, asg]⟩⟩, fun h => ?_⟩
      · symm
        rw [decide_eq_false_iff_not, lP_eq]
        intro e
        rw [e.2 i (by omega)] at hne
        simp at hne
      · by_cases e : j = i
        · subst e; have h3 : (X j).1 = (Y j).1 ∧ (X j).2 = (Y j).2 := by simpa using he
          exact Prod.ext h3.1 h3.2
        · exact hj j (by omega)
      · symm
        rw [decide_eq_true_iff, lP_eq]
        exact ⟨rfl, fun j h2 => hj j (by omega)⟩
    · cases hc
  · cases hc
theorem mem_lX {n : Nat} {X : Nat → Int} {z : Int} : z ∈ lX n X ↔ ∃ i, i < n ∧ X i = z := by simp [lX]
theorem mem_lP {n : Nat} {X : Nat → Int × Int} {z : Int × Int} : z ∈ lP n X ↔ ∃ i, i < n ∧ X i = z := by simp [lP]
def c27f (n : Nat) (X : Nat → Int) (z : Int) (ob : List Prop) : List Prop × AV := ((n ≤ 100000) :: ob, bo (decide (z ∈ lX n X)))
def c27 : Con
  | [a, .v (.int .i64 z)] => match roI a with
    | some (ob, n, X) => some (c27f n X z ob)
    | none => none
  | _ => none
theorem con27 : ConOK Tryz.prog 27 c27 := ConOK.go (G := []) (H := []) .nil Tryz.func27 fun l ob rr hc hob => by
  unfold c27 at hc
  split at hc
  · rename_i a z
    split at hc
    · rename_i o1 n X ha
      cases hc
      have hn : n ≤ 100000 := hob _ (by simp)
      refine ⟨[.ro n 1 fun i => [i64 (X i)], i64 z], fun w I vs hR => ?_, by kernel_rfl, fnVC_go (rs := [.tmp 4]) rfl rfl ?_⟩
      · obtain ⟨y, ys, rfl, k1, k2⟩ := hR.inv
        exact .cons (roI_sound ha (fun p hp => hob p (by simp [hp])) k1) k2
      simp only [go_sem]
      refine loopN_go (fun (i : Nat) => i ≤ n ∧ ∀ j, j < i → X j ≠ z) (fun i => n - i) (fun i => [(5, i64 i)]) (fun i => []) [] [6, 7, 8, 9, 12, 13, 14, 15, 16, 17, 4, 10, 11, 5] 0 0 (by kernel_rfl) ⟨Nat.zero_le _, fun j hj => by omega⟩ ⟨[], ?_, ?_, ?_, ?_⟩ ?_
      · simp only [go_sem]
      · simp only [go_sem]
      · simp only [go_sem]
      · simp [goodNames, asg]
      rintro i ⟨hi, hj⟩
      simp only [go_sem]
      refine ⟨fun h => ⟨by omega, h, fun he => ?_, fun hne zz k1 => ⟨i + 1, ⟨by omega, fun j h2 => ?_⟩, by omega, [], by rw [k1, wrap_in (by unfold inR; omega)]; omega, by simp [goodNames, asg]⟩⟩, fun h => ?_⟩
      · symm
        rw [decide_eq_true_iff, mem_lX]
        exact ⟨i, by omega, by simpa using he⟩
      · by_cases e : j = i
        · subst e
          intro e2
          rw [e2] at hne
          simp at hne
        · exact hj j (by omega)
      · symm
        rw [decide_eq_false_iff_not, mem_lX]
        rintro ⟨j, h2, h3⟩
        exact hj j (by omega) h3
    · cases hc
  · cases hc
def c38f (n : Nat) (X : Nat → Int × Int) (z : Int × Int) (ob : List Prop) : List Prop × AV := ((n ≤ 100000) :: ob, bo (decide (z ∈ lP n X)))
def c38 : Con
  | [a, .agg [.v (.int .i64 z1), .v (.int .i64 z2)]] => match roP a with
    | some (ob, n, X) => some (c38f n X (z1, z2) ob)
    | none => none
  | _ => none
theorem con38 : ConOK Tryz.prog 38 c38 := ConOK.go (G := []) (H := []) .nil Tryz.func38 fun l ob rr hc hob => by
  unfold c38 at hc
  split at hc
  · rename_i a z1 z2
    split at hc
    · rename_i o1 n X ha
      cases hc
      have hn : n ≤ 100000 := hob _ (by simp)
      refine ⟨[.ro n 2 fun i => [i64 (X i).1, i64 (X i).2], .agg [i64 z1, i64 z2]], fun w I vs hR => ?_, by kernel_rfl, fnVC_go (rs := [.tmp 4]) rfl rfl ?_⟩
      · obtain ⟨y, ys, rfl, k1, k2⟩ := hR.inv
        exact .cons (roP_sound ha (fun p hp => hob p (by simp [hp])) k1) k2
      simp only [go_sem]
      refine loopN_go (fun (i : Nat) => i ≤ n ∧ ∀ j, j < i → X j ≠ (z1, z2)) (fun i => n - i) (fun i => [(5, i64 i)]) (fun i => []) [0] [6, 7, 8, 9, 12, 13, 14, 15, 16, 17, 4, 10, 11, 5] 0 0 (by kernel_rfl) ⟨Nat.zero_le _, fun j hj => by omega⟩ ⟨[], ?_, ?_, ?_, ?_⟩ ?_
      · simp only [go_sem]
      · simp only [go_sem]
      · simp only [go_sem]
      · simp [goodNames, asg]
      rintro i ⟨hi, hj⟩
      simp only [go_sem]
      refine ⟨fun h => ⟨by omega, h, fun he => ?_, fun hne zz k1 => ⟨i + 1, ⟨by omega, fun j h2 => ?_⟩, by omega, [], by rw [k1, wrap_in (by unfold inR; omega)]; omega, by simp [goodNames, asg]⟩⟩, fun h => ?_⟩
      · symm
        rw [decide_eq_true_iff, mem_lP]
        exact ⟨i, by omega, Prod.ext (by simpa using he.1) (by simpa using he.2)⟩
      · by_cases e : j = i
        · subst e
          intro e2
          rw [e2] at hne
          simp at hne
        · exact hj j (by omega)
      · symm
        rw [decide_eq_false_iff_not, mem_lP]
        rintro ⟨j, h2, h3⟩
        exact hj j (by omega) h3
    · cases hc
  · cases hc
end Go.Ax
end

section
/-
  Lists of handles, ars rows of one's own; tables that are alike.
-/
set_option linter.unusedVariables false
set_option linter.unusedSimpArgs false
set_option maxHeartbeats 4000000
set_option maxRecDepth 100000
namespace Go.Ax
open Go.Proofs
attribute [go_sem] Tryz.underlying4
theorem ls_clean {l : List (Int × Int)} {j : Nat} : ∀ c ∈ lsF l j, clean 3 c = true := fun c hc => by
  simp only [lsF, List.mem_cons, List.not_mem_nil, or_false] at hc
  rcases hc with rfl | rfl <;> rfl
def FN35 : List AV → Option (List Prop × (Nat → AV) × (Nat → Option Fam))
  | [.rop [.v (.int .u64 x), .ro n 1 g]] => some ([0 ≤ x, x < 18446744073709551616, 0 < n, n ≤ 64, ints n g], fun k => .own k 0 (allL x n (gx g 0) n).length 2, fun k => some (famN (allL x n (gx g 0) n).length 2 64 (lsF (allL x n (gx g 0) n)) none))
  | _ => none
noncomputable def mN35W : MCon := mcKU FN35
theorem mN35W_eq : mN35W = mcKU FN35 := (rfl)
theorem FN35_eq {x : Int} {n : Nat} {g : Nat → List AV} : FN35 [.rop [u64 x, .ro n 1 g]] = some ([0 ≤ x, x < 18446744073709551616, 0 < n, n ≤ 64, ints n g], fun k => .own k 0 (allL x n (gx g 0) n).length 2, fun k => some (famN (allL x n (gx g 0) n).length 2 64 (lsF (allL x n (gx g 0) n)) none)) := (rfl)
attribute [go_sem] mN35W_eq FN35_eq
theorem mon35W : MConOK Tryz.prog 35 mN35W := MConOK.mkU (G := [(36, c36), (37, k37)]) (H := []) (.cons con36 (.cons con37 .nil)) Tryz.func35 fun es ob v nw hF hob => by
  unfold FN35 at hF
  split at hF
  · rename_i x n g
    cases hF
    have h0 : 0 ≤ x := hob _ (by simp)
    have h1 : x < 18446744073709551616 := hob _ (by simp)
    have h2 : 0 < n := hob _ (by simp)
    have h3 : n ≤ 64 := hob _ (by simp)
    have h4 : ints n g := hob _ (by simp)
    refine ⟨[slR x n (gx g 0)], fun w I vs hR => ?_, by simp [clean], by kernel_rfl, fun key => bodyM_go (rs := [.tmp 2]) rfl rfl ?_⟩
    · obtain ⟨y, ys, rfl, k1, k2⟩ := hR.inv
      exact .cons (R_slots h4 k1) k2
    generalize gx g 0 = X
    simp only [go_sem, c36, k37]
    simp only [forall_eq]
    refine loopN_go (fun (i : Nat) => i ≤ n) (fun i => n - i) (fun i => [(9, i64 i), (3, .own 5 0 (allL x n X i).length 2)]) (fun i => [(5, famN (allL x n X i).length 2 64 (lsF (allL x n X i)) none)]) [] [10, 11, 4, 13, 14, 15, 12, 16, 17, 5, 6, 18, 19, 20, 21, 22, 3, 23, 9] 1 0 (by kernel_rfl) (Nat.zero_le _) ⟨[(5, none)], ?_, ?_, ?_, ?_⟩ ?_
    · simp only [go_sem]; simp [allL]
    · simp only [go_sem]; simp [allL]
    · simp only [go_sem]
    · simp [goodNames, asg]
    intro i hi
    simp only [go_sem, c36, k37, F37, h0, h1, h2, h3]
    have hle := allL_le (x := x) (n := n) (X := X) i
    refine ⟨fun h z hz => ⟨fun ht => ⟨?_, by omega, fun z1 k1 => ⟨i + 1, by omega, by omega, [(5, some 22)], ?_⟩⟩, fun hf z1 k1 => ⟨i + 1, by omega, by omega, [(5, some 5)], ?_⟩⟩, fun h => ?_⟩
    · have hb : bytesT Tryz.prog 64 = 16 := by kernel_rfl
      rw [hb]; omega
    · rw [ht] at hz
      have e : allL x n X (i + 1) = allL x n X i ++ [((i : Int), X i)] := by simp only [allL]; rw [← hz]; rfl
      rw [e, List.length_append, List.length_singleton, if_pos hz.symm, if_pos hz.symm]
      simp only [go_sem]
      refine ⟨by rw [k1, wrap_in (by unfold inR; omega)]; omega, fun q hq => ?_, by simp [goodNames, asg]⟩
      rw [lsF_push hq]
      exact fitL_clean rfl
    · rw [hf] at hz
      have e : allL x n X (i + 1) = allL x n X i := by simp only [allL]; rw [← hz]; simp
      rw [e]
      simp only [go_sem]
      exact ⟨by rw [k1, wrap_in (by unfold inR; omega)]; omega, fun q hq => fitL_clean rfl, by simp [goodNames, asg]⟩
    · have e : i = n := by omega
      subst e
      exact newN rfl (Nat.zero_le _) fun j hj => ⟨rfl, ls_clean⟩
  · cases hF
def FN93 : List AV → Option (List Prop × (Nat → AV) × (Nat → Option Fam))
  | [.rop [.ro n 1 g, .ro m 1 h]] => some ([m = n, 0 < n, n ≤ 64, ints n g, bools n h], fun k => .own k 0 (rtL n (gx g 0) (fun i => gz (h i)) n).length 2, fun k => some (famN (rtL n (gx g 0) (fun i => gz (h i)) n).length 2 64 (lsF (rtL n (gx g 0) (fun i => gz (h i)) n)) none))
  | _ => none
noncomputable def mN93W : MCon := mcKU FN93
theorem mN93W_eq : mN93W = mcKU FN93 := (rfl)
theorem FN93_eq {n m : Nat} {g h : Nat → List AV} : FN93 [.rop [.ro n 1 g, .ro m 1 h]] = some ([m = n, 0 < n, n ≤ 64, ints n g, bools n h], fun k => .own k 0 (rtL n (gx g 0) (fun i => gz (h i)) n).length 2, fun k => some (famN (rtL n (gx g 0) (fun i => gz (h i)) n).length 2 64 (lsF (rtL n (gx g 0) (fun i => gz (h i)) n)) none)) := (rfl)
attribute [go_sem] mN93W_eq FN93_eq
theorem mon93W : MConOK Tryz.prog 93 mN93W := MConOK.mkU (G := [(95, k95), (96, k96)]) (H := []) (.cons con95 (.cons con96 .nil)) Tryz.func93 fun es ob v nw hF hob => by
  unfold FN93 at hF
  split at hF
  · rename_i n g m h
    cases hF
    have hm : m = n := hob _ (by simp)
    subst hm
    have h2 : 0 < m := hob _ (by simp)
    have h3 : m ≤ 64 := hob _ (by simp)
    have h4 : ints m g := hob _ (by simp)
    have h5 : bools m h := hob _ (by simp)
    refine ⟨[rtR m (gx g 0) fun i => gz (h i)], fun w I vs hR => ?_, by simp [clean], by kernel_rfl, fun key => bodyM_go (rs := [.tmp 2]) rfl rfl ?_⟩
    · obtain ⟨y, ys, rfl, k1, k2⟩ := hR.inv
      exact .cons (R_rslots h4 h5 k1) k2
    generalize gx g 0 = X
    generalize (fun i => gz (h i)) = T
    simp only [go_sem, k95, k96]
    refine loopN_go (fun (i : Nat) => i ≤ m) (fun i => m - i) (fun i => [(4, i64 i), (3, .own 3 0 (rtL m X T i).length 2)]) (fun i => [(3, famN (rtL m X T i).length 2 64 (lsF (rtL m X T i)) none)]) [] [7, 8, 9, 10, 14, 15, 16, 13, 17, 18, 5, 6, 19, 20, 21, 22, 23, 3, 11, 12, 4] 1 0 (by kernel_rfl) (Nat.zero_le _) ⟨[(3, none)], ?_, ?_, ?_, ?_⟩ ?_
    · simp only [go_sem]; simp [rtL]
    · simp only [go_sem]; simp [rtL]
    · simp only [go_sem]
    · simp [goodNames, asg]
    intro i hi
    simp only [go_sem, k95, k96, F95, F96, h2, h3]
    have hle := rtL_le (n := m) (X := X) (T := T) i
    intro zz hzz
    subst hzz
    have eT : (fun i => T i) = T := rfl
    rw [eT]
    refine ⟨fun h z hz => ⟨fun ht => ⟨?_, by omega, fun z1 k1 => ⟨i + 1, by omega, by omega, [(3, some 21)], ?_⟩⟩, fun hf z1 k1 => ⟨i + 1, by omega, by omega, [(3, some 3)], ?_⟩⟩, fun h => ?_⟩
    · have hb : bytesT Tryz.prog 64 = 16 := by kernel_rfl
      rw [hb]; omega
    · rw [ht] at hz
      have e : rtL m X T (i + 1) = rtL m X T i ++ [((i : Int), X i)] := by simp only [rtL]; rw [← hz]; rfl
      rw [e, List.length_append, List.length_singleton, if_pos hz.symm, if_pos hz.symm]
      simp only [go_sem]
      refine ⟨by rw [k1, wrap_in (by unfold inR; omega)]; omega, fun q hq => ?_, by simp [goodNames, asg]⟩
      rw [lsF_push hq]
      exact fitL_clean rfl
    · rw [hf] at hz
      have e : rtL m X T (i + 1) = rtL m X T i := by simp only [rtL]; rw [← hz]; simp
      rw [e]
      simp only [go_sem]
      exact ⟨by rw [k1, wrap_in (by unfold inR; omega)]; omega, fun q hq => fitL_clean rfl, by simp [goodNames, asg]⟩
    · have e : i = m := by omega
      subst e
      exact newN rfl (Nat.zero_le _) fun j hj => ⟨rfl, ls_clean⟩
  · cases hF
end Go.Ax
end

section
/-
  What the laws' tables go through: the plain law.
-/
set_option linter.unusedVariables false
set_option linter.unusedSimpArgs false
set_option maxHeartbeats 4000000
set_option maxRecDepth 100000
namespace Go.Ax
open Go.Proofs
/-- A table to which something was done. -/
structure TdS where
  s : SlS
  live : List (Int × Int)
  given : List (Int × Int)
def tdStep (n : Nat) (t : TdS) (k : Nat) : TdS :=
  if k % 3 = 2 ∧ t.live ≠ [] then
    let i := k / 3 % t.live.length
    ⟨frS t.s (t.live.getD i (0, 0)).1 (t.live.getD i (0, 0)).2, t.live.eraseIdx i, t.given⟩
  else if t.live.length = n then t
  else ⟨tkS t.s, t.live ++ [tkH t.s], t.given ++ [tkH t.s]⟩
/-- What holds of it, at most r handles having been given. -/
structure TdI (n r : Nat) (t : TdS) : Prop where
  sn : t.s.n = n
  n1 : 1 ≤ n ∧ n ≤ 64
  x0 : 0 ≤ t.s.x ∧ t.s.x < 18446744073709551616
  hi : ∀ j, n ≤ j → t.s.x.toNat.testBit j = false
  cnt : t.live.length = cntB t.s.x.toNat.testBit n
  liv : ∀ h ∈ t.live, ∃ i : Nat, i < n ∧ h = ((i : Int), t.s.G i) ∧ t.s.x.toNat.testBit i = true
  nod : t.live.Pairwise fun a b => a.1 ≠ b.1
  has : ∀ i, i < n → t.s.x.toNat.testBit i = true → ((i : Int), t.s.G i) ∈ t.live
  giv : ∀ h ∈ t.given, ∃ i : Nat, i < n ∧ h.1 = i ∧ 1 ≤ h.2 ∧ h.2 ≤ t.s.G i
  gen : ∀ i, i < n → 0 ≤ t.s.G i ∧ t.s.G i ≤ r
  sub : ∀ h ∈ t.live, h ∈ t.given
  gl : t.given.length ≤ r
theorem cntB_full {T : Nat → Bool} : ∀ {n : Nat}, cntB T n = n ↔ ∀ i, i < n → T i = true
  | 0 => by simp [cntB]
  | n + 1 => by
    have h1 := cntB_le (T := T) n
    have ih := cntB_full (T := T) (n := n)
    simp only [cntB]
    constructor
    · intro h i hi
      have h2 : T n = true := by
        by_cases h3 : T n = true
        · exact h3
        · rw [if_neg h3] at h; omega
      rw [if_pos h2] at h
      by_cases e : i = n
      · rw [e]; exact h2
      · exact ih.1 (by omega) i (by omega)
    · intro h
      rw [if_pos (h n (by omega)), ih.2 fun i hi => h i (by omega)]
theorem cntB_add1 {T T' : Nat → Bool} {k : Nat} : ∀ {n : Nat}, k < n → T k = false → T' k = true → (∀ j, j ≠ k → T' j = T j) → cntB T' n = cntB T n + 1
  | 0, h, _, _, _ => by omega
  | n + 1, h, h1, h2, h3 => by
    simp only [cntB]
    by_cases e : k = n
    · subst e
      rw [if_pos h2, if_neg (by rw [h1]; decide), cntB_congr fun i hi => h3 i (by omega)]
    · rw [cntB_add1 (by omega) h1 h2 h3, h3 n (fun e2 => e e2.symm)]
      omega
theorem TdI.full {n r : Nat} {t : TdS} (h : TdI n r t) (hr : r < 2147483647) : t.live.length = n ↔ tkI t.s = n := by
  have hn := h.sn
  rw [h.cnt, cntB_full]
  constructor
  · intro h1
    unfold tkI
    rw [hn]
    exact lst_full fun j hj => by unfold mayT; rw [h1 j hj]; rfl
  · intro h1 i hi
    by_cases h2 : t.s.x.toNat.testBit i = true
    · exact h2
    · exfalso
      have h3 := h.gen i hi
      have h4 : mayT t.s.x t.s.G i = true := by
        unfold mayT
        have : t.s.x.toNat.testBit i = false := by simpa using h2
        rw [this, decide_eq_true (by omega)]; rfl
      unfold tkI at h1
      rw [hn] at h1
      have h5 := lst_no (p := mayT t.s.x t.s.G) (n := n) (i := i) (by omega)
      rw [h4] at h5
      cases h5
theorem TdI.slOK {n r : Nat} {t : TdS} (h : TdI n r t) : slOK t.s := ⟨h.x0, by rw [h.sn]; exact ⟨by have := h.n1.1; omega, h.n1.2⟩, fun i hi => (h.gen i (by rw [h.sn] at hi; exact hi)).1⟩
theorem setX_bit {x : Int} {i j : Nat} : (setX x (i : Int)).toNat.testBit j = (x.toNat.testBit j || decide (j = i)) := by
  unfold setX
  rw [Int.toNat_natCast, Int.toNat_natCast, setN_bit]
theorem TdI.take {n r : Nat} {t : TdS} (h : TdI n r t) (hr : r < 2147483647) (hl : t.live.length ≠ n) : TdI n (r + 1) ⟨tkS t.s, t.live ++ [tkH t.s], t.given ++ [tkH t.s]⟩ ∧ tkE t.s = 0 ∧ tkH t.s ∉ t.given := by
  have hn := h.sn
  have hne : tkI t.s ≠ n := fun e => hl ((h.full hr).2 e)
  have hle : tkI t.s ≤ n := by unfold tkI; rw [hn]; exact lst_le n
  have hlt : tkI t.s < t.s.n := by rw [hn]; omega
  have hm : mayT t.s.x t.s.G (tkI t.s) = true := lst_yes (p := mayT t.s.x t.s.G) (n := t.s.n) hlt
  have hS : tkS t.s = ⟨setX t.s.x (tkI t.s : Nat), t.s.n, upI t.s.G (tkI t.s) (t.s.G (tkI t.s) + 1), t.s.tl⟩ := by unfold tkS; rw [if_pos hlt]
  have hH : tkH t.s = ((tkI t.s : Int), t.s.G (tkI t.s) + 1) := by unfold tkH; rw [if_pos hlt]
  have hE : tkE t.s = 0 := by unfold tkE; rw [if_pos hlt]
  rw [hn] at hlt
  have hb : t.s.x.toNat.testBit (tkI t.s) = false := by
    unfold mayT at hm
    rw [Bool.and_eq_true] at hm
    simpa using hm.1
  generalize tkI t.s = i at *
  have hgi := h.gen i hlt
  have hn1 := h.n1
  refine ⟨?_, hE, fun hg => ?_⟩
  · rw [hS, hH]
    refine ⟨hn, hn1, ⟨?_, ?_⟩, fun j hj => ?_, ?_, fun z hz => ?_, ?_, fun j hj hb2 => ?_, fun z hz => ?_, fun j hj => ?_, fun z hz => ?_, by rw [List.length_append, List.length_singleton]; have := h.gl; omega⟩
    · show (0 : Int) ≤ setX _ _
      unfold setX; omega
    · show setX _ _ < _
      unfold setX
      rw [Int.toNat_natCast]
      have := h.x0
      have := setN_lt (a := t.s.x.toNat) (k := i) (by omega) (by omega)
      omega
    · show (setX _ _).toNat.testBit j = false
      rw [setX_bit, h.hi j hj, decide_eq_false (by omega)]; rfl
    · show (t.live ++ [_]).length = cntB (setX _ _).toNat.testBit n
      rw [List.length_append, List.length_singleton, h.cnt]
      exact (cntB_add1 hlt hb (by rw [setX_bit, decide_eq_true rfl, Bool.or_true]) fun j hj => by rw [setX_bit, decide_eq_false hj, Bool.or_false]).symm
    · rcases List.mem_append.1 hz with hz | hz
      · obtain ⟨j, h1, h2, h3⟩ := h.liv z hz
        have hji : j ≠ i := fun e => by rw [e, hb] at h3; cases h3
        exact ⟨j, h1, by show z = ((j : Int), upI _ _ _ j); unfold upI; rw [if_neg hji]; exact h2, by show (setX _ _).toNat.testBit j = true; rw [setX_bit, h3]; rfl⟩
      · simp only [List.mem_cons, List.not_mem_nil, or_false] at hz
        exact ⟨i, hlt, by show z = ((i : Int), upI _ _ _ i); unfold upI; rw [if_pos rfl]; exact hz, by show (setX _ _).toNat.testBit i = true; rw [setX_bit, decide_eq_true rfl, Bool.or_true]⟩
    · refine List.pairwise_append.2 ⟨h.nod, List.pairwise_singleton _ _, fun a ha b hb2 => ?_⟩
      simp only [List.mem_cons, List.not_mem_nil, or_false] at hb2
      obtain ⟨j, h1, h2, h3⟩ := h.liv a ha
      rw [hb2, h2]
      intro e
      have e : (j : Int) = i := e
      have : j = i := by omega
      rw [this, hb] at h3; cases h3
    · have hb2 : (setX t.s.x (i : Int)).toNat.testBit j = true := hb2
      rw [setX_bit] at hb2
      show ((j : Int), upI _ _ _ j) ∈ _
      unfold upI
      by_cases e : j = i
      · rw [if_pos e, e]; simp
      · rw [if_neg e]
        rw [decide_eq_false e, Bool.or_false] at hb2
        exact List.mem_append_left _ (h.has j hj hb2)
    · rcases List.mem_append.1 hz with hz | hz
      · obtain ⟨j, h1, h2, h3, h4⟩ := h.giv z hz
        refine ⟨j, h1, h2, h3, ?_⟩
        show z.2 ≤ upI _ _ _ j
        unfold upI
        split
        · rename_i e; rw [e] at h4; omega
        · exact h4
      · simp only [List.mem_cons, List.not_mem_nil, or_false] at hz
        refine ⟨i, hlt, by rw [hz], by rw [hz]; show (1 : Int) ≤ _ + 1; omega, ?_⟩
        show z.2 ≤ upI _ _ _ i
        unfold upI
        rw [if_pos rfl, hz]
        exact Int.le_refl _
    · show 0 ≤ upI _ _ _ j ∧ upI _ _ _ j ≤ _
      unfold upI
      have := h.gen j hj
      split <;> omega
    · rcases List.mem_append.1 hz with hz | hz
      · exact List.mem_append_left _ (h.sub z hz)
      · exact List.mem_append_right _ hz
  · rw [hH] at hg
    obtain ⟨j, h1, h2, h3, h4⟩ := h.giv _ hg
    have h2 : (i : Int) = j := h2
    have h4 : t.s.G i + 1 ≤ t.s.G j := h4
    have : i = j := by omega
    rw [this] at h4
    omega
theorem clrX_bit {x : Int} {i j : Nat} (hi : i < 64) (hx : 0 ≤ x ∧ x < 18446744073709551616) : (clrX x (i : Int)).toNat.testBit j = (x.toNat.testBit j && decide (j ≠ i)) := by
  unfold clrX
  rw [Int.toNat_natCast, Int.toNat_natCast]
  by_cases hj : j < 64
  · exact clrN_bit hi hj
  · have h1 : x.toNat.testBit j = false := Nat.testBit_lt_two_pow (Nat.lt_of_lt_of_le (show x.toNat < 2 ^ 64 by omega) (Nat.pow_le_pow_right (by omega) (by omega)))
    rw [h1, clrN_hi h1]; rfl
theorem TdI.free {n r : Nat} {t : TdS} (h : TdI n r t) {k : Nat} (hk : k < t.live.length) : TdI n r ⟨frS t.s (t.live.getD k (0, 0)).1 (t.live.getD k (0, 0)).2, t.live.eraseIdx k, t.given⟩ ∧ hasI t.s (t.live.getD k (0, 0)).1 (t.live.getD k (0, 0)).2 = true := by
  have hz : t.live[k]? = some (t.live.getD k (0, 0)) := by rw [List.getD_eq_getElem?_getD, List.getElem?_eq_getElem hk]; rfl
  obtain ⟨i, h1, h2, h3⟩ := h.liv _ (List.mem_of_getElem? hz)
  rw [h2] at hz ⊢
  have hn := h.sn
  have hn1 := h.n1
  have hhas : hasI t.s i (t.s.G i) = true := by
    unfold hasI atOk
    rw [hn, Int.toNat_natCast, h3, decide_eq_true (by omega)]
    simp
  refine ⟨?_, hhas⟩
  have hS : frS t.s i (t.s.G i) = ⟨clrX t.s.x i, t.s.n, t.s.G, t.s.tl⟩ := by unfold frS; rw [if_pos hhas]
  show TdI n r ⟨frS t.s (i : Int) (t.s.G i), _, _⟩
  rw [hS]
  have hbit : ∀ j, (clrX t.s.x (i : Int)).toNat.testBit j = (t.s.x.toNat.testBit j && decide (j ≠ i)) := fun j => clrX_bit (by omega) h.x0
  have hmem : ∀ z, z ∈ t.live.eraseIdx k → z ∈ t.live ∧ z.1 ≠ i := fun z hz2 => by
    obtain ⟨q, hq, hq2⟩ := List.mem_eraseIdx_iff_getElem?.1 hz2
    refine ⟨List.mem_of_getElem? hq2, fun e => ?_⟩
    have hp := List.pairwise_iff_getElem.1 h.nod
    obtain ⟨q1, q2⟩ := List.getElem?_eq_some_iff.1 hq2
    obtain ⟨k1, k2⟩ := List.getElem?_eq_some_iff.1 hz
    rcases Nat.lt_or_gt_of_ne hq with h5 | h5
    · have := hp q k q1 k1 h5
      rw [q2, k2] at this
      exact this e
    · have := hp k q k1 q1 h5
      rw [q2, k2] at this
      exact this e.symm
  have hback : ∀ z, z ∈ t.live → z.1 ≠ i → z ∈ t.live.eraseIdx k := fun z hz2 hne => by
    obtain ⟨q, hq⟩ := List.mem_iff_getElem?.1 hz2
    refine List.mem_eraseIdx_iff_getElem?.2 ⟨q, fun e => ?_, hq⟩
    rw [e, hz] at hq
    cases hq
    exact hne rfl
  refine ⟨hn, hn1, ⟨?_, ?_⟩, fun j hj => ?_, ?_, fun z hz2 => ?_, ?_, fun j hj hb2 => ?_, h.giv, h.gen, fun z hz2 => h.sub z (hmem z hz2).1, h.gl⟩
  · show (0 : Int) ≤ clrX _ _
    unfold clrX; omega
  · show clrX _ _ < _
    unfold clrX
    have := h.x0
    have := clrN_lt (a := t.s.x.toNat) (k := 2 ^ (i : Int).toNat) (by omega)
    omega
  · show (clrX _ _).toNat.testBit j = false
    rw [hbit, h.hi j hj]; rfl
  · show (t.live.eraseIdx k).length = cntB (clrX _ _).toNat.testBit n
    have h4 := cntB_add1 (T := (clrX t.s.x (i : Int)).toNat.testBit) (T' := t.s.x.toNat.testBit) h1 (by rw [hbit]; simp) h3 (fun j hj => by rw [hbit, decide_eq_true hj, Bool.and_true])
    rw [List.length_eraseIdx_of_lt hk, h.cnt, h4]
    rfl
  · obtain ⟨m1, m2⟩ := hmem z hz2
    obtain ⟨j, j1, j2, j3⟩ := h.liv z m1
    refine ⟨j, j1, j2, ?_⟩
    show (clrX _ _).toNat.testBit j = true
    rw [hbit, j3, decide_eq_true (by rintro rfl; exact m2 (by rw [j2]))]
    rfl
  · exact h.nod.sublist (List.eraseIdx_sublist _ _)
  · have hb2 : (clrX t.s.x (i : Int)).toNat.testBit j = true := hb2
    rw [hbit, Bool.and_eq_true, decide_eq_true_iff] at hb2
    exact hback _ (h.has j hj hb2.1) (by show (j : Int) ≠ i; omega)
theorem TdI.more {n r : Nat} {t : TdS} (h : TdI n r t) : TdI n (r + 1) t := ⟨h.sn, h.n1, h.x0, h.hi, h.cnt, h.liv, h.nod, h.has, h.giv, fun i hi => by have := h.gen i hi; omega, h.sub, Nat.le_succ_of_le h.gl⟩
theorem TdI.step {n r : Nat} {t : TdS} (h : TdI n r t) (hr : r < 2147483647) (k : Nat) : TdI n (r + 1) (tdStep n t k) := by
  unfold tdStep
  split
  · rename_i hc
    have hl : 0 < t.live.length := List.length_pos_iff.2 hc.2
    exact (h.free (Nat.mod_lt _ hl)).1.more
  · split
    · exact h.more
    · rename_i hl
      exact (h.take hr hl).1
def td0 (n : Nat) : TdS := ⟨⟨0, n, fun _ => 0, noRows⟩, [], []⟩
theorem cntB_zero {n : Nat} : cntB (Int.toNat 0).testBit n = 0 := by
  induction n with
  | zero => rfl
  | succ n ih => simp only [cntB, ih]; simp
theorem TdI.init {n : Nat} (h : 1 ≤ n ∧ n ≤ 64) : TdI n 0 (td0 n) := by
  refine ⟨rfl, h, ⟨Int.le_refl 0, by show (0 : Int) < _; omega⟩, fun j _ => ?_, ?_, fun z hz => (by cases hz), List.Pairwise.nil, fun i _ hb => ?_, fun z hz => (by cases hz), fun i _ => ⟨Int.le_refl 0, Int.le_refl 0⟩, fun z hz => (by cases hz), Nat.le_refl 0⟩
  · show (Int.toNat 0).testBit j = false
    simp
  · exact cntB_zero.symm
  · have hb : (Int.toNat 0).testBit i = true := hb
    simp at hb
def tdRun (n : Nat) (ks : List Nat) : TdS := ks.foldl (tdStep n) (td0 n)
theorem TdI.run {n : Nat} (h : 1 ≤ n ∧ n ≤ 64) (ks : List Nat) : ks.length < 2147483647 → TdI n ks.length (tdRun n ks) := by
  have main : ∀ (ks : List Nat) (r : Nat) (t : TdS), TdI n r t → r + ks.length < 2147483647 → TdI n (r + ks.length) (ks.foldl (tdStep n) t) := fun ks => by
    induction ks with
    | nil => exact fun r t ht _ => ht
    | cons k ks ih =>
      intro r t ht hr
      rw [List.length_cons] at hr ⊢
      have := ih (r + 1) _ (ht.step (by omega) k) (by omega)
      rw [show r + (ks.length + 1) = r + 1 + ks.length by omega]
      exact this
  intro hl
  have := main ks 0 (td0 n) (.init h) (by omega)
  rw [Nat.zero_add] at this
  exact this
end Go.Ax
end

section
/-
  The box of several boxes.
-/
set_option linter.unusedVariables false
set_option linter.unusedSimpArgs false
set_option maxHeartbeats 1000000
set_option maxRecDepth 100000
namespace Go.Ax
open Go.Proofs
def boxes (n : Nat) (g : Nat → List AV) : Prop := ∀ i, i < n → g i = [i64 (gx g 0 i), i64 (gx g 1 i), i64 (gx g 2 i), i64 (gx g 3 i)] ∧ inR (gx g 0 i) ∧ inR (gx g 1 i) ∧ inR (gx g 2 i) ∧ inR (gx g 3 i)
def mnS (A : Nat → Int) : Nat → Int
  | 0 => 0
  | i + 1 => if i = 0 then A 0 else min (mnS A i) (A i)
def mxS (A : Nat → Int) : Nat → Int
  | 0 => 0
  | i + 1 => if i = 0 then A 0 else max (mxS A i) (A i)
def okB (n : Nat) (A B C D : Nat → Int) : Prop := ∀ i, i < n → checkBoxS (A i) (B i) (C i) (D i) = 0
instance {n : Nat} {A B C D : Nat → Int} : Decidable (okB n A B C D) := by unfold okB; exact inferInstance
def joinS (n : Nat) (A B C D : Nat → Int) (k : Nat) : Int := if okB n A B C D then (match k with
  | 0 => mnS A n
  | 1 => mnS B n
  | 2 => mxS C n
  | _ => mxS D n) else 0
def c117 : Con
  | [.ro n 4 g] => some ([boxes n g, n ≤ 9223372036854775807], .agg [i64 (joinS n (gx g 0) (gx g 1) (gx g 2) (gx g 3) 0), i64 (joinS n (gx g 0) (gx g 1) (gx g 2) (gx g 3) 1), i64 (joinS n (gx g 0) (gx g 1) (gx g 2) (gx g 3) 2), i64 (joinS n (gx g 0) (gx g 1) (gx g 2) (gx g 3) 3)])
  | _ => none
theorem joinS_ok {n : Nat} {A B C D : Nat → Int} (h : okB n A B C D) : joinS n A B C D 0 = mnS A n ∧ joinS n A B C D 1 = mnS B n ∧ joinS n A B C D 2 = mxS C n ∧ joinS n A B C D 3 = mxS D n := by
  unfold joinS; rw [if_pos h, if_pos h, if_pos h, if_pos h]; exact ⟨rfl, rfl, rfl, rfl⟩
theorem joinS_no {n : Nat} {A B C D : Nat → Int} (h : ¬ okB n A B C D) {k : Nat} : joinS n A B C D k = 0 := by
  simp only [joinS, if_neg h]
theorem okB_succ {i : Nat} {A B C D : Nat → Int} (h : okB i A B C D) (h0 : checkBoxS (A i) (B i) (C i) (D i) = 0) : okB (i + 1) A B C D := fun k hk => by
  by_cases e : k = i
  · subst e; exact h0
  · exact h k (by omega)
theorem vc117 (n : Nat) (A B C D : Nat → Int) (hX : ∀ i, i < n → inR (A i) ∧ inR (B i) ∧ inR (C i) ∧ inR (D i)) (hn : n ≤ 9223372036854775807) : fnVC Tryz.prog [(64, c64)] [(9, ⟨[(11, .slot 3), (13, .slot 3)], [(8, [.slot 3])]⟩), (10, ⟨[(11, .slot 3), (13, .slot 3)], [(8, [.slot 3])]⟩)] Tryz.f117 [.ro n 4 fun i => [i64 (A i), i64 (B i), i64 (C i), i64 (D i)]] (· = .agg [i64 (joinS n A B C D 0), i64 (joinS n A B C D 1), i64 (joinS n A B C D 2), i64 (joinS n A B C D 3)]) := by
  refine fnVC_go (rs := [.cell 2 32]) rfl rfl ?_
  simp only [go_sem]
  refine loopC_go (fun (i : Nat) => i ≤ n ∧ okB i A B C D) (fun i => n - i) (fun i => [(8, i64 i)]) (fun i => [(1, fam1 32 4 [i64 (mnS A i), i64 (mnS B i), i64 (mxS C i), i64 (mxS D i)] none)]) [0] [9, 10, 11, 12, 5, 4, 13, 14, 15, 16, 17, 18, 19, 20, 21, 22, 23, 24, 25, 26, 27, 28, 29, 30, 31, 32, 33, 34, 35, 36, 37, 38, 39, 40, 41, 42, 43, 44, 8] 0 (by kernel_rfl) ?_ ?_ ?_ ?_
  · intro x _; simp [goodNames, asg]
  · simp [okB]
  · simp only [go_sem]; simp [mnS, mxS]
  · intro i hi
    simp only [go_sem, c64]
    obtain ⟨hi1, hi2⟩ := hi
    refine ⟨fun h => ?_, fun h => ?_⟩
    · have h1 : i < n := by omega
      obtain ⟨r1, r2, r3, r4⟩ := hX i h1
      refine ⟨by omega, h, fun z hz => ⟨r1, r2, r3, r4, fun hb => ?_, fun hb => ?_⟩⟩
      · have hno : ¬ okB n A B C D := fun hf => by
          have := hf i h1
          rw [← hz] at this
          simp [this] at hb
        simp only [joinS_no hno]
      · have hz0 : checkBoxS (A i) (B i) (C i) (D i) = 0 := by rw [← hz]; simpa using hb
        have hok := okB_succ hi2 hz0
        refine ⟨fun h0 z hz' z1 k1 z2 k2 z3 k3 z4 k4 => ⟨i + 1, ⟨by omega, hok⟩, by omega, by rw [wrap_i64] at k4; omega, ?_⟩, fun h0 z hz' z1 k1 z2 k2 z3 k3 z4 k4 => ⟨i + 1, ⟨by omega, hok⟩, by omega, by rw [wrap_i64] at k4; omega, ?_⟩⟩
        · have e : i = 0 := by simpa using h0
          subst e
          simp only [mnS, mxS, if_true]
          omega
        · have e : ¬ i = 0 := by simpa using h0
          simp only [mnS, mxS, if_neg e]
          exact ⟨hz', k1, k2, k3⟩
    · have e : i = n := by omega
      subst e
      obtain ⟨j1, j2, j3, j4⟩ := joinS_ok hi2
      rw [j1, j2, j3, j4]
theorem vc126 (n : Nat) (A B C D : Nat → Int) (hX : ∀ i, i < n → inR (A i) ∧ inR (B i) ∧ inR (C i) ∧ inR (D i)) (hn : n ≤ 9223372036854775807) : fnVC Tryz.prog [(103, c103)] [(9, ⟨[(33, .slot 3)], []⟩)] Tryz.f126 [.ro n 4 fun i => [i64 (A i), i64 (B i), i64 (C i), i64 (D i)]] (· = .agg [i64 (joinS n A B C D 0), i64 (joinS n A B C D 1), i64 (joinS n A B C D 2), i64 (joinS n A B C D 3)]) := by
  refine fnVC_go (rs := [.cell 2 32]) rfl rfl ?_
  simp only [go_sem]
  refine loopC_go (fun (i : Nat) => i ≤ n ∧ okB i A B C D) (fun i => n - i) (fun i => [(4, i64 i)]) (fun i => [(2, fam1 32 4 [i64 (mnS A i), i64 (mnS B i), i64 (mxS C i), i64 (mxS D i)] none)]) [0] [6, 7, 8, 9, 12, 13, 14, 15, 16, 17, 18, 19, 20, 21, 22, 23, 24, 25, 26, 27, 28, 29, 30, 31, 32, 33, 34, 35, 36, 37, 38, 39, 40, 41, 42, 43, 44, 45, 46, 47, 48, 49, 50, 51, 52, 53, 54, 55, 56, 10, 11, 4] 0 (by kernel_rfl) ?_ ?_ ?_ ?_
  · intro x _; simp [goodNames, asg]
  · simp [okB]
  · simp only [go_sem]; simp [mnS, mxS]
  · intro i hi
    simp only [go_sem, c103]
    obtain ⟨hi1, hi2⟩ := hi
    refine ⟨fun h => ?_, fun h => ?_⟩
    · have h1 : i < n := by omega
      refine ⟨by omega, h, fun z hz => ⟨fun hb => ?_, fun hb => ?_⟩⟩
      · have hno : ¬ okB n A B C D := fun hf => by
          have := hf i h1
          rw [← hz] at this
          simp [this] at hb
        simp only [joinS_no hno]
      · have hz0 : checkBoxS (A i) (B i) (C i) (D i) = 0 := by rw [← hz]; simpa using hb
        have hok := okB_succ hi2 hz0
        refine ⟨fun h0 => ⟨by omega, fun z4 k4 => ⟨i + 1, ⟨by omega, hok⟩, by omega, by rw [wrap_i64] at k4; omega, ?_⟩⟩, fun h0 => ⟨by omega, h, fun z hz' => ⟨by omega, h, fun z1 k1 => ⟨by omega, h, fun z2 k2 => ⟨by omega, h, fun z3 k3 z4 k4 => ⟨i + 1, ⟨by omega, hok⟩, by omega, by rw [wrap_i64] at k4; omega, ?_⟩⟩⟩⟩⟩⟩
        · have e : i = 0 := by simpa using h0
          subst e
          simp only [mnS, mxS, if_true, and_self]
        · have e : ¬ i = 0 := by simpa using h0
          simp only [mnS, mxS, if_neg e]
          exact ⟨hz', k1, k2, k3⟩
    · have e : i = n := by omega
      subst e
      obtain ⟨j1, j2, j3, j4⟩ := joinS_ok hi2
      rw [j1, j2, j3, j4]
theorem con117 : ConOK Tryz.prog 117 c117 := ConOK.go (G := [(64, c64)]) (H := [(9, ⟨[(11, .slot 3), (13, .slot 3)], [(8, [.slot 3])]⟩), (10, ⟨[(11, .slot 3), (13, .slot 3)], [(8, [.slot 3])]⟩)]) (.cons con64 .nil) Tryz.func117 fun l ob r hc hob => by
  unfold c117 at hc
  split at hc
  · rename_i n g
    cases hc
    have hs : boxes n g := hob _ (by simp)
    exact ⟨[.ro n 4 fun i => [i64 (gx g 0 i), i64 (gx g 1 i), i64 (gx g 2 i), i64 (gx g 3 i)]], fun w I vs h => Rs_one (fun v => ro_alike fun i hi => (hs i hi).1) h, by kernel_rfl, vc117 n _ _ _ _ (fun i hi => (hs i hi).2) (hob _ (by simp))⟩
  · cases hc
def c126 : Con := c117
theorem con126 : ConOK Tryz.prog 126 c126 := ConOK.go (G := [(103, c103)]) (H := [(9, ⟨[(33, .slot 3)], []⟩)]) (.cons con103 .nil) Tryz.func126 fun l ob r hc hob => by
  unfold c126 c117 at hc
  split at hc
  · rename_i n g
    cases hc
    have hs : boxes n g := hob _ (by simp)
    exact ⟨[.ro n 4 fun i => [i64 (gx g 0 i), i64 (gx g 1 i), i64 (gx g 2 i), i64 (gx g 3 i)]], fun w I vs h => Rs_one (fun v => ro_alike fun i hi => (hs i hi).1) h, by kernel_rfl, vc126 n _ _ _ _ (fun i hi => (hs i hi).2) (hob _ (by simp))⟩
  · cases hc

/-! ### Spots and boxes that numbers make -/
def cz32 : Con
  | [.v (.int .i64 x), .v (.int .i64 y), .v (.int .i64 s)] => some ([0 ≤ s, s ≤ 4611686018427387904], .agg [i64 (x.tmod (s + 1)), i64 (y.tmod (s + 1))])
  | _ => none
/-- A remainder that is not below 0. -/
def modS (n m : Int) : Int := if n.tmod m < 0 then n.tmod m + m else n.tmod m
def c16 : Con
  | [.v (.int .i64 n), .v (.int .i64 m)] => some ([0 < m, inR n, inR m], i64 (modS n m))
  | _ => none
theorem con16 : ConOK Tryz.prog 16 c16 := ConOK.of (G := []) (H := []) .nil Tryz.func16 fun l ob r hc hob => by
  unfold c16 at hc
  split at hc
  · rename_i n m
    cases hc
    refine ⟨by kernel_rfl, fnVC_go (rs := [.tmp 4]) rfl rfl ?_⟩
    have h0 : 0 < m := hob _ (by simp)
    have h1 : inR n := hob _ (by simp)
    have h2 : inR m := hob _ (by simp)
    simp only [go_sem]
    refine ⟨by omega, fun z hz => ⟨fun hn z1 k1 => ?_, fun hn => ?_⟩⟩
    · have hb : -m < z := by rw [hz]; have := Int.lt_tmod_of_pos n h0; omega
      unfold inR at h2
      rw [wrap_in (by unfold inR; omega)] at k1
      unfold modS
      rw [← hz, if_pos hn, k1]
    · unfold modS
      rw [← hz, if_neg hn]
  · cases hc

/-! ### Sides -/
theorem mul_bd {x y A B : Int} (hA : 0 ≤ A) (hx : -A ≤ x ∧ x ≤ A) (hy : -B ≤ y ∧ y ≤ B) : -(A * B) ≤ x * y ∧ x * y ≤ A * B := by
  have h1 : (x * y).natAbs = x.natAbs * y.natAbs := Int.natAbs_mul x y
  have h2 : x.natAbs * y.natAbs ≤ A.natAbs * B.natAbs := Nat.mul_le_mul (by omega) (by omega)
  have h3 : (A * B).natAbs = A.natAbs * B.natAbs := Int.natAbs_mul A B
  have h4 : 0 ≤ A * B := Int.mul_nonneg hA (by omega)
  omega
/-- An even smaller number. -/
def sm (x : Int) : Prop := -4194304 ≤ x ∧ x ≤ 4194304
theorem sm_mul {x y : Int} (hx : sm x) (hy : sm y) : -17592186044416 ≤ x * y ∧ x * y ≤ 17592186044416 := by
  have := mul_bd (A := 4194304) (B := 4194304) (by omega) hx hy
  omega
def c151 : Con
  | [.agg [.v (.int .i64 a), .v (.int .i64 b)], .agg [.v (.int .i64 c), .v (.int .i64 d)]] => some ([], .agg [i64 (IntKind.i64.wrap (c - a)), i64 (IntKind.i64.wrap (d - b))])
  | _ => none
theorem con151 : ConOK Tryz.prog 151 c151 := ConOK.of (G := []) (H := []) .nil Tryz.func151 fun l ob r hc hob => by
  unfold c151 at hc
  split at hc
  · cases hc
    refine ⟨by kernel_rfl, fnVC_go (rs := [.cell 4 42]) rfl rfl ?_⟩
    simp only [go_sem]
    intro z h z1 h1
    subst h h1
    rfl
  · cases hc
def c153 : Con
  | [.agg [.v (.int .i64 a), .v (.int .i64 b)], .agg [.v (.int .i64 c), .v (.int .i64 d)]] => some ([], .agg [i64 (IntKind.i64.wrap (a - c)), i64 (IntKind.i64.wrap (b - d))])
  | _ => none
theorem con153 : ConOK Tryz.prog 153 c153 := ConOK.of (G := []) (H := []) .nil Tryz.func153 fun l ob r hc hob => by
  unfold c153 at hc
  split at hc
  · cases hc
    refine ⟨by kernel_rfl, fnVC_go (rs := [.cell 4 42]) rfl rfl ?_⟩
    simp only [go_sem]
    intro z h z1 h1
    subst h h1
    rfl
  · cases hc
def c150 : Con
  | [.agg [.v (.int .i64 a), .v (.int .i64 b)], .agg [.v (.int .i64 c), .v (.int .i64 d)]] => some ([], i64 (IntKind.i64.wrap (IntKind.i64.wrap (a * d) - IntKind.i64.wrap (b * c))))
  | _ => none
theorem con150 : ConOK Tryz.prog 150 c150 := ConOK.of (G := []) (H := []) .nil Tryz.func150 fun l ob r hc hob => by
  unfold c150 at hc
  split at hc
  · cases hc
    refine ⟨by kernel_rfl, fnVC_go (rs := [.tmp 4]) rfl rfl ?_⟩
    simp only [go_sem]
    intro z h z1 h1 z2 h2
    rw [h2, h1, h]
  · cases hc
theorem con152 : ConOK Tryz.prog 152 c150 := ConOK.of (G := []) (H := []) .nil Tryz.func152 fun l ob r hc hob => by
  unfold c150 at hc
  split at hc
  · cases hc
    refine ⟨by kernel_rfl, fnVC_go (rs := [.tmp 4]) rfl rfl ?_⟩
    simp only [go_sem]
    intro z h z1 h1 z2 h2
    rw [h2, h1, h]
  · cases hc
/-- (b - a) x (c - a). -/
def turnS (ax ay bx byy cx cy : Int) : Int := (bx - ax) * (cy - ay) - (byy - ay) * (cx - ax)
theorem turn_wrap {ax ay bx byy cx cy : Int} (ha : validS ax ay = true) (hb : validS bx byy = true) (hc : validS cx cy = true) :
    IntKind.i64.wrap (IntKind.i64.wrap (IntKind.i64.wrap (bx - ax) * IntKind.i64.wrap (cy - ay)) - IntKind.i64.wrap (IntKind.i64.wrap (byy - ay) * IntKind.i64.wrap (cx - ax))) = turnS ax ay bx byy cx cy := by
  rw [validS_iff] at ha hb hc
  rw [wrap_in (x := bx - ax) (by unfold inR; omega), wrap_in (x := cy - ay) (by unfold inR; omega), wrap_in (x := byy - ay) (by unfold inR; omega), wrap_in (x := cx - ax) (by unfold inR; omega)]
  have h1 := sm_mul (x := bx - ax) (y := cy - ay) (by unfold sm; omega) (by unfold sm; omega)
  have h2 := sm_mul (x := byy - ay) (y := cx - ax) (by unfold sm; omega) (by unfold sm; omega)
  rw [wrap_in (x := (bx - ax) * (cy - ay)) (by unfold inR; omega), wrap_in (x := (byy - ay) * (cx - ax)) (by unfold inR; omega), wrap_in (by unfold inR; omega)]
  rfl
def c119 : Con
  | [.agg [.v (.int .i64 a), .v (.int .i64 b)], .agg [.v (.int .i64 c), .v (.int .i64 d)], .agg [.v (.int .i64 e), .v (.int .i64 f)]] => some ([validS a b = true, validS c d = true, validS e f = true], i64 (turnS a b c d e f))
  | _ => none
theorem con119 : ConOK Tryz.prog 119 c119 := ConOK.of (G := [(150, c150), (151, c151)]) (H := []) (.cons con150 (.cons con151 .nil)) Tryz.func119 fun l ob r hc hob => by
  unfold c119 at hc
  split at hc
  · rename_i a b c d e f
    cases hc
    have h1 : validS a b = true := hob _ (by simp)
    have h2 : validS c d = true := hob _ (by simp)
    have h3 : validS e f = true := hob _ (by simp)
    refine ⟨by kernel_rfl, fnVC_go (rs := [.tmp 6]) rfl rfl ?_⟩
    simp only [go_sem, c150, c151]
    intro z k z1 k1 z2 k2 z3 k3 z4 k4
    subst k k1 k2 k3
    rw [k4, turn_wrap h1 h2 h3]
  · cases hc
def sideS (a b c d e f : Int) : Int := if validS a b = true ∧ validS c d = true ∧ validS e f = true then (if 0 < turnS a b c d e f then 1 else if turnS a b c d e f < 0 then -1 else 0) else 0
def cz56 : Con
  | [.agg [.v (.int .i64 a), .v (.int .i64 b)], .agg [.v (.int .i64 c), .v (.int .i64 d)], .agg [.v (.int .i64 e), .v (.int .i64 f)]] => some ([inR a, inR b, inR c, inR d, inR e, inR f], i64 (sideS a b c d e f))
  | _ => none
theorem fair3 {a b c d e f : Int} {g : Nat → List AV} (h0 : g 0 = [i64 a, i64 b]) (h1 : g 1 = [i64 c, i64 d]) (h2 : g 2 = [i64 e, i64 f]) : fairS 3 (gx g 0) (gx g 1) = true ↔ (validS a b = true ∧ validS c d = true ∧ validS e f = true) := by
  rw [fairS_iff]
  constructor
  · intro h
    have k0 := h 0 (by omega)
    have k1 := h 1 (by omega)
    have k2 := h 2 (by omega)
    simp only [gx, h0, h1, h2, gi_0, gi_1] at k0 k1 k2
    exact ⟨k0, k1, k2⟩
  · intro h i hi
    have : i = 0 ∨ i = 1 ∨ i = 2 := by omega
    rcases this with rfl | rfl | rfl
    · simp only [gx, h0, gi_0, gi_1]; exact h.1
    · simp only [gx, h1, gi_0, gi_1]; exact h.2.1
    · simp only [gx, h2, gi_0, gi_1]; exact h.2.2
theorem spots3 {a b c d e f : Int} {g : Nat → List AV} (h0 : g 0 = [i64 a, i64 b]) (h1 : g 1 = [i64 c, i64 d]) (h2 : g 2 = [i64 e, i64 f]) (ha : inR a) (hb : inR b) (hc : inR c) (hd : inR d) (he : inR e) (hf : inR f) : spots 3 g := by
  intro i hi
  have : i = 0 ∨ i = 1 ∨ i = 2 := by omega
  rcases this with rfl | rfl | rfl
  · simp only [gx, h0, gi_0, gi_1]; exact ⟨trivial, ha, hb⟩
  · simp only [gx, h1, gi_0, gi_1]; exact ⟨trivial, hc, hd⟩
  · simp only [gx, h2, gi_0, gi_1]; exact ⟨trivial, he, hf⟩
end Go.Ax
end

section
/-
  What the laws' sweeps are made of: boxes of numbers.
-/
set_option linter.unusedVariables false
set_option linter.unusedSimpArgs false
set_option maxHeartbeats 4000000
set_option maxRecDepth 100000
namespace Go.Ax
open Go.Proofs
theorem modS_in {n m : Int} (hm : 0 < m) : 0 ≤ modS n m ∧ modS n m < m := by
  unfold modS
  have h1 := Int.tmod_lt_of_pos n hm
  have h2 := Int.lt_tmod_of_pos n hm
  split <;> omega
def c26 : Con
  | [.agg [.v (.int .i64 a), .v (.int .i64 b), .v (.int .i64 c), .v (.int .i64 d)], .agg [.v (.int .i64 x), .v (.int .i64 y), .v (.int .i64 z), .v (.int .i64 t)]] => some ([], bo (decide (a ≤ z ∧ x ≤ c ∧ b ≤ t ∧ y ≤ d)))
  | _ => none
theorem con26 : ConOK Tryz.prog 26 c26 := ConOK.of (G := []) (H := []) .nil Tryz.func26 fun l ob rr hc hob => by
  unfold c26 at hc
  split at hc
  · rename_i a b c d x y z t
    cases hc
    refine ⟨by kernel_rfl, fnVC_go (rs := [.tmp 4]) rfl rfl ?_⟩
    simp only [go_sem]
    rw [← Bool.decide_and, ← Bool.decide_and, ← Bool.decide_and]
    exact decide_eq_decide.2 ⟨fun ⟨⟨⟨h1, h2⟩, h3⟩, h4⟩ => ⟨h1, h2, h3, h4⟩, fun ⟨h1, h2, h3, h4⟩ => ⟨⟨⟨h1, h2⟩, h3⟩, h4⟩⟩
  · cases hc
def c61 : Con
  | [.ro n 1 g, .v (.int .i64 i)] => some ([ints n g, n ≤ 9223372036854775807, inR i], i64 (if n = 0 then 0 else gx g 0 (modS i n).toNat))
  | _ => none
theorem con61 : ConOK Tryz.prog 61 c61 := ConOK.go (G := [(16, c16)]) (H := []) (.cons con16 .nil) Tryz.func61 fun l ob rr hc hob => by
  unfold c61 at hc
  split at hc
  · rename_i n g i
    cases hc
    have h_0 : ints n g := hob _ (by simp)
    have h_1 : n ≤ 9223372036854775807 := hob _ (by simp)
    have h_2 : inR i := hob _ (by simp)
    refine ⟨[.ro n 1 fun j => [i64 (gx g 0 j)], i64 i], fun w I vs hR => ?_, by kernel_rfl, fnVC_go (rs := [.tmp 4]) rfl rfl ?_⟩
    · obtain ⟨y, ys, rfl, k1, k2⟩ := hR.inv
      exact .cons (ro_alike (fun j hj => h_0 j hj) k1) k2
    simp only [go_sem, c16, h_2]
    refine ⟨fun h => ?_, fun h z hz => ?_⟩
    · have : n = 0 := by simpa using h
      rw [if_pos this]
    · have hn : n ≠ 0 := by simpa using h
      have hm := modS_in (n := i) (m := n) (by omega)
      rw [if_neg hn, ← hz]
      exact ⟨by omega, by unfold inR; omega, by omega, by omega, rfl⟩
  · cases hc
def bxX (x sp : Int) : Int := modS x (2 * sp + 1) - sp
def bxF (x w sp sz : Int) : Int := min (bxX x sp + modS w (sz + 1)) 2097152
def c62 : Con
  | [.v (.int .i64 x), .v (.int .i64 y), .v (.int .i64 w), .v (.int .i64 h), .v (.int .i64 sp), .v (.int .i64 sz)] => some ([inR x, inR y, inR w, inR h, 0 ≤ sp, sp ≤ 2097152, 0 ≤ sz, sz ≤ 2097152], .agg [i64 (bxX x sp), i64 (bxX y sp), i64 (bxF x w sp sz), i64 (bxF y h sp sz)])
  | _ => none
theorem con62 : ConOK Tryz.prog 62 c62 := ConOK.of (G := [(16, c16)]) (H := [(2, ⟨[(9, .slot 13)], []⟩), (3, ⟨[(9, .slot 13)], []⟩)]) (.cons con16 .nil) Tryz.func62 fun l ob rr hc hob => by
  unfold c62 at hc
  split at hc
  · rename_i x y w h sp sz
    cases hc
    have h_0 : inR x := hob _ (by simp)
    have h_1 : inR y := hob _ (by simp)
    have h_2 : inR w := hob _ (by simp)
    have h_3 : inR h := hob _ (by simp)
    have h_4 : 0 ≤ sp := hob _ (by simp)
    have h_5 : sp ≤ 2097152 := hob _ (by simp)
    have h_6 : 0 ≤ sz := hob _ (by simp)
    have h_7 : sz ≤ 2097152 := hob _ (by simp)
    refine ⟨by kernel_rfl, fnVC_go (rs := [.cell 12 32]) rfl rfl ?_⟩
    simp only [go_sem, c16, h_0, h_1, h_2, h_3, h_4, h_5, h_6, h_7]
    have wr : ∀ z : Int, -4611686018427387904 ≤ z ∧ z ≤ 4611686018427387904 → IntKind.i64.wrap z = z := fun z hz => wrap_in (by unfold inR; omega)
    have q : ∀ n : Int, 0 ≤ modS n (2 * sp + 1) ∧ modS n (2 * sp + 1) < 2 * sp + 1 := fun n => modS_in (by omega)
    have q2 : ∀ n : Int, 0 ≤ modS n (sz + 1) ∧ modS n (sz + 1) < sz + 1 := fun n => modS_in (by omega)
    have qx := q x
    have qy := q y
    have qw := q2 w
    have qh := q2 h
    simp only [forall_eq, wr (2 * sp) (by omega), wr (2 * sp + 1) (by omega), wr (sz + 1) (by omega), wr (modS x (2 * sp + 1) - sp) (by omega), wr (modS y (2 * sp + 1) - sp) (by omega), wr (modS x (2 * sp + 1) - sp + modS w (sz + 1)) (by omega), wr (modS y (2 * sp + 1) - sp + modS h (sz + 1)) (by omega)]
    have i1 : inR (2 * sp + 1) := by unfold inR; omega
    have i2 : inR (sz + 1) := by unfold inR; omega
    have p1 : 0 < 2 * sp + 1 := by omega
    have p2 : 0 < sz + 1 := by omega
    exact ⟨p1, i1, p1, i1, p2, i2, p2, i2, rfl⟩
  · cases hc
def bxG (sp sz : Int) (X : Nat → Int) (j : Nat) : List AV := [i64 (bxX (X (4 * j)) sp), i64 (bxX (X (4 * j + 1)) sp), i64 (bxF (X (4 * j)) (X (4 * j + 2)) sp sz), i64 (bxF (X (4 * j + 1)) (X (4 * j + 3)) sp sz)]
def bxS (k : Nat) (X : Nat → Int) : Int × Int := if modS (if k = 0 then 0 else X (modS 0 k).toNat) 5 = 4 then (2097152, 2097152) else (40, 20)
theorem fitL_of {N M : Nat} {σ : Names} {a b : List AV} (h : a = b) (hc : cleanCs a = true) : fitL N M σ a b := by subst h; exact fitL_clean hc
theorem inR_0' : inR 0 := by unfold inR; omega
def bxN (k : Nat) (most : Int) : Nat := min (k / 4) most.toNat
def c13 : Con
  | [.ro k 1 g, .v (.int .i64 most)] => some ([ints k g, k ≤ 9223372036854775807, ∀ i, inR (gx g 0 i), 0 ≤ most, most ≤ 1000], .ro (bxN k most) 4 (bxG (bxS k (gx g 0)).1 (bxS k (gx g 0)).2 (gx g 0)))
  | _ => none
theorem con13 : ConOK Tryz.prog 13 c13 := ConOK.goR (G := [(61, c61), (16, c16), (62, c62)]) (H := []) (.cons con61 (.cons con16 (.cons con62 .nil))) Tryz.func13 fun l ob rr hc hob => by
  unfold c13 at hc
  split at hc
  · rename_i k g most
    cases hc
    have h0 : ints k g := hob _ (by simp)
    have h1 : k ≤ 9223372036854775807 := hob _ (by simp)
    have hmo : most ≤ 1000 := hob _ (by simp)
    have h2 : ∀ i, inR (gx g 0 i) := hob _ (by simp)
    have h3 : 0 ≤ most := hob _ (by simp)
    clear hob
    refine ⟨[.ro k 1 fun j => [i64 (gx g 0 j)], i64 most], fun w I vs hR => ?_, by kernel_rfl, fnVC_go (rs := [.tmp 4]) rfl rfl ?_⟩
    · obtain ⟨y, ys, rfl, k1, k2⟩ := hR.inv
      exact .cons (ro_alike (fun j hj => h0 j hj) k1) k2
    generalize gx g 0 = X at h2
    simp only [go_sem, c61, c16, c62, ints_can, h1]
    intro z hz
    refine ⟨inR_0', fun z1 hz1 => ⟨by rw [hz]; split; exact inR_0'; exact h2 _, by unfold inR; omega, fun hc => ?_, fun hc => ?_⟩⟩
    · skip
      have hS : bxS k X = (2097152, 2097152) := by unfold bxS; rw [← hz, ← hz1]; rw [if_pos (by simpa using hc)]
      rw [hS]
      refine loopN_go (fun (j : Nat) => j ≤ bxN k most) (fun j => bxN k most - j) (fun j => [(8, i64 (4 * (j : Int))), (7, .own 11 0 j 4)]) (fun j => [(11, famN j 4 32 (bxG 2097152 2097152 X) none)]) [] [13, 14, 15, 16, 17, 18, 19, 20, 21, 22, 23, 26, 27, 28, 29, 30, 31, 32, 33, 34, 35, 36, 37, 38, 39, 40, 41, 42, 43, 44, 45, 46, 47, 48, 49, 50, 7, 24, 25, 8] 1 0 (by kernel_rfl) (Nat.zero_le _) ⟨[(11, none)], ?_, ?_, ?_, ?_⟩ ?_
      · simp only [go_sem]; simp [fit1, asg]
      · simp only [go_sem]
      · simp only [go_sem]
      · simp [goodNames, asg]
      intro j hj
      simp only [go_sem, c61, c16, c62]
      unfold bxN at hj ⊢
      have wr : ∀ z : Int, -4611686018427387904 ≤ z ∧ z ≤ 4611686018427387904 → IntKind.i64.wrap z = z := fun z hz => wrap_in (by unfold inR; omega)
      simp only [forall_eq, wr (4 * (j : Int) + 1) (by omega), wr (4 * (j : Int) + 2) (by omega), wr (4 * (j : Int) + 3) (by omega), wr (4 * (j : Int) + 4) (by omega)]
      have hb : bytesT Tryz.prog 32 = 32 := by kernel_rfl
      refine ⟨fun hlt => ⟨by omega, by omega, by omega, by omega, by omega, by omega, by omega, by omega, h2 _, h2 _, h2 _, h2 _, by rw [hb]; omega, by omega, j + 1, by omega, by omega, [(11, some 47)], ⟨by omega, by simp [fit1, asg]⟩, ?_, by simp [goodNames, asg]⟩, fun hge => ?_⟩
      · have n0 : (4 * (j : Int)).toNat = 4 * j := by omega
        have n1 : (4 * (j : Int) + 1).toNat = 4 * j + 1 := by omega
        have n2 : (4 * (j : Int) + 2).toNat = 4 * j + 2 := by omega
        have n3 : (4 * (j : Int) + 3).toNat = 4 * j + 3 := by omega
        rw [n0, n1, n2, n3]
        simp only [go_sem]
        intro q hq
        have e : (if q < j then bxG 2097152 2097152 X q else List.take 4 (List.drop ((q - j) * 4) (bxG 2097152 2097152 X j))) = bxG 2097152 2097152 X q := by
          split
          · rfl
          · have : q = j := by omega
            subst this
            rw [Nat.sub_self]; rfl
        exact fitL_of e.symm rfl
      · have hj2 : j = min (k / 4) most.toNat := by
          have hge : ¬ ((4 * (j : Int) + 3 < k) ∧ (j : Int) < most) := by simpa using hge
          omega
        rw [← hj2]
        exact alk_ro fun i hi => by simp only [bxG, go_sem]
    · skip
      have hS : bxS k X = (40, 20) := by unfold bxS; rw [← hz, ← hz1]; rw [if_neg (by simpa using hc)]
      rw [hS]
      refine loopN_go (fun (j : Nat) => j ≤ bxN k most) (fun j => bxN k most - j) (fun j => [(8, i64 (4 * (j : Int))), (7, .own 9 0 j 4)]) (fun j => [(9, famN j 4 32 (bxG 40 20 X) none)]) [] [13, 14, 15, 16, 17, 18, 19, 20, 21, 22, 23, 26, 27, 28, 29, 30, 31, 32, 33, 34, 35, 36, 37, 38, 39, 40, 41, 42, 43, 44, 45, 46, 47, 48, 49, 50, 7, 24, 25, 8] 1 0 (by kernel_rfl) (Nat.zero_le _) ⟨[(9, none)], ?_, ?_, ?_, ?_⟩ ?_
      · simp only [go_sem]; simp [fit1, asg]
      · simp only [go_sem]
      · simp only [go_sem]
      · simp [goodNames, asg]
      intro j hj
      simp only [go_sem, c61, c16, c62]
      unfold bxN at hj ⊢
      have wr : ∀ z : Int, -4611686018427387904 ≤ z ∧ z ≤ 4611686018427387904 → IntKind.i64.wrap z = z := fun z hz => wrap_in (by unfold inR; omega)
      simp only [forall_eq, wr (4 * (j : Int) + 1) (by omega), wr (4 * (j : Int) + 2) (by omega), wr (4 * (j : Int) + 3) (by omega), wr (4 * (j : Int) + 4) (by omega)]
      have hb : bytesT Tryz.prog 32 = 32 := by kernel_rfl
      refine ⟨fun hlt => ⟨by omega, by omega, by omega, by omega, by omega, by omega, by omega, by omega, h2 _, h2 _, h2 _, h2 _, by rw [hb]; omega, by omega, j + 1, by omega, by omega, [(9, some 45)], ⟨by omega, by simp [fit1, asg]⟩, ?_, by simp [goodNames, asg]⟩, fun hge => ?_⟩
      · have n0 : (4 * (j : Int)).toNat = 4 * j := by omega
        have n1 : (4 * (j : Int) + 1).toNat = 4 * j + 1 := by omega
        have n2 : (4 * (j : Int) + 2).toNat = 4 * j + 2 := by omega
        have n3 : (4 * (j : Int) + 3).toNat = 4 * j + 3 := by omega
        rw [n0, n1, n2, n3]
        simp only [go_sem]
        intro q hq
        have e : (if q < j then bxG 40 20 X q else List.take 4 (List.drop ((q - j) * 4) (bxG 40 20 X j))) = bxG 40 20 X q := by
          split
          · rfl
          · have : q = j := by omega
            subst this
            rw [Nat.sub_self]; rfl
        exact fitL_of e.symm rfl
      · have hj2 : j = min (k / 4) most.toNat := by
          have hge : ¬ ((4 * (j : Int) + 3 < k) ∧ (j : Int) < most) := by simpa using hge
          omega
        rw [← hj2]
        exact alk_ro fun i hi => by simp only [bxG, go_sem]
  · cases hc
end Go.Ax
end

section
/-
  The laws' sweeps: put.
-/
set_option linter.unusedVariables false
set_option linter.unusedSimpArgs false
set_option maxHeartbeats 4000000
set_option maxRecDepth 100000
namespace Go.Ax
open Go.Proofs
/-- Boxes that are valid, one an element. -/
def bxOK (n : Nat) (g : Nat → List AV) : Prop := ∀ i, i < n → g i = [i64 (gx g 0 i), i64 (gx g 1 i), i64 (gx g 2 i), i64 (gx g 3 i)] ∧ checkBoxS (gx g 0 i) (gx g 1 i) (gx g 2 i) (gx g 3 i) = 0
def bxI (g : Nat → List AV) (i : Nat) : List Int := [gx g 0 i, gx g 1 i, gx g 2 i, gx g 3 i]
/-- What has been put after i of n, from the first one on or from the last one on. -/
def ptAt (n : Nat) (last : Bool) (i : Nat) : Nat := if last = true then n - 1 - i else i
def ptL (n : Nat) (last : Bool) (B : Nat → List Int) : Nat → Ents
  | 0 => []
  | i + 1 => ptL n last B i ++ [((ptAt n last i : Int), B (ptAt n last i))]
theorem selNone {k : Int} : ∀ {L : Ents}, k ∉ L.map (·.1) → memSel L k = none
  | [], _ => rfl
  | (q, x) :: L, h => by
    rw [List.map_cons, List.mem_cons, not_or] at h
    unfold memSel
    rw [if_neg (fun e => h.1 e.symm), selNone h.2]
theorem memPut_end {k : Int} {x : List Int} : ∀ {L : Ents}, k ∉ L.map (·.1) → memPut L k x = L ++ [(k, x)]
  | [], _ => rfl
  | (q, y) :: L, h => by
    rw [List.map_cons, List.mem_cons, not_or] at h
    unfold memPut
    rw [if_neg (fun e => h.1 e.symm), memPut_end h.2]
    rfl
theorem ptL_len {n : Nat} {last : Bool} {B : Nat → List Int} : ∀ i, (ptL n last B i).length = i
  | 0 => rfl
  | i + 1 => by rw [ptL, List.length_append, ptL_len i]; rfl
theorem ptAt_lt {n i : Nat} {last : Bool} (h : i < n) : ptAt n last i < n := by unfold ptAt; split <;> omega
theorem ptL_mem {n : Nat} {last : Bool} {B : Nat → List Int} {k : Int} : ∀ {i}, k ∈ (ptL n last B i).map (·.1) ↔ ∃ j, j < i ∧ k = ptAt n last j
  | 0 => by simp [ptL]
  | i + 1 => by
    rw [ptL, List.map_append, List.mem_append, ptL_mem]
    constructor
    · rintro (⟨j, h1, h2⟩ | h)
      · exact ⟨j, by omega, h2⟩
      · exact ⟨i, by omega, by simpa using h⟩
    · rintro ⟨j, h1, h2⟩
      by_cases e : j = i
      · subst e; exact .inr (by simpa using h2)
      · exact .inl ⟨j, by omega, h2⟩
theorem ptL_no {n i : Nat} {last : Bool} {B : Nat → List Int} (h : i < n) : (ptAt n last i : Int) ∉ (ptL n last B i).map (·.1) := by
  rw [ptL_mem]
  rintro ⟨j, h1, h2⟩
  unfold ptAt at h2
  split at h2 <;> omega
theorem put_ok {n i : Nat} {last : Bool} {B : Nat → List Int} {tl : Fam} {a b c d : Int} (h : i < n) (hn : n ≤ 256) (hB : B (ptAt n last i) = [a, b, c, d]) (hc : checkBoxS a b c d = 0) : putE (ptL n last B i) (ptAt n last i : Nat) a b c d = 0 ∧ putW ⟨ptL n last B i, tl⟩ (ptAt n last i : Nat) a b c d = ⟨ptL n last B (i + 1), tl⟩ := by
  have hlt := ptAt_lt (last := last) h
  have hl := ptL_len (n := n) (last := last) (B := B) i
  have e : putE (ptL n last B i) (ptAt n last i : Nat) a b c d = 0 := by
    unfold putE
    rw [if_neg (by omega), if_neg (by rw [hc]; simp), selNone (ptL_no h), if_neg (by simp), if_neg (by omega)]
  refine ⟨e, ?_⟩
  unfold putW
  dsimp only
  rw [e, if_pos rfl, memPut_end (ptL_no h), ptL, hB]
theorem cleanCs_of : ∀ {l : List AV}, (∀ c ∈ l, cleanC c = true) → cleanCs l = true
  | [], _ => rfl
  | a :: l, h => by
    simp only [cleanCs, Bool.and_eq_true]
    exact ⟨h a (by simp), cleanCs_of fun c hc => h c (by simp [hc])⟩
theorem fitF_self {N M : Nat} {x : Fam} (h : ∀ f, (x f).g = none ∧ ∀ j, j < (x f).n → fitL N M [] ((x f).get j) ((x f).get j)) : fitF N M [] x (some x) := by
  intro f
  exact ⟨rfl, rfl, rfl, (h f).1, (h f).1, (h f).2⟩
theorem fitF_sw {N M K : Nat} {L : Ents} {tl : Fam} (hK : K < N) (ht : tlOK tl) : fitF N M [] (famR [⟨1, 1, 103, fun _ => [.mp K 1], none⟩, mapR 4 L] tl) (some (famR [⟨1, 1, 103, fun _ => [.mp K 1], none⟩, mapR 4 L] tl)) :=
  fitF_self fun f => match f with
    | 0 => ⟨rfl, fun j hj => ⟨⟨rfl, hK⟩, trivial⟩⟩
    | 1 => ⟨rfl, fun j hj => by have hj : j < 0 := hj; omega⟩
    | f + 2 => ⟨(ht f).1, fun j hj => fitL_clean (cleanCs_of ((ht f).2 j hj))⟩
theorem fitF_sl {N M K : Nat} {s : SlS} (hK : K < M) (ht : tlOK s.tl) : fitF N M [] (slF K s) (some (slF K s)) :=
  fitF_self fun f => match f with
    | 0 => ⟨rfl, fun j hj => ⟨⟨rfl, trivial⟩, ⟨hK, rfl⟩, trivial⟩⟩
    | 1 => ⟨rfl, fun j hj => ⟨⟨rfl, trivial⟩, trivial⟩⟩
    | f + 2 => ⟨(ht f).1, fun j hj => fitL_clean (cleanCs_of ((ht f).2 j hj))⟩
noncomputable def F14 : List AV → Option (List Prop × (Nat → AV) × (Nat → Option Fam))
  | [.ro n 4 g, .v (.bool last)] => some ([n ≤ 256, bxOK n g], fun k => .bx k 0, fun k => some (swF k ⟨ptL n last (bxI g) n, noRows⟩))
  | _ => none
noncomputable def mN14 : MCon := mcKU F14
theorem mN14_eq : mN14 = mcKU F14 := (rfl)
attribute [go_sem] mN14_eq
theorem mon14 : MConOK Tryz.prog 14 mN14 := MConOK.mkU (G := [(28, .wr mN28), (19, .wr m19)]) (H := []) (.mcons mon28 (.mcons mon19 .nil)) Tryz.func14 fun es ob v nw hF hob => by
  unfold F14 at hF
  split at hF
  · rename_i n g last
    cases hF
    have hn : n ≤ 256 := hob _ (by simp)
    have hg : bxOK n g := hob _ (by simp)
    refine ⟨[.ro n 4 fun i => [i64 (gx g 0 i), i64 (gx g 1 i), i64 (gx g 2 i), i64 (gx g 3 i)], bo last], fun w I vs hR => ?_, by simp [clean], by kernel_rfl, fun key => bodyM_go (rs := [.tmp 4]) rfl rfl ?_⟩
    · obtain ⟨y, ys, rfl, k1, k2⟩ := hR.inv
      exact .cons (ro_alike (fun i hi => (hg i hi).1) k1) k2
    have hc := fun i hi => (hg i hi).2
    have hg' : ∀ i, i < n → bxI g i = [gx g 0 i, gx g 1 i, gx g 2 i, gx g 3 i] := fun i _ => rfl
    generalize bxI g = B at hg'
    generalize gx g 0 = A0 at hc hg'
    generalize gx g 1 = A1 at hc hg'
    generalize gx g 2 = A2 at hc hg'
    generalize gx g 3 = A3 at hc hg'
    have hr : ∀ i, i < n → inR (A0 i) ∧ inR (A1 i) ∧ inR (A2 i) ∧ inR (A3 i) := fun i hi => by
      have := checkBoxS_iff.1 (hc i hi)
      unfold inR; omega
    simp only [go_sem, m19, swF_eq, famNK_W']
    refine loopN_go (fun (i : Nat) => i ≤ n) (fun i => n - i) (fun i => [(6, i64 i)]) (fun i => [(1, famR [⟨1, 1, 103, fun _ => [.mp 1 1], none⟩, mapR 4 (ptL n last B i)] noRows)]) [] [9, 10, 11, 12, 13, 14, 15, 16, 19, 7, 20, 21, 22, 23, 24, 25, 7, 26, 27, 28, 29, 30, 31, 32, 33, 4, 17, 18, 6] 0 0 (by kernel_rfl) (Nat.zero_le _) ⟨[], ?_, ?_, ?_, ?_⟩ ?_
    · simp only [go_sem]
    · simp only [go_sem]
      exact fitF_sw (by decide) (fun f => ⟨rfl, fun j hj => by have hj : j < 0 := hj; omega⟩)
    · simp only [go_sem]
    · simp [goodNames, asg]
    intro i hi
    simp only [go_sem, m19, F19, famNK_W', swF_eq]
    have tl0 : tlOK noRows := fun f => ⟨rfl, fun j hj => by have hj : j < 0 := hj; omega⟩
    have hin : ∀ z : Int, i < n → z = (ptAt n last i : Nat) → 0 ≤ z ∧ z < n ∧ ∀ zz : Int, zz = putE (ptL n last B i) z (A0 z.toNat) (A1 z.toNat) (A2 z.toNat) (A3 z.toNat) → zz = 0 ∧ putW ⟨ptL n last B i, noRows⟩ z (A0 z.toNat) (A1 z.toNat) (A2 z.toNat) (A3 z.toNat) = ⟨ptL n last B (i + 1), noRows⟩ ∧ inR (A0 z.toNat) ∧ inR (A1 z.toNat) ∧ inR (A2 z.toNat) ∧ inR (A3 z.toNat) := fun z hlt hz => by
      have hl := ptAt_lt (last := last) hlt
      subst hz
      rw [Int.toNat_natCast]
      obtain ⟨p1, p2⟩ := put_ok (tl := noRows) hlt hn (hg' _ hl) (hc _ hl)
      refine ⟨by omega, by omega, fun zz hzz => ⟨by rw [hzz, p1], p2, hr _ hl⟩⟩
    have hnext : ∀ z : Int, z = IntKind.i64.wrap (i + 1) → i < n → z = ((i + 1 : Nat) : Int) := fun z hz hlt => by rw [hz, wrap_in (by unfold inR; omega)]; omega
    refine ⟨fun hlt => ⟨fun hl z1 k1 z2 k2 => ?_, fun hl => ?_⟩, fun hge => ?_⟩
    · have e : z2 = (ptAt n last i : Nat) := by
        unfold ptAt
        rw [if_pos hl, k2, k1, wrap_in (x := (n : Int) - 1) (by unfold inR; omega), wrap_in (by unfold inR; omega)]
        omega
      obtain ⟨q1, q2, q3⟩ := hin z2 (by omega) e
      refine ⟨q1, q2, fun z hz => ?_⟩
      obtain ⟨q4, q5, q6, q7, q8, q9⟩ := q3 z hz
      rw [q5, q4]
      refine ⟨tl0, q6, q7, q8, q9, fun h => (by cases h), fun _ z hz => ⟨i + 1, by omega, by omega, [], hnext z hz (by omega), ?_, by simp [goodNames, asg]⟩⟩
      simp only [go_sem]
      exact fitF_sw (by decide) tl0
    · have e : (i : Int) = (ptAt n last i : Nat) := by
        unfold ptAt
        rw [if_neg (by rw [hl]; decide)]
      obtain ⟨q1, q2, q3⟩ := hin i (by omega) e
      refine ⟨q1, q2, fun z hz => ?_⟩
      rw [Int.toNat_natCast] at q3
      obtain ⟨q4, q5, q6, q7, q8, q9⟩ := q3 z hz
      rw [q5, q4]
      refine ⟨tl0, q6, q7, q8, q9, fun h => (by cases h), fun _ z hz => ⟨i + 1, by omega, by omega, [], hnext z hz (by omega), ?_, by simp [goodNames, asg]⟩⟩
      simp only [go_sem]
      exact fitF_sw (by decide) tl0
    · have e : i = n := by omega
      subst e
      exact newOW (v := fun k => .bx k 0) (L := ptL i last B i) (m1 := [(1, swF 1 ⟨ptL i last B i, noRows⟩)]) (fun _ _ => rfl) (fun _ _ _ h => h) rfl (Nat.zero_le _)
  · cases hF
end Go.Ax
end

section
/-
  The laws' tables: told.
-/
set_option linter.unusedVariables false
set_option linter.unusedSimpArgs false
set_option maxHeartbeats 4000000
set_option maxRecDepth 100000
namespace Go.Ax
open Go.Proofs
/-- What a number says. -/
def tdK (X : Nat → Int) (i : Nat) : Nat := (modS (X i) 1048576).toNat
def tdN (most : Int) : Nat := (1 + modS most 64).toNat
def tdAt (n : Nat) (X : Nat → Int) : Nat → TdS
  | 0 => td0 n
  | i + 1 => tdStep n (tdAt n X i) (tdK X i)
def c38g (z : Int × Int) : Option (List Prop × Nat × (Nat → Int × Int)) → Option (List Prop × AV)
  | some (ob, n, X) => some (c38f n X z ob)
  | none => none
theorem c38_eq {a : AV} {z1 z2 : Int} : c38 [a, .agg [i64 z1, i64 z2]] = c38g (z1, z2) (roP a) := by
  show (match roP a with
    | some (ob, n, X) => some (c38f n X (z1, z2) ob)
    | none => none) = _
  unfold c38g
  cases roP a <;> rfl
theorem c38g_some {z : Int × Int} {ob : List Prop} {n : Nat} {X : Nat → Int × Int} : c38g z (some (ob, n, X)) = some ((n ≤ 100000) :: ob, bo (decide (z ∈ lP n X))) := (rfl)
theorem c27_eq {n : Nat} {X : Nat → Int} {z : Int} : c27 [.ro n 1 fun i => [i64 (X i)], i64 z] = some ((n ≤ 100000) :: [ints n fun i => [i64 (X i)]], bo (decide (z ∈ lX n X))) := (rfl)
theorem lsF_at {l : List (Int × Int)} {i : Nat} : lsF l i = [i64 (l.getD i (0, 0)).1, i64 (l.getD i (0, 0)).2] := (rfl)
attribute [go_sem] c38_eq c38g_some
theorem tdAt_I {n : Nat} {X : Nat → Int} (h : 1 ≤ n ∧ n ≤ 64) (i : Nat) : i < 2147483647 → TdI n i (tdAt n X i) := by
  induction i with
  | zero => exact fun _ => .init h
  | succ i ih => exact fun hi => (ih (by omega)).step (by omega) _
theorem tdAt_tl {n : Nat} {X : Nat → Int} : ∀ i, (tdAt n X i).s.tl = noRows
  | 0 => rfl
  | i + 1 => by
    have ih := tdAt_tl (n := n) (X := X) i
    show (tdStep n (tdAt n X i) (tdK X i)).s.tl = noRows
    generalize tdAt n X i = t at ih
    unfold tdStep
    split
    · show (frS _ _ _).tl = _
      unfold frS
      split <;> exact ih
    · split
      · exact ih
      · show (tkS _).tl = _
        unfold tkS
        split <;> exact ih
abbrev tdA (K : Nat) (t : TdS) : AV := .agg [.bx K 0, .own K 2 t.live.length 2, .own K 3 t.given.length 2, bo true]
def tdF (K : Nat) (t : TdS) : Fam := slF K { t.s with tl := famR [⟨t.live.length, 2, 64, lsF t.live, none⟩, ⟨t.given.length, 2, 64, lsF t.given, none⟩] noRows }
def F34f (most : Int) : Option (List Prop × Nat × (Nat → Int)) → Option (List Prop × (Nat → AV) × (Nat → Option Fam))
  | some (ob, k, X) => some ((k ≤ 1000) :: inR most :: (∀ i, inR (X i)) :: ob, fun K => tdA K (tdAt (tdN most) X k), fun K => some (tdF K (tdAt (tdN most) X k)))
  | none => none
def F34 : List AV → Option (List Prop × (Nat → AV) × (Nat → Option Fam))
  | [.v (.int .i64 most), nums] => F34f most (roI nums)
  | _ => none
theorem tkS_tl (s : SlS) (h : tlOK s.tl := by exact fun f => ⟨rfl, fun j hj => (by have hj : j < 0 := hj; omega)⟩) : tlOK (tkS s).tl := by
  unfold tkS
  split <;> exact h
theorem tdFit {n ka kb la lb : Nat} {bb : Bool} {m : Mem} {t : TdS} {ga gb : Nat → List AV} (hla : la = t.live.length) (hlb : lb = t.given.length) (hbb : bb = true) (h20 : look m 20 = some (fam1 60 4 [.bx 6 0, .own ka 0 la 2, .own kb 0 lb 2, bo bb] none))
    (h6 : look m 6 = some (famR [⟨1, 2, 100, fun _ => [u64 t.s.x, .own 6 1 n 1], none⟩, ⟨n, 1, 3, fun j => [i64 (t.s.G j)], none⟩] noRows))
    (ha : look m ka = some (famN la 2 64 ga none)) (hb : look m kb = some (famN lb 2 64 gb none)) (ha2 : ∀ q, q < la → ga q = lsF t.live q) (hb2 : ∀ q, q < lb → gb q = lsF t.given q) :
    fitRows 23 25 [(23, some ka), (24, some kb)] m [(20, fam1 60 4 [.bx 6 0, .own 23 0 t.live.length 2, .own 24 0 t.given.length 2, bo true] none), (6, famR [⟨1, 2, 100, fun _ => [u64 t.s.x, .own 6 1 n 1], none⟩, ⟨n, 1, 3, fun j => [i64 (t.s.G j)], none⟩] noRows), (23, famN t.live.length 2 64 (lsF t.live) none), (24, famN t.given.length 2 64 (lsF t.given) none)] := by
  subst hla hlb hbb
  have e20 : asg [(23, some ka), (24, some kb)] 20 = some 20 := by simp [asg]
  have e6 : asg [(23, some ka), (24, some kb)] 6 = some 6 := by simp [asg]
  have e23 : asg [(23, some ka), (24, some kb)] 23 = some ka := by simp [asg]
  have e24 : asg [(23, some ka), (24, some kb)] 24 = some kb := by simp [asg]
  simp only [fitRows, e20, e6, e23, e24]
  refine ⟨⟨_, h20, fun f => ?_⟩, ⟨_, h6, fun f => ?_⟩, ⟨_, ha, fitRow_N rfl fun q hq => by rw [ha2 q hq]; exact fitL_clean rfl⟩, ⟨_, hb, fitRow_N rfl fun q hq => by rw [hb2 q hq]; exact fitL_clean rfl⟩, trivial⟩
  · by_cases hf : f = 0
    · subst hf
      refine ⟨rfl, rfl, rfl, rfl, rfl, fun j _ => ⟨⟨rfl, by show (6 : Nat) < 23; omega⟩, ⟨by omega, by rw [e23]⟩, ⟨by omega, by rw [e24]⟩, ⟨rfl, trivial⟩, trivial⟩⟩
    · unfold fam1
      rw [if_neg hf, if_neg hf]
      exact ⟨rfl, rfl, rfl, rfl, rfl, fun i hi => by have hi : i < 0 := hi; omega⟩
  · match f with
    | 0 => exact ⟨rfl, rfl, rfl, rfl, rfl, fun j _ => ⟨⟨rfl, trivial⟩, ⟨by omega, by rw [e6]⟩, trivial⟩⟩
    | 1 => exact ⟨rfl, rfl, rfl, rfl, rfl, fun j _ => ⟨⟨rfl, trivial⟩, trivial⟩⟩
    | f + 2 => exact ⟨rfl, rfl, rfl, rfl, rfl, fun j hj => by have hj : j < 0 := hj; omega⟩
theorem tdFit0 {n : Nat} {m : Mem} {X : Nat → Int} (h20 : look m 20 = some (fam1 60 4 [.bx 6 0, .v (.slice none 0 0), .v (.slice none 0 0), bo true] none))
    (h6 : look m 6 = some (famR [⟨1, 2, 100, fun _ => [u64 0, .own 6 1 n 1], none⟩, ⟨n, 1, 3, fun j => [i64 0], none⟩] noRows)) :
    fitRows 23 25 [(23, none), (24, none)] m [(20, fam1 60 4 [.bx 6 0, .own 23 0 (tdAt n X 0).live.length 2, .own 24 0 (tdAt n X 0).given.length 2, bo true] none), (6, famR [⟨1, 2, 100, fun _ => [u64 (tdAt n X 0).s.x, .own 6 1 n 1], none⟩, ⟨n, 1, 3, fun j => [i64 ((tdAt n X 0).s.G j)], none⟩] noRows), (23, famN (tdAt n X 0).live.length 2 64 (lsF (tdAt n X 0).live) none), (24, famN (tdAt n X 0).given.length 2 64 (lsF (tdAt n X 0).given) none)] := by
  have e20 : asg [(23, none), (24, none)] 20 = some 20 := by simp [asg]
  have e6 : asg [(23, none), (24, none)] 6 = some 6 := by simp [asg]
  have e23 : asg [(23, none), (24, none)] 23 = none := by simp [asg]
  have e24 : asg [(23, none), (24, none)] 24 = none := by simp [asg]
  simp only [fitRows, e20, e6, e23, e24]
  refine ⟨⟨_, h20, fun f => ?_⟩, ⟨_, h6, fun f => ?_⟩, fitRow_0, fitRow_0, trivial⟩
  · by_cases hf : f = 0
    · subst hf
      refine ⟨rfl, rfl, rfl, rfl, rfl, fun j _ => ⟨⟨rfl, by show (6 : Nat) < 23; omega⟩, ⟨by omega, by rw [e23]; exact ⟨rfl, rfl⟩⟩, ⟨by omega, by rw [e24]; exact ⟨rfl, rfl⟩⟩, ⟨rfl, trivial⟩, trivial⟩⟩
    · unfold fam1
      rw [if_neg hf, if_neg hf]
      exact ⟨rfl, rfl, rfl, rfl, rfl, fun i hi => by have hi : i < 0 := hi; omega⟩
  · match f with
    | 0 => exact ⟨rfl, rfl, rfl, rfl, rfl, fun j _ => ⟨⟨rfl, trivial⟩, ⟨by omega, by rw [e6]⟩, trivial⟩⟩
    | 1 => exact ⟨rfl, rfl, rfl, rfl, rfl, fun j _ => ⟨⟨rfl, trivial⟩, trivial⟩⟩
    | f + 2 => exact ⟨rfl, rfl, rfl, rfl, rfl, fun j hj => by have hj : j < 0 := hj; omega⟩
theorem newTd {key n : Nat} {m1 : Mem} {t : TdS} (hn : t.s.n = n) (h6 : look m1 6 = some (famR [⟨1, 2, 100, fun _ => [u64 t.s.x, .own 6 1 n 1], none⟩, ⟨n, 1, 3, fun j => [i64 (t.s.G j)], none⟩] noRows))
    (ha : look m1 23 = some (famN t.live.length 2 64 (lsF t.live) none)) (hb : look m1 24 = some (famN t.given.length 2 64 (lsF t.given) none)) :
    NewP key 0 (.agg [.bx 6 0, .own 23 0 t.live.length 2, .own 24 0 t.given.length 2, bo true]) m1 (tdA key t) (some (tdF key t)) := by
  subst hn
  have i0 : ixP [(6, 0), (6, 1), (23, 0), (24, 0)] 6 0 = 0 := by simp [ixP]
  have i1 : ixP [(6, 0), (6, 1), (23, 0), (24, 0)] 6 1 = 1 := by simp [ixP]
  have i2 : ixP [(6, 0), (6, 1), (23, 0), (24, 0)] 23 0 = 2 := by simp [ixP]
  have i3 : ixP [(6, 0), (6, 1), (23, 0), (24, 0)] 24 0 = 3 := by simp [ixP]
  refine newP_list [(6, 0), (6, 1), (23, 0), (24, 0)] (by simp) (by simp) (fun c hc => ?_) (fun ks hks => ?_) (fun ks hks f r' g hf => ?_) (fun f hf => ?_)
  · simp only [List.mem_cons, List.not_mem_nil, or_false] at hc
    rcases hc with rfl | rfl | rfl | rfl
    · exact .inr rfl
    · exact .inr (by rw [i2]; rfl)
    · exact .inr (by rw [i3]; rfl)
    · trivial
  · show AV.agg [.bx key 0, .own key 2 t.live.length 2, .own key 3 t.given.length 2, bo true] = AV.agg [.bx (thL ks key (ixP [(6, 0), (6, 1), (23, 0), (24, 0)]) 6 0).1 0, .own (thL ks key (ixP [(6, 0), (6, 1), (23, 0), (24, 0)]) 23 0).1 (thL ks key (ixP [(6, 0), (6, 1), (23, 0), (24, 0)]) 23 0).2 t.live.length 2, .own (thL ks key (ixP [(6, 0), (6, 1), (23, 0), (24, 0)]) 24 0).1 (thL ks key (ixP [(6, 0), (6, 1), (23, 0), (24, 0)]) 24 0).2 t.given.length 2, bo true]
    simp only [thL]
    rw [if_neg (by omega), if_neg (by omega), if_neg (by omega), i2, i3]
  · match f, hf with
    | 0, hf =>
      cases hf
      refine ⟨_, h6, ⟨rfl, rfl, rfl, rfl, fun j hj => ⟨?_, fun c hc => ?_⟩⟩, by simp [famR_0]⟩
      · show [u64 t.s.x, AV.own key 1 t.s.n 1] = [u64 t.s.x, AV.own (thL ks key (ixP [(6, 0), (6, 1), (23, 0), (24, 0)]) 6 1).1 (thL ks key (ixP [(6, 0), (6, 1), (23, 0), (24, 0)]) 6 1).2 t.s.n 1]
        simp only [thL]
        rw [if_neg (by omega), i1]
      · have hc : c ∈ [u64 t.s.x, AV.own 6 1 t.s.n 1] := hc
        simp only [List.mem_cons, List.not_mem_nil, or_false] at hc
        rcases hc with rfl | rfl
        · trivial
        · exact .inr (by rw [i1]; rfl)
    | 1, hf =>
      cases hf
      refine ⟨_, h6, ⟨rfl, rfl, rfl, rfl, fun j hj => ⟨rfl, fun c hc => ?_⟩⟩, by simp [famR_1]⟩
      have hc : c ∈ [i64 (t.s.G j)] := hc
      simp only [List.mem_cons, List.not_mem_nil, or_false] at hc
      subst hc; trivial
    | 2, hf =>
      cases hf
      refine ⟨_, ha, ⟨rfl, rfl, rfl, rfl, fun j hj => ⟨rfl, fun c hc => ?_⟩⟩, by simp [famN]⟩
      have hc : c ∈ lsF t.live j := hc
      simp only [lsF, List.mem_cons, List.not_mem_nil, or_false] at hc
      rcases hc with rfl | rfl <;> trivial
    | 3, hf =>
      cases hf
      refine ⟨_, hb, ⟨rfl, rfl, rfl, rfl, fun j hj => ⟨rfl, fun c hc => ?_⟩⟩, by simp [famN]⟩
      have hc : c ∈ lsF t.given j := hc
      simp only [lsF, List.mem_cons, List.not_mem_nil, or_false] at hc
      rcases hc with rfl | rfl <;> trivial
    | f + 4, hf => simp at hf
  · match f, hf with
    | f + 4, _ => rfl
theorem F45_in {n : Nat} (h : 1 ≤ n ∧ n ≤ 64) : F45 [i64 n] = some ([], fun k => .tup [.bx k 0, i64 0], fun k => some (slF k ⟨0, n, fun _ => 0, noRows⟩)) := by
  have h2 : 1 ≤ (n : Int) ∧ (n : Int) ≤ 64 := by omega
  show (if 1 ≤ (n : Int) ∧ (n : Int) ≤ 64 then _ else _) = _
  rw [if_pos h2, Int.toNat_natCast]
noncomputable def mN34 : MCon := mcKU F34
theorem mN34_eq : mN34 = mcKU F34 := (rfl)
attribute [go_sem] mN34_eq
theorem mon34 : MConOK Tryz.prog 34 mN34 := MConOK.mkU (G := [(16, c16), (45, .wr m45), (44, .wr m44), (40, .wr m40), (38, c38)]) (H := [(11, ⟨[(5, .made 0), (13, .slot 8)], [(7, [.made 0])]⟩), (16, ⟨[(4, .slot 88), (11, .slot 8), (13, .slot 8)], [(6, [.slot 88]), (7, [.slot 88]), (8, [.slot 88])]⟩)]) (.cons con16 (.mcons mon45 (.mcons mon44 (.mcons mon40 (.cons con38 .nil))))) Tryz.func34 fun es ob v nw hF hob => by
  unfold F34 at hF
  split at hF
  · rename_i most nums
    unfold F34f at hF
    split at hF
    · rename_i ob2 k X hn
      cases hF
      have hk : k ≤ 1000 := hob _ (by simp)
      have hm : inR most := hob _ (by simp)
      have hX : ∀ i, inR (X i) := hob _ (by simp)
      refine ⟨[i64 most, .ro k 1 fun i => [i64 (X i)]], fun w I vs hR => ?_, by simp [clean], by kernel_rfl, fun key => bodyM_go (rs := [.cell 4 60]) rfl rfl ?_⟩
      · obtain ⟨y, ys, rfl, k1, k2⟩ := hR.inv
        obtain ⟨y2, ys2, rfl, k3, k4⟩ := k2.inv
        exact .cons k1 (.cons (roI_sound hn (fun p hp => hob p (by simp [hp])) k3) k4)
      simp only [go_sem, c16, m45, m44, m40, c38, m45, hm]
      intro z hz
      refine ⟨by unfold inR; omega, fun z1 hz1 => ?_⟩
      have hzb := modS_in (n := most) (m := 64) (by decide)
      have e1 : z1 = (tdN most : Nat) := by
        unfold tdN
        rw [hz1, hz, wrap_in (by unfold inR; omega)]
        omega
      have hn1 : 1 ≤ tdN most ∧ tdN most ≤ 64 := by unfold tdN; omega
      clear hz1 hz hzb
      subst e1
      generalize tdN most = n at hn1
      simp only [go_sem, c16, m45, m44, m40, c38, m45, F45_in hn1, slF_eq]
      intro z1 hz1
      subst hz1
      refine loopN_go (fun (i : Nat) => i ≤ k) (fun i => k - i) (fun i => [(9, i64 i)])
        (fun i => [(20, fam1 60 4 [.bx 6 0, .own 23 0 (tdAt n X i).live.length 2, .own 24 0 (tdAt n X i).given.length 2, bo true] none), (6, famR [⟨1, 2, 100, fun _ => [u64 (tdAt n X i).s.x, .own 6 1 n 1], none⟩, ⟨n, 1, 3, fun j => [i64 ((tdAt n X i).s.G j)], none⟩] noRows), (23, famN (tdAt n X i).live.length 2 64 (lsF (tdAt n X i).live) none), (24, famN (tdAt n X i).given.length 2 64 (lsF (tdAt n X i).given) none)]) [0] [30, 31, 32, 33, 34, 35, 36, 37, 40, 41, 42, 43, 44, 10, 45, 46, 47, 48, 49, 50, 51, 52, 53, 54, 55, 56, 57, 58, 59, 11, 60, 61, 62, 63, 64, 65, 66, 67, 68, 69, 70, 71, 72, 73, 74, 75, 76, 77, 78, 79, 80, 81, 83, 84, 82, 85, 86, 12, 13, 87, 88, 89, 90, 91, 92, 93, 94, 95, 96, 97, 98, 99, 100, 101, 102, 103, 104, 105, 106, 107, 108, 109, 110, 111, 112, 113, 114, 115, 116, 117, 118, 119, 120, 121, 38, 39, 9] 2 0 (by kernel_rfl) (Nat.zero_le _) ⟨[(23, none), (24, none)], ?_, ?_, ?_, ?_⟩ ?_
      · simp only [go_sem]
      · refine tdFit0 rfl rfl
      · simp only [go_sem]
      · simp [goodNames, asg]
      intro i hi
      have hI := tdAt_I (X := X) hn1 i (by omega)
      have hT := tdAt_tl (n := n) (X := X) i
      have hstep : tdAt n X (i + 1) = tdStep n (tdAt n X i) (tdK X i) := rfl
      have hXi := hX i
      have hke : tdK X i = (modS (X i) 1048576).toNat := rfl
      have hkb := modS_in (n := X i) (m := 1048576) (by decide)
      generalize tdK X i = kk at hstep hke
      have hend : i = k → tdAt n X k = tdAt n X i := fun e => by rw [e]
      generalize tdAt n X i = t at hI hT hstep hend ⊢
      obtain ⟨⟨x, N, G, tl⟩, live, given⟩ := t
      have hN : n = N := hI.sn.symm
      subst hN
      obtain rfl : tl = noRows := hT
      have hll : live.length ≤ n := by
        have h1 : live.length = cntB x.toNat.testBit n := hI.cnt
        rw [h1]; exact cntB_le n
      have hgl : given.length ≤ i := hI.gl
      have tl0' : tlOK noRows := fun f => ⟨rfl, fun j hj => by have hj : j < 0 := hj; omega⟩
      simp only [go_sem, c16, m40, m44, F40, F44, hXi]
      refine ⟨fun h1 => ⟨by omega, h1, fun z1 k1 => ⟨by unfold inR; omega, fun z2 k2 => ⟨fun hc => ?_, fun hc => ?_⟩⟩⟩, fun h1 => ?_⟩
      · intro z3 k3
        have hpos : 0 < live.length := by omega
        have hz1 : z1 = kk := by omega
        have hz3 : z3 = ((kk / 3 : Nat) : Int) := by
          rw [k3, hz1, Int.tdiv_eq_ediv_of_nonneg (by omega), wrap_in (by unfold inR; omega)]; omega
        refine ⟨by omega, fun z4 k4 => ?_⟩
        have hz4 : z4 = ((kk / 3 % live.length : Nat) : Int) := by
          rw [k4, hz3, Int.tmod_eq_emod_of_nonneg (by omega)]; omega
        have hat := Nat.mod_lt (kk / 3) hpos
        have hmod : kk % 3 = 2 := by
          have hc1 : z2 = 2 := by simpa using hc.1
          rw [k2, hz1, Int.tmod_eq_emod_of_nonneg (by omega)] at hc1
          omega
        have hne : live ≠ [] := fun e => by rw [e] at hpos; simp at hpos
        have hs' : tdAt n X (i + 1) = ⟨frS ⟨x, n, G, noRows⟩ (live.getD (kk / 3 % live.length) (0, 0)).1 (live.getD (kk / 3 % live.length) (0, 0)).2, live.eraseIdx (kk / 3 % live.length), given⟩ := by
          rw [hstep]; unfold tdStep; rw [if_pos ⟨hmod, hne⟩]
        obtain ⟨f1, f2⟩ := hI.free hat
        subst hz4
        clear k4
        rw [Int.toNat_natCast]
        generalize kk / 3 % live.length = q at hat hs' f1 f2 ⊢
        have hl : lsF live q = [i64 (live.getD q (0, 0)).1, i64 (live.getD q (0, 0)).2] := rfl
        simp only [hl]
        simp only [go_sem, m44, F44]
        have f1 : TdI n i ⟨frS ⟨x, n, G, noRows⟩ (live.getD q (0, 0)).1 (live.getD q (0, 0)).2, live.eraseIdx q, given⟩ := f1
        have f2 : hasI ⟨x, n, G, noRows⟩ (live.getD q (0, 0)).1 (live.getD q (0, 0)).2 = true := f2
        have fn : (frS ⟨x, n, G, noRows⟩ (live.getD q (0, 0)).1 (live.getD q (0, 0)).2).n = n := f1.sn
        have ftl : (frS ⟨x, n, G, noRows⟩ (live.getD q (0, 0)).1 (live.getD q (0, 0)).2).tl = noRows := by unfold frS; split <;> rfl
        have hb : bytesT Tryz.prog 64 = 16 := by kernel_rfl
        rw [f2, ftl, fn]
        have e0 : ((q : Int) - 0).toNat = q := by omega
        have eq1 : IntKind.i64.wrap ((q : Int) + 1) = ((q + 1 : Nat) : Int) := by rw [wrap_in (by unfold inR; omega)]; omega
        rw [e0, eq1]
        simp only [forall_eq]
        have e1 : ((live.length : Int) - ((q + 1 : Nat) : Int)).toNat = live.length - (q + 1) := by omega
        rw [e1, Int.toNat_natCast]
        refine ⟨by omega, by omega, hat, tl0', hI.slOK, by omega, by omega, by omega, okCells_all fun _ => rfl, by rw [hb]; omega, by omega, by omega, by omega, by omega, okCells_all fun _ => rfl, by rw [hb]; omega, by omega, i + 1, by omega, by omega, [(23, some 76), (24, some 24)], by rw [wrap_in (by unfold inR; omega)]; omega, ?_, ?_⟩
        · rw [hs']
          refine tdFit (t := ⟨frS ⟨x, n, G, noRows⟩ (live.getD q (0, 0)).1 (live.getD q (0, 0)).2, live.eraseIdx q, given⟩) ?_ rfl ?_ rfl rfl rfl rfl (fun r hr => ?_) (fun _ _ => rfl)
          · show _ = (live.eraseIdx q).length
            rw [List.length_eraseIdx_of_lt hat]; omega
          · rw [if_pos trivial]; rfl
          · show _ = lsF (live.eraseIdx q) r
            have eg : ∀ j, (live.eraseIdx q).getD j (0, 0) = if j < q then live.getD j (0, 0) else live.getD (j + 1) (0, 0) := fun j => by
              rw [List.getD_eq_getElem?_getD, List.getElem?_eraseIdx]
              split <;> rw [List.getD_eq_getElem?_getD]
            unfold lsF
            rw [eg]
            simp only [Nat.zero_add, Nat.not_lt_zero, if_false, Nat.sub_zero]
            split
            · rfl
            · rw [show q + 1 + (r - q) = r + 1 by omega]
        · simp [goodNames, asg]
      · intro z3 k3
        have hnc : ¬ (kk % 3 = 2 ∧ live ≠ []) := by
          rintro ⟨c1, c2⟩
          have hz2 : z2 = 2 := by rw [k2, k1, show modS (X i) 1048576 = (kk : Int) by omega, Int.tmod_eq_emod_of_nonneg (by omega)]; omega
          have hpos : 0 < live.length := List.length_pos_iff.2 c2
          rw [hz2, decide_eq_true (by omega : (0 : Int) < live.length)] at hc
          cases hc
        refine ⟨tkS_tl _, hI.slOK, fun hl z k4 => ?_, fun hl => ?_⟩
        · have hl : live.length = n := by
            have : (live.length : Int) = n := by simpa using hl
            omega
          have hs' : tdAt n X (i + 1) = ⟨⟨x, n, G, noRows⟩, live, given⟩ := by
            rw [hstep]; unfold tdStep; rw [if_neg hnc]; exact if_pos hl
          have hf : tkI ⟨x, n, G, noRows⟩ = n := (hI.full (by omega)).1 hl
          have hnn : ¬ n < n := Nat.lt_irrefl _
          have hS : tkS ⟨x, n, G, noRows⟩ = ⟨x, n, G, noRows⟩ := by unfold tkS; rw [hf]; exact if_neg hnn
          have hH : tkH ⟨x, n, G, noRows⟩ = (0, 0) := by unfold tkH; rw [hf]; exact if_neg hnn
          have hE : tkE ⟨x, n, G, noRows⟩ = 10 := by unfold tkE; rw [hf]; exact if_neg hnn
          rw [hE] at k3
          subst k3
          rw [hS, hH]
          refine ⟨i + 1, by omega, by omega, [(23, some 23), (24, some 24)], by rw [k4, wrap_in (by unfold inR; omega)]; omega, ?_, ?_⟩
          · rw [hs']
            exact tdFit (t := ⟨⟨x, n, G, noRows⟩, live, given⟩) rfl rfl rfl rfl rfl rfl rfl (fun _ _ => rfl) (fun _ _ => rfl)
          · simp [goodNames, asg]
        · have hl : live.length ≠ n := by
            have : (live.length : Int) ≠ n := by simpa using hl
            omega
          have hs' : tdAt n X (i + 1) = ⟨tkS ⟨x, n, G, noRows⟩, live ++ [tkH ⟨x, n, G, noRows⟩], given ++ [tkH ⟨x, n, G, noRows⟩]⟩ := by
            rw [hstep]; unfold tdStep; rw [if_neg hnc]; exact if_neg hl
          obtain ⟨t1, t2, t3⟩ := hI.take (by omega) hl
          have t1 : TdI n (i + 1) ⟨tkS ⟨x, n, G, noRows⟩, live ++ [tkH ⟨x, n, G, noRows⟩], given ++ [tkH ⟨x, n, G, noRows⟩]⟩ := t1
          have t2 : tkE ⟨x, n, G, noRows⟩ = 0 := t2
          have t3 : tkH ⟨x, n, G, noRows⟩ ∉ given := t3
          have tn : (tkS ⟨x, n, G, noRows⟩).n = n := t1.sn
          have ttl : (tkS ⟨x, n, G, noRows⟩).tl = noRows := by unfold tkS; split <;> rfl
          rw [t2] at k3
          subst k3
          intro zb kb
          have hzb : zb = false := by
            rw [kb]
            refine decide_eq_false fun hm => t3 ?_
            rw [show (gxP fun i => lsF given i) = gxP (lsF given) from rfl, lP_ls] at hm
            exact hm
          subst hzb
          have hb : bytesT Tryz.prog 64 = 16 := by kernel_rfl
          refine ⟨fun _ => by omega, fun _ _ _ => trivial, by rw [hb]; omega, by omega, by rw [hb]; omega, by omega, fun z k4 => ⟨i + 1, by omega, by omega, [(23, some 76), (24, some 81)], by rw [k4, wrap_in (by unfold inR; omega)]; omega, ?_, ?_⟩⟩
          · rw [hs']
            have el : ∀ (l : List (Int × Int)) (h : Int × Int), (l ++ [h]).length = l.length + 1 := fun l h => by rw [List.length_append]; rfl
            rw [tn, ttl]
            generalize tkH ⟨x, n, G, noRows⟩ = hh
            exact tdFit (t := ⟨tkS ⟨x, n, G, noRows⟩, live ++ [hh], given ++ [hh]⟩) (el _ _).symm (el _ _).symm rfl rfl rfl rfl rfl (fun q hq => lsF_push hq) (fun q hq => lsF_push hq)
          · simp [goodNames, asg]
      · have e : i = k := by omega
        rw [hend e]
        exact newTd (t := ⟨⟨x, n, G, noRows⟩, live, given⟩) rfl rfl rfl rfl
    · cases hF
  · cases hF
end Go.Ax
end

section
/-
  The laws' tables: what is in them.
-/
set_option linter.unusedVariables false
set_option linter.unusedSimpArgs false
set_option maxHeartbeats 4000000
set_option maxRecDepth 100000
namespace Go.Ax
open Go.Proofs
theorem F34_eq {most : Int} {n : Nat} {g : Nat → List AV} : F34 [i64 most, .ro n 1 g] = some ((n ≤ 1000) :: inR most :: (∀ i, inR (gx g 0 i)) :: [ints n g], fun K => tdA K (tdAt (tdN most) (gx g 0) n), fun K => some (tdF K (tdAt (tdN most) (gx g 0) n))) := (rfl)
theorem tdF_eq {K : Nat} {t : TdS} : tdF K t = famR [⟨1, 2, 100, fun _ => [u64 t.s.x, .own K 1 t.s.n 1], none⟩, ⟨t.s.n, 1, 3, fun i => [i64 (t.s.G i)], none⟩] (famR [⟨t.live.length, 2, 64, lsF t.live, none⟩, ⟨t.given.length, 2, 64, lsF t.given, none⟩] noRows) := (rfl)
theorem famNK_td {K : Nat} {t : TdS} : famNK K (tdF K t) = True := eq_true fun f j hj c hc => by
  match f with
  | 0 =>
    have hc : c ∈ [u64 t.s.x, .own K 1 t.s.n 1] := hc
    simp only [List.mem_cons, List.not_mem_nil, or_false] at hc
    rcases hc with rfl | rfl
    · trivial
    · rfl
  | 1 =>
    have hc : c ∈ [i64 (t.s.G j)] := hc
    simp only [List.mem_cons, List.not_mem_nil, or_false] at hc
    subst hc; trivial
  | 2 =>
    have hc : c ∈ lsF t.live j := hc
    simp only [lsF, List.mem_cons, List.not_mem_nil, or_false] at hc
    rcases hc with rfl | rfl <;> trivial
  | 3 =>
    have hc : c ∈ lsF t.given j := hc
    simp only [lsF, List.mem_cons, List.not_mem_nil, or_false] at hc
    rcases hc with rfl | rfl <;> trivial
  | f + 4 => have hj : j < 0 := hj; omega
theorem famNK_td' {K : Nat} {t : TdS} : famNK K (famR [⟨1, 2, 100, fun _ => [u64 t.s.x, .own K 1 t.s.n 1], none⟩, ⟨t.s.n, 1, 3, fun i => [i64 (t.s.G i)], none⟩] (famR [⟨t.live.length, 2, 64, lsF t.live, none⟩, ⟨t.given.length, 2, 64, lsF t.given, none⟩] noRows)) = True := famNK_td
theorem tlOK_td {t : TdS} : tlOK (famR [⟨t.live.length, 2, 64, lsF t.live, none⟩, ⟨t.given.length, 2, 64, lsF t.given, none⟩] noRows) = True := eq_true fun f => match f with
  | 0 => ⟨rfl, fun j hj c hc => by
    have hc : c ∈ lsF t.live j := hc
    simp only [lsF, List.mem_cons, List.not_mem_nil, or_false] at hc
    rcases hc with rfl | rfl <;> rfl⟩
  | 1 => ⟨rfl, fun j hj c hc => by
    have hc : c ∈ lsF t.given j := hc
    simp only [lsF, List.mem_cons, List.not_mem_nil, or_false] at hc
    rcases hc with rfl | rfl <;> rfl⟩
  | f + 2 => ⟨rfl, fun j hj => by have hj : j < 0 := hj; omega⟩
theorem c15_eq : c15 [] = some ([], bo true) := (rfl)
attribute [go_sem] F34_eq tdF_eq famNK_td' tlOK_td c15_eq
/-! ### What is in the list of all handles -/
theorem cntB_up {T : Nat → Bool} {n : Nat} (h : ∀ j, n ≤ j → T j = false) : ∀ m, n ≤ m → cntB T m = cntB T n
  | 0, hm => by rw [show n = 0 by omega]
  | m + 1, hm => by
    by_cases e : n = m + 1
    · rw [e]
    · simp only [cntB]
      rw [if_neg (by rw [h m (by omega)]; decide), cntB_up h m (by omega)]; omega
theorem atOk_nat {x : Int} {n j : Nat} (hj : j < n) : atOk x n (j : Int) = x.toNat.testBit j := by
  unfold atOk
  rw [decide_eq_true (by omega), Bool.true_and, Int.toNat_natCast]
theorem allL_mem {x : Int} {n : Nat} {X : Nat → Int} {h : Int × Int} : ∀ {i}, i ≤ n → (h ∈ allL x n X i ↔ ∃ j : Nat, j < i ∧ x.toNat.testBit j = true ∧ h = ((j : Int), X j))
  | 0, _ => by simp [allL]
  | i + 1, hi => by
    rw [allL, List.mem_append, allL_mem (by omega), atOk_nat (by omega)]
    constructor
    · rintro (⟨j, h1, h2⟩ | h1)
      · exact ⟨j, by omega, h2⟩
      · by_cases hb : x.toNat.testBit i = true
        · rw [if_pos hb] at h1
          exact ⟨i, by omega, hb, by simpa using h1⟩
        · rw [if_neg hb] at h1; cases h1
    · rintro ⟨j, h1, h2, h3⟩
      by_cases e : j = i
      · subst e; exact .inr (by rw [if_pos h2, h3]; simp)
      · exact .inl ⟨j, by omega, h2, h3⟩
theorem allL_sorted {x : Int} {n : Nat} {X : Nat → Int} : ∀ i, i ≤ n → (allL x n X i).Pairwise fun a b => a.1 < b.1
  | 0, _ => .nil
  | i + 1, hi => by
    rw [allL]
    refine List.pairwise_append.2 ⟨allL_sorted i (by omega), ?_, fun a ha b hb => ?_⟩
    · split
      · exact List.pairwise_singleton _ _
      · exact .nil
    · obtain ⟨j, h1, h2, rfl⟩ := (allL_mem (by omega)).1 ha
      split at hb
      · have : b = ((i : Int), X i) := by simpa using hb
        rw [this]
        show (j : Int) < i
        omega
      · cases hb
theorem allL_len {x : Int} {n : Nat} {X : Nat → Int} : ∀ i, i ≤ n → (allL x n X i).length = cntB x.toNat.testBit i
  | 0, _ => rfl
  | i + 1, hi => by
    rw [allL, List.length_append, allL_len i (by omega), atOk_nat (by omega)]
    simp only [cntB]
    by_cases hb : x.toNat.testBit i = true
    · rw [if_pos hb, if_pos hb]; rfl
    · rw [if_neg hb, if_neg hb]; rfl
theorem mayT_gen {x : Int} {G : Nat → Int} {i : Nat} (h : G i < 2147483647) : mayT x G i = !x.toNat.testBit i := by
  unfold mayT
  rw [decide_eq_true h, Bool.and_true]
theorem tdN_in {most : Int} : 1 ≤ tdN most ∧ tdN most ≤ 64 := by
  have := modS_in (n := most) (m := 64) (by decide)
  unfold tdN; omega
end Go.Ax
end

section
/-
  The frame of a law: its arguments ars abstract values, and what they read ars behind the call.
-/
set_option linter.unusedSimpArgs false
set_option linter.unusedVariables false
namespace Go.Ax
open Go.ChangeShapes Go.WideShapes Go.ChangeAt Go.RowKit

/-- What an argument is. -/
inductive ShV where
  | int (k : IntKind)
  | bool
  | agg (es : List Sh)
  | slice (sz : Nat) (es : List Sh)

def shV (P : Program) (t : TypeId) : Option ShV :=
  match P.underlying t with
  | some .bool => some .bool
  | some (.int k) => some (.int k)
  | some (.slice _) => match shT P 6 t with
    | some [.slice sz es] => some (.slice sz es)
    | _ => none
  | some (.struct _) => (shT P 6 t).map .agg
  | some (.array _ _) => (shT P 6 t).map .agg
  | _ => none

def fitV : ShV → AV → Prop
  | .int k, a => ∃ n, a = .v (.int k n) ∧ (Lit.int k n).wf = true
  | .bool, a => ∃ b, a = .v (.bool b)
  | .agg es, a => ∃ l, a = .agg l ∧ fitS es l
  | .slice sz es, a => ∃ (n : Nat) (get : Nat → List AV), a = .ro n sz get ∧ n ≤ maxLen ∧ ∀ i, fitS es (get i)

def shVs (P : Program) : List TypeId → Option (List ShV)
  | [] => some []
  | t :: ts => match shV P t, shVs P ts with
    | some s, some r => some (s :: r)
    | _, _ => none
def fitVs : List ShV → List AV → Prop
  | [], l => l = []
  | s :: ss, l => ∃ a r, l = a :: r ∧ fitV s a ∧ fitVs ss r

section
variable {H : Type} {enc : TypeId × Value → H} {P : Program} {w : World} {spare : Nat → Bool} {held : Bool} {base : Nat}

theorem okWide_agg_struct {t : TypeId} {fs : Array Field} {v : Value} (ht : P.underlying t = some (.struct fs)) (h : Value.okWide P w .any base t v) : ∃ cs, v = .agg cs := by
  obtain ⟨cs, h, _⟩ := okWide_struct ht h
  exact ⟨cs, h⟩
theorem trod_agg_array {t e : TypeId} {n : Nat} {v : Value} {x : DataW H} {ps : List MemPlace} (ht : P.underlying t = some (.array n e)) (h : Value.okWide P w .any base t v) : ∃ cs, v = .agg cs := by
  cases v <;> simp [Value.okWide, Value.ok, ht] at h <;> exact ⟨_, rfl⟩

theorem arg_read {t : TypeId} {s : ShV} {v : Value} {x : DataW H} {ps : List MemPlace} (hs : shV P t = some s) (ho : Value.okWide P w .any base t v) (h : DataW.Trod enc P w 0 spare held t v x ps) : ∃ a, fitV s a ∧ R w (.ext (All w)) a v := by
  unfold shV at hs
  split at hs
  · rename_i hu
    cases hs
    obtain ⟨b, rfl⟩ := okWide_bool hu ho
    exact ⟨_, ⟨b, rfl⟩, .v⟩
  · rename_i k hu
    cases hs
    obtain ⟨n, rfl, _, _, hw⟩ := open_int hu ho h
    exact ⟨_, ⟨n, rfl, hw⟩, .v⟩
  · rename_i e hu
    split at hs
    · rename_i sz es he
      cases hs
      obtain ⟨a, len, cap, rfl⟩ := okWide_slice hu ho
      obtain ⟨n, get, h1, h2, h3⟩ := slice_read he h
      exact ⟨_, ⟨n, get, rfl, h1, h2⟩, h3⟩
    · cases hs
  · rename_i fs hu
    obtain ⟨es, he, rfl⟩ := Option.map_eq_some_iff.1 hs
    obtain ⟨cs, rfl⟩ := okWide_agg_struct hu ho
    obtain ⟨l, h1, h2⟩ := agg_read he h
    exact ⟨_, ⟨l, rfl, h1⟩, h2⟩
  · rename_i n e hu
    obtain ⟨es, he, rfl⟩ := Option.map_eq_some_iff.1 hs
    obtain ⟨cs, rfl⟩ := trod_agg_array (x := x) (ps := ps) hu ho
    obtain ⟨l, h1, h2⟩ := agg_read he h
    exact ⟨_, ⟨l, rfl, h1⟩, h2⟩
  · cases hs

theorem args_read : ∀ {ts : List TypeId} {ss : List ShV} {vs : List Value} {ds : List (DataW H)} {ps : List MemPlace}, shVs P ts = some ss → (∀ (j : Nat) t v, ts[j]? = some t → vs[j]? = some v → Value.okWide P w .any base t v) →
    DataW.TrodAll enc P w 0 spare held ts vs ds ps → ∃ l, fitVs ss l ∧ Rs w (.ext (All w)) l vs
  | [], ss, vs, ds, ps, hs, ho, h => by
    simp only [shVs, Option.some.injEq] at hs
    subst hs
    obtain ⟨rfl, rfl, rfl⟩ := trodAll_nil h
    exact ⟨[], rfl, .nil⟩
  | t :: ts, ss, vs, ds, ps, hs, ho, h => by
    simp only [shVs] at hs
    split at hs
    · rename_i s r h1 h2
      cases hs
      obtain ⟨v, vs', d, ds', p, q, rfl, rfl, rfl, h3, h4⟩ := trodAll_cons h
      obtain ⟨a, a1, a2⟩ := arg_read h1 (ho 0 t v rfl rfl) h3
      obtain ⟨l, b1, b2⟩ := args_read h2 (fun j t v hj hv => ho (j + 1) t v (by simpa using hj) (by simpa using hv)) h4
      exact ⟨a :: l, ⟨a, l, rfl, a1, b1⟩, Rs.cons a2 b2⟩
    · cases hs

/-- Types that may be read whole. -/
def readOK (P : Program) (ts : List TypeId) : Bool := ts.all fun t => P.readableRec t && decide (t < P.types.size)

theorem args_stay {W W' : World} (hl : laidOutB P = true) (hb : Below W.heap.size W W') : ∀ {ts : List TypeId} {vs : List Value} {ds : List (DataW H)} {ps : List MemPlace}, readOK P ts = true →
    DataW.TrodAll enc P W 0 (fun _ => true) true ts vs ds ps → ∃ ps, DataW.TrodAll enc P W' 0 (fun b => decide (b < W.heap.size)) true ts vs ds ps
  | [], vs, ds, ps, _, h => by
    obtain ⟨rfl, rfl, rfl⟩ := trodAll_nil h
    exact ⟨[], rfl⟩
  | t :: ts, vs, ds, ps, hr, h => by
    obtain ⟨v, vs', d, ds', p, q, rfl, rfl, rfl, h3, h4⟩ := trodAll_cons h
    simp only [readOK, List.all_cons, Bool.and_eq_true, decide_eq_true_eq] at hr
    obtain ⟨q', h5⟩ := args_stay hl hb (by simpa [readOK] using hr.2) h4
    refine ⟨_, trodAll_cons_mk (Below.trod hl hr.1.1 hr.1.2 h3 hb ?_) h5⟩
    obtain ⟨m, hm⟩ := h3
    exact DataW.trod_lt m _ _ _ hm
end
end Go.Ax
end

section
/-
  Laws about tables and sweeps: their arguments.
-/
set_option linter.unusedVariables false
set_option linter.unusedSimpArgs false
set_option maxHeartbeats 4000000
set_option maxRecDepth 100000
namespace Go.Ax
open Go.Proofs Go.ChangeShapes Go.WideShapes Go.ChangeAt Go.RowKit
theorem rowI {l : List AV} (h : fitS [.int .i64] l) : l = [i64 (gi l 0)] ∧ inR (gi l 0) := by
  obtain ⟨_, _, rfl, ⟨x0, rfl, k0⟩, rfl⟩ := h
  exact ⟨rfl, wf_i64 k0⟩
theorem rowsI {get : Nat → List AV} (h : ∀ i, fitS [.int .i64] (get i)) : get = (fun i => [i64 (gx get 0 i)]) ∧ ∀ i, inR (gx get 0 i) := ⟨funext fun i => (rowI (h i)).1, fun i => (rowI (h i)).2⟩
end Go.Ax
end
