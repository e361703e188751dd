/-
  The chapter's examples hold.
-/
import Derived.Test.YtfpgjkeelegdpaaGreatCM6
import Derived.WalkKit
import Derived.ProofKit
import Derived.ShutString
import Derived.ChangeOld
import Derived.Below
section
set_option linter.unusedVariables false
set_option linter.unusedSimpArgs false
set_option maxHeartbeats 4000000
set_option maxRecDepth 100000
namespace Go.Ax
open Go.Proofs
theorem slF_eq {K : Nat} {s : SlS} : slF K s = famR [⟨1, 2, 100, fun _ => [u64 s.x, .own K 1 s.n 1], none⟩, ⟨s.n, 1, 3, fun i => [i64 (s.G i)], none⟩] s.tl := (rfl)
def g0 : Nat → Int := fun _ => 0
def g1 : Nat → Int := upI g0 0 1
def g2 : Nat → Int := upI g1 1 1
theorem F45_3' : F45 [i64 3] = some ([], fun k => .tup [.bx k 0, i64 0], fun k => some (slF k ⟨0, 3, g0, noRows⟩)) := (rfl)
theorem tkI_0 : tkI ⟨0, 3, g0, noRows⟩ = 0 := by decide +kernel
theorem tkI_1 : tkI ⟨1, 3, g1, noRows⟩ = 1 := by decide +kernel
theorem tkS_0 : tkS ⟨0, 3, g0, noRows⟩ = ⟨1, 3, g1, noRows⟩ := by
  unfold tkS; rw [tkI_0]; rfl
theorem tkS_1 : tkS ⟨1, 3, g1, noRows⟩ = ⟨3, 3, g2, noRows⟩ := by
  unfold tkS; rw [tkI_1]; rfl
theorem tkE_0 : tkE ⟨0, 3, g0, noRows⟩ = 0 := by decide +kernel
theorem tkE_1 : tkE ⟨1, 3, g1, noRows⟩ = 0 := by decide +kernel
theorem tkH_0 : tkH ⟨0, 3, g0, noRows⟩ = (0, 1) := by decide +kernel
theorem tkH_1 : tkH ⟨1, 3, g1, noRows⟩ = (1, 1) := by decide +kernel
theorem slOK_0 : slOK ⟨0, 3, g0, noRows⟩ = True := eq_true ⟨⟨by decide, by decide⟩, ⟨by decide, by decide⟩, by decide⟩
theorem slOK_1 : slOK ⟨1, 3, g1, noRows⟩ = True := eq_true ⟨⟨by decide, by decide⟩, ⟨by decide, by decide⟩, by decide⟩
theorem slOK_2 : slOK ⟨3, 3, g2, noRows⟩ = True := eq_true ⟨⟨by decide, by decide⟩, ⟨by decide, by decide⟩, by decide⟩
theorem has_2 : hasI ⟨3, 3, g2, noRows⟩ 1 1 = true := by decide +kernel
theorem fr_2 : frS ⟨3, 3, g2, noRows⟩ 1 1 = ⟨1, 3, g2, noRows⟩ := by
  unfold frS; rw [has_2]; rfl
theorem at_3 : atOk 1 3 1 = false := by decide +kernel
theorem at_4 : atOk 1 3 0 = true := by decide +kernel
theorem g2_0 : g2 0 = 1 := (rfl)
theorem g2_0' : g2 (Int.toNat 0) = 1 := (rfl)
theorem selIn_sh : selIn shL = True := eq_true fun k j => by
  have h : memSel shL k = none ∨ memSel shL k = some [0, 0, 10, 10] ∨ memSel shL k = some [10, 5, 20, 8] ∨ memSel shL k = some [11, 0, 12, 4] := by
    unfold shL
    simp only [memSel]
    repeat' split
    all_goals simp
  rcases h with h | h | h | h <;> rw [h] <;> unfold selAt inR <;> dsimp only <;> (try (rcases j with _ | _ | _ | _ | j <;> simp <;> omega)) <;> (try omega)
theorem ms_eq {α : Type} {le : α → α → Bool} (tr : ∀ a b c, le a b = true → le b c = true → le a c = true) (tot : ∀ a b, (le a b || le b a) = true) (anti : ∀ a b, le a b = true → le b a = true → a = b) {l l' : List α} (hp : l.Perm l') (hs : l'.Pairwise fun a b => le a b = true) : l.mergeSort le = l' :=
  List.Perm.eq_of_pairwise (le := fun a b => le a b = true) (fun a b _ _ h1 h2 => anti a b h1 h2) (List.pairwise_mergeSort tr tot l) hs ((List.mergeSort_perm l le).trans hp)
theorem srtK_eq {L : Ents} {l : List Int} (hp : (L.map (·.1)).Perm l) (hs : l.Pairwise fun a b => a ≤ b) : srtK L = l :=
  ms_eq (by simp; omega) (by simp; omega) (by simp; omega) hp (hs.imp fun h => by simpa using h)
theorem srtX_eq {L : Ents} {l l' : List Int} (hp : l.Perm l') (hs : l'.Pairwise fun a b => (!Go.Proofs.ltOf (cfL L) b a) = true) : srtX L l = l' :=
  ms_eq (fun a b c h1 h2 => by rw [cfL_lt] at *; simp at *; omega) (fun a b => by rw [cfL_lt, cfL_lt, Bool.or_eq_true]; simp; omega) (fun a b h1 h2 => by rw [cfL_lt] at *; simp at *; omega) hp hs
theorem srtP_eq {l l' : List (Int × Int)} (hp : l.Perm l') (hs : l'.Pairwise fun a b => (!Go.Proofs.ltOf cfP b a) = true) : srtP l = l' :=
  ms_eq (fun a b c h1 h2 => by rw [cfP_lt] at *; simp at *; omega) (fun a b => by rw [cfP_lt, cfP_lt, Bool.or_eq_true]; simp; omega) (fun a b h1 h2 => cfP_tot (by simpa using h2) (by simpa using h1)) hp hs
theorem srtK_sh : srtK shL = [2, 5, 9] := srtK_eq (by decide) (by decide)
theorem ord_sh : ordL shL = [5, 2, 9] := by
  unfold ordL
  rw [srtK_sh]
  exact srtX_eq (by decide) (by decide +kernel)
theorem pairs_sh : pairsL shL = [(2, 5)] := by
  unfold pairsL
  rw [ord_sh, show (pw shL [5, 2, 9]).1 = [(2, 5)] by decide +kernel]
  exact srtP_eq (List.Perm.refl _) (by decide)
theorem seen_sh : seenL shL (fun x y z t => meetsS x y z t 12 4 13 6) = [2, 9] := by
  unfold seenL
  rw [srtK_sh]
  decide +kernel
theorem shL_len : shL.length = 3 := (rfl)
theorem c20_eq {a b : AV} : c20 [a, b] = c20f (roP a) (roP b) := (rfl)
theorem c20f_some {o1 o2 : List Prop} {n m : Nat} {X Y : Nat → Int × Int} : c20f (some (o1, n, X)) (some (o2, m, Y)) = some ((n ≤ 100000) :: (o1 ++ o2), bo (decide (lP n X = lP m Y))) := (rfl)
theorem c49_eq {a b : AV} : c49 [a, b] = c49f (roI a) (roI b) := (rfl)
theorem c49f_some {o1 o2 : List Prop} {n m : Nat} {X Y : Nat → Int} : c49f (some (o1, n, X)) (some (o2, m, Y)) = some ((n ≤ 100000) :: (o1 ++ o2), bo (decide (lX n X = lX m Y))) := (rfl)
theorem famNK_ls {key n : Nat} {l : List (Int × Int)} {ty : TypeId} {g : Option Bool} : famNK key (famN n 2 ty (lsF l) g) = True := eq_true fun f j hj c hc => by
  match f with
  | 0 =>
    have hc : c ∈ lsF l j := hc
    simp only [lsF, List.mem_cons, List.not_mem_nil, or_false] at hc
    rcases hc with rfl | rfl <;> trivial
  | f + 1 => have hj : j < 0 := hj; omega
theorem purL_ls {d : Nat} {m : Mem} {l : List (Int × Int)} {i : Nat} : purL (d + 1) m (lsF l i) = lsF l i := (rfl)
attribute [go_sem] purL_ls c20_eq c20f_some c49_eq c49f_some famNK_ls roI_ro roI_nil roP_ro roP_nil
def c15 : Con
  | [] => some ([], bo true)
  | _ => none
theorem aw_p : decide (lP 1 (gxP fun i => lsF [(2, 5)] i) = lP 1 (gxP (rowsOf 2 [i64 2, i64 5]))) = true := by decide +kernel
theorem aw_i : decide ((lX 2 fun i => [2, 9].getD i 0) = lX 2 (gx (rowsOf 1 [i64 2, i64 9]) 0)) = true := by decide +kernel
theorem aw_q : (∀ i, i < 1 → List.take 2 (List.drop (i * 2) [i64 2, i64 5]) = canP (rowsOf 2 [i64 2, i64 5]) i) = True := eq_true fun i hi => by
  obtain rfl : i = 0 := by omega
  rfl
theorem aw_j : ints 2 (rowsOf 1 [i64 2, i64 9]) = True := eq_true fun i hi => by
  match i, hi with
  | 0, _ => rfl
  | 1, _ => rfl
theorem inR_13 : inR 13 = True := inR_l (by decide)
theorem inR_6 : inR 6 = True := inR_l (by decide)
theorem con15 : ConOK Tryz.prog 15 c15 := ConOK.of (G := [(45, .wr m45), (57, .wr mN57), (40, .wr m40), (44, .wr m44), (60, k60), (21, .wr mN21), (20, c20), (25, c25), (50, .wr mN50), (49, c49)]) (H := []) (.mcons mon45 (.mcons mon57 (.mcons mon40 (.mcons mon44 (.cons con60 (.mcons mon21 (.cons con20 (.cons con25 (.mcons mon50 (.cons con49 .nil)))))))))) Tryz.func15 fun l ob rr hc hob => by
  unfold c15 at hc
  split at hc
  · cases hc
    refine ⟨by kernel_rfl, fnVC_go (rs := [.tmp 0]) rfl rfl ?_⟩
    simp only [go_sem, mN57_eq, m40, m44, m45, k60, slF_eq, swF_eq, F45_3', F40, F44, F60, tkS_0, tkS_1, tkE_0, tkE_1, tkH_0, tkH_1, slOK_0, slOK_1, slOK_2, has_2, fr_2, at_3, at_4, g2_0, g2_0', famNK_W', selIn_sh, pairs_sh, seen_sh, shL_len, F21, F50, mN21_eq, c25, aw_p, aw_i, aw_q, aw_j, inR_4, inR_12, inR_13, inR_6]
    have b0 : ((0 : Int) != 0) = false := by decide
    have b1 : ((0 : Int) == 0) = true := by decide
    have b2 : ((1 : Int) == 1) = true := by decide
    simp only [forall_eq, b0, b1, b2, false_or, or_false, Bool.false_eq_true, false_imp_iff, true_imp_iff, true_and, and_true, and_self, not_true, eq_self, not_false_iff, imp_self, implies_true, Bool.and_true, Bool.not_false, Bool.and_self, Bool.true_eq_false, false_imp_iff, imp_true_iff, aw_p, aw_i, aw_q, aw_j]
  · cases hc
end Go.Ax
end

section
/-
  What the laws ask of lists of handles, and of what is in a list.
-/
set_option linter.unusedVariables false
set_option linter.unusedSimpArgs false
set_option maxHeartbeats 4000000
set_option maxRecDepth 100000
namespace Go.Ax
open Go.Proofs
def c43f : Option (List Prop × Nat × (Nat → Int × Int)) → Option (List Prop × Nat × (Nat → Int × Int)) → Option (List Prop × AV)
  | some (o1, n, X), some (o2, m, Y) => some ((n ≤ 100000) :: (o1 ++ o2), bo (decide (lP n X = lP m Y)))
  | _, _ => none
def c43 : Con
  | [a, b] => c43f (roP a) (roP b)
  | _ => none
def c38f (n : Nat) (X : Nat → Int × Int) (z : Int × Int) (ob : List Prop) : List Prop × AV := ((n ≤ 100000) :: ob, bo (decide (z ∈ lP n X)))
def c38 : Con
  | [a, .agg [.v (.int .i64 z1), .v (.int .i64 z2)]] => match roP a with
    | some (ob, n, X) => some (c38f n X (z1, z2) ob)
    | none => none
  | _ => none
end Go.Ax
end

section
/-
  Lists of handles, ars rows of one's own; tables that are alike.
-/
set_option linter.unusedVariables false
set_option linter.unusedSimpArgs false
set_option maxHeartbeats 4000000
set_option maxRecDepth 100000
namespace Go.Ax
open Go.Proofs
attribute [go_sem] Tryz.underlying4
def FN35 : List AV → Option (List Prop × (Nat → AV) × (Nat → Option Fam))
  | [.rop [.v (.int .u64 x), .ro n 1 g]] => some ([0 ≤ x, x < 18446744073709551616, 0 < n, n ≤ 64, ints n g], fun k => .own k 0 (allL x n (gx g 0) n).length 2, fun k => some (famN (allL x n (gx g 0) n).length 2 64 (lsF (allL x n (gx g 0) n)) none))
  | _ => none
noncomputable def mN35W : MCon := mcKU FN35
theorem mN35W_eq : mN35W = mcKU FN35 := (rfl)
theorem FN35_eq {x : Int} {n : Nat} {g : Nat → List AV} : FN35 [.rop [u64 x, .ro n 1 g]] = some ([0 ≤ x, x < 18446744073709551616, 0 < n, n ≤ 64, ints n g], fun k => .own k 0 (allL x n (gx g 0) n).length 2, fun k => some (famN (allL x n (gx g 0) n).length 2 64 (lsF (allL x n (gx g 0) n)) none)) := (rfl)
attribute [go_sem] mN35W_eq FN35_eq
def FN93 : List AV → Option (List Prop × (Nat → AV) × (Nat → Option Fam))
  | [.rop [.ro n 1 g, .ro m 1 h]] => some ([m = n, 0 < n, n ≤ 64, ints n g, bools n h], fun k => .own k 0 (rtL n (gx g 0) (fun i => gz (h i)) n).length 2, fun k => some (famN (rtL n (gx g 0) (fun i => gz (h i)) n).length 2 64 (lsF (rtL n (gx g 0) (fun i => gz (h i)) n)) none))
  | _ => none
noncomputable def mN93W : MCon := mcKU FN93
theorem mN93W_eq : mN93W = mcKU FN93 := (rfl)
theorem FN93_eq {n m : Nat} {g h : Nat → List AV} : FN93 [.rop [.ro n 1 g, .ro m 1 h]] = some ([m = n, 0 < n, n ≤ 64, ints n g, bools n h], fun k => .own k 0 (rtL n (gx g 0) (fun i => gz (h i)) n).length 2, fun k => some (famN (rtL n (gx g 0) (fun i => gz (h i)) n).length 2 64 (lsF (rtL n (gx g 0) (fun i => gz (h i)) n)) none)) := (rfl)
attribute [go_sem] mN93W_eq FN93_eq
end Go.Ax
end

section
/-
  What the laws' tables go through: the plain law.
-/
set_option linter.unusedVariables false
set_option linter.unusedSimpArgs false
set_option maxHeartbeats 4000000
set_option maxRecDepth 100000
namespace Go.Ax
open Go.Proofs
/-- A table to which something was done. -/
structure TdS where
  s : SlS
  live : List (Int × Int)
  given : List (Int × Int)
def tdStep (n : Nat) (t : TdS) (k : Nat) : TdS :=
  if k % 3 = 2 ∧ t.live ≠ [] then
    let i := k / 3 % t.live.length
    ⟨frS t.s (t.live.getD i (0, 0)).1 (t.live.getD i (0, 0)).2, t.live.eraseIdx i, t.given⟩
  else if t.live.length = n then t
  else ⟨tkS t.s, t.live ++ [tkH t.s], t.given ++ [tkH t.s]⟩
/-- What holds of it, at most r handles having been given. -/
structure TdI (n r : Nat) (t : TdS) : Prop where
  sn : t.s.n = n
  n1 : 1 ≤ n ∧ n ≤ 64
  x0 : 0 ≤ t.s.x ∧ t.s.x < 18446744073709551616
  hi : ∀ j, n ≤ j → t.s.x.toNat.testBit j = false
  cnt : t.live.length = cntB t.s.x.toNat.testBit n
  liv : ∀ h ∈ t.live, ∃ i : Nat, i < n ∧ h = ((i : Int), t.s.G i) ∧ t.s.x.toNat.testBit i = true
  nod : t.live.Pairwise fun a b => a.1 ≠ b.1
  has : ∀ i, i < n → t.s.x.toNat.testBit i = true → ((i : Int), t.s.G i) ∈ t.live
  giv : ∀ h ∈ t.given, ∃ i : Nat, i < n ∧ h.1 = i ∧ 1 ≤ h.2 ∧ h.2 ≤ t.s.G i
  gen : ∀ i, i < n → 0 ≤ t.s.G i ∧ t.s.G i ≤ r
  sub : ∀ h ∈ t.live, h ∈ t.given
  gl : t.given.length ≤ r
theorem cntB_full {T : Nat → Bool} : ∀ {n : Nat}, cntB T n = n ↔ ∀ i, i < n → T i = true
  | 0 => by simp [cntB]
  | n + 1 => by
    have h1 := cntB_le (T := T) n
    have ih := cntB_full (T := T) (n := n)
    simp only [cntB]
    constructor
    · intro h i hi
      have h2 : T n = true := by
        by_cases h3 : T n = true
        · exact h3
        · rw [if_neg h3] at h; omega
      rw [if_pos h2] at h
      by_cases e : i = n
      · rw [e]; exact h2
      · exact ih.1 (by omega) i (by omega)
    · intro h
      rw [if_pos (h n (by omega)), ih.2 fun i hi => h i (by omega)]
theorem cntB_add1 {T T' : Nat → Bool} {k : Nat} : ∀ {n : Nat}, k < n → T k = false → T' k = true → (∀ j, j ≠ k → T' j = T j) → cntB T' n = cntB T n + 1
  | 0, h, _, _, _ => by omega
  | n + 1, h, h1, h2, h3 => by
    simp only [cntB]
    by_cases e : k = n
    · subst e
      rw [if_pos h2, if_neg (by rw [h1]; decide), cntB_congr fun i hi => h3 i (by omega)]
    · rw [cntB_add1 (by omega) h1 h2 h3, h3 n (fun e2 => e e2.symm)]
      omega
theorem TdI.full {n r : Nat} {t : TdS} (h : TdI n r t) (hr : r < 2147483647) : t.live.length = n ↔ tkI t.s = n := by
  have hn := h.sn
  rw [h.cnt, cntB_full]
  constructor
  · intro h1
    unfold tkI
    rw [hn]
    exact lst_full fun j hj => by unfold mayT; rw [h1 j hj]; rfl
  · intro h1 i hi
    by_cases h2 : t.s.x.toNat.testBit i = true
    · exact h2
    · exfalso
      have h3 := h.gen i hi
      have h4 : mayT t.s.x t.s.G i = true := by
        unfold mayT
        have : t.s.x.toNat.testBit i = false := by simpa using h2
        rw [this, decide_eq_true (by omega)]; rfl
      unfold tkI at h1
      rw [hn] at h1
      have h5 := lst_no (p := mayT t.s.x t.s.G) (n := n) (i := i) (by omega)
      rw [h4] at h5
      cases h5
theorem TdI.slOK {n r : Nat} {t : TdS} (h : TdI n r t) : slOK t.s := ⟨h.x0, by rw [h.sn]; exact ⟨by have := h.n1.1; omega, h.n1.2⟩, fun i hi => (h.gen i (by rw [h.sn] at hi; exact hi)).1⟩
theorem setX_bit {x : Int} {i j : Nat} : (setX x (i : Int)).toNat.testBit j = (x.toNat.testBit j || decide (j = i)) := by
  unfold setX
  rw [Int.toNat_natCast, Int.toNat_natCast, setN_bit]
theorem TdI.take {n r : Nat} {t : TdS} (h : TdI n r t) (hr : r < 2147483647) (hl : t.live.length ≠ n) : TdI n (r + 1) ⟨tkS t.s, t.live ++ [tkH t.s], t.given ++ [tkH t.s]⟩ ∧ tkE t.s = 0 ∧ tkH t.s ∉ t.given := by
  have hn := h.sn
  have hne : tkI t.s ≠ n := fun e => hl ((h.full hr).2 e)
  have hle : tkI t.s ≤ n := by unfold tkI; rw [hn]; exact lst_le n
  have hlt : tkI t.s < t.s.n := by rw [hn]; omega
  have hm : mayT t.s.x t.s.G (tkI t.s) = true := lst_yes (p := mayT t.s.x t.s.G) (n := t.s.n) hlt
  have hS : tkS t.s = ⟨setX t.s.x (tkI t.s : Nat), t.s.n, upI t.s.G (tkI t.s) (t.s.G (tkI t.s) + 1), t.s.tl⟩ := by unfold tkS; rw [if_pos hlt]
  have hH : tkH t.s = ((tkI t.s : Int), t.s.G (tkI t.s) + 1) := by unfold tkH; rw [if_pos hlt]
  have hE : tkE t.s = 0 := by unfold tkE; rw [if_pos hlt]
  rw [hn] at hlt
  have hb : t.s.x.toNat.testBit (tkI t.s) = false := by
    unfold mayT at hm
    rw [Bool.and_eq_true] at hm
    simpa using hm.1
  generalize tkI t.s = i at *
  have hgi := h.gen i hlt
  have hn1 := h.n1
  refine ⟨?_, hE, fun hg => ?_⟩
  · rw [hS, hH]
    refine ⟨hn, hn1, ⟨?_, ?_⟩, fun j hj => ?_, ?_, fun z hz => ?_, ?_, fun j hj hb2 => ?_, fun z hz => ?_, fun j hj => ?_, fun z hz => ?_, by rw [List.length_append, List.length_singleton]; have := h.gl; omega⟩
    · show (0 : Int) ≤ setX _ _
      unfold setX; omega
    · show setX _ _ < _
      unfold setX
      rw [Int.toNat_natCast]
      have := h.x0
      have := setN_lt (a := t.s.x.toNat) (k := i) (by omega) (by omega)
      omega
    · show (setX _ _).toNat.testBit j = false
      rw [setX_bit, h.hi j hj, decide_eq_false (by omega)]; rfl
    · show (t.live ++ [_]).length = cntB (setX _ _).toNat.testBit n
      rw [List.length_append, List.length_singleton, h.cnt]
      exact (cntB_add1 hlt hb (by rw [setX_bit, decide_eq_true rfl, Bool.or_true]) fun j hj => by rw [setX_bit, decide_eq_false hj, Bool.or_false]).symm
    · rcases List.mem_append.1 hz with hz | hz
      · obtain ⟨j, h1, h2, h3⟩ := h.liv z hz
        have hji : j ≠ i := fun e => by rw [e, hb] at h3; cases h3
        exact ⟨j, h1, by show z = ((j : Int), upI _ _ _ j); unfold upI; rw [if_neg hji]; exact h2, by show (setX _ _).toNat.testBit j = true; rw [setX_bit, h3]; rfl⟩
      · simp only [List.mem_cons, List.not_mem_nil, or_false] at hz
        exact ⟨i, hlt, by show z = ((i : Int), upI _ _ _ i); unfold upI; rw [if_pos rfl]; exact hz, by show (setX _ _).toNat.testBit i = true; rw [setX_bit, decide_eq_true rfl, Bool.or_true]⟩
    · refine List.pairwise_append.2 ⟨h.nod, List.pairwise_singleton _ _, fun a ha b hb2 => ?_⟩
      simp only [List.mem_cons, List.not_mem_nil, or_false] at hb2
      obtain ⟨j, h1, h2, h3⟩ := h.liv a ha
      rw [hb2, h2]
      intro e
      have e : (j : Int) = i := e
      have : j = i := by omega
      rw [this, hb] at h3; cases h3
    · have hb2 : (setX t.s.x (i : Int)).toNat.testBit j = true := hb2
      rw [setX_bit] at hb2
      show ((j : Int), upI _ _ _ j) ∈ _
      unfold upI
      by_cases e : j = i
      · rw [if_pos e, e]; simp
      · rw [if_neg e]
        rw [decide_eq_false e, Bool.or_false] at hb2
        exact List.mem_append_left _ (h.has j hj hb2)
    · rcases List.mem_append.1 hz with hz | hz
      · obtain ⟨j, h1, h2, h3, h4⟩ := h.giv z hz
        refine ⟨j, h1, h2, h3, ?_⟩
        show z.2 ≤ upI _ _ _ j
        unfold upI
        split
        · rename_i e; rw [e] at h4; omega
        · exact h4
      · simp only [List.mem_cons, List.not_mem_nil, or_false] at hz
        refine ⟨i, hlt, by rw [hz], by rw [hz]; show (1 : Int) ≤ _ + 1; omega, ?_⟩
        show z.2 ≤ upI _ _ _ i
        unfold upI
        rw [if_pos rfl, hz]
        exact Int.le_refl _
    · show 0 ≤ upI _ _ _ j ∧ upI _ _ _ j ≤ _
      unfold upI
      have := h.gen j hj
      split <;> omega
    · rcases List.mem_append.1 hz with hz | hz
      · exact List.mem_append_left _ (h.sub z hz)
      · exact List.mem_append_right _ hz
  · rw [hH] at hg
    obtain ⟨j, h1, h2, h3, h4⟩ := h.giv _ hg
    have h2 : (i : Int) = j := h2
    have h4 : t.s.G i + 1 ≤ t.s.G j := h4
    have : i = j := by omega
    rw [this] at h4
    omega
theorem clrX_bit {x : Int} {i j : Nat} (hi : i < 64) (hx : 0 ≤ x ∧ x < 18446744073709551616) : (clrX x (i : Int)).toNat.testBit j = (x.toNat.testBit j && decide (j ≠ i)) := by
  unfold clrX
  rw [Int.toNat_natCast, Int.toNat_natCast]
  by_cases hj : j < 64
  · exact clrN_bit hi hj
  · have h1 : x.toNat.testBit j = false := Nat.testBit_lt_two_pow (Nat.lt_of_lt_of_le (show x.toNat < 2 ^ 64 by omega) (Nat.pow_le_pow_right (by omega) (by omega)))
    rw [h1, clrN_hi h1]; rfl
theorem TdI.free {n r : Nat} {t : TdS} (h : TdI n r t) {k : Nat} (hk : k < t.live.length) : TdI n r ⟨frS t.s (t.live.getD k (0, 0)).1 (t.live.getD k (0, 0)).2, t.live.eraseIdx k, t.given⟩ ∧ hasI t.s (t.live.getD k (0, 0)).1 (t.live.getD k (0, 0)).2 = true := by
  have hz : t.live[k]? = some (t.live.getD k (0, 0)) := by rw [List.getD_eq_getElem?_getD, List.getElem?_eq_getElem hk]; rfl
  obtain ⟨i, h1, h2, h3⟩ := h.liv _ (List.mem_of_getElem? hz)
  rw [h2] at hz ⊢
  have hn := h.sn
  have hn1 := h.n1
  have hhas : hasI t.s i (t.s.G i) = true := by
    unfold hasI atOk
    rw [hn, Int.toNat_natCast, h3, decide_eq_true (by omega)]
    simp
  refine ⟨?_, hhas⟩
  have hS : frS t.s i (t.s.G i) = ⟨clrX t.s.x i, t.s.n, t.s.G, t.s.tl⟩ := by unfold frS; rw [if_pos hhas]
  show TdI n r ⟨frS t.s (i : Int) (t.s.G i), _, _⟩
  rw [hS]
  have hbit : ∀ j, (clrX t.s.x (i : Int)).toNat.testBit j = (t.s.x.toNat.testBit j && decide (j ≠ i)) := fun j => clrX_bit (by omega) h.x0
  have hmem : ∀ z, z ∈ t.live.eraseIdx k → z ∈ t.live ∧ z.1 ≠ i := fun z hz2 => by
    obtain ⟨q, hq, hq2⟩ := List.mem_eraseIdx_iff_getElem?.1 hz2
    refine ⟨List.mem_of_getElem? hq2, fun e => ?_⟩
    have hp := List.pairwise_iff_getElem.1 h.nod
    obtain ⟨q1, q2⟩ := List.getElem?_eq_some_iff.1 hq2
    obtain ⟨k1, k2⟩ := List.getElem?_eq_some_iff.1 hz
    rcases Nat.lt_or_gt_of_ne hq with h5 | h5
    · have := hp q k q1 k1 h5
      rw [q2, k2] at this
      exact this e
    · have := hp k q k1 q1 h5
      rw [q2, k2] at this
      exact this e.symm
  have hback : ∀ z, z ∈ t.live → z.1 ≠ i → z ∈ t.live.eraseIdx k := fun z hz2 hne => by
    obtain ⟨q, hq⟩ := List.mem_iff_getElem?.1 hz2
    refine List.mem_eraseIdx_iff_getElem?.2 ⟨q, fun e => ?_, hq⟩
    rw [e, hz] at hq
    cases hq
    exact hne rfl
  refine ⟨hn, hn1, ⟨?_, ?_⟩, fun j hj => ?_, ?_, fun z hz2 => ?_, ?_, fun j hj hb2 => ?_, h.giv, h.gen, fun z hz2 => h.sub z (hmem z hz2).1, h.gl⟩
  · show (0 : Int) ≤ clrX _ _
    unfold clrX; omega
  · show clrX _ _ < _
    unfold clrX
    have := h.x0
    have := clrN_lt (a := t.s.x.toNat) (k := 2 ^ (i : Int).toNat) (by omega)
    omega
  · show (clrX _ _).toNat.testBit j = false
    rw [hbit, h.hi j hj]; rfl
  · show (t.live.eraseIdx k).length = cntB (clrX _ _).toNat.testBit n
    have h4 := cntB_add1 (T := (clrX t.s.x (i : Int)).toNat.testBit) (T' := t.s.x.toNat.testBit) h1 (by rw [hbit]; simp) h3 (fun j hj => by rw [hbit, decide_eq_true hj, Bool.and_true])
    rw [List.length_eraseIdx_of_lt hk, h.cnt, h4]
    rfl
  · obtain ⟨m1, m2⟩ := hmem z hz2
    obtain ⟨j, j1, j2, j3⟩ := h.liv z m1
    refine ⟨j, j1, j2, ?_⟩
    show (clrX _ _).toNat.testBit j = true
    rw [hbit, j3, decide_eq_true (by rintro rfl; exact m2 (by rw [j2]))]
    rfl
  · exact h.nod.sublist (List.eraseIdx_sublist _ _)
  · have hb2 : (clrX t.s.x (i : Int)).toNat.testBit j = true := hb2
    rw [hbit, Bool.and_eq_true, decide_eq_true_iff] at hb2
    exact hback _ (h.has j hj hb2.1) (by show (j : Int) ≠ i; omega)
theorem TdI.more {n r : Nat} {t : TdS} (h : TdI n r t) : TdI n (r + 1) t := ⟨h.sn, h.n1, h.x0, h.hi, h.cnt, h.liv, h.nod, h.has, h.giv, fun i hi => by have := h.gen i hi; omega, h.sub, Nat.le_succ_of_le h.gl⟩
theorem TdI.step {n r : Nat} {t : TdS} (h : TdI n r t) (hr : r < 2147483647) (k : Nat) : TdI n (r + 1) (tdStep n t k) := by
  unfold tdStep
  split
  · rename_i hc
    have hl : 0 < t.live.length := List.length_pos_iff.2 hc.2
    exact (h.free (Nat.mod_lt _ hl)).1.more
  · split
    · exact h.more
    · rename_i hl
      exact (h.take hr hl).1
def td0 (n : Nat) : TdS := ⟨⟨0, n, fun _ => 0, noRows⟩, [], []⟩
theorem cntB_zero {n : Nat} : cntB (Int.toNat 0).testBit n = 0 := by
  induction n with
  | zero => rfl
  | succ n ih => simp only [cntB, ih]; simp
theorem TdI.init {n : Nat} (h : 1 ≤ n ∧ n ≤ 64) : TdI n 0 (td0 n) := by
  refine ⟨rfl, h, ⟨Int.le_refl 0, by show (0 : Int) < _; omega⟩, fun j _ => ?_, ?_, fun z hz => (by cases hz), List.Pairwise.nil, fun i _ hb => ?_, fun z hz => (by cases hz), fun i _ => ⟨Int.le_refl 0, Int.le_refl 0⟩, fun z hz => (by cases hz), Nat.le_refl 0⟩
  · show (Int.toNat 0).testBit j = false
    simp
  · exact cntB_zero.symm
  · have hb : (Int.toNat 0).testBit i = true := hb
    simp at hb
def tdRun (n : Nat) (ks : List Nat) : TdS := ks.foldl (tdStep n) (td0 n)
theorem TdI.run {n : Nat} (h : 1 ≤ n ∧ n ≤ 64) (ks : List Nat) : ks.length < 2147483647 → TdI n ks.length (tdRun n ks) := by
  have main : ∀ (ks : List Nat) (r : Nat) (t : TdS), TdI n r t → r + ks.length < 2147483647 → TdI n (r + ks.length) (ks.foldl (tdStep n) t) := fun ks => by
    induction ks with
    | nil => exact fun r t ht _ => ht
    | cons k ks ih =>
      intro r t ht hr
      rw [List.length_cons] at hr ⊢
      have := ih (r + 1) _ (ht.step (by omega) k) (by omega)
      rw [show r + (ks.length + 1) = r + 1 + ks.length by omega]
      exact this
  intro hl
  have := main ks 0 (td0 n) (.init h) (by omega)
  rw [Nat.zero_add] at this
  exact this
end Go.Ax
end

section
/-
  What the laws' sweeps are made of: boxes of numbers.
-/
set_option linter.unusedVariables false
set_option linter.unusedSimpArgs false
set_option maxHeartbeats 4000000
set_option maxRecDepth 100000
namespace Go.Ax
open Go.Proofs
end Go.Ax
end

section
/-
  The laws' sweeps: put.
-/
set_option linter.unusedVariables false
set_option linter.unusedSimpArgs false
set_option maxHeartbeats 4000000
set_option maxRecDepth 100000
namespace Go.Ax
open Go.Proofs
/-- Boxes that are valid, one an element. -/
def bxOK (n : Nat) (g : Nat → List AV) : Prop := ∀ i, i < n → g i = [i64 (gx g 0 i), i64 (gx g 1 i), i64 (gx g 2 i), i64 (gx g 3 i)] ∧ checkBoxS (gx g 0 i) (gx g 1 i) (gx g 2 i) (gx g 3 i) = 0
def bxI (g : Nat → List AV) (i : Nat) : List Int := [gx g 0 i, gx g 1 i, gx g 2 i, gx g 3 i]
/-- What has been put after i of n, from the first one on or from the last one on. -/
def ptAt (n : Nat) (last : Bool) (i : Nat) : Nat := if last = true then n - 1 - i else i
def ptL (n : Nat) (last : Bool) (B : Nat → List Int) : Nat → Ents
  | 0 => []
  | i + 1 => ptL n last B i ++ [((ptAt n last i : Int), B (ptAt n last i))]
noncomputable def F14 : List AV → Option (List Prop × (Nat → AV) × (Nat → Option Fam))
  | [.ro n 4 g, .v (.bool last)] => some ([n ≤ 256, bxOK n g], fun k => .bx k 0, fun k => some (swF k ⟨ptL n last (bxI g) n, noRows⟩))
  | _ => none
noncomputable def mN14 : MCon := mcKU F14
theorem mN14_eq : mN14 = mcKU F14 := (rfl)
attribute [go_sem] mN14_eq
end Go.Ax
end

section
/-
  The laws' tables: told.
-/
set_option linter.unusedVariables false
set_option linter.unusedSimpArgs false
set_option maxHeartbeats 4000000
set_option maxRecDepth 100000
namespace Go.Ax
open Go.Proofs
/-- What a number says. -/
def tdK (X : Nat → Int) (i : Nat) : Nat := (modS (X i) 1048576).toNat
def tdN (most : Int) : Nat := (1 + modS most 64).toNat
def tdAt (n : Nat) (X : Nat → Int) : Nat → TdS
  | 0 => td0 n
  | i + 1 => tdStep n (tdAt n X i) (tdK X i)
def c38g (z : Int × Int) : Option (List Prop × Nat × (Nat → Int × Int)) → Option (List Prop × AV)
  | some (ob, n, X) => some (c38f n X z ob)
  | none => none
theorem c38_eq {a : AV} {z1 z2 : Int} : c38 [a, .agg [i64 z1, i64 z2]] = c38g (z1, z2) (roP a) := by
  show (match roP a with
    | some (ob, n, X) => some (c38f n X (z1, z2) ob)
    | none => none) = _
  unfold c38g
  cases roP a <;> rfl
theorem c38g_some {z : Int × Int} {ob : List Prop} {n : Nat} {X : Nat → Int × Int} : c38g z (some (ob, n, X)) = some ((n ≤ 100000) :: ob, bo (decide (z ∈ lP n X))) := (rfl)
attribute [go_sem] c38_eq c38g_some
abbrev tdA (K : Nat) (t : TdS) : AV := .agg [.bx K 0, .own K 2 t.live.length 2, .own K 3 t.given.length 2, bo true]
def tdF (K : Nat) (t : TdS) : Fam := slF K { t.s with tl := famR [⟨t.live.length, 2, 64, lsF t.live, none⟩, ⟨t.given.length, 2, 64, lsF t.given, none⟩] noRows }
def F34f (most : Int) : Option (List Prop × Nat × (Nat → Int)) → Option (List Prop × (Nat → AV) × (Nat → Option Fam))
  | some (ob, k, X) => some ((k ≤ 1000) :: inR most :: (∀ i, inR (X i)) :: ob, fun K => tdA K (tdAt (tdN most) X k), fun K => some (tdF K (tdAt (tdN most) X k)))
  | none => none
def F34 : List AV → Option (List Prop × (Nat → AV) × (Nat → Option Fam))
  | [.v (.int .i64 most), nums] => F34f most (roI nums)
  | _ => none
noncomputable def mN34 : MCon := mcKU F34
theorem mN34_eq : mN34 = mcKU F34 := (rfl)
attribute [go_sem] mN34_eq
end Go.Ax
end

section
/-
  The laws' tables: what is in them.
-/
set_option linter.unusedVariables false
set_option linter.unusedSimpArgs false
set_option maxHeartbeats 4000000
set_option maxRecDepth 100000
namespace Go.Ax
open Go.Proofs
theorem F34_eq {most : Int} {n : Nat} {g : Nat → List AV} : F34 [i64 most, .ro n 1 g] = some ((n ≤ 1000) :: inR most :: (∀ i, inR (gx g 0 i)) :: [ints n g], fun K => tdA K (tdAt (tdN most) (gx g 0) n), fun K => some (tdF K (tdAt (tdN most) (gx g 0) n))) := (rfl)
theorem tdF_eq {K : Nat} {t : TdS} : tdF K t = famR [⟨1, 2, 100, fun _ => [u64 t.s.x, .own K 1 t.s.n 1], none⟩, ⟨t.s.n, 1, 3, fun i => [i64 (t.s.G i)], none⟩] (famR [⟨t.live.length, 2, 64, lsF t.live, none⟩, ⟨t.given.length, 2, 64, lsF t.given, none⟩] noRows) := (rfl)
theorem famNK_td {K : Nat} {t : TdS} : famNK K (tdF K t) = True := eq_true fun f j hj c hc => by
  match f with
  | 0 =>
    have hc : c ∈ [u64 t.s.x, .own K 1 t.s.n 1] := hc
    simp only [List.mem_cons, List.not_mem_nil, or_false] at hc
    rcases hc with rfl | rfl
    · trivial
    · rfl
  | 1 =>
    have hc : c ∈ [i64 (t.s.G j)] := hc
    simp only [List.mem_cons, List.not_mem_nil, or_false] at hc
    subst hc; trivial
  | 2 =>
    have hc : c ∈ lsF t.live j := hc
    simp only [lsF, List.mem_cons, List.not_mem_nil, or_false] at hc
    rcases hc with rfl | rfl <;> trivial
  | 3 =>
    have hc : c ∈ lsF t.given j := hc
    simp only [lsF, List.mem_cons, List.not_mem_nil, or_false] at hc
    rcases hc with rfl | rfl <;> trivial
  | f + 4 => have hj : j < 0 := hj; omega
theorem famNK_td' {K : Nat} {t : TdS} : famNK K (famR [⟨1, 2, 100, fun _ => [u64 t.s.x, .own K 1 t.s.n 1], none⟩, ⟨t.s.n, 1, 3, fun i => [i64 (t.s.G i)], none⟩] (famR [⟨t.live.length, 2, 64, lsF t.live, none⟩, ⟨t.given.length, 2, 64, lsF t.given, none⟩] noRows)) = True := famNK_td
theorem tlOK_td {t : TdS} : tlOK (famR [⟨t.live.length, 2, 64, lsF t.live, none⟩, ⟨t.given.length, 2, 64, lsF t.given, none⟩] noRows) = True := eq_true fun f => match f with
  | 0 => ⟨rfl, fun j hj c hc => by
    have hc : c ∈ lsF t.live j := hc
    simp only [lsF, List.mem_cons, List.not_mem_nil, or_false] at hc
    rcases hc with rfl | rfl <;> rfl⟩
  | 1 => ⟨rfl, fun j hj c hc => by
    have hc : c ∈ lsF t.given j := hc
    simp only [lsF, List.mem_cons, List.not_mem_nil, or_false] at hc
    rcases hc with rfl | rfl <;> rfl⟩
  | f + 2 => ⟨rfl, fun j hj => by have hj : j < 0 := hj; omega⟩
theorem c15_eq : c15 [] = some ([], bo true) := (rfl)
attribute [go_sem] F34_eq tdF_eq famNK_td' tlOK_td c15_eq
/-! ### What is in the list of all handles -/
end Go.Ax
end

section
/-
  The laws' tables: Copy, Take, Free.
-/
set_option linter.unusedVariables false
set_option linter.unusedSimpArgs false
set_option maxHeartbeats 4000000
set_option maxRecDepth 100000
namespace Go.Ax
open Go.Proofs
theorem F42_eq {x : Int} {n : Nat} {g : Nat → List AV} : F42 [.rop [u64 x, .ro n 1 g]] = some ([0 < n, n ≤ 64, ints n g], fun k => .bx k 0, fun k => some (slF k ⟨x, n, gx g 0, noRows⟩)) := (rfl)
theorem c43_eq {a b : AV} : c43 [a, b] = c43f (roP a) (roP b) := (rfl)
theorem c43f_some {o1 o2 : List Prop} {n m : Nat} {X Y : Nat → Int × Int} : c43f (some (o1, n, X)) (some (o2, m, Y)) = some ((n ≤ 100000) :: (o1 ++ o2), bo (decide (lP n X = lP m Y))) := (rfl)
theorem famNK_S' {key : Nat} {x : Int} {n : Nat} {X : Nat → Int} : famNK key (famR [⟨1, 2, 100, fun _ => [u64 x, .own key 1 n 1], none⟩, ⟨n, 1, 3, fun i => [i64 (X i)], none⟩] noRows) = True := famNK_S
theorem famR_n2 {x y z : Row} {l : List Row} {T0 : Fam} : famR [x, y] (famR (z :: l) T0) 2 = z := (rfl)
theorem famR_n3 {x y z u : Row} {l : List Row} {T0 : Fam} : famR [x, y] (famR (z :: u :: l) T0) 3 = u := (rfl)
attribute [go_sem] famR_n2 famR_n3 F42_eq c43_eq c43f_some famNK_S' tlOK_no
end Go.Ax
end

section
/-
  A writing call under a guard whose value is known goes one way.
-/
set_option linter.unusedVariables false
namespace Go.Ax
open Go.Proofs
section
variable {P : Program} {G : Ctx} {H : Hots} {K0 : AEx → St → Prop} {st : List Fr} {s : St} {hot : Option Hot} {ops : Array Oper} {rest : List Oper} {i j k n sz len key base : Nat} {t : Slots} {m : Mem} {nx : Nat} {d : Option Tmp} {ty : TypeId} {pos : String} {af : Array Edge} {gd : Option (Nat × Bool)} {g : Option Bool} {ρ0 : Operand → AV} {a b : AV} {l : List AV} {cs : List AV}
theorem stepC_Wt {ob : List Prop} {u : Upd} : stepC P G H K0 hot ops d rest i st t m nx (guardW true ob a u) = stepC P G H K0 hot ops d rest i st t m nx (some ⟨ob, condV true a, u⟩) := by
  rw [stepC_W]
  simp
theorem stepC_Wf {ob : List Prop} {u : Upd} : stepC P G H K0 hot ops d rest i st t m nx (guardW false ob a u) = stepC P G H K0 hot ops d rest i st t m nx (some ⟨[], condV false a, .none⟩) := by
  rw [stepC_W]
  simp
end
end Go.Ax
end

section
/-
  The chapter's examples of tables.
-/
set_option linter.unusedVariables false
set_option linter.unusedSimpArgs false
set_option maxHeartbeats 4000000
set_option maxRecDepth 100000
namespace Go.Ax
open Go.Proofs
def F106 : OFun SlS := fun s rest => match rest with
  | [.v (.int .i64 a), .v (.int .i64 g), .v (.int .i64 e)] => some ([slOK s], fun _ => bo ((tkE s == e) && ((tkH s).1 == a && (tkH s).2 == g)), some (tkS s), fun _ => none)
  | _ => none
noncomputable def m106 : MCon := mcO oS F106
def g3 : Nat → Int := upI g2 2 1
def g4 : Nat → Int := upI g3 1 2
end Go.Ax
end

section
/-
  Methods of tables and sweeps that are not valid.
-/
set_option linter.unusedVariables false
set_option linter.unusedSimpArgs false
set_option maxHeartbeats 4000000
set_option maxRecDepth 100000
namespace Go.Ax
open Go.Proofs
theorem R_zs {w : World} {ρ : Env} {x : Int} {v : Value} (hR : R w ρ (.rop [.v (.int .u64 x), .v (.slice none 0 0)]) v) : R w ρ (.rop [.v (.int .u64 x), .ro 0 1 fun _ => []]) v := by
  refine R_ropc (cs := [.v (.int .u64 x), .v (.slice none 0 0)]) rfl (fun k c c' y h1 h2 h3 => ?_) hR
  match k, h1, h2 with
  | 0, h1, h2 => cases h1; cases h2; exact h3
  | 1, h1, h2 => cases h1; cases h2; exact alk_nil _ _ _ h3
  | k + 2, h1, h2 => simp at h1
theorem one_ne : ((1 : Int) != 0) = true := by decide
theorem eq57n {xo yo : Operand} : eqE Tryz.prog false 57 xo yo (.v (.pointer none)) (.v (.pointer none)) = some ⟨[], .v (.bool true), .none⟩ := by kernel_rfl
theorem eq25n {xo yo : Operand} : eqE Tryz.prog false 25 xo yo (.v (.pointer none)) (.v (.pointer none)) = some ⟨[], .v (.bool true), .none⟩ := by kernel_rfl
theorem eq101n {xo yo : Operand} : eqE Tryz.prog false 101 xo yo (.v (.map none)) (.v (.map none)) = some ⟨[], .v (.bool true), .none⟩ := by kernel_rfl
attribute [go_sem] eq57n eq25n eq101n
theorem ConOK.or {P : Program} {f : FuncId} {c c1 c2 : Con} (h1 : ConOK P f c1) (h2 : ConOK P f c2) (h : ∀ l x, c l = some x → c1 l = some x ∨ c2 l = some x) : ConOK P f c := fun l ob rr hc hob => by
  rcases h l _ hc with h | h
  · exact h1 l ob rr h hob
  · exact h2 l ob rr h hob
theorem none_nil87 (w : World) : Calls Tryz.prog 87 #[.pointer none] w fun e w' => e = .returned (.bool true) ∧ w' = w := by
  go_enter Tryz.func87, Tryz.ntmps87
  go_wp2
  all_goals (go_ret; exact ⟨rfl, rfl⟩)
theorem none_nil75 (w : World) : Calls Tryz.prog 75 #[.pointer none] w fun e w' => e = .returned (.bool true) ∧ w' = w := by
  go_enter Tryz.func75, Tryz.ntmps75
  go_wp2
  all_goals (go_ret; exact ⟨rfl, rfl⟩)
theorem none_nil39 (i : Int) (w : World) : Calls Tryz.prog 39 #[.pointer none, .int .i64 i] w fun e w' => e = .returned (.int .i64 0) ∧ w' = w := by
  go_enter Tryz.func39, Tryz.ntmps39
  go_wp2
  all_goals (go_ret; exact ⟨rfl, rfl⟩)
theorem none_nil37 (i : Int) (w : World) : Calls Tryz.prog 37 #[.pointer none, .int .i64 i] w fun e w' => (∃ v, e = .returned v ∧ v = .tuple #[.agg #[.int .i64 0, .int .i64 0], .bool false]) ∧ RowKit.Below w.heap.size w w' := by
  go_enter Tryz.func37, Tryz.ntmps37
  go_wp2
  refine bodyPost_ret (v := .tuple #[.agg #[.int .i64 0, .int .i64 0], .bool false]) ?_ rfl ?_
  · have e : Tryz.f37.results = #[.cell 4 64, .tmp 5] := by kernel_rfl
    simp only [results, e]
    clear e
    simp [asAddr]
    rw [run_loadVar_row (P := Tryz.prog) _ w.heap.size 64 64 #[.int .i64 0, .int .i64 0] (0, 0) _ (heap_alloc_new w _) Tryz.underlying64 rfl (by kernel_rfl)]
    rfl
  · exact ⟨⟨_, rfl, rfl⟩, (RowKit.Below.refl _ w).alloc (Nat.le_refl _) _⟩
def c87N : Con
  | [.v (.pointer none)] => some ([], bo true)
  | _ => none
theorem con87N : ConOK Tryz.prog 87 c87N := fun l ob rr hc hob I w vs hI hR => by
  unfold c87N at hc
  split at hc
  · cases hc
    obtain ⟨y, ys, rfl, k1, k2⟩ := hR.inv
    cases k1
    obtain rfl : ys = [] := List.length_eq_zero_iff.1 k2.1
    exact .inr ⟨enters_of Tryz.func87 (by kernel_rfl) rfl _ _, (none_nil87 w).mono fun e w1 ⟨h1, h2⟩ => ⟨_, h1, by subst h2; exact ⟨.v, .refl _ _⟩⟩⟩
  · cases hc
def c75N : Con
  | [.v (.pointer none)] => some ([], bo true)
  | _ => none
theorem con75N : ConOK Tryz.prog 75 c75N := fun l ob rr hc hob I w vs hI hR => by
  unfold c75N at hc
  split at hc
  · cases hc
    obtain ⟨y, ys, rfl, k1, k2⟩ := hR.inv
    cases k1
    obtain rfl : ys = [] := List.length_eq_zero_iff.1 k2.1
    exact .inr ⟨enters_of Tryz.func75 (by kernel_rfl) rfl _ _, (none_nil75 w).mono fun e w1 ⟨h1, h2⟩ => ⟨_, h1, by subst h2; exact ⟨.v, .refl _ _⟩⟩⟩
  · cases hc
def c39N : Con
  | [.v (.pointer none), .v (.int .i64 i)] => some ([], i64 0)
  | _ => none
theorem con39N : ConOK Tryz.prog 39 c39N := fun l ob rr hc hob I w vs hI hR => by
  unfold c39N at hc
  split at hc
  · rename_i i
    cases hc
    obtain ⟨y, ys, rfl, k1, k2⟩ := hR.inv
    cases k1
    obtain ⟨z, zs, rfl, k3, k4⟩ := k2.inv
    cases k3
    obtain rfl : zs = [] := List.length_eq_zero_iff.1 k4.1
    exact .inr ⟨enters_of Tryz.func39 (by kernel_rfl) rfl _ _, (none_nil39 i w).mono fun e w1 ⟨h1, h2⟩ => ⟨_, h1, by subst h2; exact ⟨.v, .refl _ _⟩⟩⟩
  · cases hc
def c37N : Con
  | [.v (.pointer none), .v (.int .i64 i)] => some ([], .tup [haA 0 0, bo false])
  | _ => none
theorem con37N : ConOK Tryz.prog 37 c37N := fun l ob rr hc hob I w vs hI hR => by
  unfold c37N at hc
  split at hc
  · rename_i i
    cases hc
    obtain ⟨y, ys, rfl, k1, k2⟩ := hR.inv
    cases k1
    obtain ⟨z, zs, rfl, k3, k4⟩ := k2.inv
    cases k3
    obtain rfl : zs = [] := List.length_eq_zero_iff.1 k4.1
    refine .inr ⟨enters_of Tryz.func37 (by kernel_rfl) rfl _ _, (none_nil37 i w).mono fun e w1 ⟨⟨v, h1, h2⟩, h3⟩ => ⟨_, h1, ?_, h3⟩⟩
    subst h2
    refine .tup rfl fun j a x h1 h2 => ?_
    match j, h1, h2 with
    | 0, h1, h2 => cases h1; cases h2; exact R_pair _ _ (0, 0)
    | 1, h1, h2 => cases h1; cases h2; exact .v
  · cases hc
def c87Z : Con
  | [.rop [.v (.int .u64 x), .v (.slice none 0 0)]] => some ([], bo true)
  | [.rop [.v (.int .u64 x), .ro 0 1 g]] => some ([], bo true)
  | _ => none
theorem con87Z : ConOK Tryz.prog 87 c87Z := ConOK.go (G := []) (H := []) .nil Tryz.func87 fun l ob rr hc hob => by
  unfold c87Z at hc
  split at hc
  · rename_i x
    cases hc
    refine ⟨[.rop [.v (.int .u64 x), .ro 0 1 fun _ => []]], fun w I vs hR => by
      obtain ⟨y, ys, rfl, k1, k2⟩ := hR.inv
      exact .cons (R_zs k1) k2, by kernel_rfl, fnVC_go (rs := [.tmp 2]) rfl rfl ?_⟩
    simp only [go_sem, stepC_Wt, stepC_Wf, ↓forall_eq, Bool.true_or, Bool.or_true, Bool.false_or, Bool.or_false, Bool.not_true, Bool.not_false, Bool.false_and, Bool.and_false, true_or, or_true, false_or, or_false, beq_self_eq_true, c88, one_ne]
    all_goals try simp only [Bool.true_eq_false, false_imp_iff, true_imp_iff, and_true, true_and, implies_true]
  · rename_i x g
    cases hc
    refine ⟨[.rop [.v (.int .u64 x), .ro 0 1 g]], fun w I vs hR => hR, by kernel_rfl, fnVC_go (rs := [.tmp 2]) rfl rfl ?_⟩
    simp only [go_sem, stepC_Wt, stepC_Wf, ↓forall_eq, Bool.true_or, Bool.or_true, Bool.false_or, Bool.or_false, Bool.not_true, Bool.not_false, Bool.false_and, Bool.and_false, true_or, or_true, false_or, or_false, beq_self_eq_true, c88, one_ne]
    all_goals try simp only [Bool.true_eq_false, false_imp_iff, true_imp_iff, and_true, true_and, implies_true]
  · cases hc
def c87W : Con := fun l => match c87N l with
  | some x => some x
  | none => c87Z l
theorem con87W : ConOK Tryz.prog 87 c87W := ConOK.or con87N con87Z fun l x h => by
  unfold c87W at h
  split at h
  · rename_i y hy
    cases h
    exact .inl hy
  · exact .inr h
theorem c87W_0  : c87W [.v (.pointer none)] = some ([], bo true) := (rfl)
theorem c87W_1 {x : Int} : c87W [.rop [.v (.int .u64 x), .v (.slice none 0 0)]] = some ([], bo true) := (rfl)
theorem c87W_2 {x : Int} {g : Nat → List AV} : c87W [.rop [.v (.int .u64 x), .ro 0 1 g]] = some ([], bo true) := (rfl)
attribute [go_sem] c87W_0 c87W_1 c87W_2
def c40W : Con
  | [.v (.pointer none)] => some ([], .tup [haA 0 0, i64 1])
  | [.rop [.v (.int .u64 x), .v (.slice none 0 0)]] => some ([], .tup [haA 0 0, i64 1])
  | [.rop [.v (.int .u64 x), .ro 0 1 g]] => some ([], .tup [haA 0 0, i64 1])
  | _ => none
theorem con40W : ConOK Tryz.prog 40 c40W := ConOK.go (G := [(87, c87W), (88, c88), (89, .wr m89)]) (H := []) (.cons con87W (.cons con88 (.mcons mon89 .nil))) Tryz.func40 fun l ob rr hc hob => by
  unfold c40W at hc
  split at hc
  · cases hc
    refine ⟨[.v (.pointer none)], fun w I vs hR => hR, by kernel_rfl, fnVC_go (rs := [.cell 2 64, .tmp 3]) rfl rfl ?_⟩
    simp only [go_sem, stepC_Wt, stepC_Wf, ↓forall_eq, Bool.true_or, Bool.or_true, Bool.false_or, Bool.or_false, Bool.not_true, Bool.not_false, Bool.false_and, Bool.and_false, true_or, or_true, false_or, or_false, beq_self_eq_true, c88, one_ne]
    all_goals try simp only [Bool.true_eq_false, false_imp_iff, true_imp_iff, and_true, true_and, implies_true]
  · rename_i x
    cases hc
    refine ⟨[.rop [.v (.int .u64 x), .ro 0 1 fun _ => []]], fun w I vs hR => by
      obtain ⟨y, ys, rfl, k1, k2⟩ := hR.inv
      exact .cons (R_zs k1) k2, by kernel_rfl, fnVC_go (rs := [.cell 2 64, .tmp 3]) rfl rfl ?_⟩
    simp only [go_sem, stepC_Wt, stepC_Wf, ↓forall_eq, Bool.true_or, Bool.or_true, Bool.false_or, Bool.or_false, Bool.not_true, Bool.not_false, Bool.false_and, Bool.and_false, true_or, or_true, false_or, or_false, beq_self_eq_true, c88, one_ne]
    all_goals try simp only [Bool.true_eq_false, false_imp_iff, true_imp_iff, and_true, true_and, implies_true]
  · rename_i x g
    cases hc
    refine ⟨[.rop [.v (.int .u64 x), .ro 0 1 g]], fun w I vs hR => hR, by kernel_rfl, fnVC_go (rs := [.cell 2 64, .tmp 3]) rfl rfl ?_⟩
    simp only [go_sem, stepC_Wt, stepC_Wf, ↓forall_eq, Bool.true_or, Bool.or_true, Bool.false_or, Bool.or_false, Bool.not_true, Bool.not_false, Bool.false_and, Bool.and_false, true_or, or_true, false_or, or_false, beq_self_eq_true, c88, one_ne]
    all_goals try simp only [Bool.true_eq_false, false_imp_iff, true_imp_iff, and_true, true_and, implies_true]
  · cases hc
def c37Z : Con
  | [.rop [.v (.int .u64 x), .v (.slice none 0 0)], .v (.int .i64 i)] => some ([], .tup [haA 0 0, bo false])
  | [.rop [.v (.int .u64 x), .ro 0 1 g], .v (.int .i64 i)] => some ([], .tup [haA 0 0, bo false])
  | _ => none
theorem con37Z : ConOK Tryz.prog 37 c37Z := ConOK.go (G := [(87, c87W), (88, c88)]) (H := []) (.cons con87W (.cons con88 .nil)) Tryz.func37 fun l ob rr hc hob => by
  unfold c37Z at hc
  split at hc
  · rename_i x i
    cases hc
    refine ⟨[.rop [.v (.int .u64 x), .ro 0 1 fun _ => []], .v (.int .i64 i)], fun w I vs hR => by
      obtain ⟨y, ys, rfl, k1, k2⟩ := hR.inv
      exact .cons (R_zs k1) k2, by kernel_rfl, fnVC_go (rs := [.cell 4 64, .tmp 5]) rfl rfl ?_⟩
    simp only [go_sem, stepC_Wt, stepC_Wf, ↓forall_eq, Bool.true_or, Bool.or_true, Bool.false_or, Bool.or_false, Bool.not_true, Bool.not_false, Bool.false_and, Bool.and_false, true_or, or_true, false_or, or_false, beq_self_eq_true, c88, one_ne]
    all_goals try simp only [Bool.true_eq_false, false_imp_iff, true_imp_iff, and_true, true_and, implies_true]
  · rename_i x g i
    cases hc
    refine ⟨[.rop [.v (.int .u64 x), .ro 0 1 g], .v (.int .i64 i)], fun w I vs hR => hR, by kernel_rfl, fnVC_go (rs := [.cell 4 64, .tmp 5]) rfl rfl ?_⟩
    simp only [go_sem, stepC_Wt, stepC_Wf, ↓forall_eq, Bool.true_or, Bool.or_true, Bool.false_or, Bool.or_false, Bool.not_true, Bool.not_false, Bool.false_and, Bool.and_false, true_or, or_true, false_or, or_false, beq_self_eq_true, c88, one_ne]
    all_goals try simp only [Bool.true_eq_false, false_imp_iff, true_imp_iff, and_true, true_and, implies_true]
  · cases hc
def c37W : Con := fun l => match c37N l with
  | some x => some x
  | none => c37Z l
theorem con37W : ConOK Tryz.prog 37 c37W := ConOK.or con37N con37Z fun l x h => by
  unfold c37W at h
  split at h
  · rename_i y hy
    cases h
    exact .inl hy
  · exact .inr h
theorem c37W_0 {i : Int} : c37W [.v (.pointer none), .v (.int .i64 i)] = some ([], .tup [haA 0 0, bo false]) := (rfl)
theorem c37W_1 {x : Int} {i : Int} : c37W [.rop [.v (.int .u64 x), .v (.slice none 0 0)], .v (.int .i64 i)] = some ([], .tup [haA 0 0, bo false]) := (rfl)
theorem c37W_2 {x : Int} {g : Nat → List AV} {i : Int} : c37W [.rop [.v (.int .u64 x), .ro 0 1 g], .v (.int .i64 i)] = some ([], .tup [haA 0 0, bo false]) := (rfl)
attribute [go_sem] c37W_0 c37W_1 c37W_2
def c44W : Con
  | [.v (.pointer none), .agg [.v (.int .i64 a0), .v (.int .i64 a1)]] => some ([], i64 1)
  | [.rop [.v (.int .u64 x), .v (.slice none 0 0)], .agg [.v (.int .i64 a0), .v (.int .i64 a1)]] => some ([], i64 1)
  | [.rop [.v (.int .u64 x), .ro 0 1 g], .agg [.v (.int .i64 a0), .v (.int .i64 a1)]] => some ([], i64 1)
  | _ => none
theorem con44W : ConOK Tryz.prog 44 c44W := ConOK.go (G := [(87, c87W), (60, k60), (92, .wr m92)]) (H := [(5, ⟨[(5, .call)], []⟩)]) (.cons con87W (.cons con60 (.mcons mon92 .nil))) Tryz.func44 fun l ob rr hc hob => by
  unfold c44W at hc
  split at hc
  · rename_i a0 a1
    cases hc
    refine ⟨[.v (.pointer none), .agg [.v (.int .i64 a0), .v (.int .i64 a1)]], fun w I vs hR => hR, by kernel_rfl, fnVC_go (rs := [.tmp 4]) rfl rfl ?_⟩
    simp only [go_sem, stepC_Wt, stepC_Wf, ↓forall_eq, Bool.true_or, Bool.or_true, Bool.false_or, Bool.or_false, Bool.not_true, Bool.not_false, Bool.false_and, Bool.and_false, true_or, or_true, false_or, or_false, beq_self_eq_true, c88, one_ne]
    all_goals try simp only [Bool.true_eq_false, false_imp_iff, true_imp_iff, and_true, true_and, implies_true]
  · rename_i x a0 a1
    cases hc
    refine ⟨[.rop [.v (.int .u64 x), .ro 0 1 fun _ => []], .agg [.v (.int .i64 a0), .v (.int .i64 a1)]], fun w I vs hR => by
      obtain ⟨y, ys, rfl, k1, k2⟩ := hR.inv
      exact .cons (R_zs k1) k2, by kernel_rfl, fnVC_go (rs := [.tmp 4]) rfl rfl ?_⟩
    simp only [go_sem, stepC_Wt, stepC_Wf, ↓forall_eq, Bool.true_or, Bool.or_true, Bool.false_or, Bool.or_false, Bool.not_true, Bool.not_false, Bool.false_and, Bool.and_false, true_or, or_true, false_or, or_false, beq_self_eq_true, c88, one_ne]
    all_goals try simp only [Bool.true_eq_false, false_imp_iff, true_imp_iff, and_true, true_and, implies_true]
  · rename_i x g a0 a1
    cases hc
    refine ⟨[.rop [.v (.int .u64 x), .ro 0 1 g], .agg [.v (.int .i64 a0), .v (.int .i64 a1)]], fun w I vs hR => hR, by kernel_rfl, fnVC_go (rs := [.tmp 4]) rfl rfl ?_⟩
    simp only [go_sem, stepC_Wt, stepC_Wf, ↓forall_eq, Bool.true_or, Bool.or_true, Bool.false_or, Bool.or_false, Bool.not_true, Bool.not_false, Bool.false_and, Bool.and_false, true_or, or_true, false_or, or_false, beq_self_eq_true, c88, one_ne]
    all_goals try simp only [Bool.true_eq_false, false_imp_iff, true_imp_iff, and_true, true_and, implies_true]
  · cases hc
def c60W : Con
  | [.v (.pointer none), .agg [.v (.int .i64 a0), .v (.int .i64 a1)]] => some ([], bo false)
  | [.rop [.v (.int .u64 x), .v (.slice none 0 0)], .agg [.v (.int .i64 a0), .v (.int .i64 a1)]] => some ([], bo false)
  | [.rop [.v (.int .u64 x), .ro 0 1 g], .agg [.v (.int .i64 a0), .v (.int .i64 a1)]] => some ([], bo false)
  | _ => none
theorem con60W : ConOK Tryz.prog 60 c60W := ConOK.go (G := [(37, c37W)]) (H := []) (.cons con37W .nil) Tryz.func60 fun l ob rr hc hob => by
  unfold c60W at hc
  split at hc
  · rename_i a0 a1
    cases hc
    refine ⟨[.v (.pointer none), .agg [.v (.int .i64 a0), .v (.int .i64 a1)]], fun w I vs hR => hR, by kernel_rfl, fnVC_go (rs := [.tmp 4]) rfl rfl ?_⟩
    simp only [go_sem, stepC_Wt, stepC_Wf, ↓forall_eq, Bool.true_or, Bool.or_true, Bool.false_or, Bool.or_false, Bool.not_true, Bool.not_false, Bool.false_and, Bool.and_false, true_or, or_true, false_or, or_false, beq_self_eq_true, c88, one_ne]
    all_goals try simp only [Bool.true_eq_false, false_imp_iff, true_imp_iff, and_true, true_and, implies_true]
  · rename_i x a0 a1
    cases hc
    refine ⟨[.rop [.v (.int .u64 x), .ro 0 1 fun _ => []], .agg [.v (.int .i64 a0), .v (.int .i64 a1)]], fun w I vs hR => by
      obtain ⟨y, ys, rfl, k1, k2⟩ := hR.inv
      exact .cons (R_zs k1) k2, by kernel_rfl, fnVC_go (rs := [.tmp 4]) rfl rfl ?_⟩
    simp only [go_sem, stepC_Wt, stepC_Wf, ↓forall_eq, Bool.true_or, Bool.or_true, Bool.false_or, Bool.or_false, Bool.not_true, Bool.not_false, Bool.false_and, Bool.and_false, true_or, or_true, false_or, or_false, beq_self_eq_true, c88, one_ne]
    all_goals try simp only [Bool.true_eq_false, false_imp_iff, true_imp_iff, and_true, true_and, implies_true]
  · rename_i x g a0 a1
    cases hc
    refine ⟨[.rop [.v (.int .u64 x), .ro 0 1 g], .agg [.v (.int .i64 a0), .v (.int .i64 a1)]], fun w I vs hR => hR, by kernel_rfl, fnVC_go (rs := [.tmp 4]) rfl rfl ?_⟩
    simp only [go_sem, stepC_Wt, stepC_Wf, ↓forall_eq, Bool.true_or, Bool.or_true, Bool.false_or, Bool.or_false, Bool.not_true, Bool.not_false, Bool.false_and, Bool.and_false, true_or, or_true, false_or, or_false, beq_self_eq_true, c88, one_ne]
    all_goals try simp only [Bool.true_eq_false, false_imp_iff, true_imp_iff, and_true, true_and, implies_true]
  · cases hc
def c39Z : Con
  | [.rop [.v (.int .u64 x), .v (.slice none 0 0)], .v (.int .i64 i)] => some ([], i64 0)
  | [.rop [.v (.int .u64 x), .ro 0 1 g], .v (.int .i64 i)] => some ([], i64 0)
  | _ => none
theorem con39Z : ConOK Tryz.prog 39 c39Z := ConOK.go (G := [(87, c87W)]) (H := []) (.cons con87W .nil) Tryz.func39 fun l ob rr hc hob => by
  unfold c39Z at hc
  split at hc
  · rename_i x i
    cases hc
    refine ⟨[.rop [.v (.int .u64 x), .ro 0 1 fun _ => []], .v (.int .i64 i)], fun w I vs hR => by
      obtain ⟨y, ys, rfl, k1, k2⟩ := hR.inv
      exact .cons (R_zs k1) k2, by kernel_rfl, fnVC_go (rs := [.tmp 4]) rfl rfl ?_⟩
    simp only [go_sem, stepC_Wt, stepC_Wf, ↓forall_eq, Bool.true_or, Bool.or_true, Bool.false_or, Bool.or_false, Bool.not_true, Bool.not_false, Bool.false_and, Bool.and_false, true_or, or_true, false_or, or_false, beq_self_eq_true, c88, one_ne]
    all_goals try simp only [Bool.true_eq_false, false_imp_iff, true_imp_iff, and_true, true_and, implies_true]
  · rename_i x g i
    cases hc
    refine ⟨[.rop [.v (.int .u64 x), .ro 0 1 g], .v (.int .i64 i)], fun w I vs hR => hR, by kernel_rfl, fnVC_go (rs := [.tmp 4]) rfl rfl ?_⟩
    simp only [go_sem, stepC_Wt, stepC_Wf, ↓forall_eq, Bool.true_or, Bool.or_true, Bool.false_or, Bool.or_false, Bool.not_true, Bool.not_false, Bool.false_and, Bool.and_false, true_or, or_true, false_or, or_false, beq_self_eq_true, c88, one_ne]
    all_goals try simp only [Bool.true_eq_false, false_imp_iff, true_imp_iff, and_true, true_and, implies_true]
  · cases hc
def c39W : Con := fun l => match c39N l with
  | some x => some x
  | none => c39Z l
theorem con39W : ConOK Tryz.prog 39 c39W := ConOK.or con39N con39Z fun l x h => by
  unfold c39W at h
  split at h
  · rename_i y hy
    cases h
    exact .inl hy
  · exact .inr h
theorem c39W_0 {i : Int} : c39W [.v (.pointer none), .v (.int .i64 i)] = some ([], i64 0) := (rfl)
theorem c39W_1 {x : Int} {i : Int} : c39W [.rop [.v (.int .u64 x), .v (.slice none 0 0)], .v (.int .i64 i)] = some ([], i64 0) := (rfl)
theorem c39W_2 {x : Int} {g : Nat → List AV} {i : Int} : c39W [.rop [.v (.int .u64 x), .ro 0 1 g], .v (.int .i64 i)] = some ([], i64 0) := (rfl)
attribute [go_sem] c39W_0 c39W_1 c39W_2
def c36W : Con
  | [.v (.pointer none)] => some ([], i64 0)
  | [.rop [.v (.int .u64 x), .v (.slice none 0 0)]] => some ([], i64 0)
  | [.rop [.v (.int .u64 x), .ro 0 1 g]] => some ([], i64 0)
  | _ => none
theorem con36W : ConOK Tryz.prog 36 c36W := ConOK.go (G := [(87, c87W)]) (H := []) (.cons con87W .nil) Tryz.func36 fun l ob rr hc hob => by
  unfold c36W at hc
  split at hc
  · cases hc
    refine ⟨[.v (.pointer none)], fun w I vs hR => hR, by kernel_rfl, fnVC_go (rs := [.tmp 2]) rfl rfl ?_⟩
    simp only [go_sem, stepC_Wt, stepC_Wf, ↓forall_eq, Bool.true_or, Bool.or_true, Bool.false_or, Bool.or_false, Bool.not_true, Bool.not_false, Bool.false_and, Bool.and_false, true_or, or_true, false_or, or_false, beq_self_eq_true, c88, one_ne]
    all_goals try simp only [Bool.true_eq_false, false_imp_iff, true_imp_iff, and_true, true_and, implies_true]
  · rename_i x
    cases hc
    refine ⟨[.rop [.v (.int .u64 x), .ro 0 1 fun _ => []]], fun w I vs hR => by
      obtain ⟨y, ys, rfl, k1, k2⟩ := hR.inv
      exact .cons (R_zs k1) k2, by kernel_rfl, fnVC_go (rs := [.tmp 2]) rfl rfl ?_⟩
    simp only [go_sem, stepC_Wt, stepC_Wf, ↓forall_eq, Bool.true_or, Bool.or_true, Bool.false_or, Bool.or_false, Bool.not_true, Bool.not_false, Bool.false_and, Bool.and_false, true_or, or_true, false_or, or_false, beq_self_eq_true, c88, one_ne]
    all_goals try simp only [Bool.true_eq_false, false_imp_iff, true_imp_iff, and_true, true_and, implies_true]
  · rename_i x g
    cases hc
    refine ⟨[.rop [.v (.int .u64 x), .ro 0 1 g]], fun w I vs hR => hR, by kernel_rfl, fnVC_go (rs := [.tmp 2]) rfl rfl ?_⟩
    simp only [go_sem, stepC_Wt, stepC_Wf, ↓forall_eq, Bool.true_or, Bool.or_true, Bool.false_or, Bool.or_false, Bool.not_true, Bool.not_false, Bool.false_and, Bool.and_false, true_or, or_true, false_or, or_false, beq_self_eq_true, c88, one_ne]
    all_goals try simp only [Bool.true_eq_false, false_imp_iff, true_imp_iff, and_true, true_and, implies_true]
  · cases hc
def c41W : Con
  | [.v (.pointer none)] => some ([], i64 0)
  | [.rop [.v (.int .u64 x), .v (.slice none 0 0)]] => some ([], i64 0)
  | [.rop [.v (.int .u64 x), .ro 0 1 g]] => some ([], i64 0)
  | _ => none
theorem con41W : ConOK Tryz.prog 41 c41W := ConOK.go (G := [(87, c87W), (90, c90)]) (H := []) (.cons con87W (.cons con90 .nil)) Tryz.func41 fun l ob rr hc hob => by
  unfold c41W at hc
  split at hc
  · cases hc
    refine ⟨[.v (.pointer none)], fun w I vs hR => hR, by kernel_rfl, fnVC_go (rs := [.tmp 2]) rfl rfl ?_⟩
    simp only [go_sem, stepC_Wt, stepC_Wf, ↓forall_eq, Bool.true_or, Bool.or_true, Bool.false_or, Bool.or_false, Bool.not_true, Bool.not_false, Bool.false_and, Bool.and_false, true_or, or_true, false_or, or_false, beq_self_eq_true, c88, one_ne]
    all_goals try simp only [Bool.true_eq_false, false_imp_iff, true_imp_iff, and_true, true_and, implies_true]
  · rename_i x
    cases hc
    refine ⟨[.rop [.v (.int .u64 x), .ro 0 1 fun _ => []]], fun w I vs hR => by
      obtain ⟨y, ys, rfl, k1, k2⟩ := hR.inv
      exact .cons (R_zs k1) k2, by kernel_rfl, fnVC_go (rs := [.tmp 2]) rfl rfl ?_⟩
    simp only [go_sem, stepC_Wt, stepC_Wf, ↓forall_eq, Bool.true_or, Bool.or_true, Bool.false_or, Bool.or_false, Bool.not_true, Bool.not_false, Bool.false_and, Bool.and_false, true_or, or_true, false_or, or_false, beq_self_eq_true, c88, one_ne]
    all_goals try simp only [Bool.true_eq_false, false_imp_iff, true_imp_iff, and_true, true_and, implies_true]
  · rename_i x g
    cases hc
    refine ⟨[.rop [.v (.int .u64 x), .ro 0 1 g]], fun w I vs hR => hR, by kernel_rfl, fnVC_go (rs := [.tmp 2]) rfl rfl ?_⟩
    simp only [go_sem, stepC_Wt, stepC_Wf, ↓forall_eq, Bool.true_or, Bool.or_true, Bool.false_or, Bool.or_false, Bool.not_true, Bool.not_false, Bool.false_and, Bool.and_false, true_or, or_true, false_or, or_false, beq_self_eq_true, c88, one_ne]
    all_goals try simp only [Bool.true_eq_false, false_imp_iff, true_imp_iff, and_true, true_and, implies_true]
  · cases hc
def c42W : Con
  | [.v (.pointer none)] => some ([], .v (.pointer none))
  | [.rop [.v (.int .u64 x), .v (.slice none 0 0)]] => some ([], .v (.pointer none))
  | [.rop [.v (.int .u64 x), .ro 0 1 g]] => some ([], .v (.pointer none))
  | _ => none
theorem con42W : ConOK Tryz.prog 42 c42W := ConOK.go (G := [(87, c87W), (91, .wr mN91)]) (H := []) (.cons con87W (.mcons mon91 .nil)) Tryz.func42 fun l ob rr hc hob => by
  unfold c42W at hc
  split at hc
  · cases hc
    refine ⟨[.v (.pointer none)], fun w I vs hR => hR, by kernel_rfl, fnVC_go (rs := [.tmp 2]) rfl rfl ?_⟩
    simp only [go_sem, stepC_Wt, stepC_Wf, ↓forall_eq, Bool.true_or, Bool.or_true, Bool.false_or, Bool.or_false, Bool.not_true, Bool.not_false, Bool.false_and, Bool.and_false, true_or, or_true, false_or, or_false, beq_self_eq_true, c88, one_ne]
    all_goals try simp only [Bool.true_eq_false, false_imp_iff, true_imp_iff, and_true, true_and, implies_true]
  · rename_i x
    cases hc
    refine ⟨[.rop [.v (.int .u64 x), .ro 0 1 fun _ => []]], fun w I vs hR => by
      obtain ⟨y, ys, rfl, k1, k2⟩ := hR.inv
      exact .cons (R_zs k1) k2, by kernel_rfl, fnVC_go (rs := [.tmp 2]) rfl rfl ?_⟩
    simp only [go_sem, stepC_Wt, stepC_Wf, ↓forall_eq, Bool.true_or, Bool.or_true, Bool.false_or, Bool.or_false, Bool.not_true, Bool.not_false, Bool.false_and, Bool.and_false, true_or, or_true, false_or, or_false, beq_self_eq_true, c88, one_ne]
    all_goals try simp only [Bool.true_eq_false, false_imp_iff, true_imp_iff, and_true, true_and, implies_true]
  · rename_i x g
    cases hc
    refine ⟨[.rop [.v (.int .u64 x), .ro 0 1 g]], fun w I vs hR => hR, by kernel_rfl, fnVC_go (rs := [.tmp 2]) rfl rfl ?_⟩
    simp only [go_sem, stepC_Wt, stepC_Wf, ↓forall_eq, Bool.true_or, Bool.or_true, Bool.false_or, Bool.or_false, Bool.not_true, Bool.not_false, Bool.false_and, Bool.and_false, true_or, or_true, false_or, or_false, beq_self_eq_true, c88, one_ne]
    all_goals try simp only [Bool.true_eq_false, false_imp_iff, true_imp_iff, and_true, true_and, implies_true]
  · cases hc
def c75Z : Con
  | [.rop [.v (.map none)]] => some ([], bo true)
  | _ => none
theorem con75Z : ConOK Tryz.prog 75 c75Z := ConOK.go (G := []) (H := []) .nil Tryz.func75 fun l ob rr hc hob => by
  unfold c75Z at hc
  split at hc
  · cases hc
    refine ⟨[.rop [.v (.map none)]], fun w I vs hR => hR, by kernel_rfl, fnVC_go (rs := [.tmp 2]) rfl rfl ?_⟩
    simp only [go_sem, stepC_Wt, stepC_Wf, ↓forall_eq, Bool.true_or, Bool.or_true, Bool.false_or, Bool.or_false, Bool.not_true, Bool.not_false, Bool.false_and, Bool.and_false, true_or, or_true, false_or, or_false, beq_self_eq_true, c88, one_ne]
    all_goals try simp only [Bool.true_eq_false, false_imp_iff, true_imp_iff, and_true, true_and, implies_true]
  · cases hc
def c75W : Con := fun l => match c75N l with
  | some x => some x
  | none => c75Z l
theorem con75W : ConOK Tryz.prog 75 c75W := ConOK.or con75N con75Z fun l x h => by
  unfold c75W at h
  split at h
  · rename_i y hy
    cases h
    exact .inl hy
  · exact .inr h
theorem c75W_0  : c75W [.v (.pointer none)] = some ([], bo true) := (rfl)
theorem c75W_1  : c75W [.rop [.v (.map none)]] = some ([], bo true) := (rfl)
attribute [go_sem] c75W_0 c75W_1
def c22W : Con
  | [.v (.pointer none), .v (.int .i64 i)] => some ([], .tup [.agg [i64 0, i64 0, i64 0, i64 0], bo false])
  | [.rop [.v (.map none)], .v (.int .i64 i)] => some ([], .tup [.agg [i64 0, i64 0, i64 0, i64 0], bo false])
  | _ => none
theorem con22W : ConOK Tryz.prog 22 c22W := ConOK.go (G := [(75, c75W)]) (H := []) (.cons con75W .nil) Tryz.func22 fun l ob rr hc hob => by
  unfold c22W at hc
  split at hc
  · rename_i i
    cases hc
    refine ⟨[.v (.pointer none), .v (.int .i64 i)], fun w I vs hR => hR, by kernel_rfl, fnVC_go (rs := [.cell 4 32, .tmp 5]) rfl rfl ?_⟩
    simp only [go_sem, stepC_Wt, stepC_Wf, ↓forall_eq, Bool.true_or, Bool.or_true, Bool.false_or, Bool.or_false, Bool.not_true, Bool.not_false, Bool.false_and, Bool.and_false, true_or, or_true, false_or, or_false, beq_self_eq_true, c88, one_ne]
    all_goals try simp only [Bool.true_eq_false, false_imp_iff, true_imp_iff, and_true, true_and, implies_true]
  · rename_i i
    cases hc
    refine ⟨[.rop [.v (.map none)], .v (.int .i64 i)], fun w I vs hR => hR, by kernel_rfl, fnVC_go (rs := [.cell 4 32, .tmp 5]) rfl rfl ?_⟩
    simp only [go_sem, stepC_Wt, stepC_Wf, ↓forall_eq, Bool.true_or, Bool.or_true, Bool.false_or, Bool.or_false, Bool.not_true, Bool.not_false, Bool.false_and, Bool.and_false, true_or, or_true, false_or, or_false, beq_self_eq_true, c88, one_ne]
    all_goals try simp only [Bool.true_eq_false, false_imp_iff, true_imp_iff, and_true, true_and, implies_true]
  · cases hc
def c63W : Con
  | [.v (.pointer none), .v (.int .i64 i)] => some ([], i64 1)
  | [.rop [.v (.map none)], .v (.int .i64 i)] => some ([], i64 1)
  | _ => none
theorem con63W : ConOK Tryz.prog 63 c63W := ConOK.go (G := [(75, c75W)]) (H := []) (.cons con75W .nil) Tryz.func63 fun l ob rr hc hob => by
  unfold c63W at hc
  split at hc
  · rename_i i
    cases hc
    refine ⟨[.v (.pointer none), .v (.int .i64 i)], fun w I vs hR => hR, by kernel_rfl, fnVC_go (rs := [.tmp 4]) rfl rfl ?_⟩
    simp only [go_sem, stepC_Wt, stepC_Wf, ↓forall_eq, Bool.true_or, Bool.or_true, Bool.false_or, Bool.or_false, Bool.not_true, Bool.not_false, Bool.false_and, Bool.and_false, true_or, or_true, false_or, or_false, beq_self_eq_true, c88, one_ne]
    all_goals try simp only [Bool.true_eq_false, false_imp_iff, true_imp_iff, and_true, true_and, implies_true]
  · rename_i i
    cases hc
    refine ⟨[.rop [.v (.map none)], .v (.int .i64 i)], fun w I vs hR => hR, by kernel_rfl, fnVC_go (rs := [.tmp 4]) rfl rfl ?_⟩
    simp only [go_sem, stepC_Wt, stepC_Wf, ↓forall_eq, Bool.true_or, Bool.or_true, Bool.false_or, Bool.or_false, Bool.not_true, Bool.not_false, Bool.false_and, Bool.and_false, true_or, or_true, false_or, or_false, beq_self_eq_true, c88, one_ne]
    all_goals try simp only [Bool.true_eq_false, false_imp_iff, true_imp_iff, and_true, true_and, implies_true]
  · cases hc
def c19W : Con
  | [.v (.pointer none), .v (.int .i64 i), .agg [.v (.int .i64 b0), .v (.int .i64 b1), .v (.int .i64 b2), .v (.int .i64 b3)]] => some ([], i64 1)
  | [.rop [.v (.map none)], .v (.int .i64 i), .agg [.v (.int .i64 b0), .v (.int .i64 b1), .v (.int .i64 b2), .v (.int .i64 b3)]] => some ([], i64 1)
  | _ => none
theorem con19W : ConOK Tryz.prog 19 c19W := ConOK.go (G := [(63, c63W), (64, c64)]) (H := []) (.cons con63W (.cons con64 .nil)) Tryz.func19 fun l ob rr hc hob => by
  unfold c19W at hc
  split at hc
  · rename_i i b0 b1 b2 b3
    cases hc
    refine ⟨[.v (.pointer none), .v (.int .i64 i), .agg [.v (.int .i64 b0), .v (.int .i64 b1), .v (.int .i64 b2), .v (.int .i64 b3)]], fun w I vs hR => hR, by kernel_rfl, fnVC_go (rs := [.tmp 6]) rfl rfl ?_⟩
    simp only [go_sem, stepC_Wt, stepC_Wf, ↓forall_eq, Bool.true_or, Bool.or_true, Bool.false_or, Bool.or_false, Bool.not_true, Bool.not_false, Bool.false_and, Bool.and_false, true_or, or_true, false_or, or_false, beq_self_eq_true, c88, one_ne, c63W]
    all_goals try simp only [Bool.true_eq_false, false_imp_iff, true_imp_iff, and_true, true_and, implies_true]
  · rename_i i b0 b1 b2 b3
    cases hc
    refine ⟨[.rop [.v (.map none)], .v (.int .i64 i), .agg [.v (.int .i64 b0), .v (.int .i64 b1), .v (.int .i64 b2), .v (.int .i64 b3)]], fun w I vs hR => hR, by kernel_rfl, fnVC_go (rs := [.tmp 6]) rfl rfl ?_⟩
    simp only [go_sem, stepC_Wt, stepC_Wf, ↓forall_eq, Bool.true_or, Bool.or_true, Bool.false_or, Bool.or_false, Bool.not_true, Bool.not_false, Bool.false_and, Bool.and_false, true_or, or_true, false_or, or_false, beq_self_eq_true, c88, one_ne, c63W]
    all_goals try simp only [Bool.true_eq_false, false_imp_iff, true_imp_iff, and_true, true_and, implies_true]
  · cases hc
def c17W : Con
  | [.v (.pointer none), .v (.int .i64 i), .agg [.v (.int .i64 b0), .v (.int .i64 b1), .v (.int .i64 b2), .v (.int .i64 b3)]] => some ([], i64 1)
  | [.rop [.v (.map none)], .v (.int .i64 i), .agg [.v (.int .i64 b0), .v (.int .i64 b1), .v (.int .i64 b2), .v (.int .i64 b3)]] => some ([], i64 1)
  | _ => none
theorem con17W : ConOK Tryz.prog 17 c17W := ConOK.go (G := [(63, c63W), (64, c64)]) (H := []) (.cons con63W (.cons con64 .nil)) Tryz.func17 fun l ob rr hc hob => by
  unfold c17W at hc
  split at hc
  · rename_i i b0 b1 b2 b3
    cases hc
    refine ⟨[.v (.pointer none), .v (.int .i64 i), .agg [.v (.int .i64 b0), .v (.int .i64 b1), .v (.int .i64 b2), .v (.int .i64 b3)]], fun w I vs hR => hR, by kernel_rfl, fnVC_go (rs := [.tmp 6]) rfl rfl ?_⟩
    simp only [go_sem, stepC_Wt, stepC_Wf, ↓forall_eq, Bool.true_or, Bool.or_true, Bool.false_or, Bool.or_false, Bool.not_true, Bool.not_false, Bool.false_and, Bool.and_false, true_or, or_true, false_or, or_false, beq_self_eq_true, c88, one_ne, c63W]
    all_goals try simp only [Bool.true_eq_false, false_imp_iff, true_imp_iff, and_true, true_and, implies_true]
  · rename_i i b0 b1 b2 b3
    cases hc
    refine ⟨[.rop [.v (.map none)], .v (.int .i64 i), .agg [.v (.int .i64 b0), .v (.int .i64 b1), .v (.int .i64 b2), .v (.int .i64 b3)]], fun w I vs hR => hR, by kernel_rfl, fnVC_go (rs := [.tmp 6]) rfl rfl ?_⟩
    simp only [go_sem, stepC_Wt, stepC_Wf, ↓forall_eq, Bool.true_or, Bool.or_true, Bool.false_or, Bool.or_false, Bool.not_true, Bool.not_false, Bool.false_and, Bool.and_false, true_or, or_true, false_or, or_false, beq_self_eq_true, c88, one_ne, c63W]
    all_goals try simp only [Bool.true_eq_false, false_imp_iff, true_imp_iff, and_true, true_and, implies_true]
  · cases hc
def c18W : Con
  | [.v (.pointer none), .v (.int .i64 i)] => some ([], i64 1)
  | [.rop [.v (.map none)], .v (.int .i64 i)] => some ([], i64 1)
  | _ => none
theorem con18W : ConOK Tryz.prog 18 c18W := ConOK.go (G := [(63, c63W)]) (H := []) (.cons con63W .nil) Tryz.func18 fun l ob rr hc hob => by
  unfold c18W at hc
  split at hc
  · rename_i i
    cases hc
    refine ⟨[.v (.pointer none), .v (.int .i64 i)], fun w I vs hR => hR, by kernel_rfl, fnVC_go (rs := [.tmp 4]) rfl rfl ?_⟩
    simp only [go_sem, stepC_Wt, stepC_Wf, ↓forall_eq, Bool.true_or, Bool.or_true, Bool.false_or, Bool.or_false, Bool.not_true, Bool.not_false, Bool.false_and, Bool.and_false, true_or, or_true, false_or, or_false, beq_self_eq_true, c88, one_ne, c63W]
    all_goals try simp only [Bool.true_eq_false, false_imp_iff, true_imp_iff, and_true, true_and, implies_true]
  · rename_i i
    cases hc
    refine ⟨[.rop [.v (.map none)], .v (.int .i64 i)], fun w I vs hR => hR, by kernel_rfl, fnVC_go (rs := [.tmp 4]) rfl rfl ?_⟩
    simp only [go_sem, stepC_Wt, stepC_Wf, ↓forall_eq, Bool.true_or, Bool.or_true, Bool.false_or, Bool.or_false, Bool.not_true, Bool.not_false, Bool.false_and, Bool.and_false, true_or, or_true, false_or, or_false, beq_self_eq_true, c88, one_ne, c63W]
    all_goals try simp only [Bool.true_eq_false, false_imp_iff, true_imp_iff, and_true, true_and, implies_true]
  · cases hc
def c23W : Con
  | [.v (.pointer none)] => some ([], i64 0)
  | [.rop [.v (.map none)]] => some ([], i64 0)
  | _ => none
theorem con23W : ConOK Tryz.prog 23 c23W := ConOK.go (G := [(75, c75W)]) (H := []) (.cons con75W .nil) Tryz.func23 fun l ob rr hc hob => by
  unfold c23W at hc
  split at hc
  · cases hc
    refine ⟨[.v (.pointer none)], fun w I vs hR => hR, by kernel_rfl, fnVC_go (rs := [.tmp 2]) rfl rfl ?_⟩
    simp only [go_sem, stepC_Wt, stepC_Wf, ↓forall_eq, Bool.true_or, Bool.or_true, Bool.false_or, Bool.or_false, Bool.not_true, Bool.not_false, Bool.false_and, Bool.and_false, true_or, or_true, false_or, or_false, beq_self_eq_true, c88, one_ne]
    all_goals try simp only [Bool.true_eq_false, false_imp_iff, true_imp_iff, and_true, true_and, implies_true]
  · cases hc
    refine ⟨[.rop [.v (.map none)]], fun w I vs hR => hR, by kernel_rfl, fnVC_go (rs := [.tmp 2]) rfl rfl ?_⟩
    simp only [go_sem, stepC_Wt, stepC_Wf, ↓forall_eq, Bool.true_or, Bool.or_true, Bool.false_or, Bool.or_false, Bool.not_true, Bool.not_false, Bool.false_and, Bool.and_false, true_or, or_true, false_or, or_false, beq_self_eq_true, c88, one_ne]
    all_goals try simp only [Bool.true_eq_false, false_imp_iff, true_imp_iff, and_true, true_and, implies_true]
  · cases hc
def c30W : Con
  | [.v (.pointer none)] => some ([], .v (.pointer none))
  | [.rop [.v (.map none)]] => some ([], .v (.pointer none))
  | _ => none
theorem con30W : ConOK Tryz.prog 30 c30W := ConOK.go (G := [(75, c75W)]) (H := []) (.cons con75W .nil) Tryz.func30 fun l ob rr hc hob => by
  unfold c30W at hc
  split at hc
  · cases hc
    refine ⟨[.v (.pointer none)], fun w I vs hR => hR, by kernel_rfl, fnVC_go (rs := [.tmp 2]) rfl rfl ?_⟩
    simp only [go_sem, stepC_Wt, stepC_Wf, ↓forall_eq, Bool.true_or, Bool.or_true, Bool.false_or, Bool.or_false, Bool.not_true, Bool.not_false, Bool.false_and, Bool.and_false, true_or, or_true, false_or, or_false, beq_self_eq_true, c88, one_ne]
    all_goals try simp only [Bool.true_eq_false, false_imp_iff, true_imp_iff, and_true, true_and, implies_true]
  · cases hc
    refine ⟨[.rop [.v (.map none)]], fun w I vs hR => hR, by kernel_rfl, fnVC_go (rs := [.tmp 2]) rfl rfl ?_⟩
    simp only [go_sem, stepC_Wt, stepC_Wf, ↓forall_eq, Bool.true_or, Bool.or_true, Bool.false_or, Bool.or_false, Bool.not_true, Bool.not_false, Bool.false_and, Bool.and_false, true_or, or_true, false_or, or_false, beq_self_eq_true, c88, one_ne]
    all_goals try simp only [Bool.true_eq_false, false_imp_iff, true_imp_iff, and_true, true_and, implies_true]
  · cases hc
end Go.Ax
end

section
/-
  The length of no slice.
-/
set_option linter.unusedVariables false
set_option linter.unusedSimpArgs false
set_option maxHeartbeats 4000000
set_option maxRecDepth 100000
namespace Go.Ax
open Go.Proofs
theorem len22n {x : Operand} {ρ : Operand → AV} {d : Option Tmp} {pos : String} {af : Array Edge} {gd : Option (Nat × Bool)} (hx : ρ x = .v (.slice none 0 0)) : lenE Tryz.prog ⟨d, .call ⟨.builtin .len, #[x], #[22]⟩, 3, pos, af, gd⟩ 22 (.v (.slice none 0 0)) ρ = some ⟨[], .v (.int .i64 0), .none⟩ := by
  show effOf (aPure Tryz.prog ρ ⟨d, .call ⟨.builtin .len, #[x], #[22]⟩, 3, pos, af, gd⟩) = _
  unfold aPure
  have h1 : flatAll ((Oper.op ⟨d, .call ⟨.builtin .len, #[x], #[22]⟩, 3, pos, af, gd⟩).operands.toList.map ρ) = true := by
    show flatAll [ρ x] = true
    rw [hx]; rfl
  rw [h1]
  have h2 : pureRun Tryz.prog (execOp (fun y => (flat (ρ y)).getD undef) ⟨d, .call ⟨.builtin .len, #[x], #[22]⟩, 3, pos, af, gd⟩) = some (.value (.int .i64 0)) := by
    have e : execOp (fun y => (flat (ρ y)).getD undef) ⟨d, .call ⟨.builtin .len, #[x], #[22]⟩, 3, pos, af, gd⟩ = execOp (fun _ => (flat (ρ x)).getD undef) ⟨d, .call ⟨.builtin .len, #[x], #[22]⟩, 3, pos, af, gd⟩ := by kernel_rfl
    rw [e, hx]
    show pureRun Tryz.prog (execOp (fun _ => Value.slice none 0 0) ⟨d, .call ⟨.builtin .len, #[x], #[22]⟩, 3, pos, af, gd⟩) = some (.value (.int .i64 0))
    kernel_rfl
  rw [h2]
  rfl
theorem len35n {x : Operand} {ρ : Operand → AV} {d : Option Tmp} {pos : String} {af : Array Edge} {gd : Option (Nat × Bool)} (hx : ρ x = .v (.slice none 0 0)) : lenE Tryz.prog ⟨d, .call ⟨.builtin .len, #[x], #[35]⟩, 3, pos, af, gd⟩ 35 (.v (.slice none 0 0)) ρ = some ⟨[], .v (.int .i64 0), .none⟩ := by
  show effOf (aPure Tryz.prog ρ ⟨d, .call ⟨.builtin .len, #[x], #[35]⟩, 3, pos, af, gd⟩) = _
  unfold aPure
  have h1 : flatAll ((Oper.op ⟨d, .call ⟨.builtin .len, #[x], #[35]⟩, 3, pos, af, gd⟩).operands.toList.map ρ) = true := by
    show flatAll [ρ x] = true
    rw [hx]; rfl
  rw [h1]
  have h2 : pureRun Tryz.prog (execOp (fun y => (flat (ρ y)).getD undef) ⟨d, .call ⟨.builtin .len, #[x], #[35]⟩, 3, pos, af, gd⟩) = some (.value (.int .i64 0)) := by
    have e : execOp (fun y => (flat (ρ y)).getD undef) ⟨d, .call ⟨.builtin .len, #[x], #[35]⟩, 3, pos, af, gd⟩ = execOp (fun _ => (flat (ρ x)).getD undef) ⟨d, .call ⟨.builtin .len, #[x], #[35]⟩, 3, pos, af, gd⟩ := by kernel_rfl
    rw [e, hx]
    show pureRun Tryz.prog (execOp (fun _ => Value.slice none 0 0) ⟨d, .call ⟨.builtin .len, #[x], #[35]⟩, 3, pos, af, gd⟩) = some (.value (.int .i64 0))
    kernel_rfl
  rw [h2]
  rfl
theorem len58n {x : Operand} {ρ : Operand → AV} {d : Option Tmp} {pos : String} {af : Array Edge} {gd : Option (Nat × Bool)} (hx : ρ x = .v (.slice none 0 0)) : lenE Tryz.prog ⟨d, .call ⟨.builtin .len, #[x], #[58]⟩, 3, pos, af, gd⟩ 58 (.v (.slice none 0 0)) ρ = some ⟨[], .v (.int .i64 0), .none⟩ := by
  show effOf (aPure Tryz.prog ρ ⟨d, .call ⟨.builtin .len, #[x], #[58]⟩, 3, pos, af, gd⟩) = _
  unfold aPure
  have h1 : flatAll ((Oper.op ⟨d, .call ⟨.builtin .len, #[x], #[58]⟩, 3, pos, af, gd⟩).operands.toList.map ρ) = true := by
    show flatAll [ρ x] = true
    rw [hx]; rfl
  rw [h1]
  have h2 : pureRun Tryz.prog (execOp (fun y => (flat (ρ y)).getD undef) ⟨d, .call ⟨.builtin .len, #[x], #[58]⟩, 3, pos, af, gd⟩) = some (.value (.int .i64 0)) := by
    have e : execOp (fun y => (flat (ρ y)).getD undef) ⟨d, .call ⟨.builtin .len, #[x], #[58]⟩, 3, pos, af, gd⟩ = execOp (fun _ => (flat (ρ x)).getD undef) ⟨d, .call ⟨.builtin .len, #[x], #[58]⟩, 3, pos, af, gd⟩ := by kernel_rfl
    rw [e, hx]
    show pureRun Tryz.prog (execOp (fun _ => Value.slice none 0 0) ⟨d, .call ⟨.builtin .len, #[x], #[58]⟩, 3, pos, af, gd⟩) = some (.value (.int .i64 0))
    kernel_rfl
  rw [h2]
  rfl
end Go.Ax
end

section
/-
  Methods of tables and sweeps that are not valid: those that give lists.
-/
set_option linter.unusedVariables false
set_option linter.unusedSimpArgs false
set_option maxHeartbeats 4000000
set_option maxRecDepth 100000
namespace Go.Ax
open Go.Proofs
/-- Sorting nothing. -/
def c65W : Con
  | [.v (.slice none 0 0), F] => some ([], .tup [])
  | _ => none
theorem con65W : ConOK Tryz.prog 65 c65W := fun l ob rr hc hob I w vs hI hR => by
  unfold c65W at hc
  split at hc
  · rename_i F
    cases hc
    obtain ⟨y, ys, rfl, k1, k2⟩ := hR.inv
    obtain ⟨z, zs, rfl, k3, k4⟩ := k2.inv
    cases k1
    obtain rfl : zs = [] := List.length_eq_zero_iff.1 k4.1
    refine .inr ⟨enters_of Tryz.func65 (by kernel_rfl) rfl _ _, (AnyF.slices_SortFunc_none (P := Tryz.prog) (ρ := Tryz.sortF_ren) { Tryz.sortF with } _ _ z w).mono fun e w1 ⟨h1, h2⟩ => ⟨_, h1, ?_⟩⟩
    subst h2
    exact ⟨.tup rfl (fun i a x h => by simp at h), .refl _ _⟩
  · cases hc
def c73W : Con
  | [.v (.slice none 0 0), F] => some ([], .tup [])
  | _ => none
theorem con73W : ConOK Tryz.prog 73 c73W := fun l ob rr hc hob I w vs hI hR => by
  unfold c73W at hc
  split at hc
  · rename_i F
    cases hc
    obtain ⟨y, ys, rfl, k1, k2⟩ := hR.inv
    obtain ⟨z, zs, rfl, k3, k4⟩ := k2.inv
    cases k1
    obtain rfl : zs = [] := List.length_eq_zero_iff.1 k4.1
    refine .inr ⟨enters_of Tryz.func73 (by kernel_rfl) rfl _ _, (AnyF.slices_SortFunc_none (P := Tryz.prog) (ρ := Tryz.sortP_ren) { Tryz.sortP with } _ _ z w).mono fun e w1 ⟨h1, h2⟩ => ⟨_, h1, ?_⟩⟩
    subst h2
    exact ⟨.tup rfl (fun i a x h => by simp at h), .refl _ _⟩
  · cases hc
def c59V : Con
  | [.v (.pointer none)] => some ([], .v (.slice none 0 0))
  | [.rop [.v (.map none)]] => some ([], .v (.slice none 0 0))
  | _ => none
theorem con59V : ConOK Tryz.prog 59 c59V := ConOK.go (G := [(75, c75W), (108, .wr mN108), (107, .wr mN107)]) (H := []) (.cons con75W (.mcons mon108 (.mcons mon107 .nil))) Tryz.func59 fun l ob rr hc hob => by
  unfold c59V at hc
  split at hc
  · skip
    cases hc
    refine ⟨[.v (.pointer none)], fun w I vs hR => hR, by kernel_rfl, fnVC_go (rs := [.tmp 2]) rfl rfl ?_⟩
    simp only [go_sem, stepC_Wt, stepC_Wf, ↓forall_eq, Bool.true_or, Bool.or_true, Bool.false_or, Bool.or_false, Bool.not_true, Bool.not_false, Bool.false_and, Bool.and_false, true_or, or_true, false_or, or_false, beq_self_eq_true, c88, one_ne]
    all_goals try simp only [Bool.true_eq_false, false_imp_iff, true_imp_iff, and_true, true_and, implies_true]
  · skip
    cases hc
    refine ⟨[.rop [.v (.map none)]], fun w I vs hR => hR, by kernel_rfl, fnVC_go (rs := [.tmp 2]) rfl rfl ?_⟩
    simp only [go_sem, stepC_Wt, stepC_Wf, ↓forall_eq, Bool.true_or, Bool.or_true, Bool.false_or, Bool.or_false, Bool.not_true, Bool.not_false, Bool.false_and, Bool.and_false, true_or, or_true, false_or, or_false, beq_self_eq_true, c88, one_ne]
    all_goals try simp only [Bool.true_eq_false, false_imp_iff, true_imp_iff, and_true, true_and, implies_true]
  · cases hc
def c35W : Con
  | [.v (.pointer none)] => some ([], .v (.slice none 0 0))
  | [.rop [.v (.int .u64 x), .v (.slice none 0 0)]] => some ([], .v (.slice none 0 0))
  | _ => none
theorem con35W : ConOK Tryz.prog 35 c35W := ConOK.go (G := [(36, c36W), (37, c37W)]) (H := []) (.cons con36W (.cons con37W .nil)) Tryz.func35 fun l ob rr hc hob => by
  unfold c35W at hc
  split at hc
  · skip
    cases hc
    refine ⟨[.v (.pointer none)], fun w I vs hR => hR, by kernel_rfl, fnVC_go (rs := [.tmp 2]) rfl rfl ?_⟩
    simp only [go_sem, c36W, ↓forall_eq]
    refine loopN_go (fun (_ : Unit) => True) (fun _ => 0) (fun _ => [(9, i64 0), (3, .v (.slice none 0 0))]) (fun _ => []) [] [10, 11, 4, 13, 14, 15, 12, 16, 17, 5, 6, 18, 19, 20, 21, 22, 3, 23, 9] 0 () (by kernel_rfl) trivial ⟨[], ?_, ?_, ?_, ?_⟩ ?_
    · simp only [go_sem]
    · simp only [go_sem]
    · simp only [go_sem]
    · simp [goodNames, asg]
    intro _ _
    have h0 : ((0 : Int) < 0) = False := eq_false (by omega)
    have h1 : ((0 : Int) < ((0 : Nat) : Int)) = False := eq_false (by omega)
    simp only [go_sem, h0, h1]
  · rename_i x
    cases hc
    refine ⟨[.rop [u64 x, .v (.slice none 0 0)]], fun w I vs hR => hR, by kernel_rfl, fnVC_go (rs := [.tmp 2]) rfl rfl ?_⟩
    simp only [go_sem, c36W, ↓forall_eq]
    refine loopN_go (fun (_ : Unit) => True) (fun _ => 0) (fun _ => [(9, i64 0), (3, .v (.slice none 0 0))]) (fun _ => []) [] [10, 11, 4, 13, 14, 15, 12, 16, 17, 5, 6, 18, 19, 20, 21, 22, 3, 23, 9] 0 () (by kernel_rfl) trivial ⟨[], ?_, ?_, ?_, ?_⟩ ?_
    · simp only [go_sem]
    · simp only [go_sem]
    · simp only [go_sem]
    · simp [goodNames, asg]
    intro _ _
    have h0 : ((0 : Int) < 0) = False := eq_false (by omega)
    have h1 : ((0 : Int) < ((0 : Nat) : Int)) = False := eq_false (by omega)
    simp only [go_sem, h0, h1]
  · cases hc
def c114W : Con
  | [.v (.slice none 0 0), F] => some ([], i64 (-1))
  | _ => none
theorem con114W : ConOK Tryz.prog 114 c114W := ConOK.go (G := [(71, c71), (116, c116)]) (H := []) (.cons con71 (.cons con116 .nil)) Tryz.func114 fun l ob rr hc hob => by
  unfold c114W at hc
  split at hc
  · rename_i F
    cases hc
    refine ⟨[.ro 0 1 fun _ => [], F], fun w I vs hR => ?_, by kernel_rfl, fnVC_go (rs := [.tmp 4]) rfl rfl ?_⟩
    · obtain ⟨y, ys, rfl, k1, k2⟩ := hR.inv
      exact .cons (R_nil k1) k2
    simp only [go_sem]
    refine loopN_go (fun (_ : Unit) => True) (fun _ => 0) (fun _ => [(8, i64 0)]) (fun _ => []) [] [9, 10, 5, 11, 12, 13, 14, 15, 16, 17, 4, 18, 8] 0 () (by kernel_rfl) trivial ⟨[], ?_, ?_, ?_, ?_⟩ ?_
    · simp only [go_sem]
    · simp only [go_sem]
    · simp only [go_sem]
    · simp [goodNames, asg]
    intro _ _
    have h0 : ((0 : Int) < 0) = False := eq_false (by omega)
    have h1 : ((0 : Int) < ((0 : Nat) : Int)) = False := eq_false (by omega)
    simp only [go_sem, h0, h1]
  · cases hc
def c70W : Con
  | [.v (.slice none 0 0), .fn q [.rop u, .rop v]] => some ([], .v (.slice none 0 0))
  | _ => none
theorem con70W : ConOK Tryz.prog 70 c70W := ConOK.go (G := [(114, c114W)]) (H := []) (.cons con114W .nil) Tryz.func70 fun l ob rr hc hob => by
  unfold c70W at hc
  split at hc
  · rename_i q u v
    cases hc
    refine ⟨[.v (.slice none 0 0), .fn q [.rop u, .rop v]], fun w I vs hR => hR, by kernel_rfl, fnVC_go (rs := [.tmp 4]) rfl rfl ?_⟩
    have b1 : ((-1 : Int) == -1) = true := by decide
    simp only [go_sem, c114W, ↓forall_eq, b1]
    exact fun h => (by cases h)
  · cases hc
def c21W : Con
  | [.v (.pointer none)] => some ([], .v (.slice none 0 0))
  | [.rop [.v (.map none)]] => some ([], .v (.slice none 0 0))
  | _ => none
theorem con21W : ConOK Tryz.prog 21 c21W := ConOK.go (G := [(59, c59V), (66, c66), (65, c65W), (71, c71), (70, .wr m70), (72, c72), (73, c73W), (74, c74)]) (H := []) (.cons con59V (.cons con66 (.cons con65W (.cons con71 (.mcons mon70 (.cons con72 (.cons con73W (.cons con74 .nil)))))))) Tryz.func21 fun l ob rr hc hob => by
  unfold c21W at hc
  split at hc
  · skip
    cases hc
    refine ⟨[.v (.pointer none)], fun w I vs hR => hR, by kernel_rfl, fnVC_go (rs := [.tmp 2]) rfl rfl ?_⟩
    simp only [go_sem, c59V, c65W, c73W, len22n, ↓forall_eq]
    refine loopN_go (fun (_ : Unit) => True) (fun _ => 0) (fun _ => [(18, i64 0), (4, .v (.slice none 0 0))]) (fun _ => []) [] [19, 20, 21, 7, 22, 23, 24, 25, 26, 27, 8, 28, 29, 30, 5, 31, 32, 33, 34, 35, 36, 10, 37, 38, 39, 40, 41, 42, 43, 44, 45, 46, 47, 48, 49, 50, 51, 52, 53, 54, 4, 55, 33, 56, 57, 58, 59, 5, 60, 18] 0 () (by kernel_rfl) trivial ⟨[], ?_, ?_, ?_, ?_⟩ ?_
    · simp only [go_sem]
    · simp only [go_sem]
    · simp only [go_sem]
    · simp [goodNames, asg]
    intro _ _
    have h0 : ((0 : Int) < 0) = False := eq_false (by omega)
    have h1 : ((0 : Int) < ((0 : Nat) : Int)) = False := eq_false (by omega)
    simp only [go_sem, h0, h1, c73W]
  · skip
    cases hc
    refine ⟨[.rop [.v (.map none)]], fun w I vs hR => hR, by kernel_rfl, fnVC_go (rs := [.tmp 2]) rfl rfl ?_⟩
    simp only [go_sem, c59V, c65W, c73W, len22n, ↓forall_eq]
    refine loopN_go (fun (_ : Unit) => True) (fun _ => 0) (fun _ => [(18, i64 0), (4, .v (.slice none 0 0))]) (fun _ => []) [] [19, 20, 21, 7, 22, 23, 24, 25, 26, 27, 8, 28, 29, 30, 5, 31, 32, 33, 34, 35, 36, 10, 37, 38, 39, 40, 41, 42, 43, 44, 45, 46, 47, 48, 49, 50, 51, 52, 53, 54, 4, 55, 33, 56, 57, 58, 59, 5, 60, 18] 0 () (by kernel_rfl) trivial ⟨[], ?_, ?_, ?_, ?_⟩ ?_
    · simp only [go_sem]
    · simp only [go_sem]
    · simp only [go_sem]
    · simp [goodNames, asg]
    intro _ _
    have h0 : ((0 : Int) < 0) = False := eq_false (by omega)
    have h1 : ((0 : Int) < ((0 : Nat) : Int)) = False := eq_false (by omega)
    simp only [go_sem, h0, h1, c73W]
  · cases hc
def c76W : Con
  | [.v (.pointer none), .fn 102 [.rop [.v (.int .i64 a), .v (.int .i64 b), .v (.int .i64 c), .v (.int .i64 d)]]] => some ([], .v (.slice none 0 0))
  | [.v (.pointer none), .fn 77 [.rop [.v (.int .i64 a), .v (.int .i64 b)], .rop [.v (.int .i64 c), .v (.int .i64 d)]]] => some ([], .v (.slice none 0 0))
  | [.rop [.v (.map none)], .fn 102 [.rop [.v (.int .i64 a), .v (.int .i64 b), .v (.int .i64 c), .v (.int .i64 d)]]] => some ([], .v (.slice none 0 0))
  | [.rop [.v (.map none)], .fn 77 [.rop [.v (.int .i64 a), .v (.int .i64 b)], .rop [.v (.int .i64 c), .v (.int .i64 d)]]] => some ([], .v (.slice none 0 0))
  | _ => none
theorem con76W : ConOK Tryz.prog 76 c76W := ConOK.go (G := [(59, c59V), (116, c116), (70, c70W)]) (H := []) (.cons con59V (.cons con116 (.cons con70W .nil))) Tryz.func76 fun l ob rr hc hob => by
  unfold c76W at hc
  split at hc
  · rename_i a b c d
    cases hc
    refine ⟨[.v (.pointer none), .fn 102 [.rop [i64 a, i64 b, i64 c, i64 d]]], fun w I vs hR => hR, by kernel_rfl, fnVC_go (rs := [.tmp 4]) rfl rfl ?_⟩
    simp only [go_sem, c59V, c70W, ↓forall_eq]
  · rename_i a b c d
    cases hc
    refine ⟨[.v (.pointer none), .fn 77 [.rop [i64 a, i64 b], .rop [i64 c, i64 d]]], fun w I vs hR => hR, by kernel_rfl, fnVC_go (rs := [.tmp 4]) rfl rfl ?_⟩
    simp only [go_sem, c59V, c70W, ↓forall_eq]
  · rename_i a b c d
    cases hc
    refine ⟨[.rop [.v (.map none)], .fn 102 [.rop [i64 a, i64 b, i64 c, i64 d]]], fun w I vs hR => hR, by kernel_rfl, fnVC_go (rs := [.tmp 4]) rfl rfl ?_⟩
    simp only [go_sem, c59V, c70W, ↓forall_eq]
  · rename_i a b c d
    cases hc
    refine ⟨[.rop [.v (.map none)], .fn 77 [.rop [i64 a, i64 b], .rop [i64 c, i64 d]]], fun w I vs hR => hR, by kernel_rfl, fnVC_go (rs := [.tmp 4]) rfl rfl ?_⟩
    simp only [go_sem, c59V, c70W, ↓forall_eq]
  · cases hc
def c50W : Con
  | [.v (.pointer none), .agg [.v (.int .i64 a), .v (.int .i64 b), .v (.int .i64 c), .v (.int .i64 d)]] => some ([], .v (.slice none 0 0))
  | [.rop [.v (.map none)], .agg [.v (.int .i64 a), .v (.int .i64 b), .v (.int .i64 c), .v (.int .i64 d)]] => some ([], .v (.slice none 0 0))
  | _ => none
theorem con50W : ConOK Tryz.prog 50 c50W := ConOK.go (G := [(102, c102), (76, c76W)]) (H := []) (.cons con102 (.cons con76W .nil)) Tryz.func50 fun l ob rr hc hob => by
  unfold c50W at hc
  split at hc
  · rename_i a b c d
    cases hc
    refine ⟨[.v (.pointer none), .agg [i64 a, i64 b, i64 c, i64 d]], fun w I vs hR => hR, by kernel_rfl, fnVC_go (rs := [.tmp 4]) rfl rfl ?_⟩
    simp only [go_sem, c76W, ↓forall_eq]
  · rename_i a b c d
    cases hc
    refine ⟨[.rop [.v (.map none)], .agg [i64 a, i64 b, i64 c, i64 d]], fun w I vs hR => hR, by kernel_rfl, fnVC_go (rs := [.tmp 4]) rfl rfl ?_⟩
    simp only [go_sem, c76W, ↓forall_eq]
  · cases hc
def c24W : Con
  | [.v (.pointer none), .agg [.v (.int .i64 a), .v (.int .i64 b)], .agg [.v (.int .i64 c), .v (.int .i64 d)]] => some ([], .v (.slice none 0 0))
  | [.rop [.v (.map none)], .agg [.v (.int .i64 a), .v (.int .i64 b)], .agg [.v (.int .i64 c), .v (.int .i64 d)]] => some ([], .v (.slice none 0 0))
  | _ => none
theorem con24W : ConOK Tryz.prog 24 c24W := ConOK.go (G := [(77, c77), (76, c76W)]) (H := []) (.cons con77 (.cons con76W .nil)) Tryz.func24 fun l ob rr hc hob => by
  unfold c24W at hc
  split at hc
  · rename_i a b c d
    cases hc
    refine ⟨[.v (.pointer none), .agg [i64 a, i64 b], .agg [i64 c, i64 d]], fun w I vs hR => hR, by kernel_rfl, fnVC_go (rs := [.tmp 6]) rfl rfl ?_⟩
    simp only [go_sem, c76W, ↓forall_eq]
  · rename_i a b c d
    cases hc
    refine ⟨[.rop [.v (.map none)], .agg [i64 a, i64 b], .agg [i64 c, i64 d]], fun w I vs hR => hR, by kernel_rfl, fnVC_go (rs := [.tmp 6]) rfl rfl ?_⟩
    simp only [go_sem, c76W, ↓forall_eq]
  · cases hc
end Go.Ax
end

section
/-
  The frame of a law: its arguments ars abstract values, and what they read ars behind the call.
-/
set_option linter.unusedSimpArgs false
set_option linter.unusedVariables false
namespace Go.Ax
open Go.ChangeShapes Go.WideShapes Go.ChangeAt Go.RowKit

/-- What an argument is. -/
inductive ShV where
  | int (k : IntKind)
  | bool
  | agg (es : List Sh)
  | slice (sz : Nat) (es : List Sh)

def shV (P : Program) (t : TypeId) : Option ShV :=
  match P.underlying t with
  | some .bool => some .bool
  | some (.int k) => some (.int k)
  | some (.slice _) => match shT P 6 t with
    | some [.slice sz es] => some (.slice sz es)
    | _ => none
  | some (.struct _) => (shT P 6 t).map .agg
  | some (.array _ _) => (shT P 6 t).map .agg
  | _ => none

def fitV : ShV → AV → Prop
  | .int k, a => ∃ n, a = .v (.int k n) ∧ (Lit.int k n).wf = true
  | .bool, a => ∃ b, a = .v (.bool b)
  | .agg es, a => ∃ l, a = .agg l ∧ fitS es l
  | .slice sz es, a => ∃ (n : Nat) (get : Nat → List AV), a = .ro n sz get ∧ n ≤ maxLen ∧ ∀ i, fitS es (get i)

def shVs (P : Program) : List TypeId → Option (List ShV)
  | [] => some []
  | t :: ts => match shV P t, shVs P ts with
    | some s, some r => some (s :: r)
    | _, _ => none
def fitVs : List ShV → List AV → Prop
  | [], l => l = []
  | s :: ss, l => ∃ a r, l = a :: r ∧ fitV s a ∧ fitVs ss r

section
variable {H : Type} {enc : TypeId × Value → H} {P : Program} {w : World} {spare : Nat → Bool} {held : Bool} {base : Nat}

theorem okWide_agg_struct {t : TypeId} {fs : Array Field} {v : Value} (ht : P.underlying t = some (.struct fs)) (h : Value.okWide P w .any base t v) : ∃ cs, v = .agg cs := by
  obtain ⟨cs, h, _⟩ := okWide_struct ht h
  exact ⟨cs, h⟩
theorem trod_agg_array {t e : TypeId} {n : Nat} {v : Value} {x : DataW H} {ps : List MemPlace} (ht : P.underlying t = some (.array n e)) (h : Value.okWide P w .any base t v) : ∃ cs, v = .agg cs := by
  cases v <;> simp [Value.okWide, Value.ok, ht] at h <;> exact ⟨_, rfl⟩

theorem arg_read {t : TypeId} {s : ShV} {v : Value} {x : DataW H} {ps : List MemPlace} (hs : shV P t = some s) (ho : Value.okWide P w .any base t v) (h : DataW.Trod enc P w 0 spare held t v x ps) : ∃ a, fitV s a ∧ R w (.ext (All w)) a v := by
  unfold shV at hs
  split at hs
  · rename_i hu
    cases hs
    obtain ⟨b, rfl⟩ := okWide_bool hu ho
    exact ⟨_, ⟨b, rfl⟩, .v⟩
  · rename_i k hu
    cases hs
    obtain ⟨n, rfl, _, _, hw⟩ := open_int hu ho h
    exact ⟨_, ⟨n, rfl, hw⟩, .v⟩
  · rename_i e hu
    split at hs
    · rename_i sz es he
      cases hs
      obtain ⟨a, len, cap, rfl⟩ := okWide_slice hu ho
      obtain ⟨n, get, h1, h2, h3⟩ := slice_read he h
      exact ⟨_, ⟨n, get, rfl, h1, h2⟩, h3⟩
    · cases hs
  · rename_i fs hu
    obtain ⟨es, he, rfl⟩ := Option.map_eq_some_iff.1 hs
    obtain ⟨cs, rfl⟩ := okWide_agg_struct hu ho
    obtain ⟨l, h1, h2⟩ := agg_read he h
    exact ⟨_, ⟨l, rfl, h1⟩, h2⟩
  · rename_i n e hu
    obtain ⟨es, he, rfl⟩ := Option.map_eq_some_iff.1 hs
    obtain ⟨cs, rfl⟩ := trod_agg_array (x := x) (ps := ps) hu ho
    obtain ⟨l, h1, h2⟩ := agg_read he h
    exact ⟨_, ⟨l, rfl, h1⟩, h2⟩
  · cases hs

theorem args_read : ∀ {ts : List TypeId} {ss : List ShV} {vs : List Value} {ds : List (DataW H)} {ps : List MemPlace}, shVs P ts = some ss → (∀ (j : Nat) t v, ts[j]? = some t → vs[j]? = some v → Value.okWide P w .any base t v) →
    DataW.TrodAll enc P w 0 spare held ts vs ds ps → ∃ l, fitVs ss l ∧ Rs w (.ext (All w)) l vs
  | [], ss, vs, ds, ps, hs, ho, h => by
    simp only [shVs, Option.some.injEq] at hs
    subst hs
    obtain ⟨rfl, rfl, rfl⟩ := trodAll_nil h
    exact ⟨[], rfl, .nil⟩
  | t :: ts, ss, vs, ds, ps, hs, ho, h => by
    simp only [shVs] at hs
    split at hs
    · rename_i s r h1 h2
      cases hs
      obtain ⟨v, vs', d, ds', p, q, rfl, rfl, rfl, h3, h4⟩ := trodAll_cons h
      obtain ⟨a, a1, a2⟩ := arg_read h1 (ho 0 t v rfl rfl) h3
      obtain ⟨l, b1, b2⟩ := args_read h2 (fun j t v hj hv => ho (j + 1) t v (by simpa using hj) (by simpa using hv)) h4
      exact ⟨a :: l, ⟨a, l, rfl, a1, b1⟩, Rs.cons a2 b2⟩
    · cases hs

/-- Types that may be read whole. -/
def readOK (P : Program) (ts : List TypeId) : Bool := ts.all fun t => P.readableRec t && decide (t < P.types.size)

theorem args_stay {W W' : World} (hl : laidOutB P = true) (hb : Below W.heap.size W W') : ∀ {ts : List TypeId} {vs : List Value} {ds : List (DataW H)} {ps : List MemPlace}, readOK P ts = true →
    DataW.TrodAll enc P W 0 (fun _ => true) true ts vs ds ps → ∃ ps, DataW.TrodAll enc P W' 0 (fun b => decide (b < W.heap.size)) true ts vs ds ps
  | [], vs, ds, ps, _, h => by
    obtain ⟨rfl, rfl, rfl⟩ := trodAll_nil h
    exact ⟨[], rfl⟩
  | t :: ts, vs, ds, ps, hr, h => by
    obtain ⟨v, vs', d, ds', p, q, rfl, rfl, rfl, h3, h4⟩ := trodAll_cons h
    simp only [readOK, List.all_cons, Bool.and_eq_true, decide_eq_true_eq] at hr
    obtain ⟨q', h5⟩ := args_stay hl hb (by simpa [readOK] using hr.2) h4
    refine ⟨_, trodAll_cons_mk (Below.trod hl hr.1.1 hr.1.2 h3 hb ?_) h5⟩
    obtain ⟨m, hm⟩ := h3
    exact DataW.trod_lt m _ _ _ hm
end
end Go.Ax
end

section
/-
  Laws about tables and sweeps: their arguments.
-/
set_option linter.unusedVariables false
set_option linter.unusedSimpArgs false
set_option maxHeartbeats 4000000
set_option maxRecDepth 100000
namespace Go.Ax
open Go.Proofs Go.ChangeShapes Go.WideShapes Go.ChangeAt Go.RowKit
end Go.Ax
end
