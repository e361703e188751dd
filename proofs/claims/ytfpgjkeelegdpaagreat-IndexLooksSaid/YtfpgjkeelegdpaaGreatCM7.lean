/-
  The chapter's examples hold.
-/
import Derived.Test.YtfpgjkeelegdpaaGreatCM6
import Derived.Shelf.SlMaps.Clone
import Derived.Ground.SlmcProg
section
set_option linter.unusedVariables false
set_option linter.unusedSimpArgs false
set_option maxHeartbeats 4000000
set_option maxRecDepth 100000
namespace Go.Ax
open Go.Proofs
theorem slF_eq {K : Nat} {s : SlS} : slF K s = famR [⟨1, 2, 100, fun _ => [u64 s.x, .own K 1 s.n 1], none⟩, ⟨s.n, 1, 3, fun i => [i64 (s.G i)], none⟩] s.tl := (rfl)
def g0 : Nat → Int := fun _ => 0
def g1 : Nat → Int := upI g0 0 1
def g2 : Nat → Int := upI g1 1 1
theorem F45_3' : F45 [i64 3] = some ([], fun k => .tup [.bx k 0, i64 0], fun k => some (slF k ⟨0, 3, g0, noRows⟩)) := (rfl)
theorem tkI_0 : tkI ⟨0, 3, g0, noRows⟩ = 0 := by decide +kernel
theorem tkI_1 : tkI ⟨1, 3, g1, noRows⟩ = 1 := by decide +kernel
theorem tkS_0 : tkS ⟨0, 3, g0, noRows⟩ = ⟨1, 3, g1, noRows⟩ := by
  unfold tkS; rw [tkI_0]; rfl
theorem tkS_1 : tkS ⟨1, 3, g1, noRows⟩ = ⟨3, 3, g2, noRows⟩ := by
  unfold tkS; rw [tkI_1]; rfl
theorem tkE_0 : tkE ⟨0, 3, g0, noRows⟩ = 0 := by decide +kernel
theorem tkE_1 : tkE ⟨1, 3, g1, noRows⟩ = 0 := by decide +kernel
theorem tkH_0 : tkH ⟨0, 3, g0, noRows⟩ = (0, 1) := by decide +kernel
theorem tkH_1 : tkH ⟨1, 3, g1, noRows⟩ = (1, 1) := by decide +kernel
theorem slOK_0 : slOK ⟨0, 3, g0, noRows⟩ = True := eq_true ⟨⟨by decide, by decide⟩, ⟨by decide, by decide⟩, by decide⟩
theorem slOK_1 : slOK ⟨1, 3, g1, noRows⟩ = True := eq_true ⟨⟨by decide, by decide⟩, ⟨by decide, by decide⟩, by decide⟩
theorem slOK_2 : slOK ⟨3, 3, g2, noRows⟩ = True := eq_true ⟨⟨by decide, by decide⟩, ⟨by decide, by decide⟩, by decide⟩
theorem has_2 : hasI ⟨3, 3, g2, noRows⟩ 1 1 = true := by decide +kernel
theorem fr_2 : frS ⟨3, 3, g2, noRows⟩ 1 1 = ⟨1, 3, g2, noRows⟩ := by
  unfold frS; rw [has_2]; rfl
theorem at_3 : atOk 1 3 1 = false := by decide +kernel
theorem at_4 : atOk 1 3 0 = true := by decide +kernel
theorem g2_0 : g2 0 = 1 := (rfl)
theorem g2_0' : g2 (Int.toNat 0) = 1 := (rfl)
theorem selIn_sh : selIn shL = True := eq_true fun k j => by
  have h : memSel shL k = none ∨ memSel shL k = some [0, 0, 10, 10] ∨ memSel shL k = some [10, 5, 20, 8] ∨ memSel shL k = some [11, 0, 12, 4] := by
    unfold shL
    simp only [memSel]
    repeat' split
    all_goals simp
  rcases h with h | h | h | h <;> rw [h] <;> unfold selAt inR <;> dsimp only <;> (try (rcases j with _ | _ | _ | _ | j <;> simp <;> omega)) <;> (try omega)
theorem ms_eq {α : Type} {le : α → α → Bool} (tr : ∀ a b c, le a b = true → le b c = true → le a c = true) (tot : ∀ a b, (le a b || le b a) = true) (anti : ∀ a b, le a b = true → le b a = true → a = b) {l l' : List α} (hp : l.Perm l') (hs : l'.Pairwise fun a b => le a b = true) : l.mergeSort le = l' :=
  List.Perm.eq_of_pairwise (le := fun a b => le a b = true) (fun a b _ _ h1 h2 => anti a b h1 h2) (List.pairwise_mergeSort tr tot l) hs ((List.mergeSort_perm l le).trans hp)
theorem srtK_eq {L : Ents} {l : List Int} (hp : (L.map (·.1)).Perm l) (hs : l.Pairwise fun a b => a ≤ b) : srtK L = l :=
  ms_eq (by simp; omega) (by simp; omega) (by simp; omega) hp (hs.imp fun h => by simpa using h)
theorem srtX_eq {L : Ents} {l l' : List Int} (hp : l.Perm l') (hs : l'.Pairwise fun a b => (!Go.Proofs.ltOf (cfL L) b a) = true) : srtX L l = l' :=
  ms_eq (fun a b c h1 h2 => by rw [cfL_lt] at *; simp at *; omega) (fun a b => by rw [cfL_lt, cfL_lt, Bool.or_eq_true]; simp; omega) (fun a b h1 h2 => by rw [cfL_lt] at *; simp at *; omega) hp hs
theorem srtP_eq {l l' : List (Int × Int)} (hp : l.Perm l') (hs : l'.Pairwise fun a b => (!Go.Proofs.ltOf cfP b a) = true) : srtP l = l' :=
  ms_eq (fun a b c h1 h2 => by rw [cfP_lt] at *; simp at *; omega) (fun a b => by rw [cfP_lt, cfP_lt, Bool.or_eq_true]; simp; omega) (fun a b h1 h2 => cfP_tot (by simpa using h2) (by simpa using h1)) hp hs
theorem srtK_sh : srtK shL = [2, 5, 9] := srtK_eq (by decide) (by decide)
theorem ord_sh : ordL shL = [5, 2, 9] := by
  unfold ordL
  rw [srtK_sh]
  exact srtX_eq (by decide) (by decide +kernel)
theorem pairs_sh : pairsL shL = [(2, 5)] := by
  unfold pairsL
  rw [ord_sh, show (pw shL [5, 2, 9]).1 = [(2, 5)] by decide +kernel]
  exact srtP_eq (List.Perm.refl _) (by decide)
theorem seen_sh : seenL shL (fun x y z t => meetsS x y z t 12 4 13 6) = [2, 9] := by
  unfold seenL
  rw [srtK_sh]
  decide +kernel
theorem shL_len : shL.length = 3 := (rfl)
theorem c20_eq {a b : AV} : c20 [a, b] = c20f (roP a) (roP b) := (rfl)
theorem c20f_some {o1 o2 : List Prop} {n m : Nat} {X Y : Nat → Int × Int} : c20f (some (o1, n, X)) (some (o2, m, Y)) = some ((n ≤ 100000) :: (o1 ++ o2), bo (decide (lP n X = lP m Y))) := (rfl)
theorem c49_eq {a b : AV} : c49 [a, b] = c49f (roI a) (roI b) := (rfl)
theorem c49f_some {o1 o2 : List Prop} {n m : Nat} {X Y : Nat → Int} : c49f (some (o1, n, X)) (some (o2, m, Y)) = some ((n ≤ 100000) :: (o1 ++ o2), bo (decide (lX n X = lX m Y))) := (rfl)
theorem famNK_ls {key n : Nat} {l : List (Int × Int)} {ty : TypeId} {g : Option Bool} : famNK key (famN n 2 ty (lsF l) g) = True := eq_true fun f j hj c hc => by
  match f with
  | 0 =>
    have hc : c ∈ lsF l j := hc
    simp only [lsF, List.mem_cons, List.not_mem_nil, or_false] at hc
    rcases hc with rfl | rfl <;> trivial
  | f + 1 => have hj : j < 0 := hj; omega
theorem purL_ls {d : Nat} {m : Mem} {l : List (Int × Int)} {i : Nat} : purL (d + 1) m (lsF l i) = lsF l i := (rfl)
attribute [go_sem] purL_ls c20_eq c20f_some c49_eq c49f_some famNK_ls roI_ro roI_nil roP_ro roP_nil
def c15 : Con
  | [] => some ([], bo true)
  | _ => none
theorem aw_p : decide (lP 1 (gxP fun i => lsF [(2, 5)] i) = lP 1 (gxP (rowsOf 2 [i64 2, i64 5]))) = true := by decide +kernel
theorem aw_i : decide ((lX 2 fun i => [2, 9].getD i 0) = lX 2 (gx (rowsOf 1 [i64 2, i64 9]) 0)) = true := by decide +kernel
theorem aw_q : (∀ i, i < 1 → List.take 2 (List.drop (i * 2) [i64 2, i64 5]) = canP (rowsOf 2 [i64 2, i64 5]) i) = True := eq_true fun i hi => by
  obtain rfl : i = 0 := by omega
  rfl
theorem aw_j : ints 2 (rowsOf 1 [i64 2, i64 9]) = True := eq_true fun i hi => by
  match i, hi with
  | 0, _ => rfl
  | 1, _ => rfl
theorem inR_13 : inR 13 = True := inR_l (by decide)
theorem inR_6 : inR 6 = True := inR_l (by decide)
theorem con15 : ConOK Tryz.prog 15 c15 := ConOK.of (G := [(45, .wr m45), (57, .wr mN57), (40, .wr m40), (44, .wr m44), (60, k60), (21, .wr mN21), (20, c20), (25, c25), (50, .wr mN50), (49, c49)]) (H := []) (.mcons mon45 (.mcons mon57 (.mcons mon40 (.mcons mon44 (.cons con60 (.mcons mon21 (.cons con20 (.cons con25 (.mcons mon50 (.cons con49 .nil)))))))))) Tryz.func15 fun l ob rr hc hob => by
  unfold c15 at hc
  split at hc
  · cases hc
    refine ⟨by kernel_rfl, fnVC_go (rs := [.tmp 0]) rfl rfl ?_⟩
    simp only [go_sem, mN57_eq, m40, m44, m45, k60, slF_eq, swF_eq, F45_3', F40, F44, F60, tkS_0, tkS_1, tkE_0, tkE_1, tkH_0, tkH_1, slOK_0, slOK_1, slOK_2, has_2, fr_2, at_3, at_4, g2_0, g2_0', famNK_W', selIn_sh, pairs_sh, seen_sh, shL_len, F21, F50, mN21_eq, c25, aw_p, aw_i, aw_q, aw_j, inR_4, inR_12, inR_13, inR_6]
    have b0 : ((0 : Int) != 0) = false := by decide
    have b1 : ((0 : Int) == 0) = true := by decide
    have b2 : ((1 : Int) == 1) = true := by decide
    simp only [forall_eq, b0, b1, b2, false_or, or_false, Bool.false_eq_true, false_imp_iff, true_imp_iff, true_and, and_true, and_self, not_true, eq_self, not_false_iff, imp_self, implies_true, Bool.and_true, Bool.not_false, Bool.and_self, Bool.true_eq_false, false_imp_iff, imp_true_iff, aw_p, aw_i, aw_q, aw_j]
  · cases hc
end Go.Ax
end

section
/-
  The plain law of pairs: what the sweep from the left finds is what each held against each finds.
-/
set_option linter.unusedVariables false
set_option linter.unusedSimpArgs false
set_option maxHeartbeats 4000000
set_option maxRecDepth 100000
namespace Go.Ax
open Go.Proofs
theorem meetsS_comm {a b c d x y z t : Int} : meetsS a b c d x y z t = meetsS x y z t a b c d := by
  unfold meetsS
  apply decide_eq_decide.2
  constructor <;> rintro ⟨h1, h2, h3, h4, h5, h6⟩ <;> exact ⟨h2, h1, h4, h3, h6, h5⟩
theorem mtK_comm {L : Ents} {a b : Int} : mtK L a b = mtK L b a := meetsS_comm
/-- Each with those behind it. -/
def prR (L : Ents) : List Int → List (Int × Int)
  | [] => []
  | a :: t => (t.filter fun b => mtK L a b).map (fun b => (min a b, max a b)) ++ prR L t
theorem prR_perm {L : Ents} {l l' : List Int} (h : l.Perm l') : (prR L l).Perm (prR L l') := by
  induction h with
  | nil => exact .refl _
  | cons a h ih => exact ((h.filter _).map _).append ih
  | swap a b t =>
    simp only [prR, List.filter_cons]
    have hc : mtK L a b = mtK L b a := mtK_comm
    have hm : (min a b, max a b) = (min b a, max b a) := by rw [Int.min_comm, Int.max_comm]
    rw [hc]
    cases mtK L b a
    · simp only [Bool.false_eq_true, if_false]
      exact List.perm_append_comm_assoc _ _ _
    · simp only [if_true, List.map_cons, List.cons_append, hm]
      exact (List.perm_append_comm_assoc _ _ _).cons _
  | trans h1 h2 i1 i2 => exact i1.trans i2
theorem prR_end {L : Ents} {x : Int} : ∀ {p : List Int}, (prR L (p ++ [x])).Perm (prR L p ++ (p.filter fun k => mtK L k x).map fun k => (min x k, max x k))
  | [] => by simp [prR]
  | a :: p => by
    have ih := prR_end (L := L) (x := x) (p := p)
    simp only [List.cons_append, prR, List.filter_append, List.map_append, List.filter_cons, List.filter_nil]
    have hm : (min a x, max a x) = (min x a, max x a) := by rw [Int.min_comm, Int.max_comm]
    cases mtK L a x
    · simp only [Bool.false_eq_true, if_false, List.map_nil, List.append_nil, List.append_assoc]
      exact ih.append_left _
    · simp only [if_true, List.map_cons, List.map_nil, List.append_assoc]
      refine List.Perm.append_left _ ?_
      rw [hm]
      refine (ih.append_left [_]).trans ?_
      show (_ :: (prR L p ++ _)).Perm (prR L p ++ _ :: _)
      exact List.perm_middle.symm
/-- What the sweep has when it has gone through the first ones. -/
theorem pw_end {L : Ents} {p : List Int} {x : Int} : pw L (p ++ [x]) = pwStep L (pw L p) x := by
  unfold pw; rw [List.foldl_append]; rfl
theorem pw_inv {L : Ents} : ∀ (r p : List Int), (p ++ r).Nodup → ((p ++ r).Pairwise fun a b => selAt (memSel L a) 0 ≤ selAt (memSel L b) 0) → (pw L p).1.Perm (prR L p) → (∃ q : Int → Bool, (pw L p).2 = p.filter q ∧ ∀ k ∈ p, q k = false → ∀ id ∈ r, selAt (memSel L k) 2 < selAt (memSel L id) 0) → (pw L (p ++ r)).1.Perm (prR L (p ++ r))
  | [], p, _, _, h, _ => by rw [List.append_nil]; exact h
  | x :: r, p, hn, hs, h, ⟨q, h1, h2⟩ => by
    have e : p ++ x :: r = (p ++ [x]) ++ r := by simp
    rw [e] at hn hs ⊢
    have hx : x ∉ p := fun hx => by
      have := (List.nodup_append.1 (List.nodup_append.1 hn).1).2.2 x hx x (by simp)
      exact this rfl
    refine pw_inv r (p ++ [x]) hn hs ?_ ⟨fun k => k == x || (q k && !decide (selAt (memSel L k) 2 < selAt (memSel L x) 0)), ?_, fun k hk hq id hid => ?_⟩
    · rw [pw_end]
      unfold pwStep
      dsimp only
      refine List.Perm.trans ?_ prR_end.symm
      refine h.append ?_
      rw [h1, List.filter_filter, List.filter_filter]
      refine List.Perm.of_eq (congrArg _ (List.filter_congr fun k hk => ?_))
      show (mtK L k x && !decide (selAt (memSel L k) 2 < selAt (memSel L x) 0) && q k) = mtK L k x
      cases hm : mtK L k x with
      | false => rfl
      | true =>
        have hlt : ¬ selAt (memSel L k) 2 < selAt (memSel L x) 0 := by
          unfold mtK meetsS at hm
          rw [decide_eq_true_iff] at hm
          omega
        cases hq : q k with
        | true => rw [decide_eq_false hlt]; rfl
        | false => exact absurd (h2 k hk hq x (by simp)) hlt
    · rw [pw_end]
      unfold pwStep
      dsimp only
      rw [h1, List.filter_filter, List.filter_append]
      congr 1
      · refine List.filter_congr fun k hk => ?_
        have : (k == x) = false := by
          rw [beq_eq_false_iff_ne]
          rintro rfl
          exact hx hk
        rw [this, Bool.false_or, Bool.and_comm]
      · simp
    · rw [Bool.or_eq_false_iff, beq_eq_false_iff_ne] at hq
      obtain ⟨hkx, hq⟩ := hq
      have hk : k ∈ p := by
        rcases List.mem_append.1 hk with hk | hk
        · exact hk
        · exact absurd (by simpa using hk) hkx
      rw [Bool.and_eq_false_iff] at hq
      rcases hq with hq | hq
      · exact h2 k hk hq id (by simp [hid])
      · have hq : selAt (memSel L k) 2 < selAt (memSel L x) 0 := by simpa using hq
        have := (List.pairwise_append.1 hs).2.2 x (by simp) id hid
        omega
theorem srtX_pw {L : Ents} {l : List Int} : (srtX L l).Pairwise fun a b => selAt (memSel L a) 0 ≤ selAt (memSel L b) 0 := by
  refine List.Pairwise.imp (R := fun a b => (!Go.Proofs.ltOf (cfL L) b a) = true) (fun {a b} h => ?_) (List.pairwise_mergeSort ?_ ?_ l)
  · rw [cfL_lt] at h; simp at h; omega
  · intro a b c h1 h2
    rw [cfL_lt] at *; simp at *; omega
  · intro a b
    rw [cfL_lt, cfL_lt, Bool.or_eq_true]; simp; omega
theorem srtX_perm {L : Ents} {l : List Int} : (srtX L l).Perm l := List.mergeSort_perm _ _
theorem srtK_perm {L : Ents} : (srtK L).Perm (L.map (·.1)) := List.mergeSort_perm _ _
theorem srtK_le {L : Ents} : (srtK L).Pairwise fun a b => a ≤ b := by
  refine List.Pairwise.imp (R := fun a b => decide (a ≤ b) = true) (fun {a b} h => by simpa using h) (List.pairwise_mergeSort ?_ ?_ _)
  · intro a b c h1 h2
    simp at *; omega
  · intro a b
    rw [Bool.or_eq_true]; simp; omega
/-- The ids are all different. -/
def keysN (L : Ents) : Prop := (L.map (·.1)).Nodup
theorem srtK_lt {L : Ents} (h : keysN L) : (srtK L).Pairwise fun a b => a < b := by
  have hn : (srtK L).Nodup := srtK_perm.nodup_iff.2 h
  exact (srtK_le.and hn).imp fun h => by
    obtain ⟨h1, h2⟩ := h
    omega
/-- Each held against those behind it, by ascending ids. -/
def bruP (L : Ents) : List Int → List (Int × Int)
  | [] => []
  | a :: t => (t.filter fun b => mtK L a b).map (fun b => (a, b)) ++ bruP L t
theorem bru_prR {L : Ents} : ∀ {l : List Int}, (l.Pairwise fun a b => a < b) → prR L l = bruP L l
  | [], _ => rfl
  | a :: t, h => by
    obtain ⟨h1, h2⟩ := List.pairwise_cons.1 h
    rw [prR, bruP, bru_prR h2]
    congr 1
    refine List.map_congr_left fun b hb => ?_
    have := h1 b (List.mem_filter.1 hb).1
    rw [Int.min_eq_left (by omega), Int.max_eq_right (by omega)]
theorem bru_mem {L : Ents} : ∀ {l : List Int} {p : Int × Int}, p ∈ bruP L l → p.1 ∈ l ∧ p.2 ∈ l
  | [], _, h => by cases h
  | a :: t, p, h => by
    rw [bruP, List.mem_append] at h
    rcases h with h | h
    · obtain ⟨b, hb, rfl⟩ := List.mem_map.1 h
      exact ⟨by simp, by simp [(List.mem_filter.1 hb).1]⟩
    · have := bru_mem h
      exact ⟨by simp [this.1], by simp [this.2]⟩
theorem bru_sorted {L : Ents} : ∀ {l : List Int}, (l.Pairwise fun a b => a < b) → (bruP L l).Pairwise fun p q => (!Go.Proofs.ltOf cfP q p) = true
  | [], _ => .nil
  | a :: t, h => by
    obtain ⟨h1, h2⟩ := List.pairwise_cons.1 h
    rw [bruP]
    refine List.pairwise_append.2 ⟨?_, bru_sorted h2, fun p hp q hq => ?_⟩
    · rw [List.pairwise_map]
      refine (h2.filter _).imp fun {b c} hbc => ?_
      rw [cfP_lt]; simp; omega
    · obtain ⟨b, hb, rfl⟩ := List.mem_map.1 hp
      have := h1 _ (bru_mem hq).1
      rw [cfP_lt]; simp; omega
theorem pairs_eq {L : Ents} (h : keysN L) : pairsL L = bruP L (srtK L) := by
  have hl := srtK_lt h
  have hn : (srtK L).Nodup := srtK_perm.nodup_iff.2 h
  have ho : (ordL L).Nodup := srtX_perm.nodup_iff.2 hn
  unfold pairsL
  refine srtP_eq ?_ (bru_sorted hl)
  have := pw_inv (L := L) (ordL L) [] (by simpa using ho) (by rw [List.nil_append]; exact srtX_pw) (.refl _) ⟨fun _ => true, rfl, fun k hk => by cases hk⟩
  rw [List.nil_append] at this
  refine this.trans ?_
  rw [← bru_prR hl]
  exact prR_perm srtX_perm
/-! ### Each held against those behind it, by places -/
def wIn (M : Nat → Nat → Bool) (X : Nat → Int) (i : Nat) : Nat → List (Int × Int)
  | 0 => []
  | j + 1 => wIn M X i j ++ (if M i (i + 1 + j) = true then [(X i, X (i + 1 + j))] else [])
def wOut (M : Nat → Nat → Bool) (X : Nat → Int) (n : Nat) : Nat → List (Int × Int)
  | 0 => []
  | i + 1 => wOut M X n i ++ wIn M X i (n - (i + 1))
theorem wIn_le {M : Nat → Nat → Bool} {X : Nat → Int} {i : Nat} : ∀ j, (wIn M X i j).length ≤ j
  | 0 => Nat.le_refl _
  | j + 1 => by
    have := wIn_le (M := M) (X := X) (i := i) j
    simp only [wIn, List.length_append]
    split <;> simp <;> omega
theorem wOut_le {M : Nat → Nat → Bool} {X : Nat → Int} {n : Nat} : ∀ i, (wOut M X n i).length ≤ i * n
  | 0 => by simp [wOut]
  | i + 1 => by
    have h1 := wOut_le (M := M) (X := X) (n := n) i
    have h2 := wIn_le (M := M) (X := X) (i := i) (n - (i + 1))
    simp only [wOut, List.length_append]
    rw [Nat.add_mul]
    omega
theorem wIn_eq {L : Ents} {o : List Int} {M : Nat → Nat → Bool} {i : Nat} (hM : ∀ k, i < k → k < o.length → M i k = mtK L (o.getD i 0) (o.getD k 0)) : ∀ j, i + 1 + j ≤ o.length → wIn M (fun k => o.getD k 0) i j = (((o.drop (i + 1)).take j).filter fun b => mtK L (o.getD i 0) b).map fun b => (o.getD i 0, b)
  | 0, _ => by simp [wIn]
  | j + 1, h => by
    rw [wIn, wIn_eq hM j (by omega), List.take_add_one, List.filter_append, List.map_append, List.getElem?_drop, List.getElem?_eq_getElem (by omega), hM (i + 1 + j) (by omega) (by omega)]
    have e : o.getD (i + 1 + j) 0 = o[i + 1 + j] := by rw [List.getD_eq_getElem?_getD, List.getElem?_eq_getElem (by omega)]; rfl
    rw [e]
    congr 1
    show _ = List.map _ (List.filter _ [o[i + 1 + j]])
    generalize o.getD i 0 = z
    generalize o[i + 1 + j] = b
    cases hm : mtK L z b <;> simp [hm]
theorem wOut_pre {L : Ents} {o : List Int} {M : Nat → Nat → Bool} (hM : ∀ i k, i < k → k < o.length → M i k = mtK L (o.getD i 0) (o.getD k 0)) : ∀ i, i ≤ o.length → wOut M (fun k => o.getD k 0) o.length i ++ bruP L (o.drop i) = bruP L o
  | 0, _ => by simp [wOut]
  | i + 1, h => by
    have ih := wOut_pre hM i (by omega)
    rw [← ih, wOut, List.append_assoc, wIn_eq (hM i) _ (by omega), List.take_of_length_le (by rw [List.length_drop]; omega)]
    have e : o.drop i = o.getD i 0 :: o.drop (i + 1) := by
      rw [List.drop_eq_getElem_cons (by omega)]
      congr 1
      rw [List.getD_eq_getElem?_getD, List.getElem?_eq_getElem (by omega)]; rfl
    rw [e, bruP]
theorem wOut_bru {L : Ents} {o : List Int} {M : Nat → Nat → Bool} (hM : ∀ i k, i < k → k < o.length → M i k = mtK L (o.getD i 0) (o.getD k 0)) : wOut M (fun k => o.getD k 0) o.length o.length = bruP L o := by
  have := wOut_pre hM o.length (Nat.le_refl _)
  rw [List.drop_length] at this
  rw [← this]; simp [bruP]
/-! ### What is asked of the entries -/
theorem memSel_mem {L : Ents} {k : Int} {x : List Int} (h : memSel L k = some x) : (k, x) ∈ L := by
  induction L with
  | nil => cases h
  | cons p L ih =>
    obtain ⟨q, y⟩ := p
    unfold memSel at h
    split at h
    · rename_i e; cases h; subst e; exact List.mem_cons_self
    · exact List.mem_cons_of_mem _ (ih h)
theorem mem_memSel {L : Ents} (hn : keysN L) {k : Int} {x : List Int} (h : (k, x) ∈ L) : memSel L k = some x := by
  induction L with
  | nil => cases h
  | cons p L ih =>
    obtain ⟨q, y⟩ := p
    have hn : q ∉ L.map (·.1) ∧ (L.map (·.1)).Nodup := List.nodup_cons.1 hn
    unfold memSel
    rcases List.mem_cons.1 h with h | h
    · cases h; rw [if_pos rfl]
    · rw [if_neg, ih hn.2 h]
      rintro rfl
      exact hn.1 (List.mem_map_of_mem h)
end Go.Ax
end

section
/-
  What the laws' sweeps are made of: boxes of numbers.
-/
set_option linter.unusedVariables false
set_option linter.unusedSimpArgs false
set_option maxHeartbeats 4000000
set_option maxRecDepth 100000
namespace Go.Ax
open Go.Proofs
end Go.Ax
end

section
/-
  The laws' sweeps: put.
-/
set_option linter.unusedVariables false
set_option linter.unusedSimpArgs false
set_option maxHeartbeats 4000000
set_option maxRecDepth 100000
namespace Go.Ax
open Go.Proofs
/-- Boxes that are valid, one an element. -/
def bxOK (n : Nat) (g : Nat → List AV) : Prop := ∀ i, i < n → g i = [i64 (gx g 0 i), i64 (gx g 1 i), i64 (gx g 2 i), i64 (gx g 3 i)] ∧ checkBoxS (gx g 0 i) (gx g 1 i) (gx g 2 i) (gx g 3 i) = 0
def bxI (g : Nat → List AV) (i : Nat) : List Int := [gx g 0 i, gx g 1 i, gx g 2 i, gx g 3 i]
/-- What has been put after i of n, from the first one on or from the last one on. -/
def ptAt (n : Nat) (last : Bool) (i : Nat) : Nat := if last = true then n - 1 - i else i
def ptL (n : Nat) (last : Bool) (B : Nat → List Int) : Nat → Ents
  | 0 => []
  | i + 1 => ptL n last B i ++ [((ptAt n last i : Int), B (ptAt n last i))]
theorem selNone {k : Int} : ∀ {L : Ents}, k ∉ L.map (·.1) → memSel L k = none
  | [], _ => rfl
  | (q, x) :: L, h => by
    rw [List.map_cons, List.mem_cons, not_or] at h
    unfold memSel
    rw [if_neg (fun e => h.1 e.symm), selNone h.2]
noncomputable def F14 : List AV → Option (List Prop × (Nat → AV) × (Nat → Option Fam))
  | [.ro n 4 g, .v (.bool last)] => some ([n ≤ 256, bxOK n g], fun k => .bx k 0, fun k => some (swF k ⟨ptL n last (bxI g) n, noRows⟩))
  | _ => none
noncomputable def mN14 : MCon := mcKU F14
theorem mN14_eq : mN14 = mcKU F14 := (rfl)
attribute [go_sem] mN14_eq
end Go.Ax
end

section
/-
  What the laws ask of lists of handles, and of what is in a list.
-/
set_option linter.unusedVariables false
set_option linter.unusedSimpArgs false
set_option maxHeartbeats 4000000
set_option maxRecDepth 100000
namespace Go.Ax
open Go.Proofs
def c43f : Option (List Prop × Nat × (Nat → Int × Int)) → Option (List Prop × Nat × (Nat → Int × Int)) → Option (List Prop × AV)
  | some (o1, n, X), some (o2, m, Y) => some ((n ≤ 100000) :: (o1 ++ o2), bo (decide (lP n X = lP m Y)))
  | _, _ => none
def c43 : Con
  | [a, b] => c43f (roP a) (roP b)
  | _ => none
def c38f (n : Nat) (X : Nat → Int × Int) (z : Int × Int) (ob : List Prop) : List Prop × AV := ((n ≤ 100000) :: ob, bo (decide (z ∈ lP n X)))
def c38 : Con
  | [a, .agg [.v (.int .i64 z1), .v (.int .i64 z2)]] => match roP a with
    | some (ob, n, X) => some (c38f n X (z1, z2) ob)
    | none => none
  | _ => none
end Go.Ax
end

section
/-
  The laws' sweeps: the plain law.
-/
set_option linter.unusedVariables false
set_option linter.unusedSimpArgs false
set_option maxHeartbeats 4000000
set_option maxRecDepth 100000
namespace Go.Ax
open Go.Proofs
theorem sel_put {k k' : Int} {x : List Int} : ∀ {L : Ents}, memSel (memPut L k x) k' = if k = k' then some x else memSel L k'
  | [] => by simp [memPut, memSel]
  | (q, y) :: L => by
    unfold memPut
    by_cases e : q = k
    · rw [if_pos e]
      subst e
      simp only [memSel]
      split <;> rfl
    · rw [if_neg e]
      simp only [memSel, sel_put]
      by_cases e2 : q = k'
      · rw [if_pos e2, if_pos e2, if_neg (by rintro rfl; exact e e2)]
      · rw [if_neg e2, if_neg e2]
theorem keys_put {k : Int} {x : List Int} : ∀ {L : Ents}, (memPut L k x).map (·.1) = if k ∈ L.map (·.1) then L.map (·.1) else L.map (·.1) ++ [k]
  | [] => by simp [memPut]
  | (q, y) :: L => by
    unfold memPut
    by_cases e : q = k
    · rw [if_pos e, if_pos (by simp [e])]; rfl
    · rw [if_neg e]
      have ih := keys_put (k := k) (x := x) (L := L)
      simp only [List.map_cons, List.mem_cons]
      rw [ih]
      by_cases h : k ∈ L.map (·.1)
      · rw [if_pos h, if_pos (.inr h)]
      · rw [if_neg h, if_neg (by rintro (h2 | h2); exact e h2.symm; exact h h2)]; rfl
theorem keys_del {k : Int} : ∀ {L : Ents}, (memDel L k).map (·.1) = (L.map (·.1)).erase k
  | [] => rfl
  | (q, y) :: L => by
    unfold memDel
    by_cases e : q = k
    · rw [if_pos e, e]; simp
    · rw [if_neg e, List.map_cons, keys_del, List.map_cons, List.erase_cons_tail (by simpa using e)]
theorem sel_del {k k' : Int} : ∀ {L : Ents}, keysN L → memSel (memDel L k) k' = if k = k' then none else memSel L k'
  | [], _ => by simp [memDel, memSel]
  | (q, y) :: L, h => by
    have hn : q ∉ L.map (·.1) ∧ (L.map (·.1)).Nodup := List.nodup_cons.1 h
    unfold memDel
    by_cases e : q = k
    · rw [if_pos e]
      subst e
      by_cases e2 : q = k'
      · subst e2
        rw [if_pos rfl, selNone hn.1]
      · rw [if_neg e2]
        simp only [memSel]
        rw [if_neg e2]
    · rw [if_neg e]
      simp only [memSel, sel_del hn.2]
      by_cases e2 : q = k'
      · rw [if_pos e2, if_pos e2, if_neg (by rintro rfl; exact e e2)]
      · rw [if_neg e2, if_neg e2]
theorem sel_some_mem {L : Ents} {k : Int} : (memSel L k).isSome = true ↔ k ∈ L.map (·.1) := by
  induction L with
  | nil => simp [memSel]
  | cons p L ih =>
    obtain ⟨q, y⟩ := p
    unfold memSel
    simp only [List.map_cons, List.mem_cons]
    by_cases e : q = k
    · rw [if_pos e]; simp [e]
    · rw [if_neg e, ih]
      constructor
      · exact .inr
      · rintro (h | h)
        · exact absurd h.symm e
        · exact h
/-- A valid box. -/
def okBx (x : List Int) : Prop := ∃ a b c d, x = [a, b, c, d] ∧ checkBoxS a b c d = 0
/-- A sweep whose ids are those below n. -/
structure SwI (n : Nat) (L : Ents) : Prop where
  nod : keysN L
  key : ∀ k : Int, k ∈ L.map (·.1) ↔ 0 ≤ k ∧ k < n
  box : ∀ k x, memSel L k = some x → okBx x
def rngI (n : Nat) : List Int := (List.range n).map fun j : Nat => (j : Int)
theorem rngI_lt {n : Nat} : (rngI n).Pairwise fun a b => a < b := by
  unfold rngI
  rw [List.pairwise_map]
  exact List.pairwise_lt_range.imp fun h => by omega
theorem rngI_mem {n : Nat} {k : Int} : k ∈ rngI n ↔ 0 ≤ k ∧ k < n := by
  unfold rngI
  rw [List.mem_map]
  constructor
  · rintro ⟨j, h1, rfl⟩
    have := List.mem_range.1 h1
    omega
  · rintro ⟨h1, h2⟩
    exact ⟨k.toNat, List.mem_range.2 (by omega), by omega⟩
theorem rngI_len {n : Nat} : (rngI n).length = n := by simp [rngI]
theorem lt_nodup {l : List Int} (h : l.Pairwise fun a b => a < b) : l.Nodup := h.imp fun h => by omega
theorem perm_of_mem {l l' : List Int} (h : l.Nodup) (h' : l'.Nodup) (he : ∀ k, k ∈ l ↔ k ∈ l') : l.Perm l' := (List.perm_ext_iff_of_nodup h h').2 he
theorem SwI.perm {n : Nat} {L : Ents} (h : SwI n L) : (L.map (·.1)).Perm (rngI n) := perm_of_mem h.nod (lt_nodup rngI_lt) fun k => by rw [h.key, rngI_mem]
theorem SwI.srt {n : Nat} {L : Ents} (h : SwI n L) : srtK L = rngI n := srtK_eq h.perm (rngI_lt.imp fun h => by omega)
theorem SwI.len {n : Nat} {L : Ents} (h : SwI n L) : L.length = n := by
  have := h.perm.length_eq
  rwa [List.length_map, rngI_len] at this
theorem okBx_in {x : List Int} (h : okBx x) (j : Nat) : inR (selAt (some x) j) := by
  obtain ⟨a, b, c, d, rfl, hc⟩ := h
  have := checkBoxS_iff.1 hc
  unfold selAt inR
  rcases j with _ | _ | _ | _ | j <;> simp <;> omega
theorem selIn_of {L : Ents} (h : ∀ k x, memSel L k = some x → okBx x) : selIn L := fun k j => by
  cases hk : memSel L k with
  | none => unfold selAt inR; dsimp only; omega
  | some x => exact okBx_in (h k x hk) j
theorem SwI.selIn {n : Nat} {L : Ents} (h : SwI n L) : selIn L := selIn_of h.box
theorem SwI.put {n : Nat} {L : Ents} (h : SwI n L) {k : Int} {x : List Int} (hk : 0 ≤ k ∧ k < n) (hx : okBx x) : SwI n (memPut L k x) := by
  have hm := (h.key k).2 hk
  have hkeys : (memPut L k x).map (·.1) = L.map (·.1) := by rw [keys_put, if_pos hm]
  refine ⟨by unfold keysN; rw [hkeys]; exact h.nod, fun q => by rw [hkeys]; exact h.key q, fun q y hy => ?_⟩
  rw [sel_put] at hy
  split at hy
  · cases hy; exact hx
  · exact h.box q y hy
/-! ### What 'put' makes -/
/-! ### Boxes of numbers -/
theorem pairs_len {L : Ents} : (pairsL L).length ≤ L.length * L.length := by
  have h := out_le (L := L) (o := ordL L) (ordL L).length
  rw [pwN_all] at h
  unfold pairsL
  simp only [srtP, List.length_mergeSort]
  rw [ordL_len] at h
  exact h
end Go.Ax
end

section
/-
  The reference's table of slots: what only reads it.
-/
set_option linter.unusedVariables false
set_option linter.unusedSimpArgs false
set_option maxHeartbeats 4000000
set_option maxRecDepth 100000
namespace Go.Ax
open Go.Proofs
/-- Truth values, one a cell. -/
def gz : List AV → Bool
  | [.v (.bool b)] => b
  | _ => false
def bools (n : Nat) (h : Nat → List AV) : Prop := ∀ i, i < n → h i = [bo (gz (h i))]
theorem bools_can {n : Nat} {T : Nat → Bool} : bools n (fun i => [bo (T i)]) = True := eq_true fun _ _ => rfl
theorem gz_bool {b : Bool} : gz [bo b] = b := (rfl)
abbrev rtR (n : Nat) (G : Nat → Int) (T : Nat → Bool) : AV := .rop [.ro n 1 fun i => [i64 (G i)], .ro n 1 fun i => [bo (T i)]]
def cRe (n m : Nat) (g h : Nat → List AV) : Option (List Prop × AV) → Option (List Prop × AV)
  | some (ob, r) => some ((m = n) :: ints n g :: bools n h :: ob, r)
  | none => none
theorem cRe_some {n m : Nat} {g h : Nat → List AV} {ob : List Prop} {r : AV} : cRe n m g h (some (ob, r)) = some ((m = n) :: ints n g :: bools n h :: ob, r) := (rfl)
def cRt (F : Nat → (Nat → Int) → (Nat → Bool) → List AV → Option (List Prop × AV)) : Con
  | .rop [.ro n 1 g, .ro m 1 h] :: rest => cRe n m g h (F n (gx g 0) (fun i => gz (h i)) rest)
  | _ => none
theorem cRt_eq {F : Nat → (Nat → Int) → (Nat → Bool) → List AV → Option (List Prop × AV)} {n m : Nat} {g h : Nat → List AV} {rest : List AV} : cRt F (.rop [.ro n 1 g, .ro m 1 h] :: rest) = cRe n m g h (F n (gx g 0) (fun i => gz (h i)) rest) := (rfl)
theorem R_rslots {w : World} {ρ : Env} {n : Nat} {g h : Nat → List AV} {v : Value} (h1 : ints n g) (h2 : bools n h) (hR : R w ρ (.rop [.ro n 1 g, .ro n 1 h]) v) : R w ρ (rtR n (gx g 0) fun i => gz (h i)) v := by
  refine R_ropc (cs := [.ro n 1 g, .ro n 1 h]) rfl (fun k c c' y k1 k2 k3 => ?_) hR
  match k, k1, k2 with
  | 0, k1, k2 => cases k1; cases k2; exact ro_alike (fun i hi => h1 i hi) k3
  | 1, k1, k2 => cases k1; cases k2; exact ro_alike (fun i hi => h2 i hi) k3
  | k + 2, k1, k2 => simp at k1
theorem ConOK.cRt {P : Program} {G : Ctx} {H : Hots} (hG : CtxOK P G) {f : FuncId} {fn : Func} (hf : P.funcs[f]? = some fn) {F : Nat → (Nat → Int) → (Nat → Bool) → List AV → Option (List Prop × AV)}
    (h : ∀ n X T rest ob r, F n X T rest = some (ob, r) → (∀ p ∈ ob, p) → funcOK P H fn (rest.length + 1) = true ∧ fnVC P G H fn (rtR n X T :: rest) (alk r)) : ConOK P f (Ax.cRt F) :=
  ConOK.goR (G := G) (H := H) hG hf fun l ob rr hc hob => by
    unfold Ax.cRt at hc
    split at hc
    · rename_i n g m k rest
      unfold cRe at hc
      split at hc
      · rename_i ob' r' hF
        cases hc
        have hm : m = n := hob _ (by simp)
        subst hm
        obtain ⟨h1, h2⟩ := h m (gx g 0) (fun i => gz (k i)) rest ob' rr hF fun p hp => hob p (by simp [hp])
        refine ⟨rtR m (gx g 0) (fun i => gz (k i)) :: rest, fun w I vs hR => ?_, h1, h2⟩
        obtain ⟨y, ys, rfl, k1, k2⟩ := hR.inv
        exact .cons (R_rslots (hob _ (by simp)) (hob _ (by simp)) k1) k2
      · cases hc
    · cases hc
attribute [go_sem] cRt_eq cRe_some bools_can gz_bool
theorem alk_of {r r' : AV} (h : r' = r) : alk r r' := by subst h; exact alk_refl
/-- Is the slot taken? -/
def rtOk (n : Nat) (T : Nat → Bool) (i : Int) : Bool := decide (0 ≤ i ∧ i < n) && T i.toNat
/-- The handles of the slots below i that are taken. -/
def rtL (n : Nat) (X : Nat → Int) (T : Nat → Bool) : Nat → List (Int × Int)
  | 0 => []
  | i + 1 => rtL n X T i ++ (if rtOk n T i = true then [((i : Int), X i)] else [])
end Go.Ax
end

section
/-
  The reference's sweep: what only reads it.
-/
set_option linter.unusedVariables false
set_option linter.unusedSimpArgs false
set_option maxHeartbeats 4000000
set_option maxRecDepth 100000
namespace Go.Ax
open Go.Proofs
/-- An id and its box. -/
abbrev En := Int × Int × Int × Int × Int
abbrev e0 : En := (0, 0, 0, 0, 0)
def enC (e : En) : List AV := [i64 e.1, i64 e.2.1, i64 e.2.2.1, i64 e.2.2.2.1, i64 e.2.2.2.2]
def enF (l : List En) (i : Nat) : List AV := enC (l.getD i e0)
theorem enF_eq {l : List En} {i : Nat} : enF l i = [i64 (l.getD i e0).1, i64 (l.getD i e0).2.1, i64 (l.getD i e0).2.2.1, i64 (l.getD i e0).2.2.2.1, i64 (l.getD i e0).2.2.2.2] := (rfl)
def enL (n : Nat) (g : Nat → List AV) : List En := (List.range n).map fun i => (gx g 0 i, gx g 1 i, gx g 2 i, gx g 3 i, gx g 4 i)
def ens (n : Nat) (g : Nat → List AV) : Prop := ∀ i, i < n → g i = enC (gx g 0 i, gx g 1 i, gx g 2 i, gx g 3 i, gx g 4 i)
theorem enL_len {n : Nat} {g : Nat → List AV} : (enL n g).length = n := by simp [enL]
theorem enL_at {n : Nat} {g : Nat → List AV} {i : Nat} (h : i < n) : (enL n g).getD i e0 = (gx g 0 i, gx g 1 i, gx g 2 i, gx g 3 i, gx g 4 i) := by simp [enL, h]
theorem enL_F {l : List En} : enL l.length (enF l) = l := by
  apply List.ext_getElem
  · simp [enL]
  · intro i h1 h2
    simp only [enL, List.getElem_map, List.getElem_range]
    have e : l.getD i e0 = l[i] := by rw [List.getD_eq_getElem?_getD, List.getElem?_eq_getElem h2]; rfl
    show ((l.getD i e0).1, (l.getD i e0).2.1, (l.getD i e0).2.2.1, (l.getD i e0).2.2.2.1, (l.getD i e0).2.2.2.2) = l[i]
    rw [e]
theorem ens_F {n : Nat} {l : List En} : ens n (enF l) = True := eq_true fun _ _ => rfl
theorem ens_U {n : Nat} {l : List En} : (ens n fun i => [i64 (l.getD i e0).1, i64 (l.getD i e0).2.1, i64 (l.getD i e0).2.2.1, i64 (l.getD i e0).2.2.2.1, i64 (l.getD i e0).2.2.2.2]) = True := ens_F
theorem enL_U {l : List En} : (enL l.length fun i => [i64 (l.getD i e0).1, i64 (l.getD i e0).2.1, i64 (l.getD i e0).2.2.1, i64 (l.getD i e0).2.2.2.1, i64 (l.getD i e0).2.2.2.2]) = l := enL_F
def roE : AV → Option (List Prop × List En)
  | .ro n 5 g => some ([ens n g], enL n g)
  | .v (.slice none 0 0) => some ([], [])
  | _ => none
theorem roE_ro {n : Nat} {g : Nat → List AV} : roE (.ro n 5 g) = some ([ens n g], enL n g) := (rfl)
theorem roE_nil : roE (.v (.slice none 0 0)) = some ([], []) := (rfl)
theorem roE_sound {a : AV} {ob : List Prop} {l : List En} {w : World} {ρ : Env} {v : Value} (h : roE a = some (ob, l)) (hob : ∀ p ∈ ob, p) (hR : R w ρ a v) : R w ρ (.ro l.length 5 (enF l)) v := by
  unfold roE at h
  split at h
  · rename_i n g
    cases h
    have h1 : ens n g := hob _ (by simp)
    rw [enL_len]
    exact ro_alike (fun i hi => by rw [h1 i hi, enF, enL_at hi]) hR
  · cases h; exact R_nil hR
  · cases h
abbrev qR (l : List En) : AV := .rop [bo true, .ro l.length 5 (enF l)]
def cQg (ob : List Prop) : Option (List Prop × AV) → Option (List Prop × AV)
  | some (ob2, r) => some (ob ++ ob2, r)
  | none => none
def cQf (F : List En → List AV → Option (List Prop × AV)) (rest : List AV) : Option (List Prop × List En) → Option (List Prop × AV)
  | some (ob, l) => cQg ob (F l rest)
  | none => none
def cQ (F : List En → List AV → Option (List Prop × AV)) : Con
  | .rop [.v (.bool true), S] :: rest => cQf F rest (roE S)
  | _ => none
theorem cQ_eq {F : List En → List AV → Option (List Prop × AV)} {S : AV} {rest : List AV} : cQ F (.rop [bo true, S] :: rest) = cQf F rest (roE S) := (rfl)
theorem cQf_some {F : List En → List AV → Option (List Prop × AV)} {rest : List AV} {ob : List Prop} {l : List En} : cQf F rest (some (ob, l)) = cQg ob (F l rest) := (rfl)
theorem cQg_some {ob ob2 : List Prop} {r : AV} : cQg ob (some (ob2, r)) = some (ob ++ ob2, r) := (rfl)
theorem R_qR {w : World} {ρ : Env} {S : AV} {ob : List Prop} {l : List En} {v : Value} (h : roE S = some (ob, l)) (hob : ∀ p ∈ ob, p) (hR : R w ρ (.rop [bo true, S]) v) : R w ρ (qR l) v := by
  refine R_ropc (cs := [bo true, S]) rfl (fun k c c' y h1 h2 h3 => ?_) hR
  match k, h1, h2 with
  | 0, h1, h2 => cases h1; cases h2; exact h3
  | 1, h1, h2 => cases h1; cases h2; exact roE_sound h hob h3
  | k + 2, h1, h2 => simp at h1
theorem ConOK.cQ {P : Program} {G : Ctx} {H : Hots} (hG : CtxOK P G) {f : FuncId} {fn : Func} (hf : P.funcs[f]? = some fn) {F : List En → List AV → Option (List Prop × AV)}
    (h : ∀ l rest ob r, F l rest = some (ob, r) → (∀ p ∈ ob, p) → funcOK P H fn (rest.length + 1) = true ∧ fnVC P G H fn (qR l :: rest) (alk r)) : ConOK P f (Ax.cQ F) :=
  ConOK.goR (G := G) (H := H) hG hf fun es ob rr hc hob => by
    unfold Ax.cQ at hc
    split at hc
    · rename_i S rest
      unfold cQf at hc
      split at hc
      · rename_i ob1 l hS
        unfold cQg at hc
        split at hc
        · rename_i ob2 r hF
          cases hc
          obtain ⟨h1, h2⟩ := h l rest ob2 rr hF fun p hp => hob p (by simp [hp])
          refine ⟨qR l :: rest, fun w I vs hR => ?_, h1, h2⟩
          obtain ⟨y, ys, rfl, k1, k2⟩ := hR.inv
          exact .cons (R_qR hS (fun p hp => hob p (by simp [hp])) k1) k2
        · cases hc
      · cases hc
    · cases hc
attribute [go_sem] cQ_eq cQf_some cQg_some roE_ro roE_nil enL_F ens_F enL_U ens_U
def F80 : List En → List AV → Option (List Prop × AV)
  | _, [] => some ([], bo true)
  | _, _ => none
def k80 : Con := cQ F80
theorem con80 : ConOK Tryz.prog 80 k80 := ConOK.cQ (G := []) (H := []) .nil Tryz.func80 fun l rest ob r hF hob => by
  unfold F80 at hF
  split at hF
  · cases hF
    refine ⟨by kernel_rfl, fnVC_go (rs := [.tmp 2]) rfl rfl ?_⟩
    simp only [go_sem]
    exact alk_refl
  · cases hF
def askE (i a b c d : Int) : Int := if i < 0 ∨ 2147483647 < i then 3 else checkBoxS a b c d
def F121 : List En → List AV → Option (List Prop × AV)
  | _, [.v (.int .i64 i), .agg [.v (.int .i64 a), .v (.int .i64 b), .v (.int .i64 c), .v (.int .i64 d)]] => some ([], i64 (askE i a b c d))
  | _, _ => none
def k121 : Con := cQ F121
theorem con121 : ConOK Tryz.prog 121 k121 := ConOK.cQ (G := [(80, k80), (103, c103)]) (H := []) (.cons con80 (.cons con103 .nil)) Tryz.func121 fun l rest ob r hF hob => by
  unfold F121 at hF
  split at hF
  · rename_i i a b c d
    cases hF
    refine ⟨by kernel_rfl, fnVC_go (rs := [.tmp 6]) rfl rfl ?_⟩
    simp only [go_sem, k80, c103, F80]
    rintro z rfl
    refine ⟨fun h => (by cases h), fun _ => ⟨fun h => alk_of ?_, fun h z hz => alk_of ?_⟩⟩
    · unfold askE; rw [if_pos h]
    · unfold askE; rw [if_neg (by omega), hz]
  · cases hF
/-- The place of an id. -/
def plcN (l : List En) (i : Int) : Nat := lst (fun j => (l.getD j e0).1 == i) l.length
def plcE (l : List En) (i : Int) : Int := if plcN l i < l.length then (plcN l i : Nat) else -1
def F122 : List En → List AV → Option (List Prop × AV)
  | l, [.v (.int .i64 i)] => some ([l.length ≤ 1000], i64 (plcE l i))
  | _, _ => none
def k122 : Con := cQ F122
theorem con122 : ConOK Tryz.prog 122 k122 := ConOK.cQ (G := []) (H := []) .nil Tryz.func122 fun l rest ob r hF hob => by
  unfold F122 at hF
  split at hF
  · rename_i i
    cases hF
    have hl : l.length ≤ 1000 := hob _ (by simp)
    refine ⟨by kernel_rfl, fnVC_go (rs := [.tmp 4]) rfl rfl ?_⟩
    simp only [go_sem, enF_eq]
    refine loopN_go (fun (j : Nat) => j ≤ l.length ∧ ∀ q, q < j → ((l.getD q e0).1 == i) = false) (fun j => l.length - j) (fun j => [(5, i64 j)]) (fun j => []) [] [6, 7, 8, 9, 10, 11, 12, 15, 16, 17, 18, 19, 20, 21, 22, 23, 24, 25, 4, 13, 14, 5] 0 0 (by kernel_rfl) ⟨Nat.zero_le _, fun q hq => by omega⟩ ⟨[], ?_, ?_, ?_, ?_⟩ ?_
    · simp only [go_sem, Int.cast_ofNat_Int]
    · simp only [go_sem]
    · simp only [go_sem]
    · simp [goodNames, asg]
    rintro j ⟨hj, hq⟩
    simp only [go_sem, enF_eq]
    refine ⟨fun hlt => ⟨by omega, hlt, fun hy => alk_of ?_, fun hn z hz => ⟨j + 1, ⟨by omega, fun q h2 => ?_⟩, by omega, [], by rw [hz, wrap_in (by unfold inR; omega)]; omega, by simp [goodNames, asg]⟩⟩, fun hge => alk_of ?_⟩
    · have e : plcN l i = j := lst_eq hq (by omega) hy
      unfold plcE
      rw [e, if_pos (by omega)]
    · by_cases e : q = j
      · rw [e]; exact hn
      · exact hq q (by omega)
    · have e : plcN l i = l.length := lst_full fun q h2 => hq q (by omega)
      unfold plcE
      rw [e, if_neg (by omega)]
  · cases hF
/-- As a map's entries. -/
def toE (l : List En) : Ents := l.map fun e => (e.1, [e.2.1, e.2.2.1, e.2.2.2.1, e.2.2.2.2])
theorem toE_keys {l : List En} : (toE l).map (·.1) = l.map (·.1) := by simp [toE, List.map_map, Function.comp_def]
theorem plc_no {l : List En} {i : Int} (h : ¬ plcN l i < l.length) : memSel (toE l) i = none := by
  refine selNone fun hm => h ?_
  rw [toE_keys] at hm
  obtain ⟨e, he, rfl⟩ := List.mem_map.1 hm
  obtain ⟨q, hq, rfl⟩ := List.mem_iff_getElem.1 he
  refine Classical.byContradiction fun hn => ?_
  have hle := lst_le (p := fun j => (l.getD j e0).1 == l[q].1) l.length
  have := lst_no (p := fun j => (l.getD j e0).1 == l[q].1) (n := l.length) (i := q) (by unfold plcN at hn; omega)
  have e2 : l.getD q e0 = l[q] := by rw [List.getD_eq_getElem?_getD, List.getElem?_eq_getElem hq]; rfl
  simp only [e2, beq_self_eq_true] at this
  cases this
theorem toE_at {l : List En} {q : Nat} (hq : q < l.length) (hno : ∀ j, j < q → (l.getD j e0).1 ≠ (l.getD q e0).1) : memSel (toE l) (l.getD q e0).1 = some [(l.getD q e0).2.1, (l.getD q e0).2.2.1, (l.getD q e0).2.2.2.1, (l.getD q e0).2.2.2.2] := by
  induction l generalizing q with
  | nil => simp at hq
  | cons a l ih =>
    cases q with
    | zero => simp [toE, memSel]
    | succ q =>
      have h0 := hno 0 (by omega)
      simp only [List.getD_cons_zero, List.getD_cons_succ] at h0 ⊢
      show memSel ((a.1, _) :: toE l) _ = _
      unfold memSel
      rw [if_neg h0]
      refine ih (by simpa using hq) fun j hj => ?_
      have := hno (j + 1) (by omega)
      simpa using this
theorem plc_yes {l : List En} {i : Int} (h : plcN l i < l.length) : (l.getD (plcN l i) e0).1 = i ∧ memSel (toE l) i = some [(l.getD (plcN l i) e0).2.1, (l.getD (plcN l i) e0).2.2.1, (l.getD (plcN l i) e0).2.2.2.1, (l.getD (plcN l i) e0).2.2.2.2] := by
  have hy := lst_yes (p := fun j => (l.getD j e0).1 == i) (n := l.length) h
  have hy : (l.getD (plcN l i) e0).1 = i := beq_iff_eq.1 hy
  refine ⟨hy, ?_⟩
  have := toE_at h fun j hj => ?_
  · rw [hy] at this; exact this
  · have h2 := lst_no (p := fun j => (l.getD j e0).1 == i) (n := l.length) (i := j) hj
    rw [hy]
    simpa using h2
def F86 : List En → List AV → Option (List Prop × AV)
  | l, [.v (.int .i64 i)] => some ([l.length ≤ 1000], .tup [.agg [i64 (selAt (memSel (toE l) i) 0), i64 (selAt (memSel (toE l) i) 1), i64 (selAt (memSel (toE l) i) 2), i64 (selAt (memSel (toE l) i) 3)], bo (memSel (toE l) i).isSome])
  | _, _ => none
def k86 : Con := cQ F86
theorem con86 : ConOK Tryz.prog 86 k86 := ConOK.cQ (G := [(80, k80), (122, k122)]) (H := []) (.cons con80 (.cons con122 .nil)) Tryz.func86 fun l rest ob r hF hob => by
  unfold F86 at hF
  split at hF
  · rename_i i
    cases hF
    have hl : l.length ≤ 1000 := hob _ (by simp)
    refine ⟨by kernel_rfl, fnVC_go (rs := [.cell 4 32, .tmp 5]) rfl rfl ?_⟩
    simp only [go_sem, k80, k122, F80, F122, hl, enF_eq]
    rintro z rfl
    refine ⟨fun h => (by cases h), fun _ z hz => ⟨fun hn => alk_of ?_, fun hp => ?_⟩⟩
    · have h : ¬ plcN l i < l.length := fun h => by unfold plcE at hz; rw [if_pos h] at hz; omega
      rw [plc_no h]; rfl
    · have h : plcN l i < l.length := Classical.byContradiction fun h => by unfold plcE at hz; rw [if_neg h] at hz; omega
      have hz : z = (plcN l i : Nat) := by unfold plcE at hz; rw [if_pos h] at hz; exact hz
      obtain ⟨y1, y2⟩ := plc_yes h
      rw [hz, Int.toNat_natCast, y2]
      exact ⟨by omega, by omega, alk_of rfl⟩
  · cases hF
/-- The ids whose boxes are seen. -/
def seeL (p : Int → Int → Int → Int → Bool) (l : List En) : List Int := (l.filter fun e => p e.2.1 e.2.2.1 e.2.2.2.1 e.2.2.2.2).map (·.1)
def seeN (p : Int → Int → Int → Int → Bool) (l : List En) : Nat → List Int
  | 0 => []
  | i + 1 => seeN p l i ++ (if p (l.getD i e0).2.1 (l.getD i e0).2.2.1 (l.getD i e0).2.2.2.1 (l.getD i e0).2.2.2.2 = true then [(l.getD i e0).1] else [])
theorem seeN_take {p : Int → Int → Int → Int → Bool} {l : List En} : ∀ i, i ≤ l.length → seeN p l i = seeL p (l.take i)
  | 0, _ => by simp [seeN, seeL]
  | i + 1, h => by
    have e : l.getD i e0 = l[i] := by rw [List.getD_eq_getElem?_getD, List.getElem?_eq_getElem (by omega)]; rfl
    rw [seeN, seeN_take i (by omega), e]
    unfold seeL
    rw [List.take_add_one, List.getElem?_eq_getElem (by omega), List.filter_append, List.map_append]
    congr 1
    show _ = List.map _ (List.filter _ [l[i]])
    generalize l[i] = x
    by_cases hm : p x.2.1 x.2.2.1 x.2.2.2.1 x.2.2.2.2 = true
    · rw [if_pos hm]; simp [hm]
    · rw [if_neg hm]; simp [hm]
theorem seeN_all {p : Int → Int → Int → Int → Bool} {l : List En} : seeN p l l.length = seeL p l := by rw [seeN_take _ (Nat.le_refl _), List.take_length]
theorem seeN_le {p : Int → Int → Int → Int → Bool} {l : List En} : ∀ i, (seeN p l i).length ≤ i
  | 0 => Nat.le_refl _
  | i + 1 => by
    have := seeN_le (p := p) (l := l) i
    simp only [seeN, List.length_append]
    split <;> simp <;> omega
/-- The boxes are made of numbers of the machine. -/
def enIn (l : List En) : Prop := ∀ i, inR (l.getD i e0).2.1 ∧ inR (l.getD i e0).2.2.1 ∧ inR (l.getD i e0).2.2.2.1 ∧ inR (l.getD i e0).2.2.2.2
theorem push1 {l : List Int} {a : Int} {q : Nat} (h : q < l.length + 1) : (if q < l.length then [i64 (l.getD q 0)] else List.take 1 (List.drop ((q - l.length) * 1) [i64 a])) = [i64 ((l ++ [a]).getD q 0)] := by
  split
  · rename_i hl
    simp [List.getD_eq_getElem?_getD, List.getElem?_append_left hl]
  · have : q = l.length := by omega
    subst this
    simp
end Go.Ax
end

section
/-
  The reference's sweep: its pairs.
-/
set_option linter.unusedVariables false
set_option linter.unusedSimpArgs false
set_option maxHeartbeats 4000000
set_option maxRecDepth 100000
namespace Go.Ax
open Go.Proofs
def mtE (l : List En) (i k : Nat) : Bool := meetsS (l.getD i e0).2.1 (l.getD i e0).2.2.1 (l.getD i e0).2.2.2.1 (l.getD i e0).2.2.2.2 (l.getD k e0).2.1 (l.getD k e0).2.2.1 (l.getD k e0).2.2.2.1 (l.getD k e0).2.2.2.2
def idE (l : List En) (i : Nat) : Int := (l.getD i e0).1
def F85 : List En → List AV → Option (List Prop × AV)
  | l, [] => some ([l.length ≤ 256, enIn l], lsA (wOut (mtE l) (idE l) l.length l.length))
  | _, _ => none
def k85 : Con := cQ F85
theorem con85 : ConOK Tryz.prog 85 k85 := ConOK.cQ (G := [(80, k80), (104, c104)]) (H := []) (.cons con80 (.cons con104 .nil)) Tryz.func85 fun l rest ob r hF hob => by
  unfold F85 at hF
  split at hF
  · cases hF
    have hn : l.length ≤ 256 := hob _ (by simp)
    have hi : enIn l := hob _ (by simp)
    have h1 := fun i => (hi i).1
    have h2 := fun i => (hi i).2.1
    have h3 := fun i => (hi i).2.2.1
    have h4 := fun i => (hi i).2.2.2
    refine ⟨by kernel_rfl, fnVC_go (rs := [.tmp 2]) rfl rfl ?_⟩
    simp only [go_sem, k80, c104, F80, enF_eq]
    rintro z rfl
    refine ⟨fun h => (by cases h), fun _ => ?_⟩
    obtain ⟨n, hnd⟩ : ∃ n, n = l.length := ⟨_, rfl⟩
    obtain ⟨M, hM⟩ : ∃ M, M = mtE l := ⟨_, rfl⟩
    obtain ⟨X, hX⟩ : ∃ X, X = idE l := ⟨_, rfl⟩
    rw [← hM, ← hX, ← hnd]
    refine loopN_go (fun (i : Nat) => i ≤ n) (fun i => n - i) (fun i => [(4, i64 i), (3, .own 6 0 (wOut M X n i).length 2)]) (fun i => [(6, famN (wOut M X n i).length 2 95 (lsF (wOut M X n i)) none)]) [] [9, 10, 11, 12, 13, 14, 15, 18, 19, 5, 20, 21, 22, 23, 24, 25, 26, 29, 30, 31, 32, 33, 34, 35, 36, 37, 38, 39, 40, 41, 42, 43, 44, 45, 46, 47, 48, 49, 50, 51, 52, 53, 54, 55, 56, 57, 58, 59, 60, 61, 62, 63, 64, 65, 3, 27, 28, 5, 16, 17, 4] 1 0 (by kernel_rfl) (Nat.zero_le _) ⟨[(6, none)], ?_, ?_, ?_, ?_⟩ ?_
    · simp only [go_sem, Int.cast_ofNat_Int, wOut, List.length_nil]
    · simp only [go_sem, wOut, List.length_nil]
    · simp only [go_sem]
    · simp [goodNames, asg]
    intro i hi
    simp only [go_sem, k80, c104, enF_eq, ← hnd]
    have l1 := wOut_le (M := M) (X := X) (n := n) i
    have l1b : i * n ≤ 256 * 256 := Nat.mul_le_mul (by omega) (by omega)
    refine ⟨fun hlt z hz => ?_, fun hge => ?_⟩
    · have hz : z = ((i + 1 + 0 : Nat) : Int) := by rw [hz, wrap_in (by unfold inR; omega)]; omega
      rw [hz]
      have hst : wOut M X n (i + 1) = wOut M X n i ++ wIn M X i (n - (i + 1)) := rfl
      generalize wOut M X n i = O at l1 hst ⊢
      refine loopN_go (fun (j : Nat) => i + 1 + j ≤ n) (fun j => n - j) (fun j => [(5, i64 (i + 1 + j : Nat)), (3, .own 17 0 (O ++ wIn M X i j).length 2)])
        (fun j => [(17, famN (O ++ wIn M X i j).length 2 95 (lsF (O ++ wIn M X i j)) none)]) [] [20, 21, 22, 23, 24, 25, 26, 29, 30, 31, 32, 33, 34, 35, 36, 37, 38, 39, 40, 41, 42, 43, 44, 45, 46, 47, 48, 49, 50, 51, 52, 53, 54, 55, 56, 57, 58, 59, 60, 61, 62, 63, 64, 65, 3, 27, 28, 5] 1 0 (by kernel_rfl) (by show i + 1 + 0 ≤ n; omega) ⟨[(17, some 6)], ?_, ?_, ?_, ?_⟩ ?_
      · simp only [go_sem, wIn, List.append_nil]
      · simp only [go_sem, wIn, List.append_nil]
        intro q hq
        exact fitL_clean rfl
      · simp only [go_sem]
      · simp [goodNames, asg]
      intro j hj
      simp only [go_sem, k80, c104, enF_eq, ← hnd, h1, h2, h3, h4]
      have hb : bytesT Tryz.prog 95 = 16 := by kernel_rfl
      have n1 := wIn_le (M := M) (X := X) (i := i) j
      refine ⟨fun hlt2 => ⟨by omega, hlt, by omega, hlt2, fun z2 hz2 => ⟨fun ht => ⟨by omega, hlt, by omega, hlt2, ?_, ?_, fun z3 k3 => ⟨j + 1, by omega, by omega, [(17, some 61)], ?_⟩⟩, fun hf z3 k3 => ⟨j + 1, by omega, by omega, [(17, some 17)], ?_⟩⟩⟩, fun hge z3 k3 => ⟨i + 1, by omega, by omega, [(6, some 17)], ?_⟩⟩
      · rw [hb, List.length_append]; omega
      · rw [List.length_append]; omega
      · have e : wIn M X i (j + 1) = wIn M X i j ++ [((l.getD i e0).1, (l.getD (i + 1 + j) e0).1)] := by
          rw [wIn, if_pos (by rw [hM, ← ht, hz2]; rfl), hX]; rfl
        rw [e, ← List.append_assoc, List.length_append, List.length_singleton]
        simp only [go_sem]
        refine ⟨by rw [k3, wrap_in (by unfold inR; omega)]; omega, fun q hq => ?_, by simp [goodNames, asg]⟩
        rw [lsF_push hq]
        exact fitL_clean rfl
      · have e : wIn M X i (j + 1) = wIn M X i j := by
          rw [wIn, if_neg (by rw [hM]; rw [hf] at hz2; show ¬ mtE l i (i + 1 + j) = true; unfold mtE; rw [← hz2]; decide), List.append_nil]
        rw [e]
        simp only [go_sem]
        exact ⟨by rw [k3, wrap_in (by unfold inR; omega)]; omega, fun q hq => fitL_clean rfl, by simp [goodNames, asg]⟩
      · have ej : n - (i + 1) = j := by omega
        rw [hst, ej]
        simp only [go_sem]
        exact ⟨by rw [k3, wrap_in (by unfold inR; omega)]; omega, fun q hq => fitL_clean rfl, by simp [goodNames, asg]⟩
    · have ei : i = n := by omega
      subst ei
      exact alk_refl
  · cases hF
end Go.Ax
end

section
/-
  The reference's sweep: contracts of what writes it.
-/
set_option linter.unusedVariables false
set_option linter.unusedSimpArgs false
set_option maxHeartbeats 4000000
set_option maxRecDepth 100000
namespace Go.Ax
open Go.Proofs
/-- What comes of the entries: they stay; they change; they are others. -/
inductive QU where
  | keep
  | set (l : List En)
  | new (l : List En)
/-- The sweep's row; its entries. -/
abbrev qS (E n : Nat) : Fam := fam1 121 2 [bo true, .own E 0 n 5] none
abbrev qE (l : List En) : Fam := famN l.length 5 130 (enF l) none
def QU.ok (l : List En) : QU → Prop
  | .keep => True
  | .set l' => l'.length = l.length
  | .new _ => True
def QU.sets (key K E : Nat) (l : List En) : QU → List (Nat × Fam)
  | .keep => [(K, qS E l.length), (E, qE l)]
  | .set l' => [(K, qS E l.length), (E, famN l.length 5 130 (enF l') none)]
  | .new l' => [(K, qS key l'.length), (E, dead)]
def QU.nw : QU → Option Fam
  | .new l' => some (qE l')
  | _ => none
abbrev QF := List En → List AV → Option (List Prop × AV × QU)
def mcQh (key K E n : Nat) (fam famE : Fam) (l : List En) : Option (List Prop × AV × QU) → Option Eff
  | some (ob, v, u) => some ⟨(K ≠ E) :: (n = l.length) :: (fam = qS E n) :: (famE = qE l) :: u.ok l :: ob, v, .many (u.sets key K E l) u.nw⟩
  | none => none
def mcQg (F : QF) (key K E n : Nat) (fam : Fam) (rest : List AV) : Option Fam → Option Eff
  | some famE => mcQh key K E n fam famE (enL n (famE 0).get) (F (enL n (famE 0).get) rest)
  | none => none
def mcQe (F : QF) (key K : Nat) (m : Mem) (rest : List AV) : Option Fam → Option Eff
  | some fam => match (fam 0).get 0 with
    | [.v (.bool true), .own E 0 n 5] => mcQg F key K E n fam rest (look m E)
    | _ => none
  | none => none
def mcQ (F : QF) : MCon := fun key m es => match es with
  | .bx K 0 :: rest => mcQe F key K m rest (look m K)
  | _ => none
theorem mcQ_eq {F : QF} {key K : Nat} {m : Mem} {rest : List AV} : mcQ F key m (.bx K 0 :: rest) = mcQe F key K m rest (look m K) := (rfl)
theorem mcQe_S {F : QF} {key K E n : Nat} {m : Mem} {rest : List AV} : mcQe F key K m rest (some (fam1 121 2 [bo true, .own E 0 n 5] none)) = mcQg F key K E n (qS E n) rest (look m E) := (rfl)
theorem mcQg_E {F : QF} {key K E : Nat} {fam : Fam} {rest : List AV} {l : List En} : mcQg F key K E l.length fam rest (some (famN l.length 5 130 (enF l) none)) = mcQh key K E l.length fam (qE l) l (F l rest) := by
  show mcQh key K E l.length fam (qE l) (enL l.length (enF l)) (F (enL l.length (enF l)) rest) = _
  rw [enL_F]
theorem mcQh_some {key K E n : Nat} {fam famE : Fam} {l : List En} {ob : List Prop} {v : AV} {u : QU} : mcQh key K E n fam famE l (some (ob, v, u)) = some ⟨(K ≠ E) :: (n = l.length) :: (fam = qS E n) :: (famE = qE l) :: u.ok l :: ob, v, .many (u.sets key K E l) u.nw⟩ := (rfl)
/-- What a body leaves. -/
def QU.post (i j : Nat) (l : List En) (m1 : Mem) : QU → Prop
  | .keep => look m1 i = some (qS j l.length) ∧ look m1 j = some (qE l)
  | .set l' => look m1 i = some (qS j l.length) ∧ ∃ g, look m1 j = some (famN l.length 5 130 g none) ∧ ∀ q, q < l.length → g q = enF l' q
  | .new l' => ∃ q, j < q ∧ look m1 i = some (qS q l'.length) ∧ ∃ g, look m1 q = some (famN l'.length 5 130 g none) ∧ ∀ k, k < l'.length → g k = enF l' k
theorem enF_clean {l : List En} {i : Nat} : ∀ c ∈ enF l i, clean 3 c = true := fun c hc => by
  simp only [enF, enC, List.mem_cons, List.not_mem_nil, or_false] at hc
  rcases hc with rfl | rfl | rfl | rfl | rfl <;> rfl
theorem rowRen_E {θ : Nat → Nat → Nat × Nat} {g : Nat → Nat → Prop} {B : Nat → Prop} {n : Nat} {h : Nat → List AV} {l : List En} (hh : ∀ q, q < n → h q = enF l q) (f : Nat) : rowRen θ g B (famN n 5 130 h none f) (famN n 5 130 (enF l) none f) := by
  match f with
  | 0 =>
    refine ⟨rfl, rfl, rfl, rfl, fun j hj => ?_⟩
    have hj : j < n := hj
    obtain ⟨k1, k2⟩ := cleans_ren (θ := θ) (g := g) (B := B) (enF_clean (l := l) (i := j))
    refine ⟨?_, fun c hc => ?_⟩
    · show enF l j = (h j).map _
      rw [hh j hj, k1]
    · have hc : c ∈ h j := hc
      rw [hh j hj] at hc
      exact k2 c hc
  | f + 1 => exact ⟨rfl, rfl, rfl, rfl, fun j hj => by have hj : j < 0 := hj; omega⟩
theorem rowRen_S {θ : Nat → Nat → Nat × Nat} {g : Nat → Nat → Prop} {B : Nat → Prop} {j E n : Nat} (hθ : θ j 0 = (E, 0)) (hg : g j 0) (f : Nat) : rowRen θ g B (qS j n f) (qS E n f) := by
  match f with
  | 0 =>
    refine ⟨rfl, rfl, rfl, rfl, fun k hk => ⟨?_, fun c hc => ?_⟩⟩
    · show [bo true, AV.own E 0 n 5] = [bo true, AV.own (θ j 0).1 (θ j 0).2 n 5]
      rw [hθ]
    · have hc : c ∈ [bo true, AV.own j 0 n 5] := hc
      simp only [List.mem_cons, List.not_mem_nil, or_false] at hc
      rcases hc with rfl | rfl
      · trivial
      · exact hg
  | f + 1 => exact ⟨rfl, rfl, rfl, rfl, fun k hk => by have hk : k < 0 := hk; omega⟩
theorem qS_g {E n f : Nat} : (qS E n f).g = none := by
  match f with
  | 0 => rfl
  | f + 1 => rfl
theorem qE_g {n f : Nat} {g : Nat → List AV} : (famN n 5 130 g none f).g = none := by
  match f with
  | 0 => rfl
  | f + 1 => rfl
section
variable {P : Program} {G : Ctx} {H : Hots} {f : FuncId} {fn : Func}
def QOK (P : Program) (G : Ctx) (H : Hots) (fn : Func) (F : QF) : Prop :=
  ∀ l rest ob v u, F l rest = some (ob, v, u) → u.ok l → (∀ p ∈ ob, p) → clean 3 v = true ∧ (∀ a ∈ rest, clean 3 a = true) ∧ funcOK P H fn (rest.length + 1) = true ∧
    bodyM P G H fn (.bx 0 0 :: rest) [(1, qE l), (0, qS 1 l.length)] 2 fun a m1 => a = v ∧ u.post 0 1 l m1
theorem MConOK.mcQ (hG : CtxOK P G) (hf : P.funcs[f]? = some fn) {F : QF} (h : QOK P G H fn F) : MConOK P f (mcQ F) := by
  refine MConOK.of (H := H) hG hf fun key m es e hc hob => ?_
  unfold Ax.mcQ at hc
  split at hc
  · rename_i K rest
    unfold mcQe at hc
    split at hc
    · rename_i fam hl
      split at hc
      · rename_i E n hget
        unfold mcQg at hc
        split at hc
        · rename_i famE hl2
          unfold mcQh at hc
          split at hc
          · rename_i ob v u hF
            cases hc
            generalize enL n (famE 0).get = l at hF hob ⊢
            have hne : K ≠ E := hob _ (by simp)
            obtain rfl : n = l.length := hob _ (by simp)
            have e1 : fam = qS E l.length := hob _ (by simp)
            have e2 : famE = qE l := hob _ (by simp)
            have hu : u.ok l := hob _ (by simp)
            subst e1 e2
            obtain ⟨hv, h1, h3, h4⟩ := h _ _ _ _ _ hF hu fun p hp => hob p (by simp [hp])
            obtain ⟨a1, a2⟩ := cleans_ren (θ := thE [K, E]) (g := lowG 2) (B := lowB 2) h1
            refine ⟨[K, E], [(1, qE l), (0, qS 1 l.length)], .bx 0 0 :: rest, ⟨by simp [hne], by rw [List.map_cons, a1]; rfl, fun a ha => ?_, fun j hj => ?_, fun q z hq => ?_⟩, h3, h4.mono fun a m1 ⟨hav, hp⟩ => ?_⟩
            · rcases List.mem_cons.1 ha with rfl | ha
              · exact (by show (0 : Nat) < 2; omega)
              · exact a2 a ha
            · match j, hj with
              | 0, _ => exact ⟨qS 1 l.length, _, by simp [look], hl, fun f => ⟨qS_g, rowRen_S (θ := thE [K, E]) (g := lowG 2) (j := 1) (E := E) rfl (by show (1 : Nat) < 2; omega) f⟩⟩
              | 1, _ => exact ⟨qE l, _, by simp [look], hl2, fun f => ⟨qE_g, rowRen_E (fun _ _ => rfl) f⟩⟩
              | j + 2, hj => simp at hj; omega
            · by_cases e : q = 0
              · subst e; simp
              · by_cases e1 : q = 1
                · subst e1; simp
                · simp [look, Ne.symm e, Ne.symm e1] at hq
            · subst hav
              cases u with
              | keep =>
                obtain ⟨p1, p2⟩ := hp
                obtain ⟨k1, k2⟩ := clean_ren (θ := thL [K, E] key fun _ _ => 0) (g := newG 2 (fun _ => none) fun _ _ => 0) (B := newB 2 fun _ => none) 3 a hv
                refine ⟨fun _ => none, fun _ _ => 0, [qS E l.length, qE l], none, rfl, ⟨fun f r g h => by simp at h, k1.symm, k2, rfl, fun j hj => .inr ?_, fun _ => rfl⟩⟩
                match j, hj with
                | 0, _ => exact ⟨_, _, p1, rfl, fun f => ⟨rowRen_S (by simp [thL]) (.inl (by show (1 : Nat) < 2; omega)) f, by rw [qS_g]; simp⟩⟩
                | 1, _ => exact ⟨_, _, p2, rfl, fun f => ⟨rowRen_E (fun _ _ => rfl) f, by rw [qE_g]; simp⟩⟩
                | j + 2, hj => simp at hj; omega
              | set l' =>
                obtain ⟨p1, g, p2, p3⟩ := hp
                obtain ⟨k1, k2⟩ := clean_ren (θ := thL [K, E] key fun _ _ => 0) (g := newG 2 (fun _ => none) fun _ _ => 0) (B := newB 2 fun _ => none) 3 a hv
                refine ⟨fun _ => none, fun _ _ => 0, [qS E l.length, famN l.length 5 130 (enF l') none], none, rfl, ⟨fun f r g h => by simp at h, k1.symm, k2, rfl, fun j hj => .inr ?_, fun _ => rfl⟩⟩
                match j, hj with
                | 0, _ => exact ⟨_, _, p1, rfl, fun f => ⟨rowRen_S (by simp [thL]) (.inl (by show (1 : Nat) < 2; omega)) f, by rw [qS_g]; simp⟩⟩
                | 1, _ => exact ⟨_, _, p2, rfl, fun f => ⟨rowRen_E p3 f, by rw [qE_g]; simp⟩⟩
                | j + 2, hj => simp at hj; omega
              | new l' =>
                obtain ⟨q, hq, p1, g, p2, p3⟩ := hp
                obtain ⟨k1, k2⟩ := clean_ren (θ := thL [K, E] key fun _ _ => 0) (g := newG 2 (fun f => if f = 0 then some (q, 0) else none) fun _ _ => 0) (B := newB 2 fun f => if f = 0 then some (q, 0) else none) 3 a hv
                refine ⟨fun f => if f = 0 then some (q, 0) else none, fun _ _ => 0, [qS key l'.length, dead], some (qE l'), rfl, ⟨fun f r g h => ?_, k1.symm, k2, rfl, fun j hj => ?_, fun f => ?_⟩⟩
                · by_cases hf0 : f = 0
                  · subst hf0
                    simp at h
                    obtain ⟨rfl, rfl⟩ := h
                    exact ⟨hq, rfl⟩
                  · simp [hf0] at h
                · match j, hj with
                  | 0, _ => exact .inr ⟨_, _, p1, rfl, fun f => ⟨rowRen_S (by simp only [thL]; rw [if_neg (by show ¬ q < 2; omega)]) (.inr rfl) f, by rw [qS_g]; simp⟩⟩
                  | 1, _ => exact .inl rfl
                  | j + 2, hj => simp at hj; omega
                · match f with
                  | 0 => exact ⟨_, p2, rowRen_E p3 0, by simp [famN]⟩
                  | f + 1 => exact rfl
          · cases hc
        · cases hc
      · cases hc
    · cases hc
  · cases hc
end
end Go.Ax
end

section
/-
  The reference's sweep: Put, Move, Drop.
-/
set_option linter.unusedVariables false
set_option linter.unusedSimpArgs false
set_option maxHeartbeats 4000000
set_option maxRecDepth 100000
namespace Go.Ax
open Go.Proofs
/-- Where an id belongs. -/
def insN (l : List En) (i : Int) : Nat := lst (fun j => !decide ((l.getD j e0).1 < i)) l.length
def insL (l : List En) (e : En) : List En := l.take (insN l e.1) ++ e :: l.drop (insN l e.1)
def putQ (l : List En) (i a b c d : Int) : Int := if askE i a b c d ≠ 0 then askE i a b c d else if plcN l i < l.length then 11 else if l.length = 256 then 10 else 0
def movQ (l : List En) (i a b c d : Int) : Int := if askE i a b c d ≠ 0 then askE i a b c d else if plcN l i < l.length then 0 else 9
theorem plcE_ge {l : List En} {i : Int} : 0 ≤ plcE l i ↔ plcN l i < l.length := by
  unfold plcE
  by_cases h : plcN l i < l.length
  · rw [if_pos h]; exact ⟨fun _ => h, fun _ => by omega⟩
  · rw [if_neg h]; exact ⟨fun h2 => by omega, fun h2 => absurd h2 h⟩
theorem ins_get {l : List En} {e : En} {at' : Nat} (ha : at' ≤ l.length) (q : Nat) : (l.take at' ++ e :: l.drop at').getD q e0 = if q < at' then l.getD q e0 else if q = at' then e else l.getD (q - 1) e0 := by
  rw [List.getD_eq_getElem?_getD]
  by_cases h1 : q < at'
  · rw [if_pos h1, List.getElem?_append_left (by rw [List.length_take]; omega), List.getElem?_take, if_pos h1, List.getD_eq_getElem?_getD]
  · rw [if_neg h1, List.getElem?_append_right (by rw [List.length_take]; omega), List.length_take, Nat.min_eq_left ha]
    by_cases h2 : q = at'
    · rw [if_pos h2, h2, Nat.sub_self]; rfl
    · rw [if_neg h2]
      obtain ⟨k, hk⟩ : ∃ k, q - at' = k + 1 := ⟨q - at' - 1, by omega⟩
      rw [hk, List.getElem?_cons_succ, List.getElem?_drop, List.getD_eq_getElem?_getD, show at' + k = q - 1 by omega]
theorem ins_len {l : List En} {e : En} {at' : Nat} (ha : at' ≤ l.length) : (l.take at' ++ e :: l.drop at').length = l.length + 1 := by
  rw [List.length_append, List.length_cons, List.length_take, List.length_drop]; omega
def F81 : QF := fun l rest => match rest with
  | [.v (.int .i64 i), .agg [.v (.int .i64 a), .v (.int .i64 b), .v (.int .i64 c), .v (.int .i64 d)]] => some ([l.length ≤ 256], i64 (putQ l i a b c d), if putQ l i a b c d = 0 then .new (insL l (i, a, b, c, d)) else .keep)
  | _ => none
def m81 : MCon := mcQ F81
theorem mon81 : MConOK Tryz.prog 81 m81 := MConOK.mcQ (G := [(121, k121), (122, k122)]) (H := []) (.cons con121 (.cons con122 .nil)) Tryz.func81 fun l rest ob v u hF hu hob => by
  unfold F81 at hF
  split at hF
  · rename_i i a b c d
    cases hF
    have hl : l.length ≤ 256 := hob _ (by simp)
    have hl2 : l.length ≤ 1000 := by omega
    clear hob hu
    refine ⟨rfl, by simp [clean, cleanCs, cleanC], by kernel_rfl, bodyM_go (rs := [.tmp 6]) rfl rfl ?_⟩
    have fin : ∀ (e : Int) (m1 : Mem), putQ l i a b c d = e → e ≠ 0 → look m1 0 = some (qS 1 l.length) → look m1 1 = some (qE l) → i64 e = i64 (putQ l i a b c d) ∧ QU.post 0 1 l m1 (if putQ l i a b c d = 0 then .new (insL l (i, a, b, c, d)) else .keep) := fun e m1 h1 h2 h3 h4 => by
      rw [h1, if_neg h2]
      exact ⟨rfl, h3, h4⟩
    simp only [go_sem, k121, k122, F121, F122, hl2, enF_eq]
    intro z hz
    refine ⟨fun h => ?_, fun h0 z1 hz1 => ⟨fun h1 => ?_, fun h1 => ⟨fun h2 => ?_, fun h2 => ?_⟩⟩⟩
    · have hne : z ≠ 0 := by simpa using h
      have e : putQ l i a b c d = z := by unfold putQ; rw [← hz, if_pos hne]
      rw [e, if_neg hne]
      exact ⟨rfl, rfl, rfl⟩
    · have hz0 : z = 0 := by simpa using h0
      have e : putQ l i a b c d = 11 := by
        unfold putQ
        rw [← hz, if_neg (by rw [hz0]; decide), if_pos (plcE_ge.1 (by rw [← hz1]; exact h1))]
      rw [e, if_neg (by decide)]
      exact ⟨rfl, rfl, rfl⟩
    · have hz0 : z = 0 := by simpa using h0
      have h2 : l.length = 256 := by have : (l.length : Int) = 256 := by simpa using h2
                                     omega
      have e : putQ l i a b c d = 10 := by
        unfold putQ
        rw [← hz, if_neg (by rw [hz0]; decide), if_neg (fun h => h1 (by rw [hz1]; exact plcE_ge.2 h)), if_pos h2]
      rw [e, if_neg (by decide)]
      exact ⟨rfl, rfl, rfl⟩
    have hz0 : z = 0 := by simpa using h0
    have h2 : l.length ≠ 256 := fun h => by rw [h] at h2; simp at h2
    have e : putQ l i a b c d = 0 := by
      unfold putQ
      rw [← hz, if_neg (by rw [hz0]; decide), if_neg (fun h => h1 (by rw [hz1]; exact plcE_ge.2 h)), if_neg h2]
    rw [e, if_pos rfl]
    refine loopN_go (fun (j : Nat) => j ≤ l.length ∧ ∀ q, q < j → (l.getD q e0).1 < i) (fun j => l.length - j) (fun j => [(8, i64 j)]) (fun j => []) [2, 1, 0] [30, 31, 32, 33, 34, 35, 36, 37, 38, 39, 40, 41, 42, 43, 44, 45, 46, 47, 48, 49, 50, 8] 0 0 (by kernel_rfl) ⟨Nat.zero_le _, fun q hq => by omega⟩ ⟨[], ?_, ?_, ?_, ?_⟩ ?_
    · simp only [go_sem, Int.cast_ofNat_Int]
    · simp only [go_sem]
    · simp only [go_sem]
    · simp [goodNames, asg]
    rintro j ⟨hj, hq⟩
    simp only [go_sem, k121, k122, enF_eq]
    have e1 : ((j : Int) - 0).toNat = j := by omega
    have e2 : ((l.length : Int) - j).toNat = l.length - j := by omega
    have hby : bytesT Tryz.prog 130 = 40 := by kernel_rfl
    refine ⟨fun _ => by omega, fun h => by omega, fun _ => trivial, fun h z hz => ⟨j + 1, ⟨by omega, fun q h3 => ?_⟩, by omega, [], by rw [hz, wrap_in (by unfold inR; omega)]; omega, by simp [goodNames, asg]⟩, fun h => ?_⟩
    · by_cases e : q = j
      · rw [e]; exact h.2
      · exact hq q (by omega)
    rw [e1, e2, hby]
    simp only [Nat.zero_add, Nat.not_lt_zero, if_false, Nat.sub_zero]
    refine ⟨by omega, by omega, hj, okCells_all fun _ => rfl, by omega, by omega, by omega, by omega, by omega, by omega, by omega, okCells_all fun _ => rfl, by omega, by omega, 68, by decide, ?_, ?_⟩
    · have hi : insN l i = j := by
        unfold insN
        by_cases hlt : j < l.length
        · refine lst_eq (fun q hq2 => by rw [decide_eq_true (hq q hq2)]; rfl) hlt ?_
          rw [decide_eq_true (by omega), Bool.true_and] at h
          rw [h]; rfl
        · have ej : j = l.length := by omega
          rw [ej]
          exact lst_full fun q hq2 => by rw [decide_eq_true (hq q (by omega))]; rfl
      have hlen : (insL l (i, a, b, c, d)).length = j + 1 + (l.length - j) := by
        unfold insL
        rw [hi, ins_len hj]; omega
      rw [hlen]; rfl
    · have hi : insN l i = j := by
        unfold insN
        by_cases hlt : j < l.length
        · refine lst_eq (fun q hq2 => by rw [decide_eq_true (hq q hq2)]; rfl) hlt ?_
          rw [decide_eq_true (by omega), Bool.true_and] at h
          rw [h]; rfl
        · have ej : j = l.length := by omega
          rw [ej]
          exact lst_full fun q hq2 => by rw [decide_eq_true (hq q (by omega))]; rfl
      have hlen : (insL l (i, a, b, c, d)).length = j + 1 + (l.length - j) := by
        unfold insL
        rw [hi, ins_len hj]; omega
      rw [hlen]
      refine ⟨_, rfl, fun k hk => ?_⟩
      have hg : (insL l (i, a, b, c, d)).getD k e0 = if k < j then l.getD k e0 else if k = j then (i, a, b, c, d) else l.getD (k - 1) e0 := by
        unfold insL
        rw [hi]
        exact ins_get hj k
      unfold enF
      rw [hg]
      by_cases h1 : k < j
      · rw [if_pos (by omega), if_pos h1, if_pos h1]; rfl
      · by_cases h2 : k = j
        · subst h2
          rw [if_pos (by omega), if_neg h1, if_neg h1, if_pos rfl, Nat.sub_self]; rfl
        · rw [if_neg (by omega), if_neg h1, if_neg h2, show j + (k - (j + 1)) = k - 1 by omega]; rfl
  · cases hF
def F82 : QF := fun l rest => match rest with
  | [.v (.int .i64 i), .agg [.v (.int .i64 a), .v (.int .i64 b), .v (.int .i64 c), .v (.int .i64 d)]] => some ([l.length ≤ 256], i64 (movQ l i a b c d), if movQ l i a b c d = 0 then .set (l.set (plcN l i) (i, a, b, c, d)) else .keep)
  | _ => none
def m82 : MCon := mcQ F82
theorem mon82 : MConOK Tryz.prog 82 m82 := MConOK.mcQ (G := [(121, k121), (122, k122)]) (H := [(7, ⟨[], []⟩)]) (.cons con121 (.cons con122 .nil)) Tryz.func82 fun l rest ob v u hF hu hob => by
  unfold F82 at hF
  split at hF
  · rename_i i a b c d
    cases hF
    have hl : l.length ≤ 256 := hob _ (by simp)
    have hl2 : l.length ≤ 1000 := by omega
    clear hob hu
    refine ⟨rfl, by simp [clean, cleanCs, cleanC], by kernel_rfl, bodyM_go (rs := [.tmp 6]) rfl rfl ?_⟩
    simp only [go_sem, k121, k122, F121, F122, hl2, enF_eq]
    intro z hz
    refine ⟨fun h => ?_, fun h0 z1 hz1 => ⟨fun h1 => ?_, fun h1 => ?_⟩⟩
    · have hne : z ≠ 0 := by simpa using h
      have e : movQ l i a b c d = z := by unfold movQ; rw [← hz, if_pos hne]
      rw [e, if_neg hne]
      exact ⟨rfl, rfl, rfl⟩
    · have hz0 : z = 0 := by simpa using h0
      have e : movQ l i a b c d = 9 := by
        unfold movQ
        rw [← hz, if_neg (by rw [hz0]; decide), if_neg (fun h => by have := plcE_ge.2 h; omega)]
      rw [e, if_neg (by decide)]
      exact ⟨rfl, rfl, rfl⟩
    · have hz0 : z = 0 := by simpa using h0
      have hp : plcN l i < l.length := plcE_ge.1 (by omega)
      have e : movQ l i a b c d = 0 := by
        unfold movQ
        rw [← hz, if_neg (by rw [hz0]; decide), if_pos hp]
      have hz1 : z1 = (plcN l i : Nat) := by rw [hz1]; unfold plcE; rw [if_pos hp]
      obtain ⟨y1, _⟩ := plc_yes hp
      rw [e, if_pos rfl, hz1, Int.toNat_natCast, y1]
      refine ⟨by omega, by omega, hp, rfl, rfl, _, rfl, fun q hq => ?_⟩
      unfold enF
      rw [List.getD_eq_getElem?_getD (l := l.set _ _), List.getElem?_set]
      by_cases e : q = plcN l i
      · rw [if_pos e, if_pos e.symm, if_pos hp]; rfl
      · rw [if_neg e, if_neg (fun h => e h.symm), ← List.getD_eq_getElem?_getD]; rfl
  · cases hF
def drpQ (l : List En) (i : Int) : Int := if i < 0 ∨ 2147483647 < i then 3 else if plcN l i < l.length then 0 else 9
def F83 : QF := fun l rest => match rest with
  | [.v (.int .i64 i)] => some ([l.length ≤ 256], i64 (drpQ l i), if drpQ l i = 0 then .new (l.eraseIdx (plcN l i)) else .keep)
  | _ => none
def m83 : MCon := mcQ F83
theorem mon83 : MConOK Tryz.prog 83 m83 := MConOK.mcQ (G := [(121, k121), (122, k122)]) (H := [(7, ⟨[(8, .made 1), (19, .slot 0)], [(12, [.made 1])]⟩)]) (.cons con121 (.cons con122 .nil)) Tryz.func83 fun l rest ob v u hF hu hob => by
  unfold F83 at hF
  split at hF
  · rename_i i
    cases hF
    have hl : l.length ≤ 256 := hob _ (by simp)
    have hl2 : l.length ≤ 1000 := by omega
    clear hob hu
    refine ⟨rfl, by simp [clean, cleanCs, cleanC], by kernel_rfl, bodyM_go (rs := [.tmp 4]) rfl rfl ?_⟩
    simp only [go_sem, k121, k122, F121, F122, hl2, enF_eq]
    have h0' : checkBoxS 0 0 0 0 = 0 := by decide
    intro z hz
    have hz : z = if i < 0 ∨ 2147483647 < i then 3 else 0 := by rw [hz]; unfold askE; rw [h0']
    refine ⟨fun h => ?_, fun h0 z1 hz1 => ⟨fun h1 => ?_, fun h1 => ?_⟩⟩
    · have hne : z ≠ 0 := by simpa using h
      have hr : i < 0 ∨ 2147483647 < i := Classical.byContradiction fun hn => hne (by rw [hz, if_neg hn])
      have e : drpQ l i = z := by unfold drpQ; rw [hz, if_pos hr, if_pos hr]
      rw [e, if_neg hne]
      exact ⟨rfl, rfl, rfl⟩
    · have hz0 : z = 0 := by simpa using h0
      have hr : ¬ (i < 0 ∨ 2147483647 < i) := fun h => by rw [hz, if_pos h] at hz0; cases hz0
      have e : drpQ l i = 9 := by
        unfold drpQ
        rw [if_neg hr, if_neg (fun h => by have := plcE_ge.2 h; omega)]
      rw [e, if_neg (by decide)]
      exact ⟨rfl, rfl, rfl⟩
    · have hz0 : z = 0 := by simpa using h0
      have hr : ¬ (i < 0 ∨ 2147483647 < i) := fun h => by rw [hz, if_pos h] at hz0; cases hz0
      have hp : plcN l i < l.length := plcE_ge.1 (by omega)
      have e : drpQ l i = 0 := by
        unfold drpQ
        rw [if_neg hr, if_pos hp]
      have hz1 : z1 = (plcN l i : Nat) := by rw [hz1]; unfold plcE; rw [if_pos hp]
      generalize plcN l i = j at hp hz1 ⊢
      subst hz1
      have e1 : ((j : Int) - 0).toNat = j := by omega
      have hby : bytesT Tryz.prog 130 = 40 := by kernel_rfl
      rw [e, if_pos rfl, e1, hby]
      refine ⟨by omega, by omega, by omega, okCells_all fun _ => rfl, by omega, by omega, fun z2 hz2 => ?_⟩
      have hz2 : z2 = ((j + 1 : Nat) : Int) := by rw [hz2, wrap_in (by unfold inR; omega)]; omega
      subst hz2
      have e2 : ((l.length : Int) - ((j + 1 : Nat) : Int)).toNat = l.length - (j + 1) := by omega
      rw [e2, Int.toNat_natCast]
      simp only [Nat.zero_add, Nat.not_lt_zero, if_false, Nat.sub_zero]
      have hlen : (l.eraseIdx j).length = j + (l.length - (j + 1)) := by rw [List.length_eraseIdx_of_lt hp]; omega
      refine ⟨by omega, by omega, by omega, okCells_all fun _ => rfl, by omega, by omega, trivial, 32, by decide, ?_, ?_⟩
      · rw [hlen]; rfl
      · rw [hlen]
        refine ⟨_, rfl, fun k hk => ?_⟩
        have hg : (l.eraseIdx j).getD k e0 = if k < j then l.getD k e0 else l.getD (k + 1) e0 := by
          rw [List.getD_eq_getElem?_getD, List.getElem?_eraseIdx]
          split <;> rw [List.getD_eq_getElem?_getD]
        unfold enF
        rw [hg]
        by_cases h1 : k < j
        · rw [if_pos h1, if_pos h1]; rfl
        · rw [if_neg h1, if_neg h1, show j + 1 + (k - j) = k + 1 by omega]; rfl
  · cases hF
end Go.Ax
end

section
/-
  Sweeps: copies (maps.Clone by the shelf's contract, its laying in plain words by a tool of the kit's).
-/
set_option linter.unusedVariables false
set_option linter.unusedSimpArgs false
set_option maxHeartbeats 4000000
set_option maxRecDepth 100000
namespace Go.Proofs
open Go.Shelf
end Go.Proofs
namespace Go.Ax
open Go.Proofs
noncomputable def F79 : List AV → Option (List Prop × (Nat → AV) × (Nat → Option Fam))
  | [.rm 4 L] => some ([], fun k => .mp k 0, fun _ => some (famMap 4 L none))
  | _ => none
noncomputable def mN79 : MCon := mcK F79
theorem mN79_eq : mN79 = mcK F79 := (rfl)
theorem F79_eq {L : Ents} : F79 [.rm 4 L] = some ([], fun k => .mp k 0, fun _ => some (famMap 4 L none)) := (rfl)
attribute [go_sem] mN79_eq F79_eq
noncomputable def F30 : List AV → Option (List Prop × (Nat → AV) × (Nat → Option Fam))
  | [.rop [.rm 4 L]] => some ([], fun k => .bx k 0, fun k => some (swF k ⟨L, noRows⟩))
  | _ => none
noncomputable def mN30 : MCon := mcKU F30
theorem mN30_eq : mN30 = mcKU F30 := (rfl)
theorem F30_eq {L : Ents} : F30 [.rop [.rm 4 L]] = some ([], fun k => .bx k 0, fun k => some (swF k ⟨L, noRows⟩)) := (rfl)
attribute [go_sem] mN30_eq F30_eq
theorem newC {key N r : Nat} {ty : TypeId} {sz : Nat} {cs : List AV} {m1 : Mem} (hc : ∀ c ∈ cs, clean 3 c = true) (h : look m1 r = some (fam1 ty sz cs none)) (hN : N ≤ r) : NewP key N (.bx r 0) m1 (.bx key 0) (some (fam1 ty sz cs none)) := by
  refine newP_list [(r, 0)] (by simp) (by simp [hN]) (.inr (by simp [sgP])) (fun ks hks => ?_) (fun ks hks f r' g hf => ?_) (fun f hf => ?_)
  · show AV.bx key 0 = AV.bx (thL ks key (ixP [(r, 0)]) r 0).1 0
    simp only [thL]
    rw [if_neg (by omega)]
  · match f, hf with
    | 0, hf =>
      cases hf
      refine ⟨_, h, ⟨rfl, rfl, rfl, rfl, fun j hj => ?_⟩, by simp [fam1]⟩
      obtain ⟨k1, k2⟩ := cleans_ren (θ := thL ks key (ixP [(r, 0)])) (g := newG N (sgP [(r, 0)]) (ixP [(r, 0)])) (B := newB N (sgP [(r, 0)])) hc
      exact ⟨k1.symm, k2⟩
    | f + 1, hf => simp at hf
  · have : 1 ≤ f := hf
    simp only [fam1]
    rw [if_neg (by omega)]
noncomputable def F29 : List AV → Option (List Prop × (Nat → AV) × (Nat → Option Fam))
  | [] => some ([], fun k => .bx k 0, fun _ => some (fam1 121 2 [bo true, .v (.slice none 0 0)] none))
  | _ => none
noncomputable def mN29 : MCon := mcK F29
theorem mN29_eq : mN29 = mcK F29 := (rfl)
theorem F29_eq : F29 [] = some ([], fun k => .bx k 0, fun _ => some (fam1 121 2 [bo true, .v (.slice none 0 0)] none)) := (rfl)
attribute [go_sem] mN29_eq F29_eq
theorem mon29 : MConOK Tryz.prog 29 mN29 := MConOK.mcK (G := []) (H := []) .nil Tryz.func29 fun es ob v nw hF hob => by
  unfold F29 at hF
  split at hF
  · cases hF
    refine ⟨by simp, by kernel_rfl, fun key => bodyM_go (rs := [.tmp 0]) rfl rfl ?_⟩
    simp only [go_sem]
    exact newC (r := 2) (fun c hc => by
      simp only [List.mem_cons, List.not_mem_nil, or_false] at hc
      rcases hc with rfl | rfl <;> rfl) rfl (Nat.zero_le _)
  · cases hF
/-- The reference's sweep, in one family. -/
def qN (K : Nat) (l : List En) : Fam := famR [⟨1, 2, 121, fun _ => [bo true, .own K 1 l.length 5], none⟩, ⟨l.length, 5, 130, enF l, none⟩] noRows
def F31f : Option (List Prop × List En) → Option (List Prop × (Nat → AV) × (Nat → Option Fam))
  | some (ob, l) => some ((l.length ≤ 1000) :: ob, fun k => .bx k 0, fun k => some (qN k l))
  | none => none
def F31 : List AV → Option (List Prop × (Nat → AV) × (Nat → Option Fam))
  | [.rop [.v (.bool true), S]] => F31f (roE S)
  | _ => none
noncomputable def mN31 : MCon := mcKU F31
theorem mN31_eq : mN31 = mcKU F31 := (rfl)
theorem F31_eq {S : AV} : F31 [.rop [bo true, S]] = F31f (roE S) := (rfl)
theorem F31f_some {ob : List Prop} {l : List En} : F31f (some (ob, l)) = some ((l.length ≤ 1000) :: ob, fun k => .bx k 0, fun k => some (qN k l)) := (rfl)
attribute [go_sem] mN31_eq F31_eq F31f_some
end Go.Ax
end

section
/-
  A sweep and the reference's: done.
-/
set_option linter.unusedVariables false
set_option linter.unusedSimpArgs false
set_option maxHeartbeats 4000000
set_option maxRecDepth 100000
namespace Go.Ax
open Go.Proofs
abbrev WF := SwS → List En → List AV → Option (List Prop × AV × SwS × QU)
noncomputable def mcWh (key J K E n : Nat) (s : SwS) (fam famE : Fam) (l : List En) : Option (List Prop × AV × SwS × QU) → Option Eff
  | some (ob, v, s', u) => some ⟨(J ≠ K ∧ J ≠ E ∧ K ≠ E) :: tlOK s.tl :: tlOK s'.tl :: (n = l.length) :: (fam = qS E n) :: (famE = qE l) :: u.ok l :: ob, v, .many ((J, swF J s') :: u.sets key K E l) u.nw⟩
  | none => none
noncomputable def mcWg (F : WF) (key J K E n : Nat) (s : SwS) (fam : Fam) (rest : List AV) : Option Fam → Option Eff
  | some famE => mcWh key J K E n s fam famE (enL n (famE 0).get) (F s (enL n (famE 0).get) rest)
  | none => none
noncomputable def mcWe (F : WF) (key J K : Nat) (s : SwS) (m : Mem) (rest : List AV) : Option Fam → Option Eff
  | some fam => match (fam 0).get 0 with
    | [.v (.bool true), .own E 0 n 5] => mcWg F key J K E n s fam rest (look m E)
    | _ => none
  | none => none
noncomputable def mcWd (F : WF) (key J K : Nat) (m : Mem) (rest : List AV) : Option Fam → Option Eff
  | some famW => match oW.dec J famW with
    | some s => mcWe F key J K s m rest (look m K)
    | none => none
  | none => none
noncomputable def mcW (F : WF) : MCon := fun key m es => match es with
  | .bx J 0 :: .bx K 0 :: rest => mcWd F key J K m rest (look m J)
  | _ => none
theorem mcW_eq {F : WF} {key J K : Nat} {m : Mem} {rest : List AV} : mcW F key m (.bx J 0 :: .bx K 0 :: rest) = mcWd F key J K m rest (look m J) := (rfl)
theorem mcWd_W {F : WF} {key J K : Nat} {m : Mem} {rest : List AV} {L : Ents} {tl : Fam} : mcWd F key J K m rest (some (famR [⟨1, 1, 103, fun _ => [.mp J 1], none⟩, mapR 4 L] tl)) = mcWe F key J K ⟨L, tl⟩ m rest (look m K) := by
  show (match oW.dec J (oW.fm J ⟨L, tl⟩) with
    | some s => mcWe F key J K s m rest (look m K)
    | none => none) = _
  rw [Obj.dec_fm]
theorem mcWe_S {F : WF} {key J K E n : Nat} {s : SwS} {m : Mem} {rest : List AV} : mcWe F key J K s m rest (some (fam1 121 2 [bo true, .own E 0 n 5] none)) = mcWg F key J K E n s (qS E n) rest (look m E) := (rfl)
theorem mcWg_E {F : WF} {key J K E : Nat} {s : SwS} {fam : Fam} {rest : List AV} {l : List En} : mcWg F key J K E l.length s fam rest (some (famN l.length 5 130 (enF l) none)) = mcWh key J K E l.length s fam (qE l) l (F s l rest) := by
  show mcWh key J K E l.length s fam (qE l) (enL l.length (enF l)) (F s (enL l.length (enF l)) rest) = _
  rw [enL_F]
theorem mcWh_some {key J K E n : Nat} {s s' : SwS} {fam famE : Fam} {l : List En} {ob : List Prop} {v : AV} {u : QU} : mcWh key J K E n s fam famE l (some (ob, v, s', u)) = some ⟨(J ≠ K ∧ J ≠ E ∧ K ≠ E) :: tlOK s.tl :: tlOK s'.tl :: (n = l.length) :: (fam = qS E n) :: (famE = qE l) :: u.ok l :: ob, v, .many ((J, swF J s') :: u.sets key K E l) u.nw⟩ := (rfl)
section
variable {P : Program} {G : Ctx} {H : Hots} {f : FuncId} {fn : Func}
def WOK (P : Program) (G : Ctx) (H : Hots) (fn : Func) (F : WF) : Prop :=
  ∀ s l rest ob v s' u, F s l rest = some (ob, v, s', u) → tlOK s.tl → tlOK s'.tl → u.ok l → (∀ p ∈ ob, p) → clean 3 v = true ∧ (∀ a ∈ rest, clean 3 a = true) ∧ funcOK P H fn (rest.length + 2) = true ∧
    bodyM P G H fn (.bx 0 0 :: .bx 1 0 :: rest) [(2, qE l), (1, qS 2 l.length), (0, swF 0 s)] 3 fun a m1 => a = v ∧ look m1 0 = some (swF 0 s') ∧ u.post 1 2 l m1
theorem MConOK.mcW (hG : CtxOK P G) (hf : P.funcs[f]? = some fn) {F : WF} (h : WOK P G H fn F) : MConOK P f (mcW F) := by
  refine MConOK.of (H := H) hG hf fun key m es e hc hob => ?_
  unfold Ax.mcW at hc
  split at hc
  · rename_i J K rest
    unfold mcWd at hc
    split at hc
    · rename_i famW hlW
      split at hc
      · rename_i s hs
        obtain rfl := Obj.dec_some hs
        unfold mcWe at hc
        split at hc
        · rename_i fam hl
          split at hc
          · rename_i E n hget
            unfold mcWg at hc
            split at hc
            · rename_i famE hl2
              unfold mcWh at hc
              split at hc
              · rename_i ob v s' u hF
                cases hc
                generalize enL n (famE 0).get = l at hF hob ⊢
                obtain ⟨n1, n2, n3⟩ : J ≠ K ∧ J ≠ E ∧ K ≠ E := hob _ (by simp)
                have ht : tlOK s.tl := hob _ (by simp)
                have ht' : tlOK s'.tl := hob _ (by simp)
                obtain rfl : n = l.length := hob _ (by simp)
                have e1 : fam = qS E l.length := hob _ (by simp)
                have e2 : famE = qE l := hob _ (by simp)
                have hu : u.ok l := hob _ (by simp)
                subst e1 e2
                obtain ⟨hv, h1, h3, h4⟩ := h _ _ _ _ _ _ _ hF ht ht' hu fun p hp => hob p (by simp [hp])
                obtain ⟨a1, a2⟩ := cleans_ren (θ := thE [J, K, E]) (g := lowG 3) (B := lowB 3) h1
                refine ⟨[J, K, E], [(2, qE l), (1, qS 2 l.length), (0, swF 0 s)], .bx 0 0 :: .bx 1 0 :: rest, ⟨by simp [n1, n2, n3], by rw [List.map_cons, List.map_cons, a1]; rfl, fun a ha => ?_, fun j hj => ?_, fun q z hq => ?_⟩, h3, h4.mono fun a m1 ⟨hav, hpw, hp⟩ => ?_⟩
                · rcases List.mem_cons.1 ha with rfl | ha
                  · exact (by show (0 : Nat) < 3; omega)
                  · rcases List.mem_cons.1 ha with rfl | ha
                    · exact (by show (1 : Nat) < 3; omega)
                    · exact a2 a ha
                · match j, hj with
                  | 0, _ => exact ⟨swF 0 s, _, by simp [look], hlW, fun f => ⟨oW.gn _ _ ht _, swF_ren ht (θ := thE [J, K, E]) (g := lowG 3) (i := 0) (K := J) (fun _ => rfl) (fun _ => (by show (0 : Nat) < 3; omega)) f⟩⟩
                  | 1, _ => exact ⟨qS 2 l.length, _, by simp [look], hl, fun f => ⟨qS_g, rowRen_S (θ := thE [J, K, E]) (g := lowG 3) (j := 2) (E := E) rfl (by show (2 : Nat) < 3; omega) f⟩⟩
                  | 2, _ => exact ⟨qE l, _, by simp [look], hl2, fun f => ⟨qE_g, rowRen_E (fun _ _ => rfl) f⟩⟩
                  | j + 3, hj => simp at hj; omega
                · by_cases e : q = 0
                  · subst e; simp
                  · by_cases e1 : q = 1
                    · subst e1; simp
                    · by_cases e2 : q = 2
                      · subst e2; simp
                      · simp [look, Ne.symm e, Ne.symm e1, Ne.symm e2] at hq
                · subst hav
                  have w0 : ∀ (σ : Nat → Option (Nat × Nat)) (f : Nat), rowRen (thL [J, K, E] key fun _ _ => 0) (newG 3 σ fun _ _ => 0) (newB 3 σ) (swF 0 s' f) (swF J s' f) ∧ (swF 0 s' f).g ≠ some false := fun σ f => ⟨swF_ren ht' (i := 0) (K := J) (fun _ => by simp [thL]) (fun _ => .inl (by show (0 : Nat) < 3; omega)) f, by rw [show (swF 0 s' f).g = none from oW.gn 0 s' ht' f]; simp⟩
                  cases u with
                  | keep =>
                    obtain ⟨p1, p2⟩ := hp
                    obtain ⟨k1, k2⟩ := clean_ren (θ := thL [J, K, E] key fun _ _ => 0) (g := newG 3 (fun _ => none) fun _ _ => 0) (B := newB 3 fun _ => none) 3 a hv
                    refine ⟨fun _ => none, fun _ _ => 0, [swF J s', qS E l.length, qE l], none, rfl, ⟨fun f r g h => by simp at h, k1.symm, k2, rfl, fun j hj => .inr ?_, fun _ => rfl⟩⟩
                    match j, hj with
                    | 0, _ => exact ⟨_, _, hpw, rfl, w0 _⟩
                    | 1, _ => exact ⟨_, _, p1, rfl, fun f => ⟨rowRen_S (by simp [thL]) (.inl (by show (2 : Nat) < 3; omega)) f, by rw [qS_g]; simp⟩⟩
                    | 2, _ => exact ⟨_, _, p2, rfl, fun f => ⟨rowRen_E (fun _ _ => rfl) f, by rw [qE_g]; simp⟩⟩
                    | j + 3, hj => simp at hj; omega
                  | set l' =>
                    obtain ⟨p1, g, p2, p3⟩ := hp
                    obtain ⟨k1, k2⟩ := clean_ren (θ := thL [J, K, E] key fun _ _ => 0) (g := newG 3 (fun _ => none) fun _ _ => 0) (B := newB 3 fun _ => none) 3 a hv
                    refine ⟨fun _ => none, fun _ _ => 0, [swF J s', qS E l.length, famN l.length 5 130 (enF l') none], none, rfl, ⟨fun f r g h => by simp at h, k1.symm, k2, rfl, fun j hj => .inr ?_, fun _ => rfl⟩⟩
                    match j, hj with
                    | 0, _ => exact ⟨_, _, hpw, rfl, w0 _⟩
                    | 1, _ => exact ⟨_, _, p1, rfl, fun f => ⟨rowRen_S (by simp [thL]) (.inl (by show (2 : Nat) < 3; omega)) f, by rw [qS_g]; simp⟩⟩
                    | 2, _ => exact ⟨_, _, p2, rfl, fun f => ⟨rowRen_E p3 f, by rw [qE_g]; simp⟩⟩
                    | j + 3, hj => simp at hj; omega
                  | new l' =>
                    obtain ⟨q, hq, p1, g, p2, p3⟩ := hp
                    obtain ⟨k1, k2⟩ := clean_ren (θ := thL [J, K, E] key fun _ _ => 0) (g := newG 3 (fun f => if f = 0 then some (q, 0) else none) fun _ _ => 0) (B := newB 3 fun f => if f = 0 then some (q, 0) else none) 3 a hv
                    refine ⟨fun f => if f = 0 then some (q, 0) else none, fun _ _ => 0, [swF J s', qS key l'.length, dead], some (qE l'), rfl, ⟨fun f r g h => ?_, k1.symm, k2, rfl, fun j hj => ?_, fun f => ?_⟩⟩
                    · by_cases hf0 : f = 0
                      · subst hf0
                        simp at h
                        obtain ⟨rfl, rfl⟩ := h
                        exact ⟨hq, rfl⟩
                      · simp [hf0] at h
                    · match j, hj with
                      | 0, _ => exact .inr ⟨_, _, hpw, rfl, w0 _⟩
                      | 1, _ => exact .inr ⟨_, _, p1, rfl, fun f => ⟨rowRen_S (by simp only [thL]; rw [if_neg (by show ¬ q < 3; omega)]) (.inr rfl) f, by rw [qS_g]; simp⟩⟩
                      | 2, _ => exact .inl rfl
                      | j + 3, hj => simp at hj; omega
                    · match f with
                      | 0 => exact ⟨_, p2, rowRen_E p3 0, by simp [famN]⟩
                      | f + 1 => exact rfl
              · cases hc
            · cases hc
          · cases hc
        · cases hc
      · cases hc
    · cases hc
  · cases hc
end
end Go.Ax
end

section
/-
  A sweep and the reference's: the plain law of acts.
-/
set_option linter.unusedVariables false
set_option linter.unusedSimpArgs false
set_option maxHeartbeats 4000000
set_option maxRecDepth 100000
namespace Go.Ax
open Go.Proofs
def vlE (e : En) : List Int := [e.2.1, e.2.2.1, e.2.2.2.1, e.2.2.2.2]
/-- The reference's entries are the sweep's boxes by ascending ids. -/
structure RelW (L : Ents) (l : List En) : Prop where
  nod : keysN L
  srt : l.Pairwise fun a b => a.1 < b.1
  mem : ∀ k x, memSel L k = some x ↔ ∃ e ∈ l, e.1 = k ∧ vlE e = x
  box : ∀ k x, memSel L k = some x → okBx x
  len : L.length ≤ 256
theorem toE_nod {l : List En} (h : l.Pairwise fun a b => a.1 < b.1) : keysN (toE l) := by
  unfold keysN
  rw [toE_keys]
  have : (l.map (·.1)).Pairwise fun a b => a < b := by rw [List.pairwise_map]; exact h
  exact this.imp fun h => by omega
theorem toE_mem {l : List En} {k : Int} {x : List Int} : (k, x) ∈ toE l ↔ ∃ e ∈ l, e.1 = k ∧ vlE e = x := by
  unfold toE vlE
  rw [List.mem_map]
  constructor
  · rintro ⟨e, he, h⟩
    cases h
    exact ⟨e, he, rfl, rfl⟩
  · rintro ⟨e, he, rfl, rfl⟩
    exact ⟨e, he, rfl⟩
theorem RelW.sel {L : Ents} {l : List En} (h : RelW L l) (k : Int) : memSel (toE l) k = memSel L k := by
  cases hk : memSel L k with
  | some x => exact mem_memSel (toE_nod h.srt) (toE_mem.2 ((h.mem k x).1 hk))
  | none =>
    cases ht : memSel (toE l) k with
    | none => rfl
    | some x =>
      have := (h.mem k x).2 (toE_mem.1 (memSel_mem ht))
      rw [hk] at this
      cases this
theorem RelW.key {L : Ents} {l : List En} (h : RelW L l) (k : Int) : k ∈ L.map (·.1) ↔ k ∈ l.map (·.1) := by
  rw [← sel_some_mem, ← h.sel, sel_some_mem, toE_keys]
theorem RelW.perm {L : Ents} {l : List En} (h : RelW L l) : (L.map (·.1)).Perm (l.map (·.1)) := perm_of_mem h.nod (by have := toE_nod h.srt; unfold keysN at this; rw [toE_keys] at this; exact this) h.key
theorem RelW.llen {L : Ents} {l : List En} (h : RelW L l) : L.length = l.length := by have := h.perm.length_eq; simpa using this
theorem RelW.srtK {L : Ents} {l : List En} (h : RelW L l) : srtK L = l.map (·.1) := srtK_eq h.perm (by
  rw [List.pairwise_map]
  exact h.srt.imp fun h => by omega)
theorem RelW.plc {L : Ents} {l : List En} (h : RelW L l) {i : Int} : plcN l i < l.length ↔ (memSel L i).isSome = true := by
  rw [← h.sel]
  constructor
  · intro hp; rw [(plc_yes hp).2]; rfl
  · intro hs
    refine Classical.byContradiction fun hn => ?_
    rw [plc_no hn] at hs
    cases hs
theorem RelW.put_eq {L : Ents} {l : List En} (h : RelW L l) {i a b c d : Int} : putQ l i a b c d = putE L i a b c d := by
  have hl := h.llen
  have hn := h.len
  unfold putQ Ax.putE askE
  by_cases h1 : i < 0 ∨ 2147483647 < i
  · rw [if_pos h1, if_pos h1, if_pos (by decide)]
  · rw [if_neg h1, if_neg h1]
    by_cases h2 : checkBoxS a b c d ≠ 0
    · rw [if_pos h2, if_pos h2]
    · rw [if_neg h2, if_neg h2]
      by_cases h3 : (memSel L i).isSome = true
      · rw [if_pos (h.plc.2 h3), if_pos h3]
      · rw [if_neg (fun hp => h3 (h.plc.1 hp)), if_neg h3]
        by_cases h4 : l.length = 256
        · rw [if_pos h4, if_pos (by omega)]
        · rw [if_neg h4, if_neg (by omega)]
theorem RelW.mov_eq {L : Ents} {l : List En} (h : RelW L l) {i a b c d : Int} : movQ l i a b c d = movE L i a b c d := by
  unfold movQ Ax.movE askE
  by_cases h1 : i < 0 ∨ 2147483647 < i
  · rw [if_pos h1, if_pos h1, if_pos (by decide)]
  · rw [if_neg h1, if_neg h1]
    by_cases h2 : checkBoxS a b c d ≠ 0
    · rw [if_pos h2, if_pos h2]
    · rw [if_neg h2, if_neg h2]
      by_cases h3 : (memSel L i).isSome = true
      · rw [if_pos (h.plc.2 h3), if_pos h3]
      · rw [if_neg (fun hp => h3 (h.plc.1 hp)), if_neg h3]
theorem RelW.drp_eq {L : Ents} {l : List En} (h : RelW L l) {i : Int} : drpQ l i = drpE L i := by
  unfold drpQ Ax.drpE
  by_cases h1 : i < 0 ∨ 2147483647 < i
  · rw [if_pos h1, if_pos h1]
  · rw [if_neg h1, if_neg h1]
    by_cases h3 : (memSel L i).isSome = true
    · rw [if_pos (h.plc.2 h3), if_pos h3]
    · rw [if_neg (fun hp => h3 (h.plc.1 hp)), if_neg h3]
theorem RelW.put {L : Ents} {l : List En} (h : RelW L l) {i a b c d : Int} (he : putE L i a b c d = 0) : RelW (memPut L i [a, b, c, d]) (insL l (i, a, b, c, d)) := by
  unfold Ax.putE at he
  have h1 : ¬ (i < 0 ∨ 2147483647 < i) := fun h1 => by rw [if_pos h1] at he; cases he
  rw [if_neg h1] at he
  have h2 : ¬ checkBoxS a b c d ≠ 0 := fun h2 => by rw [if_pos h2] at he; exact h2 he
  rw [if_neg h2] at he
  have h3 : ¬ (memSel L i).isSome = true := fun h3 => by rw [if_pos h3] at he; cases he
  rw [if_neg h3] at he
  have h4 : ¬ 256 ≤ (L.length : Int) := fun h4 => by rw [if_pos h4] at he; cases he
  have hni : i ∉ L.map (·.1) := fun hm => h3 (sel_some_mem.2 hm)
  have hnl : i ∉ l.map (·.1) := fun hm => hni ((h.key i).2 hm)
  have hcb : checkBoxS a b c d = 0 := by simpa using h2
  have hks : (memPut L i [a, b, c, d]).map (·.1) = L.map (·.1) ++ [i] := by rw [keys_put, if_neg hni]
  have hmem : ∀ e, e ∈ insL l (i, a, b, c, d) ↔ e = (i, a, b, c, d) ∨ e ∈ l := fun e => by
    unfold insL
    rw [List.mem_append, List.mem_cons]
    have : e ∈ l ↔ e ∈ l.take (insN l i) ∨ e ∈ l.drop (insN l i) := by
      rw [← List.mem_append, List.take_append_drop]
    rw [this]
    constructor
    · rintro (h | h | h)
      · exact .inr (.inl h)
      · exact .inl h
      · exact .inr (.inr h)
    · rintro (h | h | h)
      · exact .inr (.inl h)
      · exact .inl h
      · exact .inr (.inr h)
  have hmk : ∀ e ∈ l, e.1 ≠ i := fun e he2 e3 => hnl (List.mem_map.2 ⟨e, he2, e3⟩)
  have hlt : ∀ e ∈ l.take (insN l i), e.1 < i := fun e hm => by
    obtain ⟨q, hq, rfl⟩ := List.mem_iff_getElem.1 hm
    rw [List.length_take] at hq
    have := lst_no (p := fun j => !decide ((l.getD j e0).1 < i)) (n := l.length) (i := q) (by unfold insN at hq; omega)
    rw [List.getElem_take]
    rw [List.getD_eq_getElem?_getD, List.getElem?_eq_getElem (by omega)] at this
    simpa using this
  have hgt : ∀ e ∈ l.drop (insN l i), i < e.1 := fun e hm => by
    have hle := lst_le (p := fun j => !decide ((l.getD j e0).1 < i)) l.length
    obtain ⟨q, hq, rfl⟩ := List.mem_iff_getElem.1 hm
    rw [List.length_drop] at hq
    have hil : insN l i < l.length := by unfold insN at hq ⊢; omega
    have hy0 : (!decide ((l.getD (insN l i) e0).1 < i)) = true := lst_yes (p := fun j => !decide ((l.getD j e0).1 < i)) (n := l.length) hil
    have hy : ¬ (l[insN l i]).1 < i := by
      have e : l.getD (insN l i) e0 = l[insN l i] := by rw [List.getD_eq_getElem?_getD, List.getElem?_eq_getElem hil]; rfl
      rw [← e]
      exact fun hc => by rw [decide_eq_true hc] at hy0; cases hy0
    have hne := hmk _ (List.getElem_mem hil)
    rw [List.getElem_drop]
    have hq2 : insN l i + q < l.length := by omega
    by_cases e : q = 0
    · subst e
      show i < (l[insN l i]).1
      omega
    · have := List.pairwise_iff_getElem.1 h.srt (insN l i) (insN l i + q) hil hq2 (by omega)
      omega
  refine ⟨?_, ?_, fun k x => ?_, fun k x hk => ?_, ?_⟩
  · unfold keysN
    rw [hks, List.nodup_append]
    exact ⟨h.nod, by simp, fun a ha b hb => by simp only [List.mem_cons, List.not_mem_nil, or_false] at hb; rw [hb]; exact fun e => hni (e ▸ ha)⟩
  · unfold insL
    refine List.pairwise_append.2 ⟨h.srt.sublist (List.take_sublist _ _), List.pairwise_cons.2 ⟨fun e he2 => hgt e he2, h.srt.sublist (List.drop_sublist _ _)⟩, fun x hx y hy => ?_⟩
    rcases List.mem_cons.1 hy with rfl | hy
    · exact hlt x hx
    · have := hlt x hx
      have := hgt y hy
      omega
  · rw [sel_put]
    by_cases e : i = k
    · rw [if_pos e]
      constructor
      · intro hx
        cases hx
        exact ⟨_, (hmem _).2 (.inl rfl), e, rfl⟩
      · rintro ⟨y, hy, h5, rfl⟩
        rcases (hmem y).1 hy with rfl | hy
        · rfl
        · exact absurd (h5.trans e.symm) (hmk y hy)
    · rw [if_neg e, h.mem]
      constructor
      · rintro ⟨y, hy, h5, h6⟩
        exact ⟨y, (hmem y).2 (.inr hy), h5, h6⟩
      · rintro ⟨y, hy, h5, h6⟩
        rcases (hmem y).1 hy with rfl | hy
        · exact absurd h5 e
        · exact ⟨y, hy, h5, h6⟩
  · rw [sel_put] at hk
    by_cases e : i = k
    · rw [if_pos e] at hk; cases hk; exact ⟨_, _, _, _, rfl, hcb⟩
    · rw [if_neg e] at hk; exact h.box k x hk
  · have := congrArg List.length hks
    rw [List.length_map, List.length_append, List.length_map, List.length_singleton] at this
    omega
/-- A list at a place. -/
theorem at_split {α : Type} : ∀ {l : List α} {p : Nat} (h : p < l.length), ∃ A B, l = A ++ l[p] :: B ∧ A.length = p := fun {l p} h => ⟨l.take p, l.drop (p + 1), by rw [List.getElem_cons_drop, List.take_append_drop], by rw [List.length_take]; omega⟩
theorem RelW.mov {L : Ents} {l : List En} (h : RelW L l) {i a b c d : Int} (he : movE L i a b c d = 0) : RelW (memPut L i [a, b, c, d]) (l.set (plcN l i) (i, a, b, c, d)) := by
  unfold Ax.movE at he
  have h1 : ¬ (i < 0 ∨ 2147483647 < i) := fun h1 => by rw [if_pos h1] at he; cases he
  rw [if_neg h1] at he
  have h2 : ¬ checkBoxS a b c d ≠ 0 := fun h2 => by rw [if_pos h2] at he; exact h2 he
  rw [if_neg h2] at he
  have h3 : (memSel L i).isSome = true := Classical.byContradiction fun h3 => by rw [if_neg h3] at he; cases he
  have hi : i ∈ L.map (·.1) := sel_some_mem.1 h3
  have hcb : checkBoxS a b c d = 0 := by simpa using h2
  have hks : (memPut L i [a, b, c, d]).map (·.1) = L.map (·.1) := by rw [keys_put, if_pos hi]
  have hp := h.plc.2 h3
  obtain ⟨y1, _⟩ := plc_yes hp
  obtain ⟨A, B, hAB, hA⟩ := at_split hp
  have y1 : (l[plcN l i]).1 = i := by rw [List.getD_eq_getElem?_getD, List.getElem?_eq_getElem hp] at y1; exact y1
  generalize l[plcN l i] = x at hAB y1
  rw [← hA]
  clear hA hp
  have hs := h.srt
  have hmm := h.mem
  rw [hAB] at hs hmm ⊢
  clear hAB
  obtain ⟨s1, s2, s3⟩ := List.pairwise_append.1 hs
  obtain ⟨s4, s5⟩ := List.pairwise_cons.1 s2
  have eS : (A ++ x :: B).set A.length (i, a, b, c, d) = A ++ (i, a, b, c, d) :: B := by
    rw [List.set_append_right _ _ (Nat.le_refl _), Nat.sub_self]; rfl
  rw [eS]
  clear eS
  refine ⟨?_, ?_, fun k z => ?_, fun k z hk => ?_, ?_⟩
  · unfold keysN; rw [hks]; exact h.nod
  · refine List.pairwise_append.2 ⟨s1, List.pairwise_cons.2 ⟨fun e he2 => by have := s4 e he2; rw [y1] at this; exact this, s5⟩, fun u hu v hv => ?_⟩
    rcases List.mem_cons.1 hv with rfl | hv
    · have := s3 u hu x (by simp); rw [y1] at this; exact this
    · exact s3 u hu v (by simp [hv])
  · have hAx : ∀ y ∈ A, y.1 ≠ i := fun y hy => by have := s3 y hy x (by simp); omega
    have hBx : ∀ y ∈ B, y.1 ≠ i := fun y hy => by have := s4 y hy; omega
    rw [sel_put]
    by_cases e : i = k
    · rw [if_pos e]
      constructor
      · intro hx
        cases hx
        exact ⟨(i, a, b, c, d), by simp, e, rfl⟩
      · rintro ⟨y, hy, h5, rfl⟩
        rcases List.mem_append.1 hy with hy | hy
        · exact absurd (h5.trans e.symm) (hAx y hy)
        · rcases List.mem_cons.1 hy with rfl | hy
          · rfl
          · exact absurd (h5.trans e.symm) (hBx y hy)
    · rw [if_neg e, hmm]
      constructor
      · rintro ⟨y, hy, h5, h6⟩
        rcases List.mem_append.1 hy with hy | hy
        · exact ⟨y, by simp [hy], h5, h6⟩
        · rcases List.mem_cons.1 hy with rfl | hy
          · exact absurd (y1.symm.trans h5) e
          · exact ⟨y, by simp [hy], h5, h6⟩
      · rintro ⟨y, hy, h5, h6⟩
        rcases List.mem_append.1 hy with hy | hy
        · exact ⟨y, by simp [hy], h5, h6⟩
        · rcases List.mem_cons.1 hy with rfl | hy
          · exact absurd h5 e
          · exact ⟨y, by simp [hy], h5, h6⟩
  · rw [sel_put] at hk
    by_cases e : i = k
    · rw [if_pos e] at hk; cases hk; exact ⟨_, _, _, _, rfl, hcb⟩
    · rw [if_neg e] at hk; exact h.box k z hk
  · have := congrArg List.length hks
    rw [List.length_map, List.length_map] at this
    have := h.len
    omega
theorem RelW.drp {L : Ents} {l : List En} (h : RelW L l) {i : Int} (he : drpE L i = 0) : RelW (memDel L i) (l.eraseIdx (plcN l i)) := by
  unfold Ax.drpE at he
  have h1 : ¬ (i < 0 ∨ 2147483647 < i) := fun h1 => by rw [if_pos h1] at he; cases he
  rw [if_neg h1] at he
  have h3 : (memSel L i).isSome = true := Classical.byContradiction fun h3 => by rw [if_neg h3] at he; cases he
  have hks : (memDel L i).map (·.1) = (L.map (·.1)).erase i := keys_del
  have hp := h.plc.2 h3
  obtain ⟨y1, _⟩ := plc_yes hp
  obtain ⟨A, B, hAB, hA⟩ := at_split hp
  have y1 : (l[plcN l i]).1 = i := by rw [List.getD_eq_getElem?_getD, List.getElem?_eq_getElem hp] at y1; exact y1
  generalize l[plcN l i] = x at hAB y1
  rw [← hA]
  clear hA hp
  have hs := h.srt
  have hmm := h.mem
  rw [hAB] at hs hmm ⊢
  clear hAB
  obtain ⟨s1, s2, s3⟩ := List.pairwise_append.1 hs
  obtain ⟨s4, s5⟩ := List.pairwise_cons.1 s2
  rw [erase_mid]
  refine ⟨?_, ?_, fun k z => ?_, fun k z hk => ?_, ?_⟩
  · unfold keysN; rw [hks]; exact h.nod.erase _
  · exact List.pairwise_append.2 ⟨s1, s5, fun u hu v hv => s3 u hu v (by simp [hv])⟩
  · have hAx : ∀ y ∈ A, y.1 ≠ i := fun y hy => by have := s3 y hy x (by simp); omega
    have hBx : ∀ y ∈ B, y.1 ≠ i := fun y hy => by have := s4 y hy; omega
    rw [sel_del h.nod]
    by_cases e : i = k
    · rw [if_pos e]
      constructor
      · intro hx; cases hx
      · rintro ⟨y, hy, h5, rfl⟩
        rcases List.mem_append.1 hy with hy | hy
        · exact absurd (h5.trans e.symm) (hAx y hy)
        · exact absurd (h5.trans e.symm) (hBx y hy)
    · rw [if_neg e, hmm]
      constructor
      · rintro ⟨y, hy, h5, h6⟩
        rcases List.mem_append.1 hy with hy | hy
        · exact ⟨y, by simp [hy], h5, h6⟩
        · rcases List.mem_cons.1 hy with rfl | hy
          · exact absurd (y1.symm.trans h5) e
          · exact ⟨y, by simp [hy], h5, h6⟩
      · rintro ⟨y, hy, h5, h6⟩
        rcases List.mem_append.1 hy with hy | hy
        · exact ⟨y, by simp [hy], h5, h6⟩
        · exact ⟨y, by simp [hy], h5, h6⟩
  · rw [sel_del h.nod] at hk
    by_cases e : i = k
    · rw [if_pos e] at hk; cases hk
    · rw [if_neg e] at hk; exact h.box k z hk
  · have := congrArg List.length hks
    have h4 := List.length_erase_le (a := i) (l := L.map (·.1))
    rw [List.length_map] at this h4
    have := h.len
    omega
theorem RelW.nil : RelW [] [] := ⟨by unfold keysN; simp, .nil, fun k x => by simp [memSel], fun k x h => by simp [memSel] at h, by simp⟩
theorem RelW.enIn {L : Ents} {l : List En} (h : RelW L l) : enIn l := fun i => by
  by_cases hi : i < l.length
  · have e : l.getD i e0 = l[i] := by rw [List.getD_eq_getElem?_getD, List.getElem?_eq_getElem hi]; rfl
    rw [e]
    have hm := (h.mem _ _).2 ⟨l[i], List.getElem_mem hi, rfl, rfl⟩
    have hb := h.box _ _ hm
    have k0 := okBx_in hb 0
    have k1 := okBx_in hb 1
    have k2 := okBx_in hb 2
    have k3 := okBx_in hb 3
    exact ⟨k0, k1, k2, k3⟩
  · have e : l.getD i e0 = e0 := by rw [List.getD_eq_getElem?_getD, List.getElem?_eq_none (by omega)]; rfl
    rw [e]
    unfold inR e0
    dsimp only
    omega
theorem RelW.selIn {L : Ents} {l : List En} (h : RelW L l) : selIn L := selIn_of h.box
theorem RelW.mt {L : Ents} {l : List En} (h : RelW L l) {i k : Nat} (hi : i < l.length) (hk : k < l.length) : mtE l i k = mtK L (l.getD i e0).1 (l.getD k e0).1 := by
  have q : ∀ j, j < l.length → memSel L (l.getD j e0).1 = some (vlE (l.getD j e0)) := fun j hj => by
    have e : l.getD j e0 = l[j] := by rw [List.getD_eq_getElem?_getD, List.getElem?_eq_getElem hj]; rfl
    rw [e]
    exact (h.mem _ _).2 ⟨l[j], List.getElem_mem hj, rfl, rfl⟩
  unfold mtE mtK
  rw [q i hi, q k hk]
  rfl
theorem RelW.pairs {L : Ents} {l : List En} (h : RelW L l) : pairsL L = wOut (mtE l) (idE l) l.length l.length := by
  have hk := h.srtK
  have ho : ∀ j, j < l.length → (l.map (·.1)).getD j 0 = (l.getD j e0).1 := fun j hj => by
    rw [List.getD_eq_getElem?_getD, List.getD_eq_getElem?_getD, List.getElem?_map, List.getElem?_eq_getElem hj]; rfl
  have h1 := wOut_bru (L := L) (o := l.map (·.1)) (M := mtE l) fun i k hik hkl => by
    rw [List.length_map] at hkl
    rw [ho i (by omega), ho k hkl]
    exact h.mt (by omega) hkl
  rw [pairs_eq h.nod, hk, ← h1, List.length_map]
  have hX : ∀ i, i ≤ l.length → wOut (mtE l) (fun k => (l.map (·.1)).getD k 0) l.length i = wOut (mtE l) (idE l) l.length i := fun i => by
    induction i with
    | zero => intro _; rfl
    | succ i ih =>
      intro hi
      rw [wOut, wOut, ih (by omega)]
      congr 1
      have : ∀ j, i + 1 + j ≤ l.length → wIn (mtE l) (fun k => (l.map (·.1)).getD k 0) i j = wIn (mtE l) (idE l) i j := fun j => by
        induction j with
        | zero => intro _; rfl
        | succ j ihj =>
          intro hj
          rw [wIn, wIn, ihj (by omega)]
          rw [ho i (by omega), ho (i + 1 + j) (by omega)]
          rfl
      exact this _ (by omega)
  exact hX _ (Nat.le_refl _)
theorem RelW.seen {L : Ents} {l : List En} (h : RelW L l) (p : Int → Int → Int → Int → Bool) : seenL L p = seeL p l := by
  unfold seenL seeL
  rw [h.srtK, List.filter_map]
  congr 1
  refine List.filter_congr fun e he => ?_
  have := (h.mem _ _).2 ⟨e, he, rfl, rfl⟩
  simp only [Function.comp]
  rw [this]
  rfl
end Go.Ax
end

section
/-
  A sweep and the reference's: an act's doing.
-/
set_option linter.unusedVariables false
set_option linter.unusedSimpArgs false
set_option maxHeartbeats 4000000
set_option maxRecDepth 100000
namespace Go.Ax
open Go.Proofs
attribute [go_sem] mcQ_eq mcQe_S mcQg_E mcQh_some QU.ok QU.sets QU.nw
def dnS (s : SwS) (m i a b c d : Int) : SwS := if m = 0 then putW s i a b c d else if m = 1 then movW s i a b c d else if m = 2 then drpW s i else s
def dnU (L : Ents) (l : List En) (m i a b c d : Int) : QU := if m = 0 then (if putE L i a b c d = 0 then .new (insL l (i, a, b, c, d)) else .keep) else if m = 1 then (if movE L i a b c d = 0 then .set (l.set (plcN l i) (i, a, b, c, d)) else .keep) else if m = 2 then (if drpE L i = 0 then .new (l.eraseIdx (plcN l i)) else .keep) else .keep
def F32 : WF := fun s l rest => match rest with
  | [.agg [.v (.int .i64 k), .v (.int .i64 i), .v (.int .i64 a), .v (.int .i64 b), .v (.int .i64 c), .v (.int .i64 d)]] => some ([RelW s.L l, inR k, inR i, inR a, inR b, inR c, inR d], bo true, dnS s (modS k 4) i a b c d, dnU s.L l (modS k 4) i a b c d)
  | _ => none
noncomputable def m32 : MCon := mcW F32
theorem mon32 : MConOK Tryz.prog 32 m32 := MConOK.mcW (G := [(16, c16), (19, .wr m19), (81, .wr m81), (17, .wr m17), (82, .wr m82), (18, .wr m18), (83, .wr m83)]) (H := [(3, ⟨[(5, .calls 0), (11, .call)], [(8, [.slot 0]), (10, [.slot 0])]⟩), (5, ⟨[(5, .calls 0), (11, .call)], [(8, [.slot 0]), (10, [.slot 0])]⟩), (7, ⟨[(3, .calls 0), (7, .call)], [(6, [.slot 0])]⟩)]) (.cons con16 (.mcons mon19 (.mcons mon81 (.mcons mon17 (.mcons mon82 (.mcons mon18 (.mcons mon83 .nil))))))) Tryz.func32 fun s l rest ob v s' u hF ht ht' hu hob => by
  unfold F32 at hF
  split at hF
  · rename_i k i a b c d
    cases hF
    have hr : RelW s.L l := hob _ (by simp)
    have hk : inR k := hob _ (by simp)
    have hi : inR i := hob _ (by simp)
    have ha : inR a := hob _ (by simp)
    have hb : inR b := hob _ (by simp)
    have hc : inR c := hob _ (by simp)
    have hd : inR d := hob _ (by simp)
    have hl : l.length ≤ 256 := by have := hr.llen; have := hr.len; omega
    clear hob hu
    refine ⟨rfl, by simp [clean, cleanCs, cleanC], by kernel_rfl, bodyM_go (rs := [.tmp 6]) rfl rfl ?_⟩
    have i4 : inR 4 := by unfold inR; omega
    have e00 : ((0 : Int) == 0) = true := by decide
    have e10 : ((1 : Int) == 0) = false := by decide
    have e11 : ((1 : Int) == 1) = true := by decide
    have e20 : ((2 : Int) == 0) = false := by decide
    have e21 : ((2 : Int) == 1) = false := by decide
    have e22 : ((2 : Int) == 2) = true := by decide
    have hpe := hr.put_eq (i := i) (a := a) (b := b) (c := c) (d := d)
    have hme := hr.mov_eq (i := i) (a := a) (b := b) (c := c) (d := d)
    have hde := hr.drp_eq (i := i)
    have hs : s = ⟨s.L, s.tl⟩ := rfl
    generalize s.L = L at *
    generalize s.tl = tl at *
    subst hs
    have f0 : ∀ e : Int, e ≠ 0 → (if e = 0 then (⟨memPut L i [a, b, c, d], tl⟩ : SwS) else ⟨L, tl⟩) = ⟨L, tl⟩ := fun e he => if_neg he
    by_cases h0 : modS k 4 = 0
    · unfold dnS dnU
      simp only [h0, if_pos rfl]
      by_cases he : putE L i a b c d = 0
      · have hp : putW ⟨L, tl⟩ i a b c d = ⟨memPut L i [a, b, c, d], tl⟩ := by unfold putW; dsimp only; rw [he]; rfl
        simp only [go_sem, c16, m19, m81, F19, F81, swF_eq, hk, i4, h0, e00, e10, e11, ha, hb, hc, hd, hl, hpe, he, hp, ht, ↓forall_eq]
        exact ⟨⟨by decide, 21, by decide, rfl, _, rfl, fun _ _ => rfl⟩, fun h => (by cases h)⟩
      · have hp : putW ⟨L, tl⟩ i a b c d = ⟨L, tl⟩ := by unfold putW; dsimp only; rw [if_neg he]
        simp only [go_sem, c16, m19, m81, F19, F81, swF_eq, hk, i4, h0, e00, e10, e11, ha, hb, hc, hd, hl, hpe, he, hp, ht, ↓forall_eq]
        exact ⟨⟨by decide, beq_self_eq_true _, rfl, rfl⟩, fun h => (by cases h)⟩
    by_cases h1 : modS k 4 = 1
    · unfold dnS dnU
      have h01 : ¬ (1 : Int) = 0 := by decide
      simp only [h1, if_pos rfl, if_neg h01]
      by_cases he : movE L i a b c d = 0
      · have hp : movW ⟨L, tl⟩ i a b c d = ⟨memPut L i [a, b, c, d], tl⟩ := by unfold movW; dsimp only; rw [he]; rfl
        have hsl : (l.set (plcN l i) (i, a, b, c, d)).length = l.length := List.length_set
        simp only [go_sem, c16, m17, m82, F17, F82, swF_eq, hk, i4, h1, e00, e10, e11, ha, hb, hc, hd, hl, hme, he, hp, ht, hsl, ↓forall_eq]
        exact ⟨⟨by decide, rfl, _, rfl, fun _ _ => rfl⟩, fun h => (by cases h)⟩
      · have hp : movW ⟨L, tl⟩ i a b c d = ⟨L, tl⟩ := by unfold movW; dsimp only; rw [if_neg he]
        simp only [go_sem, c16, m17, m82, F17, F82, swF_eq, hk, i4, h1, e00, e10, e11, ha, hb, hc, hd, hl, hme, he, hp, ht, ↓forall_eq]
        exact ⟨⟨by decide, beq_self_eq_true _, rfl, rfl⟩, fun h => (by cases h)⟩
    by_cases h2 : modS k 4 = 2
    · unfold dnS dnU
      have h02 : ¬ (2 : Int) = 0 := by decide
      have h12 : ¬ (2 : Int) = 1 := by decide
      simp only [h2, if_pos rfl, if_neg h02, if_neg h12]
      by_cases he : drpE L i = 0
      · have hp : drpW ⟨L, tl⟩ i = ⟨memDel L i, tl⟩ := by unfold drpW; dsimp only; rw [he]; rfl
        simp only [go_sem, c16, m18, m83, F18, F83, swF_eq, hk, i4, h2, e20, e21, e22, hl, hde, he, hp, ht, ↓forall_eq]
        exact ⟨⟨by decide, by decide, 21, by decide, rfl, _, rfl, fun _ _ => rfl⟩, fun h => (by cases h)⟩
      · have hp : drpW ⟨L, tl⟩ i = ⟨L, tl⟩ := by unfold drpW; dsimp only; rw [if_neg he]
        simp only [go_sem, c16, m18, m83, F18, F83, swF_eq, hk, i4, h2, e20, e21, e22, hl, hde, he, hp, ht, ↓forall_eq]
        exact ⟨⟨by decide, beq_self_eq_true _, rfl, rfl⟩, fun h => (by cases h)⟩
    · unfold dnS dnU
      simp only [h0, h1, h2, if_neg]
      have b0 : (modS k 4 == 0) = false := beq_eq_false_iff_ne.2 h0
      have b1 : (modS k 4 == 1) = false := beq_eq_false_iff_ne.2 h1
      have b2 : (modS k 4 == 2) = false := beq_eq_false_iff_ne.2 h2
      simp only [go_sem, c16, swF_eq, hk, i4, b0, b1, b2, ↓forall_eq]
      exact ⟨rfl, rfl⟩
  · cases hF
end Go.Ax
end

section
/-
  A sweep and the reference's: that they answer alike.
-/
set_option linter.unusedVariables false
set_option linter.unusedSimpArgs false
set_option maxHeartbeats 4000000
set_option maxRecDepth 100000
namespace Go.Ax
open Go.Proofs
def c33f (L : Ents) (i : Int) : Option (List Prop × List En) → Option (List Prop × AV)
  | some (ob, l) => some (RelW L l :: ob, bo true)
  | none => none
def c33 : Con
  | [.rop [.rm 4 L], .rop [.v (.bool true), S], .v (.int .i64 i)] => c33f L i (roE S)
  | _ => none
theorem c33_eq {L : Ents} {S : AV} {i : Int} : c33 [.rop [.rm 4 L], .rop [bo true, S], i64 i] = c33f L i (roE S) := (rfl)
theorem c33f_some {L : Ents} {i : Int} {ob : List Prop} {l : List En} : c33f L i (some (ob, l)) = some (RelW L l :: ob, bo true) := (rfl)
section
variable {P : Program} {G : Ctx} {H : Hots} {K0 : AEx → St → Prop} {st : List Fr} {hot : Option Hot} {ops : Array Oper} {rest : List Oper} {i n sz : Nat} {t : Slots} {m : Mem} {nx : Nat} {d : Option Tmp} {o : List Prop} {u : Upd} {c : Bool}
theorem bindC_cbro {f : Nat → List AV} : bindC P G H K0 hot ops d rest i st t m nx o u (condV c (bnd (.ro n sz f))) = bindC P G H K0 hot ops d rest i st t m nx o u (condV c (.ro n sz f)) := (rfl)
theorem bindC_cbrop {l : List AV} : bindC P G H K0 hot ops d rest i st t m nx o u (condV c (bnd (.rop l))) = bindC P G H K0 hot ops d rest i st t m nx o u (condV c (.rop l)) := (rfl)
end
attribute [go_sem] bindC_cbro bindC_cbrop
def F84nf : Option (List Prop × List En) → Option (List Prop × (Nat → AV) × (Nat → Option Fam))
  | some (ob, l) => some ((l.length ≤ 1000) :: ob, fun k => .own k 0 l.length 1, fun k => some (famN l.length 1 3 (fun j => [i64 ((l.map (·.1)).getD j 0)]) none))
  | none => none
def F84n : List AV → Option (List Prop × (Nat → AV) × (Nat → Option Fam))
  | [.rop [.v (.bool true), S]] => F84nf (roE S)
  | _ => none
noncomputable def mN84 : MCon := mcKU F84n
theorem mN84_eq : mN84 = mcKU F84n := (rfl)
theorem F84n_eq {S : AV} : F84n [.rop [bo true, S]] = F84nf (roE S) := (rfl)
theorem F84nf_some {ob : List Prop} {l : List En} : F84nf (some (ob, l)) = some ((l.length ≤ 1000) :: ob, fun k => .own k 0 l.length 1, fun k => some (famN l.length 1 3 (fun j => [i64 ((l.map (·.1)).getD j 0)]) none)) := (rfl)
attribute [go_sem] mN84_eq F84n_eq F84nf_some
theorem mon84 : MConOK Tryz.prog 84 mN84 := MConOK.mkU (G := [(80, k80)]) (H := []) (.cons con80 .nil) Tryz.func84 fun es ob v nw hF hob => by
  unfold F84n at hF
  split at hF
  · rename_i S
    unfold F84nf at hF
    split at hF
    · rename_i ob1 l hS
      cases hF
      have hl : l.length ≤ 1000 := hob _ (by simp)
      refine ⟨[qR l], fun w I vs hR => ?_, by simp [clean], by kernel_rfl, fun key => bodyM_go (rs := [.tmp 2]) rfl rfl ?_⟩
      · obtain ⟨y, ys, rfl, k1, k2⟩ := hR.inv
        exact .cons (R_qR hS (fun p hp => hob p (by simp [hp])) k1) k2
      simp only [go_sem, k80, F80, enF_eq]
      rintro z rfl
      refine ⟨fun h => (by cases h), fun _ => ?_⟩
      refine loopN_go (fun (i : Nat) => i ≤ l.length) (fun i => l.length - i) (fun i => [(4, i64 i), (3, .own 6 0 i 1)]) (fun i => [(6, famN i 1 3 (fun j => [i64 (l.getD j e0).1]) none)]) [] [8, 9, 10, 11, 12, 13, 14, 17, 18, 19, 20, 21, 22, 23, 24, 25, 26, 27, 3, 15, 16, 4] 1 0 (by kernel_rfl) (Nat.zero_le _) ⟨[(6, none)], ?_, ?_, ?_, ?_⟩ ?_
      · simp only [go_sem, Int.cast_ofNat_Int]
      · simp only [go_sem]
      · simp only [go_sem]
      · simp [goodNames, asg]
      intro i hi
      simp only [go_sem, k80, enF_eq]
      have hb : bytesT Tryz.prog 3 = 8 := by kernel_rfl
      refine ⟨fun hlt => ⟨by omega, hlt, by rw [hb]; omega, by omega, fun z hz => ⟨i + 1, by omega, by omega, [(6, some 24)], ⟨by rw [hz, wrap_in (by unfold inR; omega)]; omega, ?_⟩, ?_, by simp [goodNames, asg]⟩⟩, fun hge => ?_⟩
      · simp [fit1, asg]
      · simp only [go_sem]
        intro q hq
        by_cases e : q < i
        · rw [if_pos e]; exact fitL_clean rfl
        · rw [if_neg e]
          have : q = i := by omega
          subst this
          simp only [Nat.sub_self, Nat.zero_mul, List.drop_zero]
          exact fitL_clean rfl
      · have e : i = l.length := by omega
        subst e
        exact newN (by simp [look]; rfl) (Nat.zero_le _) fun j hj => ⟨by simp [List.getD_eq_getElem?_getD, hj], fun c hc => by
          simp only [List.mem_cons, List.not_mem_nil, or_false] at hc
          subst hc; rfl⟩
    · cases hF
  · cases hF
theorem ne4 {xo yo : Operand} {r s : Bool} : eqE Tryz.prog true 4 xo yo (.v (.bool r)) (.v (.bool s)) = some ⟨[], .v (.bool (!(r == s))), .none⟩ := neE_bool (by kernel_rfl)
theorem con33 : ConOK Tryz.prog 33 c33 := ConOK.goR (G := [(84, .wr mN84), (59, .wr mN59), (49, c49), (23, c23), (21, .wr mN21), (85, k85), (20, c20), (22, c22), (86, k86)]) (H := []) (.mcons mon84 (.mcons mon59 (.cons con49 (.cons con23 (.mcons mon21 (.cons con85 (.cons con20 (.cons con22 (.cons con86 .nil))))))))) Tryz.func33 fun es ob rr hc hob => by
  unfold c33 at hc
  split at hc
  · rename_i L S i
    unfold c33f at hc
    split at hc
    · rename_i ob1 l hS
      cases hc
      have hr : RelW L l := hob _ (by simp)
      refine ⟨[.rop [.rm 4 L], qR l, i64 i], fun w I vs hR => ?_, by kernel_rfl, fnVC_go (rs := [.tmp 6]) rfl rfl ?_⟩
      · obtain ⟨y, ys, rfl, k1, k2⟩ := hR.inv
        obtain ⟨y2, ys2, rfl, k3, k4⟩ := k2.inv
        exact .cons k1 (.cons (R_qR hS (fun p hp => hob p (by simp [hp])) k3) k4)
      have hn := hr.len
      have hn2 := hr.llen
      have hl : l.length ≤ 256 := by omega
      have hl2 : l.length ≤ 1000 := by omega
      have hL2 : L.length ≤ 1000 := by omega
      have hin := hr.enIn
      have hsel := hr.selIn
      have hsK := hr.srtK
      have hp := hr.pairs
      have hpl := pairs_len (L := L)
      have hX : ((lX (List.length L) fun i => (srtK L).getD i 0) = lX l.length fun i => (List.map (fun x : En => x.fst) l).getD i 0) = True := eq_true (by rw [hsK, hn2])
      have hN : (((L.length : Nat) : Int) != ((l.length : Nat) : Int)) = false := by rw [hn2]; simp
      have hP : (lP (pairsL L).length (gxP fun i => lsF (pairsL L) i) = lP (wOut (mtE l) (idE l) l.length l.length).length (gxP (lsF (wOut (mtE l) (idE l) l.length l.length)))) = True := eq_true (by rw [← hp])
      simp only [go_sem, c49, c23, k85, c20, c22, k86, hP, ↓forall_eq, hX, hN, lsA, decide_true, Bool.not_true, Bool.not_false, Bool.or_false, Bool.false_or, F85, F86, F59, F21, mN21_eq, hl, hl2, hL2, hn, hin, hsel]
      have hby : bytesT Tryz.prog 3 = 8 := by kernel_rfl
      refine ⟨by omega, ⟨?_, fun _ _ => trivial, fun _ _ => trivial, by rw [hby]; omega, by omega, ?_⟩, fun h => (by cases h)⟩
      · have : L.length * L.length ≤ 256 * 256 := Nat.mul_le_mul hn hn
        omega
      refine loopN_go (fun (j : Nat) => j ≤ l.length + 1) (fun j => l.length + 1 - j) (fun j => [(8, i64 j)]) (fun j => []) [27] [39, 40, 41, 42, 46, 47, 48, 49, 50, 51, 45, 52, 53, 9, 10, 55, 56, 57, 58, 59, 60, 54, 61, 62, 11, 12, 63, 64, 65, 66, 67, 68, 69, 70, 6, 43, 44, 8] 0 0 (by kernel_rfl) (Nat.zero_le _) ⟨[], ?_, ?_, ?_, ?_⟩ ?_
      · simp only [go_sem, Int.cast_ofNat_Int]
      · simp only [go_sem]
      · simp only [go_sem]
      · simp [goodNames, asg]
      intro j hj
      have hse := fun k => hr.sel k
      by_cases h : j < l.length + 1
      · have e := push1 (l := l.map (·.1)) (a := i) (q := j) (by rw [List.length_map]; exact h)
        rw [List.length_map] at e
        simp only [go_sem, c49, c23, k85, c20, c22, k86, F86, hl2, hse, e, eq32, ne4, negV, ↓forall_eq, beq_self_eq_true, bne_self_eq_false, Bool.and_self, Bool.not_true, Bool.not_false, Bool.or_false, Bool.false_or]
        exact ⟨fun _ => ⟨by omega, by omega, h, by omega, by omega, h, j + 1, by omega, by omega, [], by rw [wrap_in (by unfold inR; omega)]; omega, by simp [goodNames, asg]⟩, fun _ => alk_refl⟩
      · have ej : j = l.length + 1 := by omega
        subst ej
        simp only [go_sem]
        exact ⟨fun h => by omega, fun _ => alk_refl⟩
    · cases hc
  · cases hc
end Go.Ax
end

section
/-
  The reference's table of slots, ars an object; what makes and writes it.
-/
set_option linter.unusedVariables false
set_option linter.unusedSimpArgs false
set_option maxHeartbeats 4000000
set_option maxRecDepth 100000
namespace Go.Ax
open Go.Proofs
structure RtS where
  n : Nat
  G : Nat → Int
  T : Nat → Bool
  tl : Fam
def rtF (K : Nat) (s : RtS) : Fam := famR [⟨1, 2, 125, fun _ => [.own K 1 s.n 1, .own K 2 s.n 1], none⟩, ⟨s.n, 1, 3, fun i => [i64 (s.G i)], none⟩, ⟨s.n, 1, 4, fun i => [bo (s.T i)], none⟩] s.tl
theorem rtF_inj {K : Nat} {s t : RtS} (h : rtF K s = rtF K t) : s = t := by
  obtain ⟨n, G, T, tl⟩ := s
  obtain ⟨n', G', T', tl'⟩ := t
  have h1 := congrFun h 1
  have h2 := congrFun h 2
  simp only [rtF, famR_1, famR_2, Row.mk.injEq, true_and, and_true] at h1 h2
  obtain ⟨rfl, h1⟩ := h1
  have e1 : G = G' := by
    funext i
    have := congrFun h1 i
    simpa using this
  have e2 : T = T' := by
    funext i
    have := congrFun h2.2 i
    simpa using this
  have e3 : tl = tl' := by
    funext f
    exact congrFun h (f + 3)
  rw [e1, e2, e3]
theorem rtF_ren {s : RtS} (h : tlOK s.tl) {θ : Nat → Nat → Nat × Nat} {g : Nat → Nat → Prop} {B : Nat → Prop} {i K : Nat} (hθ : ∀ f, θ i f = (K, f)) (hg : ∀ f, g i f) (f : Nat) : rowRen θ g B (rtF i s f) (rtF K s f) := by
  match f with
  | 0 =>
    refine ⟨rfl, rfl, rfl, rfl, fun j hj => ⟨?_, fun c hc => ?_⟩⟩
    · show [AV.own K 1 s.n 1, AV.own K 2 s.n 1] = [AV.own (θ i 1).1 (θ i 1).2 s.n 1, AV.own (θ i 2).1 (θ i 2).2 s.n 1]
      rw [hθ, hθ]
    · have hc : c ∈ [AV.own i 1 s.n 1, AV.own i 2 s.n 1] := hc
      simp only [List.mem_cons, List.not_mem_nil, or_false] at hc
      rcases hc with rfl | rfl
      · exact hg 1
      · exact hg 2
  | 1 =>
    refine ⟨rfl, rfl, rfl, rfl, fun j hj => ⟨rfl, fun c hc => ?_⟩⟩
    have hc : c ∈ [i64 (s.G j)] := hc
    simp only [List.mem_cons, List.not_mem_nil, or_false] at hc
    subst hc
    trivial
  | 2 =>
    refine ⟨rfl, rfl, rfl, rfl, fun j hj => ⟨rfl, fun c hc => ?_⟩⟩
    have hc : c ∈ [bo (s.T j)] := hc
    simp only [List.mem_cons, List.not_mem_nil, or_false] at hc
    subst hc
    trivial
  | f + 3 => exact rowRen_tl h f
def oR : Obj RtS where
  fm := rtF
  ok s := tlOK s.tl
  inj _ _ _ h := rtF_inj h
  ren _ h _ _ _ _ _ h1 h2 f := rtF_ren h h1 h2 f
  gn K s h f := match f with
    | 0 => rfl
    | 1 => rfl
    | 2 => rfl
    | f + 3 => (h f).1
theorem mcOe_R {F : OFun RtS} {K key : Nat} {rest : List AV} {n : Nat} {X : Nat → Int} {T : Nat → Bool} {tl : Fam} : mcOe oR F K key rest (some (famR [⟨1, 2, 125, fun _ => [.own K 1 n 1, .own K 2 n 1], none⟩, ⟨n, 1, 3, fun i => [i64 (X i)], none⟩, ⟨n, 1, 4, fun i => [bo (T i)], none⟩] tl)) = mcOf oR K key ⟨n, X, T, tl⟩ (F ⟨n, X, T, tl⟩ rest) := mcOe_fm (O := oR) (x := ⟨n, X, T, tl⟩)
theorem fam_R {K : Nat} {s : RtS} : oR.fam K (some s) = famR [⟨1, 2, 125, fun _ => [.own K 1 s.n 1, .own K 2 s.n 1], none⟩, ⟨s.n, 1, 3, fun i => [i64 (s.G i)], none⟩, ⟨s.n, 1, 4, fun i => [bo (s.T i)], none⟩] s.tl := (rfl)
theorem ok_R {s : RtS} : oR.ok s = tlOK s.tl := (rfl)
theorem okO_R {s : RtS} : oR.okO (some s) = tlOK s.tl := (rfl)
attribute [go_sem] mcOe_R fam_R ok_R okO_R
/-- May the slot be taken? -/
def mayR (T : Nat → Bool) (X : Nat → Int) (i : Nat) : Bool := !T i && decide (X i < 2147483647)
def upB (T : Nat → Bool) (i : Nat) (v : Bool) : Nat → Bool := fun j => if j = i then v else T j
def tkJ (s : RtS) : Nat := lst (mayR s.T s.G) s.n
def rkH (s : RtS) : Int × Int := if tkJ s < s.n then ((tkJ s : Int), s.G (tkJ s) + 1) else (0, 0)
def rkE (s : RtS) : Int := if tkJ s < s.n then 0 else 10
def rkS (s : RtS) : RtS := if tkJ s < s.n then ⟨s.n, upI s.G (tkJ s) (s.G (tkJ s) + 1), upB s.T (tkJ s) true, s.tl⟩ else s
def rtOK (s : RtS) : Prop := (0 < s.n ∧ s.n ≤ 64) ∧ ∀ i, i < s.n → 0 ≤ s.G i
def F100 : OFun RtS := fun s rest => match rest with
  | [] => some ([rtOK s], fun _ => .tup [haA (rkH s).1 (rkH s).2, i64 (rkE s)], some (rkS s), fun _ => none)
  | _ => none
noncomputable def m100 : MCon := mcO oR F100
def rsI (s : RtS) (a g : Int) : Bool := rtOk s.n s.T a && (s.G a.toNat == g)
def rrS (s : RtS) (a g : Int) : RtS := if rsI s a g = true then ⟨s.n, s.G, upB s.T a.toNat false, s.tl⟩ else s
def F101 : OFun RtS := fun s rest => match rest with
  | [.agg [.v (.int .i64 a), .v (.int .i64 g)]] => some ([rtOK s], fun _ => i64 (if rsI s a g = true then 0 else 9), some (rrS s a g), fun _ => none)
  | _ => none
noncomputable def m101 : MCon := mcO oR F101
noncomputable def F46 : List AV → Option (List Prop × (Nat → AV) × (Nat → Option Fam))
  | [.v (.int .i64 n)] => if 1 ≤ n ∧ n ≤ 64 then some ([], fun k => .tup [.bx k 0, i64 0], fun k => some (rtF k ⟨n.toNat, fun _ => 0, fun _ => false, noRows⟩)) else some ([], fun _ => .tup [.v (.pointer none), i64 3], fun _ => none)
  | _ => none
noncomputable def m46 : MCon := mcK F46
theorem famNK_R {key : Nat} {n : Nat} {X : Nat → Int} {T : Nat → Bool} : famNK key (rtF key ⟨n, X, T, noRows⟩) = True := eq_true fun f j hj c hc => by
  match f with
  | 0 =>
    have hc : c ∈ [AV.own key 1 n 1, .own key 2 n 1] := hc
    simp only [List.mem_cons, List.not_mem_nil, or_false] at hc
    rcases hc with rfl | rfl <;> rfl
  | 1 =>
    have hc : c ∈ [i64 (X j)] := hc
    simp only [List.mem_cons, List.not_mem_nil, or_false] at hc
    subst hc; trivial
  | 2 =>
    have hc : c ∈ [bo (T j)] := hc
    simp only [List.mem_cons, List.not_mem_nil, or_false] at hc
    subst hc; trivial
  | f + 3 => have hj : j < 0 := hj; omega
attribute [go_sem] famNK_R
noncomputable def F99 : List AV → Option (List Prop × (Nat → AV) × (Nat → Option Fam))
  | [.rop [.ro n 1 g, .ro m 1 h]] => some ([0 < n, n ≤ 64, m = n, ints n g, bools n h], fun k => .bx k 0, fun k => some (rtF k ⟨n, gx g 0, fun i => gz (h i), noRows⟩))
  | _ => none
noncomputable def mN99 : MCon := mcKU F99
theorem mN99_eq : mN99 = mcKU F99 := (rfl)
attribute [go_sem] mN99_eq
def F53 : List AV → Option (List Prop × (Nat → AV) × (Nat → Option Fam))
  | [.ro n 1 g] => some ([n ≤ 100000, ints n g], fun k => .own k 0 n 1, fun k => some (famN n 1 3 (fun i => [i64 (gx g 0 i)]) none))
  | _ => none
noncomputable def mN53 : MCon := mcKU F53
def F54 : List AV → Option (List Prop × (Nat → AV) × (Nat → Option Fam))
  | [.ro n 1 g] => some ([n ≤ 100000, bools n g], fun k => .own k 0 n 1, fun k => some (famN n 1 4 (fun i => [bo (gz (g i))]) none))
  | _ => none
noncomputable def mN54 : MCon := mcKU F54
end Go.Ax
end
