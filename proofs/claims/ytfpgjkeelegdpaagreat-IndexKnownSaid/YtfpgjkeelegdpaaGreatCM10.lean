/-
  The laws' tables: Copy, Take, Free.
-/
import Derived.Test.YtfpgjkeelegdpaaGreatCM9
section
set_option linter.unusedVariables false
set_option linter.unusedSimpArgs false
set_option maxHeartbeats 4000000
set_option maxRecDepth 100000
namespace Go.Ax
open Go.Proofs
theorem F42_eq {x : Int} {n : Nat} {g : Nat → List AV} : F42 [.rop [u64 x, .ro n 1 g]] = some ([0 < n, n ≤ 64, ints n g], fun k => .bx k 0, fun k => some (slF k ⟨x, n, gx g 0, noRows⟩)) := (rfl)
theorem c43_eq {a b : AV} : c43 [a, b] = c43f (roP a) (roP b) := (rfl)
theorem c43f_some {o1 o2 : List Prop} {n m : Nat} {X Y : Nat → Int × Int} : c43f (some (o1, n, X)) (some (o2, m, Y)) = some ((n ≤ 100000) :: (o1 ++ o2), bo (decide (lP n X = lP m Y))) := (rfl)
theorem famNK_S' {key : Nat} {x : Int} {n : Nat} {X : Nat → Int} : famNK key (famR [⟨1, 2, 100, fun _ => [u64 x, .own key 1 n 1], none⟩, ⟨n, 1, 3, fun i => [i64 (X i)], none⟩] noRows) = True := famNK_S
theorem famR_n2 {x y z : Row} {l : List Row} {T0 : Fam} : famR [x, y] (famR (z :: l) T0) 2 = z := (rfl)
theorem famR_n3 {x y z u : Row} {l : List Row} {T0 : Fam} : famR [x, y] (famR (z :: u :: l) T0) 3 = u := (rfl)
attribute [go_sem] famR_n2 famR_n3 F42_eq c43_eq c43f_some famNK_S' tlOK_no
theorem tkS_n {s : SlS} : (tkS s).n = s.n := by unfold tkS; split <;> rfl
theorem tkS_t {s : SlS} : (tkS s).tl = s.tl := by unfold tkS; split <;> rfl
theorem frS_n {s : SlS} {a g : Int} : (frS s a g).n = s.n := by unfold frS; split <;> rfl
theorem frS_t {s : SlS} {a g : Int} : (frS s a g).tl = s.tl := by unfold frS; split <;> rfl
theorem slOK_tk {s : SlS} (h : slOK s) : slOK (tkS s) := by
  obtain ⟨⟨h0, h1⟩, ⟨h2, h3⟩, h4⟩ := h
  have hle : tkI s ≤ s.n := lst_le s.n
  unfold tkS
  split
  · rename_i hlt
    refine ⟨⟨?_, ?_⟩, ⟨h2, h3⟩, fun i hi => ?_⟩
    · show 0 ≤ setX _ _
      unfold setX; omega
    · show setX _ _ < _
      unfold setX
      have := setN_lt (a := s.x.toNat) (k := tkI s) (by omega) (by omega)
      rw [Int.toNat_natCast]; omega
    · show 0 ≤ upI _ _ _ i
      unfold upI
      have := h4 i hi
      have := h4 _ hlt
      split <;> omega
  · exact ⟨⟨h0, h1⟩, ⟨h2, h3⟩, h4⟩
theorem slOK_fr {s : SlS} {a g : Int} (h : slOK s) : slOK (frS s a g) := by
  obtain ⟨⟨h0, h1⟩, ⟨h2, h3⟩, h4⟩ := h
  unfold frS
  split
  · refine ⟨⟨?_, ?_⟩, ⟨h2, h3⟩, h4⟩
    · show 0 ≤ clrX _ _
      unfold clrX; omega
    · show clrX _ _ < _
      unfold clrX
      have := clrN_lt (a := s.x.toNat) (k := 2 ^ a.toNat) (by omega)
      omega
  · exact ⟨⟨h0, h1⟩, ⟨h2, h3⟩, h4⟩
end Go.Ax
end

section
/-
  The plain law of pairs: what the sweep from the left finds is what each held against each finds.
-/
set_option linter.unusedVariables false
set_option linter.unusedSimpArgs false
set_option maxHeartbeats 4000000
set_option maxRecDepth 100000
namespace Go.Ax
open Go.Proofs
theorem meetsS_comm {a b c d x y z t : Int} : meetsS a b c d x y z t = meetsS x y z t a b c d := by
  unfold meetsS
  apply decide_eq_decide.2
  constructor <;> rintro ⟨h1, h2, h3, h4, h5, h6⟩ <;> exact ⟨h2, h1, h4, h3, h6, h5⟩
theorem mtK_comm {L : Ents} {a b : Int} : mtK L a b = mtK L b a := meetsS_comm
/-- Each with those behind it. -/
def prR (L : Ents) : List Int → List (Int × Int)
  | [] => []
  | a :: t => (t.filter fun b => mtK L a b).map (fun b => (min a b, max a b)) ++ prR L t
theorem prR_perm {L : Ents} {l l' : List Int} (h : l.Perm l') : (prR L l).Perm (prR L l') := by
  induction h with
  | nil => exact .refl _
  | cons a h ih => exact ((h.filter _).map _).append ih
  | swap a b t =>
    simp only [prR, List.filter_cons]
    have hc : mtK L a b = mtK L b a := mtK_comm
    have hm : (min a b, max a b) = (min b a, max b a) := by rw [Int.min_comm, Int.max_comm]
    rw [hc]
    cases mtK L b a
    · simp only [Bool.false_eq_true, if_false]
      exact List.perm_append_comm_assoc _ _ _
    · simp only [if_true, List.map_cons, List.cons_append, hm]
      exact (List.perm_append_comm_assoc _ _ _).cons _
  | trans h1 h2 i1 i2 => exact i1.trans i2
theorem prR_end {L : Ents} {x : Int} : ∀ {p : List Int}, (prR L (p ++ [x])).Perm (prR L p ++ (p.filter fun k => mtK L k x).map fun k => (min x k, max x k))
  | [] => by simp [prR]
  | a :: p => by
    have ih := prR_end (L := L) (x := x) (p := p)
    simp only [List.cons_append, prR, List.filter_append, List.map_append, List.filter_cons, List.filter_nil]
    have hm : (min a x, max a x) = (min x a, max x a) := by rw [Int.min_comm, Int.max_comm]
    cases mtK L a x
    · simp only [Bool.false_eq_true, if_false, List.map_nil, List.append_nil, List.append_assoc]
      exact ih.append_left _
    · simp only [if_true, List.map_cons, List.map_nil, List.append_assoc]
      refine List.Perm.append_left _ ?_
      rw [hm]
      refine (ih.append_left [_]).trans ?_
      show (_ :: (prR L p ++ _)).Perm (prR L p ++ _ :: _)
      exact List.perm_middle.symm
/-- What the sweep has when it has gone through the first ones. -/
theorem pw_end {L : Ents} {p : List Int} {x : Int} : pw L (p ++ [x]) = pwStep L (pw L p) x := by
  unfold pw; rw [List.foldl_append]; rfl
theorem pw_inv {L : Ents} : ∀ (r p : List Int), (p ++ r).Nodup → ((p ++ r).Pairwise fun a b => selAt (memSel L a) 0 ≤ selAt (memSel L b) 0) → (pw L p).1.Perm (prR L p) → (∃ q : Int → Bool, (pw L p).2 = p.filter q ∧ ∀ k ∈ p, q k = false → ∀ id ∈ r, selAt (memSel L k) 2 < selAt (memSel L id) 0) → (pw L (p ++ r)).1.Perm (prR L (p ++ r))
  | [], p, _, _, h, _ => by rw [List.append_nil]; exact h
  | x :: r, p, hn, hs, h, ⟨q, h1, h2⟩ => by
    have e : p ++ x :: r = (p ++ [x]) ++ r := by simp
    rw [e] at hn hs ⊢
    have hx : x ∉ p := fun hx => by
      have := (List.nodup_append.1 (List.nodup_append.1 hn).1).2.2 x hx x (by simp)
      exact this rfl
    refine pw_inv r (p ++ [x]) hn hs ?_ ⟨fun k => k == x || (q k && !decide (selAt (memSel L k) 2 < selAt (memSel L x) 0)), ?_, fun k hk hq id hid => ?_⟩
    · rw [pw_end]
      unfold pwStep
      dsimp only
      refine List.Perm.trans ?_ prR_end.symm
      refine h.append ?_
      rw [h1, List.filter_filter, List.filter_filter]
      refine List.Perm.of_eq (congrArg _ (List.filter_congr fun k hk => ?_))
      show (mtK L k x && !decide (selAt (memSel L k) 2 < selAt (memSel L x) 0) && q k) = mtK L k x
      cases hm : mtK L k x with
      | false => rfl
      | true =>
        have hlt : ¬ selAt (memSel L k) 2 < selAt (memSel L x) 0 := by
          unfold mtK meetsS at hm
          rw [decide_eq_true_iff] at hm
          omega
        cases hq : q k with
        | true => rw [decide_eq_false hlt]; rfl
        | false => exact absurd (h2 k hk hq x (by simp)) hlt
    · rw [pw_end]
      unfold pwStep
      dsimp only
      rw [h1, List.filter_filter, List.filter_append]
      congr 1
      · refine List.filter_congr fun k hk => ?_
        have : (k == x) = false := by
          rw [beq_eq_false_iff_ne]
          rintro rfl
          exact hx hk
        rw [this, Bool.false_or, Bool.and_comm]
      · simp
    · rw [Bool.or_eq_false_iff, beq_eq_false_iff_ne] at hq
      obtain ⟨hkx, hq⟩ := hq
      have hk : k ∈ p := by
        rcases List.mem_append.1 hk with hk | hk
        · exact hk
        · exact absurd (by simpa using hk) hkx
      rw [Bool.and_eq_false_iff] at hq
      rcases hq with hq | hq
      · exact h2 k hk hq id (by simp [hid])
      · have hq : selAt (memSel L k) 2 < selAt (memSel L x) 0 := by simpa using hq
        have := (List.pairwise_append.1 hs).2.2 x (by simp) id hid
        omega
theorem srtX_pw {L : Ents} {l : List Int} : (srtX L l).Pairwise fun a b => selAt (memSel L a) 0 ≤ selAt (memSel L b) 0 := by
  refine List.Pairwise.imp (R := fun a b => (!Go.Proofs.ltOf (cfL L) b a) = true) (fun {a b} h => ?_) (List.pairwise_mergeSort ?_ ?_ l)
  · rw [cfL_lt] at h; simp at h; omega
  · intro a b c h1 h2
    rw [cfL_lt] at *; simp at *; omega
  · intro a b
    rw [cfL_lt, cfL_lt, Bool.or_eq_true]; simp; omega
theorem srtX_perm {L : Ents} {l : List Int} : (srtX L l).Perm l := List.mergeSort_perm _ _
theorem srtK_perm {L : Ents} : (srtK L).Perm (L.map (·.1)) := List.mergeSort_perm _ _
theorem srtK_le {L : Ents} : (srtK L).Pairwise fun a b => a ≤ b := by
  refine List.Pairwise.imp (R := fun a b => decide (a ≤ b) = true) (fun {a b} h => by simpa using h) (List.pairwise_mergeSort ?_ ?_ _)
  · intro a b c h1 h2
    simp at *; omega
  · intro a b
    rw [Bool.or_eq_true]; simp; omega
/-- The ids are all different. -/
def keysN (L : Ents) : Prop := (L.map (·.1)).Nodup
theorem srtK_lt {L : Ents} (h : keysN L) : (srtK L).Pairwise fun a b => a < b := by
  have hn : (srtK L).Nodup := srtK_perm.nodup_iff.2 h
  exact (srtK_le.and hn).imp fun h => by
    obtain ⟨h1, h2⟩ := h
    omega
/-- Each held against those behind it, by ascending ids. -/
def bruP (L : Ents) : List Int → List (Int × Int)
  | [] => []
  | a :: t => (t.filter fun b => mtK L a b).map (fun b => (a, b)) ++ bruP L t
theorem bru_prR {L : Ents} : ∀ {l : List Int}, (l.Pairwise fun a b => a < b) → prR L l = bruP L l
  | [], _ => rfl
  | a :: t, h => by
    obtain ⟨h1, h2⟩ := List.pairwise_cons.1 h
    rw [prR, bruP, bru_prR h2]
    congr 1
    refine List.map_congr_left fun b hb => ?_
    have := h1 b (List.mem_filter.1 hb).1
    rw [Int.min_eq_left (by omega), Int.max_eq_right (by omega)]
theorem bru_mem {L : Ents} : ∀ {l : List Int} {p : Int × Int}, p ∈ bruP L l → p.1 ∈ l ∧ p.2 ∈ l
  | [], _, h => by cases h
  | a :: t, p, h => by
    rw [bruP, List.mem_append] at h
    rcases h with h | h
    · obtain ⟨b, hb, rfl⟩ := List.mem_map.1 h
      exact ⟨by simp, by simp [(List.mem_filter.1 hb).1]⟩
    · have := bru_mem h
      exact ⟨by simp [this.1], by simp [this.2]⟩
theorem bru_sorted {L : Ents} : ∀ {l : List Int}, (l.Pairwise fun a b => a < b) → (bruP L l).Pairwise fun p q => (!Go.Proofs.ltOf cfP q p) = true
  | [], _ => .nil
  | a :: t, h => by
    obtain ⟨h1, h2⟩ := List.pairwise_cons.1 h
    rw [bruP]
    refine List.pairwise_append.2 ⟨?_, bru_sorted h2, fun p hp q hq => ?_⟩
    · rw [List.pairwise_map]
      refine (h2.filter _).imp fun {b c} hbc => ?_
      rw [cfP_lt]; simp; omega
    · obtain ⟨b, hb, rfl⟩ := List.mem_map.1 hp
      have := h1 _ (bru_mem hq).1
      rw [cfP_lt]; simp; omega
theorem pairs_eq {L : Ents} (h : keysN L) : pairsL L = bruP L (srtK L) := by
  have hl := srtK_lt h
  have hn : (srtK L).Nodup := srtK_perm.nodup_iff.2 h
  have ho : (ordL L).Nodup := srtX_perm.nodup_iff.2 hn
  unfold pairsL
  refine srtP_eq ?_ (bru_sorted hl)
  have := pw_inv (L := L) (ordL L) [] (by simpa using ho) (by rw [List.nil_append]; exact srtX_pw) (.refl _) ⟨fun _ => true, rfl, fun k hk => by cases hk⟩
  rw [List.nil_append] at this
  refine this.trans ?_
  rw [← bru_prR hl]
  exact prR_perm srtX_perm
/-! ### Each held against those behind it, by places -/
def wIn (M : Nat → Nat → Bool) (X : Nat → Int) (i : Nat) : Nat → List (Int × Int)
  | 0 => []
  | j + 1 => wIn M X i j ++ (if M i (i + 1 + j) = true then [(X i, X (i + 1 + j))] else [])
def wOut (M : Nat → Nat → Bool) (X : Nat → Int) (n : Nat) : Nat → List (Int × Int)
  | 0 => []
  | i + 1 => wOut M X n i ++ wIn M X i (n - (i + 1))
theorem wIn_le {M : Nat → Nat → Bool} {X : Nat → Int} {i : Nat} : ∀ j, (wIn M X i j).length ≤ j
  | 0 => Nat.le_refl _
  | j + 1 => by
    have := wIn_le (M := M) (X := X) (i := i) j
    simp only [wIn, List.length_append]
    split <;> simp <;> omega
theorem wOut_le {M : Nat → Nat → Bool} {X : Nat → Int} {n : Nat} : ∀ i, (wOut M X n i).length ≤ i * n
  | 0 => by simp [wOut]
  | i + 1 => by
    have h1 := wOut_le (M := M) (X := X) (n := n) i
    have h2 := wIn_le (M := M) (X := X) (i := i) (n - (i + 1))
    simp only [wOut, List.length_append]
    rw [Nat.add_mul]
    omega
theorem wIn_eq {L : Ents} {o : List Int} {M : Nat → Nat → Bool} {i : Nat} (hM : ∀ k, i < k → k < o.length → M i k = mtK L (o.getD i 0) (o.getD k 0)) : ∀ j, i + 1 + j ≤ o.length → wIn M (fun k => o.getD k 0) i j = (((o.drop (i + 1)).take j).filter fun b => mtK L (o.getD i 0) b).map fun b => (o.getD i 0, b)
  | 0, _ => by simp [wIn]
  | j + 1, h => by
    rw [wIn, wIn_eq hM j (by omega), List.take_add_one, List.filter_append, List.map_append, List.getElem?_drop, List.getElem?_eq_getElem (by omega), hM (i + 1 + j) (by omega) (by omega)]
    have e : o.getD (i + 1 + j) 0 = o[i + 1 + j] := by rw [List.getD_eq_getElem?_getD, List.getElem?_eq_getElem (by omega)]; rfl
    rw [e]
    congr 1
    show _ = List.map _ (List.filter _ [o[i + 1 + j]])
    generalize o.getD i 0 = z
    generalize o[i + 1 + j] = b
    cases hm : mtK L z b <;> simp [hm]
theorem wOut_pre {L : Ents} {o : List Int} {M : Nat → Nat → Bool} (hM : ∀ i k, i < k → k < o.length → M i k = mtK L (o.getD i 0) (o.getD k 0)) : ∀ i, i ≤ o.length → wOut M (fun k => o.getD k 0) o.length i ++ bruP L (o.drop i) = bruP L o
  | 0, _ => by simp [wOut]
  | i + 1, h => by
    have ih := wOut_pre hM i (by omega)
    rw [← ih, wOut, List.append_assoc, wIn_eq (hM i) _ (by omega), List.take_of_length_le (by rw [List.length_drop]; omega)]
    have e : o.drop i = o.getD i 0 :: o.drop (i + 1) := by
      rw [List.drop_eq_getElem_cons (by omega)]
      congr 1
      rw [List.getD_eq_getElem?_getD, List.getElem?_eq_getElem (by omega)]; rfl
    rw [e, bruP]
theorem wOut_bru {L : Ents} {o : List Int} {M : Nat → Nat → Bool} (hM : ∀ i k, i < k → k < o.length → M i k = mtK L (o.getD i 0) (o.getD k 0)) : wOut M (fun k => o.getD k 0) o.length o.length = bruP L o := by
  have := wOut_pre hM o.length (Nat.le_refl _)
  rw [List.drop_length] at this
  rw [← this]; simp [bruP]
/-! ### What is asked of the entries -/
theorem memSel_mem {L : Ents} {k : Int} {x : List Int} (h : memSel L k = some x) : (k, x) ∈ L := by
  induction L with
  | nil => cases h
  | cons p L ih =>
    obtain ⟨q, y⟩ := p
    unfold memSel at h
    split at h
    · rename_i e; cases h; subst e; exact List.mem_cons_self
    · exact List.mem_cons_of_mem _ (ih h)
theorem mem_memSel {L : Ents} (hn : keysN L) {k : Int} {x : List Int} (h : (k, x) ∈ L) : memSel L k = some x := by
  induction L with
  | nil => cases h
  | cons p L ih =>
    obtain ⟨q, y⟩ := p
    have hn : q ∉ L.map (·.1) ∧ (L.map (·.1)).Nodup := List.nodup_cons.1 hn
    unfold memSel
    rcases List.mem_cons.1 h with h | h
    · cases h; rw [if_pos rfl]
    · rw [if_neg, ih hn.2 h]
      rintro rfl
      exact hn.1 (List.mem_map_of_mem h)
theorem mem_srtK {L : Ents} {k : Int} : k ∈ srtK L ↔ k ∈ L.map (·.1) := srtK_perm.mem_iff
end Go.Ax
end

section
/-
  The laws' sweeps: the plain law.
-/
set_option linter.unusedVariables false
set_option linter.unusedSimpArgs false
set_option maxHeartbeats 4000000
set_option maxRecDepth 100000
namespace Go.Ax
open Go.Proofs
theorem sel_put {k k' : Int} {x : List Int} : ∀ {L : Ents}, memSel (memPut L k x) k' = if k = k' then some x else memSel L k'
  | [] => by simp [memPut, memSel]
  | (q, y) :: L => by
    unfold memPut
    by_cases e : q = k
    · rw [if_pos e]
      subst e
      simp only [memSel]
      split <;> rfl
    · rw [if_neg e]
      simp only [memSel, sel_put]
      by_cases e2 : q = k'
      · rw [if_pos e2, if_pos e2, if_neg (by rintro rfl; exact e e2)]
      · rw [if_neg e2, if_neg e2]
theorem keys_put {k : Int} {x : List Int} : ∀ {L : Ents}, (memPut L k x).map (·.1) = if k ∈ L.map (·.1) then L.map (·.1) else L.map (·.1) ++ [k]
  | [] => by simp [memPut]
  | (q, y) :: L => by
    unfold memPut
    by_cases e : q = k
    · rw [if_pos e, if_pos (by simp [e])]; rfl
    · rw [if_neg e]
      have ih := keys_put (k := k) (x := x) (L := L)
      simp only [List.map_cons, List.mem_cons]
      rw [ih]
      by_cases h : k ∈ L.map (·.1)
      · rw [if_pos h, if_pos (.inr h)]
      · rw [if_neg h, if_neg (by rintro (h2 | h2); exact e h2.symm; exact h h2)]; rfl
theorem keys_del {k : Int} : ∀ {L : Ents}, (memDel L k).map (·.1) = (L.map (·.1)).erase k
  | [] => rfl
  | (q, y) :: L => by
    unfold memDel
    by_cases e : q = k
    · rw [if_pos e, e]; simp
    · rw [if_neg e, List.map_cons, keys_del, List.map_cons, List.erase_cons_tail (by simpa using e)]
theorem sel_del {k k' : Int} : ∀ {L : Ents}, keysN L → memSel (memDel L k) k' = if k = k' then none else memSel L k'
  | [], _ => by simp [memDel, memSel]
  | (q, y) :: L, h => by
    have hn : q ∉ L.map (·.1) ∧ (L.map (·.1)).Nodup := List.nodup_cons.1 h
    unfold memDel
    by_cases e : q = k
    · rw [if_pos e]
      subst e
      by_cases e2 : q = k'
      · subst e2
        rw [if_pos rfl, selNone hn.1]
      · rw [if_neg e2]
        simp only [memSel]
        rw [if_neg e2]
    · rw [if_neg e]
      simp only [memSel, sel_del hn.2]
      by_cases e2 : q = k'
      · rw [if_pos e2, if_pos e2, if_neg (by rintro rfl; exact e e2)]
      · rw [if_neg e2, if_neg e2]
theorem sel_some_mem {L : Ents} {k : Int} : (memSel L k).isSome = true ↔ k ∈ L.map (·.1) := by
  induction L with
  | nil => simp [memSel]
  | cons p L ih =>
    obtain ⟨q, y⟩ := p
    unfold memSel
    simp only [List.map_cons, List.mem_cons]
    by_cases e : q = k
    · rw [if_pos e]; simp [e]
    · rw [if_neg e, ih]
      constructor
      · exact .inr
      · rintro (h | h)
        · exact absurd h.symm e
        · exact h
/-- A valid box. -/
def okBx (x : List Int) : Prop := ∃ a b c d, x = [a, b, c, d] ∧ checkBoxS a b c d = 0
/-- A sweep whose ids are those below n. -/
structure SwI (n : Nat) (L : Ents) : Prop where
  nod : keysN L
  key : ∀ k : Int, k ∈ L.map (·.1) ↔ 0 ≤ k ∧ k < n
  box : ∀ k x, memSel L k = some x → okBx x
def rngI (n : Nat) : List Int := (List.range n).map fun j : Nat => (j : Int)
theorem rngI_lt {n : Nat} : (rngI n).Pairwise fun a b => a < b := by
  unfold rngI
  rw [List.pairwise_map]
  exact List.pairwise_lt_range.imp fun h => by omega
theorem rngI_mem {n : Nat} {k : Int} : k ∈ rngI n ↔ 0 ≤ k ∧ k < n := by
  unfold rngI
  rw [List.mem_map]
  constructor
  · rintro ⟨j, h1, rfl⟩
    have := List.mem_range.1 h1
    omega
  · rintro ⟨h1, h2⟩
    exact ⟨k.toNat, List.mem_range.2 (by omega), by omega⟩
theorem rngI_len {n : Nat} : (rngI n).length = n := by simp [rngI]
theorem lt_nodup {l : List Int} (h : l.Pairwise fun a b => a < b) : l.Nodup := h.imp fun h => by omega
theorem perm_of_mem {l l' : List Int} (h : l.Nodup) (h' : l'.Nodup) (he : ∀ k, k ∈ l ↔ k ∈ l') : l.Perm l' := (List.perm_ext_iff_of_nodup h h').2 he
theorem SwI.perm {n : Nat} {L : Ents} (h : SwI n L) : (L.map (·.1)).Perm (rngI n) := perm_of_mem h.nod (lt_nodup rngI_lt) fun k => by rw [h.key, rngI_mem]
theorem SwI.srt {n : Nat} {L : Ents} (h : SwI n L) : srtK L = rngI n := srtK_eq h.perm (rngI_lt.imp fun h => by omega)
theorem SwI.len {n : Nat} {L : Ents} (h : SwI n L) : L.length = n := by
  have := h.perm.length_eq
  rwa [List.length_map, rngI_len] at this
theorem okBx_in {x : List Int} (h : okBx x) (j : Nat) : inR (selAt (some x) j) := by
  obtain ⟨a, b, c, d, rfl, hc⟩ := h
  have := checkBoxS_iff.1 hc
  unfold selAt inR
  rcases j with _ | _ | _ | _ | j <;> simp <;> omega
theorem selIn_of {L : Ents} (h : ∀ k x, memSel L k = some x → okBx x) : selIn L := fun k j => by
  cases hk : memSel L k with
  | none => unfold selAt inR; dsimp only; omega
  | some x => exact okBx_in (h k x hk) j
theorem SwI.selIn {n : Nat} {L : Ents} (h : SwI n L) : selIn L := selIn_of h.box
theorem SwI.put {n : Nat} {L : Ents} (h : SwI n L) {k : Int} {x : List Int} (hk : 0 ≤ k ∧ k < n) (hx : okBx x) : SwI n (memPut L k x) := by
  have hm := (h.key k).2 hk
  have hkeys : (memPut L k x).map (·.1) = L.map (·.1) := by rw [keys_put, if_pos hm]
  refine ⟨by unfold keysN; rw [hkeys]; exact h.nod, fun q => by rw [hkeys]; exact h.key q, fun q y hy => ?_⟩
  rw [sel_put] at hy
  split at hy
  · cases hy; exact hx
  · exact h.box q y hy
theorem SwI.again {n : Nat} {L : Ents} (h : SwI n L) {k : Int} {x : List Int} (hk : 0 ≤ k ∧ k < n) (hx : okBx x) : SwI n (memPut (memDel L k) k x) := by
  have hm := (h.key k).2 hk
  have hno : k ∉ (memDel L k).map (·.1) := by rw [keys_del]; exact fun hh => (List.Nodup.mem_erase_iff h.nod).1 hh |>.1 rfl
  have hkeys : (memPut (memDel L k) k x).map (·.1) = (L.map (·.1)).erase k ++ [k] := by rw [keys_put, if_neg hno, keys_del]
  refine ⟨?_, fun q => ?_, fun q y hy => ?_⟩
  · unfold keysN
    rw [hkeys]
    refine List.nodup_append.2 ⟨h.nod.erase k, by simp, fun a ha b hb => ?_⟩
    have : b = k := by simpa using hb
    rw [this]
    exact (List.Nodup.mem_erase_iff h.nod).1 ha |>.1
  · rw [hkeys, List.mem_append, List.Nodup.mem_erase_iff h.nod, h.key]
    constructor
    · rintro (h1 | h1)
      · exact h1.2
      · have : q = k := by simpa using h1
        rw [this]; exact hk
    · intro h1
      by_cases e : q = k
      · exact .inr (by simp [e])
      · exact .inl ⟨e, h1⟩
  · rw [sel_put] at hy
    split at hy
    · cases hy; exact hx
    · rename_i hne
      rw [sel_del h.nod, if_neg hne] at hy
      exact h.box q y hy
theorem sel_again {L : Ents} (h : keysN L) {k k' : Int} {x : List Int} : memSel (memPut (memDel L k) k x) k' = if k = k' then some x else memSel L k' := by
  rw [sel_put, sel_del h]
  by_cases e : k = k'
  · rw [if_pos e, if_pos e]
  · rw [if_neg e, if_neg e, if_neg e]
theorem mtK_congr {L L' : Ents} (h : ∀ k, memSel L k = memSel L' k) {a b : Int} : mtK L a b = mtK L' a b := by
  unfold mtK
  rw [h a, h b]
theorem bruP_congr {L L' : Ents} (h : ∀ k, memSel L k = memSel L' k) : ∀ l, bruP L l = bruP L' l
  | [] => rfl
  | a :: t => by
    have e : (fun b => mtK L a b) = fun b => mtK L' a b := funext fun b => mtK_congr h
    rw [bruP, bruP, bruP_congr h t, e]
theorem pairs_congr {n : Nat} {L L' : Ents} (h1 : SwI n L) (h2 : SwI n L') (h : ∀ k, memSel L k = memSel L' k) : pairsL L = pairsL L' := by
  rw [pairs_eq h1.nod, pairs_eq h2.nod, h1.srt, h2.srt, bruP_congr h]
/-! ### What 'put' makes -/
theorem ptL_nod {n : Nat} {last : Bool} {B : Nat → List Int} : ∀ i, i ≤ n → keysN (ptL n last B i)
  | 0, _ => List.nodup_nil
  | i + 1, h => by
    unfold keysN
    rw [ptL, List.map_append]
    refine List.nodup_append.2 ⟨ptL_nod i (by omega), by simp, fun a ha b hb => ?_⟩
    have : b = (ptAt n last i : Nat) := by simpa using hb
    rw [this]
    rintro rfl
    exact ptL_no (by omega) ha
theorem ptL_I {n : Nat} {last : Bool} {B : Nat → List Int} (hB : ∀ j, j < n → okBx (B j)) : SwI n (ptL n last B n) := by
  refine ⟨ptL_nod n (Nat.le_refl n), fun k => ?_, fun k x hx => ?_⟩
  · rw [ptL_mem]
    constructor
    · rintro ⟨j, h1, rfl⟩
      have := ptAt_lt (last := last) h1
      omega
    · rintro ⟨h1, h2⟩
      refine ⟨ptAt n last k.toNat, ptAt_lt (by omega), ?_⟩
      unfold ptAt
      split <;> omega
  · have hm : ∀ i, i ≤ n → ∀ p ∈ ptL n last B i, okBx p.2 := fun i => by
      induction i with
      | zero => intro _ p hp; cases hp
      | succ i ih =>
        intro hi p hp
        rw [ptL, List.mem_append] at hp
        rcases hp with hp | hp
        · exact ih (by omega) p hp
        · have : p = ((ptAt n last i : Int), B (ptAt n last i)) := by simpa using hp
          rw [this]
          exact hB _ (ptAt_lt (by omega))
    exact hm n (Nat.le_refl n) _ (memSel_mem hx)
theorem ptL_sel {n : Nat} {last : Bool} {B : Nat → List Int} {j : Nat} (hj : j < n) : memSel (ptL n last B n) (j : Int) = some (B j) := by
  refine mem_memSel (ptL_nod n (Nat.le_refl n)) ?_
  have hm : ∀ i, i ≤ n → ∀ q, q < i → ((ptAt n last q : Int), B (ptAt n last q)) ∈ ptL n last B i := fun i => by
    induction i with
    | zero => intro _ q hq; omega
    | succ i ih =>
      intro hi q hq
      rw [ptL, List.mem_append]
      by_cases e : q = i
      · subst e; exact .inr (by simp)
      · exact .inl (ih (by omega) q (by omega))
  have h1 := hm n (Nat.le_refl n) (ptAt n last j) (ptAt_lt hj)
  have h2 : ptAt n last (ptAt n last j) = j := by unfold ptAt; split <;> omega
  rw [h2] at h1
  exact h1
theorem ptL_sel_no {n : Nat} {last : Bool} {B : Nat → List Int} {k : Int} (hk : ¬ (0 ≤ k ∧ k < n)) : memSel (ptL n last B n) k = none := by
  refine selNone fun h => hk ?_
  obtain ⟨j, h1, rfl⟩ := ptL_mem.1 h
  have := ptAt_lt (last := last) h1
  omega
/-! ### Boxes of numbers -/
theorem bx_in {x w sp sz : Int} (h0 : 0 ≤ sp) (h1 : sp ≤ 2097152) (h2 : 0 ≤ sz) : -2097152 ≤ bxX x sp ∧ bxX x sp ≤ bxF x w sp sz ∧ bxF x w sp sz ≤ 2097152 := by
  have a := modS_in (n := x) (m := 2 * sp + 1) (by omega)
  have b := modS_in (n := w) (m := sz + 1) (by omega)
  unfold bxF bxX
  omega
theorem bxG_ok {sp sz : Int} {X : Nat → Int} (h0 : 0 ≤ sp) (h1 : sp ≤ 2097152) (h2 : 0 ≤ sz) (j : Nat) : checkBoxS (bxX (X (4 * j)) sp) (bxX (X (4 * j + 1)) sp) (bxF (X (4 * j)) (X (4 * j + 2)) sp sz) (bxF (X (4 * j + 1)) (X (4 * j + 3)) sp sz) = 0 := by
  have a := bx_in (x := X (4 * j)) (w := X (4 * j + 2)) h0 h1 h2
  have b := bx_in (x := X (4 * j + 1)) (w := X (4 * j + 3)) h0 h1 h2
  rw [checkBoxS_iff]
  omega
theorem bxS_in {k : Nat} {X : Nat → Int} : 0 ≤ (bxS k X).1 ∧ (bxS k X).1 ≤ 2097152 ∧ 0 ≤ (bxS k X).2 := by
  unfold bxS
  generalize modS (if k = 0 then 0 else X (modS 0 k).toNat) 5 = z
  by_cases h : z = 4
  · rw [if_pos h]
    exact ⟨(by decide : (0 : Int) ≤ 2097152), (by decide : (2097152 : Int) ≤ 2097152), (by decide : (0 : Int) ≤ 2097152)⟩
  · rw [if_neg h]
    exact ⟨(by decide : (0 : Int) ≤ 40), (by decide : (40 : Int) ≤ 2097152), (by decide : (0 : Int) ≤ 20)⟩
theorem bxOK_G {n : Nat} {k : Nat} {X : Nat → Int} : bxOK n (bxG (bxS k X).1 (bxS k X).2 X) = True := eq_true fun i hi => ⟨rfl, bxG_ok bxS_in.1 bxS_in.2.1 bxS_in.2.2 i⟩
/-- The box number j. -/
def bxL (k : Nat) (X : Nat → Int) (j : Nat) : List Int := bxI (bxG (bxS k X).1 (bxS k X).2 X) j
theorem bxL_ok {k : Nat} {X : Nat → Int} (j : Nat) : okBx (bxL k X j) := ⟨_, _, _, _, rfl, bxG_ok bxS_in.1 bxS_in.2.1 bxS_in.2.2 j⟩
theorem bxN_le {k : Nat} {m : Int} : bxN k m ≤ m.toNat := by unfold bxN; omega
theorem pairs_len {L : Ents} : (pairsL L).length ≤ L.length * L.length := by
  have h := out_le (L := L) (o := ordL L) (ordL L).length
  rw [pwN_all] at h
  unfold pairsL
  simp only [srtP, List.length_mergeSort]
  rw [ordL_len] at h
  exact h
end Go.Ax
end

section
/-
  A writing call under a guard whose value is known goes one way.
-/
set_option linter.unusedVariables false
namespace Go.Ax
open Go.Proofs
section
variable {P : Program} {G : Ctx} {H : Hots} {K0 : AEx → St → Prop} {st : List Fr} {s : St} {hot : Option Hot} {ops : Array Oper} {rest : List Oper} {i j k n sz len key base : Nat} {t : Slots} {m : Mem} {nx : Nat} {d : Option Tmp} {ty : TypeId} {pos : String} {af : Array Edge} {gd : Option (Nat × Bool)} {g : Option Bool} {ρ0 : Operand → AV} {a b : AV} {l : List AV} {cs : List AV}
theorem stepC_Wt {ob : List Prop} {u : Upd} : stepC P G H K0 hot ops d rest i st t m nx (guardW true ob a u) = stepC P G H K0 hot ops d rest i st t m nx (some ⟨ob, condV true a, u⟩) := by
  rw [stepC_W]
  simp
theorem stepC_Wf {ob : List Prop} {u : Upd} : stepC P G H K0 hot ops d rest i st t m nx (guardW false ob a u) = stepC P G H K0 hot ops d rest i st t m nx (some ⟨[], condV false a, .none⟩) := by
  rw [stepC_W]
  simp
end
end Go.Ax
end

section
/-
  The chapter's examples of tables.
-/
set_option linter.unusedVariables false
set_option linter.unusedSimpArgs false
set_option maxHeartbeats 4000000
set_option maxRecDepth 100000
namespace Go.Ax
open Go.Proofs
def F106 : OFun SlS := fun s rest => match rest with
  | [.v (.int .i64 a), .v (.int .i64 g), .v (.int .i64 e)] => some ([slOK s], fun _ => bo ((tkE s == e) && ((tkH s).1 == a && (tkH s).2 == g)), some (tkS s), fun _ => none)
  | _ => none
noncomputable def m106 : MCon := mcO oS F106
theorem mon106 : MConOK Tryz.prog 106 m106 := MConOK.mcO (G := [(40, .wr m40)]) (H := []) (.mcons mon40 .nil) Tryz.func106 fun s rest ob v x' nw hF hok hok' hob => by
  unfold F106 at hF
  split at hF
  · rename_i a g e
    cases hF
    have hO : slOK s := hob _ (by simp)
    refine ⟨by simp [clean, cleanCs, cleanC], by kernel_rfl, fun key => bodyM_go (rs := [.tmp 8]) rfl rfl ?_⟩
    have htl : tlOK s.tl := hok
    have htl' : tlOK (tkS s).tl := hok'
    obtain ⟨x, n, X, tl⟩ := s
    dsimp only at htl
    simp only [oS_fm, slF, go_sem, m40, m40, F40, htl, htl', hO, mkF]
    intro z hz
    subst hz
    exact ⟨rfl, newP_none rfl⟩
  · cases hF
def g3 : Nat → Int := upI g2 2 1
def g4 : Nat → Int := upI g3 1 2
theorem tkI_2 : tkI ⟨3, 3, g2, noRows⟩ = 2 := by decide +kernel
theorem tkS_2 : tkS ⟨3, 3, g2, noRows⟩ = ⟨7, 3, g3, noRows⟩ := by
  unfold tkS; rw [tkI_2]; rfl
theorem tkE_2 : tkE ⟨3, 3, g2, noRows⟩ = 0 := by decide +kernel
theorem tkH_2 : tkH ⟨3, 3, g2, noRows⟩ = (2, 1) := by decide +kernel
theorem tkI_3 : tkI ⟨7, 3, g3, noRows⟩ = 3 := by decide +kernel
theorem tkS_3 : tkS ⟨7, 3, g3, noRows⟩ = ⟨7, 3, g3, noRows⟩ := by
  unfold tkS; rw [tkI_3]; rfl
theorem tkE_3 : tkE ⟨7, 3, g3, noRows⟩ = 10 := by decide +kernel
theorem tkH_3 : tkH ⟨7, 3, g3, noRows⟩ = (0, 0) := by decide +kernel
theorem has_3 : hasI ⟨7, 3, g3, noRows⟩ 1 1 = true := by decide +kernel
theorem fr_3 : frS ⟨7, 3, g3, noRows⟩ 1 1 = ⟨5, 3, g3, noRows⟩ := by
  unfold frS; rw [has_3]; rfl
theorem tkI_4 : tkI ⟨5, 3, g3, noRows⟩ = 1 := by decide +kernel
theorem tkS_4 : tkS ⟨5, 3, g3, noRows⟩ = ⟨7, 3, g4, noRows⟩ := by
  unfold tkS; rw [tkI_4]; rfl
theorem tkE_4 : tkE ⟨5, 3, g3, noRows⟩ = 0 := by decide +kernel
theorem tkH_4 : tkH ⟨5, 3, g3, noRows⟩ = (1, 2) := by decide +kernel
theorem has_5 : hasI ⟨7, 3, g4, noRows⟩ 1 1 = false := by decide +kernel
theorem fr_5 : frS ⟨7, 3, g4, noRows⟩ 1 1 = ⟨7, 3, g4, noRows⟩ := by
  unfold frS; rw [has_5]; rfl
theorem has_6 : hasI ⟨7, 3, g4, noRows⟩ 7 1 = false := by decide +kernel
theorem fr_6 : frS ⟨7, 3, g4, noRows⟩ 7 1 = ⟨7, 3, g4, noRows⟩ := by
  unfold frS; rw [has_6]; rfl
theorem slOK_3 : slOK ⟨7, 3, g3, noRows⟩ = True := eq_true ⟨⟨by decide, by decide⟩, ⟨by decide, by decide⟩, by decide⟩
theorem slOK_4 : slOK ⟨5, 3, g3, noRows⟩ = True := eq_true ⟨⟨by decide, by decide⟩, ⟨by decide, by decide⟩, by decide⟩
theorem slOK_5 : slOK ⟨7, 3, g4, noRows⟩ = True := eq_true ⟨⟨by decide, by decide⟩, ⟨by decide, by decide⟩, by decide⟩
theorem at_5 : atOk 5 3 1 = false := by decide +kernel
theorem at_7 : atOk 7 3 1 = true := by decide +kernel
theorem at_8 : atOk 7 3 0 = true := by decide +kernel
theorem g4_1 : g4 1 = 2 := (rfl)
theorem g4_1' : g4 (Int.toNat 1) = 2 := (rfl)
theorem g4_0' : g4 (Int.toNat 0) = 1 := (rfl)
theorem g4_0 : g4 0 = 1 := (rfl)
theorem g3_1' : g3 (Int.toNat 1) = 1 := (rfl)
theorem F55_eq {a b : AV} : F55 [a, b] = F55f (roJ a) (roB b) := (rfl)
theorem roJ_ro {n : Nat} {g : Nat → List AV} : roJ (.ro n 1 g) = some ([ints n g], n, gx g 0) := (rfl)
theorem roJ_nil : roJ (.v (.slice none 0 0)) = some ([], 0, fun _ => 0) := (rfl)
theorem roB_ro {n : Nat} {g : Nat → List AV} : roB (.ro n 1 g) = some ([bools n g], n, fun i => gz (g i)) := (rfl)
theorem roB_nil : roB (.v (.slice none 0 0)) = some ([], 0, fun _ => false) := (rfl)
theorem F55f_ok {o1 o2 : List Prop} {n m : Nat} {G : Nat → Int} {T : Nat → Bool} (h : rsE n m G T = 0) : F55f (some (o1, n, G)) (some (o2, m, T)) = some (o1 ++ o2, fun k => .tup [.bx k 0, i64 0], fun k => some (slF k ⟨xOf T n, n, G, noRows⟩)) := by
  unfold F55f
  dsimp only
  rw [if_pos h]
theorem F55f_no {o1 o2 : List Prop} {n m : Nat} {G : Nat → Int} {T : Nat → Bool} {e : Int} (h : rsE n m G T = e) (he : e ≠ 0) : F55f (some (o1, n, G)) (some (o2, m, T)) = some (o1 ++ o2, fun _ => .tup [.v (.pointer none), i64 e], fun _ => none) := by
  unfold F55f
  dsimp only
  rw [h, if_neg he]
def gT : Nat → Int := gx (rowsOf 1 [i64 2147483646, i64 2147483647]) 0
def gU : Nat → Int := upI gT 0 2147483647
theorem F55_a {o1 o2 : List Prop} : F55f (some (o1, 2, gx (rowsOf 1 [i64 2147483646, i64 2147483647]) 0)) (some (o2, 2, fun i => gz (List.take 1 (List.drop (i * 1) [bo false, bo false])))) = some (o1 ++ o2, fun k => .tup [.bx k 0, i64 0], fun k => some (slF k ⟨0, 2, gT, noRows⟩)) := by
  rw [F55f_ok (by decide +kernel), show xOf (fun i => gz (List.take 1 (List.drop (i * 1) [bo false, bo false]))) 2 = 0 by decide +kernel]
  rfl
theorem F55_b {o1 o2 : List Prop} : F55f (some (o1, 1, gx (rowsOf 1 [i64 0]) 0)) (some (o2, 1, fun i => gz (List.take 1 (List.drop (i * 1) [bo true])))) = some (o1 ++ o2, fun _ => .tup [.v (.pointer none), i64 4], fun _ => none) := F55f_no (by decide +kernel) (by decide)
theorem F55_c {o1 o2 : List Prop} : F55f (some (o1, 0, fun _ => 0)) (some (o2, 0, fun _ => false)) = some (o1 ++ o2, fun _ => .tup [.v (.pointer none), i64 3], fun _ => none) := F55f_no (by decide +kernel) (by decide)
theorem F55_d {o1 o2 : List Prop} : F55f (some (o1, 2, gx (rowsOf 1 [i64 1, i64 2]) 0)) (some (o2, 1, fun i => gz (List.take 1 (List.drop (i * 1) [bo false])))) = some (o1 ++ o2, fun _ => .tup [.v (.pointer none), i64 4], fun _ => none) := F55f_no (by decide +kernel) (by decide)
theorem tkI_a : tkI ⟨0, 2, gT, noRows⟩ = 0 := by decide +kernel
theorem tkS_a : tkS ⟨0, 2, gT, noRows⟩ = ⟨1, 2, gU, noRows⟩ := by
  unfold tkS; rw [tkI_a]; rfl
theorem tkE_a : tkE ⟨0, 2, gT, noRows⟩ = 0 := by decide +kernel
theorem tkH_a : tkH ⟨0, 2, gT, noRows⟩ = (0, 2147483647) := by decide +kernel
theorem tkI_b : tkI ⟨1, 2, gU, noRows⟩ = 2 := by decide +kernel
theorem tkS_b : tkS ⟨1, 2, gU, noRows⟩ = ⟨1, 2, gU, noRows⟩ := by
  unfold tkS; rw [tkI_b]; rfl
theorem tkE_b : tkE ⟨1, 2, gU, noRows⟩ = 10 := by decide +kernel
theorem tkH_b : tkH ⟨1, 2, gU, noRows⟩ = (0, 0) := by decide +kernel
theorem slOK_a : slOK ⟨0, 2, gT, noRows⟩ = True := eq_true ⟨⟨by decide, by decide⟩, ⟨by decide, by decide⟩, by decide⟩
theorem slOK_b : slOK ⟨1, 2, gU, noRows⟩ = True := eq_true ⟨⟨by decide, by decide⟩, ⟨by decide, by decide⟩, by decide⟩
theorem aP : (lP (allL 7 3 g4 3).length (gxP fun i => lsF (allL 7 3 g4 3) i) = lP 3 (gxP (rowsOf 2 [i64 0, i64 1, i64 1, i64 2, i64 2, i64 1]))) = True := eq_true (by decide +kernel)
theorem aC : ∀ i, i < 3 → List.take 2 (List.drop (i * 2) [i64 0, i64 1, i64 1, i64 2, i64 2, i64 1]) = canP (rowsOf 2 [i64 0, i64 1, i64 1, i64 2, i64 2, i64 1]) i := fun i hi => by
  match i, hi with
  | 0, _ => rfl
  | 1, _ => rfl
  | 2, _ => rfl
theorem ints_1 {a : Int} : ints 1 (rowsOf 1 [i64 a]) := fun i hi => by
  match i, hi with
  | 0, _ => rfl
theorem ints_2 {a b : Int} : ints 2 (rowsOf 1 [i64 a, i64 b]) := fun i hi => by
  match i, hi with
  | 0, _ => rfl
  | 1, _ => rfl
theorem bools_1 {a : Bool} : bools 1 (rowsOf 1 [bo a]) := fun i hi => by
  match i, hi with
  | 0, _ => rfl
theorem bools_2 {a b : Bool} : bools 2 (rowsOf 1 [bo a, bo b]) := fun i hi => by
  match i, hi with
  | 0, _ => rfl
  | 1, _ => rfl
def c58 : Con
  | [] => some ([], bo true)
  | _ => none
theorem con58 : ConOK Tryz.prog 58 c58 := ConOK.of (G := [(45, .wr m45), (106, .wr m106), (44, .wr m44), (60, k60), (37, k37), (41, c41), (39, k39), (55, .wr mN55), (35, .wr mN35W), (43, c43)]) (H := []) (.mcons mon45 (.mcons mon106 (.mcons mon44 (.cons con60 (.cons con37 (.cons con41 (.cons con39 (.mcons mon55 (.mcons mon35W (.cons con43 .nil)))))))))) Tryz.func58 fun l ob rr hc hob => by
  unfold c58 at hc
  split at hc
  · cases hc
    refine ⟨by kernel_rfl, fnVC_go (rs := [.tmp 0]) rfl rfl ?_⟩
    have b0 : ((0 : Int) != 0) = false := by decide
    have b1 : ((0 : Int) == 0) = true := by decide
    have b2 : ((1 : Int) == 1) = true := by decide
    have b3 : ((2 : Int) == 2) = true := by decide
    have b4 : ((10 : Int) == 10) = true := by decide
    have b5 : ((9 : Int) != 9) = false := by decide
    have b6 : ((2 : Int) == 1) = false := by decide
    have b7 : ((2 : Int) != 2) = false := by decide
    have b9 : ((2147483647 : Int) == 2147483647) = true := by decide
    have b10 : ((4 : Int) == 4) = true := by decide
    have b8 : ((3 : Int) != 3) = false := by decide
    have c0 : ((cntB (Nat.testBit 7) 64 : Nat) : Int) = 3 := by decide +kernel
    have t0 : tlOK noRows = True := tlOK_no
    simp only [go_sem, stepC_Wt, stepC_Wf, ↓forall_eq, t0, b0, b1, b2, b3, b4, b5, b6, b7, Bool.and_self, Bool.and_true, Bool.and_false, Bool.true_and, Bool.false_and, Bool.or_self, Bool.or_false, Bool.false_or, Bool.or_true, Bool.true_or, Bool.not_true, Bool.not_false, or_self, or_false, false_or, m40, m44, m45, m106, F106, k60, k37, k39, F37, F39, c41, slF_eq, F45_3', F40, F44, F60, tkS_0, tkS_1, tkE_0, tkE_1, tkH_0, tkH_1, slOK_0, slOK_1, slOK_2, tkS_2, tkE_2, tkH_2, tkS_3, tkE_3, tkH_3, has_3, fr_3, tkS_4, tkE_4, tkH_4, has_5, fr_5, has_6, fr_6, slOK_3, slOK_4, slOK_5, at_5, at_7, at_8, g4_1, g4_1', g4_0, g4_0', g3_1', aP, b9, b10, decide_true, b8, c0, mN55_eq, F55_eq, roJ_ro, roJ_nil, roB_ro, roB_nil, F55_a, F55_b, F55_c, F55_d, tkS_a, tkS_b, tkE_a, tkE_b, tkH_a, tkH_b, slOK_a, slOK_b]
    refine ⟨ints_2, bools_2, ints_1, bools_1, ints_2, bools_1, by decide +kernel, fun _ _ => trivial, aC, ?_⟩
    decide
  · cases hc
end Go.Ax
end
