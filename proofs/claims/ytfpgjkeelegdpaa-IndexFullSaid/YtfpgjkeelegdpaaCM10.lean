/-
  The plain law of pairs: what the sweep from the left finds is what each held against each finds.
-/
import Derived.Test.YtfpgjkeelegdpaaCM9
section
set_option linter.unusedVariables false
set_option linter.unusedSimpArgs false
set_option maxHeartbeats 4000000
set_option maxRecDepth 100000
namespace Go.Ax
open Go.Proofs
theorem meetsS_comm {a b c d x y z t : Int} : meetsS a b c d x y z t = meetsS x y z t a b c d := by
  unfold meetsS
  apply decide_eq_decide.2
  constructor <;> rintro ⟨h1, h2, h3, h4, h5, h6⟩ <;> exact ⟨h2, h1, h4, h3, h6, h5⟩
theorem mtK_comm {L : Ents} {a b : Int} : mtK L a b = mtK L b a := meetsS_comm
/-- Each with those behind it. -/
def prR (L : Ents) : List Int → List (Int × Int)
  | [] => []
  | a :: t => (t.filter fun b => mtK L a b).map (fun b => (min a b, max a b)) ++ prR L t
theorem prR_perm {L : Ents} {l l' : List Int} (h : l.Perm l') : (prR L l).Perm (prR L l') := by
  induction h with
  | nil => exact .refl _
  | cons a h ih => exact ((h.filter _).map _).append ih
  | swap a b t =>
    simp only [prR, List.filter_cons]
    have hc : mtK L a b = mtK L b a := mtK_comm
    have hm : (min a b, max a b) = (min b a, max b a) := by rw [Int.min_comm, Int.max_comm]
    rw [hc]
    cases mtK L b a
    · simp only [Bool.false_eq_true, if_false]
      exact List.perm_append_comm_assoc _ _ _
    · simp only [if_true, List.map_cons, List.cons_append, hm]
      exact (List.perm_append_comm_assoc _ _ _).cons _
  | trans h1 h2 i1 i2 => exact i1.trans i2
theorem prR_end {L : Ents} {x : Int} : ∀ {p : List Int}, (prR L (p ++ [x])).Perm (prR L p ++ (p.filter fun k => mtK L k x).map fun k => (min x k, max x k))
  | [] => by simp [prR]
  | a :: p => by
    have ih := prR_end (L := L) (x := x) (p := p)
    simp only [List.cons_append, prR, List.filter_append, List.map_append, List.filter_cons, List.filter_nil]
    have hm : (min a x, max a x) = (min x a, max x a) := by rw [Int.min_comm, Int.max_comm]
    cases mtK L a x
    · simp only [Bool.false_eq_true, if_false, List.map_nil, List.append_nil, List.append_assoc]
      exact ih.append_left _
    · simp only [if_true, List.map_cons, List.map_nil, List.append_assoc]
      refine List.Perm.append_left _ ?_
      rw [hm]
      refine (ih.append_left [_]).trans ?_
      show (_ :: (prR L p ++ _)).Perm (prR L p ++ _ :: _)
      exact List.perm_middle.symm
/-- What the sweep has when it has gone through the first ones. -/
theorem pw_end {L : Ents} {p : List Int} {x : Int} : pw L (p ++ [x]) = pwStep L (pw L p) x := by
  unfold pw; rw [List.foldl_append]; rfl
theorem pw_inv {L : Ents} : ∀ (r p : List Int), (p ++ r).Nodup → ((p ++ r).Pairwise fun a b => selAt (memSel L a) 0 ≤ selAt (memSel L b) 0) → (pw L p).1.Perm (prR L p) → (∃ q : Int → Bool, (pw L p).2 = p.filter q ∧ ∀ k ∈ p, q k = false → ∀ id ∈ r, selAt (memSel L k) 2 < selAt (memSel L id) 0) → (pw L (p ++ r)).1.Perm (prR L (p ++ r))
  | [], p, _, _, h, _ => by rw [List.append_nil]; exact h
  | x :: r, p, hn, hs, h, ⟨q, h1, h2⟩ => by
    have e : p ++ x :: r = (p ++ [x]) ++ r := by simp
    rw [e] at hn hs ⊢
    have hx : x ∉ p := fun hx => by
      have := (List.nodup_append.1 (List.nodup_append.1 hn).1).2.2 x hx x (by simp)
      exact this rfl
    refine pw_inv r (p ++ [x]) hn hs ?_ ⟨fun k => k == x || (q k && !decide (selAt (memSel L k) 2 < selAt (memSel L x) 0)), ?_, fun k hk hq id hid => ?_⟩
    · rw [pw_end]
      unfold pwStep
      dsimp only
      refine List.Perm.trans ?_ prR_end.symm
      refine h.append ?_
      rw [h1, List.filter_filter, List.filter_filter]
      refine List.Perm.of_eq (congrArg _ (List.filter_congr fun k hk => ?_))
      show (mtK L k x && !decide (selAt (memSel L k) 2 < selAt (memSel L x) 0) && q k) = mtK L k x
      cases hm : mtK L k x with
      | false => rfl
      | true =>
        have hlt : ¬ selAt (memSel L k) 2 < selAt (memSel L x) 0 := by
          unfold mtK meetsS at hm
          rw [decide_eq_true_iff] at hm
          omega
        cases hq : q k with
        | true => rw [decide_eq_false hlt]; rfl
        | false => exact absurd (h2 k hk hq x (by simp)) hlt
    · rw [pw_end]
      unfold pwStep
      dsimp only
      rw [h1, List.filter_filter, List.filter_append]
      congr 1
      · refine List.filter_congr fun k hk => ?_
        have : (k == x) = false := by
          rw [beq_eq_false_iff_ne]
          rintro rfl
          exact hx hk
        rw [this, Bool.false_or, Bool.and_comm]
      · simp
    · rw [Bool.or_eq_false_iff, beq_eq_false_iff_ne] at hq
      obtain ⟨hkx, hq⟩ := hq
      have hk : k ∈ p := by
        rcases List.mem_append.1 hk with hk | hk
        · exact hk
        · exact absurd (by simpa using hk) hkx
      rw [Bool.and_eq_false_iff] at hq
      rcases hq with hq | hq
      · exact h2 k hk hq id (by simp [hid])
      · have hq : selAt (memSel L k) 2 < selAt (memSel L x) 0 := by simpa using hq
        have := (List.pairwise_append.1 hs).2.2 x (by simp) id hid
        omega
theorem srtX_pw {L : Ents} {l : List Int} : (srtX L l).Pairwise fun a b => selAt (memSel L a) 0 ≤ selAt (memSel L b) 0 := by
  refine List.Pairwise.imp (R := fun a b => (!Go.Proofs.ltOf (cfL L) b a) = true) (fun {a b} h => ?_) (List.pairwise_mergeSort ?_ ?_ l)
  · rw [cfL_lt] at h; simp at h; omega
  · intro a b c h1 h2
    rw [cfL_lt] at *; simp at *; omega
  · intro a b
    rw [cfL_lt, cfL_lt, Bool.or_eq_true]; simp; omega
theorem srtX_perm {L : Ents} {l : List Int} : (srtX L l).Perm l := List.mergeSort_perm _ _
theorem srtK_perm {L : Ents} : (srtK L).Perm (L.map (·.1)) := List.mergeSort_perm _ _
theorem srtK_le {L : Ents} : (srtK L).Pairwise fun a b => a ≤ b := by
  refine List.Pairwise.imp (R := fun a b => decide (a ≤ b) = true) (fun {a b} h => by simpa using h) (List.pairwise_mergeSort ?_ ?_ _)
  · intro a b c h1 h2
    simp at *; omega
  · intro a b
    rw [Bool.or_eq_true]; simp; omega
/-- The ids are all different. -/
def keysN (L : Ents) : Prop := (L.map (·.1)).Nodup
theorem srtK_lt {L : Ents} (h : keysN L) : (srtK L).Pairwise fun a b => a < b := by
  have hn : (srtK L).Nodup := srtK_perm.nodup_iff.2 h
  exact (srtK_le.and hn).imp fun h => by
    obtain ⟨h1, h2⟩ := h
    omega
/-- Each held against those behind it, by ascending ids. -/
def bruP (L : Ents) : List Int → List (Int × Int)
  | [] => []
  | a :: t => (t.filter fun b => mtK L a b).map (fun b => (a, b)) ++ bruP L t
theorem bru_prR {L : Ents} : ∀ {l : List Int}, (l.Pairwise fun a b => a < b) → prR L l = bruP L l
  | [], _ => rfl
  | a :: t, h => by
    obtain ⟨h1, h2⟩ := List.pairwise_cons.1 h
    rw [prR, bruP, bru_prR h2]
    congr 1
    refine List.map_congr_left fun b hb => ?_
    have := h1 b (List.mem_filter.1 hb).1
    rw [Int.min_eq_left (by omega), Int.max_eq_right (by omega)]
theorem bru_mem {L : Ents} : ∀ {l : List Int} {p : Int × Int}, p ∈ bruP L l → p.1 ∈ l ∧ p.2 ∈ l
  | [], _, h => by cases h
  | a :: t, p, h => by
    rw [bruP, List.mem_append] at h
    rcases h with h | h
    · obtain ⟨b, hb, rfl⟩ := List.mem_map.1 h
      exact ⟨by simp, by simp [(List.mem_filter.1 hb).1]⟩
    · have := bru_mem h
      exact ⟨by simp [this.1], by simp [this.2]⟩
theorem bru_sorted {L : Ents} : ∀ {l : List Int}, (l.Pairwise fun a b => a < b) → (bruP L l).Pairwise fun p q => (!Go.Proofs.ltOf cfP q p) = true
  | [], _ => .nil
  | a :: t, h => by
    obtain ⟨h1, h2⟩ := List.pairwise_cons.1 h
    rw [bruP]
    refine List.pairwise_append.2 ⟨?_, bru_sorted h2, fun p hp q hq => ?_⟩
    · rw [List.pairwise_map]
      refine (h2.filter _).imp fun {b c} hbc => ?_
      rw [cfP_lt]; simp; omega
    · obtain ⟨b, hb, rfl⟩ := List.mem_map.1 hp
      have := h1 _ (bru_mem hq).1
      rw [cfP_lt]; simp; omega
theorem pairs_eq {L : Ents} (h : keysN L) : pairsL L = bruP L (srtK L) := by
  have hl := srtK_lt h
  have hn : (srtK L).Nodup := srtK_perm.nodup_iff.2 h
  have ho : (ordL L).Nodup := srtX_perm.nodup_iff.2 hn
  unfold pairsL
  refine srtP_eq ?_ (bru_sorted hl)
  have := pw_inv (L := L) (ordL L) [] (by simpa using ho) (by rw [List.nil_append]; exact srtX_pw) (.refl _) ⟨fun _ => true, rfl, fun k hk => by cases hk⟩
  rw [List.nil_append] at this
  refine this.trans ?_
  rw [← bru_prR hl]
  exact prR_perm srtX_perm
/-! ### Each held against those behind it, by places -/
def wIn (M : Nat → Nat → Bool) (X : Nat → Int) (i : Nat) : Nat → List (Int × Int)
  | 0 => []
  | j + 1 => wIn M X i j ++ (if M i (i + 1 + j) = true then [(X i, X (i + 1 + j))] else [])
def wOut (M : Nat → Nat → Bool) (X : Nat → Int) (n : Nat) : Nat → List (Int × Int)
  | 0 => []
  | i + 1 => wOut M X n i ++ wIn M X i (n - (i + 1))
theorem wIn_le {M : Nat → Nat → Bool} {X : Nat → Int} {i : Nat} : ∀ j, (wIn M X i j).length ≤ j
  | 0 => Nat.le_refl _
  | j + 1 => by
    have := wIn_le (M := M) (X := X) (i := i) j
    simp only [wIn, List.length_append]
    split <;> simp <;> omega
theorem wOut_le {M : Nat → Nat → Bool} {X : Nat → Int} {n : Nat} : ∀ i, (wOut M X n i).length ≤ i * n
  | 0 => by simp [wOut]
  | i + 1 => by
    have h1 := wOut_le (M := M) (X := X) (n := n) i
    have h2 := wIn_le (M := M) (X := X) (i := i) (n - (i + 1))
    simp only [wOut, List.length_append]
    rw [Nat.add_mul]
    omega
theorem wIn_eq {L : Ents} {o : List Int} {M : Nat → Nat → Bool} {i : Nat} (hM : ∀ k, i < k → k < o.length → M i k = mtK L (o.getD i 0) (o.getD k 0)) : ∀ j, i + 1 + j ≤ o.length → wIn M (fun k => o.getD k 0) i j = (((o.drop (i + 1)).take j).filter fun b => mtK L (o.getD i 0) b).map fun b => (o.getD i 0, b)
  | 0, _ => by simp [wIn]
  | j + 1, h => by
    rw [wIn, wIn_eq hM j (by omega), List.take_add_one, List.filter_append, List.map_append, List.getElem?_drop, List.getElem?_eq_getElem (by omega), hM (i + 1 + j) (by omega) (by omega)]
    have e : o.getD (i + 1 + j) 0 = o[i + 1 + j] := by rw [List.getD_eq_getElem?_getD, List.getElem?_eq_getElem (by omega)]; rfl
    rw [e]
    congr 1
    show _ = List.map _ (List.filter _ [o[i + 1 + j]])
    generalize o.getD i 0 = z
    generalize o[i + 1 + j] = b
    cases hm : mtK L z b <;> simp [hm]
theorem wOut_pre {L : Ents} {o : List Int} {M : Nat → Nat → Bool} (hM : ∀ i k, i < k → k < o.length → M i k = mtK L (o.getD i 0) (o.getD k 0)) : ∀ i, i ≤ o.length → wOut M (fun k => o.getD k 0) o.length i ++ bruP L (o.drop i) = bruP L o
  | 0, _ => by simp [wOut]
  | i + 1, h => by
    have ih := wOut_pre hM i (by omega)
    rw [← ih, wOut, List.append_assoc, wIn_eq (hM i) _ (by omega), List.take_of_length_le (by rw [List.length_drop]; omega)]
    have e : o.drop i = o.getD i 0 :: o.drop (i + 1) := by
      rw [List.drop_eq_getElem_cons (by omega)]
      congr 1
      rw [List.getD_eq_getElem?_getD, List.getElem?_eq_getElem (by omega)]; rfl
    rw [e, bruP]
theorem wOut_bru {L : Ents} {o : List Int} {M : Nat → Nat → Bool} (hM : ∀ i k, i < k → k < o.length → M i k = mtK L (o.getD i 0) (o.getD k 0)) : wOut M (fun k => o.getD k 0) o.length o.length = bruP L o := by
  have := wOut_pre hM o.length (Nat.le_refl _)
  rw [List.drop_length] at this
  rw [← this]; simp [bruP]
/-! ### What is asked of the entries -/
theorem memSel_mem {L : Ents} {k : Int} {x : List Int} (h : memSel L k = some x) : (k, x) ∈ L := by
  induction L with
  | nil => cases h
  | cons p L ih =>
    obtain ⟨q, y⟩ := p
    unfold memSel at h
    split at h
    · rename_i e; cases h; subst e; exact List.mem_cons_self
    · exact List.mem_cons_of_mem _ (ih h)
theorem mem_memSel {L : Ents} (hn : keysN L) {k : Int} {x : List Int} (h : (k, x) ∈ L) : memSel L k = some x := by
  induction L with
  | nil => cases h
  | cons p L ih =>
    obtain ⟨q, y⟩ := p
    have hn : q ∉ L.map (·.1) ∧ (L.map (·.1)).Nodup := List.nodup_cons.1 hn
    unfold memSel
    rcases List.mem_cons.1 h with h | h
    · cases h; rw [if_pos rfl]
    · rw [if_neg, ih hn.2 h]
      rintro rfl
      exact hn.1 (List.mem_map_of_mem h)
theorem mem_srtK {L : Ents} {k : Int} : k ∈ srtK L ↔ k ∈ L.map (·.1) := srtK_perm.mem_iff
end Go.Ax
end

section
/-
  The laws' sweeps: the plain law.
-/
set_option linter.unusedVariables false
set_option linter.unusedSimpArgs false
set_option maxHeartbeats 4000000
set_option maxRecDepth 100000
namespace Go.Ax
open Go.Proofs
theorem sel_put {k k' : Int} {x : List Int} : ∀ {L : Ents}, memSel (memPut L k x) k' = if k = k' then some x else memSel L k'
  | [] => by simp [memPut, memSel]
  | (q, y) :: L => by
    unfold memPut
    by_cases e : q = k
    · rw [if_pos e]
      subst e
      simp only [memSel]
      split <;> rfl
    · rw [if_neg e]
      simp only [memSel, sel_put]
      by_cases e2 : q = k'
      · rw [if_pos e2, if_pos e2, if_neg (by rintro rfl; exact e e2)]
      · rw [if_neg e2, if_neg e2]
theorem keys_put {k : Int} {x : List Int} : ∀ {L : Ents}, (memPut L k x).map (·.1) = if k ∈ L.map (·.1) then L.map (·.1) else L.map (·.1) ++ [k]
  | [] => by simp [memPut]
  | (q, y) :: L => by
    unfold memPut
    by_cases e : q = k
    · rw [if_pos e, if_pos (by simp [e])]; rfl
    · rw [if_neg e]
      have ih := keys_put (k := k) (x := x) (L := L)
      simp only [List.map_cons, List.mem_cons]
      rw [ih]
      by_cases h : k ∈ L.map (·.1)
      · rw [if_pos h, if_pos (.inr h)]
      · rw [if_neg h, if_neg (by rintro (h2 | h2); exact e h2.symm; exact h h2)]; rfl
theorem keys_del {k : Int} : ∀ {L : Ents}, (memDel L k).map (·.1) = (L.map (·.1)).erase k
  | [] => rfl
  | (q, y) :: L => by
    unfold memDel
    by_cases e : q = k
    · rw [if_pos e, e]; simp
    · rw [if_neg e, List.map_cons, keys_del, List.map_cons, List.erase_cons_tail (by simpa using e)]
theorem sel_del {k k' : Int} : ∀ {L : Ents}, keysN L → memSel (memDel L k) k' = if k = k' then none else memSel L k'
  | [], _ => by simp [memDel, memSel]
  | (q, y) :: L, h => by
    have hn : q ∉ L.map (·.1) ∧ (L.map (·.1)).Nodup := List.nodup_cons.1 h
    unfold memDel
    by_cases e : q = k
    · rw [if_pos e]
      subst e
      by_cases e2 : q = k'
      · subst e2
        rw [if_pos rfl, selNone hn.1]
      · rw [if_neg e2]
        simp only [memSel]
        rw [if_neg e2]
    · rw [if_neg e]
      simp only [memSel, sel_del hn.2]
      by_cases e2 : q = k'
      · rw [if_pos e2, if_pos e2, if_neg (by rintro rfl; exact e e2)]
      · rw [if_neg e2, if_neg e2]
theorem sel_some_mem {L : Ents} {k : Int} : (memSel L k).isSome = true ↔ k ∈ L.map (·.1) := by
  induction L with
  | nil => simp [memSel]
  | cons p L ih =>
    obtain ⟨q, y⟩ := p
    unfold memSel
    simp only [List.map_cons, List.mem_cons]
    by_cases e : q = k
    · rw [if_pos e]; simp [e]
    · rw [if_neg e, ih]
      constructor
      · exact .inr
      · rintro (h | h)
        · exact absurd h.symm e
        · exact h
/-- A valid box. -/
def okBx (x : List Int) : Prop := ∃ a b c d, x = [a, b, c, d] ∧ checkBoxS a b c d = 0
/-- A sweep whose ids are those below n. -/
structure SwI (n : Nat) (L : Ents) : Prop where
  nod : keysN L
  key : ∀ k : Int, k ∈ L.map (·.1) ↔ 0 ≤ k ∧ k < n
  box : ∀ k x, memSel L k = some x → okBx x
def rngI (n : Nat) : List Int := (List.range n).map fun j : Nat => (j : Int)
theorem rngI_lt {n : Nat} : (rngI n).Pairwise fun a b => a < b := by
  unfold rngI
  rw [List.pairwise_map]
  exact List.pairwise_lt_range.imp fun h => by omega
theorem rngI_mem {n : Nat} {k : Int} : k ∈ rngI n ↔ 0 ≤ k ∧ k < n := by
  unfold rngI
  rw [List.mem_map]
  constructor
  · rintro ⟨j, h1, rfl⟩
    have := List.mem_range.1 h1
    omega
  · rintro ⟨h1, h2⟩
    exact ⟨k.toNat, List.mem_range.2 (by omega), by omega⟩
theorem rngI_len {n : Nat} : (rngI n).length = n := by simp [rngI]
theorem lt_nodup {l : List Int} (h : l.Pairwise fun a b => a < b) : l.Nodup := h.imp fun h => by omega
theorem perm_of_mem {l l' : List Int} (h : l.Nodup) (h' : l'.Nodup) (he : ∀ k, k ∈ l ↔ k ∈ l') : l.Perm l' := (List.perm_ext_iff_of_nodup h h').2 he
theorem SwI.perm {n : Nat} {L : Ents} (h : SwI n L) : (L.map (·.1)).Perm (rngI n) := perm_of_mem h.nod (lt_nodup rngI_lt) fun k => by rw [h.key, rngI_mem]
theorem SwI.srt {n : Nat} {L : Ents} (h : SwI n L) : srtK L = rngI n := srtK_eq h.perm (rngI_lt.imp fun h => by omega)
theorem SwI.len {n : Nat} {L : Ents} (h : SwI n L) : L.length = n := by
  have := h.perm.length_eq
  rwa [List.length_map, rngI_len] at this
theorem okBx_in {x : List Int} (h : okBx x) (j : Nat) : inR (selAt (some x) j) := by
  obtain ⟨a, b, c, d, rfl, hc⟩ := h
  have := checkBoxS_iff.1 hc
  unfold selAt inR
  rcases j with _ | _ | _ | _ | j <;> simp <;> omega
theorem selIn_of {L : Ents} (h : ∀ k x, memSel L k = some x → okBx x) : selIn L := fun k j => by
  cases hk : memSel L k with
  | none => unfold selAt inR; dsimp only; omega
  | some x => exact okBx_in (h k x hk) j
theorem SwI.selIn {n : Nat} {L : Ents} (h : SwI n L) : selIn L := selIn_of h.box
theorem SwI.put {n : Nat} {L : Ents} (h : SwI n L) {k : Int} {x : List Int} (hk : 0 ≤ k ∧ k < n) (hx : okBx x) : SwI n (memPut L k x) := by
  have hm := (h.key k).2 hk
  have hkeys : (memPut L k x).map (·.1) = L.map (·.1) := by rw [keys_put, if_pos hm]
  refine ⟨by unfold keysN; rw [hkeys]; exact h.nod, fun q => by rw [hkeys]; exact h.key q, fun q y hy => ?_⟩
  rw [sel_put] at hy
  split at hy
  · cases hy; exact hx
  · exact h.box q y hy
theorem SwI.again {n : Nat} {L : Ents} (h : SwI n L) {k : Int} {x : List Int} (hk : 0 ≤ k ∧ k < n) (hx : okBx x) : SwI n (memPut (memDel L k) k x) := by
  have hm := (h.key k).2 hk
  have hno : k ∉ (memDel L k).map (·.1) := by rw [keys_del]; exact fun hh => (List.Nodup.mem_erase_iff h.nod).1 hh |>.1 rfl
  have hkeys : (memPut (memDel L k) k x).map (·.1) = (L.map (·.1)).erase k ++ [k] := by rw [keys_put, if_neg hno, keys_del]
  refine ⟨?_, fun q => ?_, fun q y hy => ?_⟩
  · unfold keysN
    rw [hkeys]
    refine List.nodup_append.2 ⟨h.nod.erase k, by simp, fun a ha b hb => ?_⟩
    have : b = k := by simpa using hb
    rw [this]
    exact (List.Nodup.mem_erase_iff h.nod).1 ha |>.1
  · rw [hkeys, List.mem_append, List.Nodup.mem_erase_iff h.nod, h.key]
    constructor
    · rintro (h1 | h1)
      · exact h1.2
      · have : q = k := by simpa using h1
        rw [this]; exact hk
    · intro h1
      by_cases e : q = k
      · exact .inr (by simp [e])
      · exact .inl ⟨e, h1⟩
  · rw [sel_put] at hy
    split at hy
    · cases hy; exact hx
    · rename_i hne
      rw [sel_del h.nod, if_neg hne] at hy
      exact h.box q y hy
theorem sel_again {L : Ents} (h : keysN L) {k k' : Int} {x : List Int} : memSel (memPut (memDel L k) k x) k' = if k = k' then some x else memSel L k' := by
  rw [sel_put, sel_del h]
  by_cases e : k = k'
  · rw [if_pos e, if_pos e]
  · rw [if_neg e, if_neg e, if_neg e]
theorem mtK_congr {L L' : Ents} (h : ∀ k, memSel L k = memSel L' k) {a b : Int} : mtK L a b = mtK L' a b := by
  unfold mtK
  rw [h a, h b]
theorem bruP_congr {L L' : Ents} (h : ∀ k, memSel L k = memSel L' k) : ∀ l, bruP L l = bruP L' l
  | [] => rfl
  | a :: t => by
    have e : (fun b => mtK L a b) = fun b => mtK L' a b := funext fun b => mtK_congr h
    rw [bruP, bruP, bruP_congr h t, e]
theorem pairs_congr {n : Nat} {L L' : Ents} (h1 : SwI n L) (h2 : SwI n L') (h : ∀ k, memSel L k = memSel L' k) : pairsL L = pairsL L' := by
  rw [pairs_eq h1.nod, pairs_eq h2.nod, h1.srt, h2.srt, bruP_congr h]
/-! ### What 'put' makes -/
theorem ptL_nod {n : Nat} {last : Bool} {B : Nat → List Int} : ∀ i, i ≤ n → keysN (ptL n last B i)
  | 0, _ => List.nodup_nil
  | i + 1, h => by
    unfold keysN
    rw [ptL, List.map_append]
    refine List.nodup_append.2 ⟨ptL_nod i (by omega), by simp, fun a ha b hb => ?_⟩
    have : b = (ptAt n last i : Nat) := by simpa using hb
    rw [this]
    rintro rfl
    exact ptL_no (by omega) ha
theorem ptL_I {n : Nat} {last : Bool} {B : Nat → List Int} (hB : ∀ j, j < n → okBx (B j)) : SwI n (ptL n last B n) := by
  refine ⟨ptL_nod n (Nat.le_refl n), fun k => ?_, fun k x hx => ?_⟩
  · rw [ptL_mem]
    constructor
    · rintro ⟨j, h1, rfl⟩
      have := ptAt_lt (last := last) h1
      omega
    · rintro ⟨h1, h2⟩
      refine ⟨ptAt n last k.toNat, ptAt_lt (by omega), ?_⟩
      unfold ptAt
      split <;> omega
  · have hm : ∀ i, i ≤ n → ∀ p ∈ ptL n last B i, okBx p.2 := fun i => by
      induction i with
      | zero => intro _ p hp; cases hp
      | succ i ih =>
        intro hi p hp
        rw [ptL, List.mem_append] at hp
        rcases hp with hp | hp
        · exact ih (by omega) p hp
        · have : p = ((ptAt n last i : Int), B (ptAt n last i)) := by simpa using hp
          rw [this]
          exact hB _ (ptAt_lt (by omega))
    exact hm n (Nat.le_refl n) _ (memSel_mem hx)
theorem ptL_sel {n : Nat} {last : Bool} {B : Nat → List Int} {j : Nat} (hj : j < n) : memSel (ptL n last B n) (j : Int) = some (B j) := by
  refine mem_memSel (ptL_nod n (Nat.le_refl n)) ?_
  have hm : ∀ i, i ≤ n → ∀ q, q < i → ((ptAt n last q : Int), B (ptAt n last q)) ∈ ptL n last B i := fun i => by
    induction i with
    | zero => intro _ q hq; omega
    | succ i ih =>
      intro hi q hq
      rw [ptL, List.mem_append]
      by_cases e : q = i
      · subst e; exact .inr (by simp)
      · exact .inl (ih (by omega) q (by omega))
  have h1 := hm n (Nat.le_refl n) (ptAt n last j) (ptAt_lt hj)
  have h2 : ptAt n last (ptAt n last j) = j := by unfold ptAt; split <;> omega
  rw [h2] at h1
  exact h1
theorem ptL_sel_no {n : Nat} {last : Bool} {B : Nat → List Int} {k : Int} (hk : ¬ (0 ≤ k ∧ k < n)) : memSel (ptL n last B n) k = none := by
  refine selNone fun h => hk ?_
  obtain ⟨j, h1, rfl⟩ := ptL_mem.1 h
  have := ptAt_lt (last := last) h1
  omega
/-! ### Boxes of numbers -/
theorem bx_in {x w sp sz : Int} (h0 : 0 ≤ sp) (h1 : sp ≤ 2097152) (h2 : 0 ≤ sz) : -2097152 ≤ bxX x sp ∧ bxX x sp ≤ bxF x w sp sz ∧ bxF x w sp sz ≤ 2097152 := by
  have a := modS_in (n := x) (m := 2 * sp + 1) (by omega)
  have b := modS_in (n := w) (m := sz + 1) (by omega)
  unfold bxF bxX
  omega
theorem bxG_ok {sp sz : Int} {X : Nat → Int} (h0 : 0 ≤ sp) (h1 : sp ≤ 2097152) (h2 : 0 ≤ sz) (j : Nat) : checkBoxS (bxX (X (4 * j)) sp) (bxX (X (4 * j + 1)) sp) (bxF (X (4 * j)) (X (4 * j + 2)) sp sz) (bxF (X (4 * j + 1)) (X (4 * j + 3)) sp sz) = 0 := by
  have a := bx_in (x := X (4 * j)) (w := X (4 * j + 2)) h0 h1 h2
  have b := bx_in (x := X (4 * j + 1)) (w := X (4 * j + 3)) h0 h1 h2
  rw [checkBoxS_iff]
  omega
theorem bxS_in {k : Nat} {X : Nat → Int} : 0 ≤ (bxS k X).1 ∧ (bxS k X).1 ≤ 2097152 ∧ 0 ≤ (bxS k X).2 := by
  unfold bxS
  generalize modS (if k = 0 then 0 else X (modS 0 k).toNat) 5 = z
  by_cases h : z = 4
  · rw [if_pos h]
    exact ⟨(by decide : (0 : Int) ≤ 2097152), (by decide : (2097152 : Int) ≤ 2097152), (by decide : (0 : Int) ≤ 2097152)⟩
  · rw [if_neg h]
    exact ⟨(by decide : (0 : Int) ≤ 40), (by decide : (40 : Int) ≤ 2097152), (by decide : (0 : Int) ≤ 20)⟩
theorem bxOK_G {n : Nat} {k : Nat} {X : Nat → Int} : bxOK n (bxG (bxS k X).1 (bxS k X).2 X) = True := eq_true fun i hi => ⟨rfl, bxG_ok bxS_in.1 bxS_in.2.1 bxS_in.2.2 i⟩
/-- The box number j. -/
def bxL (k : Nat) (X : Nat → Int) (j : Nat) : List Int := bxI (bxG (bxS k X).1 (bxS k X).2 X) j
theorem bxL_ok {k : Nat} {X : Nat → Int} (j : Nat) : okBx (bxL k X j) := ⟨_, _, _, _, rfl, bxG_ok bxS_in.1 bxS_in.2.1 bxS_in.2.2 j⟩
theorem bxN_le {k : Nat} {m : Int} : bxN k m ≤ m.toNat := by unfold bxN; omega
theorem pairs_len {L : Ents} : (pairsL L).length ≤ L.length * L.length := by
  have h := out_le (L := L) (o := ordL L) (ordL L).length
  rw [pwN_all] at h
  unfold pairsL
  simp only [srtP, List.length_mergeSort]
  rw [ordL_len] at h
  exact h
end Go.Ax
end

section
/-
  What the laws of pairs and of what is near share.
-/
set_option linter.unusedVariables false
set_option linter.unusedSimpArgs false
set_option maxHeartbeats 4000000
set_option maxRecDepth 100000
namespace Go.Ax
open Go.Proofs
theorem F9_eq {n : Nat} {g : Nat → List AV} {last : Bool} : F9 [.ro n 4 g, bo last] = some ([n ≤ 256, bxOK n g], fun k => .bx k 0, fun k => some (swF k ⟨ptL n last (bxI g) n, noRows⟩)) := (rfl)
theorem c8_eq {k : Nat} {g : Nat → List AV} {most : Int} : c8 [.ro k 1 g, i64 most] = some ([ints k g, k ≤ 9223372036854775807, ∀ i, inR (gx g 0 i), 0 ≤ most, most ≤ 1000], .ro (bxN k most) 4 (bxG (bxS k (gx g 0)).1 (bxS k (gx g 0)).2 (gx g 0))) := (rfl)
theorem F12_eq {L : Ents} : F12 [.rop [.rm 4 L]] = some ([selIn L, L.length ≤ 256], fun k => .own k 0 (pairsL L).length 2, fun k => some (famN (pairsL L).length 2 32 (lsF (pairsL L)) none)) := (rfl)
attribute [go_sem] F9_eq c8_eq F12_eq mN12_eq bxOK_G
theorem wIn_congr {M : Nat → Nat → Bool} {X Y : Nat → Int} {n i : Nat} (h : ∀ j, j < n → X j = Y j) (hi : i < n) : ∀ j, i + 1 + j ≤ n → wIn M X i j = wIn M Y i j
  | 0, _ => rfl
  | j + 1, hj => by rw [wIn, wIn, wIn_congr h hi j (by omega), h i hi, h (i + 1 + j) (by omega)]
theorem wOut_congr {M : Nat → Nat → Bool} {X Y : Nat → Int} {n : Nat} (h : ∀ j, j < n → X j = Y j) : ∀ i, i ≤ n → wOut M X n i = wOut M Y n i
  | 0, _ => rfl
  | i + 1, hi => by rw [wOut, wOut, wOut_congr h i (by omega), wIn_congr h (by omega) _ (by omega)]
end Go.Ax
end

section
/-
  The plain law of a full sweep.
-/
set_option linter.unusedVariables false
set_option linter.unusedSimpArgs false
set_option maxHeartbeats 4000000
set_option maxRecDepth 100000
namespace Go.Ax
open Go.Proofs
/-- Boxes that lie apart, one behind the other, with ids that do. -/
def fulB (j : Nat) : List Int := [3 * (j : Int), 0, 3 * (j : Int) + 1, 1]
def fulL (s : Int) : Nat → Ents
  | 0 => []
  | i + 1 => fulL s i ++ [((i : Int) * s, fulB i)]
theorem ful_len {s : Int} : ∀ {i : Nat}, (fulL s i).length = i
  | 0 => rfl
  | i + 1 => by rw [fulL, List.length_append, ful_len]; rfl
theorem mul_inj {s : Int} (hs : 1 ≤ s) {a b : Int} (h : a * s = b * s) : a = b := Int.eq_of_mul_eq_mul_right (by omega) h
theorem mul_lt {s : Int} (hs : 1 ≤ s) {a b : Int} : a * s < b * s ↔ a < b := by
  constructor
  · intro h; exact Int.lt_of_mul_lt_mul_right h (by omega)
  · intro h; exact Int.mul_lt_mul_of_pos_right h (by omega)
theorem ful_keys {s : Int} : ∀ {i : Nat}, (fulL s i).map (·.1) = (List.range i).map fun j : Nat => (j : Int) * s
  | 0 => rfl
  | i + 1 => by rw [fulL, List.map_append, ful_keys, List.range_succ, List.map_append]; rfl
theorem ful_mem {s : Int} (hs : 1 ≤ s) {i j : Nat} : ((j : Int) * s) ∈ (fulL s i).map (·.1) ↔ j < i := by
  rw [ful_keys, List.mem_map]
  constructor
  · rintro ⟨k, hk, e⟩
    have := mul_inj hs e
    have := List.mem_range.1 hk
    omega
  · intro h
    exact ⟨j, List.mem_range.2 h, rfl⟩
theorem ful_lt {s : Int} (hs : 1 ≤ s) {i : Nat} : ((List.range i).map fun j : Nat => (j : Int) * s).Pairwise fun a b => a < b := by
  rw [List.pairwise_map]
  exact List.pairwise_lt_range.imp fun h => (mul_lt hs).2 (by omega)
theorem ful_nod {s : Int} (hs : 1 ≤ s) {i : Nat} : keysN (fulL s i) := by
  unfold keysN
  rw [ful_keys]
  exact lt_nodup (ful_lt hs)
theorem ful_in {s : Int} : ∀ {i j : Nat}, j < i → ((j : Int) * s, fulB j) ∈ fulL s i
  | 0, _, h => by omega
  | i + 1, j, h => by
    rw [fulL, List.mem_append]
    by_cases e : j = i
    · rw [e]; exact .inr (List.mem_singleton.2 rfl)
    · exact .inl (ful_in (by omega))
theorem ful_sel {s : Int} (hs : 1 ≤ s) {i j : Nat} (h : j < i) : memSel (fulL s i) ((j : Int) * s) = some (fulB j) := mem_memSel (ful_nod hs) (ful_in h)
theorem ful_none {s : Int} (hs : 1 ≤ s) {i j : Nat} (h : i ≤ j) : memSel (fulL s i) ((j : Int) * s) = none := selNone fun hm => by
  have := (ful_mem hs).1 hm
  omega
theorem ful_put {s : Int} (hs : 1 ≤ s) {i : Nat} : memPut (fulL s i) ((i : Int) * s) (fulB i) = fulL s (i + 1) := by
  rw [memPut_end fun hm => by have := (ful_mem hs).1 hm; omega]
  rfl
theorem fulB_ok {j : Nat} (h : j ≤ 256) : okBx (fulB j) := ⟨_, _, _, _, rfl, checkBoxS_iff.2 (by omega)⟩
theorem ful_box {s : Int} : ∀ {i : Nat}, i ≤ 256 → ∀ k x, memSel (fulL s i) k = some x → okBx x := fun {i} => by
  have key : ∀ {L : Ents}, (∀ p ∈ L, okBx p.2) → ∀ k x, memSel L k = some x → okBx x := fun {L} => by
    induction L with
    | nil => intro _ k x h; simp [memSel] at h
    | cons p L ih =>
      intro h k x hx
      obtain ⟨q, y⟩ := p
      unfold memSel at hx
      split at hx
      · cases hx; exact h (q, _) (List.mem_cons_self ..)
      · exact ih (fun p hp => h p (by simp [hp])) k x hx
  intro hi
  refine key ?_
  induction i with
  | zero => intro p hp; simp [fulL] at hp
  | succ i ih =>
    intro p hp
    rw [fulL, List.mem_append] at hp
    rcases hp with hp | hp
    · exact ih (by omega) p hp
    · rw [List.mem_singleton.1 hp]; exact fulB_ok (by omega)
theorem bru_nil {L : Ents} : ∀ {l : List Int}, (l.Pairwise fun a b => mtK L a b = false) → bruP L l = []
  | [], _ => rfl
  | a :: t, h => by
    obtain ⟨h1, h2⟩ := List.pairwise_cons.1 h
    rw [bruP, bru_nil h2, List.append_nil, List.map_eq_nil_iff, List.filter_eq_nil_iff]
    intro b hb
    rw [h1 b hb]; decide
/-- Far boxes do not meet. -/
theorem fulB_far {j k : Nat} (h : j < k) : meetsS (selAt (some (fulB j)) 0) (selAt (some (fulB j)) 1) (selAt (some (fulB j)) 2) (selAt (some (fulB j)) 3) (selAt (some (fulB k)) 0) (selAt (some (fulB k)) 1) (selAt (some (fulB k)) 2) (selAt (some (fulB k)) 3) = false := by
  show meetsS (3 * (j : Int)) 0 (3 * (j : Int) + 1) 1 (3 * (k : Int)) 0 (3 * (k : Int) + 1) 1 = false
  unfold meetsS
  exact decide_eq_false (by omega)
theorem ful_srt {s : Int} (hs : 1 ≤ s) {i : Nat} : srtK (fulL s i) = (List.range i).map fun j : Nat => (j : Int) * s :=
  srtK_eq (by rw [ful_keys]) ((ful_lt hs).imp fun h => by omega)
theorem ful_pairs {s : Int} (hs : 1 ≤ s) {i : Nat} : pairsL (fulL s i) = [] := by
  rw [pairs_eq (ful_nod hs), ful_srt hs]
  refine bru_nil ?_
  rw [List.pairwise_map, List.pairwise_iff_getElem]
  intro a b ha hb hab
  rw [List.length_range] at ha hb
  rw [List.getElem_range, List.getElem_range]
  unfold mtK
  rw [ful_sel hs ha, ful_sel hs hb]
  exact fulB_far hab
/-- The full sweep, one box dropped and another one put. -/
def fulM (s : Int) : Ents := memPut (memDel (fulL s 256) s) (256 * s) [1, 1, 2, 2]
theorem fulM_sel {s : Int} (hs : 1 ≤ s) {k : Int} : memSel (fulM s) k = if 256 * s = k then some [1, 1, 2, 2] else if s = k then none else memSel (fulL s 256) k := by
  unfold fulM
  rw [sel_put, sel_del (ful_nod hs)]
theorem s_mem {s : Int} (hs : 1 ≤ s) : s ∈ (fulL s 256).map (·.1) := by
  have := (ful_mem hs (i := 256) (j := 1)).2 (by omega)
  rwa [show ((1 : Nat) : Int) * s = s by omega] at this
theorem z_nomem {s : Int} (hs : 1 ≤ s) : 256 * s ∉ (fulL s 256).map (·.1) := fun hm => by
  have := (ful_mem hs (i := 256) (j := 256)).1 hm
  omega
theorem fulM_keys {s : Int} (hs : 1 ≤ s) : (fulM s).map (·.1) = ((fulL s 256).map (·.1)).erase s ++ [256 * s] := by
  unfold fulM
  rw [keys_put, keys_del, if_neg fun hm => z_nomem hs (List.mem_of_mem_erase hm)]
theorem fulM_nod {s : Int} (hs : 1 ≤ s) : keysN (fulM s) := by
  unfold keysN
  rw [fulM_keys hs, List.nodup_append]
  refine ⟨(ful_nod hs).erase _, by simp, fun a ha b hb => ?_⟩
  rw [List.mem_singleton.1 hb]
  exact fun e => z_nomem hs (e ▸ List.mem_of_mem_erase ha)
theorem fulM_len {s : Int} (hs : 1 ≤ s) : (fulM s).length = 256 := by
  have h := congrArg List.length (fulM_keys hs)
  rw [List.length_map, List.length_append, List.length_erase_of_mem (s_mem hs), List.length_map, ful_len] at h
  exact h
theorem fulM_box {s : Int} (hs : 1 ≤ s) : ∀ k x, memSel (fulM s) k = some x → okBx x := fun k x h => by
  rw [fulM_sel hs] at h
  split at h
  · cases h; exact ⟨_, _, _, _, rfl, checkBoxS_iff.2 (by omega)⟩
  · split at h
    · cases h
    · exact ful_box (Nat.le_refl _) k x h
/-- Its ids in order. -/
def fulI (s : Int) : List Int := 0 :: ((List.range' 2 254).map fun j : Nat => (j : Int) * s)
theorem fulI_mem {s k : Int} : k ∈ fulI s ↔ ∃ j : Nat, j < 256 ∧ j ≠ 1 ∧ k = (j : Int) * s := by
  unfold fulI
  rw [List.mem_cons, List.mem_map]
  constructor
  · rintro (h | ⟨j, hj, e⟩)
    · exact ⟨0, by omega, by omega, by rw [h]; omega⟩
    · have := List.mem_range'_1.1 hj
      exact ⟨j, by omega, by omega, e.symm⟩
  · rintro ⟨j, h1, h2, e⟩
    by_cases h0 : j = 0
    · left; rw [e, h0]; omega
    · right; exact ⟨j, List.mem_range'_1.2 (by omega), e.symm⟩
theorem fulI_lt {s : Int} (hs : 1 ≤ s) : (fulI s ++ [256 * s]).Pairwise fun a b => a < b := by
  refine List.pairwise_append.2 ⟨?_, List.pairwise_singleton _ _, fun a ha b hb => ?_⟩
  · unfold fulI
    refine List.pairwise_cons.2 ⟨fun b hb => ?_, ?_⟩
    · obtain ⟨j, hj, rfl⟩ := List.mem_map.1 hb
      have h2 := List.mem_range'_1.1 hj
      have := (mul_lt hs (a := 0) (b := (j : Int))).2 (by omega)
      omega
    · rw [List.pairwise_map]
      exact (List.pairwise_lt_range' ..).imp fun h => (mul_lt hs).2 (by omega)
  · rw [List.mem_singleton.1 hb]
    obtain ⟨j, h1, _, rfl⟩ := fulI_mem.1 ha
    exact (mul_lt hs).2 (by omega)
theorem fulM_srt {s : Int} (hs : 1 ≤ s) : srtK (fulM s) = fulI s ++ [256 * s] := by
  refine srtK_eq ?_ ((fulI_lt hs).imp fun h => by omega)
  refine perm_of_mem (fulM_nod hs) (lt_nodup (fulI_lt hs)) fun k => ?_
  rw [fulM_keys hs, List.mem_append, List.mem_append, fulI_mem, (show k ∈ ((fulL s 256).map (·.1)).erase s ↔ k ≠ s ∧ k ∈ (fulL s 256).map (·.1) from (ful_nod hs).mem_erase_iff), ful_keys, List.mem_map]
  refine or_congr_left ?_
  constructor
  · rintro ⟨h1, j, h2, rfl⟩
    exact ⟨j, List.mem_range.1 h2, fun e => h1 (by rw [e]; omega), rfl⟩
  · rintro ⟨j, h1, h2, rfl⟩
    refine ⟨fun e => h2 ?_, j, List.mem_range.2 h1, rfl⟩
    have := mul_inj hs (a := (j : Int)) (b := 1) (by rw [e]; omega)
    omega
theorem fulM_at {s : Int} (hs : 1 ≤ s) {j : Nat} (h : j < 256) (h1 : j ≠ 1) : memSel (fulM s) ((j : Int) * s) = some (fulB j) := by
  have e1 : ¬ 256 * s = (j : Int) * s := fun e => by have := mul_inj hs e; omega
  have e2 : ¬ s = (j : Int) * s := fun e => by have := mul_inj hs (a := 1) (b := (j : Int)) (by omega); omega
  rw [fulM_sel hs, if_neg e1, if_neg e2, ful_sel hs h]
theorem fulM_z {s : Int} (hs : 1 ≤ s) : memSel (fulM s) (256 * s) = some [1, 1, 2, 2] := by rw [fulM_sel hs, if_pos rfl]
theorem fulM_pairs {s : Int} (hs : 1 ≤ s) : pairsL (fulM s) = [(0, 256 * s)] := by
  rw [pairs_eq (fulM_nod hs), fulM_srt hs]
  have hz : ∀ j : Nat, j < 256 → j ≠ 1 → mtK (fulM s) ((j : Int) * s) (256 * s) = decide (j = 0) := fun j h1 h2 => by
    unfold mtK
    rw [fulM_at hs h1 h2, fulM_z hs]
    show meetsS (3 * (j : Int)) 0 (3 * (j : Int) + 1) 1 1 1 2 2 = _
    unfold meetsS
    refine decide_eq_decide.2 ⟨fun h => by omega, fun h => ⟨checkBoxS_iff.2 (by omega), by decide, by omega, by omega, by omega, by omega⟩⟩
  have hfar : ∀ j k : Nat, j < k → k < 256 → j ≠ 1 → k ≠ 1 → mtK (fulM s) ((j : Int) * s) ((k : Int) * s) = false := fun j k h1 h2 h3 h4 => by
    unfold mtK
    rw [fulM_at hs (by omega) h3, fulM_at hs h2 h4]
    exact fulB_far h1
  have htail : bruP (fulM s) (((List.range' 2 254).map fun j : Nat => (j : Int) * s) ++ [256 * s]) = [] := by
    refine bru_nil (List.pairwise_append.2 ⟨?_, List.pairwise_singleton _ _, fun a ha b hb => ?_⟩)
    · rw [List.pairwise_map]
      refine List.Pairwise.imp_of_mem (R := fun a b => a < b) (fun {a b} ha hb h => ?_) (List.pairwise_lt_range' ..)
      have h1 := List.mem_range'_1.1 ha
      have h2 := List.mem_range'_1.1 hb
      exact hfar a b h (by omega) (by omega) (by omega)
    · rw [List.mem_singleton.1 hb]
      obtain ⟨j, hj, rfl⟩ := List.mem_map.1 ha
      have h1 := List.mem_range'_1.1 hj
      rw [hz j (by omega) (by omega)]
      exact decide_eq_false (by omega)
  unfold fulI
  rw [List.cons_append, bruP, htail, List.append_nil, List.filter_append]
  have h0 : (((List.range' 2 254).map fun j : Nat => (j : Int) * s).filter fun b => mtK (fulM s) 0 b) = [] := by
    rw [List.filter_eq_nil_iff]
    intro b hb
    obtain ⟨j, hj, rfl⟩ := List.mem_map.1 hb
    have h1 := List.mem_range'_1.1 hj
    have := hfar 0 j (by omega) (by omega) (by omega) (by omega)
    rw [show ((0 : Nat) : Int) * s = 0 by omega] at this
    rw [this]; decide
  have h1 := hz 0 (by omega) (by omega)
  rw [show ((0 : Nat) : Int) * s = 0 by omega] at h1
  rw [h0, List.nil_append, List.filter_cons, h1]
  rfl
end Go.Ax
end
