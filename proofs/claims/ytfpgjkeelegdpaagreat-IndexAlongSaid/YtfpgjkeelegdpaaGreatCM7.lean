/-
  The laws' sweeps: put.
-/
import Derived.Test.YtfpgjkeelegdpaaGreatCM6
import Derived.ShutString
import Derived.ChangeOld
import Derived.Below
section
set_option linter.unusedVariables false
set_option linter.unusedSimpArgs false
set_option maxHeartbeats 4000000
set_option maxRecDepth 100000
namespace Go.Ax
open Go.Proofs
/-- Boxes that are valid, one an element. -/
def bxOK (n : Nat) (g : Nat → List AV) : Prop := ∀ i, i < n → g i = [i64 (gx g 0 i), i64 (gx g 1 i), i64 (gx g 2 i), i64 (gx g 3 i)] ∧ checkBoxS (gx g 0 i) (gx g 1 i) (gx g 2 i) (gx g 3 i) = 0
def bxI (g : Nat → List AV) (i : Nat) : List Int := [gx g 0 i, gx g 1 i, gx g 2 i, gx g 3 i]
/-- What has been put after i of n, from the first one on or from the last one on. -/
def ptAt (n : Nat) (last : Bool) (i : Nat) : Nat := if last = true then n - 1 - i else i
def ptL (n : Nat) (last : Bool) (B : Nat → List Int) : Nat → Ents
  | 0 => []
  | i + 1 => ptL n last B i ++ [((ptAt n last i : Int), B (ptAt n last i))]
theorem selNone {k : Int} : ∀ {L : Ents}, k ∉ L.map (·.1) → memSel L k = none
  | [], _ => rfl
  | (q, x) :: L, h => by
    rw [List.map_cons, List.mem_cons, not_or] at h
    unfold memSel
    rw [if_neg (fun e => h.1 e.symm), selNone h.2]
theorem memPut_end {k : Int} {x : List Int} : ∀ {L : Ents}, k ∉ L.map (·.1) → memPut L k x = L ++ [(k, x)]
  | [], _ => rfl
  | (q, y) :: L, h => by
    rw [List.map_cons, List.mem_cons, not_or] at h
    unfold memPut
    rw [if_neg (fun e => h.1 e.symm), memPut_end h.2]
    rfl
theorem ptL_len {n : Nat} {last : Bool} {B : Nat → List Int} : ∀ i, (ptL n last B i).length = i
  | 0 => rfl
  | i + 1 => by rw [ptL, List.length_append, ptL_len i]; rfl
theorem ptAt_lt {n i : Nat} {last : Bool} (h : i < n) : ptAt n last i < n := by unfold ptAt; split <;> omega
theorem ptL_mem {n : Nat} {last : Bool} {B : Nat → List Int} {k : Int} : ∀ {i}, k ∈ (ptL n last B i).map (·.1) ↔ ∃ j, j < i ∧ k = ptAt n last j
  | 0 => by simp [ptL]
  | i + 1 => by
    rw [ptL, List.map_append, List.mem_append, ptL_mem]
    constructor
    · rintro (⟨j, h1, h2⟩ | h)
      · exact ⟨j, by omega, h2⟩
      · exact ⟨i, by omega, by simpa using h⟩
    · rintro ⟨j, h1, h2⟩
      by_cases e : j = i
      · subst e; exact .inr (by simpa using h2)
      · exact .inl ⟨j, by omega, h2⟩
theorem ptL_no {n i : Nat} {last : Bool} {B : Nat → List Int} (h : i < n) : (ptAt n last i : Int) ∉ (ptL n last B i).map (·.1) := by
  rw [ptL_mem]
  rintro ⟨j, h1, h2⟩
  unfold ptAt at h2
  split at h2 <;> omega
theorem put_ok {n i : Nat} {last : Bool} {B : Nat → List Int} {tl : Fam} {a b c d : Int} (h : i < n) (hn : n ≤ 256) (hB : B (ptAt n last i) = [a, b, c, d]) (hc : checkBoxS a b c d = 0) : putE (ptL n last B i) (ptAt n last i : Nat) a b c d = 0 ∧ putW ⟨ptL n last B i, tl⟩ (ptAt n last i : Nat) a b c d = ⟨ptL n last B (i + 1), tl⟩ := by
  have hlt := ptAt_lt (last := last) h
  have hl := ptL_len (n := n) (last := last) (B := B) i
  have e : putE (ptL n last B i) (ptAt n last i : Nat) a b c d = 0 := by
    unfold putE
    rw [if_neg (by omega), if_neg (by rw [hc]; simp), selNone (ptL_no h), if_neg (by simp), if_neg (by omega)]
  refine ⟨e, ?_⟩
  unfold putW
  dsimp only
  rw [e, if_pos rfl, memPut_end (ptL_no h), ptL, hB]
theorem cleanCs_of : ∀ {l : List AV}, (∀ c ∈ l, cleanC c = true) → cleanCs l = true
  | [], _ => rfl
  | a :: l, h => by
    simp only [cleanCs, Bool.and_eq_true]
    exact ⟨h a (by simp), cleanCs_of fun c hc => h c (by simp [hc])⟩
theorem fitF_self {N M : Nat} {x : Fam} (h : ∀ f, (x f).g = none ∧ ∀ j, j < (x f).n → fitL N M [] ((x f).get j) ((x f).get j)) : fitF N M [] x (some x) := by
  intro f
  exact ⟨rfl, rfl, rfl, (h f).1, (h f).1, (h f).2⟩
theorem fitF_sw {N M K : Nat} {L : Ents} {tl : Fam} (hK : K < N) (ht : tlOK tl) : fitF N M [] (famR [⟨1, 1, 103, fun _ => [.mp K 1], none⟩, mapR 4 L] tl) (some (famR [⟨1, 1, 103, fun _ => [.mp K 1], none⟩, mapR 4 L] tl)) :=
  fitF_self fun f => match f with
    | 0 => ⟨rfl, fun j hj => ⟨⟨rfl, hK⟩, trivial⟩⟩
    | 1 => ⟨rfl, fun j hj => by have hj : j < 0 := hj; omega⟩
    | f + 2 => ⟨(ht f).1, fun j hj => fitL_clean (cleanCs_of ((ht f).2 j hj))⟩
noncomputable def F14 : List AV → Option (List Prop × (Nat → AV) × (Nat → Option Fam))
  | [.ro n 4 g, .v (.bool last)] => some ([n ≤ 256, bxOK n g], fun k => .bx k 0, fun k => some (swF k ⟨ptL n last (bxI g) n, noRows⟩))
  | _ => none
noncomputable def mN14 : MCon := mcKU F14
theorem mN14_eq : mN14 = mcKU F14 := (rfl)
attribute [go_sem] mN14_eq
theorem mon14 : MConOK Tryz.prog 14 mN14 := MConOK.mkU (G := [(28, .wr mN28), (19, .wr m19)]) (H := []) (.mcons mon28 (.mcons mon19 .nil)) Tryz.func14 fun es ob v nw hF hob => by
  unfold F14 at hF
  split at hF
  · rename_i n g last
    cases hF
    have hn : n ≤ 256 := hob _ (by simp)
    have hg : bxOK n g := hob _ (by simp)
    refine ⟨[.ro n 4 fun i => [i64 (gx g 0 i), i64 (gx g 1 i), i64 (gx g 2 i), i64 (gx g 3 i)], bo last], fun w I vs hR => ?_, by simp [clean], by kernel_rfl, fun key => bodyM_go (rs := [.tmp 4]) rfl rfl ?_⟩
    · obtain ⟨y, ys, rfl, k1, k2⟩ := hR.inv
      exact .cons (ro_alike (fun i hi => (hg i hi).1) k1) k2
    have hc := fun i hi => (hg i hi).2
    have hg' : ∀ i, i < n → bxI g i = [gx g 0 i, gx g 1 i, gx g 2 i, gx g 3 i] := fun i _ => rfl
    generalize bxI g = B at hg'
    generalize gx g 0 = A0 at hc hg'
    generalize gx g 1 = A1 at hc hg'
    generalize gx g 2 = A2 at hc hg'
    generalize gx g 3 = A3 at hc hg'
    have hr : ∀ i, i < n → inR (A0 i) ∧ inR (A1 i) ∧ inR (A2 i) ∧ inR (A3 i) := fun i hi => by
      have := checkBoxS_iff.1 (hc i hi)
      unfold inR; omega
    simp only [go_sem, m19, swF_eq, famNK_W']
    refine loopN_go (fun (i : Nat) => i ≤ n) (fun i => n - i) (fun i => [(6, i64 i)]) (fun i => [(1, famR [⟨1, 1, 103, fun _ => [.mp 1 1], none⟩, mapR 4 (ptL n last B i)] noRows)]) [] [9, 10, 11, 12, 13, 14, 15, 16, 19, 7, 20, 21, 22, 23, 24, 25, 7, 26, 27, 28, 29, 30, 31, 32, 33, 4, 17, 18, 6] 0 0 (by kernel_rfl) (Nat.zero_le _) ⟨[], ?_, ?_, ?_, ?_⟩ ?_
    · simp only [go_sem]
    · simp only [go_sem]
      exact fitF_sw (by decide) (fun f => ⟨rfl, fun j hj => by have hj : j < 0 := hj; omega⟩)
    · simp only [go_sem]
    · simp [goodNames, asg]
    intro i hi
    simp only [go_sem, m19, F19, famNK_W', swF_eq]
    have tl0 : tlOK noRows := fun f => ⟨rfl, fun j hj => by have hj : j < 0 := hj; omega⟩
    have hin : ∀ z : Int, i < n → z = (ptAt n last i : Nat) → 0 ≤ z ∧ z < n ∧ ∀ zz : Int, zz = putE (ptL n last B i) z (A0 z.toNat) (A1 z.toNat) (A2 z.toNat) (A3 z.toNat) → zz = 0 ∧ putW ⟨ptL n last B i, noRows⟩ z (A0 z.toNat) (A1 z.toNat) (A2 z.toNat) (A3 z.toNat) = ⟨ptL n last B (i + 1), noRows⟩ ∧ inR (A0 z.toNat) ∧ inR (A1 z.toNat) ∧ inR (A2 z.toNat) ∧ inR (A3 z.toNat) := fun z hlt hz => by
      have hl := ptAt_lt (last := last) hlt
      subst hz
      rw [Int.toNat_natCast]
      obtain ⟨p1, p2⟩ := put_ok (tl := noRows) hlt hn (hg' _ hl) (hc _ hl)
      refine ⟨by omega, by omega, fun zz hzz => ⟨by rw [hzz, p1], p2, hr _ hl⟩⟩
    have hnext : ∀ z : Int, z = IntKind.i64.wrap (i + 1) → i < n → z = ((i + 1 : Nat) : Int) := fun z hz hlt => by rw [hz, wrap_in (by unfold inR; omega)]; omega
    refine ⟨fun hlt => ⟨fun hl z1 k1 z2 k2 => ?_, fun hl => ?_⟩, fun hge => ?_⟩
    · have e : z2 = (ptAt n last i : Nat) := by
        unfold ptAt
        rw [if_pos hl, k2, k1, wrap_in (x := (n : Int) - 1) (by unfold inR; omega), wrap_in (by unfold inR; omega)]
        omega
      obtain ⟨q1, q2, q3⟩ := hin z2 (by omega) e
      refine ⟨q1, q2, fun z hz => ?_⟩
      obtain ⟨q4, q5, q6, q7, q8, q9⟩ := q3 z hz
      rw [q5, q4]
      refine ⟨tl0, q6, q7, q8, q9, fun h => (by cases h), fun _ z hz => ⟨i + 1, by omega, by omega, [], hnext z hz (by omega), ?_, by simp [goodNames, asg]⟩⟩
      simp only [go_sem]
      exact fitF_sw (by decide) tl0
    · have e : (i : Int) = (ptAt n last i : Nat) := by
        unfold ptAt
        rw [if_neg (by rw [hl]; decide)]
      obtain ⟨q1, q2, q3⟩ := hin i (by omega) e
      refine ⟨q1, q2, fun z hz => ?_⟩
      rw [Int.toNat_natCast] at q3
      obtain ⟨q4, q5, q6, q7, q8, q9⟩ := q3 z hz
      rw [q5, q4]
      refine ⟨tl0, q6, q7, q8, q9, fun h => (by cases h), fun _ z hz => ⟨i + 1, by omega, by omega, [], hnext z hz (by omega), ?_, by simp [goodNames, asg]⟩⟩
      simp only [go_sem]
      exact fitF_sw (by decide) tl0
    · have e : i = n := by omega
      subst e
      exact newOW (v := fun k => .bx k 0) (L := ptL i last B i) (m1 := [(1, swF 1 ⟨ptL i last B i, noRows⟩)]) (fun _ _ => rfl) (fun _ _ _ h => h) rfl (Nat.zero_le _)
  · cases hF
end Go.Ax
end

section
/-
  What the laws ask of lists of handles, and of what is in a list.
-/
set_option linter.unusedVariables false
set_option linter.unusedSimpArgs false
set_option maxHeartbeats 4000000
set_option maxRecDepth 100000
namespace Go.Ax
open Go.Proofs
theorem mem_lX {n : Nat} {X : Nat → Int} {z : Int} : z ∈ lX n X ↔ ∃ i, i < n ∧ X i = z := by simp [lX]
def c27f (n : Nat) (X : Nat → Int) (z : Int) (ob : List Prop) : List Prop × AV := ((n ≤ 100000) :: ob, bo (decide (z ∈ lX n X)))
def c27 : Con
  | [a, .v (.int .i64 z)] => match roI a with
    | some (ob, n, X) => some (c27f n X z ob)
    | none => none
  | _ => none
theorem con27 : ConOK Tryz.prog 27 c27 := ConOK.go (G := []) (H := []) .nil Tryz.func27 fun l ob rr hc hob => by
  unfold c27 at hc
  split at hc
  · rename_i a z
    split at hc
    · rename_i o1 n X ha
      cases hc
      have hn : n ≤ 100000 := hob _ (by simp)
      refine ⟨[.ro n 1 fun i => [i64 (X i)], i64 z], fun w I vs hR => ?_, by kernel_rfl, fnVC_go (rs := [.tmp 4]) rfl rfl ?_⟩
      · obtain ⟨y, ys, rfl, k1, k2⟩ := hR.inv
        exact .cons (roI_sound ha (fun p hp => hob p (by simp [hp])) k1) k2
      simp only [go_sem]
      refine loopN_go (fun (i : Nat) => i ≤ n ∧ ∀ j, j < i → X j ≠ z) (fun i => n - i) (fun i => [(5, i64 i)]) (fun i => []) [] [6, 7, 8, 9, 12, 13, 14, 15, 16, 17, 4, 10, 11, 5] 0 0 (by kernel_rfl) ⟨Nat.zero_le _, fun j hj => by omega⟩ ⟨[], ?_, ?_, ?_, ?_⟩ ?_
      · simp only [go_sem]
      · simp only [go_sem]
      · simp only [go_sem]
      · simp [goodNames, asg]
      rintro i ⟨hi, hj⟩
      simp only [go_sem]
      refine ⟨fun h => ⟨by omega, h, fun he => ?_, fun hne zz k1 => ⟨i + 1, ⟨by omega, fun j h2 => ?_⟩, by omega, [], by rw [k1, wrap_in (by unfold inR; omega)]; omega, by simp [goodNames, asg]⟩⟩, fun h => ?_⟩
      · symm
        rw [decide_eq_true_iff, mem_lX]
        exact ⟨i, by omega, by simpa using he⟩
      · by_cases e : j = i
        · subst e
          intro e2
          rw [e2] at hne
          simp at hne
        · exact hj j (by omega)
      · symm
        rw [decide_eq_false_iff_not, mem_lX]
        rintro ⟨j, h2, h3⟩
        exact hj j (by omega) h3
    · cases hc
  · cases hc
end Go.Ax
end

section
/-
  The laws' sweeps: the plain law.
-/
set_option linter.unusedVariables false
set_option linter.unusedSimpArgs false
set_option maxHeartbeats 4000000
set_option maxRecDepth 100000
namespace Go.Ax
open Go.Proofs
theorem sel_put {k k' : Int} {x : List Int} : ∀ {L : Ents}, memSel (memPut L k x) k' = if k = k' then some x else memSel L k'
  | [] => by simp [memPut, memSel]
  | (q, y) :: L => by
    unfold memPut
    by_cases e : q = k
    · rw [if_pos e]
      subst e
      simp only [memSel]
      split <;> rfl
    · rw [if_neg e]
      simp only [memSel, sel_put]
      by_cases e2 : q = k'
      · rw [if_pos e2, if_pos e2, if_neg (by rintro rfl; exact e e2)]
      · rw [if_neg e2, if_neg e2]
theorem keys_put {k : Int} {x : List Int} : ∀ {L : Ents}, (memPut L k x).map (·.1) = if k ∈ L.map (·.1) then L.map (·.1) else L.map (·.1) ++ [k]
  | [] => by simp [memPut]
  | (q, y) :: L => by
    unfold memPut
    by_cases e : q = k
    · rw [if_pos e, if_pos (by simp [e])]; rfl
    · rw [if_neg e]
      have ih := keys_put (k := k) (x := x) (L := L)
      simp only [List.map_cons, List.mem_cons]
      rw [ih]
      by_cases h : k ∈ L.map (·.1)
      · rw [if_pos h, if_pos (.inr h)]
      · rw [if_neg h, if_neg (by rintro (h2 | h2); exact e h2.symm; exact h h2)]; rfl
/-- A valid box. -/
def okBx (x : List Int) : Prop := ∃ a b c d, x = [a, b, c, d] ∧ checkBoxS a b c d = 0
/-- A sweep whose ids are those below n. -/
structure SwI (n : Nat) (L : Ents) : Prop where
  nod : keysN L
  key : ∀ k : Int, k ∈ L.map (·.1) ↔ 0 ≤ k ∧ k < n
  box : ∀ k x, memSel L k = some x → okBx x
def rngI (n : Nat) : List Int := (List.range n).map fun j : Nat => (j : Int)
theorem rngI_lt {n : Nat} : (rngI n).Pairwise fun a b => a < b := by
  unfold rngI
  rw [List.pairwise_map]
  exact List.pairwise_lt_range.imp fun h => by omega
theorem rngI_mem {n : Nat} {k : Int} : k ∈ rngI n ↔ 0 ≤ k ∧ k < n := by
  unfold rngI
  rw [List.mem_map]
  constructor
  · rintro ⟨j, h1, rfl⟩
    have := List.mem_range.1 h1
    omega
  · rintro ⟨h1, h2⟩
    exact ⟨k.toNat, List.mem_range.2 (by omega), by omega⟩
theorem rngI_len {n : Nat} : (rngI n).length = n := by simp [rngI]
theorem lt_nodup {l : List Int} (h : l.Pairwise fun a b => a < b) : l.Nodup := h.imp fun h => by omega
theorem perm_of_mem {l l' : List Int} (h : l.Nodup) (h' : l'.Nodup) (he : ∀ k, k ∈ l ↔ k ∈ l') : l.Perm l' := (List.perm_ext_iff_of_nodup h h').2 he
theorem SwI.perm {n : Nat} {L : Ents} (h : SwI n L) : (L.map (·.1)).Perm (rngI n) := perm_of_mem h.nod (lt_nodup rngI_lt) fun k => by rw [h.key, rngI_mem]
theorem SwI.srt {n : Nat} {L : Ents} (h : SwI n L) : srtK L = rngI n := srtK_eq h.perm (rngI_lt.imp fun h => by omega)
theorem SwI.len {n : Nat} {L : Ents} (h : SwI n L) : L.length = n := by
  have := h.perm.length_eq
  rwa [List.length_map, rngI_len] at this
theorem okBx_in {x : List Int} (h : okBx x) (j : Nat) : inR (selAt (some x) j) := by
  obtain ⟨a, b, c, d, rfl, hc⟩ := h
  have := checkBoxS_iff.1 hc
  unfold selAt inR
  rcases j with _ | _ | _ | _ | j <;> simp <;> omega
theorem selIn_of {L : Ents} (h : ∀ k x, memSel L k = some x → okBx x) : selIn L := fun k j => by
  cases hk : memSel L k with
  | none => unfold selAt inR; dsimp only; omega
  | some x => exact okBx_in (h k x hk) j
theorem SwI.selIn {n : Nat} {L : Ents} (h : SwI n L) : selIn L := selIn_of h.box
theorem SwI.put {n : Nat} {L : Ents} (h : SwI n L) {k : Int} {x : List Int} (hk : 0 ≤ k ∧ k < n) (hx : okBx x) : SwI n (memPut L k x) := by
  have hm := (h.key k).2 hk
  have hkeys : (memPut L k x).map (·.1) = L.map (·.1) := by rw [keys_put, if_pos hm]
  refine ⟨by unfold keysN; rw [hkeys]; exact h.nod, fun q => by rw [hkeys]; exact h.key q, fun q y hy => ?_⟩
  rw [sel_put] at hy
  split at hy
  · cases hy; exact hx
  · exact h.box q y hy
/-! ### What 'put' makes -/
theorem ptL_nod {n : Nat} {last : Bool} {B : Nat → List Int} : ∀ i, i ≤ n → keysN (ptL n last B i)
  | 0, _ => List.nodup_nil
  | i + 1, h => by
    unfold keysN
    rw [ptL, List.map_append]
    refine List.nodup_append.2 ⟨ptL_nod i (by omega), by simp, fun a ha b hb => ?_⟩
    have : b = (ptAt n last i : Nat) := by simpa using hb
    rw [this]
    rintro rfl
    exact ptL_no (by omega) ha
theorem ptL_I {n : Nat} {last : Bool} {B : Nat → List Int} (hB : ∀ j, j < n → okBx (B j)) : SwI n (ptL n last B n) := by
  refine ⟨ptL_nod n (Nat.le_refl n), fun k => ?_, fun k x hx => ?_⟩
  · rw [ptL_mem]
    constructor
    · rintro ⟨j, h1, rfl⟩
      have := ptAt_lt (last := last) h1
      omega
    · rintro ⟨h1, h2⟩
      refine ⟨ptAt n last k.toNat, ptAt_lt (by omega), ?_⟩
      unfold ptAt
      split <;> omega
  · have hm : ∀ i, i ≤ n → ∀ p ∈ ptL n last B i, okBx p.2 := fun i => by
      induction i with
      | zero => intro _ p hp; cases hp
      | succ i ih =>
        intro hi p hp
        rw [ptL, List.mem_append] at hp
        rcases hp with hp | hp
        · exact ih (by omega) p hp
        · have : p = ((ptAt n last i : Int), B (ptAt n last i)) := by simpa using hp
          rw [this]
          exact hB _ (ptAt_lt (by omega))
    exact hm n (Nat.le_refl n) _ (memSel_mem hx)
theorem ptL_sel {n : Nat} {last : Bool} {B : Nat → List Int} {j : Nat} (hj : j < n) : memSel (ptL n last B n) (j : Int) = some (B j) := by
  refine mem_memSel (ptL_nod n (Nat.le_refl n)) ?_
  have hm : ∀ i, i ≤ n → ∀ q, q < i → ((ptAt n last q : Int), B (ptAt n last q)) ∈ ptL n last B i := fun i => by
    induction i with
    | zero => intro _ q hq; omega
    | succ i ih =>
      intro hi q hq
      rw [ptL, List.mem_append]
      by_cases e : q = i
      · subst e; exact .inr (by simp)
      · exact .inl (ih (by omega) q (by omega))
  have h1 := hm n (Nat.le_refl n) (ptAt n last j) (ptAt_lt hj)
  have h2 : ptAt n last (ptAt n last j) = j := by unfold ptAt; split <;> omega
  rw [h2] at h1
  exact h1
/-! ### Boxes of numbers -/
theorem bx_in {x w sp sz : Int} (h0 : 0 ≤ sp) (h1 : sp ≤ 2097152) (h2 : 0 ≤ sz) : -2097152 ≤ bxX x sp ∧ bxX x sp ≤ bxF x w sp sz ∧ bxF x w sp sz ≤ 2097152 := by
  have a := modI_in (n := x) (m := 2 * sp + 1) (by omega)
  have b := modI_in (n := w) (m := sz + 1) (by omega)
  unfold bxF bxX
  omega
theorem bxG_ok {sp sz : Int} {X : Nat → Int} (h0 : 0 ≤ sp) (h1 : sp ≤ 2097152) (h2 : 0 ≤ sz) (j : Nat) : checkBoxS (bxX (X (4 * j)) sp) (bxX (X (4 * j + 1)) sp) (bxF (X (4 * j)) (X (4 * j + 2)) sp sz) (bxF (X (4 * j + 1)) (X (4 * j + 3)) sp sz) = 0 := by
  have a := bx_in (x := X (4 * j)) (w := X (4 * j + 2)) h0 h1 h2
  have b := bx_in (x := X (4 * j + 1)) (w := X (4 * j + 3)) h0 h1 h2
  rw [checkBoxS_iff]
  omega
theorem bxS_in {k : Nat} {X : Nat → Int} : 0 ≤ (bxS k X).1 ∧ (bxS k X).1 ≤ 2097152 ∧ 0 ≤ (bxS k X).2 := by
  unfold bxS
  generalize modS (if k = 0 then 0 else X (modS 0 k).toNat) 5 = z
  by_cases h : z = 4
  · rw [if_pos h]
    exact ⟨(by decide : (0 : Int) ≤ 2097152), (by decide : (2097152 : Int) ≤ 2097152), (by decide : (0 : Int) ≤ 2097152)⟩
  · rw [if_neg h]
    exact ⟨(by decide : (0 : Int) ≤ 40), (by decide : (40 : Int) ≤ 2097152), (by decide : (0 : Int) ≤ 20)⟩
theorem bxOK_G {n : Nat} {k : Nat} {X : Nat → Int} : bxOK n (bxG (bxS k X).1 (bxS k X).2 X) = True := eq_true fun i hi => ⟨rfl, bxG_ok bxS_in.1 bxS_in.2.1 bxS_in.2.2 i⟩
/-- The box number j. -/
def bxL (k : Nat) (X : Nat → Int) (j : Nat) : List Int := bxI (bxG (bxS k X).1 (bxS k X).2 X) j
theorem bxL_ok {k : Nat} {X : Nat → Int} (j : Nat) : okBx (bxL k X j) := ⟨_, _, _, _, rfl, bxG_ok bxS_in.1 bxS_in.2.1 bxS_in.2.2 j⟩
end Go.Ax
end

section
/-
  A way that begins in a box meets it.
-/
set_option linter.unusedVariables false
set_option linter.unusedSimpArgs false
set_option maxHeartbeats 4000000
namespace Go.Ax
theorem way_box {a b c d : Int} (h1 : validS a b = true) (h2 : validS c d = true) : wayB a b c d 0 = min a c ∧ wayB a b c d 1 = min b d ∧ wayB a b c d 2 = max a c ∧ wayB a b c d 3 = max b d := by
  have k1 := validS_iff.1 h1
  have k2 := validS_iff.1 h2
  have e1 : checkBoxS a b a b = 0 := checkBoxS_iff.2 (by omega)
  have e2 : checkBoxS c d c d = 0 := checkBoxS_iff.2 (by omega)
  unfold wayB
  rw [wrap_in (x := a - 0) (by unfold inR; omega), wrap_in (x := b - 0) (by unfold inR; omega), wrap_in (x := a + 0) (by unfold inR; omega), wrap_in (x := b + 0) (by unfold inR; omega), wrap_in (x := c - 0) (by unfold inR; omega), wrap_in (x := d - 0) (by unfold inR; omega), wrap_in (x := c + 0) (by unfold inR; omega), wrap_in (x := d + 0) (by unfold inR; omega)]
  simp only [Int.sub_zero, Int.add_zero]
  unfold joinT
  simp only [if_pos (And.intro e1 e2), and_self]
theorem mul_between {x y t n e : Int} (hn : 0 ≤ n) (he : n ≤ e) (h0 : 0 < e) : e * min x y ≤ e * x + n * (y - x) ∧ e * x + n * (y - x) ≤ e * max x y := by
  by_cases h : x ≤ y
  · rw [Int.min_eq_left h, Int.max_eq_right h]
    have k1 : 0 ≤ n * (y - x) := Int.mul_nonneg hn (by omega)
    have k2 : n * (y - x) ≤ e * (y - x) := Int.mul_le_mul_of_nonneg_right he (by omega)
    have k3 : e * (y - x) = e * y - e * x := Int.mul_sub ..
    omega
  · rw [Int.min_eq_right (by omega), Int.max_eq_left (by omega)]
    have k1 : 0 ≤ n * (x - y) := Int.mul_nonneg hn (by omega)
    have k2 : n * (x - y) ≤ e * (x - y) := Int.mul_le_mul_of_nonneg_right he (by omega)
    have k3 : e * (x - y) = e * x - e * y := Int.mul_sub ..
    have k4 : n * (y - x) = -(n * (x - y)) := by rw [← Int.mul_neg]; congr 1; omega
    omega
theorem anyB_of {G : Nat → Bool} {n i : Nat} (hi : i < n) (h : G i = true) : anyB G n = true := anyB_iff.2 ⟨i, hi, h⟩
/-- The spot is at the part num/den of the way, and in the box. -/
theorem al_point {x0 y0 x1 y1 a b c d num den : Int} (h1 : validS a b = true) (h2 : validS c d = true) (hb : checkBoxS x0 y0 x1 y1 = 0) (hn : 0 ≤ num) (he : num ≤ den) (h0 : 0 < den)
    (b1 : den * x0 ≤ den * a + num * (c - a)) (b2 : den * a + num * (c - a) ≤ den * x1) (b3 : den * y0 ≤ den * b + num * (d - b)) (b4 : den * b + num * (d - b) ≤ den * y1) : alS x0 y0 x1 y1 a b c d = true := by
  have k1 := validS_iff.1 h1
  have k2 := validS_iff.1 h2
  obtain ⟨w0, w1, w2, w3⟩ := way_box h1 h2
  have mx := mul_between (x := a) (y := c) (t := 0) hn he h0
  have my := mul_between (x := b) (y := d) (t := 0) hn he h0
  have le : ∀ {u v : Int}, den * u ≤ den * v → u ≤ v := fun h => Int.le_of_mul_le_mul_left h h0
  have hm : meetsS x0 y0 x1 y1 (min a c) (min b d) (max a c) (max b d) = true := decide_eq_true ⟨hb, checkBoxS_iff.2 (by omega), le (Int.le_trans b1 mx.2), le (Int.le_trans mx.1 b2), le (Int.le_trans b3 my.2), le (Int.le_trans my.1 b4)⟩
  generalize hP : den * a + num * (c - a) = P at *
  generalize hQ : den * b + num * (d - b) = Q at *
  have hz : (c - a) * (Q - den * b) - (d - b) * (P - den * a) = 0 := by rw [← hP, ← hQ]; grind
  have f0 : crS a b c d x0 y0 x1 y1 0 = (c - a) * (y0 - b) - (d - b) * (x0 - a) := rfl
  have f1 : crS a b c d x0 y0 x1 y1 1 = (c - a) * (y1 - b) - (d - b) * (x0 - a) := rfl
  have f2 : crS a b c d x0 y0 x1 y1 2 = (c - a) * (y0 - b) - (d - b) * (x1 - a) := rfl
  have f3 : crS a b c d x0 y0 x1 y1 3 = (c - a) * (y1 - b) - (d - b) * (x1 - a) := rfl
  have lo : ∃ j, j < 4 ∧ crS a b c d x0 y0 x1 y1 j ≤ 0 := by
    by_cases s : 0 ≤ c - a
    · by_cases t : 0 ≤ d - b
      · refine ⟨2, by omega, ?_⟩
        rw [f2]
        have m1 : (c - a) * (den * y0) ≤ (c - a) * Q := Int.mul_le_mul_of_nonneg_left b3 s
        have m2 : (d - b) * P ≤ (d - b) * (den * x1) := Int.mul_le_mul_of_nonneg_left b2 t
        refine le ?_
        grind
      · refine ⟨0, by omega, ?_⟩
        rw [f0]
        have m1 : (c - a) * (den * y0) ≤ (c - a) * Q := Int.mul_le_mul_of_nonneg_left b3 s
        have m2 : (b - d) * (den * x0) ≤ (b - d) * P := Int.mul_le_mul_of_nonneg_left b1 (by omega)
        refine le ?_
        grind
    · by_cases t : 0 ≤ d - b
      · refine ⟨3, by omega, ?_⟩
        rw [f3]
        have m1 : (a - c) * Q ≤ (a - c) * (den * y1) := Int.mul_le_mul_of_nonneg_left b4 (by omega)
        have m2 : (d - b) * P ≤ (d - b) * (den * x1) := Int.mul_le_mul_of_nonneg_left b2 t
        refine le ?_
        grind
      · refine ⟨1, by omega, ?_⟩
        rw [f1]
        have m1 : (a - c) * Q ≤ (a - c) * (den * y1) := Int.mul_le_mul_of_nonneg_left b4 (by omega)
        have m2 : (b - d) * (den * x0) ≤ (b - d) * P := Int.mul_le_mul_of_nonneg_left b1 (by omega)
        refine le ?_
        grind
  have hi : ∃ j, j < 4 ∧ 0 ≤ crS a b c d x0 y0 x1 y1 j := by
    by_cases s : 0 ≤ c - a
    · by_cases t : 0 ≤ d - b
      · refine ⟨1, by omega, ?_⟩
        rw [f1]
        have m1 : (c - a) * Q ≤ (c - a) * (den * y1) := Int.mul_le_mul_of_nonneg_left b4 s
        have m2 : (d - b) * (den * x0) ≤ (d - b) * P := Int.mul_le_mul_of_nonneg_left b1 t
        refine le ?_
        grind
      · refine ⟨3, by omega, ?_⟩
        rw [f3]
        have m1 : (c - a) * Q ≤ (c - a) * (den * y1) := Int.mul_le_mul_of_nonneg_left b4 s
        have m2 : (b - d) * P ≤ (b - d) * (den * x1) := Int.mul_le_mul_of_nonneg_left b2 (by omega)
        refine le ?_
        grind
    · by_cases t : 0 ≤ d - b
      · refine ⟨0, by omega, ?_⟩
        rw [f0]
        have m1 : (a - c) * (den * y0) ≤ (a - c) * Q := Int.mul_le_mul_of_nonneg_left b3 (by omega)
        have m2 : (d - b) * (den * x0) ≤ (d - b) * P := Int.mul_le_mul_of_nonneg_left b1 t
        refine le ?_
        grind
      · refine ⟨2, by omega, ?_⟩
        rw [f2]
        have m1 : (a - c) * (den * y0) ≤ (a - c) * Q := Int.mul_le_mul_of_nonneg_left b3 (by omega)
        have m2 : (b - d) * P ≤ (b - d) * (den * x1) := Int.mul_le_mul_of_nonneg_left b2 (by omega)
        refine le ?_
        grind
  obtain ⟨i, i1, i2⟩ := lo
  obtain ⟨j, j1, j2⟩ := hi
  unfold alS
  rw [w0, w1, w2, w3, h1, h2, hm, anyB_of i1 (decide_eq_true i2), anyB_of j1 (decide_eq_true j2)]
  rfl
theorem al_from {x0 y0 x1 y1 a b c d : Int} (h1 : validS a b = true) (h2 : validS c d = true) (hb : checkBoxS x0 y0 x1 y1 = 0) (b1 : x0 ≤ a ∧ a ≤ x1) (b2 : y0 ≤ b ∧ b ≤ y1) : alS x0 y0 x1 y1 a b c d = true :=
  al_point (num := 0) (den := 1) h1 h2 hb (by omega) (by omega) (by omega) (by omega) (by omega) (by omega) (by omega)
theorem al_meets {x0 y0 x1 y1 a b c d : Int} (h1 : validS a b = true) (h2 : validS c d = true) (h : alS x0 y0 x1 y1 a b c d = true) : x0 ≤ max a c ∧ min a c ≤ x1 ∧ y0 ≤ max b d ∧ min b d ≤ y1 := by
  obtain ⟨w0, w1, w2, w3⟩ := way_box h1 h2
  unfold alS at h
  rw [w0, w1, w2, w3] at h
  simp only [Bool.and_eq_true] at h
  have hm := h.2.2.1
  unfold meetsS at hm
  have hm := of_decide_eq_true hm
  exact hm.2.2
end Go.Ax
end

section
/-
  The frame of a law: its arguments ars abstract values, and what they read ars behind the call.
-/
set_option linter.unusedSimpArgs false
set_option linter.unusedVariables false
namespace Go.Ax
open Go.ChangeShapes Go.WideShapes Go.ChangeAt Go.RowKit

/-- What an argument is. -/
inductive ShV where
  | int (k : IntKind)
  | bool
  | agg (es : List Sh)
  | slice (sz : Nat) (es : List Sh)

def shV (P : Program) (t : TypeId) : Option ShV :=
  match P.underlying t with
  | some .bool => some .bool
  | some (.int k) => some (.int k)
  | some (.slice _) => match shT P 6 t with
    | some [.slice sz es] => some (.slice sz es)
    | _ => none
  | some (.struct _) => (shT P 6 t).map .agg
  | some (.array _ _) => (shT P 6 t).map .agg
  | _ => none

def fitV : ShV → AV → Prop
  | .int k, a => ∃ n, a = .v (.int k n) ∧ (Lit.int k n).wf = true
  | .bool, a => ∃ b, a = .v (.bool b)
  | .agg es, a => ∃ l, a = .agg l ∧ fitS es l
  | .slice sz es, a => ∃ (n : Nat) (get : Nat → List AV), a = .ro n sz get ∧ n ≤ maxLen ∧ ∀ i, fitS es (get i)

def shVs (P : Program) : List TypeId → Option (List ShV)
  | [] => some []
  | t :: ts => match shV P t, shVs P ts with
    | some s, some r => some (s :: r)
    | _, _ => none
def fitVs : List ShV → List AV → Prop
  | [], l => l = []
  | s :: ss, l => ∃ a r, l = a :: r ∧ fitV s a ∧ fitVs ss r

section
variable {H : Type} {enc : TypeId × Value → H} {P : Program} {w : World} {spare : Nat → Bool} {held : Bool} {base : Nat}

theorem okWide_agg_struct {t : TypeId} {fs : Array Field} {v : Value} (ht : P.underlying t = some (.struct fs)) (h : Value.okWide P w .any base t v) : ∃ cs, v = .agg cs := by
  obtain ⟨cs, h, _⟩ := okWide_struct ht h
  exact ⟨cs, h⟩
theorem trod_agg_array {t e : TypeId} {n : Nat} {v : Value} {x : DataW H} {ps : List MemPlace} (ht : P.underlying t = some (.array n e)) (h : Value.okWide P w .any base t v) : ∃ cs, v = .agg cs := by
  cases v <;> simp [Value.okWide, Value.ok, ht] at h <;> exact ⟨_, rfl⟩

theorem arg_read {t : TypeId} {s : ShV} {v : Value} {x : DataW H} {ps : List MemPlace} (hs : shV P t = some s) (ho : Value.okWide P w .any base t v) (h : DataW.Trod enc P w 0 spare held t v x ps) : ∃ a, fitV s a ∧ R w (.ext (All w)) a v := by
  unfold shV at hs
  split at hs
  · rename_i hu
    cases hs
    obtain ⟨b, rfl⟩ := okWide_bool hu ho
    exact ⟨_, ⟨b, rfl⟩, .v⟩
  · rename_i k hu
    cases hs
    obtain ⟨n, rfl, _, _, hw⟩ := open_int hu ho h
    exact ⟨_, ⟨n, rfl, hw⟩, .v⟩
  · rename_i e hu
    split at hs
    · rename_i sz es he
      cases hs
      obtain ⟨a, len, cap, rfl⟩ := okWide_slice hu ho
      obtain ⟨n, get, h1, h2, h3⟩ := slice_read he h
      exact ⟨_, ⟨n, get, rfl, h1, h2⟩, h3⟩
    · cases hs
  · rename_i fs hu
    obtain ⟨es, he, rfl⟩ := Option.map_eq_some_iff.1 hs
    obtain ⟨cs, rfl⟩ := okWide_agg_struct hu ho
    obtain ⟨l, h1, h2⟩ := agg_read he h
    exact ⟨_, ⟨l, rfl, h1⟩, h2⟩
  · rename_i n e hu
    obtain ⟨es, he, rfl⟩ := Option.map_eq_some_iff.1 hs
    obtain ⟨cs, rfl⟩ := trod_agg_array (x := x) (ps := ps) hu ho
    obtain ⟨l, h1, h2⟩ := agg_read he h
    exact ⟨_, ⟨l, rfl, h1⟩, h2⟩
  · cases hs

theorem args_read : ∀ {ts : List TypeId} {ss : List ShV} {vs : List Value} {ds : List (DataW H)} {ps : List MemPlace}, shVs P ts = some ss → (∀ (j : Nat) t v, ts[j]? = some t → vs[j]? = some v → Value.okWide P w .any base t v) →
    DataW.TrodAll enc P w 0 spare held ts vs ds ps → ∃ l, fitVs ss l ∧ Rs w (.ext (All w)) l vs
  | [], ss, vs, ds, ps, hs, ho, h => by
    simp only [shVs, Option.some.injEq] at hs
    subst hs
    obtain ⟨rfl, rfl, rfl⟩ := trodAll_nil h
    exact ⟨[], rfl, .nil⟩
  | t :: ts, ss, vs, ds, ps, hs, ho, h => by
    simp only [shVs] at hs
    split at hs
    · rename_i s r h1 h2
      cases hs
      obtain ⟨v, vs', d, ds', p, q, rfl, rfl, rfl, h3, h4⟩ := trodAll_cons h
      obtain ⟨a, a1, a2⟩ := arg_read h1 (ho 0 t v rfl rfl) h3
      obtain ⟨l, b1, b2⟩ := args_read h2 (fun j t v hj hv => ho (j + 1) t v (by simpa using hj) (by simpa using hv)) h4
      exact ⟨a :: l, ⟨a, l, rfl, a1, b1⟩, Rs.cons a2 b2⟩
    · cases hs

/-- Types that may be read whole. -/
def readOK (P : Program) (ts : List TypeId) : Bool := ts.all fun t => P.readableRec t && decide (t < P.types.size)

theorem args_stay {W W' : World} (hl : laidOutB P = true) (hb : Below W.heap.size W W') : ∀ {ts : List TypeId} {vs : List Value} {ds : List (DataW H)} {ps : List MemPlace}, readOK P ts = true →
    DataW.TrodAll enc P W 0 (fun _ => true) true ts vs ds ps → ∃ ps, DataW.TrodAll enc P W' 0 (fun b => decide (b < W.heap.size)) true ts vs ds ps
  | [], vs, ds, ps, _, h => by
    obtain ⟨rfl, rfl, rfl⟩ := trodAll_nil h
    exact ⟨[], rfl⟩
  | t :: ts, vs, ds, ps, hr, h => by
    obtain ⟨v, vs', d, ds', p, q, rfl, rfl, rfl, h3, h4⟩ := trodAll_cons h
    simp only [readOK, List.all_cons, Bool.and_eq_true, decide_eq_true_eq] at hr
    obtain ⟨q', h5⟩ := args_stay hl hb (by simpa [readOK] using hr.2) h4
    refine ⟨_, trodAll_cons_mk (Below.trod hl hr.1.1 hr.1.2 h3 hb ?_) h5⟩
    obtain ⟨m, hm⟩ := h3
    exact DataW.trod_lt m _ _ _ hm
end
end Go.Ax
end

section
/-
  Laws about tables and sweeps: their arguments.
-/
set_option linter.unusedVariables false
set_option linter.unusedSimpArgs false
set_option maxHeartbeats 4000000
set_option maxRecDepth 100000
namespace Go.Ax
open Go.Proofs Go.ChangeShapes Go.WideShapes Go.ChangeAt Go.RowKit
theorem rowI {l : List AV} (h : fitS [.int .i64] l) : l = [i64 (gi l 0)] ∧ inR (gi l 0) := by
  obtain ⟨_, _, rfl, ⟨x0, rfl, k0⟩, rfl⟩ := h
  exact ⟨rfl, wf_i64 k0⟩
theorem rowsI {get : Nat → List AV} (h : ∀ i, fitS [.int .i64] (get i)) : get = (fun i => [i64 (gx get 0 i)]) ∧ ∀ i, inR (gx get 0 i) := ⟨funext fun i => (rowI (h i)).1, fun i => (rowI (h i)).2⟩
end Go.Ax
end
