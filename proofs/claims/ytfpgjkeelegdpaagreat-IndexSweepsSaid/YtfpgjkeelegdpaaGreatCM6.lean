/-
  Deleting from a slice by a closure.
-/
import Derived.Test.YtfpgjkeelegdpaaGreatCM5
import Derived.Calls
import Derived.Shelf.SlSortCmp.NoneTotal
import Derived.Ground.SlsfProg
section
set_option linter.unusedVariables false
set_option linter.unusedSimpArgs false
set_option maxHeartbeats 4000000
set_option maxRecDepth 100000
namespace Go.Ax
open Go.Proofs
attribute [go_sem] rmR_nil rmR_cons Option.toList_none Option.toList_some
def prdf (L : Ents) : Option (Prop × (Int → Int → Int → Int → Bool)) → Option (List Prop × (Int → Bool))
  | some (o, p) => some ([selIn L, o], fun k => !p (selAt (memSel L k) 0) (selAt (memSel L k) 1) (selAt (memSel L k) 2) (selAt (memSel L k) 3))
  | none => none
/-- What a closure says of a number. -/
def prd : AV → Option (List Prop × (Int → Bool))
  | .fn 71 [.rop [.rop [.rm 4 L]], .rop (.v (.int .i64 a) :: l)] => some ([], fun k => decide (selAt (memSel L k) 2 < a))
  | .fn 116 [.rop [B], .rop [.rop [.rm 4 L]]] => prdf L (bpr B)
  | _ => none
def ixS (p : Int → Bool) (n : Nat) (X : Nat → Int) : Int := if lst (fun j => p (X j)) n < n then (lst (fun j => p (X j)) n : Nat) else -1
theorem ix_yes {p : Int → Bool} {n : Nat} {X : Nat → Int} {i : Nat} (hj : ∀ j, j < i → p (X j) = false) (h : (i : Int) < n) (hp : p (X i) = true) : (i : Int) = ixS p n X := by
  have hl : lst (fun j => p (X j)) n = i := lst_eq hj (by omega) hp
  unfold ixS
  rw [hl, if_pos (by omega)]
theorem ix_no {p : Int → Bool} {n : Nat} {X : Nat → Int} {i : Nat} (hi : i ≤ n) (hj : ∀ j, j < i → p (X j) = false) (h : ¬ (i : Int) < n) : -1 = ixS p n X := by
  have hl : lst (fun j => p (X j)) n = n := lst_full fun j h2 => hj j (by omega)
  unfold ixS
  rw [hl, if_neg (by omega)]
theorem ix_next {p : Int → Bool} {X : Nat → Int} {i : Nat} (hj : ∀ j, j < i → p (X j) = false) (hf : p (X i) = false) : ∀ j, j < i + 1 → p (X j) = false := fun j h => by
  by_cases e : j = i
  · rw [e]; exact hf
  · exact hj j (by omega)
def c114f (n : Nat) (X : Nat → Int) (g : Nat → List AV) : Option (List Prop × (Int → Bool)) → Option (List Prop × AV)
  | some (ob, p) => some (ints n g :: (n ≤ 1000) :: ob, i64 (ixS p n X))
  | none => none
def c114 : Con
  | [.ro n 1 g, F] => c114f n (gx g 0) g (prd F)
  | _ => none
theorem con114 : ConOK Tryz.prog 114 c114 := ConOK.go (G := [(71, c71), (116, c116)]) (H := []) (.cons con71 (.cons con116 .nil)) Tryz.func114 fun l ob rr hc hob => by
  unfold c114 at hc
  split at hc
  · rename_i n g F
    unfold c114f at hc
    split at hc
    · rename_i obp p hp
      cases hc
      have h1 : ints n g := hob _ (by simp)
      have h2 : n ≤ 1000 := hob _ (by simp)
      refine ⟨[.ro n 1 fun i => [i64 (gx g 0 i)], F], fun w I vs hR => ?_, by kernel_rfl, fnVC_go (rs := [.tmp 4]) rfl rfl ?_⟩
      · obtain ⟨y, ys, rfl, k1, k2⟩ := hR.inv
        exact .cons (ro_alike (fun i hi => h1 i hi) k1) k2
      obtain ⟨X, hX⟩ : ∃ X : Nat → Int, X = gx g 0 := ⟨_, rfl⟩
      rw [← hX]
      have hob : ∀ x ∈ obp, x := fun x hx => hob x (by simp [hx])
      unfold prd at hp
      split at hp
      · rename_i L a l
        cases hp
        simp only [go_sem]
        obtain ⟨p, hpd⟩ : ∃ p : Int → Bool, p = fun k => decide (selAt (memSel L k) 2 < a) := ⟨_, rfl⟩
        rw [← hpd]
        refine loopN_go (fun (i : Nat) => i ≤ n ∧ ∀ j, j < i → p (X j) = false) (fun i => n - i) (fun i => [(8, i64 i)]) (fun i => []) [] [9, 10, 5, 11, 12, 13, 14, 15, 16, 17, 4, 18, 8] 0 0 (by kernel_rfl) ⟨Nat.zero_le _, fun j hj => by omega⟩ ⟨[], ?_, ?_, ?_, ?_⟩ ?_
        · simp only [go_sem]
        · simp only [go_sem]
        · simp only [go_sem]
        · simp [goodNames, asg]
        rintro i ⟨hi, hj⟩
        simp only [go_sem, c71]
        refine ⟨fun h => ⟨by omega, h, fun z hz => ?_⟩, fun h => ix_no hi hj h⟩
        have hz : z = p (X i) := by rw [hz, hpd]
        refine ⟨fun ht => ix_yes hj h (by rw [← hz]; exact ht), fun hf z1 k1 => ⟨i + 1, ⟨by omega, ix_next hj (by rw [← hz]; exact hf)⟩, by omega, [], by rw [k1, wrap_in (by unfold inR; omega)]; omega, by simp [goodNames, asg]⟩⟩
      · rename_i B L
        unfold prdf at hp
        split at hp
        case h_2 => cases hp
        rename_i o q hB
        cases hp
        have o1 : selIn L := hob _ (by simp)
        have o2 : o := hob _ (by simp)
        simp only [go_sem]
        obtain ⟨p, hpd⟩ : ∃ p : Int → Bool, p = fun k => !q (selAt (memSel L k) 0) (selAt (memSel L k) 1) (selAt (memSel L k) 2) (selAt (memSel L k) 3) := ⟨_, rfl⟩
        rw [← hpd]
        refine loopN_go (fun (i : Nat) => i ≤ n ∧ ∀ j, j < i → p (X j) = false) (fun i => n - i) (fun i => [(8, i64 i)]) (fun i => []) [] [9, 10, 5, 11, 12, 13, 14, 15, 16, 17, 4, 18, 8] 0 0 (by kernel_rfl) ⟨Nat.zero_le _, fun j hj => by omega⟩ ⟨[], ?_, ?_, ?_, ?_⟩ ?_
        · simp only [go_sem]
        · simp only [go_sem]
        · simp only [go_sem]
        · simp [goodNames, asg]
        rintro i ⟨hi, hj⟩
        simp only [go_sem, c71, hB, o1, o2]
        refine ⟨fun h => ⟨by omega, h, fun z hz => ?_⟩, fun h => ix_no hi hj h⟩
        have hz : z = p (X i) := by rw [hz, hpd]
        refine ⟨fun ht => ix_yes hj h (by rw [← hz]; exact ht), fun hf z1 k1 => ⟨i + 1, ⟨by omega, ix_next hj (by rw [← hz]; exact hf)⟩, by omega, [], by rw [k1, wrap_in (by unfold inR; omega)]; omega, by simp [goodNames, asg]⟩⟩
      · cases hp
    · cases hc
  · cases hc
theorem prd_71 {L : Ents} {a : Int} {l : List AV} : prd (.fn 71 [.rop [.rop [.rm 4 L]], .rop (.v (.int .i64 a) :: l)]) = some ([], fun k => decide (selAt (memSel L k) 2 < a)) := (rfl)
theorem prd_116 {L : Ents} {B : AV} : prd (.fn 116 [.rop [B], .rop [.rop [.rm 4 L]]]) = prdf L (bpr B) := (rfl)
theorem prdf_some {L : Ents} {o : Prop} {p : Int → Int → Int → Int → Bool} : prdf L (some (o, p)) = some ([selIn L, o], fun k => !p (selAt (memSel L k) 0) (selAt (memSel L k) 1) (selAt (memSel L k) 2) (selAt (memSel L k) 3)) := (rfl)
theorem c114_eq {n : Nat} {g : Nat → List AV} {F : AV} : c114 [.ro n 1 g, F] = c114f n (gx g 0) g (prd F) := (rfl)
theorem c114f_some {n : Nat} {X : Nat → Int} {g : Nat → List AV} {ob : List Prop} {p : Int → Bool} : c114f n X g (some (ob, p)) = some (ints n g :: (n ≤ 1000) :: ob, i64 (ixS p n X)) := (rfl)
attribute [go_sem] prd_71 prd_116 prdf_some c114_eq c114f_some
/-- What is left of the first i. -/
def flt (p : Int → Bool) (X : Nat → Int) : Nat → List Int
  | 0 => []
  | i + 1 => flt p X i ++ (if p (X i) = true then [] else [X i])
theorem flt_le {p : Int → Bool} {X : Nat → Int} : ∀ i, (flt p X i).length ≤ i
  | 0 => Nat.le_refl _
  | i + 1 => by
    simp only [flt, List.length_append]
    have := flt_le (p := p) (X := X) i
    split <;> simp <;> omega
theorem flt_all {p : Int → Bool} {X : Nat → Int} : ∀ i, (∀ j, j < i → p (X j) = false) → flt p X i = (List.range i).map X
  | 0, _ => rfl
  | i + 1, h => by
    rw [flt, flt_all i fun j hj => h j (by omega), h i (by omega), List.range_succ, List.map_append]
    rfl
def flX (p : Int → Bool) (X : Nat → Int) (N j : Nat) : Int := (flt p X N).getD j 0
theorem flt_len_all {p : Int → Bool} {X : Nat → Int} {i : Nat} (h : ∀ j, j < i → p (X j) = false) : (flt p X i).length = i := by rw [flt_all i h]; simp
theorem flt_get_all {p : Int → Bool} {X : Nat → Int} {i j : Nat} (h : ∀ j, j < i → p (X j) = false) (hj : j < i) : (flt p X i).getD j 0 = X j := by
  rw [flt_all i h, List.getD_eq_getElem?_getD, List.getElem?_map, List.getElem?_range hj]
  rfl
/-- How far the deleting is. -/
def dlOK (p : Int → Bool) (X : Nat → Int) (N : Nat) (x : Nat × (Nat → Int)) : Prop := x.1 ≤ N ∧ (∀ j, j < (flt p X x.1).length → x.2 j = (flt p X x.1).getD j 0) ∧ ∀ j, x.1 ≤ j → x.2 j = X j
theorem dl_first {p : Int → Bool} {X : Nat → Int} {N : Nat} (h : lst (fun j => p (X j)) N < N) : dlOK p X N (lst (fun j => p (X j)) N + 1, X) ∧ (flt p X (lst (fun j => p (X j)) N + 1)).length = lst (fun j => p (X j)) N := by
  have hno : ∀ j, j < lst (fun j => p (X j)) N → p (X j) = false := fun j hj => lst_no (p := fun j => p (X j)) hj
  have hyes : p (X (lst (fun j => p (X j)) N)) = true := lst_yes (p := fun j => p (X j)) h
  have e : flt p X (lst (fun j => p (X j)) N + 1) = flt p X (lst (fun j => p (X j)) N) := by
    rw [flt, hyes]; simp
  refine ⟨⟨h, fun j hj => ?_, fun j hj => rfl⟩, by rw [e, flt_len_all hno]⟩
  rw [e, flt_len_all hno] at hj
  rw [e, flt_get_all hno hj]
theorem dl_skip {p : Int → Bool} {X : Nat → Int} {N i : Nat} {Y : Nat → Int} (h : dlOK p X N (i, Y)) (hi : i < N) (hp : p (X i) = true) : dlOK p X N (i + 1, Y) ∧ (flt p X (i + 1)).length = (flt p X i).length := by
  have e : flt p X (i + 1) = flt p X i := by rw [flt, hp]; simp
  obtain ⟨h1, h2, h3⟩ := h
  exact ⟨⟨hi, by dsimp only; rw [e]; exact h2, fun j hj => h3 j (by have hj : i + 1 ≤ j := hj; show i ≤ j; omega)⟩, by rw [e]⟩
theorem dl_keep {p : Int → Bool} {X : Nat → Int} {N i : Nat} {Y : Nat → Int} (h : dlOK p X N (i, Y)) (hi : i < N) (hp : p (X i) = false) : dlOK p X N (i + 1, fun j => if j = (flt p X i).length then X i else Y j) ∧ (flt p X (i + 1)).length = (flt p X i).length + 1 := by
  have e : flt p X (i + 1) = flt p X i ++ [X i] := by rw [flt, hp]; simp
  obtain ⟨h1, h2, h3⟩ := h
  have hle := flt_le (p := p) (X := X) i
  refine ⟨⟨hi, fun j hj => ?_, fun j hj => ?_⟩, by rw [e]; simp⟩
  · dsimp only at hj ⊢
    rw [e, List.length_append, List.length_singleton] at hj
    rw [e, List.getD_eq_getElem?_getD]
    split
    · rename_i e2
      rw [e2]; simp
    · have h2' := h2 j (show j < (flt p X i).length from by omega)
      dsimp only at h2'
      rw [h2', List.getD_eq_getElem?_getD, List.getElem?_append_left (by omega)]
  · have hj : i + 1 ≤ j := hj
    dsimp only
    rw [if_neg (by omega)]
    exact h3 j (by show i ≤ j; omega)
def canI (g : Nat → List AV) (i : Nat) : List AV := [i64 (gx g 0 i)]
def F70 : SRF := fun N get rest => match rest with
  | [F] => match prd F with
    | some (ob, p) => some ((N ≤ 1000) :: ob, fun r => .own r 0 (flt p (gx get 0) N).length 1, N, fun j => [i64 (flX p (gx get 0) N j)])
    | none => none
  | _ => none
noncomputable def m70 : MCon := mcSR 1 3 canI F70
theorem mon70 : MConOK Tryz.prog 70 m70 := MConOK.mcSR (SRSem.of (G := [(114, c114), (71, c71), (116, c116)]) (H := []) (.cons con114 (.cons con71 (.cons con116 .nil))) Tryz.func70 fun N get rest ob v N' get' hF hob => by
  unfold F70 at hF
  split at hF
  · rename_i F
    split at hF
    · rename_i obp p hp
      cases hF
      have h2 : N ≤ 1000 := hob _ (by simp)
      have hob : ∀ x ∈ obp, x := fun x hx => hob x (by simp [hx])
      obtain ⟨X, hX⟩ : ∃ X : Nat → Int, X = gx get 0 := ⟨_, rfl⟩
      have hcan : gx (canI get) 0 = X := hX.symm
      have hcan2 : canI get = fun i => [i64 (X i)] := by rw [hX]; rfl
      have hcl : clean 3 F = true := by
        unfold prd at hp
        split at hp <;> first | rfl | (simp [clean]; done) | (cases hp)
      rw [hcan, hcan2]
      refine ⟨[F], .own 0 0 (flt p X N).length 1, fun w I vs hR => hR, by simpa using hcl, fun i _ => rfl, fun i _ => rfl, by kernel_rfl, fun θ r h => by simp only [renA, h], fun g B h1 h2 => h1, bodyM_go (rs := [.tmp 4]) rfl rfl ?_⟩
      unfold prd at hp
      split at hp
      · rename_i L a l
        cases hp
        simp only [go_sem, ints_can, gx_int, h2]
        obtain ⟨p, hpd⟩ : ∃ p : Int → Bool, p = fun k => decide (selAt (memSel L k) 2 < a) := ⟨_, rfl⟩
        rw [← hpd]
        intro z hz
        refine ⟨fun h1 => ?_, fun h0 z1 k1 => ?_⟩
        · have hn : ∀ j, j < N → p (X j) = false := fun j hj => by
            have hl : ¬ lst (fun j => p (X j)) N < N := fun hl => by
              have h1 : z = -1 := by simpa using h1
              rw [h1] at hz; unfold ixS at hz; rw [if_pos hl] at hz; omega
            have := lst_le (p := fun j => p (X j)) N
            exact lst_no (p := fun j => p (X j)) (n := N) (by omega)
          rw [flt_len_all hn]
          exact ⟨rfl, _, rfl, fun j hj => by unfold flX; rw [flt_get_all hn hj]⟩
        have hl : lst (fun j => p (X j)) N < N := Classical.byContradiction fun hl => by
          unfold ixS at hz; rw [if_neg hl] at hz
          rw [hz] at h0; cases h0
        obtain ⟨d1, d2⟩ := dl_first hl
        have hz : z = (lst (fun j => p (X j)) N : Nat) := by unfold ixS at hz; rw [if_pos hl] at hz; exact hz
        have k1 : z1 = ((lst (fun j => p (X j)) N + 1 : Nat) : Int) := by rw [k1, hz, wrap_in (by unfold inR; omega)]; omega
        subst k1
        rw [← d2] at hz
        subst hz
        clear h0
        generalize lst (fun j => p (X j)) N + 1 = i0 at d1 d2
        refine loopN_go (dlOK p X N) (fun x => N - x.1) (fun x => [(6, i64 (x.1 : Int)), (5, i64 ((flt p X x.1).length : Int))]) (fun x => [(0, famN N 1 3 (fun j => [i64 (x.2 j)]) none)]) [] [16, 17, 18, 19, 22, 23, 24, 25, 7, 26, 27, 28, 29, 30, 31, 32, 33, 34, 35, 5, 20, 21, 6] 0 (i0, X) (by kernel_rfl) d1 ⟨[], ?_, ?_, ?_, ?_⟩ ?_
        · simp only [go_sem]
        · simp only [go_sem]; exact fun _ _ => trivial
        · simp only [go_sem]
        · simp [goodNames, asg]
        rintro ⟨i, Y⟩ hx
        obtain ⟨g1, g2, g3⟩ := hx
        have hle := flt_le (p := p) (X := X) i
        have g3' := g3 i (Nat.le_refl _)
        dsimp only at g1 g2 g3 g3' ⊢
        simp only [go_sem, c71, ints_can, gx_int, h2, g3']
        refine ⟨fun h => ⟨by omega, h, by omega, fun z hz => ?_⟩, fun h => ?_⟩
        · have hz : z = p (X i) := by rw [hz, hpd]
          refine ⟨fun hf => ⟨by omega, by omega, by omega, fun z1 k1 z2 k2 => ?_⟩, fun ht z1 k1 => ?_⟩
          · obtain ⟨d3, d4⟩ := dl_keep (N := N) ⟨g1, g2, g3⟩ (by omega) (by rw [← hz]; exact hf)
            refine ⟨_, d3, by show N - (i + 1) < N - i; omega, [], ⟨?_, ?_⟩, ?_, ?_⟩
            · rw [k2, wrap_in (by unfold inR; omega)]; show (i : Int) + 1 = ((i + 1 : Nat) : Int); omega
            · rw [k1, wrap_in (by unfold inR; omega)]; show _ = (((flt p X (i + 1)).length : Nat) : Int); rw [d4]; omega
            · simp only [go_sem]
              intro q hq
              split <;> simp only [go_sem]
            · simp [goodNames, asg]
          · obtain ⟨d3, d4⟩ := dl_skip (N := N) ⟨g1, g2, g3⟩ (by omega) (by rw [← hz]; exact ht)
            refine ⟨_, d3, by show N - (i + 1) < N - i; omega, [], ⟨?_, ?_⟩, ?_, ?_⟩
            · rw [k1, wrap_in (by unfold inR; omega)]; show (i : Int) + 1 = ((i + 1 : Nat) : Int); omega
            · show _ = (((flt p X (i + 1)).length : Nat) : Int); rw [d4]
            · simp only [go_sem]
              exact fun _ _ => trivial
            · simp [goodNames, asg]
        · have e : i = N := by omega
          subst e
          refine ⟨by omega, by omega, by omega, by omega, by omega, ?_, _, rfl, fun j hj => ?_⟩
          · rw [show ((flt p X i).length - 0 : Int).toNat = (flt p X i).length by omega]
          · unfold flX
            by_cases hlt : j < (flt p X i).length
            · rw [if_neg (by omega), g2 j hlt]
            · rw [if_pos (by omega), List.getD_eq_getElem?_getD, List.getElem?_eq_none (by omega)]
              rfl
      · rename_i B L
        unfold prdf at hp
        split at hp
        case h_2 => cases hp
        rename_i o q hB
        cases hp
        have o1 : selIn L := hob _ (by simp)
        have o2 : o := hob _ (by simp)
        simp only [go_sem, hB, o1, o2, ints_can, gx_int, h2]
        obtain ⟨p, hpd⟩ : ∃ p : Int → Bool, p = fun k => !q (selAt (memSel L k) 0) (selAt (memSel L k) 1) (selAt (memSel L k) 2) (selAt (memSel L k) 3) := ⟨_, rfl⟩
        rw [← hpd]
        intro z hz
        refine ⟨fun h1 => ?_, fun h0 z1 k1 => ?_⟩
        · have hn : ∀ j, j < N → p (X j) = false := fun j hj => by
            have hl : ¬ lst (fun j => p (X j)) N < N := fun hl => by
              have h1 : z = -1 := by simpa using h1
              rw [h1] at hz; unfold ixS at hz; rw [if_pos hl] at hz; omega
            have := lst_le (p := fun j => p (X j)) N
            exact lst_no (p := fun j => p (X j)) (n := N) (by omega)
          rw [flt_len_all hn]
          exact ⟨rfl, _, rfl, fun j hj => by unfold flX; rw [flt_get_all hn hj]⟩
        have hl : lst (fun j => p (X j)) N < N := Classical.byContradiction fun hl => by
          unfold ixS at hz; rw [if_neg hl] at hz
          rw [hz] at h0; cases h0
        obtain ⟨d1, d2⟩ := dl_first hl
        have hz : z = (lst (fun j => p (X j)) N : Nat) := by unfold ixS at hz; rw [if_pos hl] at hz; exact hz
        have k1 : z1 = ((lst (fun j => p (X j)) N + 1 : Nat) : Int) := by rw [k1, hz, wrap_in (by unfold inR; omega)]; omega
        subst k1
        rw [← d2] at hz
        subst hz
        clear h0
        generalize lst (fun j => p (X j)) N + 1 = i0 at d1 d2
        refine loopN_go (dlOK p X N) (fun x => N - x.1) (fun x => [(6, i64 (x.1 : Int)), (5, i64 ((flt p X x.1).length : Int))]) (fun x => [(0, famN N 1 3 (fun j => [i64 (x.2 j)]) none)]) [] [16, 17, 18, 19, 22, 23, 24, 25, 7, 26, 27, 28, 29, 30, 31, 32, 33, 34, 35, 5, 20, 21, 6] 0 (i0, X) (by kernel_rfl) d1 ⟨[], ?_, ?_, ?_, ?_⟩ ?_
        · simp only [go_sem]
        · simp only [go_sem]; exact fun _ _ => trivial
        · simp only [go_sem]
        · simp [goodNames, asg]
        rintro ⟨i, Y⟩ hx
        obtain ⟨g1, g2, g3⟩ := hx
        have hle := flt_le (p := p) (X := X) i
        have g3' := g3 i (Nat.le_refl _)
        dsimp only at g1 g2 g3 g3' ⊢
        simp only [go_sem, c71, hB, ints_can, gx_int, h2, g3', o1, o2]
        refine ⟨fun h => ⟨by omega, h, by omega, fun z hz => ?_⟩, fun h => ?_⟩
        · have hz : z = p (X i) := by rw [hz, hpd]
          refine ⟨fun hf => ⟨by omega, by omega, by omega, fun z1 k1 z2 k2 => ?_⟩, fun ht z1 k1 => ?_⟩
          · obtain ⟨d3, d4⟩ := dl_keep (N := N) ⟨g1, g2, g3⟩ (by omega) (by rw [← hz]; exact hf)
            refine ⟨_, d3, by show N - (i + 1) < N - i; omega, [], ⟨?_, ?_⟩, ?_, ?_⟩
            · rw [k2, wrap_in (by unfold inR; omega)]; show (i : Int) + 1 = ((i + 1 : Nat) : Int); omega
            · rw [k1, wrap_in (by unfold inR; omega)]; show _ = (((flt p X (i + 1)).length : Nat) : Int); rw [d4]; omega
            · simp only [go_sem]
              intro q hq
              split <;> simp only [go_sem]
            · simp [goodNames, asg]
          · obtain ⟨d3, d4⟩ := dl_skip (N := N) ⟨g1, g2, g3⟩ (by omega) (by rw [← hz]; exact ht)
            refine ⟨_, d3, by show N - (i + 1) < N - i; omega, [], ⟨?_, ?_⟩, ?_, ?_⟩
            · rw [k1, wrap_in (by unfold inR; omega)]; show (i : Int) + 1 = ((i + 1 : Nat) : Int); omega
            · show _ = (((flt p X (i + 1)).length : Nat) : Int); rw [d4]
            · simp only [go_sem]
              exact fun _ _ => trivial
            · simp [goodNames, asg]
        · have e : i = N := by omega
          subst e
          refine ⟨by omega, by omega, by omega, by omega, by omega, ?_, _, rfl, fun j hj => ?_⟩
          · rw [show ((flt p X i).length - 0 : Int).toNat = (flt p X i).length by omega]
          · unfold flX
            by_cases hlt : j < (flt p X i).length
            · rw [if_neg (by omega), g2 j hlt]
            · rw [if_pos (by omega), List.getD_eq_getElem?_getD, List.getElem?_eq_none (by omega)]
              rfl
      · cases hp
    · cases hF
  · cases hF)
end Go.Ax
end

section
/-
  The sweep's queries.
-/
set_option linter.unusedVariables false
set_option linter.unusedSimpArgs false
set_option maxHeartbeats 4000000
set_option maxRecDepth 100000
namespace Go.Ax
open Go.Proofs
theorem flt_filter {p : Int → Bool} {l : List Int} : ∀ i, i ≤ l.length → flt p (fun j => l.getD j 0) i = (l.take i).filter fun k => !p k
  | 0, _ => by simp [flt]
  | i + 1, h => by
    rw [flt, flt_filter i (by omega), List.take_add_one, List.filter_append, List.getElem?_eq_getElem (by omega)]
    congr 1
    have e : l.getD i 0 = l[i] := by rw [List.getD_eq_getElem?_getD, List.getElem?_eq_getElem (by omega)]; rfl
    rw [e]
    cases hp : p l[i] <;> simp [hp]
theorem flt_len {p : Int → Bool} {l : List Int} : flt p (fun j => l.getD j 0) l.length = l.filter fun k => !p k := by
  rw [flt_filter _ (Nat.le_refl _), List.take_length]
/-- The ids whose boxes are seen. -/
def seenL (L : Ents) (p : Int → Int → Int → Int → Bool) : List Int := (srtK L).filter fun k => p (selAt (memSel L k) 0) (selAt (memSel L k) 1) (selAt (memSel L k) 2) (selAt (memSel L k) 3)
theorem famNro_ints {n : Nat} {ty : TypeId} {X : Nat → Int} {g : Option Bool} : famNro (famN n 1 ty (fun j => [i64 (X j)]) g) = True := eq_true fun f j hj c hc => by
  match f with
  | 0 =>
    have hc : c ∈ [i64 (X j)] := hc
    simp only [List.mem_cons, List.not_mem_nil, or_false] at hc
    subst hc; trivial
  | f + 1 => have hj : j < 0 := hj; omega
theorem nro_own {d r f n sz : Nat} : nro d (.own r f n sz) = True := by cases d <;> rfl
theorem canI_eq {X : Nat → Int} : canI (fun i => [i64 (X i)]) = fun i => [i64 (X i)] := (rfl)
def F70f (N : Nat) (X : Nat → Int) : Option (List Prop × (Int → Bool)) → Option (List Prop × (Nat → AV) × Nat × (Nat → List AV))
  | some (ob, p) => some ((N ≤ 1000) :: ob, fun r => .own r 0 (flt p X N).length 1, N, fun j => [i64 (flX p X N j)])
  | none => none
theorem F70_some {N : Nat} {X : Nat → Int} {F : AV} : F70 N (fun i => [i64 (X i)]) [F] = F70f N X (prd F) := by
  unfold F70 F70f
  dsimp only
  cases prd F <;> rfl
theorem F70f_some {N : Nat} {X : Nat → Int} {ob : List Prop} {p : Int → Bool} : F70f N X (some (ob, p)) = some ((N ≤ 1000) :: ob, fun r => .own r 0 (flt p X N).length 1, N, fun j => [i64 (flX p X N j)]) := (rfl)
attribute [go_sem] famNro_ints nro_own canI_eq F70_some F70f_some mcSR_eq mcSRe_N mcSRf_some
theorem fltS {L : Ents} {p : Int → Int → Int → Int → Bool} : flt (fun k => !p (selAt (memSel L k) 0) (selAt (memSel L k) 1) (selAt (memSel L k) 2) (selAt (memSel L k) 3)) (fun i => (srtK L).getD i 0) L.length = seenL L p := by
  rw [← srtK_len, flt_len]
  unfold seenL
  congr 1
  funext k
  exact Bool.not_not _
theorem flXS {L : Ents} {p : Int → Int → Int → Int → Bool} {j : Nat} : flX (fun k => !p (selAt (memSel L k) 0) (selAt (memSel L k) 1) (selAt (memSel L k) 2) (selAt (memSel L k) 3)) (fun i => (srtK L).getD i 0) L.length j = (seenL L p).getD j 0 := by
  unfold flX; rw [fltS]
theorem newN2 {key N r n n' sz : Nat} {ty : TypeId} {get get' : Nat → List AV} {m1 : Mem} (h : look m1 r = some (famN n sz ty get none)) (hN : N ≤ r) (hc : ∀ j, j < n → get' j = get j ∧ ∀ c ∈ get j, clean 3 c = true) : NewP key N (.own r 0 n' sz) m1 (.own key 0 n' sz) (some (famN n sz ty get' none)) := by
  refine newP_list [(r, 0)] (by simp) (by simp [hN]) (.inr (by simp [ixP, sgP])) (fun ks hks => ?_) (fun ks hks f r' g hf => ?_) (fun f hf => ?_)
  · show AV.own key 0 n' sz = AV.own (thL ks key (ixP [(r, 0)]) r 0).1 (thL ks key (ixP [(r, 0)]) r 0).2 n' sz
    simp only [thL]
    rw [if_neg (by omega)]
    simp [ixP]
  · match f, hf with
    | 0, hf =>
      cases hf
      refine ⟨_, h, ⟨rfl, rfl, rfl, rfl, fun j hj => ?_⟩, by simp [famN]⟩
      obtain ⟨h1, h2⟩ := hc j hj
      obtain ⟨k1, k2⟩ := cleans_ren (θ := thL ks key (ixP [(r, 0)])) (g := newG N (sgP [(r, 0)]) (ixP [(r, 0)])) (B := newB N (sgP [(r, 0)])) h2
      exact ⟨by show get' j = (get j).map _; rw [h1, k1], k2⟩
    | f + 1, hf => simp at hf
  · match f, hf with
    | f + 1, _ => rfl
theorem int_clean {z : Int} : ∀ c ∈ [i64 z], clean 3 c = true := fun c hc => by
  simp only [List.mem_cons, List.not_mem_nil, or_false] at hc
  subst hc; rfl
def F76f (L : Ents) : Option (Prop × (Int → Int → Int → Int → Bool)) → Option (List Prop × (Nat → AV) × (Nat → Option Fam))
  | some (o, p) => some ([selIn L, L.length ≤ 1000, o], fun k => .own k 0 (seenL L p).length 1, fun k => some (famN L.length 1 3 (fun j => [i64 ((seenL L p).getD j 0)]) none))
  | none => none
def F76 : List AV → Option (List Prop × (Nat → AV) × (Nat → Option Fam))
  | [.rop [.rm 4 L], B] => F76f L (bpr B)
  | _ => none
noncomputable def mN76 : MCon := mcKU F76
theorem mN76_eq : mN76 = mcKU F76 := (rfl)
theorem F76_eq {L : Ents} {B : AV} : F76 [.rop [.rm 4 L], B] = F76f L (bpr B) := (rfl)
theorem F76f_some {L : Ents} {o : Prop} {p : Int → Int → Int → Int → Bool} : F76f L (some (o, p)) = some ([selIn L, L.length ≤ 1000, o], fun k => .own k 0 (seenL L p).length 1, fun k => some (famN L.length 1 3 (fun j => [i64 ((seenL L p).getD j 0)]) none)) := (rfl)
attribute [go_sem] mN76_eq F76_eq F76f_some
theorem mon76 : MConOK Tryz.prog 76 mN76 := MConOK.mkU (G := [(59, .wr mN59), (116, c116), (70, .wr m70)]) (H := []) (.mcons mon59 (.cons con116 (.mcons mon70 .nil))) Tryz.func76 fun es ob v nw hF hob => by
  unfold F76 at hF
  split at hF
  · rename_i L B
    unfold F76f at hF
    split at hF
    · rename_i o p hp
      cases hF
      have h1 : selIn L := hob _ (by simp)
      have h2 : L.length ≤ 1000 := hob _ (by simp)
      have ho : o := hob _ (by simp)
      unfold bpr at hp
      split at hp
      · cases hp
        obtain ⟨o2, o3, o4, o5⟩ := ho
        rename_i a b c d
        refine ⟨_, fun w I vs hR => hR, by simp [clean], by kernel_rfl, fun key => bodyM_go (rs := [.tmp 4]) rfl rfl ?_⟩
        simp only [go_sem, c116, m70, m70, h1, h2, o2, o3, o4, o5]
        rw [fltS (p := fun x y z t => meetsS x y z t a b c d)]
        refine ⟨fun _ _ => trivial, newN2 rfl (Nat.zero_le _) fun i hi => ⟨?_, int_clean⟩⟩
        rw [flXS (p := fun x y z t => meetsS x y z t a b c d)]
      · cases hp
        obtain ⟨o2, o3, o4, o5⟩ := ho
        rename_i a b c d
        refine ⟨_, fun w I vs hR => hR, by simp [clean], by kernel_rfl, fun key => bodyM_go (rs := [.tmp 4]) rfl rfl ?_⟩
        simp only [go_sem, c116, m70, m70, h1, h2, o2, o3, o4, o5]
        rw [fltS (p := fun x y z t => alS x y z t a b c d)]
        refine ⟨fun _ _ => trivial, newN2 rfl (Nat.zero_le _) fun i hi => ⟨?_, int_clean⟩⟩
        rw [flXS (p := fun x y z t => alS x y z t a b c d)]
      · cases hp
    · cases hF
  · cases hF
def F50 : List AV → Option (List Prop × (Nat → AV) × (Nat → Option Fam))
  | [.rop [.rm 4 L], .agg [.v (.int .i64 a), .v (.int .i64 b), .v (.int .i64 c), .v (.int .i64 d)]] => some ([selIn L, L.length ≤ 1000, inR a, inR b, inR c, inR d], fun k => .own k 0 (seenL L fun x y z t => meetsS x y z t a b c d).length 1, fun k => some (famN L.length 1 3 (fun j => [i64 ((seenL L fun x y z t => meetsS x y z t a b c d).getD j 0)]) none))
  | _ => none
noncomputable def mN50 : MCon := mcKU F50
theorem mN50_eq : mN50 = mcKU F50 := (rfl)
theorem F50_eq {L : Ents} {a b c d : Int} : F50 [.rop [.rm 4 L], .agg [.v (.int .i64 a), .v (.int .i64 b), .v (.int .i64 c), .v (.int .i64 d)]] = some ([selIn L, L.length ≤ 1000, inR a, inR b, inR c, inR d], fun k => .own k 0 (seenL L fun x y z t => meetsS x y z t a b c d).length 1, fun k => some (famN L.length 1 3 (fun j => [i64 ((seenL L fun x y z t => meetsS x y z t a b c d).getD j 0)]) none)) := (rfl)
attribute [go_sem] mN50_eq F50_eq
theorem mon50 : MConOK Tryz.prog 50 mN50 := MConOK.mkU (G := [(102, c102), (76, .wr mN76)]) (H := []) (.cons con102 (.mcons mon76 .nil)) Tryz.func50 fun es ob v nw hF hob => by
  unfold F50 at hF
  split at hF
  · rename_i L a b c d
    cases hF
    have h1 : selIn L := hob _ (by simp)
    have h2 : L.length ≤ 1000 := hob _ (by simp)
    have o2 : inR a := hob _ (by simp)
    have o3 : inR b := hob _ (by simp)
    have o4 : inR c := hob _ (by simp)
    have o5 : inR d := hob _ (by simp)
    refine ⟨_, fun w I vs hR => hR, by simp [clean], by kernel_rfl, fun key => bodyM_go (rs := [.tmp 4]) rfl rfl ?_⟩
    simp only [go_sem, c102, h1, h2, o2, o3, o4, o5]
    exact newN2 rfl (Nat.zero_le _) fun i hi => ⟨rfl, int_clean⟩
  · cases hF
def F24 : List AV → Option (List Prop × (Nat → AV) × (Nat → Option Fam))
  | [.rop [.rm 4 L], .agg [.v (.int .i64 a), .v (.int .i64 b)], .agg [.v (.int .i64 c), .v (.int .i64 d)]] => some ([selIn L, L.length ≤ 1000, inR a, inR b, inR c, inR d], fun k => .own k 0 (seenL L fun x y z t => alS x y z t a b c d).length 1, fun k => some (famN L.length 1 3 (fun j => [i64 ((seenL L fun x y z t => alS x y z t a b c d).getD j 0)]) none))
  | _ => none
noncomputable def mN24 : MCon := mcKU F24
theorem mN24_eq : mN24 = mcKU F24 := (rfl)
theorem F24_eq {L : Ents} {a b c d : Int} : F24 [.rop [.rm 4 L], .agg [.v (.int .i64 a), .v (.int .i64 b)], .agg [.v (.int .i64 c), .v (.int .i64 d)]] = some ([selIn L, L.length ≤ 1000, inR a, inR b, inR c, inR d], fun k => .own k 0 (seenL L fun x y z t => alS x y z t a b c d).length 1, fun k => some (famN L.length 1 3 (fun j => [i64 ((seenL L fun x y z t => alS x y z t a b c d).getD j 0)]) none)) := (rfl)
attribute [go_sem] mN24_eq F24_eq
end Go.Ax
end

section
/-
  Along a run of the machine the number of draws does not fall.
-/
set_option linter.unusedSimpArgs false
set_option linter.unusedVariables false
namespace Go.Mono
open Go
def RLe {α : Type} (d : Nat) : Result α → Prop
  | .ok _ w => d ≤ w.drawn
  | .halt _ w => d ≤ w.drawn
theorem RLe.mono {α : Type} {d d' : Nat} {r : Result α} (h : RLe d' r) (hd : d ≤ d') : RLe d r := by
  cases r <;> exact Nat.le_trans hd h
theorem ask_le {α : Type} : ∀ (a : Ask α) (w : World), w.drawn ≤ (w.ask a).2.drawn
  | .done a, w => Nat.le_refl _
  | .ask what range k, w => by
    unfold World.ask
    dsimp only
    split
    · exact ask_le _ w
    · exact Nat.le_trans (Nat.le_succ _) (ask_le _ { w with drawn := w.drawn + 1 })
theorem sys_le (w : World) (c : Sys) : w.drawn ≤ (w.sys c).2.drawn := by
  unfold World.sys
  have h := ask_le (Kernel.perform c w.os) w
  split
  · exact Nat.le_refl _
  · rename_i h2; rw [h2] at h; exact h
theorem viewStore_dr {p : Program} {w w' : World} {at_ : Addr} {u : TypeId} {k : Addr} {v : Value} {atomic : Bool} {l : List Addr} (h : w.viewStore p at_ u k v atomic = .ok (w', l)) : w'.drawn = w.drawn := by
  unfold World.viewStore at h
  simp only [bind, Except.bind, pure, Except.pure, throw, throwThe, MonadExceptOf.throw] at h
  repeat' split at h
  all_goals first | (cases h; rfl) | (cases h)
theorem farStore_dr {p : Program} {w w' : World} {a : Addr} {v : Value} {atomic : Bool} {l : List Addr} (h : w.farStore p a v atomic = .ok (w', l)) : w'.drawn = w.drawn := by
  unfold World.farStore at h
  split at h
  · split at h
    · rename_i r h2; cases h; exact viewStore_dr h2
    · cases h
  · cases h
theorem freeze_dr (w : World) (a : Addr) (n : Nat) : (w.freeze a n).drawn = w.drawn := by
  unfold World.freeze; split <;> rfl
theorem run_le {α : Type} (p : Program) : ∀ (s : Sem α) (w : World), RLe w.drawn (s.run p w)
  | .pure a, w => Nat.le_refl _
  | .load m a k, w => by
    unfold Sem.run
    split
    · exact run_le p _ w
    · split
      · exact run_le p _ w
      · exact Nat.le_refl _
  | .store m a v k, w => by
    cases v
    all_goals first
      | exact Nat.le_refl _
      | (simp only [Sem.run]
         split
         · split
           · exact Nat.le_refl _
           · exact run_le p k (w.setCell a _)
         · split
           · rename_i w' l h
             exact (run_le p k w').mono (by rw [farStore_dr h]; exact Nat.le_refl _)
           · exact Nat.le_refl _)
  | .new o k, w => by
    unfold Sem.run
    exact run_le p _ { w with heap := w.heap.push o }
  | .shape r k, w => by
    unfold Sem.run
    exact run_le p _ w
  | .freeze a n k, w => by
    unfold Sem.run
    exact (run_le p k (w.freeze a n)).mono (by rw [freeze_dr]; exact Nat.le_refl _)
  | .frozen a k, w => by
    unfold Sem.run
    exact run_le p _ w
  | .getObj r k, w => by
    unfold Sem.run
    split
    · exact Nat.le_refl _
    · exact run_le p _ w
    · exact Nat.le_refl _
  | .setObj r o k, w => by
    unfold Sem.run
    split
    · exact Nat.le_refl _
    · exact run_le p k { w with heap := w.heap.setIfInBounds r o }
    · exact Nat.le_refl _
  | .choose q k, w => by
    unfold Sem.run
    split
    · exact run_le p _ w
    · exact (run_le p _ { w with drawn := w.drawn + 1 }).mono (Nat.le_succ _)
  | .sys c k, w => by
    unfold Sem.run
    exact (run_le p _ (w.sys c).2).mono (sys_le w c)
  | .program k, w => by
    unfold Sem.run
    exact run_le p _ w
  | .mark m k, w => by
    unfold Sem.run
    exact run_le p k w
  | .halt h, w => Nat.le_refl _
theorem runT_le {α : Type} (p : Program) : ∀ (s : Sem α) (w : World) (es : Array Event), RLe w.drawn (s.runT p w es).1
  | .pure a, w, es => Nat.le_refl _
  | .load m a k, w, es => by
    unfold Sem.runT
    split
    · exact runT_le p _ w _
    · split
      · exact runT_le p _ w _
      · exact Nat.le_refl _
  | .store m a v k, w, es => by
    cases v
    all_goals first
      | exact Nat.le_refl _
      | (simp only [Sem.runT]
         split
         · split
           · exact Nat.le_refl _
           · exact runT_le p k (w.setCell a _) _
         · split
           · rename_i w' l h
             exact (runT_le p k w' _).mono (by rw [farStore_dr h]; exact Nat.le_refl _)
           · exact Nat.le_refl _)
  | .new o k, w, es => by
    unfold Sem.runT
    exact runT_le p _ { w with heap := w.heap.push o } _
  | .shape r k, w, es => by
    unfold Sem.runT
    exact runT_le p _ w _
  | .freeze a n k, w, es => by
    unfold Sem.runT
    exact (runT_le p k (w.freeze a n) _).mono (by rw [freeze_dr]; exact Nat.le_refl _)
  | .frozen a k, w, es => by
    unfold Sem.runT
    exact runT_le p _ w _
  | .getObj r k, w, es => by
    unfold Sem.runT
    split
    · exact Nat.le_refl _
    · exact runT_le p _ w _
    · exact Nat.le_refl _
  | .setObj r o k, w, es => by
    unfold Sem.runT
    split
    · exact Nat.le_refl _
    · exact runT_le p k { w with heap := w.heap.setIfInBounds r o } _
    · exact Nat.le_refl _
  | .choose q k, w, es => by
    unfold Sem.runT
    split
    · exact runT_le p _ w _
    · exact (runT_le p _ { w with drawn := w.drawn + 1 } _).mono (Nat.le_succ _)
  | .sys c k, w, es => by
    unfold Sem.runT
    exact (runT_le p _ (w.sys c).2 _).mono (sys_le w c)
  | .program k, w, es => by
    unfold Sem.runT
    exact runT_le p _ w _
  | .mark m k, w, es => by
    unfold Sem.runT
    exact runT_le p k w _
  | .halt h, w, es => Nat.le_refl _
theorem run_ok {α : Type} {p : Program} {s : Sem α} {w w' : World} {v : α} (h : s.run p w = .ok v w') : w.drawn ≤ w'.drawn := by
  have := run_le p s w; rw [h] at this; exact this
theorem run_halt {α : Type} {p : Program} {s : Sem α} {w w' : World} {v : Halt} (h : s.run p w = .halt v w') : w.drawn ≤ w'.drawn := by
  have := run_le p s w; rw [h] at this; exact this
def GLe (d : Nat) : GStep → Prop
  | .go _ w _ => d ≤ w.drawn
  | .comm _ _ _ _ w _ => d ≤ w.drawn
  | .spawn _ _ w _ => d ≤ w.drawn
  | .count _ w _ => d ≤ w.drawn
  | .timer _ _ w _ => d ≤ w.drawn
  | .alone _ _ w _ => d ≤ w.drawn
  | .newcoro _ _ _ w _ => d ≤ w.drawn
  | .coroswitch _ _ _ w _ => d ≤ w.drawn
  | .collect _ w _ => d ≤ w.drawn
  | .watch _ w _ => d ≤ w.drawn
  | .ended _ _ _ => True
theorem GLe.after {d : Nat} {es : Array Event} {g : GStep} (h : GLe d g) : GLe d (GStep.after es g) := by
  cases g <;> exact h
theorem GLe.mono {d d' : Nat} {g : GStep} (h : GLe d' g) (hd : d ≤ d') : GLe d g := by
  cases g <;> first | exact trivial | exact Nat.le_trans hd h
theorem endWith_le {w : World} {fd : Nat} {t : ByteArray} {o : Outcome} {d : Nat} : GLe d (endWith w fd t o) := by
  unfold endWith
  dsimp only
  repeat' split
  all_goals exact trivial
theorem dieOf_le {fr : Frame} {l : List ByteArray} {m : String} {b : Bool} {w : World} : GLe w.drawn (dieOf fr l m b w) := Nat.le_refl _
theorem endThrow_le {fr : Frame} {m : String} {w : World} : GLe w.drawn (endThrow fr m w) := Nat.le_refl _
theorem endPrinting_le {p : Program} {fr : Frame} {v : Value} {w : World} : GLe w.drawn (endPrinting p fr v w) := by
  unfold endPrinting
  dsimp only
  split
  · exact endThrow_le
  · exact trivial
theorem endFatal_le {p : Program} {fr : Frame} {cs : List Frame} {dy : Option Dying} {m : String} {w : World} : GLe w.drawn (endFatal p fr cs dy m w) := by
  unfold endFatal
  dsimp only
  split
  · rename_i h
    exact dieOf_le.mono (run_ok h)
  · exact trivial
  · exact trivial
theorem runT_ok {α : Type} {p : Program} {s : Sem α} {w w' : World} {v : α} {es es' : Array Event} (h : s.runT p w es = (.ok v w', es')) : w.drawn ≤ w'.drawn := by
  have := runT_le p s w es; rw [h] at this; exact this
theorem runT_halt {α : Type} {p : Program} {s : Sem α} {w w' : World} {v : Halt} {es es' : Array Event} (h : s.runT p w es = (.halt v w', es')) : w.drawn ≤ w'.drawn := by
  have := runT_le p s w es; rw [h] at this; exact this
theorem runT_ok1 {α : Type} {p : Program} {s : Sem α} {w w' : World} {v : α} {es : Array Event} (h : (s.runT p w es).1 = .ok v w') : w.drawn ≤ w'.drawn := by
  have := runT_le p s w es; rw [h] at this; exact this
theorem runT_halt1 {α : Type} {p : Program} {s : Sem α} {w w' : World} {v : Halt} {es : Array Event} (h : (s.runT p w es).1 = .halt v w') : w.drawn ≤ w'.drawn := by
  have := runT_le p s w es; rw [h] at this; exact this
theorem writeOn_le {p : Program} {fr : Frame} {d : Dying} {f : Fatal} {w : World} : GLe w.drawn (writeOn p fr d f w) := by
  unfold writeOn
  dsimp only
  split
  · exact trivial
  · split
    · rename_i h; exact runT_ok h
    · rename_i h; exact runT_halt h
    · exact trivial
    · exact trivial
theorem die_le {p : Program} {fr : Frame} {d : Dying} {w : World} : GLe w.drawn (die p fr d w) := by
  unfold die
  split
  · exact writeOn_le
  · split
    · split
      · exact Nat.le_refl _
      · exact endWith_le
    · dsimp only
      split
      · exact Nat.le_refl _
      · split
        · rename_i h; exact run_ok h
        · exact trivial
      · refine GLe.after ?_
        split
        · rename_i h; exact runT_ok1 h
        · rename_i h; exact runT_ok1 h
        · exact trivial
        · rename_i h; exact endPrinting_le.mono (runT_halt1 h)
        · exact trivial
      · exact trivial
theorem doReturn_le {p : Program} {main : Bool} {fr : Frame} {cs : List Frame} {dy : Option Dying} {v : Value} {w : World} : GLe w.drawn (doReturn p main fr cs dy v w) := by
  unfold doReturn
  repeat' split
  all_goals first | exact Nat.le_refl _ | exact trivial
theorem callDeferred_le {p : Program} {fr : Frame} {cs : List Frame} {dy : Option Dying} {d : Deferred} {w : World} : GLe w.drawn (callDeferred p fr cs dy d w) := by
  unfold callDeferred
  repeat' (first | exact trivial | exact Nat.le_refl _ | exact runT_ok (by assumption) | exact runT_ok1 (by assumption) | exact runT_halt (by assumption) | exact runT_halt1 (by assumption) | exact run_ok (by assumption) | exact endThrow_le | exact endFatal_le | exact doReturn_le | exact endPrinting_le | exact endFatal_le.mono (runT_halt1 (by assumption)) | exact endThrow_le.mono (runT_halt1 (by assumption)) | exact endFatal_le.mono (runT_halt (by assumption)) | exact endThrow_le.mono (runT_halt (by assumption)) | exact doReturn_le.mono (runT_ok (by assumption)) | exact doReturn_le.mono (runT_ok1 (by assumption)) | exact run_halt (by assumption) | exact endFatal_le.mono (run_halt (by assumption)) | exact endThrow_le.mono (run_halt (by assumption)) | (dsimp only [GLe]; first | exact run_ok (by assumption) | exact run_halt (by assumption)) | apply GLe.after | split)
theorem unwind_le {p : Program} {main : Bool} {fr : Frame} {cs : List Frame} {dy : Option Dying} {w : World} : GLe w.drawn (unwind p main fr cs dy w) := by
  unfold unwind
  repeat' (first | exact callDeferred_le | exact trivial | split)
  all_goals (repeat' (first | exact trivial | exact Nat.le_refl _ | exact runT_ok (by assumption) | exact runT_ok1 (by assumption) | exact runT_halt (by assumption) | exact runT_halt1 (by assumption) | exact run_ok (by assumption) | exact endThrow_le | exact endFatal_le | exact doReturn_le | exact endPrinting_le | exact endFatal_le.mono (runT_halt1 (by assumption)) | exact endThrow_le.mono (runT_halt1 (by assumption)) | exact endFatal_le.mono (runT_halt (by assumption)) | exact endThrow_le.mono (runT_halt (by assumption)) | exact doReturn_le.mono (runT_ok (by assumption)) | exact doReturn_le.mono (runT_ok1 (by assumption)) | exact run_halt (by assumption) | exact endFatal_le.mono (run_halt (by assumption)) | exact endThrow_le.mono (run_halt (by assumption)) | (dsimp only [GLe]; first | exact run_ok (by assumption) | exact run_halt (by assumption)) | apply GLe.after | split))
theorem early_le {p : Program} {fr : Frame} {cs : List Frame} {dy : Option Dying} {g : Nat} {w : World} : GLe w.drawn (early p fr cs dy g w) := by
  unfold early
  dsimp only
  repeat' (first | exact trivial | exact Nat.le_refl _ | exact runT_ok (by assumption) | exact runT_ok1 (by assumption) | exact runT_halt (by assumption) | exact runT_halt1 (by assumption) | exact run_ok (by assumption) | exact endThrow_le | exact endFatal_le | exact doReturn_le | exact endPrinting_le | exact endFatal_le.mono (runT_halt1 (by assumption)) | exact endThrow_le.mono (runT_halt1 (by assumption)) | exact endFatal_le.mono (runT_halt (by assumption)) | exact endThrow_le.mono (runT_halt (by assumption)) | exact doReturn_le.mono (runT_ok (by assumption)) | exact doReturn_le.mono (runT_ok1 (by assumption)) | exact run_halt (by assumption) | exact endFatal_le.mono (run_halt (by assumption)) | exact endThrow_le.mono (run_halt (by assumption)) | (dsimp only [GLe]; first | exact run_ok (by assumption) | exact run_halt (by assumption)) | apply GLe.after | split)
theorem apply_le {p : Program} {listen : Bool} {fr : Frame} {cs : List Frame} {dy : Option Dying} {s : Sem Next} {w : World} : GLe w.drawn (stepG.apply p listen fr cs dy s w) := by
  cases listen <;> unfold stepG.apply <;> simp only [if_true, if_false, Bool.false_eq_true] <;> repeat' (first | exact early_le.mono (run_halt (by assumption)) | exact early_le.mono (runT_halt1 (by assumption)) | exact early_le.mono (runT_halt (by assumption)) | exact trivial | exact Nat.le_refl _ | exact runT_ok (by assumption) | exact runT_ok1 (by assumption) | exact runT_halt (by assumption) | exact runT_halt1 (by assumption) | exact run_ok (by assumption) | exact run_halt (by assumption) | exact endFatal_le.mono (runT_halt1 (by assumption)) | exact endThrow_le.mono (runT_halt1 (by assumption)) | exact endFatal_le.mono (run_halt (by assumption)) | exact endThrow_le.mono (run_halt (by assumption)) | apply GLe.after | split)
theorem oper_le {p : Program} {listen : Bool} {fr : Frame} {cs : List Frame} {dy : Option Dying} {w : World} : GLe w.drawn (stepG.oper p listen fr cs dy w) := by
  unfold stepG.oper
  repeat' (first | exact apply_le | exact trivial | split)
theorem elim_le {α : Type} {d : Nat} {o : Option α} {a : GStep} {f : α → GStep} (h1 : GLe d a) (h2 : ∀ x, GLe d (f x)) : GLe d (o.elim a f) := by
  cases o
  · exact h1
  · exact h2 _
theorem exec_le {p : Program} {main listen : Bool} {fr : Frame} {cs : List Frame} {dy : Option Dying} {w : World} : GLe w.drawn (stepG.exec p main listen fr cs dy w) := by
  unfold stepG.exec
  dsimp only
  repeat' (first | exact apply_le | exact oper_le | exact trivial | exact Nat.le_refl _ | exact apply_le.mono (runT_ok1 (by assumption)) | exact apply_le.mono (runT_ok (by assumption)) | exact run_ok (by assumption) | exact runT_ok1 (by assumption) | exact runT_halt1 (by assumption) | exact doReturn_le.mono (runT_ok1 (by assumption)) | apply GLe.after | refine elim_le ?_ (fun _ => ?_) | split)
theorem stepG_le {p : Program} {main listen : Bool} {g : Goroutine} {w : World} : GLe w.drawn (stepG p main g w listen) := by
  unfold stepG
  dsimp only
  repeat' (first | exact exec_le | exact unwind_le | exact die_le | split)
/-! ### The machine -/
def SLe (d : Nat) : Stepped → Prop
  | .next m => d ≤ m.world.drawn
  | .ended _ _ => True
theorem SLe.mono {d d' : Nat} {s : Stepped} (h : SLe d' s) (hd : d ≤ d') : SLe d s := by
  cases s <;> first | exact trivial | exact Nat.le_trans hd h
theorem look_le {p : Program} {gs : Array Goroutine} {rest : Rest} {w : World} : SLe w.drawn (look p gs rest w) := by
  unfold look
  dsimp only
  repeat' (first | exact trivial | (dsimp only [SLe]; exact run_ok (by assumption)) | split)
theorem waitingAt_dr {rest : Rest} {cs : Array CommCase} {w w' : World} (h : waitingAt rest cs w = some w') : w.drawn ≤ w'.drawn := by
  unfold waitingAt at h
  repeat' split at h
  all_goals first | (cases h; exact Nat.le_refl _) | cases h
theorem communicate_le {p : Program} {rest : Rest} {gs : Array Goroutine} {i : Nat} {g : Goroutine} {cases' : Array CommCase} {b : Bool} {sh : CommShape} {w : World} : SLe w.drawn (communicate p rest gs i g cases' b sh w).1 := by
  unfold communicate
  dsimp only
  repeat' (first | exact trivial | exact Nat.le_refl _ | exact waitingAt_dr (by assumption) | (dsimp only [SLe]; first | exact run_ok (by assumption) | exact Nat.le_trans (run_ok (by assumption)) (run_ok (by assumption)) | exact Nat.le_trans (run_ok (by assumption)) (run_halt (by assumption))) | split)
theorem serve_le {p : Program} {m : Machine} {k : Nat} : SLe m.world.drawn (serve p m k) := by
  unfold serve
  dsimp only
  repeat' (first | exact trivial | exact Nat.le_refl _ | split)
theorem drain_dr (w : World) (c : Nat) : (drain w c).2.drawn = w.drawn := by
  unfold drain
  split <;> rfl
theorem retime_dr (m : Machine) (k : Nat) (t : Timer) (a b : Nat) : (retime m k t a b).2.world.drawn = m.world.drawn := by
  unfold retime
  dsimp only
  cases t.chan with
  | none => rfl
  | some c => exact drain_dr _ _
theorem opened_dr {m m' : Machine} {v : Addr} (h : timerOp.opened m v = some m') : m'.world.drawn = m.world.drawn := by
  unfold timerOp.opened at h
  repeat' split at h
  all_goals first | (cases h; rfl) | cases h
theorem named_dr {m m' : Machine} {a : Addr} {f : Nat → Timer → Value × Machine} {d : Nat} {v : Value} (hf : ∀ k t, (f k t).2.world.drawn = d) (h : timerOp.named m a f = .ok (v, m')) : m'.world.drawn = d := by
  unfold timerOp.named at h
  split at h
  · rename_i k _
    have h2 : f k (m.rest.timers.getD k default) = (v, m') := Except.ok.inj h
    have := hf k (m.rest.timers.getD k default)
    rw [h2] at this
    exact this
  · cases h
theorem timerOp_dr {m m' : Machine} {op : TimerOp} {v : Value} (h : timerOp m op = .ok (v, m')) : m'.world.drawn = m.world.drawn := by
  unfold timerOp at h
  split at h
  · split at h
    · cases h; rfl
    · split at h
      · split at h
        · cases h
        · cases h; rfl
      · cases h
  · exact named_dr (fun k t => retime_dr _ _ _ _ _) h
  · split at h
    · rename_i h2
      exact named_dr (fun k t => (retime_dr _ _ _ _ _).trans (opened_dr h2)) h
    · cases h
  · cases h; rfl
theorem endThrow_go {fr : Frame} {s : String} {w w' : World} {g : Goroutine} {es : Array Event} (h : endThrow fr s w = .go g w' es) : w.drawn ≤ w'.drawn := by
  cases h
  exact Nat.le_refl _
theorem runM_le {p : Program} {m : Machine} {i : Nat} {listen : Bool} : SLe m.world.drawn (Go.runT p m i listen).1 := by
  unfold Go.runT
  have h := fun (g : Goroutine) => stepG_le (p := p) (main := i == 0) (g := g) (w := m.world) (listen := listen)
  dsimp only
  have h1 := h (m.gs.swapAt! i { (default : Goroutine) with status := .finished }).1
  split
  all_goals rename_i heq
  all_goals rw [heq] at h1
  · exact trivial
  · exact communicate_le.mono h1
  · exact h1
  · exact h1
  · split
    · exact trivial
    · exact h1
  · exact h1
  · exact look_le.mono h1
  · exact h1
  · exact h1
  · have h1 : m.world.drawn ≤ _ := h1
    repeat' (first | exact trivial | exact h1 | split)
    all_goals exact Nat.le_trans h1 (endThrow_go (by assumption))
  · have h1 : m.world.drawn ≤ _ := h1
    split
    · rename_i h2
      exact Nat.le_trans h1 (by rw [timerOp_dr h2]; exact Nat.le_refl _)
    · split
      · rename_i h2
        exact Nat.le_trans h1 (endThrow_go h2)
      · exact trivial
    · exact trivial
    · exact trivial
def MLe (p : Program) (d : Nat) : Move → Prop
  | .goroutine m _ => d ≤ m.world.drawn
  | .machine s _ => SLe d s
theorem MLe.mono {p : Program} {d d' : Nat} {s : Move} (h : MLe p d' s) (hd : d ≤ d') : MLe p d s := by
  cases s
  · exact Nat.le_trans hd h
  · exact SLe.mono h hd
theorem adv_dr (m : Machine) (t : Nat) : (m.advanceTo t).world.drawn = m.world.drawn := (rfl)
theorem askOn_le {p : Program} {m : Machine} : MLe p m.world.drawn (askOn p m) := by
  unfold askOn
  dsimp only
  split
  · exact trivial
  · rename_i k w1 h1
    have l1 := run_ok h1
    split
    · exact SLe.mono serve_le l1
    · split
      · split
        · exact l1
        · split
          · exact l1
          · split <;> exact trivial
      · split
        · skip
          split
          · exact trivial
          · rename_i h2
            have l2 := Nat.le_trans l1 (run_ok h2)
            split
            · exact l2
            · split
              · exact trivial
              · rename_i h3
                have l3 := Nat.le_trans l2 (run_ok h3)
                (try split)
                all_goals exact l3
        · split
          · exact trivial
          · rename_i h4
            have l4 := Nat.le_trans l1 (run_ok h4)
            split
            · exact trivial
            · rename_i h2
              have l2 := Nat.le_trans l4 (run_ok h2)
              split
              · exact l2
              · split
                · exact trivial
                · rename_i h3
                  have l3 := Nat.le_trans l2 (run_ok h3)
                  (try split)
                  all_goals exact l3
          · rename_i h4
            have l4 := Nat.le_trans l1 (run_ok h4)
            exact l4
          · rename_i h4
            have l4 := Nat.le_trans l1 (run_ok h4)
            split
            · exact trivial
            · rename_i h2
              have hh := run_ok h2
              rw [adv_dr] at hh
              have l2 := Nat.le_trans l4 hh
              split
              · exact l2
              · split
                · exact trivial
                · rename_i h3
                  have l3 := Nat.le_trans l2 (run_ok h3)
                  (try split)
                  all_goals exact l3
theorem ask_move_le {p : Program} {m : Machine} : MLe p m.world.drawn (Go.ask p m) := by
  unfold Go.ask
  split
  · split
    · exact trivial
    · rename_i w1 h1
      have l1 := run_ok h1
      split
      · rename_i h2
        have l2 := look_le (p := p) (gs := m.gs) (rest := m.rest) (w := w1)
        rw [h2] at l2
        exact askOn_le.mono (Nat.le_trans l1 l2)
      · rename_i h2
        exact SLe.mono look_le l1
    · rename_i h1
      exact MLe.mono (p := p) (d' := _) askOn_le (run_ok h1)
  · exact askOn_le
theorem move_le {p : Program} {m : Machine} : MLe p m.world.drawn (move p m) := by
  unfold move
  repeat' (first | exact trivial | exact Nat.le_refl _ | exact ask_move_le (m := m) | exact ask_move_le (m := { m with rest := { m.rest with slice := none } }) | split)
theorem step_le {p : Program} {m m' : Machine} (h : step p m = .next m') : m.world.drawn ≤ m'.world.drawn := by
  have h1 := move_le (p := p) (m := m)
  unfold step stepT at h
  split at h
  · rename_i m1 i hm
    rw [hm] at h1
    have h2 := runM_le (p := p) (m := m1) (i := i) (listen := true)
    rw [h] at h2
    exact Nat.le_trans h1 h2
  · rename_i s ops hm
    rw [hm] at h1
    have h1 : SLe m.world.drawn s := h1
    have h : s = .next m' := h
    rw [h] at h1
    exact h1
theorem runN_le {p : Program} : ∀ (n : Nat) {m m' : Machine}, runN p n m = .next m' → m.world.drawn ≤ m'.world.drawn
  | 0, m, m', h => by cases h; exact Nat.le_refl _
  | n + 1, m, m', h => by
    unfold runN at h
    split at h
    · rename_i m1 h1
      exact Nat.le_trans (step_le h1) (runN_le n h)
    · rename_i h1
      exact absurd h (h1 m')
/-- A call's draws. -/
theorem calls_mono {P : Program} {f : FuncId} {args : Array Value} {w : World} {R : Ending → World → Prop} (h : Calls P f args w fun e w' => R e w' ∧ e ≠ .outgrown) : Calls P f args w fun e w' => R e w' ∧ w.drawn ≤ w'.drawn := fun cs => by
  obtain ⟨e, w', fr, ⟨h1, h2⟩, h3, h4, h5⟩ := h cs
  refine ⟨e, w', fr, ⟨h1, ?_⟩, h3, h4, h5⟩
  cases e with
  | returned v => obtain ⟨n, h3⟩ := h3; exact runN_le n h3
  | panicked c => obtain ⟨n, h3⟩ := h3; exact runN_le n h3
  | outgrown => exact absurd rfl h2
end Go.Mono
end

section
/-
  slices.SortFunc, by the shelf.
-/
set_option linter.unusedVariables false
set_option linter.unusedSimpArgs false
set_option maxHeartbeats 4000000
set_option maxRecDepth 100000
namespace Go.Proofs
open Go.Shelf Go.RowKit Go.Lib Go.Sort
end Go.Proofs
namespace Go.Ax
open Go.Proofs Go.RowKit
theorem below_grow {W w' : World} (h : Go.RowKit.Below W.heap.size W w') (hd : W.drawn ≤ w'.drawn) : ∃ q os', w' = Go.Sort.grow (W.drewN q) os' := by
  refine ⟨w'.drawn - W.drawn, w'.heap.extract W.heap.size w'.heap.size, ?_⟩
  have h1 : w'.heap = W.heap ++ w'.heap.extract W.heap.size w'.heap.size := by
    apply Array.ext_getElem?
    intro k
    have hs := h.size
    by_cases hk : k < W.heap.size
    · rw [Array.getElem?_append_left hk, h.block k hk]
    · rw [Array.getElem?_append_right (by omega), Array.getElem?_extract]
      by_cases hk2 : k < w'.heap.size
      · rw [if_pos (by omega)]
        congr 1
        omega
      · rw [Array.getElem?_eq_none (by omega)]
        split
        · omega
        · rfl
  have h2 : w'.tape = W.tape := h.tape
  have h3 : w'.os = W.os := h.os
  have h4 : w'.output = W.output := h.output
  cases w' with
  | mk hp tp dr os out =>
    simp only at h1 h2 h3 h4 hd
    subst h2 h3 h4
    unfold Go.Sort.grow World.drewN
    dsimp only
    rw [← h1]
    congr 1
    omega
theorem putRow_set {α : Type} [Inhabited α] {enc : α → Value} {w : World} {blk : Nat} {d : Array α} {c : Array Value} {ty : TypeId} (h : w.heap[blk]? = some (.cells c ty (0, 0))) : Go.Sort.putRow enc w blk 0 d = w.setRow blk (Go.Sort.putCells enc 0 d c) := by
  unfold Go.Sort.putRow
  rw [Go.Sort.mapBlock_congr w blk _ (fun _ => Go.Sort.putCells enc 0 d c) (fun c' e fr h' => by rw [h] at h'; cases h'; rfl)]
  unfold Go.Sort.mapBlock World.setRow Go.Sort.onCells
  rfl
/-- The world behind a sort. -/
theorem sort_post {α : Type} [Inhabited α] {enc : α → Value} {d : Array α} {w0 : Base} {ρ : Env} {D : Nat → Prop} {w : World} {r key N sz n : Nat} {ty : TypeId} {get get' : Nat → List AV} {os : Array Go.Obj} {c : Array Value} {ob : List Prop}
    (hR : Rel w0 ρ [(r, famN N sz ty get none)] D w) (hN : 0 < N) (hc : w.heap[ρ.blk r 0]? = some (.cells c ty (0, 0))) (hd : d.size = N * sz) (hlen : ∀ i, i < N → (get' i).length = sz)
    (hget : ∀ i k a, i < N → k < sz → (get' i)[k]? = some a → ∃ v, enc d[i * sz + k]! = v ∧ a = .v v) :
    Post w0 ρ [(r, famN N sz ty get none)] D key ⟨ob, .tup [], .many [(r, famN N sz ty get' none)] none⟩ w (.tuple #[]) (Go.Sort.grow (Go.Sort.putRow enc (Go.Sort.ahead w n) (ρ.blk r 0) 0 d) os) := by
  have hl : look [(r, famN N sz ty get none)] r = some (famN N sz ty get none) := by simp [look]
  have hb1 : Go.RowKit.Below w.heap.size w (Go.Sort.ahead w n) := ⟨rfl, rfl, rfl, Nat.le_refl _, fun _ _ => rfl⟩
  have hR1 := hR.stay hb1
  obtain ⟨hd0, hrow⟩ := hR.row r _ 0 hl (by simp [famN])
  have hNle : N ≤ ρ.cap r 0 := hrow.n_le
  have hcs : c.size = ρ.cap r 0 * sz := by
    obtain ⟨_, _, cc, h1, h2⟩ := hrow.cells hN
    rw [hc] at h1
    cases h1
    exact h2
  have hc1 : (Go.Sort.ahead w n).heap[ρ.blk r 0]? = some (.cells c ty (0, 0)) := hc
  have hle : N * sz ≤ c.size := by rw [hcs]; exact Nat.mul_le_mul_right _ hNle
  obtain ⟨k1, k2⟩ := Rel.put hR1 hl (by simp [famN]) (c := c) (c' := Go.Sort.putCells enc 0 d c) (ty := ty) (by omega) hc1 (by simp [Go.Sort.putCells]) (x := ⟨N, sz, ty, get', none⟩) rfl rfl rfl hNle hlen (fun i k a v hi h1 h2 => by
    have hi : i < N := hi
    have hk : k < sz := by
      have := (List.getElem?_eq_some_iff.1 h1).1
      rw [hlen i hi] at this
      exact this
    obtain ⟨v', h3, rfl⟩ := hget i k a hi hk h1
    have hlt : i * sz + k < N * sz := by
      have := Nat.mul_le_mul_right sz (show i + 1 ≤ N by omega)
      rw [Nat.add_mul] at this
      omega
    have h2 : (Go.Sort.putCells enc 0 d c)[i * sz + k]? = some v := h2
    unfold Go.Sort.putCells at h2
    rw [Array.getElem?_mapIdx, Array.getElem?_eq_getElem (by omega)] at h2
    simp only [Option.map_some, Nat.zero_le, Nat.zero_add, true_and, Nat.sub_zero, Option.some.injEq] at h2
    rw [if_pos (by omega), h3] at h2
    subst h2
    exact .v)
  rw [putRow_set hc1]
  have hb2 : Go.RowKit.Below ((Go.Sort.ahead w n).setRow (ρ.blk r 0) (Go.Sort.putCells enc 0 d c)).heap.size ((Go.Sort.ahead w n).setRow (ρ.blk r 0) (Go.Sort.putCells enc 0 d c)) (Go.Sort.grow ((Go.Sort.ahead w n).setRow (ρ.blk r 0) (Go.Sort.putCells enc 0 d c)) os) :=
    ⟨rfl, rfl, rfl, by simp [Go.Sort.grow], fun k hk => by simp [Go.Sort.grow, Array.getElem?_append_left hk]⟩
  have k3 := k1.stay hb2
  have efam : (fun f => if f = 0 then (⟨N, sz, ty, get', none⟩ : Row) else famN N sz ty get none f) = famN N sz ty get' none := by
    funext f
    by_cases hf : f = 0 <;> simp [famN, hf]
  rw [efam] at k3
  refine ⟨ρ, .tup rfl (fun i a x h => by simp at h), k3.sub (fun _ _ h => h) (fun _ h => .inl h), .refl _, fun b hb => ?_⟩
  have h4 := k2 b hb
  have hlt : b < ((Go.Sort.ahead w n).setRow (ρ.blk r 0) (Go.Sort.putCells enc 0 d c)).heap.size := by
    have := (hR.imm2 b hb).1
    simpa [World.setRow, Go.Sort.ahead] using this
  rw [hb2.block b hlt, h4]
  rfl
/-- A comparator's contract, for the shelf. -/
theorem cmp_calls {P : Program} {g : FuncId} {c : Con} {aas cs' : List AV} {xs : List Value} {cb : Array Value} {z : Int} {ob : List Prop} {J : Nat → Prop} {W : World} (hcon : ConOK P g c) (hc : c (aas ++ cs') = some (ob, i64 z)) (hob : ∀ p ∈ ob, p) (eg : ∀ args w, (callFunc g args).run P w = .ok (.enter g args) w)
    (hJ : ∀ b, J b → b < W.heap.size) (hxs : Rs W (.ext J) aas xs) (hcb : Rs W (.ext J) cs' cb.toList) : Calls P g (xs.toArray ++ cb) W fun e w' => e = .returned (.int .i64 z) ∧ ∃ q os', w' = Go.Sort.grow (W.drewN q) os' := by
  have hrs : Rs W (.ext J) (aas ++ cs') (xs ++ cb.toList) := by
    refine ⟨by rw [List.length_append, List.length_append, hxs.1, hcb.1], fun i a x h1 h2 => ?_⟩
    by_cases hi : i < aas.length
    · rw [List.getElem?_append_left hi] at h1
      rw [List.getElem?_append_left (by rw [hxs.1]; exact hi)] at h2
      exact hxs.2 i a x h1 h2
    · rw [List.getElem?_append_right (by omega)] at h1
      rw [List.getElem?_append_right (by rw [hxs.1]; omega), hxs.1] at h2
      exact hcb.2 _ a x h1 h2
  have harr : (xs ++ cb.toList).toArray = xs.toArray ++ cb := by simp
  have hinv := hcon _ _ _ hc hob J W _ hJ hrs
  rw [Invokes, harr] at hinv
  rcases hinv with ⟨v, w', h1, _⟩ | ⟨_, h2⟩
  · rw [eg] at h1
    cases h1
  · have h3 : Calls P g (xs.toArray ++ cb) W fun e w' => ((∃ v, e = .returned v ∧ R w' (.ext (New J W w')) (i64 z) v ∧ Go.RowKit.Below W.heap.size W w')) ∧ e ≠ .outgrown := h2.mono fun e w' ⟨v, he, hh⟩ => ⟨⟨v, he, hh⟩, by rw [he]; exact fun h => by cases h⟩
    refine (Mono.calls_mono h3).mono fun e w' ⟨⟨v, he, hv, hb⟩, hd⟩ => ?_
    have hv : v = .int .i64 z := by cases hv; rfl
    exact ⟨by rw [he, hv], below_grow hb hd⟩
theorem sw_same {α : Type} [Inhabited α] {enc : α → Value} {w : World} {blk m : Nat} {dk : Array α} {os : Array Go.Obj} {J : Nat → Prop} (hJ : ∀ b, J b → b < w.heap.size ∧ b ≠ blk) : Same J w (Go.Sort.grow (Go.Sort.putRow enc (Go.Sort.ahead w m) blk 0 dk) os) ∧ ∀ b, J b → b < (Go.Sort.grow (Go.Sort.putRow enc (Go.Sort.ahead w m) blk 0 dk) os).heap.size := by
  have hsz : (Go.Sort.putRow enc (Go.Sort.ahead w m) blk 0 dk).heap.size = w.heap.size := by simp [Go.Sort.putRow, Go.Sort.mapBlock, Go.Sort.ahead]
  refine ⟨fun b hb => ?_, fun b hb => ?_⟩
  · obtain ⟨h1, h2⟩ := hJ b hb
    show ((Go.Sort.putRow enc (Go.Sort.ahead w m) blk 0 dk).heap ++ os)[b]? = _
    rw [Array.getElem?_append_left (by omega)]
    unfold Go.Sort.putRow Go.Sort.mapBlock
    show ((Go.Sort.ahead w m).heap.modify blk _)[b]? = _
    rw [Array.getElem?_modify, if_neg (Ne.symm h2)]
    rfl
  · show b < ((Go.Sort.putRow enc (Go.Sort.ahead w m) blk 0 dk).heap ++ os).size
    rw [Array.size_append]
    have := (hJ b hb).1
    omega
/-- The order of ids by the left ends of their boxes. -/
def cfL (L : Ents) (a b : Int) : Int := if cmpS (selAt (memSel L a) 0) (selAt (memSel L b) 0) ≠ 0 then cmpS (selAt (memSel L a) 0) (selAt (memSel L b) 0) else cmpS a b
theorem cmpS_lt {x y : Int} : cmpS x y < 0 ↔ x < y := by
  unfold cmpS
  by_cases h : x < y
  · rw [if_pos h]; omega
  · rw [if_neg h]; split <;> omega
theorem cmpS_ne {x y : Int} : cmpS x y ≠ 0 ↔ x ≠ y := by
  unfold cmpS
  by_cases h : x < y
  · rw [if_pos h]; omega
  · rw [if_neg h]; split <;> omega
theorem cfL_lt {L : Ents} {a b : Int} : Go.Proofs.ltOf (cfL L) a b = decide (selAt (memSel L a) 0 < selAt (memSel L b) 0 ∨ selAt (memSel L a) 0 = selAt (memSel L b) 0 ∧ a < b) := by
  unfold Go.Proofs.ltOf cfL
  rw [decide_eq_decide]
  by_cases h : selAt (memSel L a) 0 = selAt (memSel L b) 0
  · rw [if_neg (by rw [cmpS_ne]; simpa using h), cmpS_lt]; omega
  · rw [if_pos (cmpS_ne.2 h), cmpS_lt]; omega
theorem cfL_swo {L : Ents} : Go.Sort.SWO (Go.Proofs.ltOf (cfL L)) where
  irrefl x := by rw [cfL_lt]; simp
  trans x y z h1 h2 := by rw [cfL_lt] at *; simp at *; omega
  ntrans x y z h1 h2 := by rw [cfL_lt] at *; simp at *; omega
theorem cfL_tot {L : Ents} {x y : Int} (h1 : Go.Proofs.ltOf (cfL L) x y = false) (h2 : Go.Proofs.ltOf (cfL L) y x = false) : x = y := by
  rw [cfL_lt] at *; simp at *; omega
def srtX (L : Ents) (l : List Int) : List Int := l.mergeSort fun x y => !Go.Proofs.ltOf (cfL L) y x
def lX (N : Nat) (X : Nat → Int) : List Int := (List.range N).map X
def F65 : SRF := fun N get rest => match rest with
  | [.fn 66 [.rop [.rop [.rm 4 L]]]] => some ([N ≤ 1000], fun _ => .tup [], N, fun j => [i64 ((srtX L (lX N (gx get 0))).getD j 0)])
  | _ => none
theorem sem65 : SRSem Tryz.prog 65 1 3 canI F65 := by
  intro N get rest ob v N' get' hF hob w0 ρ D w key r vs hR hk hDr k1 k2 hlen
  unfold F65 at hF
  split at hF
  · rename_i L
    cases hF
    have hN : N ≤ 1000 := hob _ (by simp)
    match vs, hlen, k1, k2 with
    | [y, f], _, k1, k2 =>
      obtain ⟨y', ys, e, hy, _⟩ := k1.inv
      cases e
      obtain ⟨f', fs, e, hf, _⟩ := k2.inv
      cases e
      have hl : look [(r, famN N 1 3 (canI get) none)] r = some (famN N 1 3 (canI get) none) := by simp [look]
      obtain ⟨X, hX⟩ : ∃ X : Nat → Int, X = gx get 0 := ⟨_, rfl⟩
      have hcan : canI get = fun i => [i64 (X i)] := by rw [hX]; rfl
      have hgx : gx (canI get) 0 = X := hX.symm
      rw [hgx]
      cases hf with
      | @fn _ _ _ cbl hcl hcv =>
        have hcb : Rs w (.ext ρ.imm) [.rop [.rop [.rm 4 L]]] cbl := ⟨hcl, hcv⟩
        cases hy with
        | @own _ _ _ _ _ ad hd hn ha =>
          refine .inr ⟨enters_of Tryz.func65 (by kernel_rfl) rfl _ _, ?_⟩
          obtain ⟨_, hrow⟩ := hR.row r _ 0 hl (by simp [famN])
          by_cases h0 : N = 0
          · subst h0
            have hc := AnyF.slices_SortFunc_none (P := Tryz.prog) (ρ := Tryz.sortF_ren) { Tryz.sortF with } ad (ρ.cap r 0) (.func (.func 66) #[] cbl.toArray) w
            refine hc.mono fun e w' ⟨h1, h2⟩ => ⟨.tuple #[], h1, ?_⟩
            subst h2
            refine ⟨ρ, .tup rfl (fun i a x h => by simp at h), ?_, .refl _, fun _ _ => rfl⟩
            have e1 : ∀ z z', Ax.setRow r z [(r, z')] = [(r, z)] := fun z z' => by simp [Ax.setRow]
            have h3 : Rel w0 ρ (Ax.setRow r (famN 0 1 3 (canI get) none) [(r, famN 0 1 3 (canI get) none)]) D w' := by rw [e1]; exact hR
            have h4 := h3.alike (y := famN 0 1 3 (fun j => [i64 ((srtX L (lX 0 X)).getD j 0)]) none) (fun f => by
              by_cases hf : f = 0
              · subst hf; exact ⟨rfl, rfl, rfl, rfl, fun i hi => by have hi : i < 0 := hi; omega⟩
              · simp [famN, hf])
            exact h4.sub (fun _ _ h => h) (fun _ h => .inl h)
          · have hN0 : 0 < N := by omega
            have hNle : N ≤ ρ.cap r 0 := hrow.n_le
            obtain ⟨b1, b2, c, b3, b4⟩ := hrow.cells hN0
            have b3 : w.heap[ρ.blk r 0]? = some (.cells c 3 (0, 0)) := b3
            have b4 : c.size = ρ.cap r 0 * 1 := b4
            have hblt : ρ.blk r 0 < w.heap.size := (Array.getElem?_eq_some_iff.1 b3).1
            rw [ha (by omega)]
            have hcell : ∀ j, j < N → w.cell? ⟨ρ.blk r 0, 0 + j, none⟩ = some (.int .i64 (X j)) := fun j hj => by
              have hjc : j < c.size := by omega
              have hHas : Has w (ρ.blk r 0) (j * 1 + 0) c[j] := by
                unfold Has World.cell?
                simp [b3, hjc]
              have := hrow.rel j 0 (i64 (X j)) c[j] hj (by show (canI get j)[0]? = _; rw [hcan]; rfl) hHas
              have e2 : c[j] = .int .i64 (X j) := R_vv this
              unfold World.cell?
              simp [b3, hjc, e2]
            have hH : Go.Sort.Holds (Value.int .i64) w (ρ.blk r 0) 0 (lX N X).toArray := fun j hj => by
              have hj : j < N := by simpa [lX] using hj
              have e3 : (lX N X).toArray[j]! = X j := by simp [lX, hj]
              rw [e3]
              refine ⟨hcell j hj, ?_⟩
              unfold World.frozen?
              simp [b3]
            have eg : ∀ args w, (callFunc 66 args).run Tryz.prog w = .ok (.enter 66 args) w := enters_of Tryz.func66 (by kernel_rfl) rfl
            have hJ : ∀ b, ρ.imm b → b < w.heap.size ∧ b ≠ ρ.blk r 0 := fun b hb => ⟨(hR.imm2 b hb).1, fun e => b2 (e ▸ hb)⟩
            have hcmp : CmpLays1 Tryz.prog 66 cbl.toArray (Value.int .i64) (cfL L) (ρ.blk r 0) 0 (lX N X).toArray.size w := fun m os dk hs x y => by
              obtain ⟨s1, s2⟩ := sw_same (enc := Value.int .i64) (m := m) (dk := dk) (os := os) hJ
              exact cmp_calls (xs := [.int .i64 x, .int .i64 y]) (J := ρ.imm) con66 (aas := [i64 x, i64 y]) (cs' := [.rop [.rop [.rm 4 L]]]) (ob := []) rfl (fun p hp => by simp at hp) eg s2 (.cons .v (.cons .v .nil)) (hcb.mono (.refl _) s1)
            have hsz : (lX N X).toArray.size = N := by simp [lX]
            have hc := Any.slices_SortFunc_total Tryz.sortF (Value.int .i64) (fun _ => rfl) (cfL L) cfL_swo 66 cbl.toArray (ρ.blk r 0) 0 (ρ.cap r 0) (lX N X).toArray w eg hcmp hH hblt (by rw [hsz]; omega) (fun x y => cfL_tot)
            rw [hsz] at hc
            refine hc.mono fun e w' hh => ?_
            obtain ⟨h1, n, os, h2⟩ := hh
            refine ⟨.tuple #[], h1, ?_⟩
            rw [h2]
            refine sort_post (sz := 1) hR hN0 b3 (by simp [lX]) (fun i hi => rfl) fun i k a hi hk h3 => ?_
            obtain rfl : k = 0 := by omega
            cases h3
            refine ⟨_, rfl, ?_⟩
            have hlt : i < (srtX L (lX N X)).length := by simp [srtX, lX, hi]
            simp only [Nat.mul_one, Nat.add_zero]
            congr 2
            rw [List.getD_eq_getElem?_getD, List.getElem?_eq_getElem hlt]
            unfold srtX at hlt ⊢
            simp [hlt]
            rw [List.getElem?_eq_getElem hlt]
            rfl
  · cases hF
end Go.Ax
end

section
/-
  slices.SortFunc at pairs, by the shelf.
-/
set_option linter.unusedVariables false
set_option linter.unusedSimpArgs false
set_option maxHeartbeats 4000000
set_option maxRecDepth 100000
namespace Go.Ax
open Go.Proofs Go.RowKit Go.Sort
def cfP (p q : Int × Int) : Int := if cmpS p.1 q.1 ≠ 0 then cmpS p.1 q.1 else cmpS p.2 q.2
theorem cfP_lt {p q : Int × Int} : Go.Proofs.ltOf cfP p q = decide (p.1 < q.1 ∨ p.1 = q.1 ∧ p.2 < q.2) := by
  unfold Go.Proofs.ltOf cfP
  rw [decide_eq_decide]
  by_cases h : p.1 = q.1
  · rw [if_neg (by rw [cmpS_ne]; simpa using h), cmpS_lt]; omega
  · rw [if_pos (cmpS_ne.2 h), cmpS_lt]; omega
theorem cfP_swo : Go.Sort.SWO (Go.Proofs.ltOf cfP) where
  irrefl x := by rw [cfP_lt]; simp
  trans x y z h1 h2 := by rw [cfP_lt] at *; simp at *; omega
  ntrans x y z h1 h2 := by rw [cfP_lt] at *; simp at *; omega
theorem cfP_tot {x y : Int × Int} (h1 : Go.Proofs.ltOf cfP x y = false) (h2 : Go.Proofs.ltOf cfP y x = false) : x = y := by
  rw [cfP_lt] at *
  obtain ⟨a, b⟩ := x
  obtain ⟨c, d⟩ := y
  simp at *
  omega
def srtP (l : List (Int × Int)) : List (Int × Int) := l.mergeSort fun x y => !Go.Proofs.ltOf cfP y x
def lP (N : Nat) (X : Nat → Int × Int) : List (Int × Int) := (List.range N).map X
def canP (g : Nat → List AV) (i : Nat) : List AV := [i64 (gx g 0 i), i64 (gx g 1 i)]
def gxP (g : Nat → List AV) (i : Nat) : Int × Int := (gx g 0 i, gx g 1 i)
def encP (p : Int × Int) : List Value := [.int .i64 p.1, .int .i64 p.2]
def F73 : SRF := fun N get rest => match rest with
  | [.fn 74 []] => some ([N ≤ 100000], fun _ => .tup [], N, fun j => lsF (srtP (lP N (gxP get))) j)
  | _ => none
theorem R_pair (W : World) (J : Nat → Prop) (p : Int × Int) : R W (.ext J) (.agg [i64 p.1, i64 p.2]) (.agg (encP p).toArray) := .agg rfl fun i a x h1 h2 => by
  match i, h1, h2 with
  | 0, h1, h2 => cases h1; cases h2; exact .v
  | 1, h1, h2 => cases h1; cases h2; exact .v
  | i + 2, h1, h2 => simp at h1
theorem sem73 : SRSem Tryz.prog 73 2 95 canP F73 := by
  intro N get rest ob v N' get' hF hob w0 ρ D w key r vs hR hk hDr k1 k2 hlen
  unfold F73 at hF
  split at hF
  · cases hF
    have hN : N ≤ 100000 := hob _ (by simp)
    match vs, hlen, k1, k2 with
    | [y, f], _, k1, k2 =>
      obtain ⟨y', ys, e, hy, _⟩ := k1.inv
      cases e
      obtain ⟨f', fs, e, hf, _⟩ := k2.inv
      cases e
      have hl : look [(r, famN N 2 95 (canP get) none)] r = some (famN N 2 95 (canP get) none) := by simp [look]
      obtain ⟨X, hX⟩ : ∃ X : Nat → Int × Int, X = gxP get := ⟨_, rfl⟩
      have hcan : canP get = fun i => [i64 (X i).1, i64 (X i).2] := by rw [hX]; rfl
      have hgx : gxP (canP get) = X := hX.symm
      rw [hgx]
      cases hf with
      | @fn _ _ _ cbl hcl hcv =>
        have hcb : Rs w (.ext ρ.imm) [] cbl := ⟨hcl, hcv⟩
        cases hy with
        | @own _ _ _ _ _ ad hd hn ha =>
          refine .inr ⟨enters_of Tryz.func73 (by kernel_rfl) rfl _ _, ?_⟩
          obtain ⟨_, hrow⟩ := hR.row r _ 0 hl (by simp [famN])
          by_cases h0 : N = 0
          · subst h0
            have hc := AnyF.slices_SortFunc_none (P := Tryz.prog) (ρ := Tryz.sortP_ren) { Tryz.sortP with } ad (ρ.cap r 0) (.func (.func 74) #[] cbl.toArray) w
            refine hc.mono fun e w' ⟨h1, h2⟩ => ⟨.tuple #[], h1, ?_⟩
            subst h2
            refine ⟨ρ, .tup rfl (fun i a x h => by simp at h), ?_, .refl _, fun _ _ => rfl⟩
            have e1 : ∀ z z', Ax.setRow r z [(r, z')] = [(r, z)] := fun z z' => by simp [Ax.setRow]
            have h3 : Rel w0 ρ (Ax.setRow r (famN 0 2 95 (canP get) none) [(r, famN 0 2 95 (canP get) none)]) D w' := by rw [e1]; exact hR
            have h4 := h3.alike (y := famN 0 2 95 (fun j => lsF (srtP (lP 0 X)) j) none) (fun f => by
              by_cases hf : f = 0
              · subst hf; exact ⟨rfl, rfl, rfl, rfl, fun i hi => by have hi : i < 0 := hi; omega⟩
              · simp [famN, hf])
            exact h4.sub (fun _ _ h => h) (fun _ h => .inl h)
          · have hN0 : 0 < N := by omega
            have hNle : N ≤ ρ.cap r 0 := hrow.n_le
            obtain ⟨b1, b2, c, b3, b4⟩ := hrow.cells hN0
            have b3 : w.heap[ρ.blk r 0]? = some (.cells c 95 (0, 0)) := b3
            have b4 : c.size = ρ.cap r 0 * 2 := b4
            have hblt : ρ.blk r 0 < w.heap.size := (Array.getElem?_eq_some_iff.1 b3).1
            rw [ha (by omega)]
            have hcell : ∀ j q, j < N → q < 2 → w.cell? ⟨ρ.blk r 0, 0 + (j * 2 + q), none⟩ = (encP (X j))[q]? := fun j q hj hq => by
              have hjc : j * 2 + q < c.size := by omega
              have hHas : Has w (ρ.blk r 0) (j * 2 + q) c[j * 2 + q] := by
                unfold Has World.cell?
                simp [b3, hjc]
              have e2 : (encP (X j))[q]? = some c[j * 2 + q] := by
                match q, hq with
                | 0, _ =>
                  have := hrow.rel j 0 (i64 (X j).1) c[j * 2 + 0] hj (by show (canP get j)[0]? = _; rw [hcan]; rfl) hHas
                  rw [R_vv this]; rfl
                | 1, _ =>
                  have := hrow.rel j 1 (i64 (X j).2) c[j * 2 + 1] hj (by show (canP get j)[1]? = _; rw [hcan]; rfl) hHas
                  rw [R_vv this]; rfl
              rw [e2]
              unfold World.cell?
              simp [b3, hjc]
            have hlen2 : ∀ x : Int × Int, (encP x).length = 2 := fun _ => rfl
            have hsz : (lP N X).toArray.size = N := by simp [lP]
            have hH : HoldsK encP 2 w (ρ.blk r 0) 0 (lP N X).toArray := fun t ht => by
              have ht : t < N * 2 := by rw [size_flatK, hsz] at ht; exact ht
              rw [get_flatK _ _ _ _ (by rw [hsz]; exact ht)]
              have hj : t / 2 < N := by omega
              have e3 : (lP N X).toArray[t / 2]! = X (t / 2) := by simp [lP, hj]
              rw [e3]
              refine ⟨?_, by unfold World.frozen?; simp [b3]⟩
              have h5 := hcell (t / 2) (t % 2) hj (by omega)
              rw [show t / 2 * 2 + t % 2 = t by omega] at h5
              rw [h5, List.getElem?_eq_getElem (by rw [hlen2]; omega), getElem!_pos (encP (X (t / 2))) (t % 2) (by rw [hlen2]; omega)]
              rfl
            have eg : ∀ args w, (callFunc 74 args).run Tryz.prog w = .ok (.enter 74 args) w := enters_of Tryz.func74 (by kernel_rfl) rfl
            have hJ : ∀ b, ρ.imm b → b < w.heap.size ∧ b ≠ ρ.blk r 0 := fun b hb => ⟨(hR.imm2 b hb).1, fun e => b2 (e ▸ hb)⟩
            have hcmp : CmpLays Tryz.prog 74 cbl.toArray encP 2 cfP (ρ.blk r 0) 0 (lP N X).toArray.size w := fun m os dk hs x y => by
              obtain ⟨s1, s2⟩ := sw_same (enc := id) (m := m) (dk := flatK encP 2 dk) (os := os) hJ
              exact cmp_calls (xs := [.agg (encP x).toArray, .agg (encP y).toArray]) (J := ρ.imm) con74 (aas := [.agg [i64 x.1, i64 x.2], .agg [i64 y.1, i64 y.2]]) (cs' := []) (ob := []) rfl (fun p hp => by simp at hp) eg s2 (.cons (R_pair _ _ _) (.cons (R_pair _ _ _) .nil)) (hcb.mono (.refl _) s1)
            have hc := AnyQ.slices_SortFunc_total Tryz.sortP 2 (fun w => (layT_run (P := Tryz.prog) (w := w) Tryz.lay95).1) (fun w => (layT_run (P := Tryz.prog) (w := w) Tryz.lay95).2) encP hlen2 (fun x v hv => by simp [encP] at hv; rcases hv with rfl | rfl <;> rfl) cfP cfP_swo 74 cbl.toArray (ρ.blk r 0) 0 (ρ.cap r 0) (lP N X).toArray w eg hcmp hH hblt (by rw [hsz]; omega) (fun x y => cfP_tot)
            rw [hsz] at hc
            refine hc.mono fun e w' hh => ?_
            obtain ⟨h1, n, os, h2⟩ := hh
            refine ⟨.tuple #[], h1, ?_⟩
            rw [h2]
            have hS : (srtP (lP N X)).length = N := by simp [srtP, lP]
            refine sort_post (enc := id) (d := flatK encP 2 (srtP (lP N X)).toArray) (sz := 2) hR hN0 b3 (by rw [size_flatK]; simp [hS]) (fun i hi => rfl) fun i k a hi hk h3 => ?_
            rw [get_flatK _ _ _ _ (by simp [hS]; omega)]
            have e4 : (i * 2 + k) / 2 = i := by omega
            have e5 : (i * 2 + k) % 2 = k := by omega
            rw [e4, e5]
            have e6 : (srtP (lP N X)).toArray[i]! = (srtP (lP N X)).getD i (0, 0) := by
              rw [List.getD_eq_getElem?_getD, List.getElem?_eq_getElem (by omega)]
              simp [hS, hi]
            rw [e6]
            match k, hk with
            | 0, _ => cases h3; exact ⟨_, rfl, rfl⟩
            | 1, _ => cases h3; exact ⟨_, rfl, rfl⟩
  · cases hF
end Go.Ax
end

section
/-
  The sweep's pairs.
-/
set_option linter.unusedVariables false
set_option linter.unusedSimpArgs false
set_option maxHeartbeats 4000000
set_option maxRecDepth 100000
namespace Go.Ax
open Go.Proofs
noncomputable def m65 : MCon := mcSR 1 3 canI F65
theorem mon65 : MConOK Tryz.prog 65 m65 := MConOK.mcSR sem65
noncomputable def m73 : MCon := mcSR 2 95 canP F73
theorem mon73 : MConOK Tryz.prog 73 m73 := MConOK.mcSR sem73
theorem F65_eq {N : Nat} {X : Nat → Int} {L : Ents} : F65 N (fun i => [i64 (X i)]) [.fn 66 [.rop [.rop [.rm 4 L]]]] = some ([N ≤ 1000], fun _ => .tup [], N, fun j => [i64 ((srtX L (lX N X)).getD j 0)]) := (rfl)
theorem lP_ls {l : List (Int × Int)} : lP l.length (gxP (lsF l)) = l := by
  apply List.ext_getElem
  · simp [lP]
  · intro i h1 h2
    simp [lP, gxP, lsF, gx, h2]
    rfl
theorem F73_eq {l : List (Int × Int)} : F73 l.length (lsF l) [.fn 74 []] = some ([l.length ≤ 100000], fun _ => .tup [], l.length, lsF (srtP l)) := by
  show some ([l.length ≤ 100000], _, l.length, fun j => lsF (srtP (lP l.length (gxP (lsF l)))) j) = _
  rw [lP_ls]
theorem canP_ls {l : List (Int × Int)} : canP (lsF l) = lsF l := (rfl)
theorem nro_tup0 {d : Nat} : nro (d + 1) (.tup []) = True := eq_true fun c hc => by cases hc
theorem famNro_ls {n : Nat} {l : List (Int × Int)} {ty : TypeId} {g : Option Bool} : famNro (famN n 2 ty (lsF l) g) = True := eq_true fun f j hj c hc => by
  match f with
  | 0 =>
    have hc : c ∈ lsF l j := hc
    simp only [lsF, List.mem_cons, List.not_mem_nil, or_false] at hc
    rcases hc with rfl | rfl <;> trivial
  | f + 1 => have hj : j < 0 := hj; omega
attribute [go_sem] F65_eq F73_eq canP_ls nro_tup0 famNro_ls
theorem fitRow_N {N M n n' sz : Nat} {ty : TypeId} {σ : Names} {g g' : Nat → List AV} (hn : n = n') (h : ∀ q, q < n → fitL N M σ (g q) (g' q)) (f : Nat) : fitRow N M σ (famN n sz ty g none f) (famN n' sz ty g' none f) := by
  subst hn
  by_cases hf : f = 0
  · subst hf
    exact ⟨rfl, rfl, rfl, rfl, rfl, h⟩
  · unfold famN
    rw [if_neg hf, if_neg hf]
    exact ⟨rfl, rfl, rfl, rfl, rfl, fun i hi => by have hi : i < 0 := hi; omega⟩
theorem fitRow_0 {sz : Nat} {ty : TypeId} {g : Nat → List AV} (f : Nat) : (famN 0 sz ty g none f).n = 0 ∧ (famN 0 sz ty g none f).g = none := by
  unfold famN
  split <;> exact ⟨rfl, rfl⟩
/-- What the sweep from the left has found, and what has not ended. -/
def pwStep (L : Ents) (s : List (Int × Int) × List Int) (id : Int) : List (Int × Int) × List Int :=
  let live := s.2.filter fun k => !decide (selAt (memSel L k) 2 < selAt (memSel L id) 0)
  (s.1 ++ (live.filter fun k => meetsS (selAt (memSel L k) 0) (selAt (memSel L k) 1) (selAt (memSel L k) 2) (selAt (memSel L k) 3) (selAt (memSel L id) 0) (selAt (memSel L id) 1) (selAt (memSel L id) 2) (selAt (memSel L id) 3)).map fun k => (min id k, max id k), live ++ [id])
def pw (L : Ents) (o : List Int) : List (Int × Int) × List Int := o.foldl (pwStep L) ([], [])
def ordL (L : Ents) : List Int := srtX L (srtK L)
def pairsL (L : Ents) : List (Int × Int) := srtP (pw L (ordL L)).1
theorem lX_srt {L : Ents} : lX L.length (fun i => (srtK L).getD i 0) = srtK L := by
  apply List.ext_getElem
  · simp [lX, srtK_len]
  · intro i h1 h2
    simp [lX, h2]
def pwN (L : Ents) (o : List Int) : Nat → List (Int × Int) × List Int
  | 0 => ([], [])
  | i + 1 => pwStep L (pwN L o i) (o.getD i 0)
theorem pwN_take {L : Ents} {o : List Int} : ∀ i, i ≤ o.length → pwN L o i = pw L (o.take i)
  | 0, _ => rfl
  | i + 1, h => by
    unfold pw
    rw [pwN, pwN_take i (by omega), List.take_add_one, List.foldl_append, List.getElem?_eq_getElem (by omega), List.getD_eq_getElem?_getD, List.getElem?_eq_getElem (by omega)]
    rfl
theorem pwN_all {L : Ents} {o : List Int} : pwN L o o.length = pw L o := by rw [pwN_take _ (Nat.le_refl _), List.take_length]
theorem ordL_len {L : Ents} : (ordL L).length = L.length := by simp [ordL, srtX, srtK_len]
theorem live_le {L : Ents} {o : List Int} : ∀ i, (pwN L o i).2.length ≤ i
  | 0 => Nat.le_refl _
  | i + 1 => by
    have h := live_le (L := L) (o := o) i
    unfold pwN pwStep
    simp only [List.length_append, List.length_singleton]
    have := List.length_filter_le (fun k => !decide (selAt (memSel L k) 2 < selAt (memSel L (o.getD i 0)) 0)) (pwN L o i).2
    omega
theorem out_le {L : Ents} {o : List Int} : ∀ i, (pwN L o i).1.length ≤ i * i
  | 0 => Nat.le_refl _
  | i + 1 => by
    have h := out_le (L := L) (o := o) i
    have h2 := live_le (L := L) (o := o) i
    unfold pwN pwStep
    simp only [List.length_append, List.length_map]
    have h3 := List.length_filter_le (fun k => meetsS (selAt (memSel L k) 0) (selAt (memSel L k) 1) (selAt (memSel L k) 2) (selAt (memSel L k) 3) (selAt (memSel L (o.getD i 0)) 0) (selAt (memSel L (o.getD i 0)) 1) (selAt (memSel L (o.getD i 0)) 2) (selAt (memSel L (o.getD i 0)) 3)) ((pwN L o i).2.filter fun k => !decide (selAt (memSel L k) 2 < selAt (memSel L (o.getD i 0)) 0))
    have h4 := List.length_filter_le (fun k => !decide (selAt (memSel L k) 2 < selAt (memSel L (o.getD i 0)) 0)) (pwN L o i).2
    have h5 : (i + 1) * (i + 1) = i * i + i + i + 1 := by rw [Nat.add_mul, Nat.mul_add]; omega
    omega
def mtK (L : Ents) (a b : Int) : Bool := meetsS (selAt (memSel L a) 0) (selAt (memSel L a) 1) (selAt (memSel L a) 2) (selAt (memSel L a) 3) (selAt (memSel L b) 0) (selAt (memSel L b) 1) (selAt (memSel L b) 2) (selAt (memSel L b) 3)
/-- The pairs of one box with the first of some. -/
def inN (L : Ents) (id : Int) (l : List Int) : Nat → List (Int × Int)
  | 0 => []
  | j + 1 => inN L id l j ++ (if mtK L (l.getD j 0) id = true then [(min id (l.getD j 0), max id (l.getD j 0))] else [])
theorem inN_take {L : Ents} {id : Int} {l : List Int} : ∀ j, j ≤ l.length → inN L id l j = ((l.take j).filter fun k => mtK L k id).map fun k => (min id k, max id k)
  | 0, _ => rfl
  | j + 1, h => by
    rw [inN, inN_take j (by omega), List.take_add_one, List.filter_append, List.map_append, List.getElem?_eq_getElem (by omega), List.getD_eq_getElem?_getD, List.getElem?_eq_getElem (by omega)]
    congr 1
    show (if mtK L l[j] id = true then _ else _) = List.map _ (List.filter _ [l[j]])
    by_cases hm : mtK L l[j] id = true
    · rw [if_pos hm]; simp [hm]
    · rw [if_neg hm]; simp [hm]
theorem inN_all {L : Ents} {id : Int} {l : List Int} : inN L id l l.length = (l.filter fun k => mtK L k id).map fun k => (min id k, max id k) := by rw [inN_take _ (Nat.le_refl _), List.take_length]
theorem inN_le {L : Ents} {id : Int} {l : List Int} : ∀ j, (inN L id l j).length ≤ j
  | 0 => Nat.le_refl _
  | j + 1 => by
    have := inN_le (L := L) (id := id) (l := l) j
    simp only [inN, List.length_append]
    split <;> simp <;> omega
/-- Those that have not ended. -/
def stay (L : Ents) (id : Int) (l : List Int) : List Int := l.filter fun k => !decide (selAt (memSel L k) 2 < selAt (memSel L id) 0)
theorem stay_flt {L : Ents} {id : Int} {l : List Int} : flt (fun k => decide (selAt (memSel L k) 2 < selAt (memSel L id) 0)) (fun j => l.getD j 0) l.length = stay L id l := flt_len
theorem pwN_step {L : Ents} {o : List Int} {i : Nat} : pwN L o (i + 1) = ((pwN L o i).1 ++ inN L (o.getD i 0) (stay L (o.getD i 0) (pwN L o i).2) (stay L (o.getD i 0) (pwN L o i).2).length, stay L (o.getD i 0) (pwN L o i).2 ++ [o.getD i 0]) := by
  rw [inN_all]; rfl
noncomputable def F21 : List AV → Option (List Prop × (Nat → AV) × (Nat → Option Fam))
  | [.rop [.rm 4 L]] => some ([selIn L, L.length ≤ 256], fun k => .own k 0 (pairsL L).length 2, fun k => some (famN (pairsL L).length 2 95 (lsF (pairsL L)) none))
  | _ => none
noncomputable def mN21 : MCon := mcKU F21
theorem mN21_eq : mN21 = mcKU F21 := (rfl)
theorem mon21 : MConOK Tryz.prog 21 mN21 := MConOK.mkU (G := [(59, .wr mN59), (66, c66), (65, .wr m65), (71, c71), (70, .wr m70), (72, c72), (73, .wr m73), (74, c74)]) (H := []) (.mcons mon59 (.cons con66 (.mcons mon65 (.cons con71 (.mcons mon70 (.cons con72 (.mcons mon73 (.cons con74 .nil)))))))) Tryz.func21 fun es ob v nw hF hob => by
  unfold F21 at hF
  split at hF
  · rename_i L
    cases hF
    have h1 : selIn L := hob _ (by simp)
    have h2 : L.length ≤ 256 := hob _ (by simp)
    have h3 : L.length ≤ 1000 := by omega
    refine ⟨_, fun w I vs hR => hR, by simp [clean], by kernel_rfl, fun key => bodyM_go (rs := [.tmp 2]) rfl rfl ?_⟩
    simp only [go_sem, c66, m65, c71, m70, c72, m73, c74, m65, m70, h1, h3]
    rw [lX_srt]
    refine ⟨fun _ _ => trivial, ?_⟩
    refine loopN_go (fun (i : Nat) => i ≤ L.length) (fun i => L.length - i) (fun i => [(18, i64 i), (4, .own 13 0 (pwN L (ordL L) i).1.length 2), (5, .own 14 0 (pwN L (ordL L) i).2.length 1)])
      (fun i => [(13, famN (pwN L (ordL L) i).1.length 2 95 (lsF (pwN L (ordL L) i).1) none), (14, famN (pwN L (ordL L) i).2.length 1 3 (fun j => [i64 ((pwN L (ordL L) i).2.getD j 0)]) none)]) [0, 3] [19, 20, 21, 7, 22, 23, 24, 25, 26, 27, 8, 28, 29, 30, 5, 31, 32, 33, 34, 35, 36, 10, 37, 38, 39, 40, 41, 42, 43, 44, 45, 46, 47, 48, 49, 50, 51, 52, 53, 54, 4, 55, 33, 56, 57, 58, 59, 5, 60, 18] 2 0 (by kernel_rfl) (Nat.zero_le _) ⟨[(13, none), (14, none)], ?_, ?_, ?_, ?_⟩ ?_
    · simp only [go_sem, pwN, List.length_nil]
      simp [fit1, asg]
    · simp only [go_sem, pwN, List.length_nil]
      have e13 : asg [(13, none), (14, none)] 13 = none := by simp [asg]
      have e14 : asg [(13, none), (14, none)] 14 = none := by simp [asg]
      simp only [fitRows, e13, e14]
      exact ⟨fitRow_0, fitRow_0, trivial⟩
    · simp only [go_sem]
    · simp [goodNames, asg]
    intro i hi
    have l1 := live_le (L := L) (o := ordL L) i
    have l2 : (pwN L (ordL L) i).2.length ≤ 1000 := by omega
    simp only [go_sem, c66, m65, c71, m70, c72, m73, c74, m70, h1, h3, l2]
    have l3 := out_le (L := L) (o := ordL L) i
    have hst := pwN_step (L := L) (o := ordL L) (i := i)
    refine ⟨fun h => ⟨by omega, h, by omega, fun _ _ => trivial, ?_⟩, fun h => ?_⟩
    · have eo : srtX L (srtK L) = ordL L := rfl
      simp only [eo, stay_flt, flX]
      generalize (ordL L).getD i 0 = id at hst ⊢
      have i1 : ∀ k, inR (selAt (memSel L id) k) := fun k => h1 id k
      have hSV : (stay L id (pwN L (ordL L) i).2).length ≤ (pwN L (ordL L) i).2.length := List.length_filter_le _ _
      generalize hSd : stay L id (pwN L (ordL L) i).2 = S at hst hSV ⊢
      generalize hOd : (pwN L (ordL L) i).1 = O at hst l3 ⊢
      generalize (pwN L (ordL L) i).2 = V at l1 l2 hSV ⊢
      refine loopN_go (fun (j : Nat) => j ≤ S.length) (fun j => S.length - j) (fun j => [(33, i64 j), (4, .own 34 0 (O ++ inN L id S j).length 2)])
        (fun j => [(34, famN (O ++ inN L id S j).length 2 95 (lsF (O ++ inN L id S j)) none)]) [25, 14, 3, 0] [34, 35, 36, 10, 37, 38, 39, 40, 41, 42, 43, 44, 45, 46, 47, 48, 49, 50, 51, 52, 53, 54, 4, 55, 33] 1 0 (by kernel_rfl) (Nat.zero_le _) ⟨[(34, some 13)], ?_, ?_, ?_, ?_⟩ ?_
      · simp only [go_sem, inN, List.append_nil]
      · simp only [go_sem, inN, List.append_nil]
        intro q hq
        exact fitL_clean rfl
      · simp only [go_sem]
      · simp [goodNames, asg]
      intro j hj
      simp only [go_sem, c66, m65, c71, m70, c72, m73, c74, m70, h1, i1, h1 _ _]
      have hb : bytesT Tryz.prog 95 = 16 := by kernel_rfl
      have n1 := inN_le (L := L) (id := id) (l := S) j
      have hii : i * i ≤ 256 * 256 := Nat.mul_le_mul (by omega) (by omega)
      refine ⟨fun hlt => ⟨by omega, hlt, by omega, fun z hz => ⟨fun ht z1 k1 z2 k2 => ⟨?_, ?_, fun z3 k3 => ⟨j + 1, by omega, by omega, [(34, some 56)], ?_⟩⟩, fun hf z1 k1 => ⟨j + 1, by omega, by omega, [(34, some 34)], ?_⟩⟩⟩, fun hge => ?_⟩
      · rw [hb, List.length_append]; omega
      · rw [List.length_append]; omega
      · have e : O ++ inN L id S (j + 1) = (O ++ inN L id S j) ++ [(min id (S.getD j 0), max id (S.getD j 0))] := by
          rw [inN, if_pos (by unfold mtK; rw [← hz]; exact ht), List.append_assoc]
        rw [e, List.length_append, List.length_singleton]
        subst k1 k2
        simp only [go_sem]
        refine ⟨by rw [k3, wrap_in (by unfold inR; omega)]; omega, fun q hq => ?_, by simp [goodNames, asg]⟩
        rw [lsF_push hq]
        exact fitL_clean rfl
      · have e : O ++ inN L id S (j + 1) = O ++ inN L id S j := by
          rw [inN, if_neg (by unfold mtK; rw [← hz, hf]; decide), List.append_nil]
        rw [e]
        simp only [go_sem]
        exact ⟨by rw [k1, wrap_in (by unfold inR; omega)]; omega, fun q hq => fitL_clean rfl, by simp [goodNames, asg]⟩
      · have ej : j = S.length := by omega
        subst ej
        have hb3 : bytesT Tryz.prog 3 = 8 := by kernel_rfl
        refine ⟨hSV, by rw [hb3]; omega, by omega, fun z hz => ⟨i + 1, by omega, by omega, [(13, some 34), (14, some 39)], ⟨?_, ?_, ?_⟩, ?_, ?_⟩⟩
        · rw [hz, wrap_in (by unfold inR; omega)]; omega
        · rw [hst]; simp [fit1, asg]
        · rw [hst]; simp [fit1, asg]
        · rw [hst]
          have e13 : asg [(13, some 34), (14, some 39)] 13 = some 34 := by simp [asg]
          have e14 : asg [(13, some 34), (14, some 39)] 14 = some 39 := by simp [asg]
          simp only [fitRows, e13, e14]
          refine ⟨⟨_, rfl, fitRow_N rfl fun q hq => fitL_clean rfl⟩, ⟨_, rfl, fitRow_N (by simp) fun q hq => ?_⟩, trivial⟩
          have hq : q < S.length + 1 := by simpa using hq
          have e : (if q < S.length then [i64 (S.getD q 0)] else List.take 1 (List.drop ((q - S.length) * 1) [i64 id])) = [i64 ((S ++ [id]).getD q 0)] := by
            split
            · rename_i hlt
              simp [List.getD_eq_getElem?_getD, List.getElem?_append_left hlt]
            · have : q = S.length := by omega
              subst this
              simp
          rw [e]
          exact fitL_clean rfl
        · rw [hst]; simp [goodNames, asg]
    · have e : i = L.length := by omega
      subst e
      have hO : (pwN L (ordL L) L.length).1 = (pw L (ordL L)).1 := by
        have := pwN_all (L := L) (o := ordL L)
        rw [ordL_len] at this
        rw [this]
      have hP : srtP (pwN L (ordL L) L.length).1 = pairsL L := by rw [hO]; rfl
      have hPl : (pairsL L).length = (pwN L (ordL L) L.length).1.length := by rw [← hP]; simp [srtP]
      have hii : L.length * L.length ≤ 256 * 256 := Nat.mul_le_mul (by omega) (by omega)
      rw [hP, hPl]
      exact ⟨fun _ _ => trivial, by omega, newN rfl (Nat.zero_le _) fun q hq => ⟨rfl, fun c hc => by
        simp only [lsF, List.mem_cons, List.not_mem_nil, or_false] at hc
        rcases hc with rfl | rfl <;> rfl⟩⟩
  · cases hF
end Go.Ax
end

section
/-
  What the laws ask of lists.
-/
set_option linter.unusedVariables false
set_option linter.unusedSimpArgs false
set_option maxHeartbeats 4000000
set_option maxRecDepth 100000
namespace Go.Ax
open Go.Proofs
def c25 : Con
  | [.v (.int .i64 a), .v (.int .i64 b), .v (.int .i64 c), .v (.int .i64 d)] => some ([], .agg [i64 a, i64 b, i64 c, i64 d])
  | _ => none
theorem con25 : ConOK Tryz.prog 25 c25 := ConOK.of (G := []) (H := []) .nil Tryz.func25 fun l ob rr hc hob => by
  unfold c25 at hc
  split at hc
  · rename_i a b c d
    cases hc
    refine ⟨by kernel_rfl, fnVC_go (rs := [.cell 8 32]) rfl rfl ?_⟩
    simp only [go_sem]
    skip
  · cases hc
/-- Whole numbers in a slice, or none. -/
def roI : AV → Option (List Prop × Nat × (Nat → Int))
  | .ro n 1 g => some ([ints n g], n, gx g 0)
  | .v (.slice none 0 0) => some ([], 0, fun _ => 0)
  | _ => none
def roP : AV → Option (List Prop × Nat × (Nat → Int × Int))
  | .ro n 2 g => some ([∀ i, i < n → g i = canP g i], n, gxP g)
  | .v (.slice none 0 0) => some ([], 0, fun _ => (0, 0))
  | _ => none
theorem R_nil {w : World} {ρ : Env} {v : Value} {sz : Nat} {f : Nat → List AV} (h : R w ρ (.v (.slice none 0 0)) v) : R w ρ (.ro 0 sz f) v := by
  cases h
  exact .ro 0 0 (Nat.le_refl _) (fun h => absurd h (by omega)) (fun h => absurd h (by omega)) (fun i h => absurd h (by omega)) (fun i k h => absurd h (by omega)) (fun i k c x h => absurd h (by omega))
theorem roI_sound {a : AV} {ob : List Prop} {n : Nat} {X : Nat → Int} {w : World} {ρ : Env} {v : Value} (h : roI a = some (ob, n, X)) (hob : ∀ p ∈ ob, p) (hR : R w ρ a v) : R w ρ (.ro n 1 fun i => [i64 (X i)]) v := by
  unfold roI at h
  split at h
  · rename_i n g
    cases h
    have h1 : ints n g := hob _ (by simp)
    exact ro_alike (fun i hi => h1 i hi) hR
  · cases h; exact R_nil hR
  · cases h
theorem roP_sound {a : AV} {ob : List Prop} {n : Nat} {X : Nat → Int × Int} {w : World} {ρ : Env} {v : Value} (h : roP a = some (ob, n, X)) (hob : ∀ p ∈ ob, p) (hR : R w ρ a v) : R w ρ (.ro n 2 fun i => [i64 (X i).1, i64 (X i).2]) v := by
  unfold roP at h
  split at h
  · rename_i n g
    cases h
    have h1 : ∀ i, i < n → g i = canP g i := hob _ (by simp)
    exact ro_alike (fun i hi => h1 i hi) hR
  · cases h; exact R_nil hR
  · cases h
theorem roI_ro {n : Nat} {g : Nat → List AV} : roI (.ro n 1 g) = some ([ints n g], n, gx g 0) := (rfl)
theorem roI_nil : roI (.v (.slice none 0 0)) = some ([], 0, fun _ => 0) := (rfl)
theorem roP_ro {n : Nat} {g : Nat → List AV} : roP (.ro n 2 g) = some ([∀ i, i < n → g i = canP g i], n, gxP g) := (rfl)
theorem roP_nil : roP (.v (.slice none 0 0)) = some ([], 0, fun _ => (0, 0)) := (rfl)
def c49f : Option (List Prop × Nat × (Nat → Int)) → Option (List Prop × Nat × (Nat → Int)) → Option (List Prop × AV)
  | some (o1, n, X), some (o2, m, Y) => some ((n ≤ 100000) :: (o1 ++ o2), bo (decide (lX n X = lX m Y)))
  | _, _ => none
def c49 : Con
  | [a, b] => c49f (roI a) (roI b)
  | _ => none
theorem lX_eq {n m : Nat} {X Y : Nat → Int} : lX n X = lX m Y ↔ n = m ∧ ∀ i, i < n → X i = Y i := by
  constructor
  · intro h
    have h1 : n = m := by have := congrArg List.length h; simpa [lX] using this
    subst h1
    refine ⟨rfl, fun i hi => ?_⟩
    have := congrArg (fun l => l[i]?) h
    simpa [lX, hi] using this
  · rintro ⟨rfl, h⟩
    unfold lX
    exact List.map_congr_left fun i hi => h i (by simpa using hi)
theorem con49 : ConOK Tryz.prog 49 c49 := ConOK.go (G := []) (H := []) .nil Tryz.func49 fun l ob rr hc hob => by
  unfold c49 at hc
  split at hc
  · rename_i a b
    unfold c49f at hc
    split at hc
    · rename_i o1 n X o2 m Y ha hb
      cases hc
      have hn : n ≤ 100000 := hob _ (by simp)
      refine ⟨[.ro n 1 fun i => [i64 (X i)], .ro m 1 fun i => [i64 (Y i)]], fun w I vs hR => ?_, by kernel_rfl, fnVC_go (rs := [.tmp 4]) rfl rfl ?_⟩
      · obtain ⟨y, ys, rfl, k1, k2⟩ := hR.inv
        obtain ⟨y2, ys2, rfl, k3, k4⟩ := k2.inv
        exact .cons (roI_sound ha (fun p hp => hob p (by simp [hp])) k1) (.cons (roI_sound hb (fun p hp => hob p (by simp [hp])) k3) k4)
      simp only [go_sem]
      refine ⟨fun h => ?_, fun h => ?_⟩
      · have hne : n ≠ m := fun e => by subst e; simp at h
        symm
        rw [decide_eq_false_iff_not, lX_eq]
        exact fun e => hne e.1
      have hnm' : (n : Int) = m := by simpa using h
      have hnm : n = m := by omega
      clear hnm'
      subst hnm
      refine loopN_go (fun (i : Nat) => i ≤ n ∧ ∀ j, j < i → X j = Y j) (fun i => n - i) (fun i => [(5, i64 i)]) (fun i => []) [] [11, 12, 13, 14, 17, 18, 19, 20, 21, 22, 23, 24, 25, 4, 15, 16, 5] 0 0 (by kernel_rfl) ⟨Nat.zero_le _, fun j hj => by omega⟩ ⟨[], ?_, ?_, ?_, ?_⟩ ?_
      · simp only [go_sem]
      · simp only [go_sem]
      · simp only [go_sem]
      · simp [goodNames, asg]
      rintro i ⟨hi, hj⟩
      simp only [go_sem]
      refine ⟨fun h => ⟨by omega, h, by omega, h, fun hne => ?_, fun he z hz => ⟨i + 1, ⟨by omega, fun j h2 => ?_⟩, by omega, [], by rw [hz, wrap_in (by unfold inR; omega)]; omega, by simp [goodNames, asg]⟩⟩, fun h => ?_⟩
      · symm
        rw [decide_eq_false_iff_not, lX_eq]
        intro e
        rw [e.2 i (by omega)] at hne
        simp at hne
      · by_cases e : j = i
        · subst e; simpa using he
        · exact hj j (by omega)
      · symm
        rw [decide_eq_true_iff, lX_eq]
        exact ⟨rfl, fun j h2 => hj j (by omega)⟩
    · cases hc
  · cases hc
end Go.Ax
end

section
/-
  What the laws ask of lists of pairs.
-/
set_option linter.unusedVariables false
set_option linter.unusedSimpArgs false
set_option maxHeartbeats 4000000
set_option maxRecDepth 100000
namespace Go.Ax
open Go.Proofs
theorem lP_eq {n m : Nat} {X Y : Nat → Int × Int} : lP n X = lP m Y ↔ n = m ∧ ∀ i, i < n → X i = Y i := by
  constructor
  · intro h
    have h1 : n = m := by have := congrArg List.length h; simpa [lP] using this
    subst h1
    refine ⟨rfl, fun i hi => ?_⟩
    have := congrArg (fun l => l[i]?) h
    simpa [lP, hi] using this
  · rintro ⟨rfl, h⟩
    unfold lP
    exact List.map_congr_left fun i hi => h i (by simpa using hi)
def c20f : Option (List Prop × Nat × (Nat → Int × Int)) → Option (List Prop × Nat × (Nat → Int × Int)) → Option (List Prop × AV)
  | some (o1, n, X), some (o2, m, Y) => some ((n ≤ 100000) :: (o1 ++ o2), bo (decide (lP n X = lP m Y)))
  | _, _ => none
def c20 : Con
  | [a, b] => c20f (roP a) (roP b)
  | _ => none
theorem con20 : ConOK Tryz.prog 20 c20 := ConOK.go (G := []) (H := []) .nil Tryz.func20 fun l ob rr hc hob => by
  unfold c20 at hc
  split at hc
  · rename_i a b
    unfold c20f at hc
    split at hc
    · rename_i o1 n X o2 m Y ha hb
      cases hc
      have hn : n ≤ 100000 := hob _ (by simp)
      refine ⟨[.ro n 2 fun i => [i64 (X i).1, i64 (X i).2], .ro m 2 fun i => [i64 (Y i).1, i64 (Y i).2]], fun w I vs hR => ?_, by kernel_rfl, fnVC_go (rs := [.tmp 4]) rfl rfl ?_⟩
      · obtain ⟨y, ys, rfl, k1, k2⟩ := hR.inv
        obtain ⟨y2, ys2, rfl, k3, k4⟩ := k2.inv
        exact .cons (roP_sound ha (fun p hp => hob p (by simp [hp])) k1) (.cons (roP_sound hb (fun p hp => hob p (by simp [hp])) k3) k4)
      simp only [go_sem]
      refine ⟨fun h => ?_, fun h => ?_⟩
      · have hne : n ≠ m := fun e => by subst e; simp at h
        symm
        rw [decide_eq_false_iff_not, lP_eq]
        exact fun e => hne e.1
      have hnm' : (n : Int) = m := by simpa using h
      have hnm : n = m := by omega
      clear hnm'
      subst hnm
      refine loopN_go (fun (i : Nat) => i ≤ n ∧ ∀ j, j < i → X j = Y j) (fun i => n - i) (fun i => [(5, i64 i)]) (fun i => []) [] [11, 12, 13, 14, 17, 18, 19, 20, 21, 22, 23, 24, 25, 4, 15, 16, 5] 0 0 (by kernel_rfl) ⟨Nat.zero_le _, fun j hj => by omega⟩ ⟨[], ?_, ?_, ?_, ?_⟩ ?_
      · simp only [go_sem]
      · simp only [go_sem]
      · simp only [go_sem]
      · simp [goodNames, asg]
      rintro i ⟨hi, hj⟩
      simp only [go_sem]
      refine ⟨fun h => ⟨by omega, h, by omega, h, fun hne => ?_, fun he z hz => ⟨i + 1, ⟨by omega, fun j h2 => ?_⟩, by omega, [], by rw [hz, wrap_in (by unfold inR; omega)]; omega, by simp [goodNames, asg]⟩⟩, fun h => ?_⟩
      · symm
        rw [decide_eq_false_iff_not, lP_eq]
        intro e
        rw [e.2 i (by omega)] at hne
        simp at hne
      · by_cases e : j = i
        · subst e; have h3 : (X j).1 = (Y j).1 ∧ (X j).2 = (Y j).2 := by simpa using he
          exact Prod.ext h3.1 h3.2
        · exact hj j (by omega)
      · symm
        rw [decide_eq_true_iff, lP_eq]
        exact ⟨rfl, fun j h2 => hj j (by omega)⟩
    · cases hc
  · cases hc
end Go.Ax
end

section
/-
  The chapter's examples: a sweep.
-/
set_option linter.unusedVariables false
set_option linter.unusedSimpArgs false
set_option maxHeartbeats 4000000
set_option maxRecDepth 100000
namespace Go.Ax
open Go.Proofs
def shL : Ents := [(5, [0, 0, 10, 10]), (2, [10, 5, 20, 8]), (9, [11, 0, 12, 4])]
noncomputable def F57 : List AV → Option (List Prop × (Nat → AV) × (Nat → Option Fam))
  | [] => some ([], fun k => .bx k 0, fun k => some (swF k ⟨shL, noRows⟩))
  | _ => none
noncomputable def mN57 : MCon := mcKU F57
theorem mN57_eq : mN57 = mcKU F57 := (rfl)
theorem F57_eq : F57 [] = some ([], fun k => .bx k 0, fun k => some (swF k ⟨shL, noRows⟩)) := (rfl)
theorem F28_eq : F28 [] = some ([], fun k => .bx k 0, fun k => some (swF k ⟨[], noRows⟩)) := (rfl)
attribute [go_sem] mN57_eq F57_eq F28_eq
theorem swF_eq {K : Nat} {s : SwS} : swF K s = famR [⟨1, 1, 103, fun _ => [.mp K 1], none⟩, mapR 4 s.L] s.tl := (rfl)
theorem famNK_W' {key : Nat} {L : Ents} : famNK key (famR [⟨1, 1, 103, fun _ => [.mp key 1], none⟩, mapR 4 L] noRows) = True := famNK_W
theorem inR_l {z : Int} (h : -9223372036854775808 ≤ z ∧ z ≤ 9223372036854775807) : inR z = True := eq_true (by unfold inR; omega)
theorem put_1 : putE [] 5 0 0 10 10 = 0 := by decide +kernel
theorem put_2 : putE [(5, [0, 0, 10, 10])] 2 10 5 20 8 = 0 := by decide +kernel
theorem put_3 : putE [(5, [0, 0, 10, 10]), (2, [10, 5, 20, 8])] 9 11 0 12 4 = 0 := by decide +kernel
theorem putw_1 : putW ⟨[], noRows⟩ 5 0 0 10 10 = ⟨[(5, [0, 0, 10, 10])], noRows⟩ := by unfold putW; dsimp only; rw [put_1]; rfl
theorem putw_2 : putW ⟨[(5, [0, 0, 10, 10])], noRows⟩ 2 10 5 20 8 = ⟨[(5, [0, 0, 10, 10]), (2, [10, 5, 20, 8])], noRows⟩ := by unfold putW; dsimp only; rw [put_2]; rfl
theorem putw_3 : putW ⟨[(5, [0, 0, 10, 10]), (2, [10, 5, 20, 8])], noRows⟩ 9 11 0 12 4 = ⟨shL, noRows⟩ := by unfold putW; dsimp only; rw [put_3]; rfl
theorem inR_0 : inR 0 = True := inR_l (by decide)
theorem inR_4 : inR 4 = True := inR_l (by decide)
theorem inR_5 : inR 5 = True := inR_l (by decide)
theorem inR_8 : inR 8 = True := inR_l (by decide)
theorem inR_10 : inR 10 = True := inR_l (by decide)
theorem inR_11 : inR 11 = True := inR_l (by decide)
theorem inR_12 : inR 12 = True := inR_l (by decide)
theorem inR_20 : inR 20 = True := inR_l (by decide)
/-- A sweep that is handed on. -/
theorem newOW {key N r : Nat} {L : Ents} {m1 : Mem} {v : Nat → AV} (hv : ∀ θ r, renA θ 3 (v r) = v (θ r 0).1) (hk : ∀ G B r, B r → kg G B 3 (v r)) (h : look m1 r = some (swF r ⟨L, noRows⟩)) (hN : N ≤ r) : NewP key N (v r) m1 (v key) (some (swF key ⟨L, noRows⟩)) := by
  have ix1 : ixP [(r, 0), (r, 1)] r 0 = 0 := by simp [ixP]
  have ix2 : ixP [(r, 0), (r, 1)] r 1 = 1 := by simp [ixP]
  refine newP_list [(r, 0), (r, 1)] (by simp) (by simp [hN]) (hk _ _ _ (.inr rfl)) (fun ks hks => ?_) (fun ks hks f r' g hf => ?_) (fun f hf => ?_)
  · rw [hv]
    simp only [thL]
    rw [if_neg (by omega)]
  · match f, hf with
    | 0, hf =>
      cases hf
      refine ⟨_, h, ⟨rfl, rfl, rfl, rfl, fun j hj => ⟨?_, fun c hc => ?_⟩⟩, by simp [swF, famR_0]⟩
      · show [AV.mp key 1] = [AV.mp (thL ks key (ixP [(r, 0), (r, 1)]) r 1).1 (thL ks key (ixP [(r, 0), (r, 1)]) r 1).2]
        simp only [thL]
        rw [if_neg (by omega), ix2]
      · have hc : c ∈ [AV.mp r 1] := hc
        simp only [List.mem_cons, List.not_mem_nil, or_false] at hc
        subst hc
        exact .inr (by rw [ix2]; rfl)
    | 1, hf =>
      cases hf
      exact ⟨_, h, ⟨rfl, rfl, rfl, rfl, fun j hj => by have hj : j < 0 := hj; omega⟩, by simp [swF, famR_1, mapR]⟩
    | f + 2, hf => simp at hf
  · match f, hf with
    | f + 2, _ => rfl
theorem mon57 : MConOK Tryz.prog 57 mN57 := MConOK.mkU (G := [(28, .wr mN28), (25, c25), (19, .wr m19)]) (H := []) (.mcons mon28 (.cons con25 (.mcons mon19 .nil))) Tryz.func57 fun es ob v nw hF hob => by
  unfold F57 at hF
  split at hF
  · cases hF
    refine ⟨_, fun w I vs hR => hR, by simp, by kernel_rfl, fun key => bodyM_go (rs := [.tmp 0]) rfl rfl ?_⟩
    simp only [go_sem, c25, m19, swF_eq, F19, put_1, put_2, put_3, putw_1, putw_2, putw_3, famNK_W', inR_0, inR_4, inR_5, inR_8, inR_10, inR_11, inR_12, inR_20]
    have b0 : ((0 : Int) != 0) = false := by decide
    simp only [forall_eq, b0, false_or, or_false, Bool.false_eq_true, false_imp_iff, true_imp_iff, true_and, and_true, not_true, eq_self, not_false_iff, imp_false]
    exact ⟨newOW (v := fun k => .bx k 0) (L := shL) (m1 := [(1, swF 1 ⟨shL, noRows⟩)]) (fun _ _ => rfl) (fun _ _ _ h => h) rfl (Nat.zero_le _), fun h => (by cases h)⟩
  · cases hF
end Go.Ax
end

section
/-
  The chapter's examples hold.
-/
set_option linter.unusedVariables false
set_option linter.unusedSimpArgs false
set_option maxHeartbeats 4000000
set_option maxRecDepth 100000
namespace Go.Ax
open Go.Proofs
theorem slF_eq {K : Nat} {s : SlS} : slF K s = famR [⟨1, 2, 100, fun _ => [u64 s.x, .own K 1 s.n 1], none⟩, ⟨s.n, 1, 3, fun i => [i64 (s.G i)], none⟩] s.tl := (rfl)
def g0 : Nat → Int := fun _ => 0
def g1 : Nat → Int := upI g0 0 1
def g2 : Nat → Int := upI g1 1 1
theorem F45_3' : F45 [i64 3] = some ([], fun k => .tup [.bx k 0, i64 0], fun k => some (slF k ⟨0, 3, g0, noRows⟩)) := (rfl)
theorem tkI_0 : tkI ⟨0, 3, g0, noRows⟩ = 0 := by decide +kernel
theorem tkI_1 : tkI ⟨1, 3, g1, noRows⟩ = 1 := by decide +kernel
theorem tkS_0 : tkS ⟨0, 3, g0, noRows⟩ = ⟨1, 3, g1, noRows⟩ := by
  unfold tkS; rw [tkI_0]; rfl
theorem tkS_1 : tkS ⟨1, 3, g1, noRows⟩ = ⟨3, 3, g2, noRows⟩ := by
  unfold tkS; rw [tkI_1]; rfl
theorem tkE_0 : tkE ⟨0, 3, g0, noRows⟩ = 0 := by decide +kernel
theorem tkE_1 : tkE ⟨1, 3, g1, noRows⟩ = 0 := by decide +kernel
theorem tkH_0 : tkH ⟨0, 3, g0, noRows⟩ = (0, 1) := by decide +kernel
theorem tkH_1 : tkH ⟨1, 3, g1, noRows⟩ = (1, 1) := by decide +kernel
theorem slOK_0 : slOK ⟨0, 3, g0, noRows⟩ = True := eq_true ⟨⟨by decide, by decide⟩, ⟨by decide, by decide⟩, by decide⟩
theorem slOK_1 : slOK ⟨1, 3, g1, noRows⟩ = True := eq_true ⟨⟨by decide, by decide⟩, ⟨by decide, by decide⟩, by decide⟩
theorem slOK_2 : slOK ⟨3, 3, g2, noRows⟩ = True := eq_true ⟨⟨by decide, by decide⟩, ⟨by decide, by decide⟩, by decide⟩
theorem has_2 : hasI ⟨3, 3, g2, noRows⟩ 1 1 = true := by decide +kernel
theorem fr_2 : frS ⟨3, 3, g2, noRows⟩ 1 1 = ⟨1, 3, g2, noRows⟩ := by
  unfold frS; rw [has_2]; rfl
theorem at_3 : atOk 1 3 1 = false := by decide +kernel
theorem at_4 : atOk 1 3 0 = true := by decide +kernel
theorem g2_0 : g2 0 = 1 := (rfl)
theorem g2_0' : g2 (Int.toNat 0) = 1 := (rfl)
theorem selIn_sh : selIn shL = True := eq_true fun k j => by
  have h : memSel shL k = none ∨ memSel shL k = some [0, 0, 10, 10] ∨ memSel shL k = some [10, 5, 20, 8] ∨ memSel shL k = some [11, 0, 12, 4] := by
    unfold shL
    simp only [memSel]
    repeat' split
    all_goals simp
  rcases h with h | h | h | h <;> rw [h] <;> unfold selAt inR <;> dsimp only <;> (try (rcases j with _ | _ | _ | _ | j <;> simp <;> omega)) <;> (try omega)
theorem ms_eq {α : Type} {le : α → α → Bool} (tr : ∀ a b c, le a b = true → le b c = true → le a c = true) (tot : ∀ a b, (le a b || le b a) = true) (anti : ∀ a b, le a b = true → le b a = true → a = b) {l l' : List α} (hp : l.Perm l') (hs : l'.Pairwise fun a b => le a b = true) : l.mergeSort le = l' :=
  List.Perm.eq_of_pairwise (le := fun a b => le a b = true) (fun a b _ _ h1 h2 => anti a b h1 h2) (List.pairwise_mergeSort tr tot l) hs ((List.mergeSort_perm l le).trans hp)
theorem srtK_eq {L : Ents} {l : List Int} (hp : (L.map (·.1)).Perm l) (hs : l.Pairwise fun a b => a ≤ b) : srtK L = l :=
  ms_eq (by simp; omega) (by simp; omega) (by simp; omega) hp (hs.imp fun h => by simpa using h)
theorem srtX_eq {L : Ents} {l l' : List Int} (hp : l.Perm l') (hs : l'.Pairwise fun a b => (!Go.Proofs.ltOf (cfL L) b a) = true) : srtX L l = l' :=
  ms_eq (fun a b c h1 h2 => by rw [cfL_lt] at *; simp at *; omega) (fun a b => by rw [cfL_lt, cfL_lt, Bool.or_eq_true]; simp; omega) (fun a b h1 h2 => by rw [cfL_lt] at *; simp at *; omega) hp hs
theorem srtP_eq {l l' : List (Int × Int)} (hp : l.Perm l') (hs : l'.Pairwise fun a b => (!Go.Proofs.ltOf cfP b a) = true) : srtP l = l' :=
  ms_eq (fun a b c h1 h2 => by rw [cfP_lt] at *; simp at *; omega) (fun a b => by rw [cfP_lt, cfP_lt, Bool.or_eq_true]; simp; omega) (fun a b h1 h2 => cfP_tot (by simpa using h2) (by simpa using h1)) hp hs
theorem srtK_sh : srtK shL = [2, 5, 9] := srtK_eq (by decide) (by decide)
theorem ord_sh : ordL shL = [5, 2, 9] := by
  unfold ordL
  rw [srtK_sh]
  exact srtX_eq (by decide) (by decide +kernel)
theorem pairs_sh : pairsL shL = [(2, 5)] := by
  unfold pairsL
  rw [ord_sh, show (pw shL [5, 2, 9]).1 = [(2, 5)] by decide +kernel]
  exact srtP_eq (List.Perm.refl _) (by decide)
theorem seen_sh : seenL shL (fun x y z t => meetsS x y z t 12 4 13 6) = [2, 9] := by
  unfold seenL
  rw [srtK_sh]
  decide +kernel
theorem shL_len : shL.length = 3 := (rfl)
theorem c20_eq {a b : AV} : c20 [a, b] = c20f (roP a) (roP b) := (rfl)
theorem c20f_some {o1 o2 : List Prop} {n m : Nat} {X Y : Nat → Int × Int} : c20f (some (o1, n, X)) (some (o2, m, Y)) = some ((n ≤ 100000) :: (o1 ++ o2), bo (decide (lP n X = lP m Y))) := (rfl)
theorem c49_eq {a b : AV} : c49 [a, b] = c49f (roI a) (roI b) := (rfl)
theorem c49f_some {o1 o2 : List Prop} {n m : Nat} {X Y : Nat → Int} : c49f (some (o1, n, X)) (some (o2, m, Y)) = some ((n ≤ 100000) :: (o1 ++ o2), bo (decide (lX n X = lX m Y))) := (rfl)
theorem famNK_ls {key n : Nat} {l : List (Int × Int)} {ty : TypeId} {g : Option Bool} : famNK key (famN n 2 ty (lsF l) g) = True := eq_true fun f j hj c hc => by
  match f with
  | 0 =>
    have hc : c ∈ lsF l j := hc
    simp only [lsF, List.mem_cons, List.not_mem_nil, or_false] at hc
    rcases hc with rfl | rfl <;> trivial
  | f + 1 => have hj : j < 0 := hj; omega
theorem purL_ls {d : Nat} {m : Mem} {l : List (Int × Int)} {i : Nat} : purL (d + 1) m (lsF l i) = lsF l i := (rfl)
attribute [go_sem] purL_ls c20_eq c20f_some c49_eq c49f_some famNK_ls roI_ro roI_nil roP_ro roP_nil
def c15 : Con
  | [] => some ([], bo true)
  | _ => none
theorem aw_p : decide (lP 1 (gxP fun i => lsF [(2, 5)] i) = lP 1 (gxP (rowsOf 2 [i64 2, i64 5]))) = true := by decide +kernel
theorem aw_i : decide ((lX 2 fun i => [2, 9].getD i 0) = lX 2 (gx (rowsOf 1 [i64 2, i64 9]) 0)) = true := by decide +kernel
theorem aw_q : (∀ i, i < 1 → List.take 2 (List.drop (i * 2) [i64 2, i64 5]) = canP (rowsOf 2 [i64 2, i64 5]) i) = True := eq_true fun i hi => by
  obtain rfl : i = 0 := by omega
  rfl
theorem aw_j : ints 2 (rowsOf 1 [i64 2, i64 9]) = True := eq_true fun i hi => by
  match i, hi with
  | 0, _ => rfl
  | 1, _ => rfl
theorem inR_13 : inR 13 = True := inR_l (by decide)
theorem inR_6 : inR 6 = True := inR_l (by decide)
theorem con15 : ConOK Tryz.prog 15 c15 := ConOK.of (G := [(45, .wr m45), (57, .wr mN57), (40, .wr m40), (44, .wr m44), (60, k60), (21, .wr mN21), (20, c20), (25, c25), (50, .wr mN50), (49, c49)]) (H := []) (.mcons mon45 (.mcons mon57 (.mcons mon40 (.mcons mon44 (.cons con60 (.mcons mon21 (.cons con20 (.cons con25 (.mcons mon50 (.cons con49 .nil)))))))))) Tryz.func15 fun l ob rr hc hob => by
  unfold c15 at hc
  split at hc
  · cases hc
    refine ⟨by kernel_rfl, fnVC_go (rs := [.tmp 0]) rfl rfl ?_⟩
    simp only [go_sem, mN57_eq, m40, m44, m45, k60, slF_eq, swF_eq, F45_3', F40, F44, F60, tkS_0, tkS_1, tkE_0, tkE_1, tkH_0, tkH_1, slOK_0, slOK_1, slOK_2, has_2, fr_2, at_3, at_4, g2_0, g2_0', famNK_W', selIn_sh, pairs_sh, seen_sh, shL_len, F21, F50, mN21_eq, c25, aw_p, aw_i, aw_q, aw_j, inR_4, inR_12, inR_13, inR_6]
    have b0 : ((0 : Int) != 0) = false := by decide
    have b1 : ((0 : Int) == 0) = true := by decide
    have b2 : ((1 : Int) == 1) = true := by decide
    simp only [forall_eq, b0, b1, b2, false_or, or_false, Bool.false_eq_true, false_imp_iff, true_imp_iff, true_and, and_true, and_self, not_true, eq_self, not_false_iff, imp_self, implies_true, Bool.and_true, Bool.not_false, Bool.and_self, Bool.true_eq_false, false_imp_iff, imp_true_iff, aw_p, aw_i, aw_q, aw_j]
  · cases hc
end Go.Ax
end

section
/-
  The plain law of pairs: what the sweep from the left finds is what each held against each finds.
-/
set_option linter.unusedVariables false
set_option linter.unusedSimpArgs false
set_option maxHeartbeats 4000000
set_option maxRecDepth 100000
namespace Go.Ax
open Go.Proofs
theorem meetsS_comm {a b c d x y z t : Int} : meetsS a b c d x y z t = meetsS x y z t a b c d := by
  unfold meetsS
  apply decide_eq_decide.2
  constructor <;> rintro ⟨h1, h2, h3, h4, h5, h6⟩ <;> exact ⟨h2, h1, h4, h3, h6, h5⟩
theorem mtK_comm {L : Ents} {a b : Int} : mtK L a b = mtK L b a := meetsS_comm
/-- Each with those behind it. -/
def prR (L : Ents) : List Int → List (Int × Int)
  | [] => []
  | a :: t => (t.filter fun b => mtK L a b).map (fun b => (min a b, max a b)) ++ prR L t
theorem prR_perm {L : Ents} {l l' : List Int} (h : l.Perm l') : (prR L l).Perm (prR L l') := by
  induction h with
  | nil => exact .refl _
  | cons a h ih => exact ((h.filter _).map _).append ih
  | swap a b t =>
    simp only [prR, List.filter_cons]
    have hc : mtK L a b = mtK L b a := mtK_comm
    have hm : (min a b, max a b) = (min b a, max b a) := by rw [Int.min_comm, Int.max_comm]
    rw [hc]
    cases mtK L b a
    · simp only [Bool.false_eq_true, if_false]
      exact List.perm_append_comm_assoc _ _ _
    · simp only [if_true, List.map_cons, List.cons_append, hm]
      exact (List.perm_append_comm_assoc _ _ _).cons _
  | trans h1 h2 i1 i2 => exact i1.trans i2
theorem prR_end {L : Ents} {x : Int} : ∀ {p : List Int}, (prR L (p ++ [x])).Perm (prR L p ++ (p.filter fun k => mtK L k x).map fun k => (min x k, max x k))
  | [] => by simp [prR]
  | a :: p => by
    have ih := prR_end (L := L) (x := x) (p := p)
    simp only [List.cons_append, prR, List.filter_append, List.map_append, List.filter_cons, List.filter_nil]
    have hm : (min a x, max a x) = (min x a, max x a) := by rw [Int.min_comm, Int.max_comm]
    cases mtK L a x
    · simp only [Bool.false_eq_true, if_false, List.map_nil, List.append_nil, List.append_assoc]
      exact ih.append_left _
    · simp only [if_true, List.map_cons, List.map_nil, List.append_assoc]
      refine List.Perm.append_left _ ?_
      rw [hm]
      refine (ih.append_left [_]).trans ?_
      show (_ :: (prR L p ++ _)).Perm (prR L p ++ _ :: _)
      exact List.perm_middle.symm
/-- What the sweep has when it has gone through the first ones. -/
theorem pw_end {L : Ents} {p : List Int} {x : Int} : pw L (p ++ [x]) = pwStep L (pw L p) x := by
  unfold pw; rw [List.foldl_append]; rfl
theorem pw_inv {L : Ents} : ∀ (r p : List Int), (p ++ r).Nodup → ((p ++ r).Pairwise fun a b => selAt (memSel L a) 0 ≤ selAt (memSel L b) 0) → (pw L p).1.Perm (prR L p) → (∃ q : Int → Bool, (pw L p).2 = p.filter q ∧ ∀ k ∈ p, q k = false → ∀ id ∈ r, selAt (memSel L k) 2 < selAt (memSel L id) 0) → (pw L (p ++ r)).1.Perm (prR L (p ++ r))
  | [], p, _, _, h, _ => by rw [List.append_nil]; exact h
  | x :: r, p, hn, hs, h, ⟨q, h1, h2⟩ => by
    have e : p ++ x :: r = (p ++ [x]) ++ r := by simp
    rw [e] at hn hs ⊢
    have hx : x ∉ p := fun hx => by
      have := (List.nodup_append.1 (List.nodup_append.1 hn).1).2.2 x hx x (by simp)
      exact this rfl
    refine pw_inv r (p ++ [x]) hn hs ?_ ⟨fun k => k == x || (q k && !decide (selAt (memSel L k) 2 < selAt (memSel L x) 0)), ?_, fun k hk hq id hid => ?_⟩
    · rw [pw_end]
      unfold pwStep
      dsimp only
      refine List.Perm.trans ?_ prR_end.symm
      refine h.append ?_
      rw [h1, List.filter_filter, List.filter_filter]
      refine List.Perm.of_eq (congrArg _ (List.filter_congr fun k hk => ?_))
      show (mtK L k x && !decide (selAt (memSel L k) 2 < selAt (memSel L x) 0) && q k) = mtK L k x
      cases hm : mtK L k x with
      | false => rfl
      | true =>
        have hlt : ¬ selAt (memSel L k) 2 < selAt (memSel L x) 0 := by
          unfold mtK meetsS at hm
          rw [decide_eq_true_iff] at hm
          omega
        cases hq : q k with
        | true => rw [decide_eq_false hlt]; rfl
        | false => exact absurd (h2 k hk hq x (by simp)) hlt
    · rw [pw_end]
      unfold pwStep
      dsimp only
      rw [h1, List.filter_filter, List.filter_append]
      congr 1
      · refine List.filter_congr fun k hk => ?_
        have : (k == x) = false := by
          rw [beq_eq_false_iff_ne]
          rintro rfl
          exact hx hk
        rw [this, Bool.false_or, Bool.and_comm]
      · simp
    · rw [Bool.or_eq_false_iff, beq_eq_false_iff_ne] at hq
      obtain ⟨hkx, hq⟩ := hq
      have hk : k ∈ p := by
        rcases List.mem_append.1 hk with hk | hk
        · exact hk
        · exact absurd (by simpa using hk) hkx
      rw [Bool.and_eq_false_iff] at hq
      rcases hq with hq | hq
      · exact h2 k hk hq id (by simp [hid])
      · have hq : selAt (memSel L k) 2 < selAt (memSel L x) 0 := by simpa using hq
        have := (List.pairwise_append.1 hs).2.2 x (by simp) id hid
        omega
theorem srtX_pw {L : Ents} {l : List Int} : (srtX L l).Pairwise fun a b => selAt (memSel L a) 0 ≤ selAt (memSel L b) 0 := by
  refine List.Pairwise.imp (R := fun a b => (!Go.Proofs.ltOf (cfL L) b a) = true) (fun {a b} h => ?_) (List.pairwise_mergeSort ?_ ?_ l)
  · rw [cfL_lt] at h; simp at h; omega
  · intro a b c h1 h2
    rw [cfL_lt] at *; simp at *; omega
  · intro a b
    rw [cfL_lt, cfL_lt, Bool.or_eq_true]; simp; omega
theorem srtX_perm {L : Ents} {l : List Int} : (srtX L l).Perm l := List.mergeSort_perm _ _
theorem srtK_perm {L : Ents} : (srtK L).Perm (L.map (·.1)) := List.mergeSort_perm _ _
theorem srtK_le {L : Ents} : (srtK L).Pairwise fun a b => a ≤ b := by
  refine List.Pairwise.imp (R := fun a b => decide (a ≤ b) = true) (fun {a b} h => by simpa using h) (List.pairwise_mergeSort ?_ ?_ _)
  · intro a b c h1 h2
    simp at *; omega
  · intro a b
    rw [Bool.or_eq_true]; simp; omega
/-- The ids are all different. -/
def keysN (L : Ents) : Prop := (L.map (·.1)).Nodup
theorem srtK_lt {L : Ents} (h : keysN L) : (srtK L).Pairwise fun a b => a < b := by
  have hn : (srtK L).Nodup := srtK_perm.nodup_iff.2 h
  exact (srtK_le.and hn).imp fun h => by
    obtain ⟨h1, h2⟩ := h
    omega
/-- Each held against those behind it, by ascending ids. -/
def bruP (L : Ents) : List Int → List (Int × Int)
  | [] => []
  | a :: t => (t.filter fun b => mtK L a b).map (fun b => (a, b)) ++ bruP L t
theorem bru_prR {L : Ents} : ∀ {l : List Int}, (l.Pairwise fun a b => a < b) → prR L l = bruP L l
  | [], _ => rfl
  | a :: t, h => by
    obtain ⟨h1, h2⟩ := List.pairwise_cons.1 h
    rw [prR, bruP, bru_prR h2]
    congr 1
    refine List.map_congr_left fun b hb => ?_
    have := h1 b (List.mem_filter.1 hb).1
    rw [Int.min_eq_left (by omega), Int.max_eq_right (by omega)]
theorem bru_mem {L : Ents} : ∀ {l : List Int} {p : Int × Int}, p ∈ bruP L l → p.1 ∈ l ∧ p.2 ∈ l
  | [], _, h => by cases h
  | a :: t, p, h => by
    rw [bruP, List.mem_append] at h
    rcases h with h | h
    · obtain ⟨b, hb, rfl⟩ := List.mem_map.1 h
      exact ⟨by simp, by simp [(List.mem_filter.1 hb).1]⟩
    · have := bru_mem h
      exact ⟨by simp [this.1], by simp [this.2]⟩
theorem bru_sorted {L : Ents} : ∀ {l : List Int}, (l.Pairwise fun a b => a < b) → (bruP L l).Pairwise fun p q => (!Go.Proofs.ltOf cfP q p) = true
  | [], _ => .nil
  | a :: t, h => by
    obtain ⟨h1, h2⟩ := List.pairwise_cons.1 h
    rw [bruP]
    refine List.pairwise_append.2 ⟨?_, bru_sorted h2, fun p hp q hq => ?_⟩
    · rw [List.pairwise_map]
      refine (h2.filter _).imp fun {b c} hbc => ?_
      rw [cfP_lt]; simp; omega
    · obtain ⟨b, hb, rfl⟩ := List.mem_map.1 hp
      have := h1 _ (bru_mem hq).1
      rw [cfP_lt]; simp; omega
theorem pairs_eq {L : Ents} (h : keysN L) : pairsL L = bruP L (srtK L) := by
  have hl := srtK_lt h
  have hn : (srtK L).Nodup := srtK_perm.nodup_iff.2 h
  have ho : (ordL L).Nodup := srtX_perm.nodup_iff.2 hn
  unfold pairsL
  refine srtP_eq ?_ (bru_sorted hl)
  have := pw_inv (L := L) (ordL L) [] (by simpa using ho) (by rw [List.nil_append]; exact srtX_pw) (.refl _) ⟨fun _ => true, rfl, fun k hk => by cases hk⟩
  rw [List.nil_append] at this
  refine this.trans ?_
  rw [← bru_prR hl]
  exact prR_perm srtX_perm
/-! ### Each held against those behind it, by places -/
def wIn (M : Nat → Nat → Bool) (X : Nat → Int) (i : Nat) : Nat → List (Int × Int)
  | 0 => []
  | j + 1 => wIn M X i j ++ (if M i (i + 1 + j) = true then [(X i, X (i + 1 + j))] else [])
def wOut (M : Nat → Nat → Bool) (X : Nat → Int) (n : Nat) : Nat → List (Int × Int)
  | 0 => []
  | i + 1 => wOut M X n i ++ wIn M X i (n - (i + 1))
theorem wIn_le {M : Nat → Nat → Bool} {X : Nat → Int} {i : Nat} : ∀ j, (wIn M X i j).length ≤ j
  | 0 => Nat.le_refl _
  | j + 1 => by
    have := wIn_le (M := M) (X := X) (i := i) j
    simp only [wIn, List.length_append]
    split <;> simp <;> omega
theorem wOut_le {M : Nat → Nat → Bool} {X : Nat → Int} {n : Nat} : ∀ i, (wOut M X n i).length ≤ i * n
  | 0 => by simp [wOut]
  | i + 1 => by
    have h1 := wOut_le (M := M) (X := X) (n := n) i
    have h2 := wIn_le (M := M) (X := X) (i := i) (n - (i + 1))
    simp only [wOut, List.length_append]
    rw [Nat.add_mul]
    omega
theorem wIn_eq {L : Ents} {o : List Int} {M : Nat → Nat → Bool} {i : Nat} (hM : ∀ k, i < k → k < o.length → M i k = mtK L (o.getD i 0) (o.getD k 0)) : ∀ j, i + 1 + j ≤ o.length → wIn M (fun k => o.getD k 0) i j = (((o.drop (i + 1)).take j).filter fun b => mtK L (o.getD i 0) b).map fun b => (o.getD i 0, b)
  | 0, _ => by simp [wIn]
  | j + 1, h => by
    rw [wIn, wIn_eq hM j (by omega), List.take_add_one, List.filter_append, List.map_append, List.getElem?_drop, List.getElem?_eq_getElem (by omega), hM (i + 1 + j) (by omega) (by omega)]
    have e : o.getD (i + 1 + j) 0 = o[i + 1 + j] := by rw [List.getD_eq_getElem?_getD, List.getElem?_eq_getElem (by omega)]; rfl
    rw [e]
    congr 1
    show _ = List.map _ (List.filter _ [o[i + 1 + j]])
    generalize o.getD i 0 = z
    generalize o[i + 1 + j] = b
    cases hm : mtK L z b <;> simp [hm]
theorem wOut_pre {L : Ents} {o : List Int} {M : Nat → Nat → Bool} (hM : ∀ i k, i < k → k < o.length → M i k = mtK L (o.getD i 0) (o.getD k 0)) : ∀ i, i ≤ o.length → wOut M (fun k => o.getD k 0) o.length i ++ bruP L (o.drop i) = bruP L o
  | 0, _ => by simp [wOut]
  | i + 1, h => by
    have ih := wOut_pre hM i (by omega)
    rw [← ih, wOut, List.append_assoc, wIn_eq (hM i) _ (by omega), List.take_of_length_le (by rw [List.length_drop]; omega)]
    have e : o.drop i = o.getD i 0 :: o.drop (i + 1) := by
      rw [List.drop_eq_getElem_cons (by omega)]
      congr 1
      rw [List.getD_eq_getElem?_getD, List.getElem?_eq_getElem (by omega)]; rfl
    rw [e, bruP]
theorem wOut_bru {L : Ents} {o : List Int} {M : Nat → Nat → Bool} (hM : ∀ i k, i < k → k < o.length → M i k = mtK L (o.getD i 0) (o.getD k 0)) : wOut M (fun k => o.getD k 0) o.length o.length = bruP L o := by
  have := wOut_pre hM o.length (Nat.le_refl _)
  rw [List.drop_length] at this
  rw [← this]; simp [bruP]
/-! ### What is asked of the entries -/
theorem memSel_mem {L : Ents} {k : Int} {x : List Int} (h : memSel L k = some x) : (k, x) ∈ L := by
  induction L with
  | nil => cases h
  | cons p L ih =>
    obtain ⟨q, y⟩ := p
    unfold memSel at h
    split at h
    · rename_i e; cases h; subst e; exact List.mem_cons_self
    · exact List.mem_cons_of_mem _ (ih h)
theorem mem_memSel {L : Ents} (hn : keysN L) {k : Int} {x : List Int} (h : (k, x) ∈ L) : memSel L k = some x := by
  induction L with
  | nil => cases h
  | cons p L ih =>
    obtain ⟨q, y⟩ := p
    have hn : q ∉ L.map (·.1) ∧ (L.map (·.1)).Nodup := List.nodup_cons.1 hn
    unfold memSel
    rcases List.mem_cons.1 h with h | h
    · cases h; rw [if_pos rfl]
    · rw [if_neg, ih hn.2 h]
      rintro rfl
      exact hn.1 (List.mem_map_of_mem h)
end Go.Ax
end

section
/-
  What the laws' sweeps are made of: boxes of numbers.
-/
set_option linter.unusedVariables false
set_option linter.unusedSimpArgs false
set_option maxHeartbeats 4000000
set_option maxRecDepth 100000
namespace Go.Ax
open Go.Proofs
end Go.Ax
end

section
/-
  The laws' sweeps: put.
-/
set_option linter.unusedVariables false
set_option linter.unusedSimpArgs false
set_option maxHeartbeats 4000000
set_option maxRecDepth 100000
namespace Go.Ax
open Go.Proofs
/-- Boxes that are valid, one an element. -/
def bxOK (n : Nat) (g : Nat → List AV) : Prop := ∀ i, i < n → g i = [i64 (gx g 0 i), i64 (gx g 1 i), i64 (gx g 2 i), i64 (gx g 3 i)] ∧ checkBoxS (gx g 0 i) (gx g 1 i) (gx g 2 i) (gx g 3 i) = 0
def bxI (g : Nat → List AV) (i : Nat) : List Int := [gx g 0 i, gx g 1 i, gx g 2 i, gx g 3 i]
/-- What has been put after i of n, from the first one on or from the last one on. -/
def ptAt (n : Nat) (last : Bool) (i : Nat) : Nat := if last = true then n - 1 - i else i
def ptL (n : Nat) (last : Bool) (B : Nat → List Int) : Nat → Ents
  | 0 => []
  | i + 1 => ptL n last B i ++ [((ptAt n last i : Int), B (ptAt n last i))]
theorem selNone {k : Int} : ∀ {L : Ents}, k ∉ L.map (·.1) → memSel L k = none
  | [], _ => rfl
  | (q, x) :: L, h => by
    rw [List.map_cons, List.mem_cons, not_or] at h
    unfold memSel
    rw [if_neg (fun e => h.1 e.symm), selNone h.2]
noncomputable def F14 : List AV → Option (List Prop × (Nat → AV) × (Nat → Option Fam))
  | [.ro n 4 g, .v (.bool last)] => some ([n ≤ 256, bxOK n g], fun k => .bx k 0, fun k => some (swF k ⟨ptL n last (bxI g) n, noRows⟩))
  | _ => none
noncomputable def mN14 : MCon := mcKU F14
theorem mN14_eq : mN14 = mcKU F14 := (rfl)
attribute [go_sem] mN14_eq
end Go.Ax
end

section
/-
  What the laws ask of lists of handles, and of what is in a list.
-/
set_option linter.unusedVariables false
set_option linter.unusedSimpArgs false
set_option maxHeartbeats 4000000
set_option maxRecDepth 100000
namespace Go.Ax
open Go.Proofs
def c43f : Option (List Prop × Nat × (Nat → Int × Int)) → Option (List Prop × Nat × (Nat → Int × Int)) → Option (List Prop × AV)
  | some (o1, n, X), some (o2, m, Y) => some ((n ≤ 100000) :: (o1 ++ o2), bo (decide (lP n X = lP m Y)))
  | _, _ => none
def c43 : Con
  | [a, b] => c43f (roP a) (roP b)
  | _ => none
def c38f (n : Nat) (X : Nat → Int × Int) (z : Int × Int) (ob : List Prop) : List Prop × AV := ((n ≤ 100000) :: ob, bo (decide (z ∈ lP n X)))
def c38 : Con
  | [a, .agg [.v (.int .i64 z1), .v (.int .i64 z2)]] => match roP a with
    | some (ob, n, X) => some (c38f n X (z1, z2) ob)
    | none => none
  | _ => none
end Go.Ax
end
