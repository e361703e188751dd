/-
  The law of worn slots.
-/
import Derived.Test.YtfpgjkeelegdpaaCM10
import Derived.Test.YtfpgjkeelegdpaaRows
import Derived.WalkKit
import Derived.ProofKit
section
set_option linter.unusedVariables false
set_option linter.unusedSimpArgs false
set_option maxHeartbeats 4000000
set_option maxRecDepth 100000
namespace Go.Ax
open Go.Proofs
def gnW (X : Nat → Int) (i : Nat) : Int := 2147483647 - modS (X i) 4
/-- How much is left of the generations of the first slots. -/
def lfW (G : Nat → Int) : Nat → Int
  | 0 => 0
  | i + 1 => lfW G i + (2147483647 - G i)
theorem gnW_in {X : Nat → Int} {i : Nat} : 2147483644 ≤ gnW X i ∧ gnW X i ≤ 2147483647 := by
  have := modS_in (n := X i) (m := 4) (by omega)
  unfold gnW; omega
theorem lfW_in {G : Nat → Int} : ∀ {i : Nat}, (∀ j, j < i → 2147483644 ≤ G j ∧ G j ≤ 2147483647) → 0 ≤ lfW G i ∧ lfW G i ≤ 3 * i
  | 0, _ => by simp [lfW]
  | i + 1, h => by
    have h1 := lfW_in (G := G) (i := i) fun j hj => h j (by omega)
    have h2 := h i (by omega)
    unfold lfW; omega
theorem F23_eq {a b : AV} : F23 [a, b] = F23f (roJ a) (roB b) := (rfl)
theorem roJ_ro {n : Nat} {g : Nat → List AV} : roJ (.ro n 1 g) = some ([ints n g], n, gx g 0) := (rfl)
theorem F23f_ok {o1 o2 : List Prop} {n m : Nat} {G : Nat → Int} {T : Nat → Bool} (h : rsE n m G T = 0) : F23f (some (o1, n, G)) (some (o2, m, T)) = some (o1 ++ o2, fun k => .tup [.bx k 0, i64 0], fun k => some (slF k ⟨xOf T n, n, G, noRows⟩)) := by
  unfold F23f
  dsimp only
  rw [if_pos h]
theorem roB_ro {n : Nat} {g : Nat → List AV} : roB (.ro n 1 g) = some ([bools n g], n, fun i => gz (g i)) := (rfl)
theorem xOf_no : ∀ {k : Nat}, xOf (fun _ => false) k = 0
  | 0 => rfl
  | k + 1 => by unfold xOf; rw [if_neg (by decide)]; exact xOf_no
theorem rs_no {n : Nat} {G : Nat → Int} (hn : 1 ≤ n ∧ n ≤ 64) (hG : ∀ i, i < n → 0 ≤ G i ∧ G i ≤ 2147483647) : rsE n n G (fun _ => false) = 0 := by
  have h1 : ¬ lst (badG G) n < n := by
    rw [lst_full fun j hj => by have := hG j hj; unfold badG; rw [decide_eq_false (by omega), decide_eq_false (by omega)]; rfl]
    omega
  have h2 : ¬ lst (badT G fun _ => false) n < n := by
    rw [lst_full (p := badT G fun _ => false) fun j hj => rfl]
    omega
  unfold rsE
  rw [if_neg (by omega), if_neg h1, if_neg (by omega), if_neg h2]
attribute [go_sem] mN23_eq F23_eq roJ_ro roB_ro gz_bool bools_can xOf_no
theorem vc6 {k : Nat} {X : Nat → Int} (hX : ∀ i, inR (X i)) : fnVC Try.prog [(13, c13), (16, c16), (23, .wr mN23), (24, k39), (25, .wr m25), (26, .wr m26), (27, k60)] [] Try.f6 [.ro k 1 fun i => [i64 (X i)]] (· = bo true) := by
  refine fnVC_go (rs := [.tmp 2]) rfl rfl ?_
  simp only [go_sem]
  refine ⟨fun _ _ => trivial, fun hc => ?_⟩
  have hk : 1 ≤ k ∧ k ≤ 8 := by
    have h2 : (k : Int) ≠ 0 := by simpa using hc.2
    omega
  have hg := fun i => gnW_in (X := X) (i := i)
  have hrs : rsE k k (gnW X) (fun _ => false) = 0 := rs_no (by omega) fun i _ => by have := hg i; omega
  refine loopN_go (fun (i : Nat) => i ≤ k) (fun i => k - i) (fun i => [(5, i64 i), (4, i64 (lfW (gnW X) i)), (3, .own 12 0 i 1)])
    (fun i => [(12, famN i 1 3 (fun j => [i64 (gnW X j)]) none)]) [] [28, 29, 30, 31, 34, 35, 36, 37, 38, 6, 39, 40, 41, 42, 43, 3, 44, 45, 46, 4, 32, 33, 5] 1 0 (by kernel_rfl) (Nat.zero_le _) ⟨[(12, none)], ?_, ?_, ?_, ?_⟩ ?_
  · simp only [go_sem, lfW, Int.cast_ofNat_Int]
  · simp only [go_sem]
  · simp only [go_sem]
  · simp [goodNames, asg]
  intro i hi
  have hik : ¬ (i : Int) < k → i = k := fun h => by omega
  simp only [go_sem, c16]
  have hb : bytesT Try.prog 3 = 8 := by kernel_rfl
  have hb4 : bytesT Try.prog 4 = 1 := by kernel_rfl
  refine ⟨fun hlt => ⟨by omega, hlt, fun z hz => ⟨hX i, by unfold inR; omega, fun z1 hz1 => ⟨by rw [hb]; omega, by omega, fun z2 hz2 z3 hz3 => ⟨i + 1, by omega, by omega, [(12, some 27)], ⟨?_, ?_, ?_⟩, ?_, ?_⟩⟩⟩⟩, fun hge => ?_⟩
  · rw [hz3, wrap_in (by unfold inR; omega)]; omega
  · have hl := lfW_in (G := gnW X) (i := i) fun j _ => hg j
    have hm := modS_in (n := X i) (m := 4) (by omega)
    have hgi : gnW X i = 2147483647 - modS (X i) 4 := rfl
    rw [hz2, hz, wrap_in (by unfold inR; omega), lfW]
    omega
  · simp [fit1, asg]
  · simp only [go_sem]
    intro q hq
    have hz1 : z1 = gnW X i := by
      have hm := modS_in (n := X i) (m := 4) (by omega)
      rw [hz1, hz, wrap_in (by unfold inR; omega)]; rfl
    have e : (if q < i then [i64 (gnW X q)] else List.take 1 (List.drop ((q - i) * 1) [i64 z1])) = [i64 (gnW X q)] := by
      split
      · rfl
      · have : q = i := by omega
        subst this
        rw [Nat.sub_self, hz1]; rfl
    exact fitL_of e.symm rfl
  · simp [goodNames, asg]
  have e := hik hge
  subst e
  simp only [go_sem, F23f_ok hrs]
  refine ⟨by omega, by omega, by rw [hb4]; omega, fun z hz => ⟨fun h => by simp [hz] at h, fun _ => ?_⟩⟩
  have hk1 : 1 ≤ i ∧ i ≤ 64 := by omega
  refine loopN_go (fun (G : Nat → Int) => ∀ j, 2147483644 ≤ G j ∧ G j ≤ 2147483647) (fun G => (lfW G i).toNat) (fun G => [(4, i64 (lfW G i))]) (fun G => [(21, famR [⟨1, 2, 88, fun _ => [u64 0, .own 21 1 i 1], none⟩, ⟨i, 1, 3, fun j => [i64 (G j)], none⟩] noRows)]) [12] [61, 62, 9, 10, 65, 66, 67, 68, 71, 72, 73, 74, 75, 76, 9, 69, 70, 10, 78, 79, 80, 81, 82, 77, 83, 84, 11, 12, 85, 86, 87, 88, 89, 90, 2, 92, 93, 91, 94, 95, 13, 14, 97, 98, 96, 99, 100, 15, 16, 101, 102, 103, 104, 105, 106, 107, 108, 109, 110, 111, 112, 113, 114, 115, 116, 117, 118, 119, 120, 121, 122, 2, 63, 64, 4] 0 (gnW X) (by kernel_rfl) hg ⟨[], ?_, ?_, ?_, ?_⟩ ?_
  · simp only [go_sem]
  · simp only [go_sem, slF_eq]
    have := fitF_sl (N := 33) (M := 33) (K := 21) (s := ⟨0, i, gnW X, noRows⟩) (by decide) (of_eq_true tlOK_no)
    rw [slF_eq] at this
    exact this
  · simp only [go_sem]
  · simp [goodNames, asg]
  intro G hG
  simp only [go_sem]
  refine ⟨fun hpos => ?_, fun hzero => ?_⟩
  · refine loopN_go (fun (j : Nat) => j ≤ i) (fun j => i - j) (fun j => [(10, i64 j), (9, .own 37 0 j 1)]) (fun j => [(37, famN j 1 3 (fun q => [i64 (G q)]) none)]) [21, 12] [65, 66, 67, 68, 71, 72, 73, 74, 75, 76, 9, 69, 70, 10] 1 0 (by kernel_rfl) (Nat.zero_le _) ⟨[(37, none)], ?_, ?_, ?_, ?_⟩ ?_
    · simp only [go_sem, Int.cast_ofNat_Int]
    · simp only [go_sem]
    · simp only [go_sem]
    · simp [goodNames, asg]
    intro j hj
    have hji : ¬ (j : Int) < i → j = i := fun h => by omega
    simp only [go_sem, k39, F24]
    refine ⟨fun hlt z1 hz1 => ⟨by omega, by rw [hb]; omega, by omega, fun z2 hz2 => ⟨j + 1, by omega, by omega, [(37, some 47)], ⟨?_, ?_⟩, ?_, ?_⟩⟩, fun hge2 => ?_⟩
    · rw [hz2, wrap_in (by unfold inR; omega)]; omega
    · simp [fit1, asg]
    · simp only [go_sem]
      intro q hq
      rw [if_pos ⟨by omega, hlt⟩] at hz1
      have e : (if q < j then [i64 (G q)] else List.take 1 (List.drop ((q - j) * 1) [i64 z1])) = [i64 (G q)] := by
        split
        · rfl
        · have : q = j := by omega
          subst this
          rw [Nat.sub_self, hz1]; rfl
      exact fitL_of e.symm rfl
    · simp [goodNames, asg]
    have e := hji hge2
    subst e
    have hrsG : rsE j j G (fun _ => false) = 0 := rs_no hk1 fun q _ => by have := hG q; omega
    have hq : tkI ⟨0, j, G, noRows⟩ < j := Classical.byContradiction fun hq => by
      have hall : ∀ q, q < j → G q = 2147483647 := fun q hqj => by
        have hl := lst_no (p := mayT 0 G) (n := j) (i := q) (by have hq : ¬ lst (mayT 0 G) j < j := hq; have := lst_le (p := mayT 0 G) j; omega)
        have hGq := hG q
        unfold mayT at hl
        have e0 : (Int.toNat 0).testBit q = false := by simp
        rw [e0] at hl
        have : ¬ G q < 2147483647 := fun hlt => by rw [decide_eq_true hlt] at hl; cases hl
        omega
      have hl0 : ∀ m, m ≤ j → lfW G m = 0 := fun m => by
        induction m with
        | zero => intro _; rfl
        | succ m ih => intro hm; rw [lfW, ih (by omega), hall m (by omega)]; rfl
      have := hl0 j (Nat.le_refl j)
      omega
    have hmay : mayT 0 G (tkI ⟨0, j, G, noRows⟩) = true := lst_yes (p := mayT 0 G) (n := j) hq
    have hS : tkS ⟨0, j, G, noRows⟩ = ⟨setX 0 (tkI ⟨0, j, G, noRows⟩ : Nat), j, upI G (tkI ⟨0, j, G, noRows⟩) (G (tkI ⟨0, j, G, noRows⟩) + 1), noRows⟩ := by unfold tkS; rw [if_pos hq]
    have hH : tkH ⟨0, j, G, noRows⟩ = ((tkI ⟨0, j, G, noRows⟩ : Int), G (tkI ⟨0, j, G, noRows⟩) + 1) := by unfold tkH; rw [if_pos hq]
    have hE : tkE ⟨0, j, G, noRows⟩ = 0 := by unfold tkE; rw [if_pos hq]
    generalize tkI ⟨0, j, G, noRows⟩ = q at hq hmay hS hH
    have hGq : G q < 2147483647 := by
      unfold mayT at hmay
      rw [Bool.and_eq_true] at hmay
      exact of_decide_eq_true hmay.2
    have hup : upI G q (G q + 1) q = G q + 1 := by unfold upI; rw [if_pos rfl]
    have hG' : ∀ m, 2147483644 ≤ upI G q (G q + 1) m ∧ upI G q (G q + 1) m ≤ 2147483647 := fun m => by
      have h1 := hG q
      have h2 := hG m
      unfold upI
      split <;> omega
    have hlf : lfW (upI G q (G q + 1)) j = lfW G j - 1 := by
      have hlo : ∀ m, m ≤ q → lfW (upI G q (G q + 1)) m = lfW G m := fun m => by
        induction m with
        | zero => intro _; rfl
        | succ m ih => intro hm; rw [lfW, lfW, ih (by omega)]; unfold upI; rw [if_neg (by omega)]
      have hhi : ∀ m, q + 1 + m ≤ j → lfW (upI G q (G q + 1)) (q + 1 + m) = lfW G (q + 1 + m) - 1 := fun m => by
        induction m with
        | zero => intro _; rw [Nat.add_zero, lfW, lfW, hlo q (Nat.le_refl q), hup]; omega
        | succ m ih => intro hm; rw [← Nat.add_assoc, lfW, lfW, ih (by omega)]; unfold upI; rw [if_neg (by omega)]; omega
      have := hhi (j - (q + 1)) (by omega)
      rwa [show q + 1 + (j - (q + 1)) = j by omega] at this
    have hs1 : slOK ⟨0, j, G, noRows⟩ = True := eq_true ⟨⟨by show (0 : Int) ≤ 0; omega, by show (0 : Int) < _; omega⟩, ⟨by show 0 < j; omega, by show j ≤ 64; omega⟩, fun m _ => by have := hG m; show 0 ≤ G m; omega⟩
    have hx1 : 0 ≤ setX 0 (q : Nat) ∧ setX 0 (q : Nat) < 18446744073709551616 := by
      unfold setX
      have := setN_lt (a := Int.toNat 0) (k := q) (by decide) (by omega)
      rw [Int.toNat_natCast]; omega
    have hs2 : slOK ⟨setX 0 (q : Nat), j, upI G q (G q + 1), noRows⟩ = True := eq_true ⟨hx1, ⟨by show 0 < j; omega, by show j ≤ 64; omega⟩, fun m _ => by have := hG' m; show 0 ≤ upI G q (G q + 1) m; omega⟩
    have hhas : hasI ⟨setX 0 (q : Nat), j, upI G q (G q + 1), noRows⟩ q (G q + 1) = true := by
      unfold hasI
      dsimp only
      rw [atOk_nat hq, setX_bit, Int.toNat_natCast, hup, decide_eq_true rfl, Bool.or_true]
      simp
    have hclr : clrX (setX 0 (q : Nat)) q = 0 := by
      have hb2 : ∀ m, (clrX (setX 0 (q : Nat)) q).toNat.testBit m = false := fun m => by
        rw [clrX_bit (by omega) hx1, setX_bit]
        have e0 : (Int.toNat 0).testBit m = false := by simp
        rw [e0]
        by_cases e : m = q
        · rw [decide_eq_false (show ¬ m ≠ q by omega)]; simp
        · rw [decide_eq_false e]; rfl
      have h0 : (clrX (setX 0 (q : Nat)) q).toNat = 0 := Nat.eq_of_testBit_eq fun m => by rw [hb2 m]; simp
      have h1 : 0 ≤ clrX (setX 0 (q : Nat)) q := by unfold clrX; omega
      omega
    have hF : frS ⟨setX 0 (q : Nat), j, upI G q (G q + 1), noRows⟩ q (G q + 1) = ⟨0, j, upI G q (G q + 1), noRows⟩ := by
      unfold frS
      rw [if_pos hhas]
      dsimp only
      rw [hclr]
    have hat : atOk 0 j (q : Nat) = false := by
      rw [atOk_nat hq]; simp
    generalize upI G q (G q + 1) = G' at hS hup hG' hlf hs2 hhas hF
    simp only [go_sem, F23f_ok hrsG, m25, F25, m26, F26, k60, F27, slF_eq, hS, hH, hE, hs1]
    generalize G q + 1 = g at hF hhas hup ⊢
    have b0 : ((0 : Int) != 0) = false := by decide
    have t0 : tlOK noRows = True := tlOK_no
    simp only [forall_eq, hF, hhas, hs2, hat, b0, t0, beq_self_eq_true, Bool.false_eq_true, false_imp_iff, true_imp_iff, and_true, true_and, and_self, implies_true, or_self, if_true, Bool.false_and, Bool.true_eq_false]
    have hlb := lfW_in (G := G) (i := j) fun m _ => hG m
    refine ⟨by omega, by omega, by rw [hb4]; omega, ⟨by omega, by omega, by omega, by omega, fun h => by simp at h, G', hG', by omega, [], ?_, ?_, ?_⟩, fun h => by simp at h⟩
    · rw [wrap_in (by unfold inR; omega), hlf]
    · have := fitF_sl (N := 33) (M := 33) (K := 21) (s := ⟨0, j, G', noRows⟩) (by decide) (of_eq_true tlOK_no)
      rw [slF_eq] at this
      simp only [go_sem]
      exact this
    · simp [goodNames, asg]
  · have hl0 : ∀ m, (∀ q, q < m → 2147483644 ≤ G q ∧ G q ≤ 2147483647) → lfW G m ≤ 0 → ∀ q, q < m → G q = 2147483647 := fun m => by
      induction m with
      | zero => intro _ _ q hq; omega
      | succ m ih =>
        intro h1 h2 q hq
        have h3 := lfW_in (G := G) (i := m) fun q _ => hG q
        have h4 := hG m
        rw [lfW] at h2
        by_cases e : q = m
        · rw [e]; omega
        · exact ih (fun q hq => h1 q (by omega)) (by omega) q (by omega)
    have hmax := hl0 i (fun q _ => hG q) (by omega)
    have hI : tkI ⟨0, i, G, noRows⟩ = i := lst_full fun q hq => by
      have hm := hmax q hq
      show mayT 0 G q = false
      unfold mayT
      rw [hm]; simp
    have hni : ¬ tkI ⟨0, i, G, noRows⟩ < i := by rw [hI]; omega
    have hS : tkS ⟨0, i, G, noRows⟩ = ⟨0, i, G, noRows⟩ := by unfold tkS; rw [if_neg hni]
    have hH : tkH ⟨0, i, G, noRows⟩ = (0, 0) := by unfold tkH; rw [if_neg hni]
    have hE : tkE ⟨0, i, G, noRows⟩ = 10 := by unfold tkE; rw [if_neg hni]
    have hs1 : slOK ⟨0, i, G, noRows⟩ = True := eq_true ⟨⟨by show (0 : Int) ≤ 0; omega, by show (0 : Int) < _; omega⟩, ⟨by show 0 < i; omega, by show i ≤ 64; omega⟩, fun m _ => by have := hG m; show 0 ≤ G m; omega⟩
    refine loopN_go (fun (m : Nat) => m ≤ i) (fun m => i - m) (fun m => [(17, i64 m)]) (fun m => []) [21, 12] [123, 124, 125, 126, 129, 130, 131, 132, 2, 127, 128, 17] 0 0 (by kernel_rfl) (Nat.zero_le _) ⟨[], ?_, ?_, ?_, ?_⟩ ?_
    · simp only [go_sem, Int.cast_ofNat_Int]
    · simp only [go_sem]
    · simp only [go_sem]
    · simp [goodNames, asg]
    intro m hm
    have t0 : tlOK noRows = True := tlOK_no
    simp only [go_sem, k39, F24, m25, F25, hS, hH, hE, hs1, t0]
    refine ⟨fun hlt z1 hz1 => ⟨by omega, fun h => ?_, fun _ z2 hz2 => ⟨m + 1, by omega, by omega, [], by rw [hz2, wrap_in (by unfold inR; omega)]; omega, by simp [goodNames, asg]⟩⟩, fun _ z1 hz1 z2 hz2 => by rw [hz1, hz2]; simp⟩
    rw [if_pos ⟨by omega, hlt⟩, hmax m (by omega)] at hz1
    rw [hz1] at h
    simp at h
end Go.Ax
end

section
/-
  What is proved: for every input bagatellelaw04.IndexWorn returns true, and the input reads ars it did. No further condition.
-/
namespace Go.Proofs.Ytfpgjkeelegdpaa.indexWornDone
open Go.ChangeShapes Go.WideShapes Go.ChangeAt Go.RowKit Go.Ax
set_option linter.unusedVariables false

theorem own : ownKnob Try.prog.godebug = none := by kernel_rfl

theorem ctx : CtxOK Try.prog [(13, c13), (16, c16), (23, .wr mN23), (24, k39), (25, .wr m25), (26, .wr m26), (27, k60)] :=
  (.cons con13 (.cons con16 (.mcons mon23 (.cons con24 (.mcons mon25 (.mcons mon26 (.cons con27 .nil)))))))

set_option maxRecDepth 100000 in
theorem walk {w : World} {avs : List AV} {vs : List Value} (h : fitVs [.slice 1 [.int .i64]] avs) (hR : Rs w (.ext (All w)) avs vs) :
    Calls Try.prog 6 vs.toArray w fun e w' => e = .returned (.bool true) ∧ Below w.heap.size w w' := by
  obtain ⟨_, _, rfl, ⟨k, get, rfl, hnk, hget⟩, rfl⟩ := h
  rw [(rowsI hget).1] at hR
  obtain ⟨_, k2⟩ := fn_sound ctx Try.func6 (by kernel_rfl) (vc6 (k := k) (rowsI hget).2) (All w) w vs (fun _ h => h) hR
  refine k2.mono fun e w' ⟨v, he, ⟨r, hr, hv⟩, hb⟩ => ?_
  subst hr
  cases hv
  exact ⟨he, hb⟩

set_option maxRecDepth 100000 in
theorem lifted (os : Os) (started : os.Started) (H : Type) (enc : TypeId × Value → H) :
    ReturnsInHanded {} Try.checked os 6 .any (Rows.indexWornSpec.pre6 enc Try.prog Try.f6 Rows.indexWornRow.domain false) (Rows.indexWornSpec.post enc Try.prog Try.f6 false true false false) := by
  refine returnsInHanded_of_change (C := Try.checked) own started (by kernel_rfl) Try.func6
    (ChangeSpec.witness6 (enc := enc) (C := Try.checked) false ⟨#[], #[.slice none 0 0], []⟩ 8 (by kernel_rfl) (by kernel_rfl) (by kernel_rfl) (by kernel_rfl)) ?_
  intro W base args ds gs before hval hW hcnd _
  have hW' := hW
  obtain ⟨p, q, hA, hV, rfl, hfz, hnd⟩ := hW
  obtain ⟨rfl, rfl⟩ := trodVars_none hV
  have hA' := hA
  rw [Try.params6] at hA hval
  obtain ⟨avs, w1, w2⟩ := args_read (P := Try.prog) (ss := [.slice 1 [.int .i64]]) (by kernel_rfl) (fun j t v hj hv => hval j t v (by simpa using hj) (by simpa using hv)) hA
  obtain ⟨v0, vs0, d0, ds0, p0, q0, hargs, rfl, rfl, h0, r0⟩ := trodAll_cons hA
  obtain ⟨rfl, rfl, rfl⟩ := trodAll_nil r0
  have hw := walk w1 w2
  rw [show args.toList.toArray = args by simp] at hw
  refine hw.mono fun e W' ⟨he, bel⟩ => ?_
  subst he
  obtain ⟨ps, hst⟩ := args_stay laidOut bel (by kernel_rfl) hA'
  exact ⟨_, rfl, _, _, _, [], _, [], hW', trodAll_mk1 (shut_bool Try.underlying4 _), hst, rfl, bel.frame _, fun h => by cases h⟩

theorem func : Try.pinned.checked.prog.funcNamed Rows.indexWornRow.func = some 6 := by kernel_rfl
theorem four : ((Rows.indexWornRow.inPlace == Try.prog.inPlace 6) = true) ∧ ((Rows.indexWornRow.unfollowed == Try.prog.unfollowed 6) = true) ∧ ((Rows.indexWornRow.recurses == Try.prog.recurses 6) = true) ∧ ((Rows.indexWornRow.named == Try.prog.varsNamed 6) = true) := by
  have h : ((Rows.indexWornRow.inPlace == Try.prog.inPlace 6) && ((Rows.indexWornRow.unfollowed == Try.prog.unfollowed 6) && ((Rows.indexWornRow.recurses == Try.prog.recurses 6) && (Rows.indexWornRow.named == Try.prog.varsNamed 6)))) = true := by kernel_rfl
  simpa only [Bool.and_eq_true] using h
theorem facts : joinedFacts Try.prog 6 Try.f6 Rows.indexWornSpec Rows.indexWornRow = true :=
  andT (andT (andT (andT (andT (andT (andT (andT (andT (andT (andT (andT (andT (andT (andT (andT (andT (andT (andT (andT (andT (andT (andT (andT (andT (andT (andT (andT (andT (andT (andT (by kernel_rfl) laidOut) fRowed) (by kernel_rfl)) (by kernel_rfl)) (by kernel_rfl)) fStops) (by kernel_rfl)) fStopK) four.1) four.2.1) four.2.2.1) four.2.2.2) (by kernel_rfl)) (by kernel_rfl)) (by kernel_rfl)) (by kernel_rfl)) (by kernel_rfl)) (by kernel_rfl)) (by kernel_rfl)) (by kernel_rfl)) (by kernel_rfl)) fPlain) (by kernel_rfl)) fHeard) fMay) fLift) fMake) (by kernel_rfl)) (by kernel_rfl)) (by kernel_rfl)) (by kernel_rfl)
theorem over : Rows.indexWornRow.holds Try.pinned (OpenSpec.ofChange Rows.indexWornSpec) :=
  OpenClaim.holds_of_wide 6 Try.f6 rfl rfl rfl rfl rfl rfl rfl ⟨rfl, rfl, rfl, rfl, rfl⟩ rfl rfl rfl rfl rfl func Try.func6 facts
    (of_decide_eq_true (by kernel_rfl)) (by unfold Func.isWrapper; first | (rw [if_pos (by decide +kernel)]; kernel_rfl) | (rw [if_neg (by decide +kernel)]; exact ⟨rfl, rfl⟩))
    (fun os started H enc _ => lifted os started H enc)

theorem proved : Rows.IndexWornSaid := over
#print axioms proved
end Go.Proofs.Ytfpgjkeelegdpaa.indexWornDone
end
