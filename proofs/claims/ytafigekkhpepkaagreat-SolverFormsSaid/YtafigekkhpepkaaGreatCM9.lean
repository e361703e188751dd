/-
  Bodies that are the same; the examples that all statements ask.
-/
import Derived.Test.YtafigekkhpepkaaGreatCM8
import Derived.ShutString
import Derived.ChangeOld
import Derived.Below
import Derived.Test.YtafigekkhpepkaaGreatRows
import Derived.JoinedOf
section
set_option linter.unusedVariables false
set_option linter.unusedSimpArgs false
set_option maxHeartbeats 4000000
set_option maxRecDepth 100000
namespace Go.Ax
open Go.Proofs
theorem aEq24 {a0 b0 : Int} {a1 b1 : Bool} : aEq Tryz.prog 24 (.agg [i64 a0, bo a1]) (.agg [i64 b0, bo b1]) = some ((a0 == b0) && ((a1 == b1) && true)) := by kernel_rfl
theorem eq24 {xo yo : Operand} {neg : Bool} {a0 b0 : Int} {a1 b1 : Bool} : eqE Tryz.prog neg 24 xo yo (.agg [i64 a0, bo a1]) (.agg [i64 b0, bo b1]) = some ⟨[], .v (.bool (negV neg ((a0 == b0) && ((a1 == b1) && true)))), .none⟩ := eqE_agg aEq24
attribute [go_sem] eq24
theorem aEq26 {a0 b0 : Int} {a1 b1 : Bool} {a2 b2 : Int} {a3 b3 : Bool} : aEq Tryz.prog 26 (.agg [i64 a0, bo a1, i64 a2, bo a3]) (.agg [i64 b0, bo b1, i64 b2, bo b3]) = some (((a0 == b0) && ((a1 == b1) && true)) && (((a2 == b2) && ((a3 == b3) && true)) && true)) := by kernel_rfl
theorem eq26 {xo yo : Operand} {neg : Bool} {a0 b0 : Int} {a1 b1 : Bool} {a2 b2 : Int} {a3 b3 : Bool} : eqE Tryz.prog neg 26 xo yo (.agg [i64 a0, bo a1, i64 a2, bo a3]) (.agg [i64 b0, bo b1, i64 b2, bo b3]) = some ⟨[], .v (.bool (negV neg (((a0 == b0) && ((a1 == b1) && true)) && (((a2 == b2) && ((a3 == b3) && true)) && true)))), .none⟩ := eqE_agg aEq26
attribute [go_sem] eq26
theorem aEq53 {a0 b0 : Int} {a1 b1 : Bool} {a2 b2 : Int} {a3 b3 : Bool} {a4 b4 : Int} {a5 b5 : Bool} {a6 b6 : Int} {a7 b7 : Bool} : aEq Tryz.prog 53 (.agg [i64 a0, bo a1, i64 a2, bo a3, i64 a4, bo a5, i64 a6, bo a7]) (.agg [i64 b0, bo b1, i64 b2, bo b3, i64 b4, bo b5, i64 b6, bo b7]) = some ((((a0 == b0) && ((a1 == b1) && true)) && (((a2 == b2) && ((a3 == b3) && true)) && true)) && ((((a4 == b4) && ((a5 == b5) && true)) && (((a6 == b6) && ((a7 == b7) && true)) && true)) && true)) := by kernel_rfl
theorem eq53 {xo yo : Operand} {neg : Bool} {a0 b0 : Int} {a1 b1 : Bool} {a2 b2 : Int} {a3 b3 : Bool} {a4 b4 : Int} {a5 b5 : Bool} {a6 b6 : Int} {a7 b7 : Bool} : eqE Tryz.prog neg 53 xo yo (.agg [i64 a0, bo a1, i64 a2, bo a3, i64 a4, bo a5, i64 a6, bo a7]) (.agg [i64 b0, bo b1, i64 b2, bo b3, i64 b4, bo b5, i64 b6, bo b7]) = some ⟨[], .v (.bool (negV neg ((((a0 == b0) && ((a1 == b1) && true)) && (((a2 == b2) && ((a3 == b3) && true)) && true)) && ((((a4 == b4) && ((a5 == b5) && true)) && (((a6 == b6) && ((a7 == b7) && true)) && true)) && true)))), .none⟩ := eqE_agg aEq53
attribute [go_sem] eq53
theorem aEq55 {a0 b0 : Int} {a1 b1 : Bool} {a2 b2 : Int} {a3 b3 : Bool} : aEq Tryz.prog 55 (.agg [i64 a0, bo a1, i64 a2, bo a3]) (.agg [i64 b0, bo b1, i64 b2, bo b3]) = some (((a0 == b0) && ((a1 == b1) && true)) && (((a2 == b2) && ((a3 == b3) && true)) && true)) := by kernel_rfl
theorem eq55 {xo yo : Operand} {neg : Bool} {a0 b0 : Int} {a1 b1 : Bool} {a2 b2 : Int} {a3 b3 : Bool} : eqE Tryz.prog neg 55 xo yo (.agg [i64 a0, bo a1, i64 a2, bo a3]) (.agg [i64 b0, bo b1, i64 b2, bo b3]) = some ⟨[], .v (.bool (negV neg (((a0 == b0) && ((a1 == b1) && true)) && (((a2 == b2) && ((a3 == b3) && true)) && true)))), .none⟩ := eqE_agg aEq55
attribute [go_sem] eq55
theorem aEq69 {a0 b0 : Int} {a1 b1 : Bool} {a2 b2 : Int} {a3 b3 : Bool} {a4 b4 : Int} {a5 b5 : Bool} : aEq Tryz.prog 69 (.agg [i64 a0, bo a1, i64 a2, bo a3, i64 a4, bo a5]) (.agg [i64 b0, bo b1, i64 b2, bo b3, i64 b4, bo b5]) = some ((((a0 == b0) && ((a1 == b1) && true)) && (((a2 == b2) && ((a3 == b3) && true)) && true)) && (((a4 == b4) && ((a5 == b5) && true)) && true)) := by kernel_rfl
theorem eq69 {xo yo : Operand} {neg : Bool} {a0 b0 : Int} {a1 b1 : Bool} {a2 b2 : Int} {a3 b3 : Bool} {a4 b4 : Int} {a5 b5 : Bool} : eqE Tryz.prog neg 69 xo yo (.agg [i64 a0, bo a1, i64 a2, bo a3, i64 a4, bo a5]) (.agg [i64 b0, bo b1, i64 b2, bo b3, i64 b4, bo b5]) = some ⟨[], .v (.bool (negV neg ((((a0 == b0) && ((a1 == b1) && true)) && (((a2 == b2) && ((a3 == b3) && true)) && true)) && (((a4 == b4) && ((a5 == b5) && true)) && true)))), .none⟩ := eqE_agg aEq69
attribute [go_sem] eq69
theorem aEq30 {a0 b0 : Int} {a1 b1 : Bool} {a2 b2 : Int} {a3 b3 : Bool} : aEq Tryz.prog 30 (.agg [i64 a0, bo a1, i64 a2, bo a3]) (.agg [i64 b0, bo b1, i64 b2, bo b3]) = some (((a0 == b0) && ((a1 == b1) && true)) && (((a2 == b2) && ((a3 == b3) && true)) && true)) := by kernel_rfl
theorem eq30 {xo yo : Operand} {neg : Bool} {a0 b0 : Int} {a1 b1 : Bool} {a2 b2 : Int} {a3 b3 : Bool} : eqE Tryz.prog neg 30 xo yo (.agg [i64 a0, bo a1, i64 a2, bo a3]) (.agg [i64 b0, bo b1, i64 b2, bo b3]) = some ⟨[], .v (.bool (negV neg (((a0 == b0) && ((a1 == b1) && true)) && (((a2 == b2) && ((a3 == b3) && true)) && true)))), .none⟩ := eqE_agg aEq30
attribute [go_sem] eq30
theorem vc113 (k r w t : Int) (n : Nat) (X Y : Nat → Int) (hn : n ≤ 1000) : fnVC Tryz.prog [] [] Tryz.f113 [shapeA k r w t n fun i => [i64 (X i), i64 (Y i)], shapeA k r w t n fun i => [i64 (X i), i64 (Y i)]] (· = bo true) := by
  refine fnVC_go (rs := [.tmp 4]) rfl rfl ?_
  simp only [go_sem]
  have e1 : ∀ x : Int, (x != x) = false := fun x => by simp
  refine ⟨fun h => by simp at h, fun _ => ?_⟩
  refine loopC_go (fun (i : Nat) => i ≤ n) (fun i => n - i) (fun i => [(5, i64 (i : Int))]) (fun _ => []) [1, 0] [41, 42, 43, 44, 45, 48, 49, 50, 51, 52, 53, 54, 55, 56, 57, 58, 4, 46, 47, 5] 0 (by kernel_rfl) ?_ (Nat.zero_le _) ?_ ?_
  · intro x _; simp [goodNames, asg]
  · simp only [go_sem]
  intro i hi
  simp only [go_sem]
  exact ⟨fun h => ⟨by omega, h, by omega, h, fun hb => by simp at hb, fun _ z hz => ⟨i + 1, by omega, by omega, by rw [hz, wrap_in (by unfold inR; omega)]; rfl⟩⟩, fun _ => trivial⟩
/-- Shapes that are equal are found to be equal. -/
def kSame : Con
  | [.agg [.v (.int .i64 k), .v (.int .i64 r), .v (.int .i64 w), .v (.int .i64 t), .ro n 2 g], b] => some ([spots n g, n ≤ 1000, b = .agg [i64 k, i64 r, i64 w, i64 t, .ro n 2 g]], bo true)
  | _ => none
theorem konS113 : ConOK Tryz.prog 113 kSame := ConOK.go (G := []) (H := []) .nil Tryz.func113 fun l ob rr hc hob => by
  unfold kSame at hc
  split at hc
  · rename_i k r w t n g b
    cases hc
    have hs : spots n g := hob _ (by simp)
    have hn : n ≤ 1000 := hob _ (by simp)
    have hb : b = .agg [i64 k, i64 r, i64 w, i64 t, .ro n 2 g] := hob _ (by simp)
    subst hb
    exact ⟨[shapeA k r w t n fun i => [i64 (gx g 0 i), i64 (gx g 1 i)], shapeA k r w t n fun i => [i64 (gx g 0 i), i64 (gx g 1 i)]], fun w I vs h => Rs_two (Rs_shape hs) (Rs_shape hs) h, by kernel_rfl, vc113 k r w t n _ _ hn⟩
  · cases hc
def kb36 : Con := cB fun b rest => match rest with
  | [a] => some ([inB b, b.n ≤ 1000, a = .agg (bodyC b)], bo true)
  | _ => none
theorem konb36 : ConOK Tryz.prog 36 kb36 := ConOK.cB (G := [(113, kSame)]) (H := []) (.cons konS113 .nil) Tryz.func36 fun b rest ob r hc hob => by
  split at hc
  · rename_i a
    cases hc
    have h_0 : inB b := hob _ (by simp)
    have h_1 : b.n ≤ 1000 := hob _ (by simp)
    have h_2 : a = .agg (bodyC b) := hob _ (by simp)
    obtain ⟨b1, b2, b3, b4, b5, b6, b7, b8, b9, b10, b11, b12, b13, b14, b15, b16⟩ := h_0
    have hb : inB b := hob _ (by simp)
    subst h_2
    refine ⟨by kernel_rfl, fnVC_go (rs := [.tmp 4]) rfl rfl ?_⟩
    simp only [bodyC, go_sem, kSame, cB_eq, cBR_eq, bodyD_lit, gx_pts0, gx_pts1, spots_can, etaN, etaV, bd_eta, b1, b2, b3, b4, b6, b7, b8, b9, b10, b11, b12, b13, b14, b15, b16, hb, h_1]
    intro z hz
    subst hz
    exact ⟨b5, by simp⟩
  · cases hc
theorem vc14 (n : Nat) (B : Nat → Bd) (hn : n ≤ 9223372036854775807) (hB : ∀ i, i < n → (B i).n ≤ 9223372036854775807) : fnVC Tryz.prog [] [] Tryz.f14 [.ro n 27 fun i => bodyC (B i)] (· = bo (decide (∀ i, i < n → (B i).n ≤ 12))) := by
  refine fnVC_go (rs := [.tmp 2]) rfl rfl ?_
  simp only [bodyC, go_sem]
  refine loopC_go (fun (i : Nat) => i ≤ n ∧ ∀ j, j < i → (B j).n ≤ 12) (fun i => n - i) (fun i => [(3, i64 (i : Int))]) (fun _ => []) [] [4, 5, 6, 7, 10, 11, 12, 13, 14, 15, 16, 17, 2, 8, 9, 3] 0 (by kernel_rfl) ?_ ⟨Nat.zero_le _, fun j hj => by omega⟩ ?_ ?_
  · intro x _; simp [goodNames, asg]
  · simp only [go_sem]
  intro i hi
  simp only [go_sem]
  refine ⟨fun h => ⟨by omega, h, fun hb => ?_, fun hb z hz => ⟨i + 1, ⟨by omega, fun j hj => ?_⟩, by omega, ?_⟩⟩, fun h => ?_⟩
  · refine (decide_eq_false fun hc => ?_).symm
    have := hc i (by omega); omega
  · by_cases e : j = i
    · subst e; omega
    · exact hi.2 j (by omega)
  · rw [hz, wrap_in (by unfold inR; omega)]; rfl
  · exact (decide_eq_true fun j hj => hi.2 j (by omega)).symm
def kLit : Con
  | [.ro n 27 g] => some ([n ≤ 9223372036854775807, ∀ i, i < n → g i = bodyC (bodyD (g i)) ∧ (bodyD (g i)).n ≤ 9223372036854775807], bo (decide (∀ i, i < n → (bodyD (g i)).n ≤ 12)))
  | _ => none
theorem kon14L : ConOK Tryz.prog 14 kLit := ConOK.go (G := []) (H := []) .nil Tryz.func14 fun l ob rr hc hob => by
  unfold kLit at hc
  split at hc
  · rename_i n g
    cases hc
    have hg : ∀ i, i < n → g i = bodyC (bodyD (g i)) ∧ (bodyD (g i)).n ≤ 9223372036854775807 := hob _ (by simp)
    exact ⟨[.ro n 27 fun i => bodyC (bodyD (g i))], fun w I vs h => Rs_one (fun v hv => ro_alike (fun i hi => (hg i hi).1) hv) h, by kernel_rfl, vc14 n (fun i => bodyD (g i)) (hob _ (by simp)) fun i hi => (hg i hi).2⟩
  · cases hc
def cjS (n : Int) (k a b : Int) (p q : V2) (l : Nb) : Int :=
  if k ≠ 1 ∧ k ≠ 2 ∧ k ≠ 3 then 8 else
  if (a < 0 ∨ n ≤ a) ∨ (k ≠ 1 ∧ (b < 0 ∨ n ≤ b ∨ a = b)) then 3 else
  if (withS p.1 32 && withS p.2 32) = false ∨ (if k = 1 then (withS q.1 4096 && withS q.2 4096) = false else (withS q.1 32 && withS q.2 32) = false) then 3 else
  if k = 2 ∧ (withS l 8192 = false ∨ l.1 < 0) then 3 else
  if (k = 1 ∧ b ≠ 0) ∨ (k ≠ 2 ∧ ¬ (l.1 = 0 ∧ l.2 = false)) then 4 else 0
def c77 : Con
  | [.v (.int .i64 n), .v (.int .i64 a), .v (.int .i64 b)] => some ([0 ≤ n], bo (decide (0 ≤ a ∧ a < n ∧ 0 ≤ b ∧ b < n ∧ a ≠ b)))
  | _ => none
theorem con77 : ConOK Tryz.prog 77 c77 := ConOK.of (G := []) (H := []) .nil Tryz.func77 fun l ob rr hc hob => by
  unfold c77 at hc
  split at hc
  · rename_i n a b
    cases hc
    have h_0 : 0 ≤ n := hob _ (by simp)
    refine ⟨by kernel_rfl, fnVC_go (rs := [.tmp 6]) rfl rfl ?_⟩
    simp only [go_sem, iMul, iDiv, iInt, iAdd, iSub, iRat, iDot, iHyp, iSq, iNeg, iPos, iAbs, iMx, iMn, iCl, iWh, iLoc1, iLoc2, iVAdd1, iVAdd2, iVSub1, iVSub2, iScale1, iScale2, iVDot, iVCross, iLen, iOf1, iOf2, iUnit1, iUnit2, h_0]
    have e1 : (a != b) = decide (a ≠ b) := by by_cases h : a = b <;> simp [h]
    rw [e1]
    simp only [Bool.decide_and, Bool.and_assoc]
  · cases hc
def kj51 : Con
  | [.v (.int .i64 n), .agg [.v (.int .i64 k), .v (.int .i64 a), .v (.int .i64 b), .v (.int .i64 x), .v (.bool e), .v (.int .i64 y), .v (.bool f), .v (.int .i64 z), .v (.bool g), .v (.int .i64 u), .v (.bool h), .v (.int .i64 l), .v (.bool m)]] => some ([inR n, inR x, inR y, inR z, inR u, inR l], i64 (cjS n k a b ((x, e), (y, f)) ((z, g), (u, h)) (l, m)))
  | _ => none
theorem konj51 : ConOK Tryz.prog 51 kj51 := ConOK.of (G := [(123, kw123)]) (H := []) (.cons konw123 .nil) Tryz.func51 fun l ob rr hc hob => by
  unfold kj51 at hc
  split at hc
  · rename_i n k a b x e y f z g u h l m
    cases hc
    have h_0 : inR n := hob _ (by simp)
    have h_1 : inR x := hob _ (by simp)
    have h_2 : inR y := hob _ (by simp)
    have h_3 : inR z := hob _ (by simp)
    have h_4 : inR u := hob _ (by simp)
    have h_5 : inR l := hob _ (by simp)
    refine ⟨by kernel_rfl, fnVC_go (rs := [.tmp 4]) rfl rfl ?_⟩
    simp only [go_sem, kw123, iMul, iDiv, iInt, iAdd, iSub, iRat, iDot, iHyp, iSq, iNeg, iPos, iAbs, iMx, iMn, iCl, iWh, iLoc1, iLoc2, iVAdd1, iVAdd2, iVSub1, iVSub2, iScale1, iScale2, iVDot, iVCross, iLen, iOf1, iOf2, iUnit1, iUnit2, h_0, h_1, h_2, h_3, h_4, h_5]
    unfold cjS
    simp only [forall_eq]
    generalize (withS (x, e) 32 && withS (y, f) 32) = w1
    generalize (withS (z, g) 4096 && withS (u, h) 4096) = w3
    generalize (withS (z, g) 32 && withS (u, h) 32) = w5
    generalize withS (l, m) 8192 = w7
    clear hob h_0 h_1 h_2 h_3 h_4 h_5
    repeat' (first | intro _ | apply And.intro)
    all_goals grind
  · cases hc
def kj52 : Con
  | [.v (.int .i64 n), .agg [.v (.int .i64 k), .v (.int .i64 a), .v (.int .i64 b), .v (.int .i64 x), .v (.bool e), .v (.int .i64 y), .v (.bool f), .v (.int .i64 z), .v (.bool g), .v (.int .i64 u), .v (.bool h), .v (.int .i64 l), .v (.bool m)]] => some ([inR n, inR x, inR y, inR z, inR u, inR l], i64 (cjS n k a b ((x, e), (y, f)) ((z, g), (u, h)) (l, m)))
  | _ => none
theorem konj52 : ConOK Tryz.prog 52 kj52 := ConOK.of (G := [(77, c77), (127, kw127b), (144, kw144w)]) (H := []) (.cons con77 (.cons konw127b (.cons konw144w .nil))) Tryz.func52 fun l ob rr hc hob => by
  unfold kj52 at hc
  split at hc
  · rename_i n k a b x e y f z g u h l m
    cases hc
    have h_0 : inR n := hob _ (by simp)
    have h_1 : inR x := hob _ (by simp)
    have h_2 : inR y := hob _ (by simp)
    have h_3 : inR z := hob _ (by simp)
    have h_4 : inR u := hob _ (by simp)
    have h_5 : inR l := hob _ (by simp)
    refine ⟨by kernel_rfl, fnVC_go (rs := [.tmp 4]) rfl rfl ?_⟩
    simp only [go_sem, c77, kw127b, kw144w, iMul, iDiv, iInt, iAdd, iSub, iRat, iDot, iHyp, iSq, iNeg, iPos, iAbs, iMx, iMn, iCl, iWh, iLoc1, iLoc2, iVAdd1, iVAdd2, iVSub1, iVSub2, iScale1, iScale2, iVDot, iVCross, iLen, iOf1, iOf2, iUnit1, iUnit2, h_0, h_1, h_2, h_3, h_4, h_5]
    unfold cjS
    simp only [forall_eq]
    generalize (withS (x, e) 32 && withS (y, f) 32) = w1
    generalize (withS (z, g) 4096 && withS (u, h) 4096) = w3
    generalize (withS (z, g) 32 && withS (u, h) 32) = w5
    generalize withS (l, m) 8192 = w7
    clear hob h_0 h_1 h_2 h_3 h_4 h_5
    repeat' (first | intro _ | apply And.intro)
    all_goals grind
  · cases hc
end Go.Ax
end

section
/-
  The examples that all statements ask; the frames of the laws about one body.
-/
set_option linter.unusedVariables false
set_option linter.unusedSimpArgs false
set_option maxHeartbeats 4000000
set_option maxRecDepth 100000
namespace Go.Ax
open Go.Proofs
section
variable {P : Program} {G : Ctx} {H : Hots} {K0 : AEx → St → Prop} {hot : Option Hot} {ops : Array Oper} {d : Option Tmp} {rest : List Oper} {i : Nat} {st : List Fr} {t : Slots} {m : Mem} {nx : Nat} {o : List Prop} {u : Upd} {b : Bd} {c : Bool}
theorem bindC_cboA : bindC P G H K0 hot ops d rest i st t m nx o u (condV c (bnd (boA b))) = (∀ b', b' = b → bindC P G H K0 hot ops d rest i st t m nx o u (condV c (.agg (bodyC b')))) := by
  apply propext
  constructor
  · rintro h b' rfl; exact h
  · intro h; exact h b rfl
end
attribute [go_sem] bindC_cboA

theorem inB_wak {b : Bd} (h : inB b) : inB (wakS b) := by
  unfold wakS
  split
  · obtain ⟨b1, b2, b3, b4, b5, b6, b7, b8, b9, b10, b11, b12, b13, b14, b15, b16⟩ := h
    exact ⟨b1, b2, b3, b4, b5, b6, b7, b8, b9, b10, b11, b12, b13, b14, of_eq_true inR_0, b16⟩
  · exact h
theorem inB_rst {b : Bd} (h : inB b) : inB (rstS b) := by
  obtain ⟨b1, b2, b3, b4, b5, b6, b7, b8, b9, b10, b11, b12, b13, b14, b15, b16⟩ := h
  exact ⟨b1, b2, b3, b4, b5, b6, b7, b8, b9, of_eq_true inR_0, of_eq_true inR_0, of_eq_true inR_0, b13, b14, b15, b16⟩
theorem inB_st {b : Bd} (h : inB b) {n : Int} {f : Bool} (hn : inR n) : inB { b with st := n, fa := f } := by
  obtain ⟨b1, b2, b3, b4, b5, b6, b7, b8, b9, b10, b11, b12, b13, b14, b15, b16⟩ := h
  exact ⟨b1, b2, b3, b4, b5, b6, b7, b8, b9, b10, b11, b12, b13, b14, hn, b16⟩
theorem inB_psh {b : Bd} {p j : V2} (h : inB b) : inB (pshS b p j) := by
  unfold pshS
  split
  · exact h
  · have := inB_push h (v := limV (vAdd b.v (vScale j b.m))) (w := limS (nAdd b.w (nMul b.i (vCross (vSub p b.pl) j))) 64) (of_eq_true (iLim (of_eq_true iVAdd1))) (of_eq_true (iLim (of_eq_true iVAdd2))) (of_eq_true (iLim (of_eq_true iAdd)))
    dsimp only
    split
    · exact inB_wak this
    · exact this
theorem inB_pul {b : Bd} {g : V2} {t : Nb} (h : inB b) : inB (pulS b g t) := by
  unfold pulS
  split
  · exact h
  · exact inB_push h (of_eq_true (iLim (of_eq_true iVAdd1))) (of_eq_true (iLim (of_eq_true iVAdd2))) h.2.2.2.2.2.2.2.2.2.2.2.1
theorem inB_go {b : Bd} {t : Nb} (h : inB b) : inB (goS b t) := by
  unfold goS
  split
  · exact h
  · split
    · obtain ⟨b1, b2, b3, b4, b5, b6, b7, b8, b9, b10, b11, b12, b13, b14, b15, b16⟩ := h
      split
      · exact ⟨b1, b2, b3, b4, b5, of_eq_true iVAdd1, of_eq_true iVAdd2, b8, b9, b10, b11, b12, b13, b14, b15, b16⟩
      · exact ⟨b1, b2, b3, b4, b5, of_eq_true iVAdd1, of_eq_true iVAdd2, of_eq_true iSpi1, of_eq_true iSpi2, b10, b11, b12, b13, b14, b15, b16⟩
    · exact inB_st (inB_rst h) (by unfold inR; omega)
theorem inB_res {b : Bd} (h : inB b) : inB (resS b) := by
  have h15 : inR b.st := by obtain ⟨b1, b2, b3, b4, b5, b6, b7, b8, b9, b10, b11, b12, b13, b14, b15, b16⟩ := h; exact b15
  unfold inR at h15
  unfold resS
  split
  · exact h
  · split
    · exact inB_st (f := b.fa) h (by unfold inR; omega)
    · split
      · exact inB_st (f := b.fa) (inB_rst h) (by unfold inR; omega)
      · exact inB_st (f := b.fa) h (by unfold inR; omega)
theorem wak_n {b : Bd} : (wakS b).n = b.n := by unfold wakS; split <;> rfl
theorem psh_n {b : Bd} {p j : V2} : (pshS b p j).n = b.n := by
  unfold pshS
  split
  · rfl
  · dsimp only
    split
    · rw [wak_n]
    · rfl
theorem pul_n {b : Bd} {g : V2} {t : Nb} : (pulS b g t).n = b.n := by unfold pulS; split <;> rfl
theorem go_n {b : Bd} {t : Nb} : (goS b t).n = b.n := by unfold goS; (repeat' split) <;> rfl
theorem res_n {b : Bd} : (resS b).n = b.n := by unfold resS; (repeat' split) <;> rfl
def rndB (x : Int) (m i : Nb) : Bd := ⟨1, 256, 0, 0, 0, fun _ => 0, fun _ => 0, ((x, false), (0, false)), ((4294967296, false), (0, false)), ((0, false), (0, false)), (0, false), m, i, 0, false, false, 1⟩
theorem alk_body0 {l1 : List AV} {X Y : Nat → Int} {c0 c1 c2 c3 : AV} : alk (.agg (c0 :: c1 :: c2 :: c3 :: ptsA 0 X Y :: l1)) (.agg (c0 :: c1 :: c2 :: c3 :: .v (.slice none 0 0) :: l1)) := fun w ρ v hR => by
  cases hR with
  | agg hl hh =>
    refine .agg hl fun j x y h3 h4 => ?_
    match j with
    | 4 =>
      simp at h3; subst h3
      exact alk_nil _ _ _ (hh 4 _ y rfl h4)
    | 0 => exact hh 0 x y h3 h4
    | 1 => exact hh 1 x y h3 h4
    | 2 => exact hh 2 x y h3 h4
    | 3 => exact hh 3 x y h3 h4
    | j + 5 => exact hh (j + 5) x y h3 h4
def kw72 : Con
  | [.v (.int .i64 x), .agg [.v (.int .i64 m), .v (.bool e), .v (.int .i64 i), .v (.bool f)]] => some ([], boA (rndB x (m, e) (i, f)))
  | _ => none
theorem konw72 : ConOK Tryz.prog 72 kw72 := ConOK.goR (G := [(55, kw55)]) (H := [(1, ⟨[(9, .slot 4)], []⟩)]) (.cons konw55 .nil) Tryz.func72 fun l ob rr hc hob => by
  unfold kw72 at hc
  split at hc
  · rename_i x m e i f
    cases hc
    refine ⟨_, fun w I vs h => h, by kernel_rfl, fnVC_go (rs := [.cell 4 57]) rfl rfl ?_⟩
    simp only [go_sem, kw55, forall_eq]
    exact alk_body0
  · cases hc
/-- Lists of one body, and of two. -/
def kLit1 : Con
  | [.ro 1 27 g] => some ([g 0 = bodyC (bodyD (g 0)), (bodyD (g 0)).n ≤ 9223372036854775807], bo (decide ((bodyD (g 0)).n ≤ 12)))
  | [.ro 2 27 g] => some ([g 0 = bodyC (bodyD (g 0)), g 1 = bodyC (bodyD (g 1)), (bodyD (g 0)).n ≤ 9223372036854775807, (bodyD (g 1)).n ≤ 9223372036854775807], bo (decide ((bodyD (g 0)).n ≤ 12 ∧ (bodyD (g 1)).n ≤ 12)))
  | _ => none
theorem konL14 : ConOK Tryz.prog 14 kLit1 := fun l ob r he hob => by
  unfold kLit1 at he
  split at he
  · rename_i g
    cases he
    have h1 : g 0 = bodyC (bodyD (g 0)) := hob _ (by simp)
    have h2 : (bodyD (g 0)).n ≤ 9223372036854775807 := hob _ (by simp)
    have := kon14L [.ro 1 27 g] _ _ rfl (owe2 (by omega) fun i hi => by
      have : i = 0 := by omega
      subst this; exact ⟨h1, h2⟩)
    have e : decide (∀ i : Nat, i < 1 → (bodyD (g i)).n ≤ 12) = decide ((bodyD (g 0)).n ≤ 12) := decide_eq_decide.2 ⟨fun h => h 0 (by omega), fun h i hi => by
      have : i = 0 := by omega
      subst this; exact h⟩
    rw [e] at this
    exact this
  · rename_i g
    cases he
    have h1 : g 0 = bodyC (bodyD (g 0)) := hob _ (by simp)
    have h2 : g 1 = bodyC (bodyD (g 1)) := hob _ (by simp)
    have h3 : (bodyD (g 0)).n ≤ 9223372036854775807 := hob _ (by simp)
    have h4 : (bodyD (g 1)).n ≤ 9223372036854775807 := hob _ (by simp)
    have := kon14L [.ro 2 27 g] _ _ rfl (owe2 (by omega) fun i hi => by
      match i with
      | 0 => exact ⟨h1, h3⟩
      | 1 => exact ⟨h2, h4⟩
      | i + 2 => omega)
    have e : decide (∀ i : Nat, i < 2 → (bodyD (g i)).n ≤ 12) = decide ((bodyD (g 0)).n ≤ 12 ∧ (bodyD (g 1)).n ≤ 12) := decide_eq_decide.2 ⟨fun h => ⟨h 0 (by omega), h 1 (by omega)⟩, fun h i hi => by
      match i with
      | 0 => exact h.1
      | 1 => exact h.2
      | i + 2 => omega⟩
    rw [e] at this
    exact this
  · cases he
def c15 : Con
  | [] => some ([], bo true)
  | _ => none
theorem con15 : ConOK Tryz.prog 15 c15 := ConOK.of (G := [(55, kw55), (72, kw72), (37, kb37), (51, kj51)]) (H := []) (.cons konw55 (.cons konw72 (.cons konb37 (.cons konj51 .nil)))) Tryz.func15 fun l ob rr hc hob => by
  unfold c15 at hc
  split at hc
  · skip
    cases hc
    refine ⟨by kernel_rfl, fnVC_go (rs := [.tmp 0]) rfl rfl ?_⟩
    simp only [go_sem, kw55, kw72, kb37, kj51, iMul, iDiv, iInt, iAdd, iSub, iRat, iDot, iHyp, iSq, iNeg, iPos, iAbs, iMx, iMn, iCl, iWh, iLoc1, iLoc2, iVAdd1, iVAdd2, iVSub1, iVSub2, iScale1, iScale2, iVDot, iVCross, iLen, iOf1, iOf2, iUnit1, iUnit2, bodyC, cB_eq, cBR_eq, bodyD_lit, gx_pts0, gx_pts1, spots_can, etaN, etaV, bd_eta]
    simp only [forall_eq]
    have e1 : (pshS (rndB 0 (4294967296, false) (4294967296, false)) ((0, false), 4294967296, false) ((4294967296, false), 0, false)).v = ((4294967296, false), (0, false)) := by kernel_rfl
    have e2 : (pshS (rndB 0 (4294967296, false) (4294967296, false)) ((0, false), 4294967296, false) ((4294967296, false), 0, false)).w = (-4294967296, false) := by kernel_rfl
    have e3 : cjS 1 4 0 0 ((0, false), 0, false) ((0, false), 0, false) (0, false) = 8 := by decide
    rw [e1, e2, e3]
    simp only [beq_self_eq_true, true_and, and_self, implies_true]
    exact ⟨⟨⟨by decide, by decide⟩, ⟨by decide, by decide⟩, ⟨by decide, by decide⟩, ⟨by decide, by decide⟩, fun j hj => absurd hj (Nat.not_lt_zero j), ⟨by decide, by decide⟩, ⟨by decide, by decide⟩, ⟨by decide, by decide⟩, ⟨by decide, by decide⟩, ⟨by decide, by decide⟩, ⟨by decide, by decide⟩, ⟨by decide, by decide⟩, ⟨by decide, by decide⟩, ⟨by decide, by decide⟩, ⟨by decide, by decide⟩, ⟨by decide, by decide⟩⟩, by decide, by unfold inR; omega, by unfold inR; omega, trivial⟩
  · cases hc
end Go.Ax
end

section
/-
  SolverMoves: its body.
-/
set_option linter.unusedVariables false
set_option linter.unusedSimpArgs false
set_option maxHeartbeats 4000000
set_option maxRecDepth 100000
namespace Go.Ax
open Go.Proofs
theorem vc7 (b : Bd) (hb : inB b) (hn : b.n ≤ 9223372036854775807) (x y z u t : Int) (e f g h o : Bool) (h1 : inR x) (h2 : inR y) (h3 : inR z) (h4 : inR u) (h5 : inR t) :
    fnVC Tryz.prog [(14, kLit1), (15, c15), (35, kb35), (37, kb37), (38, kb38), (36, kb36), (39, kb39), (40, kb40), (41, kb41), (42, kb42), (43, kb43), (44, kb44), (45, kb45), (46, kb46)] [] Tryz.f7 [.agg (bodyC b), .agg [i64 x, bo e, i64 y, bo f], .agg [i64 z, bo g, i64 u, bo h], .agg [i64 t, bo o]] (· = bo true) := by
  refine fnVC_go (rs := [.tmp 8]) rfl rfl ?_
  obtain ⟨b1, b2, b3, b4, b5, b6, b7, b8, b9, b10, b11, b12, b13, b14, b15, b16⟩ := id hb
  simp only [bodyC, go_sem, kLit1, c15, kb35, kb37, kb38, kb36, kb39, kb40, kb41, kb42, kb43, kb44, kb45, kb46, cB_eq, cBR_eq, bodyD_lit, gx_pts0, gx_pts1, spots_can, etaN, etaV, bd_eta]
  simp only [forall_eq, implies_true, true_and, and_true, hb, inB_psh, inB_pul, inB_go, inB_res, inB_wak, psh_n, pul_n, go_n, res_n, wak_n, h1, h2, h3, h4, h5, reduceCtorEq, false_imp_iff, true_imp_iff, or_self, imp_self]
  refine ⟨hn, fun h => ?_⟩
  have h12 : b.n ≤ 1000 := by have := of_decide_eq_true h; omega
  simp only [h12, and_self]
end Go.Ax
end

section
/-
  The frame of a law: its arguments ars abstract values, and what they read ars behind the call.
-/
set_option linter.unusedSimpArgs false
set_option linter.unusedVariables false
namespace Go.Ax
open Go.ChangeShapes Go.WideShapes Go.ChangeAt Go.RowKit

/-- What an argument is. -/
inductive ShV where
  | int (k : IntKind)
  | bool
  | agg (es : List Sh)
  | slice (sz : Nat) (es : List Sh)

def shV (P : Program) (t : TypeId) : Option ShV :=
  match P.underlying t with
  | some .bool => some .bool
  | some (.int k) => some (.int k)
  | some (.slice _) => match shT P 6 t with
    | some [.slice sz es] => some (.slice sz es)
    | _ => none
  | some (.struct _) => (shT P 6 t).map .agg
  | some (.array _ _) => (shT P 6 t).map .agg
  | _ => none

def fitV : ShV → AV → Prop
  | .int k, a => ∃ n, a = .v (.int k n) ∧ (Lit.int k n).wf = true
  | .bool, a => ∃ b, a = .v (.bool b)
  | .agg es, a => ∃ l, a = .agg l ∧ fitS es l
  | .slice sz es, a => ∃ (n : Nat) (get : Nat → List AV), a = .ro n sz get ∧ n ≤ maxLen ∧ ∀ i, fitS es (get i)

def shVs (P : Program) : List TypeId → Option (List ShV)
  | [] => some []
  | t :: ts => match shV P t, shVs P ts with
    | some s, some r => some (s :: r)
    | _, _ => none
def fitVs : List ShV → List AV → Prop
  | [], l => l = []
  | s :: ss, l => ∃ a r, l = a :: r ∧ fitV s a ∧ fitVs ss r

section
variable {H : Type} {enc : TypeId × Value → H} {P : Program} {w : World} {spare : Nat → Bool} {held : Bool} {base : Nat}

theorem okWide_agg_struct {t : TypeId} {fs : Array Field} {v : Value} (ht : P.underlying t = some (.struct fs)) (h : Value.okWide P w .any base t v) : ∃ cs, v = .agg cs := by
  obtain ⟨cs, h, _⟩ := okWide_struct ht h
  exact ⟨cs, h⟩
theorem trod_agg_array {t e : TypeId} {n : Nat} {v : Value} {x : DataW H} {ps : List MemPlace} (ht : P.underlying t = some (.array n e)) (h : Value.okWide P w .any base t v) : ∃ cs, v = .agg cs := by
  cases v <;> simp [Value.okWide, Value.ok, ht] at h <;> exact ⟨_, rfl⟩

theorem arg_read {t : TypeId} {s : ShV} {v : Value} {x : DataW H} {ps : List MemPlace} (hs : shV P t = some s) (ho : Value.okWide P w .any base t v) (h : DataW.Trod enc P w 0 spare held t v x ps) : ∃ a, fitV s a ∧ R w (.ext (All w)) a v := by
  unfold shV at hs
  split at hs
  · rename_i hu
    cases hs
    obtain ⟨b, rfl⟩ := okWide_bool hu ho
    exact ⟨_, ⟨b, rfl⟩, .v⟩
  · rename_i k hu
    cases hs
    obtain ⟨n, rfl, _, _, hw⟩ := open_int hu ho h
    exact ⟨_, ⟨n, rfl, hw⟩, .v⟩
  · rename_i e hu
    split at hs
    · rename_i sz es he
      cases hs
      obtain ⟨a, len, cap, rfl⟩ := okWide_slice hu ho
      obtain ⟨n, get, h1, h2, h3⟩ := slice_read he h
      exact ⟨_, ⟨n, get, rfl, h1, h2⟩, h3⟩
    · cases hs
  · rename_i fs hu
    obtain ⟨es, he, rfl⟩ := Option.map_eq_some_iff.1 hs
    obtain ⟨cs, rfl⟩ := okWide_agg_struct hu ho
    obtain ⟨l, h1, h2⟩ := agg_read he h
    exact ⟨_, ⟨l, rfl, h1⟩, h2⟩
  · rename_i n e hu
    obtain ⟨es, he, rfl⟩ := Option.map_eq_some_iff.1 hs
    obtain ⟨cs, rfl⟩ := trod_agg_array (x := x) (ps := ps) hu ho
    obtain ⟨l, h1, h2⟩ := agg_read he h
    exact ⟨_, ⟨l, rfl, h1⟩, h2⟩
  · cases hs

theorem args_read : ∀ {ts : List TypeId} {ss : List ShV} {vs : List Value} {ds : List (DataW H)} {ps : List MemPlace}, shVs P ts = some ss → (∀ (j : Nat) t v, ts[j]? = some t → vs[j]? = some v → Value.okWide P w .any base t v) →
    DataW.TrodAll enc P w 0 spare held ts vs ds ps → ∃ l, fitVs ss l ∧ Rs w (.ext (All w)) l vs
  | [], ss, vs, ds, ps, hs, ho, h => by
    simp only [shVs, Option.some.injEq] at hs
    subst hs
    obtain ⟨rfl, rfl, rfl⟩ := trodAll_nil h
    exact ⟨[], rfl, .nil⟩
  | t :: ts, ss, vs, ds, ps, hs, ho, h => by
    simp only [shVs] at hs
    split at hs
    · rename_i s r h1 h2
      cases hs
      obtain ⟨v, vs', d, ds', p, q, rfl, rfl, rfl, h3, h4⟩ := trodAll_cons h
      obtain ⟨a, a1, a2⟩ := arg_read h1 (ho 0 t v rfl rfl) h3
      obtain ⟨l, b1, b2⟩ := args_read h2 (fun j t v hj hv => ho (j + 1) t v (by simpa using hj) (by simpa using hv)) h4
      exact ⟨a :: l, ⟨a, l, rfl, a1, b1⟩, Rs.cons a2 b2⟩
    · cases hs

/-- Types that may be read whole. -/
def readOK (P : Program) (ts : List TypeId) : Bool := ts.all fun t => P.readableRec t && decide (t < P.types.size)

theorem args_stay {W W' : World} (hl : laidOutB P = true) (hb : Below W.heap.size W W') : ∀ {ts : List TypeId} {vs : List Value} {ds : List (DataW H)} {ps : List MemPlace}, readOK P ts = true →
    DataW.TrodAll enc P W 0 (fun _ => true) true ts vs ds ps → ∃ ps, DataW.TrodAll enc P W' 0 (fun b => decide (b < W.heap.size)) true ts vs ds ps
  | [], vs, ds, ps, _, h => by
    obtain ⟨rfl, rfl, rfl⟩ := trodAll_nil h
    exact ⟨[], rfl⟩
  | t :: ts, vs, ds, ps, hr, h => by
    obtain ⟨v, vs', d, ds', p, q, rfl, rfl, rfl, h3, h4⟩ := trodAll_cons h
    simp only [readOK, List.all_cons, Bool.and_eq_true, decide_eq_true_eq] at hr
    obtain ⟨q', h5⟩ := args_stay hl hb (by simpa [readOK] using hr.2) h4
    refine ⟨_, trodAll_cons_mk (Below.trod hl hr.1.1 hr.1.2 h3 hb ?_) h5⟩
    obtain ⟨m, hm⟩ := h3
    exact DataW.trod_lt m _ _ _ hm
end
end Go.Ax
end

section
/-
  Laws about bodies: their arguments.
-/
set_option linter.unusedVariables false
set_option linter.unusedSimpArgs false
set_option maxHeartbeats 4000000
set_option maxRecDepth 100000
namespace Go.Ax
open Go.Proofs
abbrev shB : List Sh := [.int .i64, .int .i64, .int .i64, .int .i64, .slice 2 [.int .i64, .int .i64], .int .i64, .bool, .int .i64, .bool, .int .i64, .bool, .int .i64, .bool, .int .i64, .bool, .int .i64, .bool, .int .i64, .bool, .int .i64, .bool, .int .i64, .bool, .int .i64, .bool, .bool, .int .i64]
theorem row2 {l : List AV} (h : fitS [.int .i64, .int .i64] l) : l = [i64 (gi l 0), i64 (gi l 1)] ∧ inR (gi l 0) ∧ inR (gi l 1) := by
  obtain ⟨_, _, rfl, ⟨x0, rfl, k0⟩, _, _, rfl, ⟨x1, rfl, k1⟩, rfl⟩ := h
  exact ⟨rfl, wf_i64 k0, wf_i64 k1⟩
theorem rowB {l : List AV} (h : fitS shB l) : l = bodyC (bodyD l) ∧ inB (bodyD l) ∧ (bodyD l).n ≤ 9223372036854775807 := by
  obtain ⟨_, _, rfl, ⟨x0, rfl, k0⟩, _, _, rfl, ⟨x1, rfl, k1⟩, _, _, rfl, ⟨x2, rfl, k2⟩, _, _, rfl, ⟨x3, rfl, k3⟩, _, _, rfl, ⟨n, get, rfl, hn, hf⟩, _, _, rfl, ⟨y0, rfl, m0⟩, _, _, rfl, ⟨e0, rfl⟩, _, _, rfl, ⟨y1, rfl, m1⟩, _, _, rfl, ⟨e1, rfl⟩, _, _, rfl, ⟨y2, rfl, m2⟩, _, _, rfl, ⟨e2, rfl⟩, _, _, rfl, ⟨y3, rfl, m3⟩, _, _, rfl, ⟨e3, rfl⟩, _, _, rfl, ⟨y4, rfl, m4⟩, _, _, rfl, ⟨e4, rfl⟩, _, _, rfl, ⟨y5, rfl, m5⟩, _, _, rfl, ⟨e5, rfl⟩, _, _, rfl, ⟨y6, rfl, m6⟩, _, _, rfl, ⟨e6, rfl⟩, _, _, rfl, ⟨y7, rfl, m7⟩, _, _, rfl, ⟨e7, rfl⟩, _, _, rfl, ⟨y8, rfl, m8⟩, _, _, rfl, ⟨e8, rfl⟩, _, _, rfl, ⟨z0, rfl, w0⟩, _, _, rfl, ⟨u0, rfl⟩, _, _, rfl, ⟨u1, rfl⟩, _, _, rfl, ⟨z1, rfl, w1⟩, rfl⟩ := h
  have hg : get = fun i => [i64 (gx get 0 i), i64 (gx get 1 i)] := funext fun i => (row2 (hf i)).1
  refine ⟨?_, ⟨wf_i64 k0, wf_i64 k1, wf_i64 k2, wf_i64 k3, fun j _ => (row2 (hf j)).2, wf_i64 m0, wf_i64 m1, wf_i64 m2, wf_i64 m3, wf_i64 m4, wf_i64 m5, wf_i64 m6, wf_i64 m7, wf_i64 m8, wf_i64 w0, wf_i64 w1⟩, ?_⟩
  rotate_left
  · show n ≤ 9223372036854775807; unfold maxLen at hn; omega
  rw [bodyD_lit]
  show [i64 x0, i64 x1, i64 x2, i64 x3, AV.ro n 2 get, i64 y0, bo e0, i64 y1, bo e1, i64 y2, bo e2, i64 y3, bo e3, i64 y4, bo e4, i64 y5, bo e5, i64 y6, bo e6, i64 y7, bo e7, i64 y8, bo e8, i64 z0, bo u0, bo u1, i64 z1] = [i64 x0, i64 x1, i64 x2, i64 x3, AV.ro n 2 fun i => [i64 (gx get 0 i), i64 (gx get 1 i)], i64 y0, bo e0, i64 y1, bo e1, i64 y2, bo e2, i64 y3, bo e3, i64 y4, bo e4, i64 y5, bo e5, i64 y6, bo e6, i64 y7, bo e7, i64 y8, bo e8, i64 z0, bo u0, bo u1, i64 z1]
  rw [← hg]
end Go.Ax
end

section
/-
  What the rows say of the whole program, word by word.
-/
namespace Go.Ax
open Go.Proofs
theorem andT {a b : Bool} (h : a = true) (k : b = true) : (a && b) = true := by rw [h, k]; rfl
theorem laidOut : laidOutB Tryz.prog = true := by kernel_rfl
theorem fRowed : mapsRowed Tryz.prog = true := by kernel_rfl
theorem fStops : (Tryz.prog.stops == []) = true := by kernel_rfl
theorem fStopK : (Tryz.prog.stopKnobs == []) = true := by kernel_rfl
theorem fPlain : (true == Tryz.prog.plainKeys) = true := by kernel_rfl
theorem fHeard : Tryz.prog.stopsHeard = true := by kernel_rfl
theorem fMay : Tryz.prog.mayEnter = true := by kernel_rfl
theorem fLift : (false == Tryz.prog.liftsFinal) = true := by kernel_rfl
theorem fMake : (Tryz.prog.make == some YtafigekkhpepkaaGreat.Rows.solverMovesRow.make) = true := by kernel_rfl
end Go.Ax
end

section
/-
  Contracts of functions that write rows: a table and an element of another row; a slice of one's own; two pointers out of a table.
-/
set_option linter.unusedSimpArgs false
set_option linter.unusedVariables false
namespace Go.Ax
section
variable {P : Program} {G : Ctx} {H : Hots} {f : FuncId} {fn : Func} {r s key : Nat}
theorem thL2_0 {th : Nat → Nat → Nat} : ∀ f, thL [r, s] key th 0 f = (r, f) := fun f => by simp [thL]
/-- All rows are there, and hold nothing of our own. -/
def famCl (fam : Fam) : Prop := ∀ f, (fam f).g = none ∧ ∀ j, j < (fam f).n → ∀ c ∈ (fam f).get j, cleanC c = true
theorem famCl_E {fam : Fam} {f i : Nat} {cs : List AV} (h : famCl fam) (hc : ∀ c ∈ cs, cleanC c = true) : famCl (famE fam f i cs) := fun f' => by
  refine ⟨by rw [famE_g]; exact (h f').1, fun j hj c hcm => ?_⟩
  rw [famE_n] at hj
  by_cases e : f' = f
  · subst e
    simp only [famE, if_true] at hcm
    split at hcm
    · exact hc c hcm
    · exact (h f').2 j hj c hcm
  · rw [famE_off e] at hcm
    exact (h f').2 j hj c hcm
theorem rowRen_cl {θ : Nat → Nat → Nat × Nat} {g : Nat → Nat → Prop} {B : Nat → Prop} {fam : Fam} (h : famCl fam) (f : Nat) : rowRen θ g B (fam f) (fam f) := rowRen_clean' (.refl _) (h f).2
theorem look_two0 {x y : Fam} : look [(1, y), (0, x)] 0 = some x := by simp [look]
theorem look_two1 {x y : Fam} : look [(1, y), (0, x)] 1 = some y := by simp [look]
theorem two_okG {fam fam' x0 y0 famB famB' : Fam} {m : Mem} {es es0 : List AV} {val val0 : AV} {ob : List Prop} (hne : r ≠ s) (hl : look m r = some fam) (hl2 : look m s = some famB)
    (h1 : ∀ f, (fam f).g = none ∧ rowRen (thE [r, s]) (lowG 2) (lowB 2) (x0 f) (fam f)) (hB : famCl famB) (hB' : famCl famB')
    (h2 : ∀ th σ f, rowRen (thL [r, s] key th) (newG 2 σ th) (newB 2 σ) (y0 f) (fam' f) ∧ (y0 f).g ≠ some false) (ha : es = es0.map (renA (thE [r, s]) 3)) (hak : ∀ a ∈ es0, kg (lowG 2) (lowB 2) 3 a)
    (hfn : funcOK P H fn es0.length = true) (hv : ∀ th : Nat → Nat → Nat, ∀ σ : Nat → Option (Nat × Nat), val = renA (thL [r, s] key th) 3 val0 ∧ kg (newG 2 σ th) (newB 2 σ) 3 val0)
    (hb : bodyM P G H fn es0 [(1, famB), (0, x0)] 2 fun a m1 => a = val0 ∧ look m1 0 = some y0 ∧ look m1 1 = some famB') :
    ∃ ks m0 as0, Entry ks m m0 es as0 ∧ funcOK P H fn as0.length = true ∧ bodyM P G H fn as0 m0 ks.length fun a m1 => ∃ σ th ys nw, (⟨ob, val, .many [(r, fam'), (s, famB')] none⟩ : Eff).u = .many (ks.zip ys) nw ∧ Leave key ks σ th m1 a ys nw val := by
  refine ⟨[r, s], [(1, famB), (0, x0)], es0, ⟨by simp [hne], ha, hak, fun j hj => ?_, fun q x hq => ?_⟩, hfn, hb.mono fun a m1 ⟨q1, q2, q3⟩ => ?_⟩
  · match j, hj with
    | 0, _ => exact ⟨_, fam, look_two0, hl, h1⟩
    | 1, _ => exact ⟨_, famB, look_two1, hl2, fun f => ⟨(hB f).1, rowRen_cl hB f⟩⟩
    | j + 2, hj => simp at hj; omega
  · by_cases e : q = 0
    · subst e; simp
    · by_cases e1 : q = 1
      · subst e1; simp
      · simp [look, Ne.symm e, Ne.symm e1] at hq
  · obtain ⟨v1, v2⟩ := hv (fun _ _ => 0) (fun _ => none)
    refine ⟨fun _ => none, fun _ _ => 0, [fam', famB'], none, rfl, ⟨fun f r g h => by simp at h, by rw [q1]; exact v1, by rw [q1]; exact v2, rfl, fun j hj => ?_, fun _ => rfl⟩⟩
    match j, hj with
    | 0, _ => exact ⟨_, _, q2, rfl, h2 _ _⟩
    | 1, _ => exact ⟨_, _, q3, rfl, fun f => ⟨rowRen_cl hB' f, by rw [(hB' f).1]; simp⟩⟩
    | j + 2, hj => simp at hj; omega

theorem tabOK_in2 {K C N sz : Nat} {tp ty : TypeId} {fam : Fam} (h : tabOK K N sz tp ty fam) (f : Nat) : (fam f).g = none ∧ rowRen (thE [K, C]) (lowG 2) (lowB 2) (famT 0 N sz tp ty (fun i => (fam (i + 1)).get 0) f) (fam f) :=
  ⟨(h.1 f).2.2.2.1.trans famT_g, rowRen_alike (rowRen_T (θ := thE [K, C]) (g := lowG 2) (B := lowB 2) (fun _ => rfl) (fun _ => Nat.zero_lt_two) h.2 f) (h.1 f)⟩
/-! ### A table, and an element of another row -/
def mcTPp (sz sz2 : Nat) (tp ty : TypeId) (F : Nat → (Nat → List AV) → List AV → List AV → Option (List Prop × AV × (Nat → List AV) × List AV)) : MCon := fun key m es => match es with
  | .own K 0 N 1 :: .ptr C f i s2 0 :: rest => match look m K with
    | some fam => match look m C with
      | some famC => match F N (fun i => (fam (i + 1)).get 0) ((famC f).get i) rest with
        | some (ob, val, get', cs') => some ⟨(K ≠ C) :: (s2 = sz2) :: (i < (famC f).n) :: (sz2 = (famC f).sz) :: (cleanCs ((famC f).get i) = true) :: famCl famC :: tabOK K N sz tp ty fam :: ob, val, .many [(K, famT K N sz tp ty get'), (C, famE famC f i cs')] none⟩
        | none => none
      | none => none
    | none => none
  | _ => none
def mcTQ (sz sz2 : Nat) (tp ty : TypeId) (F : Nat → (Nat → List AV) → List AV → List AV → Option (List Prop × AV × (Nat → List AV) × List AV)) : MCon := fun key m es => match es with
  | .own K 0 N 1 :: .bx C 0 :: rest => match look m K with
    | some fam => match look m C with
      | some famC => match F N (fun i => (fam (i + 1)).get 0) ((famC 0).get 0) rest with
        | some (ob, val, get', cs') => some ⟨(K ≠ C) :: ((famC 0).n = 1) :: (sz2 = (famC 0).sz) :: (cleanCs ((famC 0).get 0) = true) :: famCl famC :: tabOK K N sz tp ty fam :: ob, val, .many [(K, famT K N sz tp ty get'), (C, wb1 famC cs')] none⟩
        | none => none
      | none => none
    | none => none
  | es => mcTPp sz sz2 tp ty F key m es
def TPOK (P : Program) (G : Ctx) (H : Hots) (fn : Func) (sz sz2 : Nat) (tp ty : TypeId) (F : Nat → (Nat → List AV) → List AV → List AV → Option (List Prop × AV × (Nat → List AV) × List AV)) : Prop :=
  ∀ N get cells rest ob val get' cs', F N get cells rest = some (ob, val, get', cs') → (∀ p ∈ ob, p) → (∀ i, i < N → cleanCs (get i) = true) → cleanCs cells = true →
    (∀ a ∈ rest, clean 3 a = true) ∧ clean 3 val = true ∧ (∀ i, i < N → cleanCs (get' i) = true) ∧ cleanCs cs' = true ∧ funcOK P H fn (rest.length + 2) = true ∧
    ∀ (fam : Fam) (f i : Nat), i < (fam f).n → sz2 = (fam f).sz → (∀ f, (fam f).g = none) → bodyM P G H fn (.own 0 0 N 1 :: .ptr 1 f i sz2 0 :: rest) [(1, famE fam f i cells), (0, famT 0 N sz tp ty get)] 2 fun a m1 =>
      a = val ∧ look m1 0 = some (famT 0 N sz tp ty get') ∧ look m1 1 = some (famE fam f i cs')
theorem MConOK.mcTPp (hG : CtxOK P G) (hf : P.funcs[f]? = some fn) {sz sz2 : Nat} {tp ty : TypeId} {F : Nat → (Nat → List AV) → List AV → List AV → Option (List Prop × AV × (Nat → List AV) × List AV)} (h : TPOK P G H fn sz sz2 tp ty F) : MConOK P f (mcTPp sz sz2 tp ty F) := by
  refine MConOK.of (H := H) hG hf fun key m es e hc hob => ?_
  unfold Ax.mcTPp at hc
  split at hc
  · rename_i K N C f' i s2 rest
    split at hc
    · rename_i fam hl
      split at hc
      · rename_i famC hl2
        split at hc
        · rename_i ob val get' cs' hF
          cases hc
          have hne : K ≠ C := hob _ (by simp)
          have hs2 : s2 = sz2 := hob _ (by simp)
          have hi : i < (famC f').n := hob _ (by simp)
          have hsz : sz2 = (famC f').sz := hob _ (by simp)
          have hcl : cleanCs ((famC f').get i) = true := hob _ (by simp)
          have hC : famCl famC := hob _ (by simp)
          have hok : tabOK K N sz tp ty fam := hob _ (by simp)
          subst hs2
          obtain ⟨h1, h2, h3, h3', h4, h5⟩ := h _ _ _ _ _ _ _ _ hF (fun p hp => hob p (by simp [hp])) hok.2 hcl
          obtain ⟨a1, a2⟩ := cleans_ren (θ := thE [K, C]) (g := lowG 2) (B := lowB 2) h1
          refine two_okG hne hl hl2 (tabOK_in2 hok) hC (famCl_E hC (cleanCs_mem h3'))
            (fun th σ f => ⟨rowRen_T thL2_0 (fun _ => .inl Nat.zero_lt_two) h3 f, by rw [famT_g]; simp⟩) (es0 := .own 0 0 N 1 :: .ptr 1 f' i s2 0 :: rest) (val0 := val) ?_ ?_ h4 (fun th σ => ?_) ?_
          · rw [List.map_cons, List.map_cons, a1]; rfl
          · intro a ha
            rcases List.mem_cons.1 ha with e | ha
            · rw [e]; exact Nat.zero_lt_two
            · rcases List.mem_cons.1 ha with e | ha
              · rw [e]; exact Nat.one_lt_two
              · exact a2 a ha
          · obtain ⟨b1, b2⟩ := clean_ren (θ := thL [K, C] key th) (g := newG 2 σ th) (B := newB 2 σ) 3 val h2
            exact ⟨b1.symm, b2⟩
          · have := h5 famC f' i hi hsz (fun f => (hC f).1)
            rw [famE_self] at this
            exact this
        · cases hc
      · cases hc
    · cases hc
  · cases hc
theorem MConOK.mcTQ (hG : CtxOK P G) (hf : P.funcs[f]? = some fn) {sz sz2 : Nat} {tp ty : TypeId} {F : Nat → (Nat → List AV) → List AV → List AV → Option (List Prop × AV × (Nat → List AV) × List AV)} (h : TPOK P G H fn sz sz2 tp ty F) : MConOK P f (mcTQ sz sz2 tp ty F) := by
  intro w0 ρ m m' D w key es vs e hR hk hm hRs hc hob hmany
  unfold Ax.mcTQ at hc
  split at hc
  · rename_i K N C rest
    split at hc
    · rename_i fam hl
      split at hc
      · rename_i famC hl2
        split at hc
        · rename_i ob val get' cs' hF
          cases hc
          have hne : K ≠ C := hob _ (by simp)
          have hn : (famC 0).n = 1 := hob _ (by simp)
          have hsz : sz2 = (famC 0).sz := hob _ (by simp)
          have hcl : cleanCs ((famC 0).get 0) = true := hob _ (by simp)
          have hC : famCl famC := hob _ (by simp)
          have hok : tabOK K N sz tp ty fam := hob _ (by simp)
          have hRs' : Rs w ρ (.own K 0 N 1 :: .ptr C 0 0 sz2 0 :: rest) vs := by
            obtain ⟨x, xs, rfl, h1, h2⟩ := hRs.inv
            obtain ⟨y, ys, rfl, h3, h4⟩ := h2.inv
            refine .cons h1 (.cons ?_ h4)
            cases h3 with
            | bx hd =>
              have : R w ρ (.ptr C 0 0 sz2 0) (.pointer (some ⟨ρ.blk C 0, 0 * sz2 + 0, none⟩)) := .ptr hd
              rw [Nat.zero_mul] at this
              exact this
          have := MConOK.mcTPp hG hf h w0 ρ m m' D w key _ vs ⟨(K ≠ C) :: (sz2 = sz2) :: (0 < (famC 0).n) :: (sz2 = (famC 0).sz) :: (cleanCs ((famC 0).get 0) = true) :: famCl famC :: tabOK K N sz tp ty fam :: ob, val, .many [(K, famT K N sz tp ty get'), (C, famE famC 0 0 cs')] none⟩ hR hk hm hRs'
            (by simp only [Ax.mcTPp, hl, hl2, hF]) (fun p hp => by
              simp only [List.mem_cons] at hp
              rcases hp with rfl | rfl | rfl | rfl | rfl | rfl | rfl | hp
              · exact hne
              · trivial
              · omega
              · exact hsz
              · exact hcl
              · exact hC
              · exact hok
              · exact hob p (by simp [hp])) ⟨_, _, rfl⟩
          refine this.mono fun v w' ⟨ρ', p1, p2, p3, p4⟩ => ⟨ρ', p1, ?_, p3, p4⟩
          have p2 : Rel w0 ρ' (setRow C (famE famC 0 0 cs') (setRow K (famT K N sz tp ty get') m)) (fun r => D r ∨ r = key) w' := p2
          refine Rel.alike p2 fun f => ?_
          by_cases e : f = 0
          · subst e
            refine ⟨rfl, rfl, rfl, rfl, fun i hi => ?_⟩
            rw [famE_n, hn] at hi
            have : i = 0 := by omega
            subst this
            rw [famE_get]; rfl
          · unfold wb1
            rw [if_neg e, famE_off e]
            exact ⟨rfl, rfl, rfl, rfl, fun _ _ => rfl⟩
        · cases hc
      · cases hc
    · cases hc
  · exact MConOK.mcTPp hG hf h w0 ρ m m' D w key es vs e hR hk hm hRs hc hob hmany

/-! ### Two pointers out of a table -/
def mc2P (sz : Nat) (tp ty : TypeId) : MCon := fun key m es => match es with
  | [.own K 0 N 1, .v (.int .i64 a), .v (.int .i64 b)] => match look m K with
    | some fam => some ⟨[tabOK K N sz tp ty fam, N ≤ 1000], if 0 ≤ a ∧ a < N ∧ 0 ≤ b ∧ b < N ∧ a ≠ b then .tup [.ptr K (a.toNat + 1) 0 sz 0, .ptr K (b.toNat + 1) 0 sz 0, .v (.bool true)] else .tup [.v (.pointer none), .v (.pointer none), .v (.bool false)], .many [(K, fam)] none⟩
    | none => none
  | _ => none
def TwoPOK (P : Program) (G : Ctx) (H : Hots) (fn : Func) (sz : Nat) (tp ty : TypeId) : Prop :=
  ∀ N get, N ≤ 1000 → ∀ a b : Int, funcOK P H fn 3 = true ∧
    bodyM P G H fn [.own 0 0 N 1, .v (.int .i64 a), .v (.int .i64 b)] [(0, famT 0 N sz tp ty get)] 1 fun x m1 => x = (if 0 ≤ a ∧ a < N ∧ 0 ≤ b ∧ b < N ∧ a ≠ b then AV.tup [.ptr 0 (a.toNat + 1) 0 sz 0, .ptr 0 (b.toNat + 1) 0 sz 0, .v (.bool true)] else .tup [.v (.pointer none), .v (.pointer none), .v (.bool false)]) ∧ look m1 0 = some (famT 0 N sz tp ty get)
theorem MConOK.mc2P (hG : CtxOK P G) (hf : P.funcs[f]? = some fn) {sz : Nat} {tp ty : TypeId} (h : TwoPOK P G H fn sz tp ty) : MConOK P f (mc2P sz tp ty) := by
  refine MConOK.of (H := H) hG hf fun key m es e hc hob => ?_
  unfold Ax.mc2P at hc
  split at hc
  · rename_i K N a b
    split at hc
    · rename_i fam hl
      cases hc
      have hok : tabOK K N sz tp ty fam := hob _ (by simp)
      have hN : N ≤ 1000 := hob _ (by simp)
      obtain ⟨h1, h2⟩ := h N (fun i => (fam (i + 1)).get 0) hN a b
      refine one_okG hl (tabOK_in hok) (fun th σ f => ⟨rowRen_alike (rowRen_T thL_0 (newG_0 (by simp)) hok.2 f) (hok.1 f), by rw [famT_g]; simp⟩) (es0 := [.own 0 0 N 1, .v (.int .i64 a), .v (.int .i64 b)]) ?_ ?_ h1 (fun th σ => ?_) h2
      · rfl
      · intro x hx
        simp only [List.mem_cons, List.not_mem_nil, or_false] at hx
        rcases hx with e | e | e <;> rw [e]
        · exact Nat.zero_lt_one
        · trivial
        · trivial
      · split
        · refine ⟨?_, ?_⟩
          · show AV.tup [.ptr K _ _ _ _, .ptr K _ _ _ _, _] = .tup [.ptr (thL [K] key th 0 _).1 (thL [K] key th 0 _).2 _ _ _, .ptr (thL [K] key th 0 _).1 (thL [K] key th 0 _).2 _ _ _, _]
            rw [thL_0, thL_0]; rfl
          · intro c hc
            simp only [List.mem_cons, List.not_mem_nil, or_false] at hc
            rcases hc with e | e | e <;> rw [e]
            · exact newG_0 (by simp) _
            · exact newG_0 (by simp) _
            · trivial
        · refine ⟨rfl, fun c hc => ?_⟩
          simp only [List.mem_cons, List.not_mem_nil, or_false] at hc
          rcases hc with e | e | e <;> rw [e] <;> trivial
    · cases hc
  · cases hc

/-! ### A slice of one's own -/
def mcS (sz : Nat) (ty : TypeId) (F : Nat → (Nat → List AV) → List AV → Option (List Prop × AV × (Nat → List AV))) : MCon := fun key m es => match es with
  | .own r 0 N sz' :: rest => match look m r with
    | some fam => match F N (fam 0).get rest with
      | some (ob, val, get') => some ⟨(sz' = sz) :: (fam = famN N sz ty (fam 0).get none) :: (∀ i, i < N → cleanCs ((fam 0).get i) = true) :: ob, val, .many [(r, famN N sz ty get' none)] none⟩
      | none => none
    | none => none
  | _ => none
def SlOK (P : Program) (G : Ctx) (H : Hots) (fn : Func) (sz : Nat) (ty : TypeId) (F : Nat → (Nat → List AV) → List AV → Option (List Prop × AV × (Nat → List AV))) : Prop :=
  ∀ N get rest ob val get', F N get rest = some (ob, val, get') → (∀ p ∈ ob, p) → (∀ i, i < N → cleanCs (get i) = true) → (∀ a ∈ rest, clean 3 a = true) ∧ clean 3 val = true ∧ (∀ i, i < N → cleanCs (get' i) = true) ∧ funcOK P H fn (rest.length + 1) = true ∧
    bodyM P G H fn (.own 0 0 N sz :: rest) [(0, famN N sz ty get none)] 1 fun a m1 => a = val ∧ look m1 0 = some (famN N sz ty get' none)
theorem famCl_N {n sz : Nat} {ty : TypeId} {get : Nat → List AV} (h : ∀ i, i < n → cleanCs (get i) = true) : famCl (famN n sz ty get none) := fun f => by
  unfold famN
  by_cases e : f = 0
  · subst e
    exact ⟨rfl, fun j hj c hc => cleanCs_mem (h j (by simpa using hj)) c (by simpa using hc)⟩
  · simp only [e, if_false]
    exact ⟨trivial, fun j hj => by omega⟩
theorem famCl_1 {sz : Nat} {ty : TypeId} {cs : List AV} (h : cleanCs cs = true) : famCl (fam1 ty sz cs none) := fun f => by
  unfold fam1
  by_cases e : f = 0
  · subst e
    exact ⟨rfl, fun j _ c hc => cleanCs_mem h c (by simpa using hc)⟩
  · simp only [e, if_false]
    exact ⟨trivial, fun j hj => by omega⟩
theorem MConOK.mcS (hG : CtxOK P G) (hf : P.funcs[f]? = some fn) {sz : Nat} {ty : TypeId} {F : Nat → (Nat → List AV) → List AV → Option (List Prop × AV × (Nat → List AV))} (h : SlOK P G H fn sz ty F) : MConOK P f (mcS sz ty F) := by
  refine MConOK.of (H := H) hG hf fun key m es e hc hob => ?_
  unfold Ax.mcS at hc
  split at hc
  · rename_i K N sz' rest
    split at hc
    · rename_i fam hl
      split at hc
      · rename_i ob val get' hF
        cases hc
        have hs : sz' = sz := hob _ (by simp)
        have he : fam = famN N sz ty (fam 0).get none := hob _ (by simp)
        have hcl : ∀ i, i < N → cleanCs ((fam 0).get i) = true := hob _ (by simp)
        subst hs
        obtain ⟨h1, h2, h3, h4, h5⟩ := h _ _ _ _ _ _ hF (fun p hp => hob p (by simp [hp])) hcl
        obtain ⟨a1, a2⟩ := cleans_ren (θ := thE [K]) (g := lowG 1) (B := lowB 1) h1
        have hC : famCl fam := by rw [he]; exact famCl_N hcl
        rw [← he] at h5
        refine one_okG hl (fun f => ⟨(hC f).1, rowRen_cl hC f⟩) (fun th σ f => ⟨rowRen_cl (famCl_N h3) f, by rw [(famCl_N h3 f).1]; simp⟩) (es0 := .own 0 0 N sz' :: rest) (val0 := val) ?_ ?_ h4 (fun th σ => ?_) h5
        · rw [List.map_cons, a1]; rfl
        · intro a ha
          rcases List.mem_cons.1 ha with e | ha
          · rw [e]; exact Nat.zero_lt_one
          · exact a2 a ha
        · obtain ⟨b1, b2⟩ := clean_ren (θ := thL [K] key th) (g := newG 1 σ th) (B := newB 1 σ) 3 val h2
          exact ⟨b1.symm, b2⟩
      · cases hc
    · cases hc
  · cases hc
/-! ### A new table, its elements being rows of another family -/
def LayOK2 (P : Program) (G : Ctx) (H : Hots) (fn : Func) (sz : Nat) (tp ty : TypeId) (F : List AV → Option (List Prop × Nat × (Nat → List AV))) : Prop :=
  ∀ es ob N get, F es = some (ob, N, get) → (∀ p ∈ ob, p) → (∀ a ∈ es, clean 3 a = true) ∧ (∀ i, i < N → cleanCs (get i) = true) ∧ funcOK P H fn es.length = true ∧
    bodyM P G H fn es [] 0 fun a m1 => ∃ L M x y, L ≠ M ∧ a = .own L 0 N 1 ∧ look m1 L = some x ∧ look m1 M = some y ∧ alike ⟨N, 1, tp, fun j => [.ptr M j 0 sz 0], none⟩ (x 0) ∧ ∀ i, i < N → alike ⟨1, sz, ty, fun _ => get i, none⟩ (y i)
def sigT (L M N : Nat) (f : Nat) : Option (Nat × Nat) := match f with
  | 0 => some (L, 0)
  | f + 1 => if f < N then some (M, f) else none
def thT (L : Nat) (r f : Nat) : Nat := if r = L then 0 else f + 1
theorem MConOK.mcL2 (hG : CtxOK P G) (hf : P.funcs[f]? = some fn) {sz : Nat} {tp ty : TypeId} {F : List AV → Option (List Prop × Nat × (Nat → List AV))} (h : LayOK2 P G H fn sz tp ty F) : MConOK P f (Ax.mcL sz tp ty F) := by
  refine MConOK.of (H := H) hG hf fun key m es e hc hob => ?_
  unfold Ax.mcL at hc
  split at hc
  · rename_i ob N get hF
    cases hc
    obtain ⟨h1, h2, h3, h4⟩ := h _ _ _ _ hF fun p hp => hob p hp
    obtain ⟨a1, a2⟩ := cleans_ren (θ := thE []) (g := lowG 0) (B := lowB 0) h1
    refine ⟨[], [], es, ⟨by simp, a1.symm, a2, fun j hj => by simp at hj, fun q x hq => by simp [look] at hq⟩, h3, h4.mono fun a m1 ⟨L, M, x, y, q0, q1, q2, q3, q4, q5⟩ => ?_⟩
    have g0 : ∀ B : Nat, newG B (sigT L M N) (thT L) L 0 := fun B => .inr (by unfold thT sigT; rw [if_pos rfl])
    have gM : ∀ B j : Nat, j < N → newG B (sigT L M N) (thT L) M j := fun B j hj => .inr (by unfold thT; rw [if_neg (Ne.symm q0)]; unfold sigT; exact if_pos hj)
    refine ⟨sigT L M N, thT L, [], some _, rfl, ⟨fun f r g h => ?_, ?_, ?_, rfl, fun j hj => by simp at hj, fun f => ?_⟩⟩
    · cases f with
      | zero => cases h; exact ⟨Nat.zero_le _, if_pos rfl⟩
      | succ f =>
        unfold sigT at h
        dsimp only at h
        split at h
        · cases h; exact ⟨Nat.zero_le _, if_neg (Ne.symm q0)⟩
        · cases h
    · rw [q1]
      show AV.own key 0 N 1 = .own (thL [] key (thT L) L 0).1 (thL [] key (thT L) L 0).2 N 1
      unfold thL thT
      simp
    · rw [q1]; exact g0 _
    · cases f with
      | zero =>
        refine ⟨_, q2, ?_, by rw [q4.2.2.2.1]; simp⟩
        obtain ⟨k1, k2, k3, k4, k5⟩ := q4
        refine ⟨k1.symm, k2.symm, k3.symm, k4.symm, fun j hj => ?_⟩
        rw [k1] at hj
        rw [k5 j hj]
        refine ⟨?_, fun c hc => ?_⟩
        · show [AV.ptr key (j + 1) 0 sz 0] = [AV.ptr (thL [] key (thT L) M j).1 (thL [] key (thT L) M j).2 0 sz 0]
          unfold thL thT
          simp [Ne.symm q0]
        · rw [List.mem_singleton] at hc
          rw [hc]; exact gM _ j hj
      | succ f =>
        by_cases hf : f < N
        · have e : sigT L M N (f + 1) = some (M, f) := if_pos hf
          rw [e]
          obtain ⟨k1, k2, k3, k4, k5⟩ := q5 f hf
          refine ⟨_, q3, ?_, by rw [k4]; simp⟩
          refine rowRen_clean' ⟨?_, k2.symm, k3.symm, k4.symm, fun j hj => ?_⟩ fun j hj c hcm => ?_
          · simp only [famT, if_pos hf]; exact k1.symm
          · rw [k1] at hj
            have hj : j < 1 := hj
            have : j = 0 := by omega
            subst this
            rw [k5 0 Nat.zero_lt_one]; rfl
          · rw [k1] at hj
            have hj : j < 1 := hj
            have : j = 0 := by omega
            subst this
            rw [k5 0 Nat.zero_lt_one] at hcm
            exact cleanCs_mem (h2 f hf) c hcm
        · have e : sigT L M N (f + 1) = none := if_neg hf
          rw [e]
          show (if f < N then 1 else 0) = 0
          exact if_neg hf
  · cases hc
end
end Go.Ax
end

section
/-
  Bodies ars they are, not cell by cell; lists of bodies, tables of bodies.
-/
set_option linter.unusedVariables false
set_option linter.unusedSimpArgs false
set_option maxHeartbeats 4000000
set_option maxRecDepth 100000
namespace Go.Ax
open Go.Proofs
section
variable {P : Program} {G : Ctx} {H : Hots} {K0 : AEx → St → Prop} {hot : Option Hot} {ops : Array Oper} {d : Option Tmp} {rest : List Oper} {i k : Nat} {st : List Fr} {t : Slots} {m : Mem} {nx : Nat} {o : List Prop} {u : Upd} {b : Bd} {c : Bool}
theorem ofC_body : ofC (some (true, 27)) (bodyC b) = some (.agg (bodyC b)) := (rfl)
theorem cells_body : cellsOf (.agg (bodyC b)) = some (bodyC b) := (rfl)
theorem drop_body : (bodyC b).drop 27 = [] := (rfl)
theorem take_body : (bodyC b).take 27 = bodyC b := (rfl)
theorem cleanCs_body : cleanCs (bodyC b) = true := (rfl)
theorem allCells_body : allCells (bodyC b) = true := (rfl)
theorem purUL_body : purUL 2 m (bodyC b) = bodyC b := (rfl)
theorem pgsL_body : pgsL 2 m (bodyC b) = [] := (rfl)
theorem purL_body : (bodyC b).map (pur 2 m) = bodyC b := (rfl)
theorem bindL_body : bindL P G H K0 hot ops d rest i st t m nx o u false [] (bodyC b) = bindC P G H K0 hot ops d rest i st t m nx o u (.agg (bodyC b)) := by
  unfold bindL; simp
end
attribute [go_sem] ofC_body cells_body drop_body take_body cleanCs_body allCells_body purUL_body pgsL_body purL_body bindL_body len_body clean_body bodyD_C
/-- Lists of bodies. -/
def bsC (B : Nat → Bd) : Nat → List AV := fun i => bodyC (B i)
def bsD (g : Nat → List AV) : Nat → Bd := fun i => bodyD (g i)
theorem bsD_C {B : Nat → Bd} : bsD (bsC B) = B := rfl
theorem bsD_C' {B : Nat → Bd} : bsD (fun i => bodyC (B i)) = B := rfl
theorem bsC_at {B : Nat → Bd} {i : Nat} : bsC B i = bodyC (B i) := (rfl)
def inBs (N : Nat) (B : Nat → Bd) : Prop := ∀ i, i < N → inB (B i) ∧ (B i).n ≤ 1000
/-- A contract of a function whose first argument is a list of bodies. -/
def cL (F : Nat → (Nat → Bd) → List AV → Option (List Prop × AV)) : Con
  | .ro N 27 g :: rest => match F N (bsD g) rest with
    | some (ob, r) => some ((g = bsC (bsD g)) :: ob, r)
    | none => none
  | _ => none
theorem cL_eq {F : Nat → (Nat → Bd) → List AV → Option (List Prop × AV)} {N : Nat} {g : Nat → List AV} {rest : List AV} : cL F (.ro N 27 g :: rest) = (match F N (bsD g) rest with
    | some (ob, r) => some ((g = bsC (bsD g)) :: ob, r)
    | none => none) := (rfl)
theorem ConOK.cL {P : Program} {G : Ctx} {H : Hots} (hG : CtxOK P G) {f : FuncId} {fn : Func} (hf : P.funcs[f]? = some fn) {F : Nat → (Nat → Bd) → List AV → Option (List Prop × AV)}
    (h : ∀ N B rest ob r, F N B rest = some (ob, r) → (∀ p ∈ ob, p) → funcOK P H fn (rest.length + 1) = true ∧ fnVC P G H fn (.ro N 27 (bsC B) :: rest) (· = r)) : ConOK P f (Ax.cL F) := ConOK.of hG hf fun l ob r hc hob => by
  unfold Ax.cL at hc
  split at hc
  · rename_i N g rest
    split at hc
    · rename_i ob' r' hF
      cases hc
      have e : g = bsC (bsD g) := hob _ (by simp)
      obtain ⟨h1, h2⟩ := h _ _ _ _ _ hF fun p hp => hob p (by simp [hp])
      rw [← e] at h2
      exact ⟨h1, h2⟩
    · cases hc
  · cases hc
def layF : List AV → Option (List Prop × Nat × (Nat → List AV))
  | [.ro N 27 g] => some ([N ≤ 1000, g = bsC (bsD g), inBs N (bsD g)], N, g)
  | _ => none
def mLay : MCon := mcL 27 151 155 layF
theorem mLay_eq {key : Nat} {m : Mem} {N : Nat} {g : Nat → List AV} : mLay key m [.ro N 27 g] = some ⟨[N ≤ 1000, g = bsC (bsD g), inBs N (bsD g)], .own key 0 N 1, .many [] (some (famT key N 27 151 155 g))⟩ := (rfl)
/-- A table, i pointers of which are there; what they point at. -/
def famP (M N i : Nat) : Fam := famN N 1 151 (fun j => if j < i then [.ptr M j 0 27 0] else [.v (.pointer none)]) none
def famL (B : Nat → Bd) (i : Nat) : Fam := fun f => ⟨if f < i then 1 else 0, 27, 155, fun j => if j = 0 then bodyC (B f) else [], none⟩
theorem fitLA_body {N M : Nat} {θ : Alias} {b : Bd} : fitLA N M θ (bodyC b) (bodyC b) := by
  simp [fitLA, bodyC, fit1A, kb]
def thI (K Q i : Nat) : Alias := fun r f => if r = K then (if f < i then some (K, f) else if f = i then some (Q, 0) else none) else some (r, f)
def th0 (K : Nat) : Alias := fun r f => if r = K then none else some (r, f)
theorem goodA_0 {K L : Nat} {x y : Fam} (hL : L < K) : goodA K 1 (th0 K) [(K, x), (L, y)] [] := by
  refine ⟨fun r f hr => if_neg (by omega), fun e he => ?_, fun r f r' f' q g hr hr' h h' => ?_⟩
  · simp only [List.mem_cons, List.not_mem_nil, or_false] at he
    rcases he with e | e <;> rw [e] <;> dsimp only <;> omega
  · unfold th0 at h h'
    split at h
    · cases h
    · split at h'
      · cases h'
      · cases h; cases h'; exact ⟨rfl, rfl⟩
theorem goodA_I {K L Q i : Nat} {x y : Fam} (hL : L < K) (hQ : K < Q) : goodA K 1 (thI K Q i) [(K, x), (L, y)] [] := by
  refine ⟨fun r f hr => if_neg (by omega), fun e he => ?_, fun r f r' f' q g hr hr' h h' => ?_⟩
  · simp only [List.mem_cons, List.not_mem_nil, or_false] at he
    rcases he with e | e <;> rw [e] <;> dsimp only <;> omega
  · simp only [List.map_cons, List.map_nil, List.mem_cons, List.not_mem_nil, or_false] at hr hr'
    unfold thI at h h'
    rcases hr with e | e <;> rcases hr' with e' | e' <;> subst e <;> subst e'
    · rw [if_pos rfl] at h h'
      refine ⟨rfl, ?_⟩
      (repeat' split at h) <;> (repeat' split at h') <;> simp_all
      all_goals omega
    · rw [if_pos rfl] at h
      rw [if_neg (by omega)] at h'
      cases h'
      (repeat' split at h) <;> simp_all
      all_goals omega
    · rw [if_pos rfl] at h'
      rw [if_neg (by omega)] at h
      cases h
      (repeat' split at h') <;> simp_all
      all_goals omega
    · rw [if_neg (by omega)] at h h'
      cases h; cases h'; exact ⟨rfl, rfl⟩
theorem con73m : MConOK Tryz.prog 73 mLay := MConOK.mcL2 (G := [(114, .wr mNon)]) (H := []) (.mcons con114m .nil) Tryz.func73 fun es ob N get hF hob => by
  unfold layF at hF
  split at hF
  · cases hF
    have hN : N ≤ 1000 := hob _ (by simp)
    have e : get = bsC (bsD get) := hob _ (by simp)
    have hB : inBs N (bsD get) := hob _ (by simp)
    generalize bsD get = B at *
    subst e
    refine ⟨by simp [clean], fun i _ => rfl, by kernel_rfl, bodyM_go (rs := [.tmp 2]) rfl rfl ?_⟩
    simp only [go_sem, bsC_at]
    have hby : bytesT Tryz.prog 151 = 8 := by kernel_rfl
    rw [hby]
    refine ⟨by omega, by omega, by omega, ?_⟩
    refine loopA_go (fun (i : Nat) => i ≤ N) (fun i => N - i) (fun i => [(11, i64 (i : Int))]) (fun i => [(8, famL B i), (3, famP 8 N i)]) [] [12, 13, 14, 15, 5, 4, 16, 17, 18, 19, 20, 21, 11] 1 0 (by kernel_rfl) (Nat.zero_le _) ⟨th0 8, ?_, ?_, trivial, goodA_0 (by omega)⟩ ?_
    · simp [fitSlotsA, fit1A, kb, slot]
    · refine ⟨fun f => ⟨rfl, rfl⟩, fun f => ⟨_, rfl, ?_⟩, trivial⟩
      unfold famP famN
      split
      · refine ⟨rfl, rfl, rfl, rfl, rfl, fun j _ => ?_⟩
        simp [fitLA, fit1A, kb]
      · exact ⟨rfl, rfl, rfl, rfl, rfl, fun j hj => absurd hj (Nat.not_lt_zero j)⟩
    intro i hi
    simp only [go_sem, famP, bsC_at, mNon_eq]
    refine ⟨fun h => ?_, fun h => ?_⟩
    · have hi' : i < N := by omega
      refine ⟨by omega, h, (hB i hi').1, (hB i hi').2, by omega, h, hi', fun z hz => ⟨i + 1, by omega, by omega, thI 8 19 i, ?_, ?_, goodA_I (by omega) (by omega)⟩⟩
      · have e : z = ((i + 1 : Nat) : Int) := by rw [hz, wrap_in (by unfold inR; omega)]; rfl
        subst e
        simp [fitSlotsA, fit1A, kb, slot]
      · refine ⟨fun f => ?_, fun f => ?_, trivial⟩
        · unfold thI
          rw [if_pos rfl]
          by_cases h1 : f < i
          · rw [if_pos h1]
            refine ⟨_, rfl, ?_⟩
            unfold famL
            refine ⟨by simp [h1]; omega, rfl, rfl, rfl, rfl, fun j hj => ?_⟩
            have : j = 0 := by simp only at hj; split at hj <;> omega
            subst this
            exact fitLA_body
          · rw [if_neg h1]
            by_cases h2 : f = i
            · subst h2
              rw [if_pos rfl]
              refine ⟨_, rfl, ?_⟩
              unfold famL fam1
              refine ⟨by simp, rfl, rfl, rfl, rfl, fun j hj => ?_⟩
              have : j = 0 := by simp only at hj; split at hj <;> omega
              subst this
              exact fitLA_body
            · rw [if_neg h2]
              exact ⟨if_neg (by omega), rfl⟩
        · unfold thI
          rw [if_neg (by omega)]
          refine ⟨_, rfl, ?_⟩
          unfold famN
          split
          · refine ⟨rfl, rfl, rfl, rfl, rfl, fun j _ => ?_⟩
            dsimp only
            by_cases h1 : j = i
            · subst h1
              simp [fitLA, fit1A]
            · by_cases h2 : j < i
              · rw [if_pos (by omega), if_neg h1, if_pos h2]
                simp [fitLA, fit1A, h2]
              · rw [if_neg (by omega), if_neg h1, if_neg h2]
                simp [fitLA, fit1A, kb]
          · exact ⟨rfl, rfl, rfl, rfl, rfl, fun j hj => absurd hj (Nat.not_lt_zero j)⟩
    · have e : i = N := by omega
      subst e
      refine ⟨3, 8, _, _, by omega, rfl, rfl, rfl, ⟨rfl, rfl, rfl, rfl, fun j hj => ?_⟩, fun j hj => ⟨if_pos hj, rfl, rfl, rfl, fun q hq => ?_⟩⟩
      · show (if j < i then _ else _) = _
        exact if_pos hj
      · have hq : q < 1 := hq
        show (if q = 0 then _ else _) = _
        exact if_pos (by omega)
  · cases hF
theorem ofC_len {l : List AV} (h : l.length = 27) : ofC (some (true, 27)) l = some (.agg l) := by
  rw [ofC_agg, if_pos (by omega), ← h, List.take_length]
theorem fitL_clean {N M : Nat} {σ : Names} : ∀ {l : List AV}, cleanCs l = true → fitL N M σ l l
  | [], _ => trivial
  | a :: l, h => by
    simp only [cleanCs, Bool.and_eq_true] at h
    refine ⟨?_, fitL_clean h.2⟩
    have h1 := h.1
    cases a <;> first | exact ⟨rfl, trivial⟩ | trivial | simp [cleanC] at h1
def mTell : MCon := mcTR 27 151 155 57
theorem con75L : MConOK Tryz.prog 75 (mcTL 27 151 155 57) := MConOK.mcTL (G := []) (H := []) .nil Tryz.func75 fun N get hN hcl hlen => by
  refine ⟨by kernel_rfl, bodyM_go (rs := [.tmp 2]) rfl rfl ?_⟩
  simp only [go_sem]
  have hby : bytesT Tryz.prog 57 = 224 := by kernel_rfl
  rw [hby]
  refine ⟨by omega, by omega, by omega, ?_⟩
  refine loopC_go (fun (i : Nat) => i ≤ N) (fun i => N - i) (fun i => [(11, i64 (i : Int))]) (fun i => [(4, famN N 27 57 (fun j => if j < i then get j else [.v (.int .i64 0), .v (.int .i64 0), .v (.int .i64 0), .v (.int .i64 0), .v (.slice none 0 0), .v (.int .i64 0), .v (.bool false), .v (.int .i64 0), .v (.bool false), .v (.int .i64 0), .v (.bool false), .v (.int .i64 0), .v (.bool false), .v (.int .i64 0), .v (.bool false), .v (.int .i64 0), .v (.bool false), .v (.int .i64 0), .v (.bool false), .v (.int .i64 0), .v (.bool false), .v (.int .i64 0), .v (.bool false), .v (.int .i64 0), .v (.bool false), .v (.bool false), .v (.int .i64 0)]) none)]) [0] [12, 13, 14, 15, 4, 5, 16, 17, 18, 19, 20, 21, 22, 23, 11] 0 (by kernel_rfl) ?_ (Nat.zero_le _) ?_ ?_
  · intro x _; simp [goodNames, asg]
  · simp only [go_sem, Nat.not_lt_zero, if_false, implies_true]
  intro i hi
  by_cases hiN : i < N
  · obtain ⟨hl, ha⟩ := hlen i hiN
    have hl27 : (get i).drop 27 = [] := by rw [List.drop_eq_nil_iff]; omega
    have hof := ofC_len hl
    simp only [go_sem, Nat.lt_irrefl, if_false, hl, ha, hof, hl27]
    refine ⟨fun h => ⟨by omega, h, hiN, hiN, by omega, h, hiN, fun z hz => ⟨i + 1, by omega, by omega, by rw [hz, wrap_in (by unfold inR; omega)]; rfl, fun j hj => ?_⟩⟩, fun h => absurd hiN (by omega)⟩
    by_cases e : j = i
    · subst e
      rw [if_pos (by omega), if_pos rfl]
      exact fitL_clean (hcl j hj)
    · rw [if_neg e]
      by_cases e2 : j < i
      · rw [if_pos (by omega), if_pos e2]
        exact fitL_clean (hcl j hj)
      · rw [if_neg (by omega), if_neg e2]
        exact fitL_clean rfl
  · simp only [go_sem]
    refine ⟨fun h => absurd h (by omega), fun h => ⟨4, _, by omega, rfl, rfl, fun j hj => if_pos (by omega)⟩⟩
theorem con75m : MConOK Tryz.prog 75 mTell := MConOK.mcTR con75L
end Go.Ax
end

section
/-
  The box of a form, ars the reference finds it; forms and boxes of bodies.
-/
set_option linter.unusedVariables false
set_option linter.unusedSimpArgs false
set_option maxHeartbeats 4000000
set_option maxRecDepth 100000
namespace Go.Ax
open Go.Proofs
theorem vc149 (k x y r : Int) (n : Nat) (X Y : Nat → Int) (hX : ∀ i, i < n → inR (X i) ∧ inR (Y i)) (hn : n ≤ 9223372036854775806) (hx : inR x) (hy : inR y) (hr : inR r) : fnVC Tryz.prog [(215, c261), (216, c292), (217, c217)] [(9, ⟨[(9, .slot 3)], []⟩)] Tryz.f149 [formA k x y r n fun i => [i64 (X i), i64 (Y i)]] (· = .agg [i64 (boxS k x y r n X Y 0), i64 (boxS k x y r n X Y 1), i64 (boxS k x y r n X Y 2), i64 (boxS k x y r n X Y 3)]) := by
  refine fnVC_go (rs := [.cell 2 108]) rfl rfl ?_
  simp only [go_sem, c261, c292]
  have hg : spots n fun i => [i64 (X i), i64 (Y i)] := fun i hi => ⟨rfl, hX i hi⟩
  intro z hz
  have hz : z = checkS k x y r n X Y := hz
  refine ⟨hg, hn, hx, hy, hr, fun h => ?_, fun h => ⟨fun hk1 z1 hz1 z2 hz2 z3 hz3 z4 hz4 => ?_, fun hk1 => ?_⟩⟩
  · have hc : ¬ checkS k x y r n X Y = 0 := by rw [← hz]; simpa using h
    simp only [boxS_none hc]
  all_goals
    have hc : checkS k x y r n X Y = 0 := by rw [← hz]; simpa using h
    obtain ⟨hk, v1, v2, h1, h2⟩ := check_1 hc
  · have hk1 : k = 1 := by simpa using hk1
    have h1 := h1 hk1
    have v := validS_iff.1 v1
    rw [wrap_in (by unfold inR; omega)] at hz1 hz2 hz3 hz4
    simp only [boxS_disc hc hk1]
    rw [hz1, hz2, hz3, hz4]
  have hk1 : k ≠ 1 := by simpa using hk1
  have h2 := h2 hk1
  have h3 := (convexS_iff.1 h2.2.2).1
  refine ⟨by omega, fun z1 hz1 z2 hz2 z3 hz3 z4 hz4 => ?_⟩
  have w0 := validS_iff.1 (v2 0 (by omega))
  rw [wrap_in (by unfold inR; omega)] at hz1 hz2 hz3 hz4
  simp only [boxS_poly hc hk1]
  refine loopC_go (fun (i : Nat) => i ≤ n ∧ 1 ≤ i) (fun i => n - i) (fun i => [(4, i64 i)]) (fun i => [(13, fam1 108 4 [i64 (mnS X i), i64 (mnS Y i), i64 (mxS X i), i64 (mxS Y i)] none)]) [1, 0] [22, 23, 24, 25, 26, 29, 30, 31, 32, 33, 34, 35, 36, 37, 27, 28, 4] 1 (by kernel_rfl) ?_ ⟨by omega, by omega⟩ ?_ ?_
  · intro x _; simp [goodNames, asg]
  · simp only [go_sem]
    simp [mnS, mxS, hz1, hz2, hz3, hz4]
  · intro i hi
    simp only [go_sem, c217, c330, c292]
    obtain ⟨x1, x2, x3⟩ := mn_bd (Z := X) (B := 2097152) (i := i) (fun j hj => by have := validS_iff.1 (v2 j (by omega)); omega) hi.2
    obtain ⟨y1, y2, y3⟩ := mn_bd (Z := Y) (B := 2097152) (i := i) (fun j hj => by have := validS_iff.1 (v2 j (by omega)); omega) hi.2
    refine ⟨fun hin => ⟨by omega, hin, fun a ha b hb c hcc d hd e he f hf g hg' q hq => ?_⟩, fun hin => ?_⟩
    · have hin' : i < n := by omega
      have v := validS_iff.1 (v2 i hin')
      rw [wrap_in (by unfold inR; omega)] at ha hb hcc hd
      have k1 : checkBoxS (mnS X i) (mnS Y i) (mxS X i) (mxS Y i) = 0 := by
        unfold checkBoxS
        rw [if_pos ⟨validS_iff.2 (by omega), validS_iff.2 (by omega)⟩, if_neg (by omega)]
      have k2 : checkBoxS a b c d = 0 := by
        unfold checkBoxS
        rw [if_pos ⟨validS_iff.2 (by omega), validS_iff.2 (by omega)⟩, if_neg (by omega)]
      refine ⟨⟨⟨by unfold inR; omega, by unfold inR; omega, by unfold inR; omega, by unfold inR; omega⟩, by unfold inR; omega, by unfold inR; omega, by unfold inR; omega, by unfold inR; omega⟩, fun z5 hz5 => ⟨i + 1, by omega, by omega, ?_, ?_⟩⟩
      · rw [hz5, wrap_in (by unfold inR; omega)]; rfl
      · have e0 : ¬ i = 0 := by omega
        simp only [joinT, k1, k2, and_self, if_true] at he hf hg' hq
        simp only [mnS, mxS, if_neg e0]
        rw [he, hf, hg', hq, ha, hb, hcc, hd]
        simp
    · have e : i = n := by omega
      subst e; rfl
theorem con149 : ConOK Tryz.prog 149 c148 := ConOK.go (G := [(215, c261), (216, c292), (217, c217)]) (H := [(9, ⟨[(9, .slot 3)], []⟩)]) (.cons con215 (.cons con216 (.cons con217 .nil))) Tryz.func149 fun l ob rr hc hob => by
  unfold c148 at hc
  split at hc
  · rename_i k x y r n g
    cases hc
    have hs : spots n g := hob _ (by simp)
    exact ⟨[formA k x y r n fun i => [i64 (gx g 0 i), i64 (gx g 1 i)]], fun w I vs h => Rs_one (Rs_form hs) h, by kernel_rfl, vc149 k x y r n _ _ (fun i hi => (hs i hi).2) (hob _ (by simp)) (hob _ (by simp)) (hob _ (by simp)) (hob _ (by simp))⟩
  · cases hc

theorem spV_inR {a : Nb} : inR (spV a) := by
  have : rg (whV (nMul a (nInt 256)).1) := whV_rg (rg_inR nMul_rg)
  unfold spV
  unfold rg at this
  unfold inR
  omega
theorem pl_spots {N : Nat} {k w t : Int} {X Y : Nat → Int} {at' rot : V2} : (spots N fun i => [i64 (plX k w t X Y at' rot i), i64 (plY k w t X Y at' rot i)]) = True := eq_true fun i _ => ⟨rfl, spV_inR, spV_inR⟩
theorem plN_le {k r w t : Int} {n : Nat} {X Y : Nat → Int} {at' rot : V2} : plN k r w t n X Y at' rot ≤ 8 := by
  unfold plN
  split
  · split
    · omega
    · unfold corN
      split
      · rename_i h
        have := chk_cases h
        split <;> omega
      · omega
  · omega
theorem plN_max {k r w t : Int} {n : Nat} {X Y : Nat → Int} {at' rot : V2} : (plN k r w t n X Y at' rot ≤ 9223372036854775806) = True := eq_true (Nat.le_trans plN_le (by omega))
theorem plC_in {k r w t : Int} {n : Nat} {X Y : Nat → Int} {at' rot : V2} {a : Nb} : inR (plC k r w t n X Y at' rot a) = True := eq_true (by
  unfold plC
  split
  · exact spV_inR
  · unfold inR; omega)
theorem plR_in {k r w t : Int} {n : Nat} {X Y : Nat → Int} {at' rot : V2} (h : inR r) : inR (plR k r w t n X Y at' rot) := by
  unfold plR
  split
  · exact h
  · unfold inR; omega
def kb61 : Con := cB fun b rest => match rest with
  | [] => some ([inB b, b.n ≤ 1000], plA b.k b.r b.wd b.ht b.n b.X b.Y b.pl b.rot)
  | _ => none
theorem konb61 : ConOK Tryz.prog 61 kb61 := ConOK.cB (G := [(145, c145)]) (H := []) (.cons con145 .nil) Tryz.func61 fun b rest ob r hc hob => by
  split at hc
  · skip
    cases hc
    have h_0 : inB b := hob _ (by simp)
    have h_1 : b.n ≤ 1000 := hob _ (by simp)
    obtain ⟨b1, b2, b3, b4, b5, b6, b7, b8, b9, b10, b11, b12, b13, b14, b15, b16⟩ := h_0
    have hb : inB b := hob _ (by simp)
    refine ⟨by kernel_rfl, fnVC_go (rs := [.cell 2 103, .tmp 3]) rfl rfl ?_⟩
    simp only [bodyC, go_sem, c145, cB_eq, cBR_eq, bodyD_lit, gx_pts0, gx_pts1, spots_can, etaN, etaV, bd_eta, b1, b2, b3, b4, b6, b7, b8, b9, b10, b11, b12, b13, b14, b15, b16, hb, h_1, plA]
    simp only [forall_eq]
    exact ⟨b5, by omega, trivial⟩
  · cases hc
def kb62 : Con := cB fun b rest => match rest with
  | [] => some ([inB b, b.n ≤ 1000], plA b.k b.r b.wd b.ht b.n b.X b.Y b.pl b.rot)
  | _ => none
theorem konb62 : ConOK Tryz.prog 62 kb62 := ConOK.cB (G := [(146, c145)]) (H := []) (.cons con146 .nil) Tryz.func62 fun b rest ob r hc hob => by
  split at hc
  · skip
    cases hc
    have h_0 : inB b := hob _ (by simp)
    have h_1 : b.n ≤ 1000 := hob _ (by simp)
    obtain ⟨b1, b2, b3, b4, b5, b6, b7, b8, b9, b10, b11, b12, b13, b14, b15, b16⟩ := h_0
    have hb : inB b := hob _ (by simp)
    refine ⟨by kernel_rfl, fnVC_go (rs := [.cell 2 103, .tmp 3]) rfl rfl ?_⟩
    simp only [bodyC, go_sem, c145, cB_eq, cBR_eq, bodyD_lit, gx_pts0, gx_pts1, spots_can, etaN, etaV, bd_eta, b1, b2, b3, b4, b6, b7, b8, b9, b10, b11, b12, b13, b14, b15, b16, hb, h_1, plA]
    simp only [forall_eq]
    exact ⟨b5, by omega, trivial⟩
  · cases hc
def bdS (b : Bd) (q : Nat) : Int := if plErr b.k b.r b.wd b.ht b.n b.X b.Y b.pl b.rot = 0 then boxS (plK b.k b.r b.wd b.ht b.n b.X b.Y b.pl b.rot) (plC b.k b.r b.wd b.ht b.n b.X b.Y b.pl b.rot b.pl.1) (plC b.k b.r b.wd b.ht b.n b.X b.Y b.pl b.rot b.pl.2) (plR b.k b.r b.wd b.ht b.n b.X b.Y b.pl b.rot) (plN b.k b.r b.wd b.ht b.n b.X b.Y b.pl b.rot) (plX b.k b.wd b.ht b.X b.Y b.pl b.rot) (plY b.k b.wd b.ht b.X b.Y b.pl b.rot) q else 0
def bxA (b : Bd) : AV := .agg [i64 (bdS b 0), i64 (bdS b 1), i64 (bdS b 2), i64 (bdS b 3)]
theorem bxA_0 {b : Bd} (h : plErr b.k b.r b.wd b.ht b.n b.X b.Y b.pl b.rot ≠ 0) : bxA b = .agg [i64 0, i64 0, i64 0, i64 0] := by
  unfold bxA bdS; rw [if_neg h, if_neg h, if_neg h, if_neg h]
def kb64 : Con := cB fun b rest => match rest with
  | [] => some ([inB b, b.n ≤ 1000], bxA b)
  | _ => none
theorem konb64 : ConOK Tryz.prog 64 kb64 := ConOK.cB (G := [(61, kb61), (148, c148)]) (H := []) (.cons konb61 (.cons con148 .nil)) Tryz.func64 fun b rest ob r hc hob => by
  split at hc
  · skip
    cases hc
    have h_0 : inB b := hob _ (by simp)
    have h_1 : b.n ≤ 1000 := hob _ (by simp)
    obtain ⟨b1, b2, b3, b4, b5, b6, b7, b8, b9, b10, b11, b12, b13, b14, b15, b16⟩ := h_0
    have hb : inB b := hob _ (by simp)
    refine ⟨by kernel_rfl, fnVC_go (rs := [.cell 2 108]) rfl rfl ?_⟩
    simp only [bodyC, go_sem, kb61, c148, cB_eq, cBR_eq, bodyD_lit, gx_pts0, gx_pts1, spots_can, etaN, etaV, bd_eta, b1, b2, b3, b4, b6, b7, b8, b9, b10, b11, b12, b13, b14, b15, b16, hb, h_1, plA, pl_spots, plN_max, plC_in]
    simp only [forall_eq]
    refine ⟨fun h => (bxA_0 (by simpa using h)).symm, fun h => ⟨fun j _ => ⟨spV_inR, spV_inR⟩, plR_in b2, ?_⟩⟩
    unfold bxA bdS
    have h : plErr b.k b.r b.wd b.ht b.n b.X b.Y b.pl b.rot = 0 := by simpa using h
    rw [if_pos h, if_pos h, if_pos h, if_pos h]
  · cases hc
def kb65 : Con := cB fun b rest => match rest with
  | [] => some ([inB b, b.n ≤ 1000], bxA b)
  | _ => none
theorem konb65 : ConOK Tryz.prog 65 kb65 := ConOK.cB (G := [(62, kb62), (149, c148)]) (H := []) (.cons konb62 (.cons con149 .nil)) Tryz.func65 fun b rest ob r hc hob => by
  split at hc
  · skip
    cases hc
    have h_0 : inB b := hob _ (by simp)
    have h_1 : b.n ≤ 1000 := hob _ (by simp)
    obtain ⟨b1, b2, b3, b4, b5, b6, b7, b8, b9, b10, b11, b12, b13, b14, b15, b16⟩ := h_0
    have hb : inB b := hob _ (by simp)
    refine ⟨by kernel_rfl, fnVC_go (rs := [.cell 2 108]) rfl rfl ?_⟩
    simp only [bodyC, go_sem, kb62, c148, cB_eq, cBR_eq, bodyD_lit, gx_pts0, gx_pts1, spots_can, etaN, etaV, bd_eta, b1, b2, b3, b4, b6, b7, b8, b9, b10, b11, b12, b13, b14, b15, b16, hb, h_1, plA, pl_spots, plN_max, plC_in]
    simp only [forall_eq]
    refine ⟨fun h => (bxA_0 (by simpa using h)).symm, fun h => ⟨fun j _ => ⟨spV_inR, spV_inR⟩, plR_in b2, ?_⟩⟩
    unfold bxA bdS
    have h : plErr b.k b.r b.wd b.ht b.n b.X b.Y b.pl b.rot = 0 := by simpa using h
    rw [if_pos h, if_pos h, if_pos h, if_pos h]
  · cases hc
end Go.Ax
end

section
/-
  SolverForms: its body.
-/
set_option linter.unusedVariables false
set_option linter.unusedSimpArgs false
set_option maxHeartbeats 4000000
set_option maxRecDepth 100000
namespace Go.Ax
open Go.Proofs
theorem vc13 (b : Bd) (hb : inB b) (hn : b.n ≤ 9223372036854775807) (x y z u : Int) (e f g h : Bool) (h1 : inR x) (h2 : inR y) (h3 : inR z) (h4 : inR u) :
    fnVC Tryz.prog [(14, kLit1), (15, c15), (35, kb35), (61, kb61), (62, kb62), (63, c63), (64, kb64), (65, kb65), (26, kw26), (66, kw26), (67, kw67), (68, kw67), (69, kb69), (33, kb33), (70, kb70), (71, kb71), (36, kb36)] [] Tryz.f13 [.agg (bodyC b), .agg [i64 x, bo e, i64 y, bo f], .agg [i64 z, bo g, i64 u, bo h]] (· = bo true) := by
  refine fnVC_go (rs := [.tmp 6]) rfl rfl ?_
  obtain ⟨b1, b2, b3, b4, b5, b6, b7, b8, b9, b10, b11, b12, b13, b14, b15, b16⟩ := id hb
  simp only [bodyC, go_sem, kLit1, c15, kb35, kb61, kb62, c63, kb64, kb65, kw26, kw26, kw67, kw67, kb69, kb33, kb70, kb71, kb36, cB_eq, cBR_eq, bodyD_lit, gx_pts0, gx_pts1, spots_can, etaN, etaV, bd_eta, plA, bxA]
  simp only [forall_eq, implies_true, true_and, and_true, hb, b2, b5, b6, b7, b8, b9, b10, b11, b12, b13, b14, b15, b16, h1, h2, h3, h4, reduceCtorEq, false_imp_iff, true_imp_iff, or_self, imp_self, pl_spots, plN_max, plC_in, beq_self_eq_true, sameF_self]
  refine ⟨hn, fun h => ?_⟩
  have h12 : b.n ≤ 1000 := by have := of_decide_eq_true h; omega
  simp only [h12, spV_inR, true_and, and_true]
  exact ⟨fun j _ => ⟨spV_inR, spV_inR⟩, fun j _ => ⟨spV_inR, spV_inR⟩⟩
end Go.Ax
end
