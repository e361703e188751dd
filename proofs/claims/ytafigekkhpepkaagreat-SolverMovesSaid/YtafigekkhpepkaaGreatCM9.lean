/-
  Bodies that are the same; the examples that all statements ask.
-/
import Derived.Test.YtafigekkhpepkaaGreatCM8
import Derived.ShutString
import Derived.ChangeOld
import Derived.Below
import Derived.Test.YtafigekkhpepkaaGreatRows
import Derived.JoinedOf
section
set_option linter.unusedVariables false
set_option linter.unusedSimpArgs false
set_option maxHeartbeats 4000000
set_option maxRecDepth 100000
namespace Go.Ax
open Go.Proofs
theorem aEq24 {a0 b0 : Int} {a1 b1 : Bool} : aEq Tryz.prog 24 (.agg [i64 a0, bo a1]) (.agg [i64 b0, bo b1]) = some ((a0 == b0) && ((a1 == b1) && true)) := by kernel_rfl
theorem eq24 {xo yo : Operand} {neg : Bool} {a0 b0 : Int} {a1 b1 : Bool} : eqE Tryz.prog neg 24 xo yo (.agg [i64 a0, bo a1]) (.agg [i64 b0, bo b1]) = some ⟨[], .v (.bool (negV neg ((a0 == b0) && ((a1 == b1) && true)))), .none⟩ := eqE_agg aEq24
attribute [go_sem] eq24
theorem aEq26 {a0 b0 : Int} {a1 b1 : Bool} {a2 b2 : Int} {a3 b3 : Bool} : aEq Tryz.prog 26 (.agg [i64 a0, bo a1, i64 a2, bo a3]) (.agg [i64 b0, bo b1, i64 b2, bo b3]) = some (((a0 == b0) && ((a1 == b1) && true)) && (((a2 == b2) && ((a3 == b3) && true)) && true)) := by kernel_rfl
theorem eq26 {xo yo : Operand} {neg : Bool} {a0 b0 : Int} {a1 b1 : Bool} {a2 b2 : Int} {a3 b3 : Bool} : eqE Tryz.prog neg 26 xo yo (.agg [i64 a0, bo a1, i64 a2, bo a3]) (.agg [i64 b0, bo b1, i64 b2, bo b3]) = some ⟨[], .v (.bool (negV neg (((a0 == b0) && ((a1 == b1) && true)) && (((a2 == b2) && ((a3 == b3) && true)) && true)))), .none⟩ := eqE_agg aEq26
attribute [go_sem] eq26
theorem aEq53 {a0 b0 : Int} {a1 b1 : Bool} {a2 b2 : Int} {a3 b3 : Bool} {a4 b4 : Int} {a5 b5 : Bool} {a6 b6 : Int} {a7 b7 : Bool} : aEq Tryz.prog 53 (.agg [i64 a0, bo a1, i64 a2, bo a3, i64 a4, bo a5, i64 a6, bo a7]) (.agg [i64 b0, bo b1, i64 b2, bo b3, i64 b4, bo b5, i64 b6, bo b7]) = some ((((a0 == b0) && ((a1 == b1) && true)) && (((a2 == b2) && ((a3 == b3) && true)) && true)) && ((((a4 == b4) && ((a5 == b5) && true)) && (((a6 == b6) && ((a7 == b7) && true)) && true)) && true)) := by kernel_rfl
theorem eq53 {xo yo : Operand} {neg : Bool} {a0 b0 : Int} {a1 b1 : Bool} {a2 b2 : Int} {a3 b3 : Bool} {a4 b4 : Int} {a5 b5 : Bool} {a6 b6 : Int} {a7 b7 : Bool} : eqE Tryz.prog neg 53 xo yo (.agg [i64 a0, bo a1, i64 a2, bo a3, i64 a4, bo a5, i64 a6, bo a7]) (.agg [i64 b0, bo b1, i64 b2, bo b3, i64 b4, bo b5, i64 b6, bo b7]) = some ⟨[], .v (.bool (negV neg ((((a0 == b0) && ((a1 == b1) && true)) && (((a2 == b2) && ((a3 == b3) && true)) && true)) && ((((a4 == b4) && ((a5 == b5) && true)) && (((a6 == b6) && ((a7 == b7) && true)) && true)) && true)))), .none⟩ := eqE_agg aEq53
attribute [go_sem] eq53
theorem aEq55 {a0 b0 : Int} {a1 b1 : Bool} {a2 b2 : Int} {a3 b3 : Bool} : aEq Tryz.prog 55 (.agg [i64 a0, bo a1, i64 a2, bo a3]) (.agg [i64 b0, bo b1, i64 b2, bo b3]) = some (((a0 == b0) && ((a1 == b1) && true)) && (((a2 == b2) && ((a3 == b3) && true)) && true)) := by kernel_rfl
theorem eq55 {xo yo : Operand} {neg : Bool} {a0 b0 : Int} {a1 b1 : Bool} {a2 b2 : Int} {a3 b3 : Bool} : eqE Tryz.prog neg 55 xo yo (.agg [i64 a0, bo a1, i64 a2, bo a3]) (.agg [i64 b0, bo b1, i64 b2, bo b3]) = some ⟨[], .v (.bool (negV neg (((a0 == b0) && ((a1 == b1) && true)) && (((a2 == b2) && ((a3 == b3) && true)) && true)))), .none⟩ := eqE_agg aEq55
attribute [go_sem] eq55
theorem aEq69 {a0 b0 : Int} {a1 b1 : Bool} {a2 b2 : Int} {a3 b3 : Bool} {a4 b4 : Int} {a5 b5 : Bool} : aEq Tryz.prog 69 (.agg [i64 a0, bo a1, i64 a2, bo a3, i64 a4, bo a5]) (.agg [i64 b0, bo b1, i64 b2, bo b3, i64 b4, bo b5]) = some ((((a0 == b0) && ((a1 == b1) && true)) && (((a2 == b2) && ((a3 == b3) && true)) && true)) && (((a4 == b4) && ((a5 == b5) && true)) && true)) := by kernel_rfl
theorem eq69 {xo yo : Operand} {neg : Bool} {a0 b0 : Int} {a1 b1 : Bool} {a2 b2 : Int} {a3 b3 : Bool} {a4 b4 : Int} {a5 b5 : Bool} : eqE Tryz.prog neg 69 xo yo (.agg [i64 a0, bo a1, i64 a2, bo a3, i64 a4, bo a5]) (.agg [i64 b0, bo b1, i64 b2, bo b3, i64 b4, bo b5]) = some ⟨[], .v (.bool (negV neg ((((a0 == b0) && ((a1 == b1) && true)) && (((a2 == b2) && ((a3 == b3) && true)) && true)) && (((a4 == b4) && ((a5 == b5) && true)) && true)))), .none⟩ := eqE_agg aEq69
attribute [go_sem] eq69
theorem aEq30 {a0 b0 : Int} {a1 b1 : Bool} {a2 b2 : Int} {a3 b3 : Bool} : aEq Tryz.prog 30 (.agg [i64 a0, bo a1, i64 a2, bo a3]) (.agg [i64 b0, bo b1, i64 b2, bo b3]) = some (((a0 == b0) && ((a1 == b1) && true)) && (((a2 == b2) && ((a3 == b3) && true)) && true)) := by kernel_rfl
theorem eq30 {xo yo : Operand} {neg : Bool} {a0 b0 : Int} {a1 b1 : Bool} {a2 b2 : Int} {a3 b3 : Bool} : eqE Tryz.prog neg 30 xo yo (.agg [i64 a0, bo a1, i64 a2, bo a3]) (.agg [i64 b0, bo b1, i64 b2, bo b3]) = some ⟨[], .v (.bool (negV neg (((a0 == b0) && ((a1 == b1) && true)) && (((a2 == b2) && ((a3 == b3) && true)) && true)))), .none⟩ := eqE_agg aEq30
attribute [go_sem] eq30
theorem vc113 (k r w t : Int) (n : Nat) (X Y : Nat → Int) (hn : n ≤ 1000) : fnVC Tryz.prog [] [] Tryz.f113 [shapeA k r w t n fun i => [i64 (X i), i64 (Y i)], shapeA k r w t n fun i => [i64 (X i), i64 (Y i)]] (· = bo true) := by
  refine fnVC_go (rs := [.tmp 4]) rfl rfl ?_
  simp only [go_sem]
  have e1 : ∀ x : Int, (x != x) = false := fun x => by simp
  refine ⟨fun h => by simp at h, fun _ => ?_⟩
  refine loopC_go (fun (i : Nat) => i ≤ n) (fun i => n - i) (fun i => [(5, i64 (i : Int))]) (fun _ => []) [1, 0] [41, 42, 43, 44, 45, 48, 49, 50, 51, 52, 53, 54, 55, 56, 57, 58, 4, 46, 47, 5] 0 (by kernel_rfl) ?_ (Nat.zero_le _) ?_ ?_
  · intro x _; simp [goodNames, asg]
  · simp only [go_sem]
  intro i hi
  simp only [go_sem]
  exact ⟨fun h => ⟨by omega, h, by omega, h, fun hb => by simp at hb, fun _ z hz => ⟨i + 1, by omega, by omega, by rw [hz, wrap_in (by unfold inR; omega)]; rfl⟩⟩, fun _ => trivial⟩
/-- Shapes that are equal are found to be equal. -/
def kSame : Con
  | [.agg [.v (.int .i64 k), .v (.int .i64 r), .v (.int .i64 w), .v (.int .i64 t), .ro n 2 g], b] => some ([spots n g, n ≤ 1000, b = .agg [i64 k, i64 r, i64 w, i64 t, .ro n 2 g]], bo true)
  | _ => none
theorem konS113 : ConOK Tryz.prog 113 kSame := ConOK.go (G := []) (H := []) .nil Tryz.func113 fun l ob rr hc hob => by
  unfold kSame at hc
  split at hc
  · rename_i k r w t n g b
    cases hc
    have hs : spots n g := hob _ (by simp)
    have hn : n ≤ 1000 := hob _ (by simp)
    have hb : b = .agg [i64 k, i64 r, i64 w, i64 t, .ro n 2 g] := hob _ (by simp)
    subst hb
    exact ⟨[shapeA k r w t n fun i => [i64 (gx g 0 i), i64 (gx g 1 i)], shapeA k r w t n fun i => [i64 (gx g 0 i), i64 (gx g 1 i)]], fun w I vs h => Rs_two (Rs_shape hs) (Rs_shape hs) h, by kernel_rfl, vc113 k r w t n _ _ hn⟩
  · cases hc
def kb36 : Con := cB fun b rest => match rest with
  | [a] => some ([inB b, b.n ≤ 1000, a = .agg (bodyC b)], bo true)
  | _ => none
theorem konb36 : ConOK Tryz.prog 36 kb36 := ConOK.cB (G := [(113, kSame)]) (H := []) (.cons konS113 .nil) Tryz.func36 fun b rest ob r hc hob => by
  split at hc
  · rename_i a
    cases hc
    have h_0 : inB b := hob _ (by simp)
    have h_1 : b.n ≤ 1000 := hob _ (by simp)
    have h_2 : a = .agg (bodyC b) := hob _ (by simp)
    obtain ⟨b1, b2, b3, b4, b5, b6, b7, b8, b9, b10, b11, b12, b13, b14, b15, b16⟩ := h_0
    have hb : inB b := hob _ (by simp)
    subst h_2
    refine ⟨by kernel_rfl, fnVC_go (rs := [.tmp 4]) rfl rfl ?_⟩
    simp only [bodyC, go_sem, kSame, cB_eq, cBR_eq, bodyD_lit, gx_pts0, gx_pts1, spots_can, etaN, etaV, bd_eta, b1, b2, b3, b4, b6, b7, b8, b9, b10, b11, b12, b13, b14, b15, b16, hb, h_1]
    intro z hz
    subst hz
    exact ⟨b5, by simp⟩
  · cases hc
theorem vc14 (n : Nat) (B : Nat → Bd) (hn : n ≤ 9223372036854775807) (hB : ∀ i, i < n → (B i).n ≤ 9223372036854775807) : fnVC Tryz.prog [] [] Tryz.f14 [.ro n 27 fun i => bodyC (B i)] (· = bo (decide (∀ i, i < n → (B i).n ≤ 12))) := by
  refine fnVC_go (rs := [.tmp 2]) rfl rfl ?_
  simp only [bodyC, go_sem]
  refine loopC_go (fun (i : Nat) => i ≤ n ∧ ∀ j, j < i → (B j).n ≤ 12) (fun i => n - i) (fun i => [(3, i64 (i : Int))]) (fun _ => []) [] [4, 5, 6, 7, 10, 11, 12, 13, 14, 15, 16, 17, 2, 8, 9, 3] 0 (by kernel_rfl) ?_ ⟨Nat.zero_le _, fun j hj => by omega⟩ ?_ ?_
  · intro x _; simp [goodNames, asg]
  · simp only [go_sem]
  intro i hi
  simp only [go_sem]
  refine ⟨fun h => ⟨by omega, h, fun hb => ?_, fun hb z hz => ⟨i + 1, ⟨by omega, fun j hj => ?_⟩, by omega, ?_⟩⟩, fun h => ?_⟩
  · refine (decide_eq_false fun hc => ?_).symm
    have := hc i (by omega); omega
  · by_cases e : j = i
    · subst e; omega
    · exact hi.2 j (by omega)
  · rw [hz, wrap_in (by unfold inR; omega)]; rfl
  · exact (decide_eq_true fun j hj => hi.2 j (by omega)).symm
def kLit : Con
  | [.ro n 27 g] => some ([n ≤ 9223372036854775807, ∀ i, i < n → g i = bodyC (bodyD (g i)) ∧ (bodyD (g i)).n ≤ 9223372036854775807], bo (decide (∀ i, i < n → (bodyD (g i)).n ≤ 12)))
  | _ => none
theorem kon14L : ConOK Tryz.prog 14 kLit := ConOK.go (G := []) (H := []) .nil Tryz.func14 fun l ob rr hc hob => by
  unfold kLit at hc
  split at hc
  · rename_i n g
    cases hc
    have hg : ∀ i, i < n → g i = bodyC (bodyD (g i)) ∧ (bodyD (g i)).n ≤ 9223372036854775807 := hob _ (by simp)
    exact ⟨[.ro n 27 fun i => bodyC (bodyD (g i))], fun w I vs h => Rs_one (fun v hv => ro_alike (fun i hi => (hg i hi).1) hv) h, by kernel_rfl, vc14 n (fun i => bodyD (g i)) (hob _ (by simp)) fun i hi => (hg i hi).2⟩
  · cases hc
def cjS (n : Int) (k a b : Int) (p q : V2) (l : Nb) : Int :=
  if k ≠ 1 ∧ k ≠ 2 ∧ k ≠ 3 then 8 else
  if (a < 0 ∨ n ≤ a) ∨ (k ≠ 1 ∧ (b < 0 ∨ n ≤ b ∨ a = b)) then 3 else
  if (withS p.1 32 && withS p.2 32) = false ∨ (if k = 1 then (withS q.1 4096 && withS q.2 4096) = false else (withS q.1 32 && withS q.2 32) = false) then 3 else
  if k = 2 ∧ (withS l 8192 = false ∨ l.1 < 0) then 3 else
  if (k = 1 ∧ b ≠ 0) ∨ (k ≠ 2 ∧ ¬ (l.1 = 0 ∧ l.2 = false)) then 4 else 0
def c77 : Con
  | [.v (.int .i64 n), .v (.int .i64 a), .v (.int .i64 b)] => some ([0 ≤ n], bo (decide (0 ≤ a ∧ a < n ∧ 0 ≤ b ∧ b < n ∧ a ≠ b)))
  | _ => none
theorem con77 : ConOK Tryz.prog 77 c77 := ConOK.of (G := []) (H := []) .nil Tryz.func77 fun l ob rr hc hob => by
  unfold c77 at hc
  split at hc
  · rename_i n a b
    cases hc
    have h_0 : 0 ≤ n := hob _ (by simp)
    refine ⟨by kernel_rfl, fnVC_go (rs := [.tmp 6]) rfl rfl ?_⟩
    simp only [go_sem, iMul, iDiv, iInt, iAdd, iSub, iRat, iDot, iHyp, iSq, iNeg, iPos, iAbs, iMx, iMn, iCl, iWh, iLoc1, iLoc2, iVAdd1, iVAdd2, iVSub1, iVSub2, iScale1, iScale2, iVDot, iVCross, iLen, iOf1, iOf2, iUnit1, iUnit2, h_0]
    have e1 : (a != b) = decide (a ≠ b) := by by_cases h : a = b <;> simp [h]
    rw [e1]
    simp only [Bool.decide_and, Bool.and_assoc]
  · cases hc
def kj51 : Con
  | [.v (.int .i64 n), .agg [.v (.int .i64 k), .v (.int .i64 a), .v (.int .i64 b), .v (.int .i64 x), .v (.bool e), .v (.int .i64 y), .v (.bool f), .v (.int .i64 z), .v (.bool g), .v (.int .i64 u), .v (.bool h), .v (.int .i64 l), .v (.bool m)]] => some ([inR n, inR x, inR y, inR z, inR u, inR l], i64 (cjS n k a b ((x, e), (y, f)) ((z, g), (u, h)) (l, m)))
  | _ => none
theorem konj51 : ConOK Tryz.prog 51 kj51 := ConOK.of (G := [(123, kw123)]) (H := []) (.cons konw123 .nil) Tryz.func51 fun l ob rr hc hob => by
  unfold kj51 at hc
  split at hc
  · rename_i n k a b x e y f z g u h l m
    cases hc
    have h_0 : inR n := hob _ (by simp)
    have h_1 : inR x := hob _ (by simp)
    have h_2 : inR y := hob _ (by simp)
    have h_3 : inR z := hob _ (by simp)
    have h_4 : inR u := hob _ (by simp)
    have h_5 : inR l := hob _ (by simp)
    refine ⟨by kernel_rfl, fnVC_go (rs := [.tmp 4]) rfl rfl ?_⟩
    simp only [go_sem, kw123, iMul, iDiv, iInt, iAdd, iSub, iRat, iDot, iHyp, iSq, iNeg, iPos, iAbs, iMx, iMn, iCl, iWh, iLoc1, iLoc2, iVAdd1, iVAdd2, iVSub1, iVSub2, iScale1, iScale2, iVDot, iVCross, iLen, iOf1, iOf2, iUnit1, iUnit2, h_0, h_1, h_2, h_3, h_4, h_5]
    unfold cjS
    simp only [forall_eq]
    generalize (withS (x, e) 32 && withS (y, f) 32) = w1
    generalize (withS (z, g) 4096 && withS (u, h) 4096) = w3
    generalize (withS (z, g) 32 && withS (u, h) 32) = w5
    generalize withS (l, m) 8192 = w7
    clear hob h_0 h_1 h_2 h_3 h_4 h_5
    repeat' (first | intro _ | apply And.intro)
    all_goals grind
  · cases hc
def kj52 : Con
  | [.v (.int .i64 n), .agg [.v (.int .i64 k), .v (.int .i64 a), .v (.int .i64 b), .v (.int .i64 x), .v (.bool e), .v (.int .i64 y), .v (.bool f), .v (.int .i64 z), .v (.bool g), .v (.int .i64 u), .v (.bool h), .v (.int .i64 l), .v (.bool m)]] => some ([inR n, inR x, inR y, inR z, inR u, inR l], i64 (cjS n k a b ((x, e), (y, f)) ((z, g), (u, h)) (l, m)))
  | _ => none
theorem konj52 : ConOK Tryz.prog 52 kj52 := ConOK.of (G := [(77, c77), (127, kw127b), (144, kw144w)]) (H := []) (.cons con77 (.cons konw127b (.cons konw144w .nil))) Tryz.func52 fun l ob rr hc hob => by
  unfold kj52 at hc
  split at hc
  · rename_i n k a b x e y f z g u h l m
    cases hc
    have h_0 : inR n := hob _ (by simp)
    have h_1 : inR x := hob _ (by simp)
    have h_2 : inR y := hob _ (by simp)
    have h_3 : inR z := hob _ (by simp)
    have h_4 : inR u := hob _ (by simp)
    have h_5 : inR l := hob _ (by simp)
    refine ⟨by kernel_rfl, fnVC_go (rs := [.tmp 4]) rfl rfl ?_⟩
    simp only [go_sem, c77, kw127b, kw144w, iMul, iDiv, iInt, iAdd, iSub, iRat, iDot, iHyp, iSq, iNeg, iPos, iAbs, iMx, iMn, iCl, iWh, iLoc1, iLoc2, iVAdd1, iVAdd2, iVSub1, iVSub2, iScale1, iScale2, iVDot, iVCross, iLen, iOf1, iOf2, iUnit1, iUnit2, h_0, h_1, h_2, h_3, h_4, h_5]
    unfold cjS
    simp only [forall_eq]
    generalize (withS (x, e) 32 && withS (y, f) 32) = w1
    generalize (withS (z, g) 4096 && withS (u, h) 4096) = w3
    generalize (withS (z, g) 32 && withS (u, h) 32) = w5
    generalize withS (l, m) 8192 = w7
    clear hob h_0 h_1 h_2 h_3 h_4 h_5
    repeat' (first | intro _ | apply And.intro)
    all_goals grind
  · cases hc
end Go.Ax
end

section
/-
  The examples that all statements ask; the frames of the laws about one body.
-/
set_option linter.unusedVariables false
set_option linter.unusedSimpArgs false
set_option maxHeartbeats 4000000
set_option maxRecDepth 100000
namespace Go.Ax
open Go.Proofs
section
variable {P : Program} {G : Ctx} {H : Hots} {K0 : AEx → St → Prop} {hot : Option Hot} {ops : Array Oper} {d : Option Tmp} {rest : List Oper} {i : Nat} {st : List Fr} {t : Slots} {m : Mem} {nx : Nat} {o : List Prop} {u : Upd} {b : Bd} {c : Bool}
theorem bindC_cboA : bindC P G H K0 hot ops d rest i st t m nx o u (condV c (bnd (boA b))) = (∀ b', b' = b → bindC P G H K0 hot ops d rest i st t m nx o u (condV c (.agg (bodyC b')))) := by
  apply propext
  constructor
  · rintro h b' rfl; exact h
  · intro h; exact h b rfl
end
attribute [go_sem] bindC_cboA

theorem inB_wak {b : Bd} (h : inB b) : inB (wakS b) := by
  unfold wakS
  split
  · obtain ⟨b1, b2, b3, b4, b5, b6, b7, b8, b9, b10, b11, b12, b13, b14, b15, b16⟩ := h
    exact ⟨b1, b2, b3, b4, b5, b6, b7, b8, b9, b10, b11, b12, b13, b14, of_eq_true inR_0, b16⟩
  · exact h
theorem inB_rst {b : Bd} (h : inB b) : inB (rstS b) := by
  obtain ⟨b1, b2, b3, b4, b5, b6, b7, b8, b9, b10, b11, b12, b13, b14, b15, b16⟩ := h
  exact ⟨b1, b2, b3, b4, b5, b6, b7, b8, b9, of_eq_true inR_0, of_eq_true inR_0, of_eq_true inR_0, b13, b14, b15, b16⟩
theorem inB_st {b : Bd} (h : inB b) {n : Int} {f : Bool} (hn : inR n) : inB { b with st := n, fa := f } := by
  obtain ⟨b1, b2, b3, b4, b5, b6, b7, b8, b9, b10, b11, b12, b13, b14, b15, b16⟩ := h
  exact ⟨b1, b2, b3, b4, b5, b6, b7, b8, b9, b10, b11, b12, b13, b14, hn, b16⟩
theorem inB_psh {b : Bd} {p j : V2} (h : inB b) : inB (pshS b p j) := by
  unfold pshS
  split
  · exact h
  · have := inB_push h (v := limV (vAdd b.v (vScale j b.m))) (w := limS (nAdd b.w (nMul b.i (vCross (vSub p b.pl) j))) 64) (of_eq_true (iLim (of_eq_true iVAdd1))) (of_eq_true (iLim (of_eq_true iVAdd2))) (of_eq_true (iLim (of_eq_true iAdd)))
    dsimp only
    split
    · exact inB_wak this
    · exact this
theorem inB_pul {b : Bd} {g : V2} {t : Nb} (h : inB b) : inB (pulS b g t) := by
  unfold pulS
  split
  · exact h
  · exact inB_push h (of_eq_true (iLim (of_eq_true iVAdd1))) (of_eq_true (iLim (of_eq_true iVAdd2))) h.2.2.2.2.2.2.2.2.2.2.2.1
theorem inB_go {b : Bd} {t : Nb} (h : inB b) : inB (goS b t) := by
  unfold goS
  split
  · exact h
  · split
    · obtain ⟨b1, b2, b3, b4, b5, b6, b7, b8, b9, b10, b11, b12, b13, b14, b15, b16⟩ := h
      split
      · exact ⟨b1, b2, b3, b4, b5, of_eq_true iVAdd1, of_eq_true iVAdd2, b8, b9, b10, b11, b12, b13, b14, b15, b16⟩
      · exact ⟨b1, b2, b3, b4, b5, of_eq_true iVAdd1, of_eq_true iVAdd2, of_eq_true iSpi1, of_eq_true iSpi2, b10, b11, b12, b13, b14, b15, b16⟩
    · exact inB_st (inB_rst h) (by unfold inR; omega)
theorem inB_res {b : Bd} (h : inB b) : inB (resS b) := by
  have h15 : inR b.st := by obtain ⟨b1, b2, b3, b4, b5, b6, b7, b8, b9, b10, b11, b12, b13, b14, b15, b16⟩ := h; exact b15
  unfold inR at h15
  unfold resS
  split
  · exact h
  · split
    · exact inB_st (f := b.fa) h (by unfold inR; omega)
    · split
      · exact inB_st (f := b.fa) (inB_rst h) (by unfold inR; omega)
      · exact inB_st (f := b.fa) h (by unfold inR; omega)
theorem wak_n {b : Bd} : (wakS b).n = b.n := by unfold wakS; split <;> rfl
theorem psh_n {b : Bd} {p j : V2} : (pshS b p j).n = b.n := by
  unfold pshS
  split
  · rfl
  · dsimp only
    split
    · rw [wak_n]
    · rfl
theorem pul_n {b : Bd} {g : V2} {t : Nb} : (pulS b g t).n = b.n := by unfold pulS; split <;> rfl
theorem go_n {b : Bd} {t : Nb} : (goS b t).n = b.n := by unfold goS; (repeat' split) <;> rfl
theorem res_n {b : Bd} : (resS b).n = b.n := by unfold resS; (repeat' split) <;> rfl
def rndB (x : Int) (m i : Nb) : Bd := ⟨1, 256, 0, 0, 0, fun _ => 0, fun _ => 0, ((x, false), (0, false)), ((4294967296, false), (0, false)), ((0, false), (0, false)), (0, false), m, i, 0, false, false, 1⟩
theorem alk_body0 {l1 : List AV} {X Y : Nat → Int} {c0 c1 c2 c3 : AV} : alk (.agg (c0 :: c1 :: c2 :: c3 :: ptsA 0 X Y :: l1)) (.agg (c0 :: c1 :: c2 :: c3 :: .v (.slice none 0 0) :: l1)) := fun w ρ v hR => by
  cases hR with
  | agg hl hh =>
    refine .agg hl fun j x y h3 h4 => ?_
    match j with
    | 4 =>
      simp at h3; subst h3
      exact alk_nil _ _ _ (hh 4 _ y rfl h4)
    | 0 => exact hh 0 x y h3 h4
    | 1 => exact hh 1 x y h3 h4
    | 2 => exact hh 2 x y h3 h4
    | 3 => exact hh 3 x y h3 h4
    | j + 5 => exact hh (j + 5) x y h3 h4
def kw72 : Con
  | [.v (.int .i64 x), .agg [.v (.int .i64 m), .v (.bool e), .v (.int .i64 i), .v (.bool f)]] => some ([], boA (rndB x (m, e) (i, f)))
  | _ => none
theorem konw72 : ConOK Tryz.prog 72 kw72 := ConOK.goR (G := [(55, kw55)]) (H := [(1, ⟨[(9, .slot 4)], []⟩)]) (.cons konw55 .nil) Tryz.func72 fun l ob rr hc hob => by
  unfold kw72 at hc
  split at hc
  · rename_i x m e i f
    cases hc
    refine ⟨_, fun w I vs h => h, by kernel_rfl, fnVC_go (rs := [.cell 4 57]) rfl rfl ?_⟩
    simp only [go_sem, kw55, forall_eq]
    exact alk_body0
  · cases hc
/-- Lists of one body, and of two. -/
def kLit1 : Con
  | [.ro 1 27 g] => some ([g 0 = bodyC (bodyD (g 0)), (bodyD (g 0)).n ≤ 9223372036854775807], bo (decide ((bodyD (g 0)).n ≤ 12)))
  | [.ro 2 27 g] => some ([g 0 = bodyC (bodyD (g 0)), g 1 = bodyC (bodyD (g 1)), (bodyD (g 0)).n ≤ 9223372036854775807, (bodyD (g 1)).n ≤ 9223372036854775807], bo (decide ((bodyD (g 0)).n ≤ 12 ∧ (bodyD (g 1)).n ≤ 12)))
  | _ => none
theorem konL14 : ConOK Tryz.prog 14 kLit1 := fun l ob r he hob => by
  unfold kLit1 at he
  split at he
  · rename_i g
    cases he
    have h1 : g 0 = bodyC (bodyD (g 0)) := hob _ (by simp)
    have h2 : (bodyD (g 0)).n ≤ 9223372036854775807 := hob _ (by simp)
    have := kon14L [.ro 1 27 g] _ _ rfl (owe2 (by omega) fun i hi => by
      have : i = 0 := by omega
      subst this; exact ⟨h1, h2⟩)
    have e : decide (∀ i : Nat, i < 1 → (bodyD (g i)).n ≤ 12) = decide ((bodyD (g 0)).n ≤ 12) := decide_eq_decide.2 ⟨fun h => h 0 (by omega), fun h i hi => by
      have : i = 0 := by omega
      subst this; exact h⟩
    rw [e] at this
    exact this
  · rename_i g
    cases he
    have h1 : g 0 = bodyC (bodyD (g 0)) := hob _ (by simp)
    have h2 : g 1 = bodyC (bodyD (g 1)) := hob _ (by simp)
    have h3 : (bodyD (g 0)).n ≤ 9223372036854775807 := hob _ (by simp)
    have h4 : (bodyD (g 1)).n ≤ 9223372036854775807 := hob _ (by simp)
    have := kon14L [.ro 2 27 g] _ _ rfl (owe2 (by omega) fun i hi => by
      match i with
      | 0 => exact ⟨h1, h3⟩
      | 1 => exact ⟨h2, h4⟩
      | i + 2 => omega)
    have e : decide (∀ i : Nat, i < 2 → (bodyD (g i)).n ≤ 12) = decide ((bodyD (g 0)).n ≤ 12 ∧ (bodyD (g 1)).n ≤ 12) := decide_eq_decide.2 ⟨fun h => ⟨h 0 (by omega), h 1 (by omega)⟩, fun h i hi => by
      match i with
      | 0 => exact h.1
      | 1 => exact h.2
      | i + 2 => omega⟩
    rw [e] at this
    exact this
  · cases he
def c15 : Con
  | [] => some ([], bo true)
  | _ => none
theorem con15 : ConOK Tryz.prog 15 c15 := ConOK.of (G := [(55, kw55), (72, kw72), (37, kb37), (51, kj51)]) (H := []) (.cons konw55 (.cons konw72 (.cons konb37 (.cons konj51 .nil)))) Tryz.func15 fun l ob rr hc hob => by
  unfold c15 at hc
  split at hc
  · skip
    cases hc
    refine ⟨by kernel_rfl, fnVC_go (rs := [.tmp 0]) rfl rfl ?_⟩
    simp only [go_sem, kw55, kw72, kb37, kj51, iMul, iDiv, iInt, iAdd, iSub, iRat, iDot, iHyp, iSq, iNeg, iPos, iAbs, iMx, iMn, iCl, iWh, iLoc1, iLoc2, iVAdd1, iVAdd2, iVSub1, iVSub2, iScale1, iScale2, iVDot, iVCross, iLen, iOf1, iOf2, iUnit1, iUnit2, bodyC, cB_eq, cBR_eq, bodyD_lit, gx_pts0, gx_pts1, spots_can, etaN, etaV, bd_eta]
    simp only [forall_eq]
    have e1 : (pshS (rndB 0 (4294967296, false) (4294967296, false)) ((0, false), 4294967296, false) ((4294967296, false), 0, false)).v = ((4294967296, false), (0, false)) := by kernel_rfl
    have e2 : (pshS (rndB 0 (4294967296, false) (4294967296, false)) ((0, false), 4294967296, false) ((4294967296, false), 0, false)).w = (-4294967296, false) := by kernel_rfl
    have e3 : cjS 1 4 0 0 ((0, false), 0, false) ((0, false), 0, false) (0, false) = 8 := by decide
    rw [e1, e2, e3]
    simp only [beq_self_eq_true, true_and, and_self, implies_true]
    exact ⟨⟨⟨by decide, by decide⟩, ⟨by decide, by decide⟩, ⟨by decide, by decide⟩, ⟨by decide, by decide⟩, fun j hj => absurd hj (Nat.not_lt_zero j), ⟨by decide, by decide⟩, ⟨by decide, by decide⟩, ⟨by decide, by decide⟩, ⟨by decide, by decide⟩, ⟨by decide, by decide⟩, ⟨by decide, by decide⟩, ⟨by decide, by decide⟩, ⟨by decide, by decide⟩, ⟨by decide, by decide⟩, ⟨by decide, by decide⟩, ⟨by decide, by decide⟩⟩, by decide, by unfold inR; omega, by unfold inR; omega, trivial⟩
  · cases hc
end Go.Ax
end

section
/-
  SolverMoves: its body.
-/
set_option linter.unusedVariables false
set_option linter.unusedSimpArgs false
set_option maxHeartbeats 4000000
set_option maxRecDepth 100000
namespace Go.Ax
open Go.Proofs
theorem vc7 (b : Bd) (hb : inB b) (hn : b.n ≤ 9223372036854775807) (x y z u t : Int) (e f g h o : Bool) (h1 : inR x) (h2 : inR y) (h3 : inR z) (h4 : inR u) (h5 : inR t) :
    fnVC Tryz.prog [(14, kLit1), (15, c15), (35, kb35), (37, kb37), (38, kb38), (36, kb36), (39, kb39), (40, kb40), (41, kb41), (42, kb42), (43, kb43), (44, kb44), (45, kb45), (46, kb46)] [] Tryz.f7 [.agg (bodyC b), .agg [i64 x, bo e, i64 y, bo f], .agg [i64 z, bo g, i64 u, bo h], .agg [i64 t, bo o]] (· = bo true) := by
  refine fnVC_go (rs := [.tmp 8]) rfl rfl ?_
  obtain ⟨b1, b2, b3, b4, b5, b6, b7, b8, b9, b10, b11, b12, b13, b14, b15, b16⟩ := id hb
  simp only [bodyC, go_sem, kLit1, c15, kb35, kb37, kb38, kb36, kb39, kb40, kb41, kb42, kb43, kb44, kb45, kb46, cB_eq, cBR_eq, bodyD_lit, gx_pts0, gx_pts1, spots_can, etaN, etaV, bd_eta]
  simp only [forall_eq, implies_true, true_and, and_true, hb, inB_psh, inB_pul, inB_go, inB_res, inB_wak, psh_n, pul_n, go_n, res_n, wak_n, h1, h2, h3, h4, h5, reduceCtorEq, false_imp_iff, true_imp_iff, or_self, imp_self]
  refine ⟨hn, fun h => ?_⟩
  have h12 : b.n ≤ 1000 := by have := of_decide_eq_true h; omega
  simp only [h12, and_self]
end Go.Ax
end

section
/-
  The frame of a law: its arguments ars abstract values, and what they read ars behind the call.
-/
set_option linter.unusedSimpArgs false
set_option linter.unusedVariables false
namespace Go.Ax
open Go.ChangeShapes Go.WideShapes Go.ChangeAt Go.RowKit

/-- What an argument is. -/
inductive ShV where
  | int (k : IntKind)
  | bool
  | agg (es : List Sh)
  | slice (sz : Nat) (es : List Sh)

def shV (P : Program) (t : TypeId) : Option ShV :=
  match P.underlying t with
  | some .bool => some .bool
  | some (.int k) => some (.int k)
  | some (.slice _) => match shT P 6 t with
    | some [.slice sz es] => some (.slice sz es)
    | _ => none
  | some (.struct _) => (shT P 6 t).map .agg
  | some (.array _ _) => (shT P 6 t).map .agg
  | _ => none

def fitV : ShV → AV → Prop
  | .int k, a => ∃ n, a = .v (.int k n) ∧ (Lit.int k n).wf = true
  | .bool, a => ∃ b, a = .v (.bool b)
  | .agg es, a => ∃ l, a = .agg l ∧ fitS es l
  | .slice sz es, a => ∃ (n : Nat) (get : Nat → List AV), a = .ro n sz get ∧ n ≤ maxLen ∧ ∀ i, fitS es (get i)

def shVs (P : Program) : List TypeId → Option (List ShV)
  | [] => some []
  | t :: ts => match shV P t, shVs P ts with
    | some s, some r => some (s :: r)
    | _, _ => none
def fitVs : List ShV → List AV → Prop
  | [], l => l = []
  | s :: ss, l => ∃ a r, l = a :: r ∧ fitV s a ∧ fitVs ss r

section
variable {H : Type} {enc : TypeId × Value → H} {P : Program} {w : World} {spare : Nat → Bool} {held : Bool} {base : Nat}

theorem okWide_agg_struct {t : TypeId} {fs : Array Field} {v : Value} (ht : P.underlying t = some (.struct fs)) (h : Value.okWide P w .any base t v) : ∃ cs, v = .agg cs := by
  obtain ⟨cs, h, _⟩ := okWide_struct ht h
  exact ⟨cs, h⟩
theorem trod_agg_array {t e : TypeId} {n : Nat} {v : Value} {x : DataW H} {ps : List MemPlace} (ht : P.underlying t = some (.array n e)) (h : Value.okWide P w .any base t v) : ∃ cs, v = .agg cs := by
  cases v <;> simp [Value.okWide, Value.ok, ht] at h <;> exact ⟨_, rfl⟩

theorem arg_read {t : TypeId} {s : ShV} {v : Value} {x : DataW H} {ps : List MemPlace} (hs : shV P t = some s) (ho : Value.okWide P w .any base t v) (h : DataW.Trod enc P w 0 spare held t v x ps) : ∃ a, fitV s a ∧ R w (.ext (All w)) a v := by
  unfold shV at hs
  split at hs
  · rename_i hu
    cases hs
    obtain ⟨b, rfl⟩ := okWide_bool hu ho
    exact ⟨_, ⟨b, rfl⟩, .v⟩
  · rename_i k hu
    cases hs
    obtain ⟨n, rfl, _, _, hw⟩ := open_int hu ho h
    exact ⟨_, ⟨n, rfl, hw⟩, .v⟩
  · rename_i e hu
    split at hs
    · rename_i sz es he
      cases hs
      obtain ⟨a, len, cap, rfl⟩ := okWide_slice hu ho
      obtain ⟨n, get, h1, h2, h3⟩ := slice_read he h
      exact ⟨_, ⟨n, get, rfl, h1, h2⟩, h3⟩
    · cases hs
  · rename_i fs hu
    obtain ⟨es, he, rfl⟩ := Option.map_eq_some_iff.1 hs
    obtain ⟨cs, rfl⟩ := okWide_agg_struct hu ho
    obtain ⟨l, h1, h2⟩ := agg_read he h
    exact ⟨_, ⟨l, rfl, h1⟩, h2⟩
  · rename_i n e hu
    obtain ⟨es, he, rfl⟩ := Option.map_eq_some_iff.1 hs
    obtain ⟨cs, rfl⟩ := trod_agg_array (x := x) (ps := ps) hu ho
    obtain ⟨l, h1, h2⟩ := agg_read he h
    exact ⟨_, ⟨l, rfl, h1⟩, h2⟩
  · cases hs

theorem args_read : ∀ {ts : List TypeId} {ss : List ShV} {vs : List Value} {ds : List (DataW H)} {ps : List MemPlace}, shVs P ts = some ss → (∀ (j : Nat) t v, ts[j]? = some t → vs[j]? = some v → Value.okWide P w .any base t v) →
    DataW.TrodAll enc P w 0 spare held ts vs ds ps → ∃ l, fitVs ss l ∧ Rs w (.ext (All w)) l vs
  | [], ss, vs, ds, ps, hs, ho, h => by
    simp only [shVs, Option.some.injEq] at hs
    subst hs
    obtain ⟨rfl, rfl, rfl⟩ := trodAll_nil h
    exact ⟨[], rfl, .nil⟩
  | t :: ts, ss, vs, ds, ps, hs, ho, h => by
    simp only [shVs] at hs
    split at hs
    · rename_i s r h1 h2
      cases hs
      obtain ⟨v, vs', d, ds', p, q, rfl, rfl, rfl, h3, h4⟩ := trodAll_cons h
      obtain ⟨a, a1, a2⟩ := arg_read h1 (ho 0 t v rfl rfl) h3
      obtain ⟨l, b1, b2⟩ := args_read h2 (fun j t v hj hv => ho (j + 1) t v (by simpa using hj) (by simpa using hv)) h4
      exact ⟨a :: l, ⟨a, l, rfl, a1, b1⟩, Rs.cons a2 b2⟩
    · cases hs

/-- Types that may be read whole. -/
def readOK (P : Program) (ts : List TypeId) : Bool := ts.all fun t => P.readableRec t && decide (t < P.types.size)

theorem args_stay {W W' : World} (hl : laidOutB P = true) (hb : Below W.heap.size W W') : ∀ {ts : List TypeId} {vs : List Value} {ds : List (DataW H)} {ps : List MemPlace}, readOK P ts = true →
    DataW.TrodAll enc P W 0 (fun _ => true) true ts vs ds ps → ∃ ps, DataW.TrodAll enc P W' 0 (fun b => decide (b < W.heap.size)) true ts vs ds ps
  | [], vs, ds, ps, _, h => by
    obtain ⟨rfl, rfl, rfl⟩ := trodAll_nil h
    exact ⟨[], rfl⟩
  | t :: ts, vs, ds, ps, hr, h => by
    obtain ⟨v, vs', d, ds', p, q, rfl, rfl, rfl, h3, h4⟩ := trodAll_cons h
    simp only [readOK, List.all_cons, Bool.and_eq_true, decide_eq_true_eq] at hr
    obtain ⟨q', h5⟩ := args_stay hl hb (by simpa [readOK] using hr.2) h4
    refine ⟨_, trodAll_cons_mk (Below.trod hl hr.1.1 hr.1.2 h3 hb ?_) h5⟩
    obtain ⟨m, hm⟩ := h3
    exact DataW.trod_lt m _ _ _ hm
end
end Go.Ax
end

section
/-
  Laws about bodies: their arguments.
-/
set_option linter.unusedVariables false
set_option linter.unusedSimpArgs false
set_option maxHeartbeats 4000000
set_option maxRecDepth 100000
namespace Go.Ax
open Go.Proofs
abbrev shB : List Sh := [.int .i64, .int .i64, .int .i64, .int .i64, .slice 2 [.int .i64, .int .i64], .int .i64, .bool, .int .i64, .bool, .int .i64, .bool, .int .i64, .bool, .int .i64, .bool, .int .i64, .bool, .int .i64, .bool, .int .i64, .bool, .int .i64, .bool, .int .i64, .bool, .bool, .int .i64]
theorem row2 {l : List AV} (h : fitS [.int .i64, .int .i64] l) : l = [i64 (gi l 0), i64 (gi l 1)] ∧ inR (gi l 0) ∧ inR (gi l 1) := by
  obtain ⟨_, _, rfl, ⟨x0, rfl, k0⟩, _, _, rfl, ⟨x1, rfl, k1⟩, rfl⟩ := h
  exact ⟨rfl, wf_i64 k0, wf_i64 k1⟩
theorem rowB {l : List AV} (h : fitS shB l) : l = bodyC (bodyD l) ∧ inB (bodyD l) ∧ (bodyD l).n ≤ 9223372036854775807 := by
  obtain ⟨_, _, rfl, ⟨x0, rfl, k0⟩, _, _, rfl, ⟨x1, rfl, k1⟩, _, _, rfl, ⟨x2, rfl, k2⟩, _, _, rfl, ⟨x3, rfl, k3⟩, _, _, rfl, ⟨n, get, rfl, hn, hf⟩, _, _, rfl, ⟨y0, rfl, m0⟩, _, _, rfl, ⟨e0, rfl⟩, _, _, rfl, ⟨y1, rfl, m1⟩, _, _, rfl, ⟨e1, rfl⟩, _, _, rfl, ⟨y2, rfl, m2⟩, _, _, rfl, ⟨e2, rfl⟩, _, _, rfl, ⟨y3, rfl, m3⟩, _, _, rfl, ⟨e3, rfl⟩, _, _, rfl, ⟨y4, rfl, m4⟩, _, _, rfl, ⟨e4, rfl⟩, _, _, rfl, ⟨y5, rfl, m5⟩, _, _, rfl, ⟨e5, rfl⟩, _, _, rfl, ⟨y6, rfl, m6⟩, _, _, rfl, ⟨e6, rfl⟩, _, _, rfl, ⟨y7, rfl, m7⟩, _, _, rfl, ⟨e7, rfl⟩, _, _, rfl, ⟨y8, rfl, m8⟩, _, _, rfl, ⟨e8, rfl⟩, _, _, rfl, ⟨z0, rfl, w0⟩, _, _, rfl, ⟨u0, rfl⟩, _, _, rfl, ⟨u1, rfl⟩, _, _, rfl, ⟨z1, rfl, w1⟩, rfl⟩ := h
  have hg : get = fun i => [i64 (gx get 0 i), i64 (gx get 1 i)] := funext fun i => (row2 (hf i)).1
  refine ⟨?_, ⟨wf_i64 k0, wf_i64 k1, wf_i64 k2, wf_i64 k3, fun j _ => (row2 (hf j)).2, wf_i64 m0, wf_i64 m1, wf_i64 m2, wf_i64 m3, wf_i64 m4, wf_i64 m5, wf_i64 m6, wf_i64 m7, wf_i64 m8, wf_i64 w0, wf_i64 w1⟩, ?_⟩
  rotate_left
  · show n ≤ 9223372036854775807; unfold maxLen at hn; omega
  rw [bodyD_lit]
  show [i64 x0, i64 x1, i64 x2, i64 x3, AV.ro n 2 get, i64 y0, bo e0, i64 y1, bo e1, i64 y2, bo e2, i64 y3, bo e3, i64 y4, bo e4, i64 y5, bo e5, i64 y6, bo e6, i64 y7, bo e7, i64 y8, bo e8, i64 z0, bo u0, bo u1, i64 z1] = [i64 x0, i64 x1, i64 x2, i64 x3, AV.ro n 2 fun i => [i64 (gx get 0 i), i64 (gx get 1 i)], i64 y0, bo e0, i64 y1, bo e1, i64 y2, bo e2, i64 y3, bo e3, i64 y4, bo e4, i64 y5, bo e5, i64 y6, bo e6, i64 y7, bo e7, i64 y8, bo e8, i64 z0, bo u0, bo u1, i64 z1]
  rw [← hg]
end Go.Ax
end

section
/-
  What the rows say of the whole program, word by word.
-/
namespace Go.Ax
open Go.Proofs
theorem andT {a b : Bool} (h : a = true) (k : b = true) : (a && b) = true := by rw [h, k]; rfl
theorem laidOut : laidOutB Tryz.prog = true := by kernel_rfl
theorem fRowed : mapsRowed Tryz.prog = true := by kernel_rfl
theorem fStops : (Tryz.prog.stops == []) = true := by kernel_rfl
theorem fStopK : (Tryz.prog.stopKnobs == []) = true := by kernel_rfl
theorem fPlain : (true == Tryz.prog.plainKeys) = true := by kernel_rfl
theorem fHeard : Tryz.prog.stopsHeard = true := by kernel_rfl
theorem fMay : Tryz.prog.mayEnter = true := by kernel_rfl
theorem fLift : (false == Tryz.prog.liftsFinal) = true := by kernel_rfl
theorem fMake : (Tryz.prog.make == some YtafigekkhpepkaaGreat.Rows.solverMovesRow.make) = true := by kernel_rfl
end Go.Ax
end
