/-
  Sines and turns.
-/
import Derived.Test.YtafigekkhpepkaaGreatCM5
section
set_option linter.unusedVariables false
set_option linter.unusedSimpArgs false
set_option maxHeartbeats 4000000
set_option maxRecDepth 100000
namespace Go.Ax
open Go.Proofs
def c244 : Con
  | [.agg [.v (.int .i64 v), .v (.bool f)]] => some ([inR v], .agg [i64 (snV v f), bo (snF v f)])
  | _ => none
theorem con244 : ConOK Tryz.prog 244 c244 := ConOK.of (G := [(280, c280), (125, k129), (178, k127), (155, k168), (164, k179), (153, kw153), (163, k171)]) (H := [(6, ⟨[(4, .made 2), (5, .made 3)], [(1, [.made 2])]⟩), (11, ⟨[(12, .slot 4)], []⟩), (14, ⟨[(4, .slot 2)], []⟩)]) (.cons con280 (.cons kon129 (.cons kon127 (.cons kon168 (.cons kon179 (.cons konw153 (.cons kon171 .nil))))))) Tryz.func244 fun l ob rr hc hob => by
  unfold c244 at hc
  split at hc
  · rename_i v f
    cases hc
    have h_0 : inR v := hob _ (by simp)
    refine ⟨by kernel_rfl, fnVC_go (rs := [.cell 2 24]) rfl rfl ?_⟩
    simp only [go_sem, c280, k129, k127, k168, k179, kw153, k171, iMul, iDiv, iInt, iAdd, iSub, iRat, iDot, iHyp, iSq, iNeg, iPos, iAbs, iMx, iMn, iCl, iWh, iLoc1, iLoc2, iVAdd1, iVAdd2, iVSub1, iVSub2, iScale1, iScale2, iVDot, iVCross, iLen, iOf1, iOf2, iUnit1, iUnit2, h_0]
    intro z hz z1 hz1
    have hw := wpV_le (v := whV v)
    rw [← hz] at hw
    obtain ⟨y, hy⟩ : ∃ y : Nb, y = snY v f := ⟨_, rfl⟩
    have y2 : z1 = y.2 := by rw [hy]; exact hz1
    have yq : y.1 = qtV z := by rw [hy, hz]; rfl
    have yi : inR y.1 := by rw [yq]; unfold qtV inR; (repeat' split) <;> omega
    have ev : snV v f = max (-4294967296) (min (whV (snS y 8).1) 4294967296) := by rw [hy]; rfl
    have ef : snF v f = whF (snS y 8).1 (snS y 8).2 := by rw [hy]; rfl
    rw [ev, ef]
    clear ev ef hy hz hz1
    refine ⟨fun h z2 hz2 => ?_, fun h => ⟨fun h2 z3 hz3 => ?_, fun h2 => ?_⟩⟩
    · have e : z2 = y.1 := by rw [hz2, wrap_in (by unfold inR; omega), yq]; unfold qtV; rw [if_pos h, if_neg (by omega)]
      subst e
      subst y2
      refine loopC_go (fun (k : Nat) => k ≤ 8) (fun k => 8 - k) (fun k => [(28, i64 (k : Int))]) (fun k => [(18, fam1 24 2 [i64 (snS y k).1, bo (snS y k).2] none), (17, fam1 24 2 [i64 (snT y k).1, bo (snT y k).2] none)]) [4, 1, 0] [29, 30, 6, 31, 32, 33, 7, 34, 35, 36, 37, 38, 39, 40, 41, 42, 43, 44, 45, 46, 47, 48, 49, 28] 0 (by kernel_rfl) ?_ (by omega) ?_ ?_
      · intro x _; simp [goodNames, asg]
      · simp only [go_sem, snT, snS]
      intro k hk
      simp only [go_sem, c280, k129, k127, k168, k179, kw153, k171]
      refine ⟨fun hk8 => ?_, fun hk8 => ?_⟩
      · have n1 : 0 ≤ 2 * ((k : Int) + 1) * (2 * ((k : Int) + 1) + 1) := Int.mul_nonneg (by omega) (by omega)
        have n2 : 2 * ((k : Int) + 1) * (2 * ((k : Int) + 1) + 1) ≤ 16 * 17 := Int.mul_le_mul (by omega) (by omega) (by omega) (by omega)
        have w0 : IntKind.i64.wrap ((k : Int) + 1) = (k : Int) + 1 := wrap_in (by unfold inR; omega)
        have w1 : IntKind.i64.wrap (2 * ((k : Int) + 1)) = 2 * ((k : Int) + 1) := wrap_in (by unfold inR; omega)
        have w2 : IntKind.i64.wrap (2 * ((k : Int) + 1) + 1) = 2 * ((k : Int) + 1) + 1 := wrap_in (by unfold inR; omega)
        have w3 : IntKind.i64.wrap (2 * ((k : Int) + 1) * (2 * ((k : Int) + 1) + 1)) = 2 * ((k : Int) + 1) * (2 * ((k : Int) + 1) + 1) := wrap_in (by unfold inR; omega)
        simp only [forall_eq, w0, w1, w2, w3]
        exact ⟨snT_in yi k, yi, yi, by unfold inR; omega, snS_in yi k, k + 1, by omega, by omega, rfl, ⟨rfl, rfl⟩, rfl, rfl⟩
      · have e8 : k = 8 := by omega
        subst e8
        refine ⟨snS_in yi 8, agg2 (i64_eq ?_) (bo_eq ?_)⟩
        · unfold nCl
          have c1 : whV (nInt (-1)).1 = -4294967296 := by decide
          have c2 : whV (nInt 1).1 = 4294967296 := by decide
          simp only [c1, c2]
        · unfold nCl
          have c1 : whF (nInt (-1)).1 (nInt (-1)).2 = false := by decide
          have c2 : whF (nInt 1).1 (nInt 1).2 = false := by decide
          simp only [c1, c2, Bool.or_false, Bool.false_or]
    · have e : z3 = y.1 := by rw [hz3, wrap_in (by unfold inR; omega), yq]; unfold qtV; rw [if_neg h, if_pos h2]
      subst e
      subst y2
      refine loopC_go (fun (k : Nat) => k ≤ 8) (fun k => 8 - k) (fun k => [(28, i64 (k : Int))]) (fun k => [(22, fam1 24 2 [i64 (snS y k).1, bo (snS y k).2] none), (21, fam1 24 2 [i64 (snT y k).1, bo (snT y k).2] none)]) [4, 1, 0] [29, 30, 6, 31, 32, 33, 7, 34, 35, 36, 37, 38, 39, 40, 41, 42, 43, 44, 45, 46, 47, 48, 49, 28] 0 (by kernel_rfl) ?_ (by omega) ?_ ?_
      · intro x _; simp [goodNames, asg]
      · simp only [go_sem, snT, snS]
      intro k hk
      simp only [go_sem, c280, k129, k127, k168, k179, kw153, k171]
      refine ⟨fun hk8 => ?_, fun hk8 => ?_⟩
      · have n1 : 0 ≤ 2 * ((k : Int) + 1) * (2 * ((k : Int) + 1) + 1) := Int.mul_nonneg (by omega) (by omega)
        have n2 : 2 * ((k : Int) + 1) * (2 * ((k : Int) + 1) + 1) ≤ 16 * 17 := Int.mul_le_mul (by omega) (by omega) (by omega) (by omega)
        have w0 : IntKind.i64.wrap ((k : Int) + 1) = (k : Int) + 1 := wrap_in (by unfold inR; omega)
        have w1 : IntKind.i64.wrap (2 * ((k : Int) + 1)) = 2 * ((k : Int) + 1) := wrap_in (by unfold inR; omega)
        have w2 : IntKind.i64.wrap (2 * ((k : Int) + 1) + 1) = 2 * ((k : Int) + 1) + 1 := wrap_in (by unfold inR; omega)
        have w3 : IntKind.i64.wrap (2 * ((k : Int) + 1) * (2 * ((k : Int) + 1) + 1)) = 2 * ((k : Int) + 1) * (2 * ((k : Int) + 1) + 1) := wrap_in (by unfold inR; omega)
        simp only [forall_eq, w0, w1, w2, w3]
        exact ⟨snT_in yi k, yi, yi, by unfold inR; omega, snS_in yi k, k + 1, by omega, by omega, rfl, ⟨rfl, rfl⟩, rfl, rfl⟩
      · have e8 : k = 8 := by omega
        subst e8
        refine ⟨snS_in yi 8, agg2 (i64_eq ?_) (bo_eq ?_)⟩
        · unfold nCl
          have c1 : whV (nInt (-1)).1 = -4294967296 := by decide
          have c2 : whV (nInt 1).1 = 4294967296 := by decide
          simp only [c1, c2]
        · unfold nCl
          have c1 : whF (nInt (-1)).1 (nInt (-1)).2 = false := by decide
          have c2 : whF (nInt 1).1 (nInt 1).2 = false := by decide
          simp only [c1, c2, Bool.or_false, Bool.false_or]
    · have e : z = y.1 := by rw [yq]; unfold qtV; rw [if_neg h, if_neg h2]
      subst e
      subst y2
      refine loopC_go (fun (k : Nat) => k ≤ 8) (fun k => 8 - k) (fun k => [(28, i64 (k : Int))]) (fun k => [(17, fam1 24 2 [i64 (snS y k).1, bo (snS y k).2] none), (16, fam1 24 2 [i64 (snT y k).1, bo (snT y k).2] none)]) [4, 1, 0] [29, 30, 6, 31, 32, 33, 7, 34, 35, 36, 37, 38, 39, 40, 41, 42, 43, 44, 45, 46, 47, 48, 49, 28] 0 (by kernel_rfl) ?_ (by omega) ?_ ?_
      · intro x _; simp [goodNames, asg]
      · simp only [go_sem, snT, snS]
      intro k hk
      simp only [go_sem, c280, k129, k127, k168, k179, kw153, k171]
      refine ⟨fun hk8 => ?_, fun hk8 => ?_⟩
      · have n1 : 0 ≤ 2 * ((k : Int) + 1) * (2 * ((k : Int) + 1) + 1) := Int.mul_nonneg (by omega) (by omega)
        have n2 : 2 * ((k : Int) + 1) * (2 * ((k : Int) + 1) + 1) ≤ 16 * 17 := Int.mul_le_mul (by omega) (by omega) (by omega) (by omega)
        have w0 : IntKind.i64.wrap ((k : Int) + 1) = (k : Int) + 1 := wrap_in (by unfold inR; omega)
        have w1 : IntKind.i64.wrap (2 * ((k : Int) + 1)) = 2 * ((k : Int) + 1) := wrap_in (by unfold inR; omega)
        have w2 : IntKind.i64.wrap (2 * ((k : Int) + 1) + 1) = 2 * ((k : Int) + 1) + 1 := wrap_in (by unfold inR; omega)
        have w3 : IntKind.i64.wrap (2 * ((k : Int) + 1) * (2 * ((k : Int) + 1) + 1)) = 2 * ((k : Int) + 1) * (2 * ((k : Int) + 1) + 1) := wrap_in (by unfold inR; omega)
        simp only [forall_eq, w0, w1, w2, w3]
        exact ⟨snT_in yi k, yi, yi, by unfold inR; omega, snS_in yi k, k + 1, by omega, by omega, rfl, ⟨rfl, rfl⟩, rfl, rfl⟩
      · have e8 : k = 8 := by omega
        subst e8
        refine ⟨snS_in yi 8, agg2 (i64_eq ?_) (bo_eq ?_)⟩
        · unfold nCl
          have c1 : whV (nInt (-1)).1 = -4294967296 := by decide
          have c2 : whV (nInt 1).1 = 4294967296 := by decide
          simp only [c1, c2]
        · unfold nCl
          have c1 : whF (nInt (-1)).1 (nInt (-1)).2 = false := by decide
          have c2 : whF (nInt 1).1 (nInt 1).2 = false := by decide
          simp only [c1, c2, Bool.or_false, Bool.false_or]
  · cases hc
def c243 : Con
  | [.agg [.v (.int .i64 v), .v (.bool f)]] => some ([inR v], .agg [i64 (csV v f), bo (csF v f)])
  | _ => none
theorem con243 : ConOK Tryz.prog 243 c243 := ConOK.of (G := [(280, c280), (281, c281), (153, kw153), (244, c244)]) (H := []) (.cons con280 (.cons con281 (.cons konw153 (.cons con244 .nil)))) Tryz.func243 fun l ob rr hc hob => by
  unfold c243 at hc
  split at hc
  · rename_i v f
    cases hc
    have h_0 : inR v := hob _ (by simp)
    refine ⟨by kernel_rfl, fnVC_go (rs := [.cell 2 24]) rfl rfl ?_⟩
    simp only [go_sem, c280, c281, kw153, c244, iMul, iDiv, iInt, iAdd, iSub, iRat, iDot, iHyp, iSq, iNeg, iPos, iAbs, iMx, iMn, iCl, iWh, iLoc1, iLoc2, iVAdd1, iVAdd2, iVSub1, iVSub2, iScale1, iScale2, iVDot, iVCross, iLen, iOf1, iOf2, iUnit1, iUnit2, h_0]
    have c1 : whV 6746518852 = 6746518852 := by decide
    have c2 : whF 6746518852 false = false := by decide
    have hw := wpV_le (v := whV v)
    simp only [forall_eq, c1, c2]
    exact ⟨by unfold inR; omega, by unfold inR; omega, by unfold inR; omega, by first | trivial | rfl⟩
  · cases hc
def kq186 : Con
  | [.agg [.v (.int .i64 v), .v (.bool f)]] => some ([inR v], veA ((csV v f, csF v f), (snV v f, snF v f)))
  | _ => none
theorem konq186 : ConOK Tryz.prog 186 kq186 := ConOK.of (G := [(243, c243), (244, c244)]) (H := [(1, ⟨[(5, .slot 2)], []⟩)]) (.cons con243 (.cons con244 .nil)) Tryz.func186 fun l ob rr hc hob => by
  unfold kq186 at hc
  split at hc
  · rename_i v f
    cases hc
    have h_0 : inR v := hob _ (by simp)
    refine ⟨by kernel_rfl, fnVC_go (rs := [.cell 2 51]) rfl rfl ?_⟩
    simp only [go_sem, c243, c244, iMul, iDiv, iInt, iAdd, iSub, iRat, iDot, iHyp, iSq, iNeg, iPos, iAbs, iMx, iMn, iCl, iWh, iLoc1, iLoc2, iVAdd1, iVAdd2, iVSub1, iVSub2, iScale1, iScale2, iVDot, iVCross, iLen, iOf1, iOf2, iUnit1, iUnit2, h_0]
    simp only [forall_eq]
    rfl
  · cases hc
def vCom (r s : V2) : V2 := if (nHyp (nDot r.1 s.1 (nNeg r.2) s.2) (nDot r.2 s.1 r.1 s.2)).1 = 0 then (nDot r.1 s.1 (nNeg r.2) s.2, nDot r.2 s.1 r.1 s.2) else (nDiv (nDot r.1 s.1 (nNeg r.2) s.2) (nHyp (nDot r.1 s.1 (nNeg r.2) s.2) (nDot r.2 s.1 r.1 s.2)), nDiv (nDot r.2 s.1 r.1 s.2) (nHyp (nDot r.1 s.1 (nNeg r.2) s.2) (nDot r.2 s.1 r.1 s.2)))
def kq185 : Con
  | [.agg [.v (.int .i64 x), .v (.bool e), .v (.int .i64 y), .v (.bool f)], .agg [.v (.int .i64 z), .v (.bool g), .v (.int .i64 u), .v (.bool h)]] => some ([inR x, inR y, inR z, inR u], veA (vCom ((x, e), (y, f)) ((z, g), (u, h))))
  | _ => none
theorem konq185 : ConOK Tryz.prog 185 kq185 := ConOK.of (G := [(164, k179), (238, k125), (242, k213), (155, k168)]) (H := [(1, ⟨[(21, .made 20)], []⟩), (4, ⟨[(9, .slot 5), (11, .slot 5)], []⟩)]) (.cons kon179 (.cons kon125 (.cons kon213 (.cons kon168 .nil)))) Tryz.func185 fun l ob rr hc hob => by
  unfold kq185 at hc
  split at hc
  · rename_i x e y f z g u h
    cases hc
    have h_0 : inR x := hob _ (by simp)
    have h_1 : inR y := hob _ (by simp)
    have h_2 : inR z := hob _ (by simp)
    have h_3 : inR u := hob _ (by simp)
    refine ⟨by kernel_rfl, fnVC_go (rs := [.cell 4 51]) rfl rfl ?_⟩
    simp only [go_sem, k179, k125, k213, k168, iMul, iDiv, iInt, iAdd, iSub, iRat, iDot, iHyp, iSq, iNeg, iPos, iAbs, iMx, iMn, iCl, iWh, iLoc1, iLoc2, iVAdd1, iVAdd2, iVSub1, iVSub2, iScale1, iScale2, iVDot, iVCross, iLen, iOf1, iOf2, iUnit1, iUnit2, h_0, h_1, h_2, h_3]
    refine ⟨fun h => ?_, fun h => ?_⟩
    · unfold vCom; rw [if_neg (by simpa using h)]; rfl
    · unfold vCom; rw [if_pos (by simpa using h)]; rfl
  · cases hc
def spiS (r : V2) (w : Nb) : V2 := vCom ((csV w.1 w.2, csF w.1 w.2), (snV w.1 w.2, snF w.1 w.2)) r
def kq126 : Con
  | [.agg [.v (.int .i64 x), .v (.bool e), .v (.int .i64 y), .v (.bool f)], .agg [.v (.int .i64 z), .v (.bool g)]] => some ([inR x, inR y, inR z], veA (spiS ((x, e), (y, f)) (z, g)))
  | _ => none
theorem konq126 : ConOK Tryz.prog 126 kq126 := ConOK.of (G := [(186, kq186), (185, kq185)]) (H := [(1, ⟨[(4, .slot 4)], []⟩)]) (.cons konq186 (.cons konq185 .nil)) Tryz.func126 fun l ob rr hc hob => by
  unfold kq126 at hc
  split at hc
  · rename_i x e y f z g
    cases hc
    have h_0 : inR x := hob _ (by simp)
    have h_1 : inR y := hob _ (by simp)
    have h_2 : inR z := hob _ (by simp)
    refine ⟨by kernel_rfl, fnVC_go (rs := [.cell 4 51]) rfl rfl ?_⟩
    simp only [go_sem, kq186, kq185, iMul, iDiv, iInt, iAdd, iSub, iRat, iDot, iHyp, iSq, iNeg, iPos, iAbs, iMx, iMn, iCl, iWh, iLoc1, iLoc2, iVAdd1, iVAdd2, iVSub1, iVSub2, iScale1, iScale2, iVDot, iVCross, iLen, iOf1, iOf2, iUnit1, iUnit2, h_0, h_1, h_2]
    exact ⟨rg_inR snV_rg, rg_inR snV_rg, rfl⟩
  · cases hc
end Go.Ax
end

section
/-
  Bodies: what is given an impulse, a force, a time, a rest, and woken.
-/
set_option linter.unusedVariables false
set_option linter.unusedSimpArgs false
set_option maxHeartbeats 4000000
set_option maxRecDepth 100000
namespace Go.Ax
open Go.Proofs
/-- A copy of a body to work on. -/
def onF : List AV → Option (List Prop × List AV)
  | [.agg l] => some ([l = bodyC (bodyD l), inB (bodyD l), (bodyD l).n ≤ 1000], bodyC (bodyD l))
  | _ => none
def mNon : MCon := mcN 155 onF
theorem mNon_eq {key : Nat} {m : Mem} {l : List AV} : mNon key m [.agg l] = some ⟨[l = bodyC (bodyD l), inB (bodyD l), (bodyD l).n ≤ 1000], .bx key 0, .many [] (some (fam1 155 27 (bodyC (bodyD l)) none))⟩ := (rfl)
theorem con114m : MConOK Tryz.prog 114 mNon := MConOK.mcN (G := [(173, kb173)]) (H := []) (.cons konb173 .nil) Tryz.func114 fun es ob cs hF hob => by
  unfold onF at hF
  split at hF
  · rename_i l
    cases hF
    have e : l = bodyC (bodyD l) := hob _ (by simp)
    have h : inB (bodyD l) := hob _ (by simp)
    have hn : (bodyD l).n ≤ 1000 := hob _ (by simp)
    generalize bodyD l = b at *
    subst e
    refine ⟨by simp [clean_body], by simp [bodyC, cleanCs, cleanC], by kernel_rfl, bodyM_go (rs := [.tmp 2]) rfl rfl ?_⟩
    obtain ⟨b1, b2, b3, b4, b5, b6, b7, b8, b9, b10, b11, b12, b13, b14, b15, b16⟩ := id h
    simp only [bodyC, go_sem, kb173, cB_eq, bodyD_lit, gx_pts0, gx_pts1, etaN, etaV, bd_eta, h, hn]
    simp only [forall_eq]
    exact ⟨5, rfl, if_pos rfl⟩
  · cases hF
def goS (b : Bd) (t : Nb) : Bd := if idS b then b else
  if (withS (vAdd b.pl (vScale b.v t)).1 4096 && withS (vAdd b.pl (vScale b.v t)).2 4096) then
    (if (nMul b.w t).1 = 0 then { b with pl := vAdd b.pl (vScale b.v t) } else { b with pl := vAdd b.pl (vScale b.v t), rot := spiS b.rot (nMul b.w t) })
  else { rstS b with fa := true, st := 0 }
def kb37 : Con := cB fun b rest => match rest with
  | [.agg [.v (.int .i64 x), .v (.bool e), .v (.int .i64 y), .v (.bool f)], .agg [.v (.int .i64 z), .v (.bool g), .v (.int .i64 u), .v (.bool h)]] => some ([inB b, b.n ≤ 1000, inR x, inR y, inR z, inR u], boA (pshS b ((x, e), (y, f)) ((z, g), (u, h))))
  | _ => none
theorem konb37 : ConOK Tryz.prog 37 kb37 := ConOK.cB (G := [(114, .wr mNon), (115, .wr kw115)]) (H := []) (.mcons con114m (.mcons konw115 .nil)) Tryz.func37 fun b rest ob r hc hob => by
  split at hc
  · rename_i x e y f z g u h
    cases hc
    have h_0 : inB b := hob _ (by simp)
    have h_1 : b.n ≤ 1000 := hob _ (by simp)
    have h_2 : inR x := hob _ (by simp)
    have h_3 : inR y := hob _ (by simp)
    have h_4 : inR z := hob _ (by simp)
    have h_5 : inR u := hob _ (by simp)
    obtain ⟨b1, b2, b3, b4, b5, b6, b7, b8, b9, b10, b11, b12, b13, b14, b15, b16⟩ := h_0
    have hb : inB b := hob _ (by simp)
    refine ⟨by kernel_rfl, fnVC_go (rs := [.cell 6 57]) rfl rfl ?_⟩
    simp only [bodyC, go_sem, kw115, cB_eq, cBR_eq, bodyD_lit, gx_pts0, gx_pts1, spots_can, etaN, etaV, bd_eta, b1, b2, b3, b4, b6, b7, b8, b9, b10, b11, b12, b13, b14, b15, b16, hb, h_1, h_2, h_3, h_4, h_5, mNon_eq, mB_bx, mbB_some, stepC_mbQ]
    intro c hc0
    rw [← hc0]; rfl
  · cases hc
def kb41 : Con := cB fun b rest => match rest with
  | [.agg [.v (.int .i64 z), .v (.bool g)]] => some ([inB b, b.n ≤ 1000, inR z], boA (goS b (z, g)))
  | _ => none
theorem konb41 : ConOK Tryz.prog 41 kb41 := ConOK.cB (G := [(114, .wr mNon), (67, kw67), (122, k169), (121, k130), (123, kw123), (124, .wr kw124), (125, k129), (126, kq126)]) (H := [(4, ⟨[(10, .made 9)], []⟩)]) (.mcons con114m (.cons konw67 (.cons kon169 (.cons kon130 (.cons konw123 (.mcons konw124 (.cons kon129 (.cons konq126 .nil)))))))) Tryz.func41 fun b rest ob r hc hob => by
  split at hc
  · rename_i z g
    cases hc
    have h_0 : inB b := hob _ (by simp)
    have h_1 : b.n ≤ 1000 := hob _ (by simp)
    have h_2 : inR z := hob _ (by simp)
    obtain ⟨b1, b2, b3, b4, b5, b6, b7, b8, b9, b10, b11, b12, b13, b14, b15, b16⟩ := h_0
    have hb : inB b := hob _ (by simp)
    refine ⟨by kernel_rfl, fnVC_go (rs := [.cell 4 57]) rfl rfl ?_⟩
    simp only [bodyC, go_sem, kw67, k169, k130, kw123, kw124, k129, kq126, cB_eq, cBR_eq, bodyD_lit, gx_pts0, gx_pts1, spots_can, etaN, etaV, bd_eta, b1, b2, b3, b4, b6, b7, b8, b9, b10, b11, b12, b13, b14, b15, b16, hb, h_1, h_2, mNon_eq, mB_bx, mbB_some, stepC_mbQ]
    simp only [forall_eq]
    refine ⟨fun h1 => ?_, fun h1 => ⟨fun h2 => ?_, fun h2 => ⟨fun h3 => ?_, fun h3 => ?_⟩⟩⟩
    · unfold goS; rw [if_pos h1]; rfl
    · unfold goS; rw [if_neg (by simp [h1]), if_neg (by rw [h2]; simp)]; rfl
    · unfold goS; rw [if_neg (by simp [h1]), if_pos h2, if_neg (by simpa using h3)]; rfl
    · unfold goS; rw [if_neg (by simp [h1]), if_pos h2, if_pos (by simpa using h3)]; rfl
  · cases hc
theorem nums3_rows {a b c : Int} {e f g : Bool} : nums 3 (rowsOf 2 [i64 a, bo e, i64 b, bo f, i64 c, bo g]) = (inR a ∧ inR b ∧ inR c) := by
  apply propext
  constructor
  · intro h; exact ⟨(h 0 (by omega)).2, (h 1 (by omega)).2, (h 2 (by omega)).2⟩
  · rintro ⟨h1, h2, h3⟩ i hi
    match i with
    | 0 => exact ⟨rfl, h1⟩
    | 1 => exact ⟨rfl, h2⟩
    | 2 => exact ⟨rfl, h3⟩
    | j + 3 => omega
def kMx3 : Con
  | [.ro 3 2 g] => some ([nums 3 g], nbA (moV (-1) 3 g, wfS 3 g))
  | _ => none
theorem konX129 : ConOK Tryz.prog 129 kMx3 := fun l ob r he hob => by
  unfold kMx3 at he
  split at he
  · rename_i g
    cases he
    exact con129 [.ro 3 2 g] _ _ rfl (owe2 (hob _ (by simp)) (by omega))
  · cases he
def fstS (b : Bd) : Int := moV (-1) 3 (rowsOf 2 [i64 (nAbs b.v.1).1, bo (nAbs b.v.1).2, i64 (nAbs b.v.2).1, bo (nAbs b.v.2).2, i64 (nAbs b.w).1, bo (nAbs b.w).2])
def resS (b : Bd) : Bd := if idS b then b else if 0 < cmpS (whV (fstS b)) (whV (nRat 1 16).1) then { b with st := 0 } else if min b.st 29 + 1 = 30 then { rstS b with st := 30 } else { b with st := min b.st 29 + 1 }
def kb43 : Con := cB fun b rest => match rest with
  | [] => some ([inB b, b.n ≤ 1000], boA (resS b))
  | _ => none
theorem konb43 : ConOK Tryz.prog 43 kb43 := ConOK.cB (G := [(114, .wr mNon), (67, kw67), (130, k126), (129, kMx3), (132, k132), (131, c131), (124, .wr kw124)]) (H := [(4, ⟨[(14, .made 13)], []⟩)]) (.mcons con114m (.cons konw67 (.cons kon126 (.cons konX129 (.cons kon132 (.cons con131 (.mcons konw124 .nil))))))) Tryz.func43 fun b rest ob r hc hob => by
  split at hc
  · skip
    cases hc
    have h_0 : inB b := hob _ (by simp)
    have h_1 : b.n ≤ 1000 := hob _ (by simp)
    obtain ⟨b1, b2, b3, b4, b5, b6, b7, b8, b9, b10, b11, b12, b13, b14, b15, b16⟩ := h_0
    have hb : inB b := hob _ (by simp)
    refine ⟨by kernel_rfl, fnVC_go (rs := [.cell 2 57]) rfl rfl ?_⟩
    simp only [bodyC, go_sem, kw67, k126, kMx3, k132, c131, kw124, cB_eq, cBR_eq, bodyD_lit, gx_pts0, gx_pts1, spots_can, etaN, etaV, bd_eta, b1, b2, b3, b4, b6, b7, b8, b9, b10, b11, b12, b13, b14, b15, b16, hb, h_1, mNon_eq, mB_bx, mbB_some, stepC_mbQ]
    simp only [forall_eq]
    have hw : IntKind.i64.wrap (min b.st 29 + 1) = min b.st 29 + 1 := wrap_in (by unfold inR at *; omega)
    refine ⟨fun h1 => ?_, fun h1 => ⟨?_, by unfold inR; omega, fun h2 => ?_, fun h2 => ⟨fun h3 => ?_, fun h3 => ?_⟩⟩⟩
    · unfold resS; rw [if_pos h1]; rfl
    · exact of_eq_true (nums3_rows.trans (eq_true ⟨of_eq_true (iAbs b10), of_eq_true (iAbs b11), of_eq_true (iAbs b12)⟩))
    · have h2 : 0 < cmpS (whV (fstS b)) (whV (nRat 1 16).1) := h2
      have e1 : resS b = { b with st := 0 } := by unfold resS; rw [if_neg (by simp [h1]), if_pos h2]
      rw [e1]; rfl
    · rw [hw] at h3
      have h3 : min b.st 29 + 1 = 30 := by simpa using h3
      have h2 : ¬ 0 < cmpS (whV (fstS b)) (whV (nRat 1 16).1) := h2
      have e1 : resS b = { rstS b with st := 30 } := by unfold resS; rw [if_neg (by simp [h1]), if_neg h2, if_pos (by omega)]
      have e2 : min b.st 29 + 1 = 30 := by omega
      rw [e1, hw, e2]; rfl
    · rw [hw] at h3
      have h3 : ¬ min b.st 29 + 1 = 30 := by simpa using h3
      have h2 : ¬ 0 < cmpS (whV (fstS b)) (whV (nRat 1 16).1) := h2
      have e1 : resS b = { b with st := min b.st 29 + 1 } := by unfold resS; rw [if_neg (by simp [h1]), if_neg h2, if_neg (by omega)]
      rw [e1, hw]; rfl
  · cases hc
end Go.Ax
end

section
/-
  Bodies that are the same; the examples that all statements ask.
-/
set_option linter.unusedVariables false
set_option linter.unusedSimpArgs false
set_option maxHeartbeats 4000000
set_option maxRecDepth 100000
namespace Go.Ax
open Go.Proofs
theorem aEq24 {a0 b0 : Int} {a1 b1 : Bool} : aEq Tryz.prog 24 (.agg [i64 a0, bo a1]) (.agg [i64 b0, bo b1]) = some ((a0 == b0) && ((a1 == b1) && true)) := by kernel_rfl
theorem eq24 {xo yo : Operand} {neg : Bool} {a0 b0 : Int} {a1 b1 : Bool} : eqE Tryz.prog neg 24 xo yo (.agg [i64 a0, bo a1]) (.agg [i64 b0, bo b1]) = some ⟨[], .v (.bool (negV neg ((a0 == b0) && ((a1 == b1) && true)))), .none⟩ := eqE_agg aEq24
attribute [go_sem] eq24
theorem aEq26 {a0 b0 : Int} {a1 b1 : Bool} {a2 b2 : Int} {a3 b3 : Bool} : aEq Tryz.prog 26 (.agg [i64 a0, bo a1, i64 a2, bo a3]) (.agg [i64 b0, bo b1, i64 b2, bo b3]) = some (((a0 == b0) && ((a1 == b1) && true)) && (((a2 == b2) && ((a3 == b3) && true)) && true)) := by kernel_rfl
theorem eq26 {xo yo : Operand} {neg : Bool} {a0 b0 : Int} {a1 b1 : Bool} {a2 b2 : Int} {a3 b3 : Bool} : eqE Tryz.prog neg 26 xo yo (.agg [i64 a0, bo a1, i64 a2, bo a3]) (.agg [i64 b0, bo b1, i64 b2, bo b3]) = some ⟨[], .v (.bool (negV neg (((a0 == b0) && ((a1 == b1) && true)) && (((a2 == b2) && ((a3 == b3) && true)) && true)))), .none⟩ := eqE_agg aEq26
attribute [go_sem] eq26
theorem aEq53 {a0 b0 : Int} {a1 b1 : Bool} {a2 b2 : Int} {a3 b3 : Bool} {a4 b4 : Int} {a5 b5 : Bool} {a6 b6 : Int} {a7 b7 : Bool} : aEq Tryz.prog 53 (.agg [i64 a0, bo a1, i64 a2, bo a3, i64 a4, bo a5, i64 a6, bo a7]) (.agg [i64 b0, bo b1, i64 b2, bo b3, i64 b4, bo b5, i64 b6, bo b7]) = some ((((a0 == b0) && ((a1 == b1) && true)) && (((a2 == b2) && ((a3 == b3) && true)) && true)) && ((((a4 == b4) && ((a5 == b5) && true)) && (((a6 == b6) && ((a7 == b7) && true)) && true)) && true)) := by kernel_rfl
theorem eq53 {xo yo : Operand} {neg : Bool} {a0 b0 : Int} {a1 b1 : Bool} {a2 b2 : Int} {a3 b3 : Bool} {a4 b4 : Int} {a5 b5 : Bool} {a6 b6 : Int} {a7 b7 : Bool} : eqE Tryz.prog neg 53 xo yo (.agg [i64 a0, bo a1, i64 a2, bo a3, i64 a4, bo a5, i64 a6, bo a7]) (.agg [i64 b0, bo b1, i64 b2, bo b3, i64 b4, bo b5, i64 b6, bo b7]) = some ⟨[], .v (.bool (negV neg ((((a0 == b0) && ((a1 == b1) && true)) && (((a2 == b2) && ((a3 == b3) && true)) && true)) && ((((a4 == b4) && ((a5 == b5) && true)) && (((a6 == b6) && ((a7 == b7) && true)) && true)) && true)))), .none⟩ := eqE_agg aEq53
attribute [go_sem] eq53
theorem aEq55 {a0 b0 : Int} {a1 b1 : Bool} {a2 b2 : Int} {a3 b3 : Bool} : aEq Tryz.prog 55 (.agg [i64 a0, bo a1, i64 a2, bo a3]) (.agg [i64 b0, bo b1, i64 b2, bo b3]) = some (((a0 == b0) && ((a1 == b1) && true)) && (((a2 == b2) && ((a3 == b3) && true)) && true)) := by kernel_rfl
theorem eq55 {xo yo : Operand} {neg : Bool} {a0 b0 : Int} {a1 b1 : Bool} {a2 b2 : Int} {a3 b3 : Bool} : eqE Tryz.prog neg 55 xo yo (.agg [i64 a0, bo a1, i64 a2, bo a3]) (.agg [i64 b0, bo b1, i64 b2, bo b3]) = some ⟨[], .v (.bool (negV neg (((a0 == b0) && ((a1 == b1) && true)) && (((a2 == b2) && ((a3 == b3) && true)) && true)))), .none⟩ := eqE_agg aEq55
attribute [go_sem] eq55
theorem aEq69 {a0 b0 : Int} {a1 b1 : Bool} {a2 b2 : Int} {a3 b3 : Bool} {a4 b4 : Int} {a5 b5 : Bool} : aEq Tryz.prog 69 (.agg [i64 a0, bo a1, i64 a2, bo a3, i64 a4, bo a5]) (.agg [i64 b0, bo b1, i64 b2, bo b3, i64 b4, bo b5]) = some ((((a0 == b0) && ((a1 == b1) && true)) && (((a2 == b2) && ((a3 == b3) && true)) && true)) && (((a4 == b4) && ((a5 == b5) && true)) && true)) := by kernel_rfl
theorem eq69 {xo yo : Operand} {neg : Bool} {a0 b0 : Int} {a1 b1 : Bool} {a2 b2 : Int} {a3 b3 : Bool} {a4 b4 : Int} {a5 b5 : Bool} : eqE Tryz.prog neg 69 xo yo (.agg [i64 a0, bo a1, i64 a2, bo a3, i64 a4, bo a5]) (.agg [i64 b0, bo b1, i64 b2, bo b3, i64 b4, bo b5]) = some ⟨[], .v (.bool (negV neg ((((a0 == b0) && ((a1 == b1) && true)) && (((a2 == b2) && ((a3 == b3) && true)) && true)) && (((a4 == b4) && ((a5 == b5) && true)) && true)))), .none⟩ := eqE_agg aEq69
attribute [go_sem] eq69
theorem aEq30 {a0 b0 : Int} {a1 b1 : Bool} {a2 b2 : Int} {a3 b3 : Bool} : aEq Tryz.prog 30 (.agg [i64 a0, bo a1, i64 a2, bo a3]) (.agg [i64 b0, bo b1, i64 b2, bo b3]) = some (((a0 == b0) && ((a1 == b1) && true)) && (((a2 == b2) && ((a3 == b3) && true)) && true)) := by kernel_rfl
theorem eq30 {xo yo : Operand} {neg : Bool} {a0 b0 : Int} {a1 b1 : Bool} {a2 b2 : Int} {a3 b3 : Bool} : eqE Tryz.prog neg 30 xo yo (.agg [i64 a0, bo a1, i64 a2, bo a3]) (.agg [i64 b0, bo b1, i64 b2, bo b3]) = some ⟨[], .v (.bool (negV neg (((a0 == b0) && ((a1 == b1) && true)) && (((a2 == b2) && ((a3 == b3) && true)) && true)))), .none⟩ := eqE_agg aEq30
attribute [go_sem] eq30
def cjS (n : Int) (k a b : Int) (p q : V2) (l : Nb) : Int :=
  if k ≠ 1 ∧ k ≠ 2 ∧ k ≠ 3 then 8 else
  if (a < 0 ∨ n ≤ a) ∨ (k ≠ 1 ∧ (b < 0 ∨ n ≤ b ∨ a = b)) then 3 else
  if (withS p.1 32 && withS p.2 32) = false ∨ (if k = 1 then (withS q.1 4096 && withS q.2 4096) = false else (withS q.1 32 && withS q.2 32) = false) then 3 else
  if k = 2 ∧ (withS l 8192 = false ∨ l.1 < 0) then 3 else
  if (k = 1 ∧ b ≠ 0) ∨ (k ≠ 2 ∧ ¬ (l.1 = 0 ∧ l.2 = false)) then 4 else 0
def kj51 : Con
  | [.v (.int .i64 n), .agg [.v (.int .i64 k), .v (.int .i64 a), .v (.int .i64 b), .v (.int .i64 x), .v (.bool e), .v (.int .i64 y), .v (.bool f), .v (.int .i64 z), .v (.bool g), .v (.int .i64 u), .v (.bool h), .v (.int .i64 l), .v (.bool m)]] => some ([inR n, inR x, inR y, inR z, inR u, inR l], i64 (cjS n k a b ((x, e), (y, f)) ((z, g), (u, h)) (l, m)))
  | _ => none
theorem konj51 : ConOK Tryz.prog 51 kj51 := ConOK.of (G := [(123, kw123)]) (H := []) (.cons konw123 .nil) Tryz.func51 fun l ob rr hc hob => by
  unfold kj51 at hc
  split at hc
  · rename_i n k a b x e y f z g u h l m
    cases hc
    have h_0 : inR n := hob _ (by simp)
    have h_1 : inR x := hob _ (by simp)
    have h_2 : inR y := hob _ (by simp)
    have h_3 : inR z := hob _ (by simp)
    have h_4 : inR u := hob _ (by simp)
    have h_5 : inR l := hob _ (by simp)
    refine ⟨by kernel_rfl, fnVC_go (rs := [.tmp 4]) rfl rfl ?_⟩
    simp only [go_sem, kw123, iMul, iDiv, iInt, iAdd, iSub, iRat, iDot, iHyp, iSq, iNeg, iPos, iAbs, iMx, iMn, iCl, iWh, iLoc1, iLoc2, iVAdd1, iVAdd2, iVSub1, iVSub2, iScale1, iScale2, iVDot, iVCross, iLen, iOf1, iOf2, iUnit1, iUnit2, h_0, h_1, h_2, h_3, h_4, h_5]
    unfold cjS
    simp only [forall_eq]
    generalize (withS (x, e) 32 && withS (y, f) 32) = w1
    generalize (withS (z, g) 4096 && withS (u, h) 4096) = w3
    generalize (withS (z, g) 32 && withS (u, h) 32) = w5
    generalize withS (l, m) 8192 = w7
    clear hob h_0 h_1 h_2 h_3 h_4 h_5
    repeat' (first | intro _ | apply And.intro)
    all_goals grind
  · cases hc
end Go.Ax
end

section
/-
  The examples that all statements ask; the frames of the laws about one body.
-/
set_option linter.unusedVariables false
set_option linter.unusedSimpArgs false
set_option maxHeartbeats 4000000
set_option maxRecDepth 100000
namespace Go.Ax
open Go.Proofs
section
variable {P : Program} {G : Ctx} {H : Hots} {K0 : AEx → St → Prop} {hot : Option Hot} {ops : Array Oper} {d : Option Tmp} {rest : List Oper} {i : Nat} {st : List Fr} {t : Slots} {m : Mem} {nx : Nat} {o : List Prop} {u : Upd} {b : Bd} {c : Bool}
theorem bindC_cboA : bindC P G H K0 hot ops d rest i st t m nx o u (condV c (bnd (boA b))) = (∀ b', b' = b → bindC P G H K0 hot ops d rest i st t m nx o u (condV c (.agg (bodyC b')))) := by
  apply propext
  constructor
  · rintro h b' rfl; exact h
  · intro h; exact h b rfl
end
attribute [go_sem] bindC_cboA

def rndB (x : Int) (m i : Nb) : Bd := ⟨1, 256, 0, 0, 0, fun _ => 0, fun _ => 0, ((x, false), (0, false)), ((4294967296, false), (0, false)), ((0, false), (0, false)), (0, false), m, i, 0, false, false, 1⟩
theorem alk_body0 {l1 : List AV} {X Y : Nat → Int} {c0 c1 c2 c3 : AV} : alk (.agg (c0 :: c1 :: c2 :: c3 :: ptsA 0 X Y :: l1)) (.agg (c0 :: c1 :: c2 :: c3 :: .v (.slice none 0 0) :: l1)) := fun w ρ v hR => by
  cases hR with
  | agg hl hh =>
    refine .agg hl fun j x y h3 h4 => ?_
    match j with
    | 4 =>
      simp at h3; subst h3
      exact alk_nil _ _ _ (hh 4 _ y rfl h4)
    | 0 => exact hh 0 x y h3 h4
    | 1 => exact hh 1 x y h3 h4
    | 2 => exact hh 2 x y h3 h4
    | 3 => exact hh 3 x y h3 h4
    | j + 5 => exact hh (j + 5) x y h3 h4
def kw72 : Con
  | [.v (.int .i64 x), .agg [.v (.int .i64 m), .v (.bool e), .v (.int .i64 i), .v (.bool f)]] => some ([], boA (rndB x (m, e) (i, f)))
  | _ => none
theorem konw72 : ConOK Tryz.prog 72 kw72 := ConOK.goR (G := [(55, kw55)]) (H := [(1, ⟨[(9, .slot 4)], []⟩)]) (.cons konw55 .nil) Tryz.func72 fun l ob rr hc hob => by
  unfold kw72 at hc
  split at hc
  · rename_i x m e i f
    cases hc
    refine ⟨_, fun w I vs h => h, by kernel_rfl, fnVC_go (rs := [.cell 4 57]) rfl rfl ?_⟩
    simp only [go_sem, kw55, forall_eq]
    exact alk_body0
  · cases hc
def c15 : Con
  | [] => some ([], bo true)
  | _ => none
theorem con15 : ConOK Tryz.prog 15 c15 := ConOK.of (G := [(55, kw55), (72, kw72), (37, kb37), (51, kj51)]) (H := []) (.cons konw55 (.cons konw72 (.cons konb37 (.cons konj51 .nil)))) Tryz.func15 fun l ob rr hc hob => by
  unfold c15 at hc
  split at hc
  · skip
    cases hc
    refine ⟨by kernel_rfl, fnVC_go (rs := [.tmp 0]) rfl rfl ?_⟩
    simp only [go_sem, kw55, kw72, kb37, kj51, iMul, iDiv, iInt, iAdd, iSub, iRat, iDot, iHyp, iSq, iNeg, iPos, iAbs, iMx, iMn, iCl, iWh, iLoc1, iLoc2, iVAdd1, iVAdd2, iVSub1, iVSub2, iScale1, iScale2, iVDot, iVCross, iLen, iOf1, iOf2, iUnit1, iUnit2, bodyC, cB_eq, cBR_eq, bodyD_lit, gx_pts0, gx_pts1, spots_can, etaN, etaV, bd_eta]
    simp only [forall_eq]
    have e1 : (pshS (rndB 0 (4294967296, false) (4294967296, false)) ((0, false), 4294967296, false) ((4294967296, false), 0, false)).v = ((4294967296, false), (0, false)) := by kernel_rfl
    have e2 : (pshS (rndB 0 (4294967296, false) (4294967296, false)) ((0, false), 4294967296, false) ((4294967296, false), 0, false)).w = (-4294967296, false) := by kernel_rfl
    have e3 : cjS 1 4 0 0 ((0, false), 0, false) ((0, false), 0, false) (0, false) = 8 := by decide
    rw [e1, e2, e3]
    simp only [beq_self_eq_true, true_and, and_self, implies_true]
    exact ⟨⟨⟨by decide, by decide⟩, ⟨by decide, by decide⟩, ⟨by decide, by decide⟩, ⟨by decide, by decide⟩, fun j hj => absurd hj (Nat.not_lt_zero j), ⟨by decide, by decide⟩, ⟨by decide, by decide⟩, ⟨by decide, by decide⟩, ⟨by decide, by decide⟩, ⟨by decide, by decide⟩, ⟨by decide, by decide⟩, ⟨by decide, by decide⟩, ⟨by decide, by decide⟩, ⟨by decide, by decide⟩, ⟨by decide, by decide⟩, ⟨by decide, by decide⟩⟩, by decide, by unfold inR; omega, by unfold inR; omega, trivial⟩
  · cases hc
end Go.Ax
end

section
/-
  Shapes and poses made of numbers.
-/
set_option linter.unusedVariables false
set_option linter.unusedSimpArgs false
set_option maxHeartbeats 4000000
set_option maxRecDepth 100000
namespace Go.Ax
open Go.Proofs
theorem alk_shape {a b c d p q : AV} (h : alk p q) : alk (.agg [a, b, c, d, p]) (.agg [a, b, c, d, q]) := fun w ρ v hR => by
  cases hR with
  | agg hl' hh' =>
    refine .agg hl' fun j x y h3 h4 => ?_
    match j with
    | 0 => exact hh' 0 x y h3 h4
    | 1 => exact hh' 1 x y h3 h4
    | 2 => exact hh' 2 x y h3 h4
    | 3 => exact hh' 3 x y h3 h4
    | 4 =>
      simp at h3; subst h3
      exact h _ _ _ (hh' 4 _ y rfl h4)
    | m + 5 => simp at h3
def mkW (a b : Int) : Int := if a.tmod 4 ≠ 0 then 16 + (16 + modS b 4081).tmod 600 else 16 + modS b 4081
def mkM (a b : Int) : Int := max 64 (mkW a b)
def mkK (a : Int) : Int := if modS a 5 = 0 then 1 else if modS a 5 = 1 then 2 else 3
def mkR (a b : Int) : Int := if modS a 5 = 0 then mkW b b else 0
def mkH (a b c : Int) : Int := if modS a 5 = 0 then 0 else if modS a 5 = 1 then mkW b c else 0
def mkN (a : Int) : Nat := if modS a 5 = 0 then 0 else if modS a 5 = 1 then 0 else if modS a 5 = 2 then 3 else if modS a 5 = 3 then 5 else 8
def mkP (a w t : Int) : List AV :=
  if modS a 5 = 2 then [i64 (-w), i64 (-t), i64 w, i64 (-t), i64 0, i64 t]
  else if modS a 5 = 3 then [i64 ((-w).tdiv 2), i64 (-t), i64 (w.tdiv 2), i64 (-t), i64 w, i64 0, i64 0, i64 t, i64 (-w), i64 0]
  else [i64 w, i64 ((-w).tdiv 2), i64 w, i64 (w.tdiv 2), i64 (w.tdiv 2), i64 w, i64 ((-w).tdiv 2), i64 w, i64 (-w), i64 (w.tdiv 2), i64 (-w), i64 ((-w).tdiv 2), i64 ((-w).tdiv 2), i64 (-w), i64 (w.tdiv 2), i64 (-w)]
def mkX (a b c : Int) (i : Nat) : Int := gx (rowsOf 2 (mkP a (mkM b b) (mkM b c))) 0 i
def mkY (a b c : Int) (i : Nat) : Int := gx (rowsOf 2 (mkP a (mkM b b) (mkM b c))) 1 i
abbrev mkA (a b c : Int) : AV := .agg [i64 (mkK a), i64 (mkR a b), i64 (mkH a b b), i64 (mkH a b c), .ro (mkN a) 2 fun i => [i64 (mkX a b c i), i64 (mkY a b c i)]]
theorem modS_bd {n m : Int} (hm : 0 < m) : 0 ≤ modS n m ∧ modS n m < m := by
  have h1 : n.tmod m < m := Int.tmod_lt_of_pos n hm
  have h2 : -m < n.tmod m := Int.lt_tmod_of_pos n hm
  unfold modS
  split <;> omega
theorem mkW_bd {a b : Int} : 16 ≤ mkW a b ∧ mkW a b ≤ 4096 := by
  have h := modS_bd (n := b) (m := 4081) (by omega)
  have h1 : (16 + modS b 4081).tmod 600 < 600 := Int.tmod_lt_of_pos _ (by omega)
  have h2 : 0 ≤ (16 + modS b 4081).tmod 600 := Int.tmod_nonneg _ (by omega)
  unfold mkW
  split <;> omega
theorem mkM_bd {a b : Int} : 64 ≤ mkM a b ∧ mkM a b ≤ 4096 := by
  have := @mkW_bd a b
  unfold mkM
  omega
theorem wrW {b : Int} : IntKind.i64.wrap (16 + modS b 4081) = 16 + modS b 4081 := by
  have h := modS_bd (n := b) (m := 4081) (by omega)
  exact wrap_in (by unfold inR; omega)
theorem wrW2 {b : Int} : IntKind.i64.wrap (16 + (16 + modS b 4081).tmod 600) = 16 + (16 + modS b 4081).tmod 600 := by
  have h := modS_bd (n := b) (m := 4081) (by omega)
  have h1 : (16 + modS b 4081).tmod 600 < 600 := Int.tmod_lt_of_pos _ (by omega)
  have h2 : 0 ≤ (16 + modS b 4081).tmod 600 := Int.tmod_nonneg _ (by omega)
  exact wrap_in (by unfold inR; omega)
theorem wrM {a b : Int} : IntKind.i64.wrap (0 - mkM a b) = -mkM a b := by
  have := @mkM_bd a b
  rw [wrap_in (by unfold inR; omega), Int.zero_sub]
theorem wrM2 {a b : Int} : IntKind.i64.wrap ((-mkM a b).tdiv 2) = (-mkM a b).tdiv 2 := by
  have := @mkM_bd a b
  exact wrap_in (by rw [Int.neg_tdiv, Int.tdiv_eq_ediv_of_nonneg (by omega)]; unfold inR; omega)
theorem wrM3 {a b : Int} : IntKind.i64.wrap ((mkM a b).tdiv 2) = (mkM a b).tdiv 2 := by
  have := @mkM_bd a b
  exact wrap_in (by rw [Int.tdiv_eq_ediv_of_nonneg (by omega)]; unfold inR; omega)
theorem mkM_eq {a b : Int} : max 64 (mkW a b) = mkM a b := rfl
theorem vc97 (a b c d e f : Int) (ha : inR a) (hb : inR b) (hc : inR c) : fnVC Tryz.prog [(31, c31)] [] Tryz.f97 [.agg [i64 a, i64 b, i64 c, i64 d, i64 e, i64 f]] (alk (mkA a b c)) := by
  refine fnVC_go (rs := [.cell 2 49]) rfl rfl ?_
  simp only [go_sem, c31]
  simp only [forall_eq]
  simp only [wrW, wrW2]
  refine ⟨hb, by unfold inR; omega, hc, by unfold inR; omega, fun h => ?_, fun h => ?_⟩
  · have e : ∀ v, 16 + (16 + modS v 4081).tmod 600 = mkW b v := fun v => by unfold mkW; rw [if_pos (by simpa using h)]
    simp only [e]
    simp only [mkM_eq, wrM, wrM2, wrM3]
    refine ⟨ha, by unfold inR; omega, fun h0 => ?_, fun h0 => ⟨fun h1 => ?_, fun h1 => ⟨fun h2 => ?_, fun h2 => ⟨fun h3 => ?_, fun h3 => ?_⟩⟩⟩⟩
    · have k0 : modS a 5 = 0 := by simpa using h0
      unfold mkA
      rw [show mkK a = 1 by unfold mkK; rw [if_pos k0], show mkR a b = mkW b b by unfold mkR; rw [if_pos k0], show mkH a b b = 0 by unfold mkH; rw [if_pos k0], show mkH a b c = 0 by unfold mkH; rw [if_pos k0], show mkN a = 0 by unfold mkN; rw [if_pos k0]]
      exact alk_shape alk_nil
    · have k0 : ¬ modS a 5 = 0 := by simpa using h0
      have k1 : modS a 5 = 1 := by simpa using h1
      unfold mkA
      rw [show mkK a = 2 by unfold mkK; rw [if_neg k0, if_pos k1], show mkR a b = 0 by unfold mkR; rw [if_neg k0], show mkH a b b = mkW b b by unfold mkH; rw [if_neg k0, if_pos k1], show mkH a b c = mkW b c by unfold mkH; rw [if_neg k0, if_pos k1], show mkN a = 0 by unfold mkN; rw [if_neg k0, if_pos k1]]
      exact alk_shape alk_nil
    · have k0 : ¬ modS a 5 = 0 := by simpa using h0
      have k1 : ¬ modS a 5 = 1 := by simpa using h1
      have k2 : modS a 5 = 2 := by simpa using h2
      unfold mkA
      rw [show mkK a = 3 by unfold mkK; rw [if_neg k0, if_neg k1], show mkR a b = 0 by unfold mkR; rw [if_neg k0], show mkH a b b = 0 by unfold mkH; rw [if_neg k0, if_neg k1], show mkH a b c = 0 by unfold mkH; rw [if_neg k0, if_neg k1], show mkN a = 3 by unfold mkN; rw [if_neg k0, if_neg k1, if_pos k2]]
      refine alk_shape (alk_ro fun i hi => ?_)
      unfold mkX mkY mkP
      rw [if_pos k2]
      match i with
      | 0 => rfl
      | 1 => rfl
      | 2 => rfl
      | q + 3 => omega
    · have k0 : ¬ modS a 5 = 0 := by simpa using h0
      have k1 : ¬ modS a 5 = 1 := by simpa using h1
      have k2 : ¬ modS a 5 = 2 := by simpa using h2
      have k3 : modS a 5 = 3 := by simpa using h3
      unfold mkA
      rw [show mkK a = 3 by unfold mkK; rw [if_neg k0, if_neg k1], show mkR a b = 0 by unfold mkR; rw [if_neg k0], show mkH a b b = 0 by unfold mkH; rw [if_neg k0, if_neg k1], show mkH a b c = 0 by unfold mkH; rw [if_neg k0, if_neg k1], show mkN a = 5 by unfold mkN; rw [if_neg k0, if_neg k1, if_neg k2, if_pos k3]]
      refine alk_shape (alk_ro fun i hi => ?_)
      unfold mkX mkY mkP
      rw [if_neg k2, if_pos k3]
      match i with
      | 0 => rfl
      | 1 => rfl
      | 2 => rfl
      | 3 => rfl
      | 4 => rfl
      | q + 5 => omega
    · have k0 : ¬ modS a 5 = 0 := by simpa using h0
      have k1 : ¬ modS a 5 = 1 := by simpa using h1
      have k2 : ¬ modS a 5 = 2 := by simpa using h2
      have k3 : ¬ modS a 5 = 3 := by simpa using h3
      unfold mkA
      rw [show mkK a = 3 by unfold mkK; rw [if_neg k0, if_neg k1], show mkR a b = 0 by unfold mkR; rw [if_neg k0], show mkH a b b = 0 by unfold mkH; rw [if_neg k0, if_neg k1], show mkH a b c = 0 by unfold mkH; rw [if_neg k0, if_neg k1], show mkN a = 8 by unfold mkN; rw [if_neg k0, if_neg k1, if_neg k2, if_neg k3]]
      refine alk_shape (alk_ro fun i hi => ?_)
      unfold mkX mkY mkP
      rw [if_neg k2, if_neg k3]
      match i with
      | 0 => rfl
      | 1 => rfl
      | 2 => rfl
      | 3 => rfl
      | 4 => rfl
      | 5 => rfl
      | 6 => rfl
      | 7 => rfl
      | q + 8 => omega
  · have e : ∀ v, 16 + modS v 4081 = mkW b v := fun v => by unfold mkW; rw [if_neg (by simpa using h)]
    simp only [e]
    simp only [mkM_eq, wrM, wrM2, wrM3]
    refine ⟨ha, by unfold inR; omega, fun h0 => ?_, fun h0 => ⟨fun h1 => ?_, fun h1 => ⟨fun h2 => ?_, fun h2 => ⟨fun h3 => ?_, fun h3 => ?_⟩⟩⟩⟩
    · have k0 : modS a 5 = 0 := by simpa using h0
      unfold mkA
      rw [show mkK a = 1 by unfold mkK; rw [if_pos k0], show mkR a b = mkW b b by unfold mkR; rw [if_pos k0], show mkH a b b = 0 by unfold mkH; rw [if_pos k0], show mkH a b c = 0 by unfold mkH; rw [if_pos k0], show mkN a = 0 by unfold mkN; rw [if_pos k0]]
      exact alk_shape alk_nil
    · have k0 : ¬ modS a 5 = 0 := by simpa using h0
      have k1 : modS a 5 = 1 := by simpa using h1
      unfold mkA
      rw [show mkK a = 2 by unfold mkK; rw [if_neg k0, if_pos k1], show mkR a b = 0 by unfold mkR; rw [if_neg k0], show mkH a b b = mkW b b by unfold mkH; rw [if_neg k0, if_pos k1], show mkH a b c = mkW b c by unfold mkH; rw [if_neg k0, if_pos k1], show mkN a = 0 by unfold mkN; rw [if_neg k0, if_pos k1]]
      exact alk_shape alk_nil
    · have k0 : ¬ modS a 5 = 0 := by simpa using h0
      have k1 : ¬ modS a 5 = 1 := by simpa using h1
      have k2 : modS a 5 = 2 := by simpa using h2
      unfold mkA
      rw [show mkK a = 3 by unfold mkK; rw [if_neg k0, if_neg k1], show mkR a b = 0 by unfold mkR; rw [if_neg k0], show mkH a b b = 0 by unfold mkH; rw [if_neg k0, if_neg k1], show mkH a b c = 0 by unfold mkH; rw [if_neg k0, if_neg k1], show mkN a = 3 by unfold mkN; rw [if_neg k0, if_neg k1, if_pos k2]]
      refine alk_shape (alk_ro fun i hi => ?_)
      unfold mkX mkY mkP
      rw [if_pos k2]
      match i with
      | 0 => rfl
      | 1 => rfl
      | 2 => rfl
      | q + 3 => omega
    · have k0 : ¬ modS a 5 = 0 := by simpa using h0
      have k1 : ¬ modS a 5 = 1 := by simpa using h1
      have k2 : ¬ modS a 5 = 2 := by simpa using h2
      have k3 : modS a 5 = 3 := by simpa using h3
      unfold mkA
      rw [show mkK a = 3 by unfold mkK; rw [if_neg k0, if_neg k1], show mkR a b = 0 by unfold mkR; rw [if_neg k0], show mkH a b b = 0 by unfold mkH; rw [if_neg k0, if_neg k1], show mkH a b c = 0 by unfold mkH; rw [if_neg k0, if_neg k1], show mkN a = 5 by unfold mkN; rw [if_neg k0, if_neg k1, if_neg k2, if_pos k3]]
      refine alk_shape (alk_ro fun i hi => ?_)
      unfold mkX mkY mkP
      rw [if_neg k2, if_pos k3]
      match i with
      | 0 => rfl
      | 1 => rfl
      | 2 => rfl
      | 3 => rfl
      | 4 => rfl
      | q + 5 => omega
    · have k0 : ¬ modS a 5 = 0 := by simpa using h0
      have k1 : ¬ modS a 5 = 1 := by simpa using h1
      have k2 : ¬ modS a 5 = 2 := by simpa using h2
      have k3 : ¬ modS a 5 = 3 := by simpa using h3
      unfold mkA
      rw [show mkK a = 3 by unfold mkK; rw [if_neg k0, if_neg k1], show mkR a b = 0 by unfold mkR; rw [if_neg k0], show mkH a b b = 0 by unfold mkH; rw [if_neg k0, if_neg k1], show mkH a b c = 0 by unfold mkH; rw [if_neg k0, if_neg k1], show mkN a = 8 by unfold mkN; rw [if_neg k0, if_neg k1, if_neg k2, if_neg k3]]
      refine alk_shape (alk_ro fun i hi => ?_)
      unfold mkX mkY mkP
      rw [if_neg k2, if_neg k3]
      match i with
      | 0 => rfl
      | 1 => rfl
      | 2 => rfl
      | 3 => rfl
      | 4 => rfl
      | 5 => rfl
      | 6 => rfl
      | 7 => rfl
      | q + 8 => omega
def c97 : Con
  | [.agg [.v (.int .i64 a), .v (.int .i64 b), .v (.int .i64 c), .v (.int .i64 d), .v (.int .i64 e), .v (.int .i64 f)]] => some ([inR a, inR b, inR c], mkA a b c)
  | _ => none
theorem con97 : ConOK Tryz.prog 97 c97 := ConOK.goR (G := [(31, c31)]) (H := []) (.cons con31 .nil) Tryz.func97 fun l ob rr hc hob => by
  unfold c97 at hc
  split at hc
  · rename_i a b c d e f
    cases hc
    exact ⟨_, fun w I vs h => h, by kernel_rfl, vc97 a b c d e f (hob _ (by simp)) (hob _ (by simp)) (hob _ (by simp))⟩
  · cases hc
def foAt (x y s : Int) : V2 := ((x.tmod (s * 4294967296), false), (y.tmod (s * 4294967296), false))
def foRot (u : Int) : V2 := ((csV (u.tmod (8 * 4294967296)) false, csF (u.tmod (8 * 4294967296)) false), (snV (u.tmod (8 * 4294967296)) false, snF (u.tmod (8 * 4294967296)) false))
theorem tmod_inR {x s : Int} (h : 1 ≤ s ∧ s ≤ 1000000) : inR (x.tmod (s * 4294967296)) := by
  have h1 : x.tmod (s * 4294967296) < s * 4294967296 := Int.tmod_lt_of_pos x (by omega)
  have h2 : -(s * 4294967296) < x.tmod (s * 4294967296) := Int.lt_tmod_of_pos x (by omega)
  unfold inR
  omega
def c98 : Con
  | [.agg [.v (.int .i64 a), .v (.int .i64 b), .v (.int .i64 c), .v (.int .i64 x), .v (.int .i64 y), .v (.int .i64 u)], .v (.int .i64 s)] => some ([inR x, inR y, inR u, 1 ≤ s ∧ s ≤ 1000000], poseA (foAt x y s) (foRot u))
  | _ => none
theorem con98 : ConOK Tryz.prog 98 c98 := ConOK.of (G := [(53, c53), (169, c169)]) (H := [(1, ⟨[(14, .slot 4)], []⟩)]) (.cons con53 (.cons con169 .nil)) Tryz.func98 fun l ob r hc hob => by
  unfold c98 at hc
  split at hc
  · rename_i a b c x y u s
    cases hc
    have h_0 : inR x := hob _ (by simp)
    have h_1 : inR y := hob _ (by simp)
    have h_2 : inR u := hob _ (by simp)
    have h_3 : 1 ≤ s ∧ s ≤ 1000000 := hob _ (by simp)
    refine ⟨by kernel_rfl, fnVC_go (rs := [.cell 4 53]) rfl rfl ?_⟩
    simp only [go_sem, c53, c169]
    simp only [forall_eq]
    exact ⟨h_0, h_3, h_1, h_3, h_2, tmod_inR (by omega), rfl⟩
  · cases hc
theorem mk_inR {a b c : Int} (i : Nat) (hi : i < mkN a) : inR (mkX a b c i) ∧ inR (mkY a b c i) := by
  have b1 := @mkM_bd b b
  have b2 := @mkM_bd b c
  have t1 : (mkM b b).tdiv 2 = mkM b b / 2 := Int.tdiv_eq_ediv_of_nonneg (by omega)
  have t2 : (-mkM b b).tdiv 2 = -(mkM b b / 2) := by rw [Int.neg_tdiv, t1]
  unfold mkX mkY mkP
  unfold mkN at hi
  by_cases k0 : modS a 5 = 0
  · rw [if_pos k0] at hi; omega
  rw [if_neg k0] at hi
  by_cases k1 : modS a 5 = 1
  · rw [if_pos k1] at hi; omega
  rw [if_neg k1] at hi
  rw [t1, t2]
  generalize mkM b b = M at *
  generalize mkM b c = T at *
  by_cases k2 : modS a 5 = 2
  · rw [if_pos k2] at hi
    rw [if_pos k2]
    match i with
    | 0 => show inR (-M) ∧ inR (-T); unfold inR; omega
    | 1 => show inR M ∧ inR (-T); unfold inR; omega
    | 2 => show inR 0 ∧ inR T; unfold inR; omega
    | q + 3 => omega
  rw [if_neg k2] at hi
  rw [if_neg k2]
  by_cases k3 : modS a 5 = 3
  · rw [if_pos k3] at hi
    rw [if_pos k3]
    match i with
    | 0 => show inR (-(M / 2)) ∧ inR (-T); unfold inR; omega
    | 1 => show inR (M / 2) ∧ inR (-T); unfold inR; omega
    | 2 => show inR M ∧ inR 0; unfold inR; omega
    | 3 => show inR 0 ∧ inR T; unfold inR; omega
    | 4 => show inR (-M) ∧ inR 0; unfold inR; omega
    | q + 5 => omega
  rw [if_neg k3] at hi
  rw [if_neg k3]
  match i with
  | 0 => show inR M ∧ inR (-(M / 2)); unfold inR; omega
  | 1 => show inR M ∧ inR (M / 2); unfold inR; omega
  | 2 => show inR (M / 2) ∧ inR M; unfold inR; omega
  | 3 => show inR (-(M / 2)) ∧ inR M; unfold inR; omega
  | 4 => show inR (-M) ∧ inR (M / 2); unfold inR; omega
  | 5 => show inR (-M) ∧ inR (-(M / 2)); unfold inR; omega
  | 6 => show inR (-(M / 2)) ∧ inR (-M); unfold inR; omega
  | 7 => show inR (M / 2) ∧ inR (-M); unfold inR; omega
  | q + 8 => omega
theorem mkN_le {a : Int} : mkN a ≤ 9223372036854775806 := by
  unfold mkN
  (repeat' split) <;> omega
end Go.Ax
end

section
/-
  Weights, by the reference.
-/
set_option linter.unusedVariables false
set_option linter.unusedSimpArgs false
set_option maxHeartbeats 4000000
set_option maxRecDepth 100000
namespace Go.Ax
open Go.Proofs
def c225 : Con
  | [.agg [.v (.int .i64 a), .v (.int .i64 b)], .agg [.v (.int .i64 c), .v (.int .i64 d)]] => some ([True], i64 (IntKind.i64.wrap (IntKind.i64.wrap (a * c) + IntKind.i64.wrap (b * d))))
  | _ => none
theorem con225 : ConOK Tryz.prog 225 c225 := ConOK.of (G := []) (H := []) .nil Tryz.func225 fun l ob rr hc hob => by
  unfold c225 at hc
  split at hc
  · rename_i a b c d
    cases hc
    have h_0 : True := hob _ (by simp)
    refine ⟨by kernel_rfl, fnVC_go (rs := [.tmp 4]) rfl rfl ?_⟩
    simp only [go_sem, iMul, iDiv, iInt, iAdd, iSub, iRat, iDot, iHyp, iSq, iNeg, iPos, iAbs, iMx, iMn, iCl, iWh, iLoc1, iLoc2, iVAdd1, iVAdd2, iVSub1, iVSub2, iScale1, iScale2, iVDot, iVCross, iLen, iOf1, iOf2, iUnit1, iUnit2, h_0]
    simp only [forall_eq]
  · cases hc
def piN : Nb := (13493037704, false)
def crI (X Y : Nat → Int) (n i : Nat) : Int := IntKind.i64.wrap (X i * Y ((i + 1) % n) - Y i * X ((i + 1) % n))
def doI (X Y : Nat → Int) (i j : Nat) : Int := IntKind.i64.wrap (IntKind.i64.wrap (X i * X j) + IntKind.i64.wrap (Y i * Y j))
def wgA (X Y : Nat → Int) (n : Nat) : Nat → Int
  | 0 => 0
  | i + 1 => IntKind.i64.wrap (wgA X Y n i + crI X Y n i)
def wgB (X Y : Nat → Int) (n : Nat) : Nat → Int
  | 0 => 0
  | i + 1 => IntKind.i64.wrap (wgB X Y n i + IntKind.i64.wrap (crI X Y n i * IntKind.i64.wrap (IntKind.i64.wrap (doI X Y i i + doI X Y i ((i + 1) % n)) + doI X Y ((i + 1) % n) ((i + 1) % n))))
def wgM (k r w t : Int) (n : Nat) (X Y : Nat → Int) (d : Int) : Nb × Nb :=
  if k = 1 then (nDiv (nDiv (nRat 65536 (IntKind.i64.wrap (r * r))) piN) (nInt d), nDiv (nDiv (nRat 8589934592 (IntKind.i64.wrap (IntKind.i64.wrap (r * r) * IntKind.i64.wrap (r * r)))) piN) (nInt d))
  else (nDiv (nRat 131072 (wgA (corX k w t X) (corY k w t Y) (corN k r w t n X Y) (corN k r w t n X Y))) (nInt d), nDiv (nRat 51539607552 (wgB (corX k w t X) (corY k w t Y) (corN k r w t n X Y) (corN k r w t n X Y))) (nInt d))
def wgE (k r w t : Int) (n : Nat) (X Y : Nat → Int) (d : Int) : Int := if chkS k r w t n X Y ≠ 0 then chkS k r w t n X Y else if d < 1 ∨ 1000 < d then 3 else 0
def wgS (k r w t : Int) (n : Nat) (X Y : Nat → Int) (d : Int) : Nb × Nb := if wgE k r w t n X Y d = 0 then wgM k r w t n X Y d else ((0, false), (0, false))
def wgV (m : Nb × Nb) : AV := .agg [i64 m.1.1, bo m.1.2, i64 m.2.1, bo m.2.2]
theorem vc167 (k r w t : Int) (n : Nat) (X Y : Nat → Int) (d : Int) (hX : ∀ i, i < n → inR (X i) ∧ inR (Y i)) (hn : n ≤ 9223372036854775806) (hd : inR d) :
    fnVC Tryz.prog [(166, c202), (143, k50), (28, k54), (80, k144), (212, c206), (224, c224), (225, c225)] [(9, ⟨[(15, .slot 4)], []⟩), (15, ⟨[(14, .made 12), (15, .made 13)], [(11, [.made 12])]⟩), (18, ⟨[(9, .slot 4)], []⟩)] Tryz.f167 [shapeA k r w t n fun i => [i64 (X i), i64 (Y i)], i64 d] (· = .tup [wgV (wgS k r w t n X Y d), i64 (wgE k r w t n X Y d)]) := by
  refine fnVC_go (rs := [.cell 4 55, .tmp 5]) rfl rfl ?_
  have hg : spots n fun i => [i64 (X i), i64 (Y i)] := fun i hi => ⟨rfl, hX i hi⟩
  simp only [go_sem, c202, k50, k54, k144, c206, c224, c225, hg, hn, hd, gx_pts0, gx_pts1]
  simp only [forall_eq]
  have eE0 : wgE k r w t n X Y d = if chkS k r w t n X Y ≠ 0 then chkS k r w t n X Y else if d < 1 ∨ 1000 < d then 3 else 0 := rfl
  refine ⟨fun h => ?_, fun h => ⟨fun h2 => ?_, fun h2 => ?_⟩⟩
  · have h : chkS k r w t n X Y ≠ 0 := by simpa using h
    rw [if_pos h] at eE0
    have eS : wgS k r w t n X Y d = ((0, false), (0, false)) := if_neg (by rw [eE0]; exact h)
    rw [eS, eE0]
    rfl
  · have h : chkS k r w t n X Y = 0 := by simpa using h
    rw [if_neg (by simpa using h), if_pos h2] at eE0
    have eS : wgS k r w t n X Y d = ((0, false), (0, false)) := if_neg (by rw [eE0]; decide)
    rw [eS, eE0]
    rfl
  have h : chkS k r w t n X Y = 0 := by simpa using h
  rw [if_neg (by simpa using h), if_neg (by omega)] at eE0
  have eS : wgS k r w t n X Y d = wgM k r w t n X Y d := if_pos eE0
  rw [eS, eE0]
  refine ⟨fun hk => ?_, fun hk => ?_⟩
  · have hk : k = 1 := by simpa using hk
    have e : wgM k r w t n X Y d = _ := if_pos hk
    rw [e]
    exact ⟨by unfold inR; omega, wrap_inR _, by unfold inR; omega, by unfold inR; omega, wrap_inR _, by unfold inR; omega, rfl⟩
  have hk : ¬ k = 1 := by simpa using hk
  have e : wgM k r w t n X Y d = _ := if_neg hk
  rw [e]
  have hN8 : 1 ≤ corN k r w t n X Y ∧ corN k r w t n X Y ≤ 8 := by
    have := chk_cases h
    unfold corN
    rw [if_pos h]
    split <;> omega
  generalize corN k r w t n X Y = N at *
  generalize corX k w t X = P at *
  generalize corY k w t Y = Q at *
  refine loopC_go (fun (i : Nat) => i ≤ N) (fun i => N - i) (fun i => [(13, i64 (i : Int)), (10, i64 (wgA P Q N i)), (11, i64 (wgB P Q N i))]) (fun i => []) [18, 17, 1, 0] [57, 58, 59, 60, 63, 64, 65, 66, 67, 68, 69, 70, 71, 72, 73, 74, 14, 15, 75, 76, 77, 78, 79, 10, 80, 81, 82, 83, 84, 85, 86, 87, 88, 89, 90, 91, 92, 93, 94, 95, 96, 11, 61, 62, 13] 0 (by kernel_rfl) ?_ (Nat.zero_le _) ?_ ?_
  · intro i _; simp [goodNames, asg]
  · simp only [go_sem]
    exact ⟨rfl, rfl⟩
  intro i hi
  have hw : IntKind.i64.wrap ((i : Int) + 1) = ((i + 1 : Nat) : Int) := by rw [wrap_in (by unfold inR; omega)]; rfl
  have hm : (((i + 1 : Nat) : Int)).tmod (N : Int) = (((i + 1) % N : Nat) : Int) := by rw [Int.tmod_eq_emod_of_nonneg (by omega)]; rfl
  have hl : (i + 1) % N < N := Nat.mod_lt _ (by omega)
  have wA : ∀ i, inR (wgA P Q N i) := fun i => by
    cases i with
    | zero => show inR 0; unfold inR; omega
    | succ i => exact wrap_inR _
  have wB : ∀ i, inR (wgB P Q N i) := fun i => by
    cases i with
    | zero => show inR 0; unfold inR; omega
    | succ i => exact wrap_inR _
  simp only [go_sem, c202, k50, k54, k144, c206, c224, c225, forall_eq, hw, hm, Int.toNat_natCast, wA, wB]
  refine ⟨fun hc => ⟨by omega, hc, by omega, by omega, by omega, i + 1, by omega, by omega, rfl, rfl, rfl⟩, fun hc => ⟨by unfold inR; omega, by unfold inR; omega, ?_⟩⟩
  have e : i = N := by omega
  subst e
  rfl
def c167 : Con
  | [.agg [.v (.int .i64 k), .v (.int .i64 r), .v (.int .i64 w), .v (.int .i64 t), .ro n 2 g], .v (.int .i64 d)] => some ([spots n g, n ≤ 9223372036854775806, inR d], .tup [wgV (wgS k r w t n (gx g 0) (gx g 1) d), i64 (wgE k r w t n (gx g 0) (gx g 1) d)])
  | _ => none
theorem con167 : ConOK Tryz.prog 167 c167 := ConOK.go (G := [(166, c202), (143, k50), (28, k54), (80, k144), (212, c206), (224, c224), (225, c225)]) (H := [(9, ⟨[(15, .slot 4)], []⟩), (15, ⟨[(14, .made 12), (15, .made 13)], [(11, [.made 12])]⟩), (18, ⟨[(9, .slot 4)], []⟩)]) (.cons con166 (.cons kon50 (.cons kon54 (.cons kon144 (.cons con212 (.cons con224 (.cons con225 .nil))))))) Tryz.func167 fun l ob rr hc hob => by
  unfold c167 at hc
  split at hc
  · rename_i k r w t n g d
    cases hc
    have hs : spots n g := hob _ (by simp)
    refine ⟨[shapeA k r w t n fun i => [i64 (gx g 0 i), i64 (gx g 1 i)], i64 d], fun w I vs h => ?_, by kernel_rfl, vc167 k r w t n _ _ d (fun i hi => (hs i hi).2) (hob _ (by simp)) (hob _ (by simp))⟩
    obtain ⟨x, xs, rfl, h1, h2⟩ := h.inv
    exact .cons (Rs_shape hs _ h1) h2
  · cases hc
end Go.Ax
end

section
/-
  Contracts of functions that write rows: a table and an element of another row; a slice of one's own; two pointers out of a table.
-/
set_option linter.unusedSimpArgs false
set_option linter.unusedVariables false
namespace Go.Ax
section
variable {P : Program} {G : Ctx} {H : Hots} {f : FuncId} {fn : Func} {r s key : Nat}
theorem thL2_0 {th : Nat → Nat → Nat} : ∀ f, thL [r, s] key th 0 f = (r, f) := fun f => by simp [thL]
/-- All rows are there, and hold nothing of our own. -/
def famCl (fam : Fam) : Prop := ∀ f, (fam f).g = none ∧ ∀ j, j < (fam f).n → ∀ c ∈ (fam f).get j, cleanC c = true
theorem famCl_E {fam : Fam} {f i : Nat} {cs : List AV} (h : famCl fam) (hc : ∀ c ∈ cs, cleanC c = true) : famCl (famE fam f i cs) := fun f' => by
  refine ⟨by rw [famE_g]; exact (h f').1, fun j hj c hcm => ?_⟩
  rw [famE_n] at hj
  by_cases e : f' = f
  · subst e
    simp only [famE, if_true] at hcm
    split at hcm
    · exact hc c hcm
    · exact (h f').2 j hj c hcm
  · rw [famE_off e] at hcm
    exact (h f').2 j hj c hcm
theorem rowRen_cl {θ : Nat → Nat → Nat × Nat} {g : Nat → Nat → Prop} {B : Nat → Prop} {fam : Fam} (h : famCl fam) (f : Nat) : rowRen θ g B (fam f) (fam f) := rowRen_clean' (.refl _) (h f).2
theorem look_two0 {x y : Fam} : look [(1, y), (0, x)] 0 = some x := by simp [look]
theorem look_two1 {x y : Fam} : look [(1, y), (0, x)] 1 = some y := by simp [look]
theorem two_okG {fam fam' x0 y0 famB famB' : Fam} {m : Mem} {es es0 : List AV} {val val0 : AV} {ob : List Prop} (hne : r ≠ s) (hl : look m r = some fam) (hl2 : look m s = some famB)
    (h1 : ∀ f, (fam f).g = none ∧ rowRen (thE [r, s]) (lowG 2) (lowB 2) (x0 f) (fam f)) (hB : famCl famB) (hB' : famCl famB')
    (h2 : ∀ th σ f, rowRen (thL [r, s] key th) (newG 2 σ th) (newB 2 σ) (y0 f) (fam' f) ∧ (y0 f).g ≠ some false) (ha : es = es0.map (renA (thE [r, s]) 3)) (hak : ∀ a ∈ es0, kg (lowG 2) (lowB 2) 3 a)
    (hfn : funcOK P H fn es0.length = true) (hv : ∀ th : Nat → Nat → Nat, ∀ σ : Nat → Option (Nat × Nat), val = renA (thL [r, s] key th) 3 val0 ∧ kg (newG 2 σ th) (newB 2 σ) 3 val0)
    (hb : bodyM P G H fn es0 [(1, famB), (0, x0)] 2 fun a m1 => a = val0 ∧ look m1 0 = some y0 ∧ look m1 1 = some famB') :
    ∃ ks m0 as0, Entry ks m m0 es as0 ∧ funcOK P H fn as0.length = true ∧ bodyM P G H fn as0 m0 ks.length fun a m1 => ∃ σ th ys nw, (⟨ob, val, .many [(r, fam'), (s, famB')] none⟩ : Eff).u = .many (ks.zip ys) nw ∧ Leave key ks σ th m1 a ys nw val := by
  refine ⟨[r, s], [(1, famB), (0, x0)], es0, ⟨by simp [hne], ha, hak, fun j hj => ?_, fun q x hq => ?_⟩, hfn, hb.mono fun a m1 ⟨q1, q2, q3⟩ => ?_⟩
  · match j, hj with
    | 0, _ => exact ⟨_, fam, look_two0, hl, h1⟩
    | 1, _ => exact ⟨_, famB, look_two1, hl2, fun f => ⟨(hB f).1, rowRen_cl hB f⟩⟩
    | j + 2, hj => simp at hj; omega
  · by_cases e : q = 0
    · subst e; simp
    · by_cases e1 : q = 1
      · subst e1; simp
      · simp [look, Ne.symm e, Ne.symm e1] at hq
  · obtain ⟨v1, v2⟩ := hv (fun _ _ => 0) (fun _ => none)
    refine ⟨fun _ => none, fun _ _ => 0, [fam', famB'], none, rfl, ⟨fun f r g h => by simp at h, by rw [q1]; exact v1, by rw [q1]; exact v2, rfl, fun j hj => ?_, fun _ => rfl⟩⟩
    match j, hj with
    | 0, _ => exact ⟨_, _, q2, rfl, h2 _ _⟩
    | 1, _ => exact ⟨_, _, q3, rfl, fun f => ⟨rowRen_cl hB' f, by rw [(hB' f).1]; simp⟩⟩
    | j + 2, hj => simp at hj; omega

theorem tabOK_in2 {K C N sz : Nat} {tp ty : TypeId} {fam : Fam} (h : tabOK K N sz tp ty fam) (f : Nat) : (fam f).g = none ∧ rowRen (thE [K, C]) (lowG 2) (lowB 2) (famT 0 N sz tp ty (fun i => (fam (i + 1)).get 0) f) (fam f) :=
  ⟨(h.1 f).2.2.2.1.trans famT_g, rowRen_alike (rowRen_T (θ := thE [K, C]) (g := lowG 2) (B := lowB 2) (fun _ => rfl) (fun _ => Nat.zero_lt_two) h.2 f) (h.1 f)⟩
/-! ### A table, and an element of another row -/
def mcTPp (sz sz2 : Nat) (tp ty : TypeId) (F : Nat → (Nat → List AV) → List AV → List AV → Option (List Prop × AV × (Nat → List AV) × List AV)) : MCon := fun key m es => match es with
  | .own K 0 N 1 :: .ptr C f i s2 0 :: rest => match look m K with
    | some fam => match look m C with
      | some famC => match F N (fun i => (fam (i + 1)).get 0) ((famC f).get i) rest with
        | some (ob, val, get', cs') => some ⟨(K ≠ C) :: (s2 = sz2) :: (i < (famC f).n) :: (sz2 = (famC f).sz) :: (cleanCs ((famC f).get i) = true) :: famCl famC :: tabOK K N sz tp ty fam :: ob, val, .many [(K, famT K N sz tp ty get'), (C, famE famC f i cs')] none⟩
        | none => none
      | none => none
    | none => none
  | _ => none
def mcTQ (sz sz2 : Nat) (tp ty : TypeId) (F : Nat → (Nat → List AV) → List AV → List AV → Option (List Prop × AV × (Nat → List AV) × List AV)) : MCon := fun key m es => match es with
  | .own K 0 N 1 :: .bx C 0 :: rest => match look m K with
    | some fam => match look m C with
      | some famC => match F N (fun i => (fam (i + 1)).get 0) ((famC 0).get 0) rest with
        | some (ob, val, get', cs') => some ⟨(K ≠ C) :: ((famC 0).n = 1) :: (sz2 = (famC 0).sz) :: (cleanCs ((famC 0).get 0) = true) :: famCl famC :: tabOK K N sz tp ty fam :: ob, val, .many [(K, famT K N sz tp ty get'), (C, wb1 famC cs')] none⟩
        | none => none
      | none => none
    | none => none
  | es => mcTPp sz sz2 tp ty F key m es
def TPOK (P : Program) (G : Ctx) (H : Hots) (fn : Func) (sz sz2 : Nat) (tp ty : TypeId) (F : Nat → (Nat → List AV) → List AV → List AV → Option (List Prop × AV × (Nat → List AV) × List AV)) : Prop :=
  ∀ N get cells rest ob val get' cs', F N get cells rest = some (ob, val, get', cs') → (∀ p ∈ ob, p) → (∀ i, i < N → cleanCs (get i) = true) → cleanCs cells = true →
    (∀ a ∈ rest, clean 3 a = true) ∧ clean 3 val = true ∧ (∀ i, i < N → cleanCs (get' i) = true) ∧ cleanCs cs' = true ∧ funcOK P H fn (rest.length + 2) = true ∧
    ∀ (fam : Fam) (f i : Nat), i < (fam f).n → sz2 = (fam f).sz → famCl fam → bodyM P G H fn (.own 0 0 N 1 :: .ptr 1 f i sz2 0 :: rest) [(1, famE fam f i cells), (0, famT 0 N sz tp ty get)] 2 fun a m1 =>
      a = val ∧ look m1 0 = some (famT 0 N sz tp ty get') ∧ look m1 1 = some (famE fam f i cs')
theorem MConOK.mcTPp (hG : CtxOK P G) (hf : P.funcs[f]? = some fn) {sz sz2 : Nat} {tp ty : TypeId} {F : Nat → (Nat → List AV) → List AV → List AV → Option (List Prop × AV × (Nat → List AV) × List AV)} (h : TPOK P G H fn sz sz2 tp ty F) : MConOK P f (mcTPp sz sz2 tp ty F) := by
  refine MConOK.of (H := H) hG hf fun key m es e hc hob => ?_
  unfold Ax.mcTPp at hc
  split at hc
  · rename_i K N C f' i s2 rest
    split at hc
    · rename_i fam hl
      split at hc
      · rename_i famC hl2
        split at hc
        · rename_i ob val get' cs' hF
          cases hc
          have hne : K ≠ C := hob _ (by simp)
          have hs2 : s2 = sz2 := hob _ (by simp)
          have hi : i < (famC f').n := hob _ (by simp)
          have hsz : sz2 = (famC f').sz := hob _ (by simp)
          have hcl : cleanCs ((famC f').get i) = true := hob _ (by simp)
          have hC : famCl famC := hob _ (by simp)
          have hok : tabOK K N sz tp ty fam := hob _ (by simp)
          subst hs2
          obtain ⟨h1, h2, h3, h3', h4, h5⟩ := h _ _ _ _ _ _ _ _ hF (fun p hp => hob p (by simp [hp])) hok.2 hcl
          obtain ⟨a1, a2⟩ := cleans_ren (θ := thE [K, C]) (g := lowG 2) (B := lowB 2) h1
          refine two_okG hne hl hl2 (tabOK_in2 hok) hC (famCl_E hC (cleanCs_mem h3'))
            (fun th σ f => ⟨rowRen_T thL2_0 (fun _ => .inl Nat.zero_lt_two) h3 f, by rw [famT_g]; simp⟩) (es0 := .own 0 0 N 1 :: .ptr 1 f' i s2 0 :: rest) (val0 := val) ?_ ?_ h4 (fun th σ => ?_) ?_
          · rw [List.map_cons, List.map_cons, a1]; rfl
          · intro a ha
            rcases List.mem_cons.1 ha with e | ha
            · rw [e]; exact Nat.zero_lt_two
            · rcases List.mem_cons.1 ha with e | ha
              · rw [e]; exact Nat.one_lt_two
              · exact a2 a ha
          · obtain ⟨b1, b2⟩ := clean_ren (θ := thL [K, C] key th) (g := newG 2 σ th) (B := newB 2 σ) 3 val h2
            exact ⟨b1.symm, b2⟩
          · have := h5 famC f' i hi hsz hC
            rw [famE_self] at this
            exact this
        · cases hc
      · cases hc
    · cases hc
  · cases hc
theorem MConOK.mcTQ (hG : CtxOK P G) (hf : P.funcs[f]? = some fn) {sz sz2 : Nat} {tp ty : TypeId} {F : Nat → (Nat → List AV) → List AV → List AV → Option (List Prop × AV × (Nat → List AV) × List AV)} (h : TPOK P G H fn sz sz2 tp ty F) : MConOK P f (mcTQ sz sz2 tp ty F) := by
  intro w0 ρ m m' D w key es vs e hR hk hm hRs hc hob hmany
  unfold Ax.mcTQ at hc
  split at hc
  · rename_i K N C rest
    split at hc
    · rename_i fam hl
      split at hc
      · rename_i famC hl2
        split at hc
        · rename_i ob val get' cs' hF
          cases hc
          have hne : K ≠ C := hob _ (by simp)
          have hn : (famC 0).n = 1 := hob _ (by simp)
          have hsz : sz2 = (famC 0).sz := hob _ (by simp)
          have hcl : cleanCs ((famC 0).get 0) = true := hob _ (by simp)
          have hC : famCl famC := hob _ (by simp)
          have hok : tabOK K N sz tp ty fam := hob _ (by simp)
          have hRs' : Rs w ρ (.own K 0 N 1 :: .ptr C 0 0 sz2 0 :: rest) vs := by
            obtain ⟨x, xs, rfl, h1, h2⟩ := hRs.inv
            obtain ⟨y, ys, rfl, h3, h4⟩ := h2.inv
            refine .cons h1 (.cons ?_ h4)
            cases h3 with
            | bx hd =>
              have : R w ρ (.ptr C 0 0 sz2 0) (.pointer (some ⟨ρ.blk C 0, 0 * sz2 + 0, none⟩)) := .ptr hd
              rw [Nat.zero_mul] at this
              exact this
          have := MConOK.mcTPp hG hf h w0 ρ m m' D w key _ vs ⟨(K ≠ C) :: (sz2 = sz2) :: (0 < (famC 0).n) :: (sz2 = (famC 0).sz) :: (cleanCs ((famC 0).get 0) = true) :: famCl famC :: tabOK K N sz tp ty fam :: ob, val, .many [(K, famT K N sz tp ty get'), (C, famE famC 0 0 cs')] none⟩ hR hk hm hRs'
            (by simp only [Ax.mcTPp, hl, hl2, hF]) (fun p hp => by
              simp only [List.mem_cons] at hp
              rcases hp with rfl | rfl | rfl | rfl | rfl | rfl | rfl | hp
              · exact hne
              · trivial
              · omega
              · exact hsz
              · exact hcl
              · exact hC
              · exact hok
              · exact hob p (by simp [hp])) ⟨_, _, rfl⟩
          refine this.mono fun v w' ⟨ρ', p1, p2, p3, p4⟩ => ⟨ρ', p1, ?_, p3, p4⟩
          have p2 : Rel w0 ρ' (setRow C (famE famC 0 0 cs') (setRow K (famT K N sz tp ty get') m)) (fun r => D r ∨ r = key) w' := p2
          refine Rel.alike p2 fun f => ?_
          by_cases e : f = 0
          · subst e
            refine ⟨rfl, rfl, rfl, rfl, fun i hi => ?_⟩
            rw [famE_n, hn] at hi
            have : i = 0 := by omega
            subst this
            rw [famE_get]; rfl
          · unfold wb1
            rw [if_neg e, famE_off e]
            exact ⟨rfl, rfl, rfl, rfl, fun _ _ => rfl⟩
        · cases hc
      · cases hc
    · cases hc
  · exact MConOK.mcTPp hG hf h w0 ρ m m' D w key es vs e hR hk hm hRs hc hob hmany

/-! ### Two pointers out of a table -/
def mc2P (sz : Nat) (tp ty : TypeId) : MCon := fun key m es => match es with
  | [.own K 0 N 1, .v (.int .i64 a), .v (.int .i64 b)] => match look m K with
    | some fam => some ⟨[tabOK K N sz tp ty fam, N ≤ 1000], if 0 ≤ a ∧ a < N ∧ 0 ≤ b ∧ b < N ∧ a ≠ b then .tup [.ptr K (a.toNat + 1) 0 sz 0, .ptr K (b.toNat + 1) 0 sz 0, .v (.bool true)] else .tup [.v (.pointer none), .v (.pointer none), .v (.bool false)], .many [(K, fam)] none⟩
    | none => none
  | _ => none
def TwoPOK (P : Program) (G : Ctx) (H : Hots) (fn : Func) (sz : Nat) (tp ty : TypeId) : Prop :=
  ∀ N get, N ≤ 1000 → ∀ a b : Int, funcOK P H fn 3 = true ∧
    bodyM P G H fn [.own 0 0 N 1, .v (.int .i64 a), .v (.int .i64 b)] [(0, famT 0 N sz tp ty get)] 1 fun x m1 => x = (if 0 ≤ a ∧ a < N ∧ 0 ≤ b ∧ b < N ∧ a ≠ b then AV.tup [.ptr 0 (a.toNat + 1) 0 sz 0, .ptr 0 (b.toNat + 1) 0 sz 0, .v (.bool true)] else .tup [.v (.pointer none), .v (.pointer none), .v (.bool false)]) ∧ look m1 0 = some (famT 0 N sz tp ty get)
theorem MConOK.mc2P (hG : CtxOK P G) (hf : P.funcs[f]? = some fn) {sz : Nat} {tp ty : TypeId} (h : TwoPOK P G H fn sz tp ty) : MConOK P f (mc2P sz tp ty) := by
  refine MConOK.of (H := H) hG hf fun key m es e hc hob => ?_
  unfold Ax.mc2P at hc
  split at hc
  · rename_i K N a b
    split at hc
    · rename_i fam hl
      cases hc
      have hok : tabOK K N sz tp ty fam := hob _ (by simp)
      have hN : N ≤ 1000 := hob _ (by simp)
      obtain ⟨h1, h2⟩ := h N (fun i => (fam (i + 1)).get 0) hN a b
      refine one_okG hl (tabOK_in hok) (fun th σ f => ⟨rowRen_alike (rowRen_T thL_0 (newG_0 (by simp)) hok.2 f) (hok.1 f), by rw [famT_g]; simp⟩) (es0 := [.own 0 0 N 1, .v (.int .i64 a), .v (.int .i64 b)]) ?_ ?_ h1 (fun th σ => ?_) h2
      · rfl
      · intro x hx
        simp only [List.mem_cons, List.not_mem_nil, or_false] at hx
        rcases hx with e | e | e <;> rw [e]
        · exact Nat.zero_lt_one
        · trivial
        · trivial
      · split
        · refine ⟨?_, ?_⟩
          · show AV.tup [.ptr K _ _ _ _, .ptr K _ _ _ _, _] = .tup [.ptr (thL [K] key th 0 _).1 (thL [K] key th 0 _).2 _ _ _, .ptr (thL [K] key th 0 _).1 (thL [K] key th 0 _).2 _ _ _, _]
            rw [thL_0, thL_0]; rfl
          · intro c hc
            simp only [List.mem_cons, List.not_mem_nil, or_false] at hc
            rcases hc with e | e | e <;> rw [e]
            · exact newG_0 (by simp) _
            · exact newG_0 (by simp) _
            · trivial
        · refine ⟨rfl, fun c hc => ?_⟩
          simp only [List.mem_cons, List.not_mem_nil, or_false] at hc
          rcases hc with e | e | e <;> rw [e] <;> trivial
    · cases hc
  · cases hc

/-! ### A slice of one's own -/
def mcS (sz : Nat) (ty : TypeId) (F : Nat → (Nat → List AV) → List AV → Option (List Prop × AV × (Nat → List AV))) : MCon := fun key m es => match es with
  | .own r 0 N sz' :: rest => match look m r with
    | some fam => match F N (fam 0).get rest with
      | some (ob, val, get') => some ⟨(sz' = sz) :: (fam = famN N sz ty (fam 0).get none) :: (∀ i, i < N → cleanCs ((fam 0).get i) = true) :: ob, val, .many [(r, famN N sz ty get' none)] none⟩
      | none => none
    | none => none
  | _ => none
def SlOK (P : Program) (G : Ctx) (H : Hots) (fn : Func) (sz : Nat) (ty : TypeId) (F : Nat → (Nat → List AV) → List AV → Option (List Prop × AV × (Nat → List AV))) : Prop :=
  ∀ N get rest ob val get', F N get rest = some (ob, val, get') → (∀ p ∈ ob, p) → (∀ i, i < N → cleanCs (get i) = true) → (∀ a ∈ rest, clean 3 a = true) ∧ clean 3 val = true ∧ (∀ i, i < N → cleanCs (get' i) = true) ∧ funcOK P H fn (rest.length + 1) = true ∧
    bodyM P G H fn (.own 0 0 N sz :: rest) [(0, famN N sz ty get none)] 1 fun a m1 => a = val ∧ look m1 0 = some (famN N sz ty get' none)
theorem famCl_N {n sz : Nat} {ty : TypeId} {get : Nat → List AV} (h : ∀ i, i < n → cleanCs (get i) = true) : famCl (famN n sz ty get none) := fun f => by
  unfold famN
  by_cases e : f = 0
  · subst e
    exact ⟨rfl, fun j hj c hc => cleanCs_mem (h j (by simpa using hj)) c (by simpa using hc)⟩
  · simp only [e, if_false]
    exact ⟨trivial, fun j hj => by omega⟩
theorem famCl_1 {sz : Nat} {ty : TypeId} {cs : List AV} (h : cleanCs cs = true) : famCl (fam1 ty sz cs none) := fun f => by
  unfold fam1
  by_cases e : f = 0
  · subst e
    exact ⟨rfl, fun j _ c hc => cleanCs_mem h c (by simpa using hc)⟩
  · simp only [e, if_false]
    exact ⟨trivial, fun j hj => by omega⟩
theorem MConOK.mcS (hG : CtxOK P G) (hf : P.funcs[f]? = some fn) {sz : Nat} {ty : TypeId} {F : Nat → (Nat → List AV) → List AV → Option (List Prop × AV × (Nat → List AV))} (h : SlOK P G H fn sz ty F) : MConOK P f (mcS sz ty F) := by
  refine MConOK.of (H := H) hG hf fun key m es e hc hob => ?_
  unfold Ax.mcS at hc
  split at hc
  · rename_i K N sz' rest
    split at hc
    · rename_i fam hl
      split at hc
      · rename_i ob val get' hF
        cases hc
        have hs : sz' = sz := hob _ (by simp)
        have he : fam = famN N sz ty (fam 0).get none := hob _ (by simp)
        have hcl : ∀ i, i < N → cleanCs ((fam 0).get i) = true := hob _ (by simp)
        subst hs
        obtain ⟨h1, h2, h3, h4, h5⟩ := h _ _ _ _ _ _ hF (fun p hp => hob p (by simp [hp])) hcl
        obtain ⟨a1, a2⟩ := cleans_ren (θ := thE [K]) (g := lowG 1) (B := lowB 1) h1
        have hC : famCl fam := by rw [he]; exact famCl_N hcl
        rw [← he] at h5
        refine one_okG hl (fun f => ⟨(hC f).1, rowRen_cl hC f⟩) (fun th σ f => ⟨rowRen_cl (famCl_N h3) f, by rw [(famCl_N h3 f).1]; simp⟩) (es0 := .own 0 0 N sz' :: rest) (val0 := val) ?_ ?_ h4 (fun th σ => ?_) h5
        · rw [List.map_cons, a1]; rfl
        · intro a ha
          rcases List.mem_cons.1 ha with e | ha
          · rw [e]; exact Nat.zero_lt_one
          · exact a2 a ha
        · obtain ⟨b1, b2⟩ := clean_ren (θ := thL [K] key th) (g := newG 1 σ th) (B := newB 1 σ) 3 val h2
          exact ⟨b1.symm, b2⟩
      · cases hc
    · cases hc
  · cases hc
/-! ### A new table, its elements being rows of another family -/
/-! ### A new slice -/
def mcV (sz : Nat) (ty : TypeId) (F : List AV → Option (List Prop × Nat × (Nat → List AV))) : MCon := fun key m es => match F es with
  | some (ob, N, get) => some ⟨ob, .own key 0 N sz, .many [] (some (famN N sz ty get none))⟩
  | none => none
def VecOK (P : Program) (G : Ctx) (H : Hots) (fn : Func) (sz : Nat) (ty : TypeId) (F : List AV → Option (List Prop × Nat × (Nat → List AV))) : Prop :=
  ∀ es ob N get, F es = some (ob, N, get) → (∀ p ∈ ob, p) → (∀ a ∈ es, clean 3 a = true) ∧ (∀ i, i < N → cleanCs (get i) = true) ∧ funcOK P H fn es.length = true ∧
    bodyM P G H fn es [] 0 fun a m1 => ∃ L, a = .own L 0 N sz ∧ look m1 L = some (famN N sz ty get none)
theorem MConOK.mcV (hG : CtxOK P G) (hf : P.funcs[f]? = some fn) {sz : Nat} {ty : TypeId} {F : List AV → Option (List Prop × Nat × (Nat → List AV))} (h : VecOK P G H fn sz ty F) : MConOK P f (Ax.mcV sz ty F) := by
  refine MConOK.of (H := H) hG hf fun key m es e hc hob => ?_
  unfold Ax.mcV at hc
  split at hc
  · rename_i ob N get hF
    cases hc
    obtain ⟨h1, h2, h3, h4⟩ := h _ _ _ _ hF fun p hp => hob p hp
    obtain ⟨a1, a2⟩ := cleans_ren (θ := thE []) (g := lowG 0) (B := lowB 0) h1
    refine ⟨[], [], es, ⟨by simp, a1.symm, a2, fun j hj => by simp at hj, fun q x hq => by simp [look] at hq⟩, h3, h4.mono fun a m1 ⟨L, q1, q2⟩ => ?_⟩
    refine ⟨whole L, idTh, [], some _, rfl, ⟨fun f r g h => ?_, ?_, ?_, rfl, fun j hj => by simp at hj, fun f => ?_⟩⟩
    · cases h; exact ⟨Nat.zero_le _, rfl⟩
    · rw [q1]; rfl
    · rw [q1]; exact .inr rfl
    · exact ⟨_, q2, rowRen_cl (famCl_N h2) f, by rw [(famCl_N h2 f).1]; simp⟩
  · cases hc
/-! ### For the evaluator -/
section
variable {sz sz2 K N C : Nat} {tp ty : TypeId} {m : Mem} {rest : List AV} {get get' : Nat → List AV} {ob : List Prop} {val : AV} {fam famC : Fam} {cs cs' : List AV}
def mcTf (K N sz : Nat) (tp ty : TypeId) (fam : Fam) : Option (List Prop × AV × (Nat → List AV)) → Option Eff
  | some (ob, val, get') => some ⟨tabOK K N sz tp ty fam :: ob, val, .many [(K, famT K N sz tp ty get')] none⟩
  | none => none
def mcTe (sz : Nat) (tp ty : TypeId) (F : Nat → (Nat → List AV) → List AV → Option (List Prop × AV × (Nat → List AV))) (K N : Nat) (rest : List AV) : Option Fam → Option Eff
  | some fam => mcTf K N sz tp ty fam (F N (fun i => (fam (i + 1)).get 0) rest)
  | none => none
theorem mcT_eq {F : Nat → (Nat → List AV) → List AV → Option (List Prop × AV × (Nat → List AV))} : Ax.mcT sz tp ty F key m (.own K 0 N 1 :: rest) = mcTe sz tp ty F K N rest (look m K) := by
  show (match look m K with
    | some fam => (match F N (fun i => (fam (i + 1)).get 0) rest with
      | some (ob, val, get') => some (⟨tabOK K N sz tp ty fam :: ob, val, .many [(K, famT K N sz tp ty get')] none⟩ : Eff)
      | none => none)
    | none => none) = _
  unfold mcTe
  cases look m K with
  | none => rfl
  | some fam =>
    dsimp only
    unfold mcTf
    cases F N (fun i => (fam (i + 1)).get 0) rest <;> rfl
theorem mcTe_T {F : Nat → (Nat → List AV) → List AV → Option (List Prop × AV × (Nat → List AV))} : mcTe sz tp ty F K N rest (some (famT K N sz tp ty get)) = mcTf K N sz tp ty (famT K N sz tp ty get) (F N get rest) := (rfl)
theorem mcTf_some : mcTf K N sz tp ty fam (some (ob, val, get')) = some ⟨tabOK K N sz tp ty fam :: ob, val, .many [(K, famT K N sz tp ty get')] none⟩ := (rfl)
def mcQf (K N C sz sz2 : Nat) (tp ty : TypeId) (fam famC : Fam) : Option (List Prop × AV × (Nat → List AV) × List AV) → Option Eff
  | some (ob, val, get', cs') => some ⟨(K ≠ C) :: ((famC 0).n = 1) :: (sz2 = (famC 0).sz) :: (cleanCs ((famC 0).get 0) = true) :: famCl famC :: tabOK K N sz tp ty fam :: ob, val, .many [(K, famT K N sz tp ty get'), (C, wb1 famC cs')] none⟩
  | none => none
def mcQe (sz sz2 : Nat) (tp ty : TypeId) (F : Nat → (Nat → List AV) → List AV → List AV → Option (List Prop × AV × (Nat → List AV) × List AV)) (K N C : Nat) (rest : List AV) : Option Fam → Option Fam → Option Eff
  | some fam, some famC => mcQf K N C sz sz2 tp ty fam famC (F N (fun i => (fam (i + 1)).get 0) ((famC 0).get 0) rest)
  | _, _ => none
theorem mcTQ_bx {F : Nat → (Nat → List AV) → List AV → List AV → Option (List Prop × AV × (Nat → List AV) × List AV)} : Ax.mcTQ sz sz2 tp ty F key m (.own K 0 N 1 :: .bx C 0 :: rest) = mcQe sz sz2 tp ty F K N C rest (look m K) (look m C) := by
  show (match look m K with
    | some fam => (match look m C with
      | some famC => (match F N (fun i => (fam (i + 1)).get 0) ((famC 0).get 0) rest with
        | some (ob, val, get', cs') => some (⟨(K ≠ C) :: ((famC 0).n = 1) :: (sz2 = (famC 0).sz) :: (cleanCs ((famC 0).get 0) = true) :: famCl famC :: tabOK K N sz tp ty fam :: ob, val, .many [(K, famT K N sz tp ty get'), (C, wb1 famC cs')] none⟩ : Eff)
        | none => none)
      | none => none)
    | none => none) = _
  unfold mcQe
  cases look m K with
  | none => rfl
  | some fam =>
    dsimp only
    cases look m C with
    | none => rfl
    | some famC =>
      dsimp only
      unfold mcQf
      cases F N (fun i => (fam (i + 1)).get 0) ((famC 0).get 0) rest <;> rfl
theorem mcQe_T {F : Nat → (Nat → List AV) → List AV → List AV → Option (List Prop × AV × (Nat → List AV) × List AV)} : mcQe sz sz2 tp ty F K N C rest (some (famT K N sz tp ty get)) (some famC) = mcQf K N C sz sz2 tp ty (famT K N sz tp ty get) famC (F N get ((famC 0).get 0) rest) := (rfl)
theorem mcQf_some : mcQf K N C sz sz2 tp ty fam famC (some (ob, val, get', cs')) = some ⟨(K ≠ C) :: ((famC 0).n = 1) :: (sz2 = (famC 0).sz) :: (cleanCs ((famC 0).get 0) = true) :: famCl famC :: tabOK K N sz tp ty fam :: ob, val, .many [(K, famT K N sz tp ty get'), (C, wb1 famC cs')] none⟩ := (rfl)
def mcRf (K N C f i s2 sz sz2 : Nat) (tp ty : TypeId) (fam famC : Fam) : Option (List Prop × AV × (Nat → List AV) × List AV) → Option Eff
  | some (ob, val, get', cs') => some ⟨(K ≠ C) :: (s2 = sz2) :: (i < (famC f).n) :: (sz2 = (famC f).sz) :: (cleanCs ((famC f).get i) = true) :: famCl famC :: tabOK K N sz tp ty fam :: ob, val, .many [(K, famT K N sz tp ty get'), (C, famE famC f i cs')] none⟩
  | none => none
def mcRe (sz sz2 : Nat) (tp ty : TypeId) (F : Nat → (Nat → List AV) → List AV → List AV → Option (List Prop × AV × (Nat → List AV) × List AV)) (K N C f i s2 : Nat) (rest : List AV) : Option Fam → Option Fam → Option Eff
  | some fam, some famC => mcRf K N C f i s2 sz sz2 tp ty fam famC (F N (fun i => (fam (i + 1)).get 0) ((famC f).get i) rest)
  | _, _ => none
theorem mcTQ_ptr {F : Nat → (Nat → List AV) → List AV → List AV → Option (List Prop × AV × (Nat → List AV) × List AV)} {f i s2 : Nat} : Ax.mcTQ sz sz2 tp ty F key m (.own K 0 N 1 :: .ptr C f i s2 0 :: rest) = mcRe sz sz2 tp ty F K N C f i s2 rest (look m K) (look m C) := by
  show (match look m K with
    | some fam => (match look m C with
      | some famC => (match F N (fun i => (fam (i + 1)).get 0) ((famC f).get i) rest with
        | some (ob, val, get', cs') => some (⟨(K ≠ C) :: (s2 = sz2) :: (i < (famC f).n) :: (sz2 = (famC f).sz) :: (cleanCs ((famC f).get i) = true) :: famCl famC :: tabOK K N sz tp ty fam :: ob, val, .many [(K, famT K N sz tp ty get'), (C, famE famC f i cs')] none⟩ : Eff)
        | none => none)
      | none => none)
    | none => none) = _
  unfold mcRe
  cases look m K with
  | none => rfl
  | some fam =>
    dsimp only
    cases look m C with
    | none => rfl
    | some famC =>
      dsimp only
      unfold mcRf
      cases F N (fun i => (fam (i + 1)).get 0) ((famC f).get i) rest <;> rfl
theorem mcRe_T {F : Nat → (Nat → List AV) → List AV → List AV → Option (List Prop × AV × (Nat → List AV) × List AV)} {f i s2 : Nat} : mcRe sz sz2 tp ty F K N C f i s2 rest (some (famT K N sz tp ty get)) (some famC) = mcRf K N C f i s2 sz sz2 tp ty (famT K N sz tp ty get) famC (F N get ((famC f).get i) rest) := (rfl)
theorem mcRf_some {f i s2 : Nat} : mcRf K N C f i s2 sz sz2 tp ty fam famC (some (ob, val, get', cs')) = some ⟨(K ≠ C) :: (s2 = sz2) :: (i < (famC f).n) :: (sz2 = (famC f).sz) :: (cleanCs ((famC f).get i) = true) :: famCl famC :: tabOK K N sz tp ty fam :: ob, val, .many [(K, famT K N sz tp ty get'), (C, famE famC f i cs')] none⟩ := (rfl)
def mcPf (r r' f i s1 f' i' s2 sz : Nat) (fam : Fam) : Option (List Prop × AV × List AV × List AV) → Option Eff
  | some (ob, val, cs, cs') => some ⟨(r' = r) :: (f ≠ f') :: (i < (fam f).n) :: (i' < (fam f').n) :: (s1 = sz) :: (s2 = sz) :: (sz = (fam f).sz) :: (sz = (fam f').sz) :: (cleanCs ((fam f).get i) = true) :: (cleanCs ((fam f').get i') = true) :: famOK r fam :: ob, val, .many [(r, famE (famE fam f i cs) f' i' cs')] none⟩
  | none => none
def mcPe (sz : Nat) (F : List AV → List AV → List AV → Option (List Prop × AV × List AV × List AV)) (r r' f i s1 f' i' s2 : Nat) (rest : List AV) : Option Fam → Option Eff
  | some fam => mcPf r r' f i s1 f' i' s2 sz fam (F ((fam f).get i) ((fam f').get i') rest)
  | none => none
theorem mcPP_eq {F : List AV → List AV → List AV → Option (List Prop × AV × List AV × List AV)} {r r' f i s1 f' i' s2 : Nat} : Ax.mcPP sz F key m (.ptr r f i s1 0 :: .ptr r' f' i' s2 0 :: rest) = mcPe sz F r r' f i s1 f' i' s2 rest (look m r) := by
  show (match look m r with
    | some fam => (match F ((fam f).get i) ((fam f').get i') rest with
      | some (ob, val, cs, cs') => some (⟨(r' = r) :: (f ≠ f') :: (i < (fam f).n) :: (i' < (fam f').n) :: (s1 = sz) :: (s2 = sz) :: (sz = (fam f).sz) :: (sz = (fam f').sz) :: (cleanCs ((fam f).get i) = true) :: (cleanCs ((fam f').get i') = true) :: famOK r fam :: ob, val, .many [(r, famE (famE fam f i cs) f' i' cs')] none⟩ : Eff)
      | none => none)
    | none => none) = _
  unfold mcPe
  cases look m r with
  | none => rfl
  | some fam =>
    dsimp only
    unfold mcPf
    cases F ((fam f).get i) ((fam f').get i') rest <;> rfl
theorem mcPe_some {F : List AV → List AV → List AV → Option (List Prop × AV × List AV × List AV)} {r r' f i s1 f' i' s2 : Nat} : mcPe sz F r r' f i s1 f' i' s2 rest (some fam) = mcPf r r' f i s1 f' i' s2 sz fam (F ((fam f).get i) ((fam f').get i') rest) := (rfl)
theorem mcPf_some {r r' f i s1 f' i' s2 : Nat} : mcPf r r' f i s1 f' i' s2 sz fam (some (ob, val, cs, cs')) = some ⟨(r' = r) :: (f ≠ f') :: (i < (fam f).n) :: (i' < (fam f').n) :: (s1 = sz) :: (s2 = sz) :: (sz = (fam f).sz) :: (sz = (fam f').sz) :: (cleanCs ((fam f).get i) = true) :: (cleanCs ((fam f').get i') = true) :: famOK r fam :: ob, val, .many [(r, famE (famE fam f i cs) f' i' cs')] none⟩ := (rfl)
def mcSf (r N s sz : Nat) (ty : TypeId) (fam : Fam) : Option (List Prop × AV × (Nat → List AV)) → Option Eff
  | some (ob, val, get') => some ⟨(s = sz) :: (fam = famN N sz ty (fam 0).get none) :: (∀ i, i < N → cleanCs ((fam 0).get i) = true) :: ob, val, .many [(r, famN N sz ty get' none)] none⟩
  | none => none
def mcSe (sz : Nat) (ty : TypeId) (F : Nat → (Nat → List AV) → List AV → Option (List Prop × AV × (Nat → List AV))) (r N s : Nat) (rest : List AV) : Option Fam → Option Eff
  | some fam => mcSf r N s sz ty fam (F N (fam 0).get rest)
  | none => none
theorem mcS_eq {F : Nat → (Nat → List AV) → List AV → Option (List Prop × AV × (Nat → List AV))} {r s : Nat} : Ax.mcS sz ty F key m (.own r 0 N s :: rest) = mcSe sz ty F r N s rest (look m r) := by
  show (match look m r with
    | some fam => (match F N (fam 0).get rest with
      | some (ob, val, get') => some (⟨(s = sz) :: (fam = famN N sz ty (fam 0).get none) :: (∀ i, i < N → cleanCs ((fam 0).get i) = true) :: ob, val, .many [(r, famN N sz ty get' none)] none⟩ : Eff)
      | none => none)
    | none => none) = _
  unfold mcSe
  cases look m r with
  | none => rfl
  | some fam =>
    dsimp only
    unfold mcSf
    cases F N (fam 0).get rest <;> rfl
theorem mcSe_some {F : Nat → (Nat → List AV) → List AV → Option (List Prop × AV × (Nat → List AV))} {r s : Nat} : mcSe sz ty F r N s rest (some (famN N sz ty get none)) = mcSf r N s sz ty (famN N sz ty get none) (F N get rest) := (rfl)
theorem mcSf_some {r s : Nat} : mcSf r N s sz ty (famN N sz ty get none) (some (ob, val, get')) = some ⟨(s = sz) :: (famN N sz ty get none = famN N sz ty get none) :: (∀ i, i < N → cleanCs (get i) = true) :: ob, val, .many [(r, famN N sz ty get' none)] none⟩ := (rfl)
def mc2e (K N sz : Nat) (tp ty : TypeId) (a b : Int) : Option Fam → Option Eff
  | some fam => some ⟨[tabOK K N sz tp ty fam, N ≤ 1000], if 0 ≤ a ∧ a < N ∧ 0 ≤ b ∧ b < N ∧ a ≠ b then .tup [.ptr K (a.toNat + 1) 0 sz 0, .ptr K (b.toNat + 1) 0 sz 0, .v (.bool true)] else .tup [.v (.pointer none), .v (.pointer none), .v (.bool false)], .many [(K, fam)] none⟩
  | none => none
theorem mc2P_eq {a b : Int} : Ax.mc2P sz tp ty key m [.own K 0 N 1, .v (.int .i64 a), .v (.int .i64 b)] = mc2e K N sz tp ty a b (look m K) := by
  show (match look m K with
    | some fam => some (⟨[tabOK K N sz tp ty fam, N ≤ 1000], if 0 ≤ a ∧ a < N ∧ 0 ≤ b ∧ b < N ∧ a ≠ b then .tup [.ptr K (a.toNat + 1) 0 sz 0, .ptr K (b.toNat + 1) 0 sz 0, .v (.bool true)] else .tup [.v (.pointer none), .v (.pointer none), .v (.bool false)], .many [(K, fam)] none⟩ : Eff)
    | none => none) = _
  unfold mc2e
  cases look m K <;> rfl
theorem mc2e_some {a b : Int} : mc2e K N sz tp ty a b (some fam) = some ⟨[tabOK K N sz tp ty fam, N ≤ 1000], if 0 ≤ a ∧ a < N ∧ 0 ≤ b ∧ b < N ∧ a ≠ b then .tup [.ptr K (a.toNat + 1) 0 sz 0, .ptr K (b.toNat + 1) 0 sz 0, .v (.bool true)] else .tup [.v (.pointer none), .v (.pointer none), .v (.bool false)], .many [(K, fam)] none⟩ := (rfl)
theorem famCl_1t (h : cleanCs cs = true) : famCl (fam1 ty sz cs none) = True := eq_true (famCl_1 h)
theorem famCl_Nt {n : Nat} (h : ∀ i, i < n → cleanCs (get i) = true) : famCl (famN n sz ty get none) = True := eq_true (famCl_N h)
end
attribute [go_sem] mcT_eq mcTe_T mcTf_some mcTQ_bx mcTQ_ptr mcQe_T mcQf_some mcRe_T mcRf_some mcPP_eq mcPe_some mcPf_some mcS_eq mcSe_some mcSf_some mc2P_eq mc2e_some famCl_1t famCl_Nt
end
end Go.Ax
end

section
/-
  Bodies ars they are, not cell by cell; lists of bodies, tables of bodies.
-/
set_option linter.unusedVariables false
set_option linter.unusedSimpArgs false
set_option maxHeartbeats 4000000
set_option maxRecDepth 100000
namespace Go.Ax
open Go.Proofs
section
variable {P : Program} {G : Ctx} {H : Hots} {K0 : AEx → St → Prop} {hot : Option Hot} {ops : Array Oper} {d : Option Tmp} {rest : List Oper} {i k : Nat} {st : List Fr} {t : Slots} {m : Mem} {nx : Nat} {o : List Prop} {u : Upd} {b : Bd} {c : Bool}
theorem ofC_body : ofC (some (true, 27)) (bodyC b) = some (.agg (bodyC b)) := (rfl)
theorem cells_body : cellsOf (.agg (bodyC b)) = some (bodyC b) := (rfl)
theorem drop_body : (bodyC b).drop 27 = [] := (rfl)
theorem drop5_body : (bodyC b).drop 5 = [i64 b.pl.1.1, bo b.pl.1.2, i64 b.pl.2.1, bo b.pl.2.2, i64 b.rot.1.1, bo b.rot.1.2, i64 b.rot.2.1, bo b.rot.2.2, i64 b.v.1.1, bo b.v.1.2, i64 b.v.2.1, bo b.v.2.2, i64 b.w.1, bo b.w.2, i64 b.m.1, bo b.m.2, i64 b.i.1, bo b.i.2, i64 b.st, bo b.sl, bo b.fa, i64 b.ve] := (rfl)
theorem drop19_body : (bodyC b).drop 19 = [i64 b.m.1, bo b.m.2, i64 b.i.1, bo b.i.2, i64 b.st, bo b.sl, bo b.fa, i64 b.ve] := (rfl)
theorem drop21_body : (bodyC b).drop 21 = [i64 b.i.1, bo b.i.2, i64 b.st, bo b.sl, bo b.fa, i64 b.ve] := (rfl)
theorem take_body : (bodyC b).take 27 = bodyC b := (rfl)
theorem cleanCs_body : cleanCs (bodyC b) = true := (rfl)
theorem allCells_body : allCells (bodyC b) = true := (rfl)
theorem purUL_body : purUL 2 m (bodyC b) = bodyC b := (rfl)
theorem pgsL_body : pgsL 2 m (bodyC b) = [] := (rfl)
theorem purL_body : (bodyC b).map (pur 2 m) = bodyC b := (rfl)
theorem cleanL_body : cleanL 2 (bodyC b) = true := (rfl)
theorem purLd_body {d : Nat} : purL d m (bodyC b) = bodyC b := by cases d <;> rfl
theorem bindL_body : bindL P G H K0 hot ops d rest i st t m nx o u false [] (bodyC b) = bindC P G H K0 hot ops d rest i st t m nx o u (.agg (bodyC b)) := by
  unfold bindL; simp
end
attribute [go_sem] purLd_body drop5_body drop19_body drop21_body cleanL_body ofC_body cells_body drop_body take_body cleanCs_body allCells_body purUL_body pgsL_body purL_body bindL_body len_body clean_body bodyD_C
theorem tmpE_ptr {r f i sz k : Nat} : tmpE (.ptr r f i sz k) = some ⟨[], .ptr r f i sz k, .none⟩ := (rfl)
attribute [go_sem] tmpE_ptr
theorem iHft {b : Bd} {x n : V2} : inR (hftS b x n).1 = True := iAdd
theorem iSpd1 {b : Bd} {x : V2} : inR (spdS b x).1.1 = True := iVAdd1
theorem iSpd2 {b : Bd} {x : V2} : inR (spdS b x).2.1 = True := iVAdd2
attribute [go_sem] iHft iSpd1 iSpd2
/-- Lists of bodies. -/
def bsC (B : Nat → Bd) : Nat → List AV := fun i => bodyC (B i)
def bsD (g : Nat → List AV) : Nat → Bd := fun i => bodyD (g i)
theorem bsD_C {B : Nat → Bd} : bsD (bsC B) = B := rfl
theorem bsC_at {B : Nat → Bd} {i : Nat} : bsC B i = bodyC (B i) := (rfl)
def inBs (N : Nat) (B : Nat → Bd) : Prop := ∀ i, i < N → inB (B i) ∧ (B i).n ≤ 1000
def layF : List AV → Option (List Prop × Nat × (Nat → List AV))
  | [.ro N 27 g] => some ([N ≤ 1000, g = bsC (bsD g), inBs N (bsD g)], N, g)
  | _ => none
def mNlay : MCon := mcL 27 151 155 layF
theorem mNlay_eq {key : Nat} {m : Mem} {N : Nat} {g : Nat → List AV} : mNlay key m [.ro N 27 g] = some ⟨[N ≤ 1000, g = bsC (bsD g), inBs N (bsD g)], .own key 0 N 1, .many [] (some (famT key N 27 151 155 g))⟩ := (rfl)
theorem fitL_clean {N M : Nat} {σ : Names} : ∀ {l : List AV}, cleanCs l = true → fitL N M σ l l
  | [], _ => trivial
  | a :: l, h => by
    simp only [cleanCs, Bool.and_eq_true] at h
    refine ⟨?_, fitL_clean h.2⟩
    have h1 := h.1
    cases a <;> first | exact ⟨rfl, trivial⟩ | trivial | simp [cleanC] at h1
def mNtel : MCon := mcTR 27 151 155 57
end Go.Ax
end

section
/-
  New bodies, by the reference.
-/
set_option linter.unusedVariables false
set_option linter.unusedSimpArgs false
set_option maxHeartbeats 4000000
set_option maxRecDepth 100000
namespace Go.Ax
open Go.Proofs
def nwE (k r w t : Int) (n : Nat) (X Y : Nat → Int) (at' rot : V2) (d : Int) (mv : Bool) : Int :=
  if chkS k r w t n X Y ≠ 0 then chkS k r w t n X Y else
  if (if mv = true then wgE k r w t n X Y d else if d ≠ 0 then 3 else 0) ≠ 0 then (if mv = true then wgE k r w t n X Y d else if d ≠ 0 then 3 else 0) else plErr k r w t n X Y at' rot
def nwW (k r w t : Int) (n : Nat) (X Y : Nat → Int) (d : Int) (mv : Bool) : Nb × Nb := if mv = true then wgS k r w t n X Y d else ((0, false), (0, false))
def zV : V2 := ((0, false), (0, false))
def nwB (k r w t : Int) (n : Nat) (X Y : Nat → Int) (at' rot : V2) (d : Int) (mv : Bool) : Bd :=
  if nwE k r w t n X Y at' rot d mv = 0 then ⟨k, r, w, t, n, X, Y, at', rot, zV, (0, false), (nwW k r w t n X Y d mv).1, (nwW k r w t n X Y d mv).2, 0, false, false, 1⟩
  else ⟨0, 0, 0, 0, 0, X, Y, zV, zV, zV, (0, false), (0, false), (0, false), 0, false, false, 0⟩
theorem alk_bodyT {a b c d e p q : AV} {l : List AV} (h : alk p q) : alk (.tup [.agg (a :: b :: c :: d :: p :: l), e]) (.tup [.agg (a :: b :: c :: d :: q :: l), e]) := fun w ρ v hR => by
  cases hR with
  | tup hl hh =>
    refine .tup hl fun i x z h1 h2 => ?_
    match i with
    | 0 =>
      simp at h1; subst h1
      have := hh 0 _ z rfl h2
      cases this with
      | agg hl' hh' =>
        refine .agg hl' fun j x y h3 h4 => ?_
        match j with
        | 0 => exact hh' 0 x y h3 h4
        | 1 => exact hh' 1 x y h3 h4
        | 2 => exact hh' 2 x y h3 h4
        | 3 => exact hh' 3 x y h3 h4
        | 4 =>
          simp at h3; subst h3
          exact h _ _ _ (hh' 4 _ y rfl h4)
        | m + 5 => exact hh' (m + 5) x y h3 h4
    | i + 1 => exact hh (i + 1) x z h1 h2
theorem vc96 (k r w t : Int) (n : Nat) (X Y : Nat → Int) (at' rot : V2) (d : Int) (mv : Bool) (hX : ∀ i, i < n → inR (X i) ∧ inR (Y i)) (hn : n ≤ 9223372036854775806) (h0 : inR at'.1.1) (h1 : inR at'.2.1) (h2 : inR rot.1.1) (h3 : inR rot.2.1) (hd : inR d) :
    fnVC Tryz.prog [(166, c202), (167, c167), (146, c145), (168, c168)] [(13, ⟨[(5, .slot 8)], []⟩)] Tryz.f96 [shapeA k r w t n fun i => [i64 (X i), i64 (Y i)], poseA at' rot, i64 d, bo mv] (alk (.tup [boA (nwB k r w t n X Y at' rot d mv), i64 (nwE k r w t n X Y at' rot d mv)])) := by
  refine fnVC_go (rs := [.cell 8 57, .tmp 9]) rfl rfl ?_
  have hg : spots n fun i => [i64 (X i), i64 (Y i)] := fun i hi => ⟨rfl, hX i hi⟩
  simp only [go_sem, c202, c167, c145, c168, wgV, hg, hn, hd, gx_pts0, gx_pts1, h0, h1, h2, h3]
  simp only [forall_eq, Int.reduceBEq, Int.reduceBNe, reduceCtorEq, false_imp_iff, true_imp_iff, true_and, and_true]
  have n8 : chkS k r w t n X Y = 0 → n ≤ 1000 := fun h => by
    have := chk_cases h
    omega
  have bad : ∀ e : Int, nwE k r w t n X Y at' rot d mv = e → e ≠ 0 → alk (AV.tup [boA (nwB k r w t n X Y at' rot d mv), i64 (nwE k r w t n X Y at' rot d mv)]) (.tup [.agg [i64 0, i64 0, i64 0, i64 0, .v (.slice none 0 0), i64 0, bo false, i64 0, bo false, i64 0, bo false, i64 0, bo false, i64 0, bo false, i64 0, bo false, i64 0, bo false, i64 0, bo false, i64 0, bo false, i64 0, bo false, bo false, i64 0], i64 e]) := fun e he hne => by
    subst he
    rw [show nwB k r w t n X Y at' rot d mv = _ from if_neg hne]
    exact alk_bodyT alk_nil
  have good : ∀ m : Nb × Nb, nwE k r w t n X Y at' rot d mv = 0 → nwW k r w t n X Y d mv = m → alk (AV.tup [boA (nwB k r w t n X Y at' rot d mv), i64 (nwE k r w t n X Y at' rot d mv)]) (.tup [.agg [i64 k, i64 r, i64 w, i64 t, .ro n 2 fun i => [i64 (X i), i64 (Y i)], i64 at'.1.1, bo at'.1.2, i64 at'.2.1, bo at'.2.2, i64 rot.1.1, bo rot.1.2, i64 rot.2.1, bo rot.2.2, i64 0, bo false, i64 0, bo false, i64 0, bo false, i64 m.1.1, bo m.1.2, i64 m.2.1, bo m.2.2, i64 0, bo false, bo false, i64 1], i64 0]) := fun m he hm => by
    subst hm
    rw [show nwB k r w t n X Y at' rot d mv = _ from if_pos he, he]
    exact fun _ _ _ h => h
  refine ⟨fun h => bad _ (if_pos (bne_iff_ne.1 h)) (bne_iff_ne.1 h), fun h => ?_⟩
  have h : chkS k r w t n X Y = 0 := by simpa using h
  have eE : nwE k r w t n X Y at' rot d mv = if (if mv = true then wgE k r w t n X Y d else if d ≠ 0 then 3 else 0) ≠ 0 then (if mv = true then wgE k r w t n X Y d else if d ≠ 0 then 3 else 0) else plErr k r w t n X Y at' rot := if_neg (by simpa using h)
  refine ⟨fun hv => ?_, fun hv => ?_⟩
  · have eW : nwW k r w t n X Y d mv = wgS k r w t n X Y d := if_pos hv
    rw [if_pos hv] at eE
    refine ⟨fun g => ?_, fun g => ?_⟩
    · rw [if_neg (by simpa using g)] at eE
      exact ⟨fun p => bad _ eE (bne_iff_ne.1 p), fun p => ⟨n8 h, good _ (eE.trans (by simpa using p)) eW⟩⟩
    · have g : wgE k r w t n X Y d ≠ 0 := by simpa using g
      rw [if_pos g] at eE
      exact ⟨fun p => bad _ eE g, fun p => absurd (by simpa using p) g⟩
  · have eW : nwW k r w t n X Y d mv = ((0, false), (0, false)) := if_neg (by simp [hv])
    have eI : (if mv = true then wgE k r w t n X Y d else if d ≠ 0 then 3 else 0) = if d ≠ 0 then 3 else 0 := if_neg (by simp [hv])
    rw [eI] at eE
    refine ⟨fun g => ?_, fun g => ?_⟩
    · have g : d ≠ 0 := by simpa using g
      have eJ : (if d ≠ 0 then (3 : Int) else 0) = 3 := if_pos g
      rw [eJ, if_pos (by decide)] at eE
      exact bad _ eE (by decide)
    · have g : d = 0 := by simpa using g
      have eJ : (if d ≠ 0 then (3 : Int) else 0) = 0 := if_neg (by simpa using g)
      rw [eJ, if_neg (by decide)] at eE
      refine ⟨fun _ => ⟨fun p => bad _ eE (bne_iff_ne.1 p), fun p => ⟨n8 h, good _ (eE.trans (by simpa using p)) eW⟩⟩, fun g2 => absurd h (by simpa using g2)⟩
def c96 : Con
  | [.agg [.v (.int .i64 k), .v (.int .i64 r), .v (.int .i64 w), .v (.int .i64 t), .ro n 2 g], .agg [.v (.int .i64 x), .v (.bool e), .v (.int .i64 y), .v (.bool f), .v (.int .i64 c), .v (.bool o), .v (.int .i64 s), .v (.bool p)], .v (.int .i64 d), .v (.bool mv)] => some ([spots n g, n ≤ 9223372036854775806, inR x, inR y, inR c, inR s, inR d], .tup [boA (nwB k r w t n (gx g 0) (gx g 1) ((x, e), (y, f)) ((c, o), (s, p)) d mv), i64 (nwE k r w t n (gx g 0) (gx g 1) ((x, e), (y, f)) ((c, o), (s, p)) d mv)])
  | _ => none
theorem con96 : ConOK Tryz.prog 96 c96 := ConOK.goR (G := [(166, c202), (167, c167), (146, c145), (168, c168)]) (H := [(13, ⟨[(5, .slot 8)], []⟩)]) (.cons con166 (.cons con167 (.cons con146 (.cons con168 .nil)))) Tryz.func96 fun l ob rr hc hob => by
  unfold c96 at hc
  split at hc
  · rename_i k r w t n g x e y f c o s p d mv
    cases hc
    have hs : spots n g := hob _ (by simp)
    refine ⟨[shapeA k r w t n fun i => [i64 (gx g 0 i), i64 (gx g 1 i)], poseA ((x, e), (y, f)) ((c, o), (s, p)), i64 d, bo mv], fun w I vs h => ?_, by kernel_rfl, vc96 k r w t n _ _ ((x, e), (y, f)) ((c, o), (s, p)) d mv (fun i hi => (hs i hi).2) (hob _ (by simp)) (hob _ (by simp)) (hob _ (by simp)) (hob _ (by simp)) (hob _ (by simp)) (hob _ (by simp))⟩
    obtain ⟨x, xs, rfl, h1, h2⟩ := h.inv
    exact .cons (Rs_shape hs _ h1) h2
  · cases hc
end Go.Ax
end

section
/-
  Bodies made of numbers.
-/
set_option linter.unusedVariables false
set_option linter.unusedSimpArgs false
set_option maxHeartbeats 4000000
set_option maxRecDepth 100000
namespace Go.Ax
open Go.Proofs
def mkD (dn kd : Int) : Int := if modS kd 4 = 0 then 0 else 1 + modS dn 1000
def nuN (x s : Int) : Nb := (x.tmod (s * 4294967296), false)
def mk0 (a b c x y u dn kd s : Int) : Bd := nwB (mkK a) (mkR a b) (mkH a b b) (mkH a b c) (mkN a) (mkX a b c) (mkY a b c) (foAt x y s) (foRot u) (mkD dn kd) (modS kd 4 != 0)
def mkB (a b c x y u vx vy sp dn kd s : Int) : Bd :=
  if modS kd 4 = 1 then { mk0 a b c x y u dn kd s with v := (nuN vx 200, nuN vy 200), w := nuN sp 60 }
  else if modS kd 4 = 2 then { mk0 a b c x y u dn kd s with st := 30, sl := true }
  else if modS kd 4 = 3 then { mk0 a b c x y u dn kd s with sl := true, fa := true }
  else mk0 a b c x y u dn kd s
theorem wrD {dn : Int} : IntKind.i64.wrap (1 + modS dn 1000) = 1 + modS dn 1000 := by
  have h := modS_bd (n := dn) (m := 1000) (by omega)
  exact wrap_in (by unfold inR; omega)
theorem mk_spots {a b c : Int} : (spots (mkN a) fun i => [i64 (mkX a b c i), i64 (mkY a b c i)]) = True := eq_true fun i hi => ⟨rfl, mk_inR i hi⟩
theorem snV_inR {x : Int} {f : Bool} : inR (snV x f) := by
  have h := @snV_rg x f
  unfold rg at h
  unfold inR
  omega
theorem csV_inR {x : Int} {f : Bool} : inR (csV x f) := snV_inR
def kb24 : Con
  | [.agg [.v (.int .i64 a), .v (.int .i64 b), .v (.int .i64 c), .v (.int .i64 x), .v (.int .i64 y), .v (.int .i64 u), .v (.int .i64 p), .v (.int .i64 q), .v (.int .i64 r), .v (.int .i64 d), .v (.int .i64 k)], .v (.int .i64 s)] => some ([inR a, inR b, inR c, inR x, inR y, inR u, inR p, inR q, inR r, inR d, inR k, 1 ≤ s ∧ s ≤ 1000000], boA (mkB a b c x y u p q r d k s))
  | _ => none
theorem con24 : ConOK Tryz.prog 24 kb24 := ConOK.of (G := [(31, c31), (97, c97), (98, c98), (96, c96), (53, c53)]) (H := [(5, ⟨[(15, .made 14)], []⟩), (8, ⟨[(11, .slot 7), (13, .slot 7)], []⟩)]) (.cons con31 (.cons con97 (.cons con98 (.cons con96 (.cons con53 .nil))))) Tryz.func24 fun l ob rr hc hob => by
  unfold kb24 at hc
  split at hc
  · rename_i a b c x y u p q r d k s
    cases hc
    have h_0 : inR a := hob _ (by simp)
    have h_1 : inR b := hob _ (by simp)
    have h_2 : inR c := hob _ (by simp)
    have h_3 : inR x := hob _ (by simp)
    have h_4 : inR y := hob _ (by simp)
    have h_5 : inR u := hob _ (by simp)
    have h_6 : inR p := hob _ (by simp)
    have h_7 : inR q := hob _ (by simp)
    have h_8 : inR r := hob _ (by simp)
    have h_9 : inR d := hob _ (by simp)
    have h_10 : inR k := hob _ (by simp)
    have h_11 : 1 ≤ s ∧ s ≤ 1000000 := hob _ (by simp)
    clear hob
    refine ⟨by kernel_rfl, fnVC_go (rs := [.cell 4 57]) rfl rfl ?_⟩
    simp only [go_sem, c31, c97, c98, c96, c53, boA, bodyC, mk_spots, gx_pts0, gx_pts1, wrD, h_0, h_1, h_2, h_3, h_4, h_5, h_6, h_7, h_8, h_9, h_10, h_11]
    simp only [forall_eq, true_imp_iff, true_and, and_true, wrD]
    refine ⟨by unfold inR; omega, by unfold inR; omega, fun g0 => ?_, fun g0 => ?_⟩
    · have e0 : mk0 a b c x y u d k s = nwB (mkK a) (mkR a b) (mkH a b b) (mkH a b c) (mkN a) (mkX a b c) (mkY a b c) (foAt x y s) (foRot u) 0 (modS k 4 != 0) := by
        unfold mk0; rw [show mkD d k = 0 from if_pos (by simpa using g0)]
      exact ⟨mkN_le, tmod_inR h_11, tmod_inR h_11, csV_inR, snV_inR, fun g1 => by
          rw [show mkB a b c x y u p q r d k s = { mk0 a b c x y u d k s with v := (nuN p 200, nuN q 200), w := nuN r 60 } from if_pos (by simpa using g1), e0] <;> rfl,
        fun g1 => ⟨fun g2 => by
          rw [show mkB a b c x y u p q r d k s = { mk0 a b c x y u d k s with st := 30, sl := true } from (if_neg (by simpa using g1)).trans (if_pos (by simpa using g2)), e0] <;> rfl,
        fun g2 => ⟨fun g3 => by
          rw [show mkB a b c x y u p q r d k s = { mk0 a b c x y u d k s with sl := true, fa := true } from (if_neg (by simpa using g1)).trans ((if_neg (by simpa using g2)).trans (if_pos (by simpa using g3))), e0] <;> rfl,
        fun g3 => by
          rw [show mkB a b c x y u p q r d k s = mk0 a b c x y u d k s from (if_neg (by simpa using g1)).trans ((if_neg (by simpa using g2)).trans (if_neg (by simpa using g3))), e0] <;> rfl⟩⟩⟩
    · have e0 : mk0 a b c x y u d k s = nwB (mkK a) (mkR a b) (mkH a b b) (mkH a b c) (mkN a) (mkX a b c) (mkY a b c) (foAt x y s) (foRot u) (1 + modS d 1000) (modS k 4 != 0) := by
        unfold mk0; rw [show mkD d k = 1 + modS d 1000 from if_neg (by simpa using g0)]
      exact ⟨mkN_le, tmod_inR h_11, tmod_inR h_11, csV_inR, snV_inR, by have := modS_bd (n := d) (m := 1000) (by omega); unfold inR; omega, fun g1 => by
          rw [show mkB a b c x y u p q r d k s = { mk0 a b c x y u d k s with v := (nuN p 200, nuN q 200), w := nuN r 60 } from if_pos (by simpa using g1), e0] <;> rfl,
        fun g1 => ⟨fun g2 => by
          rw [show mkB a b c x y u p q r d k s = { mk0 a b c x y u d k s with st := 30, sl := true } from (if_neg (by simpa using g1)).trans (if_pos (by simpa using g2)), e0] <;> rfl,
        fun g2 => ⟨fun g3 => by
          rw [show mkB a b c x y u p q r d k s = { mk0 a b c x y u d k s with sl := true, fa := true } from (if_neg (by simpa using g1)).trans ((if_neg (by simpa using g2)).trans (if_pos (by simpa using g3))), e0] <;> rfl,
        fun g3 => by
          rw [show mkB a b c x y u p q r d k s = mk0 a b c x y u d k s from (if_neg (by simpa using g1)).trans ((if_neg (by simpa using g2)).trans (if_neg (by simpa using g3))), e0] <;> rfl⟩⟩⟩
  · cases hc
end Go.Ax
end

section
/-
  Two bodies of a table; what is asked of two bodies, and done to them.
-/
set_option linter.unusedVariables false
set_option linter.unusedSimpArgs false
set_option maxHeartbeats 4000000
set_option maxRecDepth 100000
namespace Go.Ax
open Go.Proofs
def updB (B : Nat → Bd) (i : Nat) (b : Bd) : Nat → Bd := fun j => if j = i then b else B j
theorem bsC_upd {B : Nat → Bd} {i : Nat} {b : Bd} : (fun j => if j = i then bodyC b else bsC B j) = bsC (updB B i b) := funext fun j => by
  unfold bsC updB
  split <;> rfl
theorem famT_upd {K N sz : Nat} {tp ty : TypeId} {B : Nat → Bd} {i : Nat} {b : Bd} : famT K N sz tp ty (fun j => if j = i then bodyC b else bsC B j) = famT K N sz tp ty (bsC (updB B i b)) := by rw [bsC_upd]
theorem famT_upd2 {K N sz : Nat} {tp ty : TypeId} {B : Nat → Bd} {i : Nat} {b : Bd} : famT K N sz tp ty (fun j => if j = i then bodyC b else bodyC (B j)) = famT K N sz tp ty (bsC (updB B i b)) := famT_upd
theorem tabOK_bs {K N : Nat} {B : Nat → Bd} : tabOK K N 27 151 155 (famT K N 27 151 155 (bsC B)) = True := tabOK_T fun _ _ => rfl
theorem famOK_bs {K N : Nat} {B : Nat → Bd} : famOK K (famT K N 27 151 155 (bsC B)) = True := famOK_T fun _ _ => rfl
attribute [go_sem] famT_upd famT_upd2 tabOK_bs famOK_bs bsC_at bsD_C
/-- A contact. -/
structure Ct where
  a : Int
  b : Int
  nv : V2
  n : Nat
  P : Nat → V2
  D : Nat → Nb
  p0 : Nb
  p1 : Nb
  r0 : Nb
  r1 : Nb
def tchC (p : V2) (d : Nb) : List AV := [i64 p.1.1, bo p.1.2, i64 p.2.1, bo p.2.2, i64 d.1, bo d.2]
def tchs (P : Nat → V2) (D : Nat → Nb) : Nat → List AV := fun j => tchC (P j) (D j)
def contC (c : Ct) : List AV := [i64 c.a, i64 c.b, i64 c.nv.1.1, bo c.nv.1.2, i64 c.nv.2.1, bo c.nv.2.2, .ro c.n 6 (tchs c.P c.D),
  i64 c.p0.1, bo c.p0.2, i64 c.p1.1, bo c.p1.2, i64 c.r0.1, bo c.r0.2, i64 c.r1.1, bo c.r1.2]
def tchP (g : Nat → List AV) : Nat → V2 := fun j => ((gi (g j) 0, gib (g j) 1), (gi (g j) 2, gib (g j) 3))
def tchD (g : Nat → List AV) : Nat → Nb := fun j => (gi (g j) 4, gib (g j) 5)
def contD (l : List AV) : Ct :=
  ⟨gi l 0, gi l 1, ((gi l 2, gib l 3), (gi l 4, gib l 5)), roN l 6, tchP (roG l 6), tchD (roG l 6), (gi l 7, gib l 8), (gi l 9, gib l 10), (gi l 11, gib l 12), (gi l 13, gib l 14)⟩
theorem contD_C (c : Ct) : contD (contC c) = c := rfl
section
variable {a b x y p q r s : Int} {n : Nat} {P : Nat → V2} {D : Nat → Nb} {e f k l m o : Bool}
end
section
variable {P : Program} {G : Ctx} {H : Hots} {K0 : AEx → St → Prop} {hot : Option Hot} {ops : Array Oper} {d : Option Tmp} {rest : List Oper} {i k : Nat} {st : List Fr} {t : Slots} {m : Mem} {nx : Nat} {o : List Prop} {u : Upd} {b : Ct} {c : Bool}
theorem ofC_cont : ofC (some (true, 15)) (contC b) = some (.agg (contC b)) := (rfl)
theorem cells_cont : cellsOf (.agg (contC b)) = some (contC b) := (rfl)
theorem drop_cont : (contC b).drop 15 = [] := (rfl)
theorem take_cont : (contC b).take 15 = contC b := (rfl)
theorem cleanCs_cont : cleanCs (contC b) = true := (rfl)
theorem clean_cont : clean 3 (.agg (contC b)) = true := (rfl)
theorem cleanL_cont : cleanL 2 (contC b) = true := (rfl)
theorem allCells_cont : allCells (contC b) = true := (rfl)
theorem len_cont : (contC b).length = 15 := (rfl)
theorem purUL_cont : purUL 2 m (contC b) = contC b := (rfl)
theorem pgsL_cont : pgsL 2 m (contC b) = [] := (rfl)
theorem purL_cont {d : Nat} : purL d m (contC b) = contC b := by cases d <;> rfl
theorem bindL_cont : bindL P G H K0 hot ops d rest i st t m nx o u false [] (contC b) = bindC P G H K0 hot ops d rest i st t m nx o u (.agg (contC b)) := by
  unfold bindL; simp
end
attribute [go_sem] ofC_cont cells_cont drop_cont take_cont cleanCs_cont clean_cont cleanL_cont allCells_cont len_cont purUL_cont pgsL_cont purL_cont bindL_cont contD_C
end Go.Ax
end

section
/-
  Two bodies are moved apart.
-/
set_option linter.unusedVariables false
set_option linter.unusedSimpArgs false
set_option maxHeartbeats 4000000
set_option maxRecDepth 100000
namespace Go.Ax
open Go.Proofs
/-- Two indexes of a list. -/
def apB (N : Nat) (a b : Int) : Prop := 0 ≤ a ∧ a < N ∧ 0 ≤ b ∧ b < N ∧ a ≠ b
instance {N : Nat} {a b : Int} : Decidable (apB N a b) := by unfold apB; infer_instance
def tellE (key K N : Nat) : Option Fam → Option Eff
  | some fam => some ⟨[tabOK K N 27 151 155 fam, N ≤ 1000, ∀ i, i < N → ((fam (i + 1)).get 0).length = 27 ∧ allCells ((fam (i + 1)).get 0) = true], .own key 0 N 27, .many [] (some (famN N 27 57 (fun i => (fam (i + 1)).get 0) none))⟩
  | none => none
theorem mNtel_at {key : Nat} {m : Mem} {K N : Nat} : mNtel key m [.own K 0 N 1] = tellE key K N (look m K) := by
  show (match look m K with
    | some fam => some (⟨[tabOK K N 27 151 155 fam, N ≤ 1000, ∀ i, i < N → ((fam (i + 1)).get 0).length = 27 ∧ allCells ((fam (i + 1)).get 0) = true], .own key 0 N 27, .many [] (some (famN N 27 57 (fun i => (fam (i + 1)).get 0) none))⟩ : Eff)
    | none => none) = _
  cases look m K <;> rfl
theorem tellE_bs {key K N : Nat} {B : Nat → Bd} : tellE key K N (some (famT K N 27 151 155 (bsC B))) = some ⟨[True, N ≤ 1000, True], .own key 0 N 27, .many [] (some (famN N 27 57 (bsC B) none))⟩ := by
  show some (⟨[tabOK K N 27 151 155 (famT K N 27 151 155 (bsC B)), N ≤ 1000, ∀ i, i < N → (bsC B i).length = 27 ∧ allCells (bsC B i) = true], .own key 0 N 27, .many [] (some (famN N 27 57 (bsC B) none))⟩ : Eff) = _
  rw [tabOK_bs, eq_true (show ∀ i, i < N → (bsC B i).length = 27 ∧ allCells (bsC B i) = true from fun i _ => ⟨rfl, rfl⟩)]
attribute [go_sem] mNtel_at tellE_bs mNlay_eq
def bsF : List AV → Option (List Prop × Nat × (Nat → List AV))
  | [.ro N 27 g] => some ([g = bsC (bsD g), N ≤ 1000, inBs N (bsD g)], N, g)
  | _ => none
def mNbs : MCon := mcV 27 57 bsF
theorem mNbs_eq {key : Nat} {m : Mem} {N : Nat} {g : Nat → List AV} : mNbs key m [.ro N 27 g] = some ⟨[g = bsC (bsD g), N ≤ 1000, inBs N (bsD g)], .own key 0 N 27, .many [] (some (famN N 27 57 g none))⟩ := (rfl)
attribute [go_sem] mNbs_eq
end Go.Ax
end

section
/-
  Moving apart, ars the reference does it.
-/
set_option linter.unusedVariables false
set_option linter.unusedSimpArgs false
set_option maxHeartbeats 4000000
set_option maxRecDepth 100000
namespace Go.Ax
open Go.Proofs
theorem famN_upd {N : Nat} {B : Nat → Bd} {i : Nat} {b : Bd} : famN N 27 57 (fun j => if j = i then bodyC b else bodyC (B j)) none = famN N 27 57 (bsC (updB B i b)) none := by rw [← bsC_upd]; rfl
theorem famN_upd2 {N : Nat} {B : Nat → Bd} {i : Nat} {b : Bd} : famN N 27 57 (fun j => if j = i then bodyC b else bsC B j) none = famN N 27 57 (bsC (updB B i b)) none := famN_upd
attribute [go_sem] famN_upd famN_upd2
end Go.Ax
end

section
/-
  Lists of bodies and contacts that are the same; copies of contacts.
-/
set_option linter.unusedVariables false
set_option linter.unusedSimpArgs false
set_option maxHeartbeats 4000000
set_option maxRecDepth 100000
namespace Go.Ax
open Go.Proofs
end Go.Ax
end

section
/-
  Times; bodies that are the same, by the program.
-/
set_option linter.unusedVariables false
set_option linter.unusedSimpArgs false
set_option maxHeartbeats 4000000
set_option maxRecDepth 100000
namespace Go.Ax
open Go.Proofs
def tiN (n : Int) : Int := 16777216 + modS n 1056964608
theorem tiN_bd {n : Int} : 16777216 ≤ tiN n ∧ tiN n ≤ 1073741824 := by
  have h := modS_bd (n := n) (m := 1056964608) (by omega)
  unfold tiN
  omega
theorem wrT {n : Int} : IntKind.i64.wrap (16777216 + modS n 1056964608) = tiN n := by
  have h := @tiN_bd n
  exact wrap_in (by show inR (tiN n); unfold inR; omega)
def kt48 : Con
  | [.v (.int .i64 n)] => some ([inR n], nbA (tiN n, false))
  | _ => none
theorem kont48 : ConOK Tryz.prog 48 kt48 := ConOK.of (G := [(31, c31)]) (H := []) (.cons con31 .nil) Tryz.func48 fun l ob rr hc hob => by
  unfold kt48 at hc
  split at hc
  · rename_i n
    cases hc
    have h_0 : inR n := hob _ (by simp)
    refine ⟨by kernel_rfl, fnVC_go (rs := [.cell 2 24]) rfl rfl ?_⟩
    simp only [go_sem, c31, iMul, iDiv, iInt, iAdd, iSub, iRat, iDot, iHyp, iSq, iNeg, iPos, iAbs, iMx, iMn, iCl, iWh, iLoc1, iLoc2, iVAdd1, iVAdd2, iVSub1, iVSub2, iScale1, iScale2, iVDot, iVCross, iLen, iOf1, iOf2, iUnit1, iUnit2, h_0]
    simp only [forall_eq, wrT]
    exact ⟨by unfold inR; omega, rfl⟩
  · cases hc
theorem vc193 (n : Nat) (X Y : Nat → Int) (hn : n ≤ 1000) : fnVC Tryz.prog [] [] Tryz.f193 [.ro n 2 fun i => [i64 (X i), i64 (Y i)], .ro n 2 fun i => [i64 (X i), i64 (Y i)]] (· = bo true) := by
  refine fnVC_go (rs := [.tmp 4]) rfl rfl ?_
  simp only [go_sem]
  refine ⟨fun h => by simp at h, fun h => ?_⟩
  refine loopC_go (fun (i : Nat) => i ≤ n) (fun i => n - i) (fun i => [(13, i64 (i : Int))]) (fun _ => []) [] [14, 15, 5, 16, 17, 18, 19, 20, 21, 22, 23, 24, 4, 25, 13] 0 (by kernel_rfl) ?_ (Nat.zero_le _) ?_ ?_
  · intro x _; simp [goodNames, asg]
  · simp only [go_sem]
  intro i hi
  simp only [go_sem, forall_eq, beq_self_eq_true, bne_self_eq_false]
  exact ⟨fun h => ⟨by omega, h, by omega, h, fun _ => ⟨i + 1, by omega, by omega, by rw [wrap_in (by unfold inR; omega)]; rfl⟩⟩, fun _ => trivial⟩
def kSq : Con
  | [.ro n 2 g, b] => some ([spots n g, n ≤ 1000, b = .ro n 2 g], bo true)
  | _ => none
theorem con193 : ConOK Tryz.prog 193 kSq := ConOK.go (G := []) (H := []) .nil Tryz.func193 fun l ob rr hc hob => by
  unfold kSq at hc
  split at hc
  · rename_i n g b
    cases hc
    have hs : spots n g := hob _ (by simp)
    have hn : n ≤ 1000 := hob _ (by simp)
    have hb : b = .ro n 2 g := hob _ (by simp)
    subst hb
    refine ⟨[.ro n 2 fun i => [i64 (gx g 0 i), i64 (gx g 1 i)], .ro n 2 fun i => [i64 (gx g 0 i), i64 (gx g 1 i)]], fun w I vs h => Rs_two (fun v hv => ro_alike (fun i hi => (hs i hi).1) hv) (fun v hv => ro_alike (fun i hi => (hs i hi).1) hv) h, by kernel_rfl, vc193 n _ _ hn⟩
  · cases hc
theorem aEq209 {a0 b0 : Int} {a1 b1 : Int} {a2 b2 : Int} {a3 b3 : Int} : aEq Tryz.prog 209 (.agg [i64 a0, i64 a1, i64 a2, i64 a3]) (.agg [i64 b0, i64 b1, i64 b2, i64 b3]) = some ((a0 == b0) && ((a1 == b1) && ((a2 == b2) && ((a3 == b3) && true)))) := by kernel_rfl
theorem eq209 {xo yo : Operand} {neg : Bool} {a0 b0 : Int} {a1 b1 : Int} {a2 b2 : Int} {a3 b3 : Int} : eqE Tryz.prog neg 209 xo yo (.agg [i64 a0, i64 a1, i64 a2, i64 a3]) (.agg [i64 b0, i64 b1, i64 b2, i64 b3]) = some ⟨[], .v (.bool (negV neg ((a0 == b0) && ((a1 == b1) && ((a2 == b2) && ((a3 == b3) && true)))))), .none⟩ := eqE_agg aEq209
attribute [go_sem] eq209
theorem vc135 (k r w t : Int) (n : Nat) (X Y : Nat → Int) (hX : ∀ i, i < n → inR (X i) ∧ inR (Y i)) (hn : n ≤ 1000) : fnVC Tryz.prog [(193, kSq)] [] Tryz.f135 [shapeA k r w t n fun i => [i64 (X i), i64 (Y i)], shapeA k r w t n fun i => [i64 (X i), i64 (Y i)]] (· = bo true) := by
  refine fnVC_go (rs := [.tmp 4]) rfl rfl ?_
  have hg : spots n fun i => [i64 (X i), i64 (Y i)] := fun i hi => ⟨rfl, hX i hi⟩
  simp only [go_sem, kSq, kSq, hg, hn, beq_self_eq_true, Bool.and_self, Bool.and_true]
  exact fun _ => trivial
def kSh : Con
  | [.agg [.v (.int .i64 k), .v (.int .i64 r), .v (.int .i64 w), .v (.int .i64 t), .ro n 2 g], b] => some ([spots n g, n ≤ 1000, b = .agg [i64 k, i64 r, i64 w, i64 t, .ro n 2 g]], bo true)
  | _ => none
theorem con135 : ConOK Tryz.prog 135 kSh := ConOK.go (G := [(193, kSq)]) (H := []) (.cons con193 .nil) Tryz.func135 fun l ob rr hc hob => by
  unfold kSh at hc
  split at hc
  · rename_i k r w t n g b
    cases hc
    have hs : spots n g := hob _ (by simp)
    have hn : n ≤ 1000 := hob _ (by simp)
    have hb : b = .agg [i64 k, i64 r, i64 w, i64 t, .ro n 2 g] := hob _ (by simp)
    subst hb
    exact ⟨[shapeA k r w t n fun i => [i64 (gx g 0 i), i64 (gx g 1 i)], shapeA k r w t n fun i => [i64 (gx g 0 i), i64 (gx g 1 i)]], fun w I vs h => Rs_two (Rs_shape hs) (Rs_shape hs) h, by kernel_rfl, vc135 k r w t n _ _ (fun i hi => (hs i hi).2) hn⟩
  · cases hc
def kb47 : Con := cB fun b rest => match rest with
  | [a] => some ([inB b, b.n ≤ 1000, a = .agg (bodyC b)], bo true)
  | _ => none
theorem con47 : ConOK Tryz.prog 47 kb47 := ConOK.cB (G := [(135, kSh)]) (H := []) (.cons con135 .nil) Tryz.func47 fun b rest ob r hc hob => by
  split at hc
  · rename_i a
    cases hc
    have h_0 : inB b := hob _ (by simp)
    have h_1 : b.n ≤ 1000 := hob _ (by simp)
    have h_2 : a = .agg (bodyC b) := hob _ (by simp)
    obtain ⟨b1, b2, b3, b4, b5, b6, b7, b8, b9, b10, b11, b12, b13, b14, b15, b16⟩ := h_0
    have hb : inB b := hob _ (by simp)
    subst h_2
    refine ⟨by kernel_rfl, fnVC_go (rs := [.tmp 4]) rfl rfl ?_⟩
    simp only [bodyC, go_sem, kSh, cB_eq, cBR_eq, bodyD_lit, gx_pts0, gx_pts1, spots_can, etaN, etaV, bd_eta, b1, b2, b3, b4, b6, b7, b8, b9, b10, b11, b12, b13, b14, b15, b16, hb, h_1]
    intro z hz
    subst hz
    exact ⟨b5, (fun h => by cases h), by simp⟩
  · cases hc
end Go.Ax
end

section
/-
  SolverSleeps: its body.
-/
set_option linter.unusedVariables false
set_option linter.unusedSimpArgs false
set_option maxHeartbeats 4000000
set_option maxRecDepth 100000
namespace Go.Ax
open Go.Proofs
/-- The body that sleeps. -/
def slB (a b c x y u p q r d : Int) : Bd := { mkB a b c x y u p q r d 1 4000 with v := zV, w := (0, false) }
def slQ (b : Bd) : Nat → Bd
  | 0 => b
  | i + 1 => resS (slQ b i)
theorem slQ_s {b : Bd} {i : Nat} : slQ b (i + 1) = resS (slQ b i) := rfl
theorem vc8 (a b c x y u p q r d k n : Int) (h0 : inR a) (h1 : inR b) (h2 : inR c) (h3 : inR x) (h4 : inR y) (h5 : inR u) (h6 : inR p) (h7 : inR q) (h8 : inR r) (h9 : inR d) (hn : inR n)
    (hb : inB (slB a b c x y u p q r d)) (hbn : (slB a b c x y u p q r d).n ≤ 1000) (hg : goS (slB a b c x y u p q r d) (tiN n, false) = slB a b c x y u p q r d)
    (hQ : ∀ i, i ≤ 30 → inB (slQ (slB a b c x y u p q r d) i) ∧ (slQ (slB a b c x y u p q r d) i).n ≤ 1000) (hS : ∀ i, i < 30 → (slQ (slB a b c x y u p q r d) i).sl = false) (hS2 : (slQ (slB a b c x y u p q r d) 30).sl = true) (hR : resS (slQ (slB a b c x y u p q r d) 30) = slQ (slB a b c x y u p q r d) 30) :
    fnVC Tryz.prog [(24, kb24), (48, kt48), (41, kb41), (47, kb47), (43, kb43), (15, c15)] [] Tryz.f8 [.agg [i64 a, i64 b, i64 c, i64 x, i64 y, i64 u, i64 p, i64 q, i64 r, i64 d, i64 k], i64 n] (· = bo true) := by
  refine fnVC_go (rs := [.tmp 4]) rfl rfl ?_
  simp only [bodyC, go_sem, kb24, kt48, kb41, kb47, kb43, c15, cB_eq, cBR_eq, bodyD_lit, gx_pts0, gx_pts1, spots_can, etaN, etaV, bd_eta, h0, h1, h2, h3, h4, h5, h6, h7, h8, h9, hn]
  intro b' hb' b1 hb1
  subst hb'
  have hb1 : b1 = slB a b c x y u p q r d := hb1.trans hg
  subst hb1
  refine ⟨hb, hbn, by have := @tiN_bd n; unfold inR; omega, fun z hz => ⟨hb, hbn, rfl, fun hz2 => (by rw [hz] at hz2; cases hz2), fun _ => ?_⟩⟩
  refine loopC_go (fun (i : Nat) => i ≤ 30) (fun i => 30 - i) (fun i => [(6, i64 (i : Int))]) (fun i => [(6, fam1 57 27 (bodyC (slQ (slB a b c x y u p q r d) i)) none)]) [0] [21, 22, 25, 26, 4, 27, 28, 23, 24, 6] 0 (by kernel_rfl) ?_ (Nat.zero_le _) ?_ ?_
  · intro i _; simp [goodNames, asg]
  · simp only [go_sem]
    exact fitL_clean rfl
  intro i hi
  obtain ⟨i1, i2⟩ := hQ i hi
  generalize hq : slQ (slB a b c x y u p q r d) i = B at *
  simp only [bodyC, go_sem, kb24, kt48, kb41, kb47, kb43, c15, cB_eq, cBR_eq, bodyD_lit, gx_pts0, gx_pts1, spots_can, etaN, etaV, bd_eta, i1, i2]
  refine ⟨fun h => ⟨fun w => ?_, fun w b' hb' z hz => ⟨i + 1, by omega, by omega, by rw [hz, wrap_in (by unfold inR; omega)]; rfl, ?_⟩⟩, fun h => ?_⟩
  · have := hS i (by omega)
    rw [hq, w] at this
    cases this
  · have e : slQ (slB a b c x y u p q r d) (i + 1) = b' := by rw [slQ_s, hq, hb']
    rw [e]
    (repeat' (first | rfl | apply And.intro))
  · have e : i = 30 := by omega
    subst e
    rw [hq] at hS2 hR
    rw [hS2, hR]
    intro b' hb'
    subst hb'
    refine ⟨fun _ => trivial, fun _ => trivial, fun _ => trivial, fun z hz => ⟨fun _ => trivial, fun _ => i1, fun _ => i2, fun _ => by rw [hS2], fun z1 hz1 => ⟨⟨rfl, hz⟩, hz1⟩⟩⟩
end Go.Ax
end

section
/-
  A body at rest falls asleep.
-/
set_option linter.unusedVariables false
set_option linter.unusedSimpArgs false
set_option maxHeartbeats 4000000
set_option maxRecDepth 100000
namespace Go.Ax
open Go.Proofs
theorem fst0 {b : Bd} (hv : b.v = zV) (hw : b.w = (0, false)) : fstS b = 0 := by
  unfold fstS
  rw [hv, hw]
  decide +kernel
theorem slQ_eq {b : Bd} (hm : mvS b = true) (hs : b.sl = false) (hf : b.fa = false) (ht : b.st = 0) (hv : b.v = zV) (hw : b.w = (0, false)) : ∀ i : Nat, i < 30 → slQ b i = { b with st := (i : Int) }
  | 0, _ => by
    show b = _
    cases b
    cases ht
    rfl
  | i + 1, h => by
    have e := slQ_eq hm hs hf ht hv hw i (by omega)
    rw [slQ_s, e]
    have hi : idS { b with st := (i : Int) } = false := by
      unfold idS
      show (!mvS b || b.sl || b.fa) = false
      rw [hm, hs, hf]; rfl
    have hf0 : fstS { b with st := (i : Int) } = 0 := fst0 hv hw
    unfold resS
    rw [if_neg (by rw [hi]; decide), hf0, if_neg (by decide +kernel)]
    have hmn : min (i : Int) 29 + 1 = ((i + 1 : Nat) : Int) := by omega
    show (if min (i : Int) 29 + 1 = 30 then _ else _) = _
    rw [hmn, if_neg (by omega)]
theorem slQ_30 {b : Bd} (hm : mvS b = true) (hs : b.sl = false) (hf : b.fa = false) (ht : b.st = 0) (hv : b.v = zV) (hw : b.w = (0, false)) : slQ b 30 = { rstS b with st := 30 } := by
  have e := slQ_eq hm hs hf ht hv hw 29 (by omega)
  rw [slQ_s, e]
  have hi : idS { b with st := ((29 : Nat) : Int) } = false := by
    unfold idS
    show (!mvS b || b.sl || b.fa) = false
    rw [hm, hs, hf]; rfl
  have hf0 : fstS { b with st := ((29 : Nat) : Int) } = 0 := fst0 hv hw
  unfold resS
  rw [if_neg (by rw [hi]; decide), hf0, if_neg (by decide +kernel), if_pos (by show min ((29 : Nat) : Int) 29 + 1 = 30; decide)]
  rfl
theorem res_sl {b : Bd} (h : b.sl = true) : resS b = b := by
  unfold resS
  refine if_pos ?_
  unfold idS
  rw [h]; simp
theorem whV_0' : whV 0 = 0 := by decide
theorem whF_in {x : Int} (h : -1000000000000000000 ≤ x) : whF x false = false := by
  unfold whF
  simp
  omega
theorem whV_in {x : Int} (h : -1000000000000000000 ≤ x) (h2 : x ≤ 1000000000000000000) : whV x = x := by
  unfold whV
  split <;> omega
theorem ftV_in {x : Int} (h : -1000000000000000000 ≤ x) (h2 : x ≤ 1000000000000000000) : ftV x = x := by
  unfold ftV
  (repeat' split) <;> omega
theorem ftF_in {x : Int} (h : -1000000000000000000 ≤ x) (h2 : x ≤ 1000000000000000000) : ftF x = false := by
  unfold ftF
  simp
  omega
theorem nMul_0 {t : Int} (h : -1000000000000000000 ≤ t) : nMul (0, false) (t, false) = (0, false) := by
  unfold nMul
  dsimp only
  rw [whV_0', Int.zero_mul, Int.zero_tdiv, ftV_in (by omega) (by omega), ftF_in (by omega) (by omega), whF_in h, whF_in (by omega)]
  rfl
theorem nAdd_0 {x : Int} (h : -1000000000000000000 ≤ x) (h2 : x ≤ 1000000000000000000) : nAdd (x, false) (0, false) = (x, false) := by
  unfold nAdd
  dsimp only
  rw [whV_0', Int.add_zero, whV_in h h2, ftV_in h h2, ftF_in h h2, whF_in h, whF_in (by omega)]
  rfl
theorem go_rest {b : Bd} {x y t : Int} (hi : idS b = false) (hp : b.pl = ((x, false), (y, false))) (hv : b.v = zV) (hw : b.w = (0, false)) (ht : -1000000000000000000 ≤ t)
    (hx : -17592186044416 ≤ x ∧ x ≤ 17592186044416) (hy : -17592186044416 ≤ y ∧ y ≤ 17592186044416) : goS b (t, false) = b := by
  have e1 : vAdd b.pl (vScale b.v (t, false)) = b.pl := by
    rw [hp, hv]
    unfold zV vScale vAdd
    dsimp only
    rw [nMul_0 ht, nAdd_0 (by omega) (by omega), nAdd_0 (by omega) (by omega)]
  have e2 : (nMul b.w (t, false)).1 = 0 := by rw [hw, nMul_0 ht]
  have e3 : ∀ z : Int, -17592186044416 ≤ z → z ≤ 17592186044416 → withS (z, false) 4096 = true := fun z h1 h2 => by
    unfold withS
    dsimp only
    rw [whF_in (by omega), decide_eq_true ⟨by omega, by omega⟩]
    rfl
  unfold goS
  rw [hi, if_neg (by decide), e1, if_pos (by rw [hp]; dsimp only; rw [e3 x hx.1 hx.2, e3 y hy.1 hy.2]; rfl), if_pos e2]
end Go.Ax
end
