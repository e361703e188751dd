/-
  Bodies: what is given an impulse, a force, a time, a rest, and woken.
-/
import Derived.Test.YtafigekkhpepkaaGreatCM6
section
set_option linter.unusedVariables false
set_option linter.unusedSimpArgs false
set_option maxHeartbeats 4000000
set_option maxRecDepth 100000
namespace Go.Ax
open Go.Proofs
/-- A copy of a body to work on. -/
def onF : List AV → Option (List Prop × List AV)
  | [.agg l] => some ([l = bodyC (bodyD l), inB (bodyD l), (bodyD l).n ≤ 1000], bodyC (bodyD l))
  | _ => none
def mNon : MCon := mcN 155 onF
theorem mNon_eq {key : Nat} {m : Mem} {l : List AV} : mNon key m [.agg l] = some ⟨[l = bodyC (bodyD l), inB (bodyD l), (bodyD l).n ≤ 1000], .bx key 0, .many [] (some (fam1 155 27 (bodyC (bodyD l)) none))⟩ := (rfl)
theorem con114m : MConOK Tryz.prog 114 mNon := MConOK.mcN (G := [(173, kb173)]) (H := []) (.cons konb173 .nil) Tryz.func114 fun es ob cs hF hob => by
  unfold onF at hF
  split at hF
  · rename_i l
    cases hF
    have e : l = bodyC (bodyD l) := hob _ (by simp)
    have h : inB (bodyD l) := hob _ (by simp)
    have hn : (bodyD l).n ≤ 1000 := hob _ (by simp)
    generalize bodyD l = b at *
    subst e
    refine ⟨by simp [clean_body], by simp [bodyC, cleanCs, cleanC], by kernel_rfl, bodyM_go (rs := [.tmp 2]) rfl rfl ?_⟩
    obtain ⟨b1, b2, b3, b4, b5, b6, b7, b8, b9, b10, b11, b12, b13, b14, b15, b16⟩ := id h
    simp only [bodyC, go_sem, kb173, cB_eq, bodyD_lit, gx_pts0, gx_pts1, etaN, etaV, bd_eta, h, hn]
    simp only [forall_eq]
    exact ⟨5, rfl, if_pos rfl⟩
  · cases hF
def pulS (b : Bd) (g : V2) (t : Nb) : Bd := if idS b then b else { b with v := limV (vAdd b.v (vScale g t)) }
def goS (b : Bd) (t : Nb) : Bd := if idS b then b else
  if (withS (vAdd b.pl (vScale b.v t)).1 4096 && withS (vAdd b.pl (vScale b.v t)).2 4096) then
    (if (nMul b.w t).1 = 0 then { b with pl := vAdd b.pl (vScale b.v t) } else { b with pl := vAdd b.pl (vScale b.v t), rot := spiS b.rot (nMul b.w t) })
  else { rstS b with fa := true, st := 0 }
def kb38 : Con := cB fun b rest => match rest with
  | [.agg [.v (.int .i64 x), .v (.bool e), .v (.int .i64 y), .v (.bool f)], .agg [.v (.int .i64 z), .v (.bool g), .v (.int .i64 u), .v (.bool h)]] => some ([inB b, b.n ≤ 1000, inR x, inR y, inR z, inR u], boA (pshS b ((x, e), (y, f)) ((z, g), (u, h))))
  | _ => none
theorem konb38 : ConOK Tryz.prog 38 kb38 := ConOK.cB (G := [(116, kb116), (66, kw26), (85, k147), (86, k138), (117, kw117l), (110, kb110), (119, k141), (27, k52), (79, k208), (118, kw118)]) (H := [(4, ⟨[(11, .slot 3)], []⟩), (5, ⟨[(14, .slot 3)], []⟩)]) (.cons konb116 (.cons konw66 (.cons kon147 (.cons kon138 (.cons konw117l (.cons konb110 (.cons kon141 (.cons kon52 (.cons kon208 (.cons konw118 .nil)))))))))) Tryz.func38 fun b rest ob r hc hob => by
  split at hc
  · rename_i x e y f z g u h
    cases hc
    have h_0 : inB b := hob _ (by simp)
    have h_1 : b.n ≤ 1000 := hob _ (by simp)
    have h_2 : inR x := hob _ (by simp)
    have h_3 : inR y := hob _ (by simp)
    have h_4 : inR z := hob _ (by simp)
    have h_5 : inR u := hob _ (by simp)
    obtain ⟨b1, b2, b3, b4, b5, b6, b7, b8, b9, b10, b11, b12, b13, b14, b15, b16⟩ := h_0
    have hb : inB b := hob _ (by simp)
    refine ⟨by kernel_rfl, fnVC_go (rs := [.cell 6 57]) rfl rfl ?_⟩
    simp only [bodyC, go_sem, kb116, kw26, k147, k138, kw117l, kb110, k141, k52, k208, kw118, cB_eq, cBR_eq, bodyD_lit, gx_pts0, gx_pts1, spots_can, etaN, etaV, bd_eta, b1, b2, b3, b4, b6, b7, b8, b9, b10, b11, b12, b13, b14, b15, b16, hb, h_1, h_2, h_3, h_4, h_5]
    simp only [forall_eq]
    refine ⟨b13, b14, fun hh => ?_, fun hh => ⟨b13, ⟨b10, b11⟩, inB_push hb (of_eq_true (iLim (of_eq_true iVAdd1))) (of_eq_true (iLim (of_eq_true iVAdd2))) b12, b14, b12, fun hs => ?_, fun hs => ?_⟩⟩
    · have e1 : pshS b ((x, e), (y, f)) ((z, g), (u, h)) = b := if_pos (by rcases hh with k | k <;> simp [k])
      rw [e1]; rfl
    · have e1 : pshS b ((x, e), (y, f)) ((z, g), (u, h)) = { b with v := limV (vAdd b.v (vScale ((z, g), (u, h)) b.m)), w := limS (nAdd b.w (nMul b.i (vCross (vSub ((x, e), (y, f)) b.pl) ((z, g), (u, h))))) 64, sl := false, st := 0 } := by
        unfold pshS
        rw [if_neg (by simp [hh])]
        dsimp only
        rw [if_pos hs]
        exact if_pos (by show (mvS b && !b.fa) = true; simp [hh])
      rw [e1]; rfl
    · have e1 : pshS b ((x, e), (y, f)) ((z, g), (u, h)) = { b with v := limV (vAdd b.v (vScale ((z, g), (u, h)) b.m)), w := limS (nAdd b.w (nMul b.i (vCross (vSub ((x, e), (y, f)) b.pl) ((z, g), (u, h))))) 64 } := by
        unfold pshS
        rw [if_neg (by simp [hh])]
        dsimp only
        rw [if_neg (by rw [hs]; simp)]
      rw [e1]; rfl
  · cases hc
def kb40 : Con := cB fun b rest => match rest with
  | [.agg [.v (.int .i64 x), .v (.bool e), .v (.int .i64 y), .v (.bool f)], .agg [.v (.int .i64 z), .v (.bool g)]] => some ([inB b, b.n ≤ 1000, inR x, inR y, inR z], boA (pulS b ((x, e), (y, f)) (z, g)))
  | _ => none
theorem konb40 : ConOK Tryz.prog 40 kb40 := ConOK.cB (G := [(116, kb116), (68, kw67), (85, k147), (86, k138), (117, kw117l)]) (H := [(3, ⟨[(9, .slot 3)], []⟩)]) (.cons konb116 (.cons konw68 (.cons kon147 (.cons kon138 (.cons konw117l .nil))))) Tryz.func40 fun b rest ob r hc hob => by
  split at hc
  · rename_i x e y f z g
    cases hc
    have h_0 : inB b := hob _ (by simp)
    have h_1 : b.n ≤ 1000 := hob _ (by simp)
    have h_2 : inR x := hob _ (by simp)
    have h_3 : inR y := hob _ (by simp)
    have h_4 : inR z := hob _ (by simp)
    obtain ⟨b1, b2, b3, b4, b5, b6, b7, b8, b9, b10, b11, b12, b13, b14, b15, b16⟩ := h_0
    have hb : inB b := hob _ (by simp)
    refine ⟨by kernel_rfl, fnVC_go (rs := [.cell 6 57]) rfl rfl ?_⟩
    simp only [bodyC, go_sem, kb116, kw67, k147, k138, kw117l, cB_eq, cBR_eq, bodyD_lit, gx_pts0, gx_pts1, spots_can, etaN, etaV, bd_eta, b1, b2, b3, b4, b6, b7, b8, b9, b10, b11, b12, b13, b14, b15, b16, hb, h_1, h_2, h_3, h_4]
    simp only [forall_eq]
    refine ⟨b13, b14, fun hh => ⟨⟨b10, b11⟩, ?_⟩, fun hh => ?_⟩
    · unfold pulS; rw [if_neg (by simp [hh])]; rfl
    · unfold pulS; rw [if_pos hh]; rfl
  · cases hc
def kb42 : Con := cB fun b rest => match rest with
  | [.agg [.v (.int .i64 z), .v (.bool g)]] => some ([inB b, b.n ≤ 1000, inR z], boA (goS b (z, g)))
  | _ => none
theorem konb42 : ConOK Tryz.prog 42 kb42 := ConOK.cB (G := [(116, kb116), (68, kw67), (85, k147), (86, k138), (127, kw127b), (27, k52), (128, kq128)]) (H := [(4, ⟨[(10, .made 9)], []⟩)]) (.cons konb116 (.cons konw68 (.cons kon147 (.cons kon138 (.cons konw127b (.cons kon52 (.cons konq128 .nil))))))) Tryz.func42 fun b rest ob r hc hob => by
  split at hc
  · rename_i z g
    cases hc
    have h_0 : inB b := hob _ (by simp)
    have h_1 : b.n ≤ 1000 := hob _ (by simp)
    have h_2 : inR z := hob _ (by simp)
    obtain ⟨b1, b2, b3, b4, b5, b6, b7, b8, b9, b10, b11, b12, b13, b14, b15, b16⟩ := h_0
    have hb : inB b := hob _ (by simp)
    refine ⟨by kernel_rfl, fnVC_go (rs := [.cell 4 57]) rfl rfl ?_⟩
    simp only [bodyC, go_sem, kb116, kw67, k147, k138, kw127b, k52, kq128, cB_eq, cBR_eq, bodyD_lit, gx_pts0, gx_pts1, spots_can, etaN, etaV, bd_eta, b1, b2, b3, b4, b6, b7, b8, b9, b10, b11, b12, b13, b14, b15, b16, hb, h_1, h_2]
    simp only [forall_eq]
    refine ⟨b13, b14, fun h1 => ?_, fun h1 => ⟨b10, b11, ⟨b6, b7⟩, fun h2 => ?_, fun h2 => ⟨b12, fun h3 => ⟨b8, b9, ?_⟩, fun h3 => ?_⟩⟩⟩
    · unfold goS; rw [if_pos h1]; rfl
    · unfold goS; rw [if_neg (by simp [h1]), if_neg (by rw [h2]; simp)]; rfl
    · unfold goS; rw [if_neg (by simp [h1]), if_pos h2, if_neg (by simpa using h3)]; rfl
    · unfold goS; rw [if_neg (by simp [h1]), if_pos h2, if_pos (by simpa using h3)]; rfl
  · cases hc
def kb46 : Con := cB fun b rest => match rest with
  | [] => some ([inB b, b.n ≤ 1000], boA (wakS b))
  | _ => none
theorem konb46 : ConOK Tryz.prog 46 kb46 := ConOK.cB (G := [(116, kb116), (66, kw26)]) (H := []) (.cons konb116 (.cons konw66 .nil)) Tryz.func46 fun b rest ob r hc hob => by
  split at hc
  · skip
    cases hc
    have h_0 : inB b := hob _ (by simp)
    have h_1 : b.n ≤ 1000 := hob _ (by simp)
    obtain ⟨b1, b2, b3, b4, b5, b6, b7, b8, b9, b10, b11, b12, b13, b14, b15, b16⟩ := h_0
    have hb : inB b := hob _ (by simp)
    refine ⟨by kernel_rfl, fnVC_go (rs := [.cell 2 57]) rfl rfl ?_⟩
    simp only [bodyC, go_sem, kb116, kw26, cB_eq, cBR_eq, bodyD_lit, gx_pts0, gx_pts1, spots_can, etaN, etaV, bd_eta, b1, b2, b3, b4, b6, b7, b8, b9, b10, b11, b12, b13, b14, b15, b16, hb, h_1]
    simp only [forall_eq]
    refine ⟨b13, b14, fun h1 => ?_, fun h1 => ?_⟩
    · unfold wakS; rw [if_pos (by simp [h1])]; rfl
    · unfold wakS; rw [if_neg (by rw [h1]; simp)]; rfl
  · cases hc
def kb37 : Con := cB fun b rest => match rest with
  | [.agg [.v (.int .i64 x), .v (.bool e), .v (.int .i64 y), .v (.bool f)], .agg [.v (.int .i64 z), .v (.bool g), .v (.int .i64 u), .v (.bool h)]] => some ([inB b, b.n ≤ 1000, inR x, inR y, inR z, inR u], boA (pshS b ((x, e), (y, f)) ((z, g), (u, h))))
  | _ => none
theorem konb37 : ConOK Tryz.prog 37 kb37 := ConOK.cB (G := [(114, .wr mNon), (115, .wr kw115)]) (H := []) (.mcons con114m (.mcons konw115 .nil)) Tryz.func37 fun b rest ob r hc hob => by
  split at hc
  · rename_i x e y f z g u h
    cases hc
    have h_0 : inB b := hob _ (by simp)
    have h_1 : b.n ≤ 1000 := hob _ (by simp)
    have h_2 : inR x := hob _ (by simp)
    have h_3 : inR y := hob _ (by simp)
    have h_4 : inR z := hob _ (by simp)
    have h_5 : inR u := hob _ (by simp)
    obtain ⟨b1, b2, b3, b4, b5, b6, b7, b8, b9, b10, b11, b12, b13, b14, b15, b16⟩ := h_0
    have hb : inB b := hob _ (by simp)
    refine ⟨by kernel_rfl, fnVC_go (rs := [.cell 6 57]) rfl rfl ?_⟩
    simp only [bodyC, go_sem, kw115, cB_eq, cBR_eq, bodyD_lit, gx_pts0, gx_pts1, spots_can, etaN, etaV, bd_eta, b1, b2, b3, b4, b6, b7, b8, b9, b10, b11, b12, b13, b14, b15, b16, hb, h_1, h_2, h_3, h_4, h_5, mNon_eq, mB_bx, mbB_some, stepC_mbQ]
    intro c hc0
    rw [← hc0]; rfl
  · cases hc
def kb39 : Con := cB fun b rest => match rest with
  | [.agg [.v (.int .i64 x), .v (.bool e), .v (.int .i64 y), .v (.bool f)], .agg [.v (.int .i64 z), .v (.bool g)]] => some ([inB b, b.n ≤ 1000, inR x, inR y, inR z], boA (pulS b ((x, e), (y, f)) (z, g)))
  | _ => none
theorem konb39 : ConOK Tryz.prog 39 kb39 := ConOK.cB (G := [(114, .wr mNon), (67, kw67), (122, k169), (121, k130), (120, kw120)]) (H := [(3, ⟨[(12, .slot 7)], []⟩)]) (.mcons con114m (.cons konw67 (.cons kon169 (.cons kon130 (.cons konw120 .nil))))) Tryz.func39 fun b rest ob r hc hob => by
  split at hc
  · rename_i x e y f z g
    cases hc
    have h_0 : inB b := hob _ (by simp)
    have h_1 : b.n ≤ 1000 := hob _ (by simp)
    have h_2 : inR x := hob _ (by simp)
    have h_3 : inR y := hob _ (by simp)
    have h_4 : inR z := hob _ (by simp)
    obtain ⟨b1, b2, b3, b4, b5, b6, b7, b8, b9, b10, b11, b12, b13, b14, b15, b16⟩ := h_0
    have hb : inB b := hob _ (by simp)
    refine ⟨by kernel_rfl, fnVC_go (rs := [.cell 6 57]) rfl rfl ?_⟩
    simp only [bodyC, go_sem, kw67, k169, k130, kw120, cB_eq, cBR_eq, bodyD_lit, gx_pts0, gx_pts1, spots_can, etaN, etaV, bd_eta, b1, b2, b3, b4, b6, b7, b8, b9, b10, b11, b12, b13, b14, b15, b16, hb, h_1, h_2, h_3, h_4, mNon_eq, mB_bx, mbB_some, stepC_mbQ]
    simp only [forall_eq]
    refine ⟨fun hh => ?_, fun hh => ?_⟩
    · unfold pulS; rw [if_neg (by simp [hh])]; rfl
    · unfold pulS; rw [if_pos hh]; rfl
  · cases hc
def kb41 : Con := cB fun b rest => match rest with
  | [.agg [.v (.int .i64 z), .v (.bool g)]] => some ([inB b, b.n ≤ 1000, inR z], boA (goS b (z, g)))
  | _ => none
theorem konb41 : ConOK Tryz.prog 41 kb41 := ConOK.cB (G := [(114, .wr mNon), (67, kw67), (122, k169), (121, k130), (123, kw123), (124, .wr kw124), (125, k129), (126, kq126)]) (H := [(4, ⟨[(10, .made 9)], []⟩)]) (.mcons con114m (.cons konw67 (.cons kon169 (.cons kon130 (.cons konw123 (.mcons konw124 (.cons kon129 (.cons konq126 .nil)))))))) Tryz.func41 fun b rest ob r hc hob => by
  split at hc
  · rename_i z g
    cases hc
    have h_0 : inB b := hob _ (by simp)
    have h_1 : b.n ≤ 1000 := hob _ (by simp)
    have h_2 : inR z := hob _ (by simp)
    obtain ⟨b1, b2, b3, b4, b5, b6, b7, b8, b9, b10, b11, b12, b13, b14, b15, b16⟩ := h_0
    have hb : inB b := hob _ (by simp)
    refine ⟨by kernel_rfl, fnVC_go (rs := [.cell 4 57]) rfl rfl ?_⟩
    simp only [bodyC, go_sem, kw67, k169, k130, kw123, kw124, k129, kq126, cB_eq, cBR_eq, bodyD_lit, gx_pts0, gx_pts1, spots_can, etaN, etaV, bd_eta, b1, b2, b3, b4, b6, b7, b8, b9, b10, b11, b12, b13, b14, b15, b16, hb, h_1, h_2, mNon_eq, mB_bx, mbB_some, stepC_mbQ]
    simp only [forall_eq]
    refine ⟨fun h1 => ?_, fun h1 => ⟨fun h2 => ?_, fun h2 => ⟨fun h3 => ?_, fun h3 => ?_⟩⟩⟩
    · unfold goS; rw [if_pos h1]; rfl
    · unfold goS; rw [if_neg (by simp [h1]), if_neg (by rw [h2]; simp)]; rfl
    · unfold goS; rw [if_neg (by simp [h1]), if_pos h2, if_neg (by simpa using h3)]; rfl
    · unfold goS; rw [if_neg (by simp [h1]), if_pos h2, if_pos (by simpa using h3)]; rfl
  · cases hc
def kb45 : Con := cB fun b rest => match rest with
  | [] => some ([inB b, b.n ≤ 1000], boA (wakS b))
  | _ => none
theorem konb45 : ConOK Tryz.prog 45 kb45 := ConOK.cB (G := [(114, .wr mNon), (134, .wr kw134)]) (H := []) (.mcons con114m (.mcons konw134 .nil)) Tryz.func45 fun b rest ob r hc hob => by
  split at hc
  · skip
    cases hc
    have h_0 : inB b := hob _ (by simp)
    have h_1 : b.n ≤ 1000 := hob _ (by simp)
    obtain ⟨b1, b2, b3, b4, b5, b6, b7, b8, b9, b10, b11, b12, b13, b14, b15, b16⟩ := h_0
    have hb : inB b := hob _ (by simp)
    refine ⟨by kernel_rfl, fnVC_go (rs := [.cell 2 57]) rfl rfl ?_⟩
    simp only [bodyC, go_sem, kw134, cB_eq, cBR_eq, bodyD_lit, gx_pts0, gx_pts1, spots_can, etaN, etaV, bd_eta, b1, b2, b3, b4, b6, b7, b8, b9, b10, b11, b12, b13, b14, b15, b16, hb, h_1, mNon_eq, mB_bx, mbB_some, stepC_mbQ]
    intro c hc0
    rw [← hc0]; rfl
  · cases hc
theorem nums3_rows {a b c : Int} {e f g : Bool} : nums 3 (rowsOf 2 [i64 a, bo e, i64 b, bo f, i64 c, bo g]) = (inR a ∧ inR b ∧ inR c) := by
  apply propext
  constructor
  · intro h; exact ⟨(h 0 (by omega)).2, (h 1 (by omega)).2, (h 2 (by omega)).2⟩
  · rintro ⟨h1, h2, h3⟩ i hi
    match i with
    | 0 => exact ⟨rfl, h1⟩
    | 1 => exact ⟨rfl, h2⟩
    | 2 => exact ⟨rfl, h3⟩
    | j + 3 => omega
def kMx3 : Con
  | [.ro 3 2 g] => some ([nums 3 g], nbA (moV (-1) 3 g, wfS 3 g))
  | _ => none
theorem konX129 : ConOK Tryz.prog 129 kMx3 := fun l ob r he hob => by
  unfold kMx3 at he
  split at he
  · rename_i g
    cases he
    exact con129 [.ro 3 2 g] _ _ rfl (owe2 (hob _ (by simp)) (by omega))
  · cases he
theorem konX78 : ConOK Tryz.prog 78 kMx3 := fun l ob r he hob => by
  unfold kMx3 at he
  split at he
  · rename_i g
    cases he
    exact con78 [.ro 3 2 g] _ _ rfl (owe2 (hob _ (by simp)) (by omega))
  · cases he
def fstS (b : Bd) : Int := moV (-1) 3 (rowsOf 2 [i64 (nAbs b.v.1).1, bo (nAbs b.v.1).2, i64 (nAbs b.v.2).1, bo (nAbs b.v.2).2, i64 (nAbs b.w).1, bo (nAbs b.w).2])
def resS (b : Bd) : Bd := if idS b then b else if 0 < cmpS (whV (fstS b)) (whV (nRat 1 16).1) then { b with st := 0 } else if min b.st 29 + 1 = 30 then { rstS b with st := 30 } else { b with st := min b.st 29 + 1 }
def kb44 : Con := cB fun b rest => match rest with
  | [] => some ([inB b, b.n ≤ 1000], boA (resS b))
  | _ => none
theorem konb44 : ConOK Tryz.prog 44 kb44 := ConOK.cB (G := [(116, kb116), (68, kw67), (30, k45), (78, kMx3), (133, kw133), (29, c29)]) (H := [(4, ⟨[(14, .made 13)], []⟩)]) (.cons konb116 (.cons konw68 (.cons kon45 (.cons konX78 (.cons konw133 (.cons con29 .nil)))))) Tryz.func44 fun b rest ob r hc hob => by
  split at hc
  · skip
    cases hc
    have h_0 : inB b := hob _ (by simp)
    have h_1 : b.n ≤ 1000 := hob _ (by simp)
    obtain ⟨b1, b2, b3, b4, b5, b6, b7, b8, b9, b10, b11, b12, b13, b14, b15, b16⟩ := h_0
    have hb : inB b := hob _ (by simp)
    refine ⟨by kernel_rfl, fnVC_go (rs := [.cell 2 57]) rfl rfl ?_⟩
    simp only [bodyC, go_sem, kb116, kw67, k45, kMx3, kw133, c29, cB_eq, cBR_eq, bodyD_lit, gx_pts0, gx_pts1, spots_can, etaN, etaV, bd_eta, b1, b2, b3, b4, b6, b7, b8, b9, b10, b11, b12, b13, b14, b15, b16, hb, h_1]
    simp only [forall_eq]
    have hw : IntKind.i64.wrap (min b.st 29 + 1) = min b.st 29 + 1 := wrap_in (by unfold inR at *; omega)
    refine ⟨b13, b14, fun h1 => ?_, fun h1 => ⟨b10, b11, b12, ?_, fun h2 => ?_, fun h2 => ⟨fun h3 => ?_, fun h3 => ?_⟩⟩⟩
    · unfold resS; rw [if_pos h1]; rfl
    · exact of_eq_true (nums3_rows.trans (eq_true ⟨of_eq_true (iAbs b10), of_eq_true (iAbs b11), of_eq_true (iAbs b12)⟩))
    · have h2 : 0 < cmpS (whV (fstS b)) (whV (nRat 1 16).1) := h2
      have e1 : resS b = { b with st := 0 } := by unfold resS; rw [if_neg (by simp [h1]), if_pos h2]
      rw [e1]; rfl
    · rw [hw] at h3
      have h2 : ¬ 0 < cmpS (whV (fstS b)) (whV (nRat 1 16).1) := h2
      have e1 : resS b = { rstS b with st := 30 } := by unfold resS; rw [if_neg (by simp [h1]), if_neg h2, if_pos (by omega)]
      have e2 : min b.st 29 + 1 = 30 := by omega
      rw [e1, hw, e2]; rfl
    · rw [hw] at h3
      have h2 : ¬ 0 < cmpS (whV (fstS b)) (whV (nRat 1 16).1) := h2
      have e1 : resS b = { b with st := min b.st 29 + 1 } := by unfold resS; rw [if_neg (by simp [h1]), if_neg h2, if_neg (by omega)]
      rw [e1, hw]; rfl
  · cases hc
def kb43 : Con := cB fun b rest => match rest with
  | [] => some ([inB b, b.n ≤ 1000], boA (resS b))
  | _ => none
theorem konb43 : ConOK Tryz.prog 43 kb43 := ConOK.cB (G := [(114, .wr mNon), (67, kw67), (130, k126), (129, kMx3), (132, k132), (131, c131), (124, .wr kw124)]) (H := [(4, ⟨[(14, .made 13)], []⟩)]) (.mcons con114m (.cons konw67 (.cons kon126 (.cons konX129 (.cons kon132 (.cons con131 (.mcons konw124 .nil))))))) Tryz.func43 fun b rest ob r hc hob => by
  split at hc
  · skip
    cases hc
    have h_0 : inB b := hob _ (by simp)
    have h_1 : b.n ≤ 1000 := hob _ (by simp)
    obtain ⟨b1, b2, b3, b4, b5, b6, b7, b8, b9, b10, b11, b12, b13, b14, b15, b16⟩ := h_0
    have hb : inB b := hob _ (by simp)
    refine ⟨by kernel_rfl, fnVC_go (rs := [.cell 2 57]) rfl rfl ?_⟩
    simp only [bodyC, go_sem, kw67, k126, kMx3, k132, c131, kw124, cB_eq, cBR_eq, bodyD_lit, gx_pts0, gx_pts1, spots_can, etaN, etaV, bd_eta, b1, b2, b3, b4, b6, b7, b8, b9, b10, b11, b12, b13, b14, b15, b16, hb, h_1, mNon_eq, mB_bx, mbB_some, stepC_mbQ]
    simp only [forall_eq]
    have hw : IntKind.i64.wrap (min b.st 29 + 1) = min b.st 29 + 1 := wrap_in (by unfold inR at *; omega)
    refine ⟨fun h1 => ?_, fun h1 => ⟨?_, by unfold inR; omega, fun h2 => ?_, fun h2 => ⟨fun h3 => ?_, fun h3 => ?_⟩⟩⟩
    · unfold resS; rw [if_pos h1]; rfl
    · exact of_eq_true (nums3_rows.trans (eq_true ⟨of_eq_true (iAbs b10), of_eq_true (iAbs b11), of_eq_true (iAbs b12)⟩))
    · have h2 : 0 < cmpS (whV (fstS b)) (whV (nRat 1 16).1) := h2
      have e1 : resS b = { b with st := 0 } := by unfold resS; rw [if_neg (by simp [h1]), if_pos h2]
      rw [e1]; rfl
    · rw [hw] at h3
      have h3 : min b.st 29 + 1 = 30 := by simpa using h3
      have h2 : ¬ 0 < cmpS (whV (fstS b)) (whV (nRat 1 16).1) := h2
      have e1 : resS b = { rstS b with st := 30 } := by unfold resS; rw [if_neg (by simp [h1]), if_neg h2, if_pos (by omega)]
      have e2 : min b.st 29 + 1 = 30 := by omega
      rw [e1, hw, e2]; rfl
    · rw [hw] at h3
      have h3 : ¬ min b.st 29 + 1 = 30 := by simpa using h3
      have h2 : ¬ 0 < cmpS (whV (fstS b)) (whV (nRat 1 16).1) := h2
      have e1 : resS b = { b with st := min b.st 29 + 1 } := by unfold resS; rw [if_neg (by simp [h1]), if_neg h2, if_neg (by omega)]
      rw [e1, hw]; rfl
  · cases hc
def kb69 : Con := cB fun b rest => match rest with
  | [.agg [.v (.int .i64 x), .v (.bool e), .v (.int .i64 y), .v (.bool f)]] => some ([inB b, b.n ≤ 1000, inR x, inR y], veA (spdS b ((x, e), (y, f))))
  | _ => none
theorem konb69 : ConOK Tryz.prog 69 kb69 := ConOK.cB (G := [(114, .wr mNon), (150, kb150)]) (H := [(1, ⟨[(4, .slot 4)], []⟩)]) (.mcons con114m (.cons konb150 .nil)) Tryz.func69 fun b rest ob r hc hob => by
  split at hc
  · rename_i x e y f
    cases hc
    have h_0 : inB b := hob _ (by simp)
    have h_1 : b.n ≤ 1000 := hob _ (by simp)
    have h_2 : inR x := hob _ (by simp)
    have h_3 : inR y := hob _ (by simp)
    obtain ⟨b1, b2, b3, b4, b5, b6, b7, b8, b9, b10, b11, b12, b13, b14, b15, b16⟩ := h_0
    have hb : inB b := hob _ (by simp)
    refine ⟨by kernel_rfl, fnVC_go (rs := [.cell 4 26]) rfl rfl ?_⟩
    simp only [bodyC, go_sem, kb150, cB_eq, cBR_eq, bodyD_lit, gx_pts0, gx_pts1, spots_can, etaN, etaV, bd_eta, b1, b2, b3, b4, b6, b7, b8, b9, b10, b11, b12, b13, b14, b15, b16, hb, h_1, h_2, h_3, mNon_eq]
    rfl
  · cases hc
def kb70 : Con := cB fun b rest => match rest with
  | [.agg [.v (.int .i64 x), .v (.bool e), .v (.int .i64 y), .v (.bool f)], .agg [.v (.int .i64 z), .v (.bool g), .v (.int .i64 u), .v (.bool h)]] => some ([inB b, b.n ≤ 1000, inR x, inR y, inR z, inR u], nbA (hftS b ((x, e), (y, f)) ((z, g), (u, h))))
  | _ => none
theorem konb70 : ConOK Tryz.prog 70 kb70 := ConOK.cB (G := [(114, .wr mNon), (151, kb151)]) (H := [(1, ⟨[(5, .slot 6)], []⟩)]) (.mcons con114m (.cons konb151 .nil)) Tryz.func70 fun b rest ob r hc hob => by
  split at hc
  · rename_i x e y f z g u h
    cases hc
    have h_0 : inB b := hob _ (by simp)
    have h_1 : b.n ≤ 1000 := hob _ (by simp)
    have h_2 : inR x := hob _ (by simp)
    have h_3 : inR y := hob _ (by simp)
    have h_4 : inR z := hob _ (by simp)
    have h_5 : inR u := hob _ (by simp)
    obtain ⟨b1, b2, b3, b4, b5, b6, b7, b8, b9, b10, b11, b12, b13, b14, b15, b16⟩ := h_0
    have hb : inB b := hob _ (by simp)
    refine ⟨by kernel_rfl, fnVC_go (rs := [.cell 6 24]) rfl rfl ?_⟩
    simp only [bodyC, go_sem, kb151, cB_eq, cBR_eq, bodyD_lit, gx_pts0, gx_pts1, spots_can, etaN, etaV, bd_eta, b1, b2, b3, b4, b6, b7, b8, b9, b10, b11, b12, b13, b14, b15, b16, hb, h_1, h_2, h_3, h_4, h_5, mNon_eq]
    rfl
  · cases hc
end Go.Ax
end

section
/-
  Bodies that are the same; the examples that all statements ask.
-/
set_option linter.unusedVariables false
set_option linter.unusedSimpArgs false
set_option maxHeartbeats 4000000
set_option maxRecDepth 100000
namespace Go.Ax
open Go.Proofs
theorem aEq24 {a0 b0 : Int} {a1 b1 : Bool} : aEq Tryz.prog 24 (.agg [i64 a0, bo a1]) (.agg [i64 b0, bo b1]) = some ((a0 == b0) && ((a1 == b1) && true)) := by kernel_rfl
theorem eq24 {xo yo : Operand} {neg : Bool} {a0 b0 : Int} {a1 b1 : Bool} : eqE Tryz.prog neg 24 xo yo (.agg [i64 a0, bo a1]) (.agg [i64 b0, bo b1]) = some ⟨[], .v (.bool (negV neg ((a0 == b0) && ((a1 == b1) && true)))), .none⟩ := eqE_agg aEq24
attribute [go_sem] eq24
theorem aEq26 {a0 b0 : Int} {a1 b1 : Bool} {a2 b2 : Int} {a3 b3 : Bool} : aEq Tryz.prog 26 (.agg [i64 a0, bo a1, i64 a2, bo a3]) (.agg [i64 b0, bo b1, i64 b2, bo b3]) = some (((a0 == b0) && ((a1 == b1) && true)) && (((a2 == b2) && ((a3 == b3) && true)) && true)) := by kernel_rfl
theorem eq26 {xo yo : Operand} {neg : Bool} {a0 b0 : Int} {a1 b1 : Bool} {a2 b2 : Int} {a3 b3 : Bool} : eqE Tryz.prog neg 26 xo yo (.agg [i64 a0, bo a1, i64 a2, bo a3]) (.agg [i64 b0, bo b1, i64 b2, bo b3]) = some ⟨[], .v (.bool (negV neg (((a0 == b0) && ((a1 == b1) && true)) && (((a2 == b2) && ((a3 == b3) && true)) && true)))), .none⟩ := eqE_agg aEq26
attribute [go_sem] eq26
theorem aEq53 {a0 b0 : Int} {a1 b1 : Bool} {a2 b2 : Int} {a3 b3 : Bool} {a4 b4 : Int} {a5 b5 : Bool} {a6 b6 : Int} {a7 b7 : Bool} : aEq Tryz.prog 53 (.agg [i64 a0, bo a1, i64 a2, bo a3, i64 a4, bo a5, i64 a6, bo a7]) (.agg [i64 b0, bo b1, i64 b2, bo b3, i64 b4, bo b5, i64 b6, bo b7]) = some ((((a0 == b0) && ((a1 == b1) && true)) && (((a2 == b2) && ((a3 == b3) && true)) && true)) && ((((a4 == b4) && ((a5 == b5) && true)) && (((a6 == b6) && ((a7 == b7) && true)) && true)) && true)) := by kernel_rfl
theorem eq53 {xo yo : Operand} {neg : Bool} {a0 b0 : Int} {a1 b1 : Bool} {a2 b2 : Int} {a3 b3 : Bool} {a4 b4 : Int} {a5 b5 : Bool} {a6 b6 : Int} {a7 b7 : Bool} : eqE Tryz.prog neg 53 xo yo (.agg [i64 a0, bo a1, i64 a2, bo a3, i64 a4, bo a5, i64 a6, bo a7]) (.agg [i64 b0, bo b1, i64 b2, bo b3, i64 b4, bo b5, i64 b6, bo b7]) = some ⟨[], .v (.bool (negV neg ((((a0 == b0) && ((a1 == b1) && true)) && (((a2 == b2) && ((a3 == b3) && true)) && true)) && ((((a4 == b4) && ((a5 == b5) && true)) && (((a6 == b6) && ((a7 == b7) && true)) && true)) && true)))), .none⟩ := eqE_agg aEq53
attribute [go_sem] eq53
theorem aEq55 {a0 b0 : Int} {a1 b1 : Bool} {a2 b2 : Int} {a3 b3 : Bool} : aEq Tryz.prog 55 (.agg [i64 a0, bo a1, i64 a2, bo a3]) (.agg [i64 b0, bo b1, i64 b2, bo b3]) = some (((a0 == b0) && ((a1 == b1) && true)) && (((a2 == b2) && ((a3 == b3) && true)) && true)) := by kernel_rfl
theorem eq55 {xo yo : Operand} {neg : Bool} {a0 b0 : Int} {a1 b1 : Bool} {a2 b2 : Int} {a3 b3 : Bool} : eqE Tryz.prog neg 55 xo yo (.agg [i64 a0, bo a1, i64 a2, bo a3]) (.agg [i64 b0, bo b1, i64 b2, bo b3]) = some ⟨[], .v (.bool (negV neg (((a0 == b0) && ((a1 == b1) && true)) && (((a2 == b2) && ((a3 == b3) && true)) && true)))), .none⟩ := eqE_agg aEq55
attribute [go_sem] eq55
theorem aEq69 {a0 b0 : Int} {a1 b1 : Bool} {a2 b2 : Int} {a3 b3 : Bool} {a4 b4 : Int} {a5 b5 : Bool} : aEq Tryz.prog 69 (.agg [i64 a0, bo a1, i64 a2, bo a3, i64 a4, bo a5]) (.agg [i64 b0, bo b1, i64 b2, bo b3, i64 b4, bo b5]) = some ((((a0 == b0) && ((a1 == b1) && true)) && (((a2 == b2) && ((a3 == b3) && true)) && true)) && (((a4 == b4) && ((a5 == b5) && true)) && true)) := by kernel_rfl
theorem eq69 {xo yo : Operand} {neg : Bool} {a0 b0 : Int} {a1 b1 : Bool} {a2 b2 : Int} {a3 b3 : Bool} {a4 b4 : Int} {a5 b5 : Bool} : eqE Tryz.prog neg 69 xo yo (.agg [i64 a0, bo a1, i64 a2, bo a3, i64 a4, bo a5]) (.agg [i64 b0, bo b1, i64 b2, bo b3, i64 b4, bo b5]) = some ⟨[], .v (.bool (negV neg ((((a0 == b0) && ((a1 == b1) && true)) && (((a2 == b2) && ((a3 == b3) && true)) && true)) && (((a4 == b4) && ((a5 == b5) && true)) && true)))), .none⟩ := eqE_agg aEq69
attribute [go_sem] eq69
theorem aEq30 {a0 b0 : Int} {a1 b1 : Bool} {a2 b2 : Int} {a3 b3 : Bool} : aEq Tryz.prog 30 (.agg [i64 a0, bo a1, i64 a2, bo a3]) (.agg [i64 b0, bo b1, i64 b2, bo b3]) = some (((a0 == b0) && ((a1 == b1) && true)) && (((a2 == b2) && ((a3 == b3) && true)) && true)) := by kernel_rfl
theorem eq30 {xo yo : Operand} {neg : Bool} {a0 b0 : Int} {a1 b1 : Bool} {a2 b2 : Int} {a3 b3 : Bool} : eqE Tryz.prog neg 30 xo yo (.agg [i64 a0, bo a1, i64 a2, bo a3]) (.agg [i64 b0, bo b1, i64 b2, bo b3]) = some ⟨[], .v (.bool (negV neg (((a0 == b0) && ((a1 == b1) && true)) && (((a2 == b2) && ((a3 == b3) && true)) && true)))), .none⟩ := eqE_agg aEq30
attribute [go_sem] eq30
theorem vc113 (k r w t : Int) (n : Nat) (X Y : Nat → Int) (hn : n ≤ 1000) : fnVC Tryz.prog [] [] Tryz.f113 [shapeA k r w t n fun i => [i64 (X i), i64 (Y i)], shapeA k r w t n fun i => [i64 (X i), i64 (Y i)]] (· = bo true) := by
  refine fnVC_go (rs := [.tmp 4]) rfl rfl ?_
  simp only [go_sem]
  have e1 : ∀ x : Int, (x != x) = false := fun x => by simp
  refine ⟨fun h => by simp at h, fun _ => ?_⟩
  refine loopC_go (fun (i : Nat) => i ≤ n) (fun i => n - i) (fun i => [(5, i64 (i : Int))]) (fun _ => []) [1, 0] [41, 42, 43, 44, 45, 48, 49, 50, 51, 52, 53, 54, 55, 56, 57, 58, 4, 46, 47, 5] 0 (by kernel_rfl) ?_ (Nat.zero_le _) ?_ ?_
  · intro x _; simp [goodNames, asg]
  · simp only [go_sem]
  intro i hi
  simp only [go_sem]
  exact ⟨fun h => ⟨by omega, h, by omega, h, fun hb => by simp at hb, fun _ z hz => ⟨i + 1, by omega, by omega, by rw [hz, wrap_in (by unfold inR; omega)]; rfl⟩⟩, fun _ => trivial⟩
/-- Shapes that are equal are found to be equal. -/
def kSame : Con
  | [.agg [.v (.int .i64 k), .v (.int .i64 r), .v (.int .i64 w), .v (.int .i64 t), .ro n 2 g], b] => some ([spots n g, n ≤ 1000, b = .agg [i64 k, i64 r, i64 w, i64 t, .ro n 2 g]], bo true)
  | _ => none
theorem konS113 : ConOK Tryz.prog 113 kSame := ConOK.go (G := []) (H := []) .nil Tryz.func113 fun l ob rr hc hob => by
  unfold kSame at hc
  split at hc
  · rename_i k r w t n g b
    cases hc
    have hs : spots n g := hob _ (by simp)
    have hn : n ≤ 1000 := hob _ (by simp)
    have hb : b = .agg [i64 k, i64 r, i64 w, i64 t, .ro n 2 g] := hob _ (by simp)
    subst hb
    exact ⟨[shapeA k r w t n fun i => [i64 (gx g 0 i), i64 (gx g 1 i)], shapeA k r w t n fun i => [i64 (gx g 0 i), i64 (gx g 1 i)]], fun w I vs h => Rs_two (Rs_shape hs) (Rs_shape hs) h, by kernel_rfl, vc113 k r w t n _ _ hn⟩
  · cases hc
def kb36 : Con := cB fun b rest => match rest with
  | [a] => some ([inB b, b.n ≤ 1000, a = .agg (bodyC b)], bo true)
  | _ => none
theorem konb36 : ConOK Tryz.prog 36 kb36 := ConOK.cB (G := [(113, kSame)]) (H := []) (.cons konS113 .nil) Tryz.func36 fun b rest ob r hc hob => by
  split at hc
  · rename_i a
    cases hc
    have h_0 : inB b := hob _ (by simp)
    have h_1 : b.n ≤ 1000 := hob _ (by simp)
    have h_2 : a = .agg (bodyC b) := hob _ (by simp)
    obtain ⟨b1, b2, b3, b4, b5, b6, b7, b8, b9, b10, b11, b12, b13, b14, b15, b16⟩ := h_0
    have hb : inB b := hob _ (by simp)
    subst h_2
    refine ⟨by kernel_rfl, fnVC_go (rs := [.tmp 4]) rfl rfl ?_⟩
    simp only [bodyC, go_sem, kSame, cB_eq, cBR_eq, bodyD_lit, gx_pts0, gx_pts1, spots_can, etaN, etaV, bd_eta, b1, b2, b3, b4, b6, b7, b8, b9, b10, b11, b12, b13, b14, b15, b16, hb, h_1]
    intro z hz
    subst hz
    exact ⟨b5, by simp⟩
  · cases hc
theorem vc14 (n : Nat) (B : Nat → Bd) (hn : n ≤ 9223372036854775807) (hB : ∀ i, i < n → (B i).n ≤ 9223372036854775807) : fnVC Tryz.prog [] [] Tryz.f14 [.ro n 27 fun i => bodyC (B i)] (· = bo (decide (∀ i, i < n → (B i).n ≤ 12))) := by
  refine fnVC_go (rs := [.tmp 2]) rfl rfl ?_
  simp only [bodyC, go_sem]
  refine loopC_go (fun (i : Nat) => i ≤ n ∧ ∀ j, j < i → (B j).n ≤ 12) (fun i => n - i) (fun i => [(3, i64 (i : Int))]) (fun _ => []) [] [4, 5, 6, 7, 10, 11, 12, 13, 14, 15, 16, 17, 2, 8, 9, 3] 0 (by kernel_rfl) ?_ ⟨Nat.zero_le _, fun j hj => by omega⟩ ?_ ?_
  · intro x _; simp [goodNames, asg]
  · simp only [go_sem]
  intro i hi
  simp only [go_sem]
  refine ⟨fun h => ⟨by omega, h, fun hb => ?_, fun hb z hz => ⟨i + 1, ⟨by omega, fun j hj => ?_⟩, by omega, ?_⟩⟩, fun h => ?_⟩
  · refine (decide_eq_false fun hc => ?_).symm
    have := hc i (by omega); omega
  · by_cases e : j = i
    · subst e; omega
    · exact hi.2 j (by omega)
  · rw [hz, wrap_in (by unfold inR; omega)]; rfl
  · exact (decide_eq_true fun j hj => hi.2 j (by omega)).symm
def kLit : Con
  | [.ro n 27 g] => some ([n ≤ 9223372036854775807, ∀ i, i < n → g i = bodyC (bodyD (g i)) ∧ (bodyD (g i)).n ≤ 9223372036854775807], bo (decide (∀ i, i < n → (bodyD (g i)).n ≤ 12)))
  | _ => none
theorem kon14L : ConOK Tryz.prog 14 kLit := ConOK.go (G := []) (H := []) .nil Tryz.func14 fun l ob rr hc hob => by
  unfold kLit at hc
  split at hc
  · rename_i n g
    cases hc
    have hg : ∀ i, i < n → g i = bodyC (bodyD (g i)) ∧ (bodyD (g i)).n ≤ 9223372036854775807 := hob _ (by simp)
    exact ⟨[.ro n 27 fun i => bodyC (bodyD (g i))], fun w I vs h => Rs_one (fun v hv => ro_alike (fun i hi => (hg i hi).1) hv) h, by kernel_rfl, vc14 n (fun i => bodyD (g i)) (hob _ (by simp)) fun i hi => (hg i hi).2⟩
  · cases hc
def cjS (n : Int) (k a b : Int) (p q : V2) (l : Nb) : Int :=
  if k ≠ 1 ∧ k ≠ 2 ∧ k ≠ 3 then 8 else
  if (a < 0 ∨ n ≤ a) ∨ (k ≠ 1 ∧ (b < 0 ∨ n ≤ b ∨ a = b)) then 3 else
  if (withS p.1 32 && withS p.2 32) = false ∨ (if k = 1 then (withS q.1 4096 && withS q.2 4096) = false else (withS q.1 32 && withS q.2 32) = false) then 3 else
  if k = 2 ∧ (withS l 8192 = false ∨ l.1 < 0) then 3 else
  if (k = 1 ∧ b ≠ 0) ∨ (k ≠ 2 ∧ ¬ (l.1 = 0 ∧ l.2 = false)) then 4 else 0
def c77 : Con
  | [.v (.int .i64 n), .v (.int .i64 a), .v (.int .i64 b)] => some ([0 ≤ n], bo (decide (0 ≤ a ∧ a < n ∧ 0 ≤ b ∧ b < n ∧ a ≠ b)))
  | _ => none
theorem con77 : ConOK Tryz.prog 77 c77 := ConOK.of (G := []) (H := []) .nil Tryz.func77 fun l ob rr hc hob => by
  unfold c77 at hc
  split at hc
  · rename_i n a b
    cases hc
    have h_0 : 0 ≤ n := hob _ (by simp)
    refine ⟨by kernel_rfl, fnVC_go (rs := [.tmp 6]) rfl rfl ?_⟩
    simp only [go_sem, iMul, iDiv, iInt, iAdd, iSub, iRat, iDot, iHyp, iSq, iNeg, iPos, iAbs, iMx, iMn, iCl, iWh, iLoc1, iLoc2, iVAdd1, iVAdd2, iVSub1, iVSub2, iScale1, iScale2, iVDot, iVCross, iLen, iOf1, iOf2, iUnit1, iUnit2, h_0]
    have e1 : (a != b) = decide (a ≠ b) := by by_cases h : a = b <;> simp [h]
    rw [e1]
    simp only [Bool.decide_and, Bool.and_assoc]
  · cases hc
def kj51 : Con
  | [.v (.int .i64 n), .agg [.v (.int .i64 k), .v (.int .i64 a), .v (.int .i64 b), .v (.int .i64 x), .v (.bool e), .v (.int .i64 y), .v (.bool f), .v (.int .i64 z), .v (.bool g), .v (.int .i64 u), .v (.bool h), .v (.int .i64 l), .v (.bool m)]] => some ([inR n, inR x, inR y, inR z, inR u, inR l], i64 (cjS n k a b ((x, e), (y, f)) ((z, g), (u, h)) (l, m)))
  | _ => none
theorem konj51 : ConOK Tryz.prog 51 kj51 := ConOK.of (G := [(123, kw123)]) (H := []) (.cons konw123 .nil) Tryz.func51 fun l ob rr hc hob => by
  unfold kj51 at hc
  split at hc
  · rename_i n k a b x e y f z g u h l m
    cases hc
    have h_0 : inR n := hob _ (by simp)
    have h_1 : inR x := hob _ (by simp)
    have h_2 : inR y := hob _ (by simp)
    have h_3 : inR z := hob _ (by simp)
    have h_4 : inR u := hob _ (by simp)
    have h_5 : inR l := hob _ (by simp)
    refine ⟨by kernel_rfl, fnVC_go (rs := [.tmp 4]) rfl rfl ?_⟩
    simp only [go_sem, kw123, iMul, iDiv, iInt, iAdd, iSub, iRat, iDot, iHyp, iSq, iNeg, iPos, iAbs, iMx, iMn, iCl, iWh, iLoc1, iLoc2, iVAdd1, iVAdd2, iVSub1, iVSub2, iScale1, iScale2, iVDot, iVCross, iLen, iOf1, iOf2, iUnit1, iUnit2, h_0, h_1, h_2, h_3, h_4, h_5]
    unfold cjS
    simp only [forall_eq]
    generalize (withS (x, e) 32 && withS (y, f) 32) = w1
    generalize (withS (z, g) 4096 && withS (u, h) 4096) = w3
    generalize (withS (z, g) 32 && withS (u, h) 32) = w5
    generalize withS (l, m) 8192 = w7
    clear hob h_0 h_1 h_2 h_3 h_4 h_5
    repeat' (first | intro _ | apply And.intro)
    all_goals grind
  · cases hc
def kj52 : Con
  | [.v (.int .i64 n), .agg [.v (.int .i64 k), .v (.int .i64 a), .v (.int .i64 b), .v (.int .i64 x), .v (.bool e), .v (.int .i64 y), .v (.bool f), .v (.int .i64 z), .v (.bool g), .v (.int .i64 u), .v (.bool h), .v (.int .i64 l), .v (.bool m)]] => some ([inR n, inR x, inR y, inR z, inR u, inR l], i64 (cjS n k a b ((x, e), (y, f)) ((z, g), (u, h)) (l, m)))
  | _ => none
theorem konj52 : ConOK Tryz.prog 52 kj52 := ConOK.of (G := [(77, c77), (127, kw127b), (144, kw144w)]) (H := []) (.cons con77 (.cons konw127b (.cons konw144w .nil))) Tryz.func52 fun l ob rr hc hob => by
  unfold kj52 at hc
  split at hc
  · rename_i n k a b x e y f z g u h l m
    cases hc
    have h_0 : inR n := hob _ (by simp)
    have h_1 : inR x := hob _ (by simp)
    have h_2 : inR y := hob _ (by simp)
    have h_3 : inR z := hob _ (by simp)
    have h_4 : inR u := hob _ (by simp)
    have h_5 : inR l := hob _ (by simp)
    refine ⟨by kernel_rfl, fnVC_go (rs := [.tmp 4]) rfl rfl ?_⟩
    simp only [go_sem, c77, kw127b, kw144w, iMul, iDiv, iInt, iAdd, iSub, iRat, iDot, iHyp, iSq, iNeg, iPos, iAbs, iMx, iMn, iCl, iWh, iLoc1, iLoc2, iVAdd1, iVAdd2, iVSub1, iVSub2, iScale1, iScale2, iVDot, iVCross, iLen, iOf1, iOf2, iUnit1, iUnit2, h_0, h_1, h_2, h_3, h_4, h_5]
    unfold cjS
    simp only [forall_eq]
    generalize (withS (x, e) 32 && withS (y, f) 32) = w1
    generalize (withS (z, g) 4096 && withS (u, h) 4096) = w3
    generalize (withS (z, g) 32 && withS (u, h) 32) = w5
    generalize withS (l, m) 8192 = w7
    clear hob h_0 h_1 h_2 h_3 h_4 h_5
    repeat' (first | intro _ | apply And.intro)
    all_goals grind
  · cases hc
end Go.Ax
end

section
/-
  The examples that all statements ask; the frames of the laws about one body.
-/
set_option linter.unusedVariables false
set_option linter.unusedSimpArgs false
set_option maxHeartbeats 4000000
set_option maxRecDepth 100000
namespace Go.Ax
open Go.Proofs
section
variable {P : Program} {G : Ctx} {H : Hots} {K0 : AEx → St → Prop} {hot : Option Hot} {ops : Array Oper} {d : Option Tmp} {rest : List Oper} {i : Nat} {st : List Fr} {t : Slots} {m : Mem} {nx : Nat} {o : List Prop} {u : Upd} {b : Bd} {c : Bool}
theorem bindC_cboA : bindC P G H K0 hot ops d rest i st t m nx o u (condV c (bnd (boA b))) = (∀ b', b' = b → bindC P G H K0 hot ops d rest i st t m nx o u (condV c (.agg (bodyC b')))) := by
  apply propext
  constructor
  · rintro h b' rfl; exact h
  · intro h; exact h b rfl
end
attribute [go_sem] bindC_cboA

theorem inB_wak {b : Bd} (h : inB b) : inB (wakS b) := by
  unfold wakS
  split
  · obtain ⟨b1, b2, b3, b4, b5, b6, b7, b8, b9, b10, b11, b12, b13, b14, b15, b16⟩ := h
    exact ⟨b1, b2, b3, b4, b5, b6, b7, b8, b9, b10, b11, b12, b13, b14, of_eq_true inR_0, b16⟩
  · exact h
theorem inB_rst {b : Bd} (h : inB b) : inB (rstS b) := by
  obtain ⟨b1, b2, b3, b4, b5, b6, b7, b8, b9, b10, b11, b12, b13, b14, b15, b16⟩ := h
  exact ⟨b1, b2, b3, b4, b5, b6, b7, b8, b9, of_eq_true inR_0, of_eq_true inR_0, of_eq_true inR_0, b13, b14, b15, b16⟩
theorem inB_st {b : Bd} (h : inB b) {n : Int} {f : Bool} (hn : inR n) : inB { b with st := n, fa := f } := by
  obtain ⟨b1, b2, b3, b4, b5, b6, b7, b8, b9, b10, b11, b12, b13, b14, b15, b16⟩ := h
  exact ⟨b1, b2, b3, b4, b5, b6, b7, b8, b9, b10, b11, b12, b13, b14, hn, b16⟩
theorem inB_psh {b : Bd} {p j : V2} (h : inB b) : inB (pshS b p j) := by
  unfold pshS
  split
  · exact h
  · have := inB_push h (v := limV (vAdd b.v (vScale j b.m))) (w := limS (nAdd b.w (nMul b.i (vCross (vSub p b.pl) j))) 64) (of_eq_true (iLim (of_eq_true iVAdd1))) (of_eq_true (iLim (of_eq_true iVAdd2))) (of_eq_true (iLim (of_eq_true iAdd)))
    dsimp only
    split
    · exact inB_wak this
    · exact this
theorem inB_pul {b : Bd} {g : V2} {t : Nb} (h : inB b) : inB (pulS b g t) := by
  unfold pulS
  split
  · exact h
  · exact inB_push h (of_eq_true (iLim (of_eq_true iVAdd1))) (of_eq_true (iLim (of_eq_true iVAdd2))) h.2.2.2.2.2.2.2.2.2.2.2.1
theorem inB_go {b : Bd} {t : Nb} (h : inB b) : inB (goS b t) := by
  unfold goS
  split
  · exact h
  · split
    · obtain ⟨b1, b2, b3, b4, b5, b6, b7, b8, b9, b10, b11, b12, b13, b14, b15, b16⟩ := h
      split
      · exact ⟨b1, b2, b3, b4, b5, of_eq_true iVAdd1, of_eq_true iVAdd2, b8, b9, b10, b11, b12, b13, b14, b15, b16⟩
      · exact ⟨b1, b2, b3, b4, b5, of_eq_true iVAdd1, of_eq_true iVAdd2, of_eq_true iSpi1, of_eq_true iSpi2, b10, b11, b12, b13, b14, b15, b16⟩
    · exact inB_st (inB_rst h) (by unfold inR; omega)
theorem inB_res {b : Bd} (h : inB b) : inB (resS b) := by
  have h15 : inR b.st := by obtain ⟨b1, b2, b3, b4, b5, b6, b7, b8, b9, b10, b11, b12, b13, b14, b15, b16⟩ := h; exact b15
  unfold inR at h15
  unfold resS
  split
  · exact h
  · split
    · exact inB_st (f := b.fa) h (by unfold inR; omega)
    · split
      · exact inB_st (f := b.fa) (inB_rst h) (by unfold inR; omega)
      · exact inB_st (f := b.fa) h (by unfold inR; omega)
theorem wak_n {b : Bd} : (wakS b).n = b.n := by unfold wakS; split <;> rfl
theorem psh_n {b : Bd} {p j : V2} : (pshS b p j).n = b.n := by
  unfold pshS
  split
  · rfl
  · dsimp only
    split
    · rw [wak_n]
    · rfl
theorem pul_n {b : Bd} {g : V2} {t : Nb} : (pulS b g t).n = b.n := by unfold pulS; split <;> rfl
theorem go_n {b : Bd} {t : Nb} : (goS b t).n = b.n := by unfold goS; (repeat' split) <;> rfl
theorem res_n {b : Bd} : (resS b).n = b.n := by unfold resS; (repeat' split) <;> rfl
def rndB (x : Int) (m i : Nb) : Bd := ⟨1, 256, 0, 0, 0, fun _ => 0, fun _ => 0, ((x, false), (0, false)), ((4294967296, false), (0, false)), ((0, false), (0, false)), (0, false), m, i, 0, false, false, 1⟩
theorem alk_body0 {l1 : List AV} {X Y : Nat → Int} {c0 c1 c2 c3 : AV} : alk (.agg (c0 :: c1 :: c2 :: c3 :: ptsA 0 X Y :: l1)) (.agg (c0 :: c1 :: c2 :: c3 :: .v (.slice none 0 0) :: l1)) := fun w ρ v hR => by
  cases hR with
  | agg hl hh =>
    refine .agg hl fun j x y h3 h4 => ?_
    match j with
    | 4 =>
      simp at h3; subst h3
      exact alk_nil _ _ _ (hh 4 _ y rfl h4)
    | 0 => exact hh 0 x y h3 h4
    | 1 => exact hh 1 x y h3 h4
    | 2 => exact hh 2 x y h3 h4
    | 3 => exact hh 3 x y h3 h4
    | j + 5 => exact hh (j + 5) x y h3 h4
def kw72 : Con
  | [.v (.int .i64 x), .agg [.v (.int .i64 m), .v (.bool e), .v (.int .i64 i), .v (.bool f)]] => some ([], boA (rndB x (m, e) (i, f)))
  | _ => none
theorem konw72 : ConOK Tryz.prog 72 kw72 := ConOK.goR (G := [(55, kw55)]) (H := [(1, ⟨[(9, .slot 4)], []⟩)]) (.cons konw55 .nil) Tryz.func72 fun l ob rr hc hob => by
  unfold kw72 at hc
  split at hc
  · rename_i x m e i f
    cases hc
    refine ⟨_, fun w I vs h => h, by kernel_rfl, fnVC_go (rs := [.cell 4 57]) rfl rfl ?_⟩
    simp only [go_sem, kw55, forall_eq]
    exact alk_body0
  · cases hc
/-- Lists of one body, and of two. -/
def kLit1 : Con
  | [.ro 1 27 g] => some ([g 0 = bodyC (bodyD (g 0)), (bodyD (g 0)).n ≤ 9223372036854775807], bo (decide ((bodyD (g 0)).n ≤ 12)))
  | [.ro 2 27 g] => some ([g 0 = bodyC (bodyD (g 0)), g 1 = bodyC (bodyD (g 1)), (bodyD (g 0)).n ≤ 9223372036854775807, (bodyD (g 1)).n ≤ 9223372036854775807], bo (decide ((bodyD (g 0)).n ≤ 12 ∧ (bodyD (g 1)).n ≤ 12)))
  | _ => none
theorem konL14 : ConOK Tryz.prog 14 kLit1 := fun l ob r he hob => by
  unfold kLit1 at he
  split at he
  · rename_i g
    cases he
    have h1 : g 0 = bodyC (bodyD (g 0)) := hob _ (by simp)
    have h2 : (bodyD (g 0)).n ≤ 9223372036854775807 := hob _ (by simp)
    have := kon14L [.ro 1 27 g] _ _ rfl (owe2 (by omega) fun i hi => by
      have : i = 0 := by omega
      subst this; exact ⟨h1, h2⟩)
    have e : decide (∀ i : Nat, i < 1 → (bodyD (g i)).n ≤ 12) = decide ((bodyD (g 0)).n ≤ 12) := decide_eq_decide.2 ⟨fun h => h 0 (by omega), fun h i hi => by
      have : i = 0 := by omega
      subst this; exact h⟩
    rw [e] at this
    exact this
  · rename_i g
    cases he
    have h1 : g 0 = bodyC (bodyD (g 0)) := hob _ (by simp)
    have h2 : g 1 = bodyC (bodyD (g 1)) := hob _ (by simp)
    have h3 : (bodyD (g 0)).n ≤ 9223372036854775807 := hob _ (by simp)
    have h4 : (bodyD (g 1)).n ≤ 9223372036854775807 := hob _ (by simp)
    have := kon14L [.ro 2 27 g] _ _ rfl (owe2 (by omega) fun i hi => by
      match i with
      | 0 => exact ⟨h1, h3⟩
      | 1 => exact ⟨h2, h4⟩
      | i + 2 => omega)
    have e : decide (∀ i : Nat, i < 2 → (bodyD (g i)).n ≤ 12) = decide ((bodyD (g 0)).n ≤ 12 ∧ (bodyD (g 1)).n ≤ 12) := decide_eq_decide.2 ⟨fun h => ⟨h 0 (by omega), h 1 (by omega)⟩, fun h i hi => by
      match i with
      | 0 => exact h.1
      | 1 => exact h.2
      | i + 2 => omega⟩
    rw [e] at this
    exact this
  · cases he
def c15 : Con
  | [] => some ([], bo true)
  | _ => none
theorem con15 : ConOK Tryz.prog 15 c15 := ConOK.of (G := [(55, kw55), (72, kw72), (37, kb37), (51, kj51)]) (H := []) (.cons konw55 (.cons konw72 (.cons konb37 (.cons konj51 .nil)))) Tryz.func15 fun l ob rr hc hob => by
  unfold c15 at hc
  split at hc
  · skip
    cases hc
    refine ⟨by kernel_rfl, fnVC_go (rs := [.tmp 0]) rfl rfl ?_⟩
    simp only [go_sem, kw55, kw72, kb37, kj51, iMul, iDiv, iInt, iAdd, iSub, iRat, iDot, iHyp, iSq, iNeg, iPos, iAbs, iMx, iMn, iCl, iWh, iLoc1, iLoc2, iVAdd1, iVAdd2, iVSub1, iVSub2, iScale1, iScale2, iVDot, iVCross, iLen, iOf1, iOf2, iUnit1, iUnit2, bodyC, cB_eq, cBR_eq, bodyD_lit, gx_pts0, gx_pts1, spots_can, etaN, etaV, bd_eta]
    simp only [forall_eq]
    have e1 : (pshS (rndB 0 (4294967296, false) (4294967296, false)) ((0, false), 4294967296, false) ((4294967296, false), 0, false)).v = ((4294967296, false), (0, false)) := by kernel_rfl
    have e2 : (pshS (rndB 0 (4294967296, false) (4294967296, false)) ((0, false), 4294967296, false) ((4294967296, false), 0, false)).w = (-4294967296, false) := by kernel_rfl
    have e3 : cjS 1 4 0 0 ((0, false), 0, false) ((0, false), 0, false) (0, false) = 8 := by decide
    rw [e1, e2, e3]
    simp only [beq_self_eq_true, true_and, and_self, implies_true]
    exact ⟨⟨⟨by decide, by decide⟩, ⟨by decide, by decide⟩, ⟨by decide, by decide⟩, ⟨by decide, by decide⟩, fun j hj => absurd hj (Nat.not_lt_zero j), ⟨by decide, by decide⟩, ⟨by decide, by decide⟩, ⟨by decide, by decide⟩, ⟨by decide, by decide⟩, ⟨by decide, by decide⟩, ⟨by decide, by decide⟩, ⟨by decide, by decide⟩, ⟨by decide, by decide⟩, ⟨by decide, by decide⟩, ⟨by decide, by decide⟩, ⟨by decide, by decide⟩⟩, by decide, by unfold inR; omega, by unfold inR; omega, trivial⟩
  · cases hc
end Go.Ax
end

section
/-
  Contracts of functions that write rows: a table and an element of another row; a slice of one's own; two pointers out of a table.
-/
set_option linter.unusedSimpArgs false
set_option linter.unusedVariables false
namespace Go.Ax
section
variable {P : Program} {G : Ctx} {H : Hots} {f : FuncId} {fn : Func} {r s key : Nat}
theorem thL2_0 {th : Nat → Nat → Nat} : ∀ f, thL [r, s] key th 0 f = (r, f) := fun f => by simp [thL]
/-- All rows are there, and hold nothing of our own. -/
def famCl (fam : Fam) : Prop := ∀ f, (fam f).g = none ∧ ∀ j, j < (fam f).n → ∀ c ∈ (fam f).get j, cleanC c = true
theorem famCl_E {fam : Fam} {f i : Nat} {cs : List AV} (h : famCl fam) (hc : ∀ c ∈ cs, cleanC c = true) : famCl (famE fam f i cs) := fun f' => by
  refine ⟨by rw [famE_g]; exact (h f').1, fun j hj c hcm => ?_⟩
  rw [famE_n] at hj
  by_cases e : f' = f
  · subst e
    simp only [famE, if_true] at hcm
    split at hcm
    · exact hc c hcm
    · exact (h f').2 j hj c hcm
  · rw [famE_off e] at hcm
    exact (h f').2 j hj c hcm
theorem rowRen_cl {θ : Nat → Nat → Nat × Nat} {g : Nat → Nat → Prop} {B : Nat → Prop} {fam : Fam} (h : famCl fam) (f : Nat) : rowRen θ g B (fam f) (fam f) := rowRen_clean' (.refl _) (h f).2
theorem look_two0 {x y : Fam} : look [(1, y), (0, x)] 0 = some x := by simp [look]
theorem look_two1 {x y : Fam} : look [(1, y), (0, x)] 1 = some y := by simp [look]
theorem two_okG {fam fam' x0 y0 famB famB' : Fam} {m : Mem} {es es0 : List AV} {val val0 : AV} {ob : List Prop} (hne : r ≠ s) (hl : look m r = some fam) (hl2 : look m s = some famB)
    (h1 : ∀ f, (fam f).g = none ∧ rowRen (thE [r, s]) (lowG 2) (lowB 2) (x0 f) (fam f)) (hB : famCl famB) (hB' : famCl famB')
    (h2 : ∀ th σ f, rowRen (thL [r, s] key th) (newG 2 σ th) (newB 2 σ) (y0 f) (fam' f) ∧ (y0 f).g ≠ some false) (ha : es = es0.map (renA (thE [r, s]) 3)) (hak : ∀ a ∈ es0, kg (lowG 2) (lowB 2) 3 a)
    (hfn : funcOK P H fn es0.length = true) (hv : ∀ th : Nat → Nat → Nat, ∀ σ : Nat → Option (Nat × Nat), val = renA (thL [r, s] key th) 3 val0 ∧ kg (newG 2 σ th) (newB 2 σ) 3 val0)
    (hb : bodyM P G H fn es0 [(1, famB), (0, x0)] 2 fun a m1 => a = val0 ∧ look m1 0 = some y0 ∧ look m1 1 = some famB') :
    ∃ ks m0 as0, Entry ks m m0 es as0 ∧ funcOK P H fn as0.length = true ∧ bodyM P G H fn as0 m0 ks.length fun a m1 => ∃ σ th ys nw, (⟨ob, val, .many [(r, fam'), (s, famB')] none⟩ : Eff).u = .many (ks.zip ys) nw ∧ Leave key ks σ th m1 a ys nw val := by
  refine ⟨[r, s], [(1, famB), (0, x0)], es0, ⟨by simp [hne], ha, hak, fun j hj => ?_, fun q x hq => ?_⟩, hfn, hb.mono fun a m1 ⟨q1, q2, q3⟩ => ?_⟩
  · match j, hj with
    | 0, _ => exact ⟨_, fam, look_two0, hl, h1⟩
    | 1, _ => exact ⟨_, famB, look_two1, hl2, fun f => ⟨(hB f).1, rowRen_cl hB f⟩⟩
    | j + 2, hj => simp at hj; omega
  · by_cases e : q = 0
    · subst e; simp
    · by_cases e1 : q = 1
      · subst e1; simp
      · simp [look, Ne.symm e, Ne.symm e1] at hq
  · obtain ⟨v1, v2⟩ := hv (fun _ _ => 0) (fun _ => none)
    refine ⟨fun _ => none, fun _ _ => 0, [fam', famB'], none, rfl, ⟨fun f r g h => by simp at h, by rw [q1]; exact v1, by rw [q1]; exact v2, rfl, fun j hj => ?_, fun _ => rfl⟩⟩
    match j, hj with
    | 0, _ => exact ⟨_, _, q2, rfl, h2 _ _⟩
    | 1, _ => exact ⟨_, _, q3, rfl, fun f => ⟨rowRen_cl hB' f, by rw [(hB' f).1]; simp⟩⟩
    | j + 2, hj => simp at hj; omega

theorem tabOK_in2 {K C N sz : Nat} {tp ty : TypeId} {fam : Fam} (h : tabOK K N sz tp ty fam) (f : Nat) : (fam f).g = none ∧ rowRen (thE [K, C]) (lowG 2) (lowB 2) (famT 0 N sz tp ty (fun i => (fam (i + 1)).get 0) f) (fam f) :=
  ⟨(h.1 f).2.2.2.1.trans famT_g, rowRen_alike (rowRen_T (θ := thE [K, C]) (g := lowG 2) (B := lowB 2) (fun _ => rfl) (fun _ => Nat.zero_lt_two) h.2 f) (h.1 f)⟩
/-! ### A table, and an element of another row -/
def mcTPp (sz sz2 : Nat) (tp ty : TypeId) (F : Nat → (Nat → List AV) → List AV → List AV → Option (List Prop × AV × (Nat → List AV) × List AV)) : MCon := fun key m es => match es with
  | .own K 0 N 1 :: .ptr C f i s2 0 :: rest => match look m K with
    | some fam => match look m C with
      | some famC => match F N (fun i => (fam (i + 1)).get 0) ((famC f).get i) rest with
        | some (ob, val, get', cs') => some ⟨(K ≠ C) :: (s2 = sz2) :: (i < (famC f).n) :: (sz2 = (famC f).sz) :: (cleanCs ((famC f).get i) = true) :: famCl famC :: tabOK K N sz tp ty fam :: ob, val, .many [(K, famT K N sz tp ty get'), (C, famE famC f i cs')] none⟩
        | none => none
      | none => none
    | none => none
  | _ => none
def mcTQ (sz sz2 : Nat) (tp ty : TypeId) (F : Nat → (Nat → List AV) → List AV → List AV → Option (List Prop × AV × (Nat → List AV) × List AV)) : MCon := fun key m es => match es with
  | .own K 0 N 1 :: .bx C 0 :: rest => match look m K with
    | some fam => match look m C with
      | some famC => match F N (fun i => (fam (i + 1)).get 0) ((famC 0).get 0) rest with
        | some (ob, val, get', cs') => some ⟨(K ≠ C) :: ((famC 0).n = 1) :: (sz2 = (famC 0).sz) :: (cleanCs ((famC 0).get 0) = true) :: famCl famC :: tabOK K N sz tp ty fam :: ob, val, .many [(K, famT K N sz tp ty get'), (C, wb1 famC cs')] none⟩
        | none => none
      | none => none
    | none => none
  | es => mcTPp sz sz2 tp ty F key m es
def TPOK (P : Program) (G : Ctx) (H : Hots) (fn : Func) (sz sz2 : Nat) (tp ty : TypeId) (F : Nat → (Nat → List AV) → List AV → List AV → Option (List Prop × AV × (Nat → List AV) × List AV)) : Prop :=
  ∀ N get cells rest ob val get' cs', F N get cells rest = some (ob, val, get', cs') → (∀ p ∈ ob, p) → (∀ i, i < N → cleanCs (get i) = true) → cleanCs cells = true →
    (∀ a ∈ rest, clean 3 a = true) ∧ clean 3 val = true ∧ (∀ i, i < N → cleanCs (get' i) = true) ∧ cleanCs cs' = true ∧ funcOK P H fn (rest.length + 2) = true ∧
    ∀ (fam : Fam) (f i : Nat), i < (fam f).n → sz2 = (fam f).sz → famCl fam → bodyM P G H fn (.own 0 0 N 1 :: .ptr 1 f i sz2 0 :: rest) [(1, famE fam f i cells), (0, famT 0 N sz tp ty get)] 2 fun a m1 =>
      a = val ∧ look m1 0 = some (famT 0 N sz tp ty get') ∧ look m1 1 = some (famE fam f i cs')
theorem MConOK.mcTPp (hG : CtxOK P G) (hf : P.funcs[f]? = some fn) {sz sz2 : Nat} {tp ty : TypeId} {F : Nat → (Nat → List AV) → List AV → List AV → Option (List Prop × AV × (Nat → List AV) × List AV)} (h : TPOK P G H fn sz sz2 tp ty F) : MConOK P f (mcTPp sz sz2 tp ty F) := by
  refine MConOK.of (H := H) hG hf fun key m es e hc hob => ?_
  unfold Ax.mcTPp at hc
  split at hc
  · rename_i K N C f' i s2 rest
    split at hc
    · rename_i fam hl
      split at hc
      · rename_i famC hl2
        split at hc
        · rename_i ob val get' cs' hF
          cases hc
          have hne : K ≠ C := hob _ (by simp)
          have hs2 : s2 = sz2 := hob _ (by simp)
          have hi : i < (famC f').n := hob _ (by simp)
          have hsz : sz2 = (famC f').sz := hob _ (by simp)
          have hcl : cleanCs ((famC f').get i) = true := hob _ (by simp)
          have hC : famCl famC := hob _ (by simp)
          have hok : tabOK K N sz tp ty fam := hob _ (by simp)
          subst hs2
          obtain ⟨h1, h2, h3, h3', h4, h5⟩ := h _ _ _ _ _ _ _ _ hF (fun p hp => hob p (by simp [hp])) hok.2 hcl
          obtain ⟨a1, a2⟩ := cleans_ren (θ := thE [K, C]) (g := lowG 2) (B := lowB 2) h1
          refine two_okG hne hl hl2 (tabOK_in2 hok) hC (famCl_E hC (cleanCs_mem h3'))
            (fun th σ f => ⟨rowRen_T thL2_0 (fun _ => .inl Nat.zero_lt_two) h3 f, by rw [famT_g]; simp⟩) (es0 := .own 0 0 N 1 :: .ptr 1 f' i s2 0 :: rest) (val0 := val) ?_ ?_ h4 (fun th σ => ?_) ?_
          · rw [List.map_cons, List.map_cons, a1]; rfl
          · intro a ha
            rcases List.mem_cons.1 ha with e | ha
            · rw [e]; exact Nat.zero_lt_two
            · rcases List.mem_cons.1 ha with e | ha
              · rw [e]; exact Nat.one_lt_two
              · exact a2 a ha
          · obtain ⟨b1, b2⟩ := clean_ren (θ := thL [K, C] key th) (g := newG 2 σ th) (B := newB 2 σ) 3 val h2
            exact ⟨b1.symm, b2⟩
          · have := h5 famC f' i hi hsz hC
            rw [famE_self] at this
            exact this
        · cases hc
      · cases hc
    · cases hc
  · cases hc
theorem MConOK.mcTQ (hG : CtxOK P G) (hf : P.funcs[f]? = some fn) {sz sz2 : Nat} {tp ty : TypeId} {F : Nat → (Nat → List AV) → List AV → List AV → Option (List Prop × AV × (Nat → List AV) × List AV)} (h : TPOK P G H fn sz sz2 tp ty F) : MConOK P f (mcTQ sz sz2 tp ty F) := by
  intro w0 ρ m m' D w key es vs e hR hk hm hRs hc hob hmany
  unfold Ax.mcTQ at hc
  split at hc
  · rename_i K N C rest
    split at hc
    · rename_i fam hl
      split at hc
      · rename_i famC hl2
        split at hc
        · rename_i ob val get' cs' hF
          cases hc
          have hne : K ≠ C := hob _ (by simp)
          have hn : (famC 0).n = 1 := hob _ (by simp)
          have hsz : sz2 = (famC 0).sz := hob _ (by simp)
          have hcl : cleanCs ((famC 0).get 0) = true := hob _ (by simp)
          have hC : famCl famC := hob _ (by simp)
          have hok : tabOK K N sz tp ty fam := hob _ (by simp)
          have hRs' : Rs w ρ (.own K 0 N 1 :: .ptr C 0 0 sz2 0 :: rest) vs := by
            obtain ⟨x, xs, rfl, h1, h2⟩ := hRs.inv
            obtain ⟨y, ys, rfl, h3, h4⟩ := h2.inv
            refine .cons h1 (.cons ?_ h4)
            cases h3 with
            | bx hd =>
              have : R w ρ (.ptr C 0 0 sz2 0) (.pointer (some ⟨ρ.blk C 0, 0 * sz2 + 0, none⟩)) := .ptr hd
              rw [Nat.zero_mul] at this
              exact this
          have := MConOK.mcTPp hG hf h w0 ρ m m' D w key _ vs ⟨(K ≠ C) :: (sz2 = sz2) :: (0 < (famC 0).n) :: (sz2 = (famC 0).sz) :: (cleanCs ((famC 0).get 0) = true) :: famCl famC :: tabOK K N sz tp ty fam :: ob, val, .many [(K, famT K N sz tp ty get'), (C, famE famC 0 0 cs')] none⟩ hR hk hm hRs'
            (by simp only [Ax.mcTPp, hl, hl2, hF]) (fun p hp => by
              simp only [List.mem_cons] at hp
              rcases hp with rfl | rfl | rfl | rfl | rfl | rfl | rfl | hp
              · exact hne
              · trivial
              · omega
              · exact hsz
              · exact hcl
              · exact hC
              · exact hok
              · exact hob p (by simp [hp])) ⟨_, _, rfl⟩
          refine this.mono fun v w' ⟨ρ', p1, p2, p3, p4⟩ => ⟨ρ', p1, ?_, p3, p4⟩
          have p2 : Rel w0 ρ' (setRow C (famE famC 0 0 cs') (setRow K (famT K N sz tp ty get') m)) (fun r => D r ∨ r = key) w' := p2
          refine Rel.alike p2 fun f => ?_
          by_cases e : f = 0
          · subst e
            refine ⟨rfl, rfl, rfl, rfl, fun i hi => ?_⟩
            rw [famE_n, hn] at hi
            have : i = 0 := by omega
            subst this
            rw [famE_get]; rfl
          · unfold wb1
            rw [if_neg e, famE_off e]
            exact ⟨rfl, rfl, rfl, rfl, fun _ _ => rfl⟩
        · cases hc
      · cases hc
    · cases hc
  · exact MConOK.mcTPp hG hf h w0 ρ m m' D w key es vs e hR hk hm hRs hc hob hmany

/-! ### Two pointers out of a table -/
def mc2P (sz : Nat) (tp ty : TypeId) : MCon := fun key m es => match es with
  | [.own K 0 N 1, .v (.int .i64 a), .v (.int .i64 b)] => match look m K with
    | some fam => some ⟨[tabOK K N sz tp ty fam, N ≤ 1000], if 0 ≤ a ∧ a < N ∧ 0 ≤ b ∧ b < N ∧ a ≠ b then .tup [.ptr K (a.toNat + 1) 0 sz 0, .ptr K (b.toNat + 1) 0 sz 0, .v (.bool true)] else .tup [.v (.pointer none), .v (.pointer none), .v (.bool false)], .many [(K, fam)] none⟩
    | none => none
  | _ => none
def TwoPOK (P : Program) (G : Ctx) (H : Hots) (fn : Func) (sz : Nat) (tp ty : TypeId) : Prop :=
  ∀ N get, N ≤ 1000 → ∀ a b : Int, funcOK P H fn 3 = true ∧
    bodyM P G H fn [.own 0 0 N 1, .v (.int .i64 a), .v (.int .i64 b)] [(0, famT 0 N sz tp ty get)] 1 fun x m1 => x = (if 0 ≤ a ∧ a < N ∧ 0 ≤ b ∧ b < N ∧ a ≠ b then AV.tup [.ptr 0 (a.toNat + 1) 0 sz 0, .ptr 0 (b.toNat + 1) 0 sz 0, .v (.bool true)] else .tup [.v (.pointer none), .v (.pointer none), .v (.bool false)]) ∧ look m1 0 = some (famT 0 N sz tp ty get)
theorem MConOK.mc2P (hG : CtxOK P G) (hf : P.funcs[f]? = some fn) {sz : Nat} {tp ty : TypeId} (h : TwoPOK P G H fn sz tp ty) : MConOK P f (mc2P sz tp ty) := by
  refine MConOK.of (H := H) hG hf fun key m es e hc hob => ?_
  unfold Ax.mc2P at hc
  split at hc
  · rename_i K N a b
    split at hc
    · rename_i fam hl
      cases hc
      have hok : tabOK K N sz tp ty fam := hob _ (by simp)
      have hN : N ≤ 1000 := hob _ (by simp)
      obtain ⟨h1, h2⟩ := h N (fun i => (fam (i + 1)).get 0) hN a b
      refine one_okG hl (tabOK_in hok) (fun th σ f => ⟨rowRen_alike (rowRen_T thL_0 (newG_0 (by simp)) hok.2 f) (hok.1 f), by rw [famT_g]; simp⟩) (es0 := [.own 0 0 N 1, .v (.int .i64 a), .v (.int .i64 b)]) ?_ ?_ h1 (fun th σ => ?_) h2
      · rfl
      · intro x hx
        simp only [List.mem_cons, List.not_mem_nil, or_false] at hx
        rcases hx with e | e | e <;> rw [e]
        · exact Nat.zero_lt_one
        · trivial
        · trivial
      · split
        · refine ⟨?_, ?_⟩
          · show AV.tup [.ptr K _ _ _ _, .ptr K _ _ _ _, _] = .tup [.ptr (thL [K] key th 0 _).1 (thL [K] key th 0 _).2 _ _ _, .ptr (thL [K] key th 0 _).1 (thL [K] key th 0 _).2 _ _ _, _]
            rw [thL_0, thL_0]; rfl
          · intro c hc
            simp only [List.mem_cons, List.not_mem_nil, or_false] at hc
            rcases hc with e | e | e <;> rw [e]
            · exact newG_0 (by simp) _
            · exact newG_0 (by simp) _
            · trivial
        · refine ⟨rfl, fun c hc => ?_⟩
          simp only [List.mem_cons, List.not_mem_nil, or_false] at hc
          rcases hc with e | e | e <;> rw [e] <;> trivial
    · cases hc
  · cases hc

/-! ### A slice of one's own -/
def mcS (sz : Nat) (ty : TypeId) (F : Nat → (Nat → List AV) → List AV → Option (List Prop × AV × (Nat → List AV))) : MCon := fun key m es => match es with
  | .own r 0 N sz' :: rest => match look m r with
    | some fam => match F N (fam 0).get rest with
      | some (ob, val, get') => some ⟨(sz' = sz) :: (fam = famN N sz ty (fam 0).get none) :: (∀ i, i < N → cleanCs ((fam 0).get i) = true) :: ob, val, .many [(r, famN N sz ty get' none)] none⟩
      | none => none
    | none => none
  | _ => none
def SlOK (P : Program) (G : Ctx) (H : Hots) (fn : Func) (sz : Nat) (ty : TypeId) (F : Nat → (Nat → List AV) → List AV → Option (List Prop × AV × (Nat → List AV))) : Prop :=
  ∀ N get rest ob val get', F N get rest = some (ob, val, get') → (∀ p ∈ ob, p) → (∀ i, i < N → cleanCs (get i) = true) → (∀ a ∈ rest, clean 3 a = true) ∧ clean 3 val = true ∧ (∀ i, i < N → cleanCs (get' i) = true) ∧ funcOK P H fn (rest.length + 1) = true ∧
    bodyM P G H fn (.own 0 0 N sz :: rest) [(0, famN N sz ty get none)] 1 fun a m1 => a = val ∧ look m1 0 = some (famN N sz ty get' none)
theorem famCl_N {n sz : Nat} {ty : TypeId} {get : Nat → List AV} (h : ∀ i, i < n → cleanCs (get i) = true) : famCl (famN n sz ty get none) := fun f => by
  unfold famN
  by_cases e : f = 0
  · subst e
    exact ⟨rfl, fun j hj c hc => cleanCs_mem (h j (by simpa using hj)) c (by simpa using hc)⟩
  · simp only [e, if_false]
    exact ⟨trivial, fun j hj => by omega⟩
theorem famCl_1 {sz : Nat} {ty : TypeId} {cs : List AV} (h : cleanCs cs = true) : famCl (fam1 ty sz cs none) := fun f => by
  unfold fam1
  by_cases e : f = 0
  · subst e
    exact ⟨rfl, fun j _ c hc => cleanCs_mem h c (by simpa using hc)⟩
  · simp only [e, if_false]
    exact ⟨trivial, fun j hj => by omega⟩
theorem MConOK.mcS (hG : CtxOK P G) (hf : P.funcs[f]? = some fn) {sz : Nat} {ty : TypeId} {F : Nat → (Nat → List AV) → List AV → Option (List Prop × AV × (Nat → List AV))} (h : SlOK P G H fn sz ty F) : MConOK P f (mcS sz ty F) := by
  refine MConOK.of (H := H) hG hf fun key m es e hc hob => ?_
  unfold Ax.mcS at hc
  split at hc
  · rename_i K N sz' rest
    split at hc
    · rename_i fam hl
      split at hc
      · rename_i ob val get' hF
        cases hc
        have hs : sz' = sz := hob _ (by simp)
        have he : fam = famN N sz ty (fam 0).get none := hob _ (by simp)
        have hcl : ∀ i, i < N → cleanCs ((fam 0).get i) = true := hob _ (by simp)
        subst hs
        obtain ⟨h1, h2, h3, h4, h5⟩ := h _ _ _ _ _ _ hF (fun p hp => hob p (by simp [hp])) hcl
        obtain ⟨a1, a2⟩ := cleans_ren (θ := thE [K]) (g := lowG 1) (B := lowB 1) h1
        have hC : famCl fam := by rw [he]; exact famCl_N hcl
        rw [← he] at h5
        refine one_okG hl (fun f => ⟨(hC f).1, rowRen_cl hC f⟩) (fun th σ f => ⟨rowRen_cl (famCl_N h3) f, by rw [(famCl_N h3 f).1]; simp⟩) (es0 := .own 0 0 N sz' :: rest) (val0 := val) ?_ ?_ h4 (fun th σ => ?_) h5
        · rw [List.map_cons, a1]; rfl
        · intro a ha
          rcases List.mem_cons.1 ha with e | ha
          · rw [e]; exact Nat.zero_lt_one
          · exact a2 a ha
        · obtain ⟨b1, b2⟩ := clean_ren (θ := thL [K] key th) (g := newG 1 σ th) (B := newB 1 σ) 3 val h2
          exact ⟨b1.symm, b2⟩
      · cases hc
    · cases hc
  · cases hc
/-! ### A new table, its elements being rows of another family -/
def LayOK2 (P : Program) (G : Ctx) (H : Hots) (fn : Func) (sz : Nat) (tp ty : TypeId) (F : List AV → Option (List Prop × Nat × (Nat → List AV))) : Prop :=
  ∀ es ob N get, F es = some (ob, N, get) → (∀ p ∈ ob, p) → (∀ a ∈ es, clean 3 a = true) ∧ (∀ i, i < N → cleanCs (get i) = true) ∧ funcOK P H fn es.length = true ∧
    bodyM P G H fn es [] 0 fun a m1 => ∃ L M x y, L ≠ M ∧ a = .own L 0 N 1 ∧ look m1 L = some x ∧ look m1 M = some y ∧ alike ⟨N, 1, tp, fun j => [.ptr M j 0 sz 0], none⟩ (x 0) ∧ ∀ i, i < N → alike ⟨1, sz, ty, fun _ => get i, none⟩ (y i)
def sigT (L M N : Nat) (f : Nat) : Option (Nat × Nat) := match f with
  | 0 => some (L, 0)
  | f + 1 => if f < N then some (M, f) else none
def thT (L : Nat) (r f : Nat) : Nat := if r = L then 0 else f + 1
theorem MConOK.mcL2 (hG : CtxOK P G) (hf : P.funcs[f]? = some fn) {sz : Nat} {tp ty : TypeId} {F : List AV → Option (List Prop × Nat × (Nat → List AV))} (h : LayOK2 P G H fn sz tp ty F) : MConOK P f (Ax.mcL sz tp ty F) := by
  refine MConOK.of (H := H) hG hf fun key m es e hc hob => ?_
  unfold Ax.mcL at hc
  split at hc
  · rename_i ob N get hF
    cases hc
    obtain ⟨h1, h2, h3, h4⟩ := h _ _ _ _ hF fun p hp => hob p hp
    obtain ⟨a1, a2⟩ := cleans_ren (θ := thE []) (g := lowG 0) (B := lowB 0) h1
    refine ⟨[], [], es, ⟨by simp, a1.symm, a2, fun j hj => by simp at hj, fun q x hq => by simp [look] at hq⟩, h3, h4.mono fun a m1 ⟨L, M, x, y, q0, q1, q2, q3, q4, q5⟩ => ?_⟩
    have g0 : ∀ B : Nat, newG B (sigT L M N) (thT L) L 0 := fun B => .inr (by unfold thT sigT; rw [if_pos rfl])
    have gM : ∀ B j : Nat, j < N → newG B (sigT L M N) (thT L) M j := fun B j hj => .inr (by unfold thT; rw [if_neg (Ne.symm q0)]; unfold sigT; exact if_pos hj)
    refine ⟨sigT L M N, thT L, [], some _, rfl, ⟨fun f r g h => ?_, ?_, ?_, rfl, fun j hj => by simp at hj, fun f => ?_⟩⟩
    · cases f with
      | zero => cases h; exact ⟨Nat.zero_le _, if_pos rfl⟩
      | succ f =>
        unfold sigT at h
        dsimp only at h
        split at h
        · cases h; exact ⟨Nat.zero_le _, if_neg (Ne.symm q0)⟩
        · cases h
    · rw [q1]
      show AV.own key 0 N 1 = .own (thL [] key (thT L) L 0).1 (thL [] key (thT L) L 0).2 N 1
      unfold thL thT
      simp
    · rw [q1]; exact g0 _
    · cases f with
      | zero =>
        refine ⟨_, q2, ?_, by rw [q4.2.2.2.1]; simp⟩
        obtain ⟨k1, k2, k3, k4, k5⟩ := q4
        refine ⟨k1.symm, k2.symm, k3.symm, k4.symm, fun j hj => ?_⟩
        rw [k1] at hj
        rw [k5 j hj]
        refine ⟨?_, fun c hc => ?_⟩
        · show [AV.ptr key (j + 1) 0 sz 0] = [AV.ptr (thL [] key (thT L) M j).1 (thL [] key (thT L) M j).2 0 sz 0]
          unfold thL thT
          simp [Ne.symm q0]
        · rw [List.mem_singleton] at hc
          rw [hc]; exact gM _ j hj
      | succ f =>
        by_cases hf : f < N
        · have e : sigT L M N (f + 1) = some (M, f) := if_pos hf
          rw [e]
          obtain ⟨k1, k2, k3, k4, k5⟩ := q5 f hf
          refine ⟨_, q3, ?_, by rw [k4]; simp⟩
          refine rowRen_clean' ⟨?_, k2.symm, k3.symm, k4.symm, fun j hj => ?_⟩ fun j hj c hcm => ?_
          · simp only [famT, if_pos hf]; exact k1.symm
          · rw [k1] at hj
            have hj : j < 1 := hj
            have : j = 0 := by omega
            subst this
            rw [k5 0 Nat.zero_lt_one]; rfl
          · rw [k1] at hj
            have hj : j < 1 := hj
            have : j = 0 := by omega
            subst this
            rw [k5 0 Nat.zero_lt_one] at hcm
            exact cleanCs_mem (h2 f hf) c hcm
        · have e : sigT L M N (f + 1) = none := if_neg hf
          rw [e]
          show (if f < N then 1 else 0) = 0
          exact if_neg hf
  · cases hc
/-! ### A new slice -/
def mcV (sz : Nat) (ty : TypeId) (F : List AV → Option (List Prop × Nat × (Nat → List AV))) : MCon := fun key m es => match F es with
  | some (ob, N, get) => some ⟨ob, .own key 0 N sz, .many [] (some (famN N sz ty get none))⟩
  | none => none
def VecOK (P : Program) (G : Ctx) (H : Hots) (fn : Func) (sz : Nat) (ty : TypeId) (F : List AV → Option (List Prop × Nat × (Nat → List AV))) : Prop :=
  ∀ es ob N get, F es = some (ob, N, get) → (∀ p ∈ ob, p) → (∀ a ∈ es, clean 3 a = true) ∧ (∀ i, i < N → cleanCs (get i) = true) ∧ funcOK P H fn es.length = true ∧
    bodyM P G H fn es [] 0 fun a m1 => ∃ L, a = .own L 0 N sz ∧ look m1 L = some (famN N sz ty get none)
theorem MConOK.mcV (hG : CtxOK P G) (hf : P.funcs[f]? = some fn) {sz : Nat} {ty : TypeId} {F : List AV → Option (List Prop × Nat × (Nat → List AV))} (h : VecOK P G H fn sz ty F) : MConOK P f (Ax.mcV sz ty F) := by
  refine MConOK.of (H := H) hG hf fun key m es e hc hob => ?_
  unfold Ax.mcV at hc
  split at hc
  · rename_i ob N get hF
    cases hc
    obtain ⟨h1, h2, h3, h4⟩ := h _ _ _ _ hF fun p hp => hob p hp
    obtain ⟨a1, a2⟩ := cleans_ren (θ := thE []) (g := lowG 0) (B := lowB 0) h1
    refine ⟨[], [], es, ⟨by simp, a1.symm, a2, fun j hj => by simp at hj, fun q x hq => by simp [look] at hq⟩, h3, h4.mono fun a m1 ⟨L, q1, q2⟩ => ?_⟩
    refine ⟨whole L, idTh, [], some _, rfl, ⟨fun f r g h => ?_, ?_, ?_, rfl, fun j hj => by simp at hj, fun f => ?_⟩⟩
    · cases h; exact ⟨Nat.zero_le _, rfl⟩
    · rw [q1]; rfl
    · rw [q1]; exact .inr rfl
    · exact ⟨_, q2, rowRen_cl (famCl_N h2) f, by rw [(famCl_N h2 f).1]; simp⟩
  · cases hc
/-! ### For the evaluator -/
section
variable {sz sz2 K N C : Nat} {tp ty : TypeId} {m : Mem} {rest : List AV} {get get' : Nat → List AV} {ob : List Prop} {val : AV} {fam famC : Fam} {cs cs' : List AV}
def mcTf (K N sz : Nat) (tp ty : TypeId) (fam : Fam) : Option (List Prop × AV × (Nat → List AV)) → Option Eff
  | some (ob, val, get') => some ⟨tabOK K N sz tp ty fam :: ob, val, .many [(K, famT K N sz tp ty get')] none⟩
  | none => none
def mcTe (sz : Nat) (tp ty : TypeId) (F : Nat → (Nat → List AV) → List AV → Option (List Prop × AV × (Nat → List AV))) (K N : Nat) (rest : List AV) : Option Fam → Option Eff
  | some fam => mcTf K N sz tp ty fam (F N (fun i => (fam (i + 1)).get 0) rest)
  | none => none
theorem mcT_eq {F : Nat → (Nat → List AV) → List AV → Option (List Prop × AV × (Nat → List AV))} : Ax.mcT sz tp ty F key m (.own K 0 N 1 :: rest) = mcTe sz tp ty F K N rest (look m K) := by
  show (match look m K with
    | some fam => (match F N (fun i => (fam (i + 1)).get 0) rest with
      | some (ob, val, get') => some (⟨tabOK K N sz tp ty fam :: ob, val, .many [(K, famT K N sz tp ty get')] none⟩ : Eff)
      | none => none)
    | none => none) = _
  unfold mcTe
  cases look m K with
  | none => rfl
  | some fam =>
    dsimp only
    unfold mcTf
    cases F N (fun i => (fam (i + 1)).get 0) rest <;> rfl
theorem mcTe_T {F : Nat → (Nat → List AV) → List AV → Option (List Prop × AV × (Nat → List AV))} : mcTe sz tp ty F K N rest (some (famT K N sz tp ty get)) = mcTf K N sz tp ty (famT K N sz tp ty get) (F N get rest) := (rfl)
theorem mcTf_some : mcTf K N sz tp ty fam (some (ob, val, get')) = some ⟨tabOK K N sz tp ty fam :: ob, val, .many [(K, famT K N sz tp ty get')] none⟩ := (rfl)
def mcQf (K N C sz sz2 : Nat) (tp ty : TypeId) (fam famC : Fam) : Option (List Prop × AV × (Nat → List AV) × List AV) → Option Eff
  | some (ob, val, get', cs') => some ⟨(K ≠ C) :: ((famC 0).n = 1) :: (sz2 = (famC 0).sz) :: (cleanCs ((famC 0).get 0) = true) :: famCl famC :: tabOK K N sz tp ty fam :: ob, val, .many [(K, famT K N sz tp ty get'), (C, wb1 famC cs')] none⟩
  | none => none
def mcQe (sz sz2 : Nat) (tp ty : TypeId) (F : Nat → (Nat → List AV) → List AV → List AV → Option (List Prop × AV × (Nat → List AV) × List AV)) (K N C : Nat) (rest : List AV) : Option Fam → Option Fam → Option Eff
  | some fam, some famC => mcQf K N C sz sz2 tp ty fam famC (F N (fun i => (fam (i + 1)).get 0) ((famC 0).get 0) rest)
  | _, _ => none
theorem mcTQ_bx {F : Nat → (Nat → List AV) → List AV → List AV → Option (List Prop × AV × (Nat → List AV) × List AV)} : Ax.mcTQ sz sz2 tp ty F key m (.own K 0 N 1 :: .bx C 0 :: rest) = mcQe sz sz2 tp ty F K N C rest (look m K) (look m C) := by
  show (match look m K with
    | some fam => (match look m C with
      | some famC => (match F N (fun i => (fam (i + 1)).get 0) ((famC 0).get 0) rest with
        | some (ob, val, get', cs') => some (⟨(K ≠ C) :: ((famC 0).n = 1) :: (sz2 = (famC 0).sz) :: (cleanCs ((famC 0).get 0) = true) :: famCl famC :: tabOK K N sz tp ty fam :: ob, val, .many [(K, famT K N sz tp ty get'), (C, wb1 famC cs')] none⟩ : Eff)
        | none => none)
      | none => none)
    | none => none) = _
  unfold mcQe
  cases look m K with
  | none => rfl
  | some fam =>
    dsimp only
    cases look m C with
    | none => rfl
    | some famC =>
      dsimp only
      unfold mcQf
      cases F N (fun i => (fam (i + 1)).get 0) ((famC 0).get 0) rest <;> rfl
theorem mcQe_T {F : Nat → (Nat → List AV) → List AV → List AV → Option (List Prop × AV × (Nat → List AV) × List AV)} : mcQe sz sz2 tp ty F K N C rest (some (famT K N sz tp ty get)) (some famC) = mcQf K N C sz sz2 tp ty (famT K N sz tp ty get) famC (F N get ((famC 0).get 0) rest) := (rfl)
theorem mcQf_some : mcQf K N C sz sz2 tp ty fam famC (some (ob, val, get', cs')) = some ⟨(K ≠ C) :: ((famC 0).n = 1) :: (sz2 = (famC 0).sz) :: (cleanCs ((famC 0).get 0) = true) :: famCl famC :: tabOK K N sz tp ty fam :: ob, val, .many [(K, famT K N sz tp ty get'), (C, wb1 famC cs')] none⟩ := (rfl)
def mcRf (K N C f i s2 sz sz2 : Nat) (tp ty : TypeId) (fam famC : Fam) : Option (List Prop × AV × (Nat → List AV) × List AV) → Option Eff
  | some (ob, val, get', cs') => some ⟨(K ≠ C) :: (s2 = sz2) :: (i < (famC f).n) :: (sz2 = (famC f).sz) :: (cleanCs ((famC f).get i) = true) :: famCl famC :: tabOK K N sz tp ty fam :: ob, val, .many [(K, famT K N sz tp ty get'), (C, famE famC f i cs')] none⟩
  | none => none
def mcRe (sz sz2 : Nat) (tp ty : TypeId) (F : Nat → (Nat → List AV) → List AV → List AV → Option (List Prop × AV × (Nat → List AV) × List AV)) (K N C f i s2 : Nat) (rest : List AV) : Option Fam → Option Fam → Option Eff
  | some fam, some famC => mcRf K N C f i s2 sz sz2 tp ty fam famC (F N (fun i => (fam (i + 1)).get 0) ((famC f).get i) rest)
  | _, _ => none
theorem mcTQ_ptr {F : Nat → (Nat → List AV) → List AV → List AV → Option (List Prop × AV × (Nat → List AV) × List AV)} {f i s2 : Nat} : Ax.mcTQ sz sz2 tp ty F key m (.own K 0 N 1 :: .ptr C f i s2 0 :: rest) = mcRe sz sz2 tp ty F K N C f i s2 rest (look m K) (look m C) := by
  show (match look m K with
    | some fam => (match look m C with
      | some famC => (match F N (fun i => (fam (i + 1)).get 0) ((famC f).get i) rest with
        | some (ob, val, get', cs') => some (⟨(K ≠ C) :: (s2 = sz2) :: (i < (famC f).n) :: (sz2 = (famC f).sz) :: (cleanCs ((famC f).get i) = true) :: famCl famC :: tabOK K N sz tp ty fam :: ob, val, .many [(K, famT K N sz tp ty get'), (C, famE famC f i cs')] none⟩ : Eff)
        | none => none)
      | none => none)
    | none => none) = _
  unfold mcRe
  cases look m K with
  | none => rfl
  | some fam =>
    dsimp only
    cases look m C with
    | none => rfl
    | some famC =>
      dsimp only
      unfold mcRf
      cases F N (fun i => (fam (i + 1)).get 0) ((famC f).get i) rest <;> rfl
theorem mcRe_T {F : Nat → (Nat → List AV) → List AV → List AV → Option (List Prop × AV × (Nat → List AV) × List AV)} {f i s2 : Nat} : mcRe sz sz2 tp ty F K N C f i s2 rest (some (famT K N sz tp ty get)) (some famC) = mcRf K N C f i s2 sz sz2 tp ty (famT K N sz tp ty get) famC (F N get ((famC f).get i) rest) := (rfl)
theorem mcRf_some {f i s2 : Nat} : mcRf K N C f i s2 sz sz2 tp ty fam famC (some (ob, val, get', cs')) = some ⟨(K ≠ C) :: (s2 = sz2) :: (i < (famC f).n) :: (sz2 = (famC f).sz) :: (cleanCs ((famC f).get i) = true) :: famCl famC :: tabOK K N sz tp ty fam :: ob, val, .many [(K, famT K N sz tp ty get'), (C, famE famC f i cs')] none⟩ := (rfl)
def mcPf (r r' f i s1 f' i' s2 sz : Nat) (fam : Fam) : Option (List Prop × AV × List AV × List AV) → Option Eff
  | some (ob, val, cs, cs') => some ⟨(r' = r) :: (f ≠ f') :: (i < (fam f).n) :: (i' < (fam f').n) :: (s1 = sz) :: (s2 = sz) :: (sz = (fam f).sz) :: (sz = (fam f').sz) :: (cleanCs ((fam f).get i) = true) :: (cleanCs ((fam f').get i') = true) :: famOK r fam :: ob, val, .many [(r, famE (famE fam f i cs) f' i' cs')] none⟩
  | none => none
def mcPe (sz : Nat) (F : List AV → List AV → List AV → Option (List Prop × AV × List AV × List AV)) (r r' f i s1 f' i' s2 : Nat) (rest : List AV) : Option Fam → Option Eff
  | some fam => mcPf r r' f i s1 f' i' s2 sz fam (F ((fam f).get i) ((fam f').get i') rest)
  | none => none
theorem mcPP_eq {F : List AV → List AV → List AV → Option (List Prop × AV × List AV × List AV)} {r r' f i s1 f' i' s2 : Nat} : Ax.mcPP sz F key m (.ptr r f i s1 0 :: .ptr r' f' i' s2 0 :: rest) = mcPe sz F r r' f i s1 f' i' s2 rest (look m r) := by
  show (match look m r with
    | some fam => (match F ((fam f).get i) ((fam f').get i') rest with
      | some (ob, val, cs, cs') => some (⟨(r' = r) :: (f ≠ f') :: (i < (fam f).n) :: (i' < (fam f').n) :: (s1 = sz) :: (s2 = sz) :: (sz = (fam f).sz) :: (sz = (fam f').sz) :: (cleanCs ((fam f).get i) = true) :: (cleanCs ((fam f').get i') = true) :: famOK r fam :: ob, val, .many [(r, famE (famE fam f i cs) f' i' cs')] none⟩ : Eff)
      | none => none)
    | none => none) = _
  unfold mcPe
  cases look m r with
  | none => rfl
  | some fam =>
    dsimp only
    unfold mcPf
    cases F ((fam f).get i) ((fam f').get i') rest <;> rfl
theorem mcPe_some {F : List AV → List AV → List AV → Option (List Prop × AV × List AV × List AV)} {r r' f i s1 f' i' s2 : Nat} : mcPe sz F r r' f i s1 f' i' s2 rest (some fam) = mcPf r r' f i s1 f' i' s2 sz fam (F ((fam f).get i) ((fam f').get i') rest) := (rfl)
theorem mcPf_some {r r' f i s1 f' i' s2 : Nat} : mcPf r r' f i s1 f' i' s2 sz fam (some (ob, val, cs, cs')) = some ⟨(r' = r) :: (f ≠ f') :: (i < (fam f).n) :: (i' < (fam f').n) :: (s1 = sz) :: (s2 = sz) :: (sz = (fam f).sz) :: (sz = (fam f').sz) :: (cleanCs ((fam f).get i) = true) :: (cleanCs ((fam f').get i') = true) :: famOK r fam :: ob, val, .many [(r, famE (famE fam f i cs) f' i' cs')] none⟩ := (rfl)
def mcSf (r N s sz : Nat) (ty : TypeId) (fam : Fam) : Option (List Prop × AV × (Nat → List AV)) → Option Eff
  | some (ob, val, get') => some ⟨(s = sz) :: (fam = famN N sz ty (fam 0).get none) :: (∀ i, i < N → cleanCs ((fam 0).get i) = true) :: ob, val, .many [(r, famN N sz ty get' none)] none⟩
  | none => none
def mcSe (sz : Nat) (ty : TypeId) (F : Nat → (Nat → List AV) → List AV → Option (List Prop × AV × (Nat → List AV))) (r N s : Nat) (rest : List AV) : Option Fam → Option Eff
  | some fam => mcSf r N s sz ty fam (F N (fam 0).get rest)
  | none => none
theorem mcS_eq {F : Nat → (Nat → List AV) → List AV → Option (List Prop × AV × (Nat → List AV))} {r s : Nat} : Ax.mcS sz ty F key m (.own r 0 N s :: rest) = mcSe sz ty F r N s rest (look m r) := by
  show (match look m r with
    | some fam => (match F N (fam 0).get rest with
      | some (ob, val, get') => some (⟨(s = sz) :: (fam = famN N sz ty (fam 0).get none) :: (∀ i, i < N → cleanCs ((fam 0).get i) = true) :: ob, val, .many [(r, famN N sz ty get' none)] none⟩ : Eff)
      | none => none)
    | none => none) = _
  unfold mcSe
  cases look m r with
  | none => rfl
  | some fam =>
    dsimp only
    unfold mcSf
    cases F N (fam 0).get rest <;> rfl
theorem mcSe_some {F : Nat → (Nat → List AV) → List AV → Option (List Prop × AV × (Nat → List AV))} {r s : Nat} : mcSe sz ty F r N s rest (some (famN N sz ty get none)) = mcSf r N s sz ty (famN N sz ty get none) (F N get rest) := (rfl)
theorem mcSf_some {r s : Nat} : mcSf r N s sz ty (famN N sz ty get none) (some (ob, val, get')) = some ⟨(s = sz) :: (famN N sz ty get none = famN N sz ty get none) :: (∀ i, i < N → cleanCs (get i) = true) :: ob, val, .many [(r, famN N sz ty get' none)] none⟩ := (rfl)
def mc2e (K N sz : Nat) (tp ty : TypeId) (a b : Int) : Option Fam → Option Eff
  | some fam => some ⟨[tabOK K N sz tp ty fam, N ≤ 1000], if 0 ≤ a ∧ a < N ∧ 0 ≤ b ∧ b < N ∧ a ≠ b then .tup [.ptr K (a.toNat + 1) 0 sz 0, .ptr K (b.toNat + 1) 0 sz 0, .v (.bool true)] else .tup [.v (.pointer none), .v (.pointer none), .v (.bool false)], .many [(K, fam)] none⟩
  | none => none
theorem mc2P_eq {a b : Int} : Ax.mc2P sz tp ty key m [.own K 0 N 1, .v (.int .i64 a), .v (.int .i64 b)] = mc2e K N sz tp ty a b (look m K) := by
  show (match look m K with
    | some fam => some (⟨[tabOK K N sz tp ty fam, N ≤ 1000], if 0 ≤ a ∧ a < N ∧ 0 ≤ b ∧ b < N ∧ a ≠ b then .tup [.ptr K (a.toNat + 1) 0 sz 0, .ptr K (b.toNat + 1) 0 sz 0, .v (.bool true)] else .tup [.v (.pointer none), .v (.pointer none), .v (.bool false)], .many [(K, fam)] none⟩ : Eff)
    | none => none) = _
  unfold mc2e
  cases look m K <;> rfl
theorem mc2e_some {a b : Int} : mc2e K N sz tp ty a b (some fam) = some ⟨[tabOK K N sz tp ty fam, N ≤ 1000], if 0 ≤ a ∧ a < N ∧ 0 ≤ b ∧ b < N ∧ a ≠ b then .tup [.ptr K (a.toNat + 1) 0 sz 0, .ptr K (b.toNat + 1) 0 sz 0, .v (.bool true)] else .tup [.v (.pointer none), .v (.pointer none), .v (.bool false)], .many [(K, fam)] none⟩ := (rfl)
theorem famCl_1t (h : cleanCs cs = true) : famCl (fam1 ty sz cs none) = True := eq_true (famCl_1 h)
theorem famCl_Nt {n : Nat} (h : ∀ i, i < n → cleanCs (get i) = true) : famCl (famN n sz ty get none) = True := eq_true (famCl_N h)
end
attribute [go_sem] mcT_eq mcTe_T mcTf_some mcTQ_bx mcTQ_ptr mcQe_T mcQf_some mcRe_T mcRf_some mcPP_eq mcPe_some mcPf_some mcS_eq mcSe_some mcSf_some mc2P_eq mc2e_some famCl_1t famCl_Nt
end
end Go.Ax
end

section
/-
  Bodies ars they are, not cell by cell; lists of bodies, tables of bodies.
-/
set_option linter.unusedVariables false
set_option linter.unusedSimpArgs false
set_option maxHeartbeats 4000000
set_option maxRecDepth 100000
namespace Go.Ax
open Go.Proofs
section
variable {P : Program} {G : Ctx} {H : Hots} {K0 : AEx → St → Prop} {hot : Option Hot} {ops : Array Oper} {d : Option Tmp} {rest : List Oper} {i k : Nat} {st : List Fr} {t : Slots} {m : Mem} {nx : Nat} {o : List Prop} {u : Upd} {b : Bd} {c : Bool}
theorem ofC_body : ofC (some (true, 27)) (bodyC b) = some (.agg (bodyC b)) := (rfl)
theorem cells_body : cellsOf (.agg (bodyC b)) = some (bodyC b) := (rfl)
theorem drop_body : (bodyC b).drop 27 = [] := (rfl)
theorem drop5_body : (bodyC b).drop 5 = [i64 b.pl.1.1, bo b.pl.1.2, i64 b.pl.2.1, bo b.pl.2.2, i64 b.rot.1.1, bo b.rot.1.2, i64 b.rot.2.1, bo b.rot.2.2, i64 b.v.1.1, bo b.v.1.2, i64 b.v.2.1, bo b.v.2.2, i64 b.w.1, bo b.w.2, i64 b.m.1, bo b.m.2, i64 b.i.1, bo b.i.2, i64 b.st, bo b.sl, bo b.fa, i64 b.ve] := (rfl)
theorem drop19_body : (bodyC b).drop 19 = [i64 b.m.1, bo b.m.2, i64 b.i.1, bo b.i.2, i64 b.st, bo b.sl, bo b.fa, i64 b.ve] := (rfl)
theorem drop21_body : (bodyC b).drop 21 = [i64 b.i.1, bo b.i.2, i64 b.st, bo b.sl, bo b.fa, i64 b.ve] := (rfl)
theorem take_body : (bodyC b).take 27 = bodyC b := (rfl)
theorem cleanCs_body : cleanCs (bodyC b) = true := (rfl)
theorem allCells_body : allCells (bodyC b) = true := (rfl)
theorem purUL_body : purUL 2 m (bodyC b) = bodyC b := (rfl)
theorem pgsL_body : pgsL 2 m (bodyC b) = [] := (rfl)
theorem purL_body : (bodyC b).map (pur 2 m) = bodyC b := (rfl)
theorem cleanL_body : cleanL 2 (bodyC b) = true := (rfl)
theorem purLd_body {d : Nat} : purL d m (bodyC b) = bodyC b := by cases d <;> rfl
theorem bindL_body : bindL P G H K0 hot ops d rest i st t m nx o u false [] (bodyC b) = bindC P G H K0 hot ops d rest i st t m nx o u (.agg (bodyC b)) := by
  unfold bindL; simp
end
attribute [go_sem] purLd_body drop5_body drop19_body drop21_body cleanL_body ofC_body cells_body drop_body take_body cleanCs_body allCells_body purUL_body pgsL_body purL_body bindL_body len_body clean_body bodyD_C
theorem tmpE_ptr {r f i sz k : Nat} : tmpE (.ptr r f i sz k) = some ⟨[], .ptr r f i sz k, .none⟩ := (rfl)
attribute [go_sem] tmpE_ptr
theorem iHft {b : Bd} {x n : V2} : inR (hftS b x n).1 = True := iAdd
theorem iSpd1 {b : Bd} {x : V2} : inR (spdS b x).1.1 = True := iVAdd1
theorem iSpd2 {b : Bd} {x : V2} : inR (spdS b x).2.1 = True := iVAdd2
attribute [go_sem] iHft iSpd1 iSpd2
/-- Lists of bodies. -/
def bsC (B : Nat → Bd) : Nat → List AV := fun i => bodyC (B i)
def bsD (g : Nat → List AV) : Nat → Bd := fun i => bodyD (g i)
theorem bsD_C {B : Nat → Bd} : bsD (bsC B) = B := rfl
theorem bsD_C' {B : Nat → Bd} : bsD (fun i => bodyC (B i)) = B := rfl
theorem bsC_at {B : Nat → Bd} {i : Nat} : bsC B i = bodyC (B i) := (rfl)
def inBs (N : Nat) (B : Nat → Bd) : Prop := ∀ i, i < N → inB (B i) ∧ (B i).n ≤ 1000
/-- A contract of a function whose first argument is a list of bodies. -/
def cL (F : Nat → (Nat → Bd) → List AV → Option (List Prop × AV)) : Con
  | .ro N 27 g :: rest => match F N (bsD g) rest with
    | some (ob, r) => some ((g = bsC (bsD g)) :: ob, r)
    | none => none
  | _ => none
theorem cL_eq {F : Nat → (Nat → Bd) → List AV → Option (List Prop × AV)} {N : Nat} {g : Nat → List AV} {rest : List AV} : cL F (.ro N 27 g :: rest) = (match F N (bsD g) rest with
    | some (ob, r) => some ((g = bsC (bsD g)) :: ob, r)
    | none => none) := (rfl)
theorem ConOK.cL {P : Program} {G : Ctx} {H : Hots} (hG : CtxOK P G) {f : FuncId} {fn : Func} (hf : P.funcs[f]? = some fn) {F : Nat → (Nat → Bd) → List AV → Option (List Prop × AV)}
    (h : ∀ N B rest ob r, F N B rest = some (ob, r) → (∀ p ∈ ob, p) → funcOK P H fn (rest.length + 1) = true ∧ fnVC P G H fn (.ro N 27 (bsC B) :: rest) (· = r)) : ConOK P f (Ax.cL F) := ConOK.of hG hf fun l ob r hc hob => by
  unfold Ax.cL at hc
  split at hc
  · rename_i N g rest
    split at hc
    · rename_i ob' r' hF
      cases hc
      have e : g = bsC (bsD g) := hob _ (by simp)
      obtain ⟨h1, h2⟩ := h _ _ _ _ _ hF fun p hp => hob p (by simp [hp])
      rw [← e] at h2
      exact ⟨h1, h2⟩
    · cases hc
  · cases hc
def layF : List AV → Option (List Prop × Nat × (Nat → List AV))
  | [.ro N 27 g] => some ([N ≤ 1000, g = bsC (bsD g), inBs N (bsD g)], N, g)
  | _ => none
def mNlay : MCon := mcL 27 151 155 layF
theorem mNlay_eq {key : Nat} {m : Mem} {N : Nat} {g : Nat → List AV} : mNlay key m [.ro N 27 g] = some ⟨[N ≤ 1000, g = bsC (bsD g), inBs N (bsD g)], .own key 0 N 1, .many [] (some (famT key N 27 151 155 g))⟩ := (rfl)
/-- A table, i pointers of which are there; what they point at. -/
def famP (M N i : Nat) : Fam := famN N 1 151 (fun j => if j < i then [.ptr M j 0 27 0] else [.v (.pointer none)]) none
def famL (B : Nat → Bd) (i : Nat) : Fam := fun f => ⟨if f < i then 1 else 0, 27, 155, fun j => if j = 0 then bodyC (B f) else [], none⟩
theorem fitLA_body {N M : Nat} {θ : Alias} {b : Bd} : fitLA N M θ (bodyC b) (bodyC b) := by
  simp [fitLA, bodyC, fit1A, kb]
def thI (K Q i : Nat) : Alias := fun r f => if r = K then (if f < i then some (K, f) else if f = i then some (Q, 0) else none) else some (r, f)
def th0 (K : Nat) : Alias := fun r f => if r = K then none else some (r, f)
theorem goodA_0 {K L : Nat} {x y : Fam} (hL : L < K) : goodA K 1 (th0 K) [(K, x), (L, y)] [] := by
  refine ⟨fun r f hr => if_neg (by omega), fun e he => ?_, fun r f r' f' q g hr hr' h h' => ?_⟩
  · simp only [List.mem_cons, List.not_mem_nil, or_false] at he
    rcases he with e | e <;> rw [e] <;> dsimp only <;> omega
  · unfold th0 at h h'
    split at h
    · cases h
    · split at h'
      · cases h'
      · cases h; cases h'; exact ⟨rfl, rfl⟩
theorem goodA_I {K L Q i : Nat} {x y : Fam} (hL : L < K) (hQ : K < Q) : goodA K 1 (thI K Q i) [(K, x), (L, y)] [] := by
  refine ⟨fun r f hr => if_neg (by omega), fun e he => ?_, fun r f r' f' q g hr hr' h h' => ?_⟩
  · simp only [List.mem_cons, List.not_mem_nil, or_false] at he
    rcases he with e | e <;> rw [e] <;> dsimp only <;> omega
  · simp only [List.map_cons, List.map_nil, List.mem_cons, List.not_mem_nil, or_false] at hr hr'
    unfold thI at h h'
    rcases hr with e | e <;> rcases hr' with e' | e' <;> subst e <;> subst e'
    · rw [if_pos rfl] at h h'
      refine ⟨rfl, ?_⟩
      (repeat' split at h) <;> (repeat' split at h') <;> simp_all
      all_goals omega
    · rw [if_pos rfl] at h
      rw [if_neg (by omega)] at h'
      cases h'
      (repeat' split at h) <;> simp_all
      all_goals omega
    · rw [if_pos rfl] at h'
      rw [if_neg (by omega)] at h
      cases h
      (repeat' split at h') <;> simp_all
      all_goals omega
    · rw [if_neg (by omega)] at h h'
      cases h; cases h'; exact ⟨rfl, rfl⟩
theorem con73m : MConOK Tryz.prog 73 mNlay := MConOK.mcL2 (G := [(114, .wr mNon)]) (H := []) (.mcons con114m .nil) Tryz.func73 fun es ob N get hF hob => by
  unfold layF at hF
  split at hF
  · cases hF
    have hN : N ≤ 1000 := hob _ (by simp)
    have e : get = bsC (bsD get) := hob _ (by simp)
    have hB : inBs N (bsD get) := hob _ (by simp)
    generalize bsD get = B at *
    subst e
    refine ⟨by simp [clean], fun i _ => rfl, by kernel_rfl, bodyM_go (rs := [.tmp 2]) rfl rfl ?_⟩
    simp only [go_sem, bsC_at]
    have hby : bytesT Tryz.prog 151 = 8 := by kernel_rfl
    rw [hby]
    refine ⟨by omega, by omega, by omega, ?_⟩
    refine loopA_go (fun (i : Nat) => i ≤ N) (fun i => N - i) (fun i => [(11, i64 (i : Int))]) (fun i => [(8, famL B i), (3, famP 8 N i)]) [] [12, 13, 14, 15, 5, 4, 16, 17, 18, 19, 20, 21, 11] 1 0 (by kernel_rfl) (Nat.zero_le _) ⟨th0 8, ?_, ?_, trivial, goodA_0 (by omega)⟩ ?_
    · simp [fitSlotsA, fit1A, kb, slot]
    · refine ⟨fun f => ⟨rfl, rfl⟩, fun f => ⟨_, rfl, ?_⟩, trivial⟩
      unfold famP famN
      split
      · refine ⟨rfl, rfl, rfl, rfl, rfl, fun j _ => ?_⟩
        simp [fitLA, fit1A, kb]
      · exact ⟨rfl, rfl, rfl, rfl, rfl, fun j hj => absurd hj (Nat.not_lt_zero j)⟩
    intro i hi
    simp only [go_sem, famP, bsC_at, mNon_eq]
    refine ⟨fun h => ?_, fun h => ?_⟩
    · have hi' : i < N := by omega
      refine ⟨by omega, h, (hB i hi').1, (hB i hi').2, by omega, h, hi', fun z hz => ⟨i + 1, by omega, by omega, thI 8 19 i, ?_, ?_, goodA_I (by omega) (by omega)⟩⟩
      · have e : z = ((i + 1 : Nat) : Int) := by rw [hz, wrap_in (by unfold inR; omega)]; rfl
        subst e
        simp [fitSlotsA, fit1A, kb, slot]
      · refine ⟨fun f => ?_, fun f => ?_, trivial⟩
        · unfold thI
          rw [if_pos rfl]
          by_cases h1 : f < i
          · rw [if_pos h1]
            refine ⟨_, rfl, ?_⟩
            unfold famL
            refine ⟨by simp [h1]; omega, rfl, rfl, rfl, rfl, fun j hj => ?_⟩
            have : j = 0 := by simp only at hj; split at hj <;> omega
            subst this
            exact fitLA_body
          · rw [if_neg h1]
            by_cases h2 : f = i
            · subst h2
              rw [if_pos rfl]
              refine ⟨_, rfl, ?_⟩
              unfold famL fam1
              refine ⟨by simp, rfl, rfl, rfl, rfl, fun j hj => ?_⟩
              have : j = 0 := by simp only at hj; split at hj <;> omega
              subst this
              exact fitLA_body
            · rw [if_neg h2]
              exact ⟨if_neg (by omega), rfl⟩
        · unfold thI
          rw [if_neg (by omega)]
          refine ⟨_, rfl, ?_⟩
          unfold famN
          split
          · refine ⟨rfl, rfl, rfl, rfl, rfl, fun j _ => ?_⟩
            dsimp only
            by_cases h1 : j = i
            · subst h1
              simp [fitLA, fit1A]
            · by_cases h2 : j < i
              · rw [if_pos (by omega), if_neg h1, if_pos h2]
                simp [fitLA, fit1A, h2]
              · rw [if_neg (by omega), if_neg h1, if_neg h2]
                simp [fitLA, fit1A, kb]
          · exact ⟨rfl, rfl, rfl, rfl, rfl, fun j hj => absurd hj (Nat.not_lt_zero j)⟩
    · have e : i = N := by omega
      subst e
      refine ⟨3, 8, _, _, by omega, rfl, rfl, rfl, ⟨rfl, rfl, rfl, rfl, fun j hj => ?_⟩, fun j hj => ⟨if_pos hj, rfl, rfl, rfl, fun q hq => ?_⟩⟩
      · show (if j < i then _ else _) = _
        exact if_pos hj
      · have hq : q < 1 := hq
        show (if q = 0 then _ else _) = _
        exact if_pos (by omega)
  · cases hF
theorem ofC_len {l : List AV} (h : l.length = 27) : ofC (some (true, 27)) l = some (.agg l) := by
  rw [ofC_agg, if_pos (by omega), ← h, List.take_length]
theorem fitL_clean {N M : Nat} {σ : Names} : ∀ {l : List AV}, cleanCs l = true → fitL N M σ l l
  | [], _ => trivial
  | a :: l, h => by
    simp only [cleanCs, Bool.and_eq_true] at h
    refine ⟨?_, fitL_clean h.2⟩
    have h1 := h.1
    cases a <;> first | exact ⟨rfl, trivial⟩ | trivial | simp [cleanC] at h1
def mNtel : MCon := mcTR 27 151 155 57
theorem con75L : MConOK Tryz.prog 75 (mcTL 27 151 155 57) := MConOK.mcTL (G := []) (H := []) .nil Tryz.func75 fun N get hN hcl hlen => by
  refine ⟨by kernel_rfl, bodyM_go (rs := [.tmp 2]) rfl rfl ?_⟩
  simp only [go_sem]
  have hby : bytesT Tryz.prog 57 = 224 := by kernel_rfl
  rw [hby]
  refine ⟨by omega, by omega, by omega, ?_⟩
  refine loopC_go (fun (i : Nat) => i ≤ N) (fun i => N - i) (fun i => [(11, i64 (i : Int))]) (fun i => [(4, famN N 27 57 (fun j => if j < i then get j else [.v (.int .i64 0), .v (.int .i64 0), .v (.int .i64 0), .v (.int .i64 0), .v (.slice none 0 0), .v (.int .i64 0), .v (.bool false), .v (.int .i64 0), .v (.bool false), .v (.int .i64 0), .v (.bool false), .v (.int .i64 0), .v (.bool false), .v (.int .i64 0), .v (.bool false), .v (.int .i64 0), .v (.bool false), .v (.int .i64 0), .v (.bool false), .v (.int .i64 0), .v (.bool false), .v (.int .i64 0), .v (.bool false), .v (.int .i64 0), .v (.bool false), .v (.bool false), .v (.int .i64 0)]) none)]) [0] [12, 13, 14, 15, 4, 5, 16, 17, 18, 19, 20, 21, 22, 23, 11] 0 (by kernel_rfl) ?_ (Nat.zero_le _) ?_ ?_
  · intro x _; simp [goodNames, asg]
  · simp only [go_sem, Nat.not_lt_zero, if_false, implies_true]
  intro i hi
  by_cases hiN : i < N
  · obtain ⟨hl, ha⟩ := hlen i hiN
    have hl27 : (get i).drop 27 = [] := by rw [List.drop_eq_nil_iff]; omega
    have hof := ofC_len hl
    simp only [go_sem, Nat.lt_irrefl, if_false, hl, ha, hof, hl27]
    refine ⟨fun h => ⟨by omega, h, hiN, hiN, by omega, h, hiN, fun z hz => ⟨i + 1, by omega, by omega, by rw [hz, wrap_in (by unfold inR; omega)]; rfl, fun j hj => ?_⟩⟩, fun h => absurd hiN (by omega)⟩
    by_cases e : j = i
    · subst e
      rw [if_pos (by omega), if_pos rfl]
      exact fitL_clean (hcl j hj)
    · rw [if_neg e]
      by_cases e2 : j < i
      · rw [if_pos (by omega), if_pos e2]
        exact fitL_clean (hcl j hj)
      · rw [if_neg (by omega), if_neg e2]
        exact fitL_clean rfl
  · simp only [go_sem]
    refine ⟨fun h => absurd h (by omega), fun h => ⟨4, _, by omega, rfl, rfl, fun j hj => if_pos (by omega)⟩⟩
theorem con75m : MConOK Tryz.prog 75 mNtel := MConOK.mcTR con75L
end Go.Ax
end

section
/-
  Two bodies of a table; what is asked of two bodies, and done to them.
-/
set_option linter.unusedVariables false
set_option linter.unusedSimpArgs false
set_option maxHeartbeats 4000000
set_option maxRecDepth 100000
namespace Go.Ax
open Go.Proofs
def mTwo : MCon := mc2P 27 151 155
theorem con152m : MConOK Tryz.prog 152 mTwo := MConOK.mc2P (G := []) (H := []) .nil Tryz.func152 fun N get hN a b => by
  refine ⟨by kernel_rfl, bodyM_go (rs := [.tmp 6, .tmp 7, .tmp 8]) rfl rfl ?_⟩
  simp only [go_sem]
  intro z hz z1 hz1
  refine ⟨fun h => (if_neg fun hc => ?_).symm, fun h => ?_⟩
  · rcases h with h | h
    · omega
    · have : a = b := by simpa using h
      exact hc.2.2.2.2 this
  · have hne : a ≠ b := by simpa using h.2
    have hc : 0 ≤ a ∧ a < N ∧ 0 ≤ b ∧ b < N ∧ a ≠ b := ⟨by omega, by omega, by omega, by omega, hne⟩
    refine ⟨hc.1, hc.2.1, by omega, hc.2.2.1, hc.2.2.2.1, by omega, (if_pos hc).symm⟩
/-- What stops two bodies at a place. -/
def sliK (a b : Bd) (x n : V2) : Nb := nAdd (hftS a x n) (hftS b x n)
def sliS (a b : Bd) (x n : V2) : Nb := nDiv (nNeg (vDot (vSub (spdS b x) (spdS a x)) n)) (sliK a b x n)
def kSli : Con
  | [.rop l, .rop l', .agg [.v (.int .i64 x), .v (.bool e), .v (.int .i64 y), .v (.bool f)], .agg [.v (.int .i64 z), .v (.bool g), .v (.int .i64 u), .v (.bool h)]] => some ([l = bodyC (bodyD l), l' = bodyC (bodyD l'), inB (bodyD l), inB (bodyD l'), inR x, inR y, inR z, inR u],
    .tup [.agg [i64 (sliS (bodyD l) (bodyD l') ((x, e), (y, f)) ((z, g), (u, h))).1, bo (sliS (bodyD l) (bodyD l') ((x, e), (y, f)) ((z, g), (u, h))).2], bo (!((sliK (bodyD l) (bodyD l') ((x, e), (y, f)) ((z, g), (u, h))).1 == 0))])
  | _ => none
theorem con161 : ConOK Tryz.prog 161 kSli := ConOK.of (G := [(151, kb151), (153, kw153), (150, kb150), (157, k172), (219, k178), (164, k179), (155, k168)]) (H := [(1, ⟨[(10, .made 9)], []⟩), (2, ⟨[(8, .made 7)], []⟩), (3, ⟨[(9, .slot 8)], [(7, [.slot 8])]⟩)]) (.cons konb151 (.cons konw153 (.cons konb150 (.cons kon172 (.cons kon178 (.cons kon179 (.cons kon168 .nil))))))) Tryz.func161 fun l ob r hc hob => by
  unfold kSli at hc
  split at hc
  · rename_i l l' x e y f z g u h
    cases hc
    have h1 : l = bodyC (bodyD l) := hob _ (by simp)
    have h2 : l' = bodyC (bodyD l') := hob _ (by simp)
    have ha : inB (bodyD l) := hob _ (by simp)
    have hb : inB (bodyD l') := hob _ (by simp)
    have k1 : inR x := hob _ (by simp)
    have k2 : inR y := hob _ (by simp)
    have k3 : inR z := hob _ (by simp)
    have k4 : inR u := hob _ (by simp)
    clear hob
    generalize bodyD l = a at *
    generalize bodyD l' = b at *
    subst h1 h2
    refine ⟨by kernel_rfl, fnVC_go (rs := [.cell 8 24, .tmp 9]) rfl rfl ?_⟩
    simp only [go_sem, kb151, kw153, kb150, k172, k178, k179, k168, cBR_eq, ha, hb, k1, k2, k3, k4]
    rfl
  · cases hc
def apaF : List AV → List AV → List AV → Option (List Prop × AV × List AV × List AV)
  | l, l', [.agg [.v (.int .i64 x), .v (.bool e), .v (.int .i64 y), .v (.bool f)], .agg [.v (.int .i64 x'), .v (.bool e'), .v (.int .i64 y'), .v (.bool f')], .agg [.v (.int .i64 z), .v (.bool g), .v (.int .i64 u), .v (.bool h)], .agg [.v (.int .i64 d), .v (.bool k)]] =>
    some ([l = bodyC (bodyD l), l' = bodyC (bodyD l'), inB (bodyD l), inB (bodyD l'), inR x, inR y, inR x', inR y', inR z, inR u, inR d], .tup [], bodyC (pshS (bodyD l) ((x, e), (y, f)) (vScale ((z, g), (u, h)) (nNeg (d, k)))), bodyC (pshS (bodyD l') ((x', e'), (y', f')) (vScale ((z, g), (u, h)) (d, k))))
  | _, _, _ => none
def mApa : MCon := mcPP 27 apaF
theorem famE_comm {fam : Fam} {f f' i i' : Nat} {c c' : List AV} (h : f ≠ f') : famE (famE fam f' i' c') f i c = famE (famE fam f i c) f' i' c' := by
  funext q
  unfold famE
  by_cases h1 : q = f
  · subst h1; simp [h]
  · by_cases h2 : q = f'
    · subst h2; simp [h1, Ne.symm h]
    · simp [h1, h2]
theorem con162m : MConOK Tryz.prog 162 mApa := MConOK.mcPP (G := [(164, k179), (122, k169), (115, .wr kw115)]) (H := [(1, ⟨[(6, .call)], []⟩), (2, ⟨[(5, .call)], []⟩)]) (.cons kon179 (.cons kon169 (.mcons konw115 .nil))) Tryz.func162 fun l l' rest ob val cs cs' hF hob => by
  unfold apaF at hF
  split at hF
  · rename_i x e y f x' e' y' f' z g u h d k
    cases hF
    have h1 : l = bodyC (bodyD l) := hob _ (by simp)
    have h2 : l' = bodyC (bodyD l') := hob _ (by simp)
    have ha : inB (bodyD l) := hob _ (by simp)
    have hb : inB (bodyD l') := hob _ (by simp)
    have k1 : inR x := hob _ (by simp)
    have k2 : inR y := hob _ (by simp)
    have k3 : inR x' := hob _ (by simp)
    have k4 : inR y' := hob _ (by simp)
    have k5 : inR z := hob _ (by simp)
    have k6 : inR u := hob _ (by simp)
    have k7 : inR d := hob _ (by simp)
    clear hob
    generalize bodyD l = a at *
    generalize bodyD l' = b at *
    subst h1 h2
    refine ⟨by simp [clean], rfl, cleanC_body, cleanC_body, by kernel_rfl, fun fam f i f' i' hne hi hi' hs hs' hg hk => bodyM_go (rs := []) rfl rfl ?_⟩
    have e1 : ∀ (fam : Fam) (j : Nat) (c : List AV), famE fam f' j c f = fam f := fun _ _ _ => famE_off hne
    have e2 : ∀ (fam : Fam) (j : Nat) (c : List AV), famE fam f j c f' = fam f' := fun _ _ _ => famE_off (Ne.symm hne)
    have e3 : ∀ (fam : Fam) (j j' : Nat) (c c' : List AV), famE (famE fam f' j' c') f j c = famE (famE fam f j c) f' j' c' := fun _ _ _ _ _ => famE_comm hne
    simp only [go_sem, k179, k169, kw115, cBR_eq, mB_ptr, mbP_some, stepC_mbQ, ha, hb, k1, k2, k3, k4, k5, k6, k7, e1, e2, e3, hi, hi', hg, hk, ← hs, ← hs']
    intro c hc b' hb'
    rw [hc, hb']
  · cases hF
def updB (B : Nat → Bd) (i : Nat) (b : Bd) : Nat → Bd := fun j => if j = i then b else B j
theorem updB_at {B : Nat → Bd} {i : Nat} {b : Bd} : updB B i b i = b := if_pos rfl
theorem updB_off {B : Nat → Bd} {i j : Nat} {b : Bd} (h : j ≠ i) : updB B i b j = B j := if_neg h
theorem bsC_upd {B : Nat → Bd} {i : Nat} {b : Bd} : (fun j => if j = i then bodyC b else bsC B j) = bsC (updB B i b) := funext fun j => by
  unfold bsC updB
  split <;> rfl
theorem famT_upd {K N sz : Nat} {tp ty : TypeId} {B : Nat → Bd} {i : Nat} {b : Bd} : famT K N sz tp ty (fun j => if j = i then bodyC b else bsC B j) = famT K N sz tp ty (bsC (updB B i b)) := by rw [bsC_upd]
theorem famT_upd2 {K N sz : Nat} {tp ty : TypeId} {B : Nat → Bd} {i : Nat} {b : Bd} : famT K N sz tp ty (fun j => if j = i then bodyC b else bodyC (B j)) = famT K N sz tp ty (bsC (updB B i b)) := famT_upd
theorem tabOK_bs {K N : Nat} {B : Nat → Bd} : tabOK K N 27 151 155 (famT K N 27 151 155 (bsC B)) = True := tabOK_T fun _ _ => rfl
theorem famOK_bs {K N : Nat} {B : Nat → Bd} : famOK K (famT K N 27 151 155 (bsC B)) = True := famOK_T fun _ _ => rfl
attribute [go_sem] famT_upd famT_upd2 tabOK_bs famOK_bs bsC_at bsD_C
def paiF : Nat → (Nat → List AV) → List AV → Option (List Prop × AV × (Nat → List AV))
  | N, get, [.v (.int .i64 a), .v (.int .i64 b), .agg [.v (.int .i64 x), .v (.bool e), .v (.int .i64 y), .v (.bool f)], .agg [.v (.int .i64 x'), .v (.bool e'), .v (.int .i64 y'), .v (.bool f')], .agg [.v (.int .i64 z), .v (.bool g), .v (.int .i64 u), .v (.bool h)], .agg [.v (.int .i64 d), .v (.bool k)]] =>
    some ([get = bsC (bsD get), 0 ≤ a, a < N, 0 ≤ b, b < N, a ≠ b, inBs N (bsD get), inR x, inR y, inR x', inR y', inR z, inR u, inR d], .tup [],
      bsC (updB (updB (bsD get) a.toNat (pshS (bsD get a.toNat) ((x, e), (y, f)) (vScale ((z, g), (u, h)) (nNeg (d, k))))) b.toNat (pshS (bsD get b.toNat) ((x', e'), (y', f')) (vScale ((z, g), (u, h)) (d, k)))))
  | _, _, _ => none
def mPai : MCon := mcS 27 57 paiF
theorem con93m : MConOK Tryz.prog 93 mPai := MConOK.mcS (G := [(92, k111), (85, k147), (38, kb38)]) (H := [(1, ⟨[(13, .slot 0)], []⟩), (2, ⟨[(12, .slot 0)], []⟩)]) (.cons kon111 (.cons kon147 (.cons konb38 .nil))) Tryz.func93 fun N get rest ob val get' hF hob hcl => by
  unfold paiF at hF
  split at hF
  · rename_i a b x e y f x' e' y' f' z g u h d k
    cases hF
    have h1 : get = bsC (bsD get) := hob _ (by simp)
    have a1 : 0 ≤ a := hob _ (by simp)
    have a2 : a < N := hob _ (by simp)
    have a3 : 0 ≤ b := hob _ (by simp)
    have a4 : b < N := hob _ (by simp)
    have a5 : a ≠ b := hob _ (by simp)
    have hB : inBs N (bsD get) := hob _ (by simp)
    have k1 : inR x := hob _ (by simp)
    have k2 : inR y := hob _ (by simp)
    have k3 : inR x' := hob _ (by simp)
    have k4 : inR y' := hob _ (by simp)
    have k5 : inR z := hob _ (by simp)
    have k6 : inR u := hob _ (by simp)
    have k7 : inR d := hob _ (by simp)
    clear hob
    generalize bsD get = B at *
    subst h1
    refine ⟨by simp [clean], rfl, fun i _ => rfl, by kernel_rfl, bodyM_go (rs := []) rfl rfl ?_⟩
    have hne : ¬ b.toNat = a.toNat := by omega
    obtain ⟨i1, i2⟩ := hB a.toNat (by omega)
    obtain ⟨i3, i4⟩ := hB b.toNat (by omega)
    simp only [go_sem, k111, k147, kb38, cB_eq, k1, k2, k3, k4, k5, k6, k7, hne, if_false, bsC_at, i1, i2, i3, i4]
    refine ⟨a1, a2, by omega, fun c hc => ⟨a1, a2, by omega, a3, a4, by omega, fun c2 hc2 => ⟨a3, a4, by omega, ?_⟩⟩⟩
    rw [hc, hc2]
    congr 2
    funext j
    unfold bsC updB
    split
    · rfl
    · split <;> rfl
  · cases hF
/-- A contact. -/
structure Ct where
  a : Int
  b : Int
  nv : V2
  n : Nat
  P : Nat → V2
  D : Nat → Nb
  p0 : Nb
  p1 : Nb
  r0 : Nb
  r1 : Nb
def tchC (p : V2) (d : Nb) : List AV := [i64 p.1.1, bo p.1.2, i64 p.2.1, bo p.2.2, i64 d.1, bo d.2]
def tchs (P : Nat → V2) (D : Nat → Nb) : Nat → List AV := fun j => tchC (P j) (D j)
theorem tchs_at {P : Nat → V2} {D : Nat → Nb} {j : Nat} : tchs P D j = tchC (P j) (D j) := (rfl)
def contC (c : Ct) : List AV := [i64 c.a, i64 c.b, i64 c.nv.1.1, bo c.nv.1.2, i64 c.nv.2.1, bo c.nv.2.2, .ro c.n 6 (tchs c.P c.D),
  i64 c.p0.1, bo c.p0.2, i64 c.p1.1, bo c.p1.2, i64 c.r0.1, bo c.r0.2, i64 c.r1.1, bo c.r1.2]
def tchP (g : Nat → List AV) : Nat → V2 := fun j => ((gi (g j) 0, gib (g j) 1), (gi (g j) 2, gib (g j) 3))
def tchD (g : Nat → List AV) : Nat → Nb := fun j => (gi (g j) 4, gib (g j) 5)
def contD (l : List AV) : Ct :=
  ⟨gi l 0, gi l 1, ((gi l 2, gib l 3), (gi l 4, gib l 5)), roN l 6, tchP (roG l 6), tchD (roG l 6), (gi l 7, gib l 8), (gi l 9, gib l 10), (gi l 11, gib l 12), (gi l 13, gib l 14)⟩
theorem contD_C (c : Ct) : contD (contC c) = c := rfl
section
variable {a b x y p q r s : Int} {n : Nat} {P : Nat → V2} {D : Nat → Nb} {e f k l m o : Bool}
theorem contD_lit : contD [i64 a, i64 b, i64 x, bo e, i64 y, bo f, .ro n 6 (tchs P D), i64 p, bo k, i64 q, bo l, i64 r, bo m, i64 s, bo o] = ⟨a, b, ((x, e), (y, f)), n, P, D, (p, k), (q, l), (r, m), (s, o)⟩ := (rfl)
end
/-- All its numbers are int64s. -/
def inC (c : Ct) : Prop := inR c.a ∧ inR c.b ∧ inR c.nv.1.1 ∧ inR c.nv.2.1 ∧ (∀ j, j < c.n → inR (c.P j).1.1 ∧ inR (c.P j).2.1 ∧ inR (c.D j).1) ∧ inR c.p0.1 ∧ inR c.p1.1 ∧ inR c.r0.1 ∧ inR c.r1.1
theorem byt69 : bytesT Tryz.prog 69 = 48 := by kernel_rfl
section
variable {P : Program} {G : Ctx} {H : Hots} {K0 : AEx → St → Prop} {hot : Option Hot} {ops : Array Oper} {d : Option Tmp} {rest : List Oper} {i k : Nat} {st : List Fr} {t : Slots} {m : Mem} {nx : Nat} {o : List Prop} {u : Upd} {b : Ct} {c : Bool}
theorem ofC_cont : ofC (some (true, 15)) (contC b) = some (.agg (contC b)) := (rfl)
theorem cells_cont : cellsOf (.agg (contC b)) = some (contC b) := (rfl)
theorem drop_cont : (contC b).drop 15 = [] := (rfl)
theorem take_cont : (contC b).take 15 = contC b := (rfl)
theorem cleanCs_cont : cleanCs (contC b) = true := (rfl)
theorem clean_cont : clean 3 (.agg (contC b)) = true := (rfl)
theorem cleanL_cont : cleanL 2 (contC b) = true := (rfl)
theorem allCells_cont : allCells (contC b) = true := (rfl)
theorem len_cont : (contC b).length = 15 := (rfl)
theorem purUL_cont : purUL 2 m (contC b) = contC b := (rfl)
theorem pgsL_cont : pgsL 2 m (contC b) = [] := (rfl)
theorem purL_cont {d : Nat} : purL d m (contC b) = contC b := by cases d <;> rfl
theorem bindL_cont : bindL P G H K0 hot ops d rest i st t m nx o u false [] (contC b) = bindC P G H K0 hot ops d rest i st t m nx o u (.agg (contC b)) := by
  unfold bindL; simp
theorem ct_eta : (⟨b.a, b.b, ((b.nv.1.1, b.nv.1.2), (b.nv.2.1, b.nv.2.2)), b.n, b.P, b.D, (b.p0.1, b.p0.2), (b.p1.1, b.p1.2), (b.r0.1, b.r0.2), (b.r1.1, b.r1.2)⟩ : Ct) = b := (rfl)
end
attribute [go_sem] ofC_cont cells_cont drop_cont take_cont cleanCs_cont clean_cont cleanL_cont allCells_cont len_cont purUL_cont pgsL_cont purL_cont bindL_cont contD_C
/-- A copy of a contact. -/
def kCon : Con
  | [.agg l] => some ([l = contC (contD l), (contD l).n ≤ 1000], .agg (contC (contD l)))
  | _ => none
theorem con88 : ConOK Tryz.prog 88 kCon := ConOK.of (G := []) (H := []) .nil Tryz.func88 fun l ob r hc hob => by
  unfold kCon at hc
  split at hc
  · rename_i l
    cases hc
    have e : l = contC (contD l) := hob _ (by simp)
    have hn : (contD l).n ≤ 1000 := hob _ (by simp)
    generalize contD l = c at *
    subst e
    refine ⟨by kernel_rfl, fnVC_go (rs := [.cell 2 32]) rfl rfl ?_⟩
    simp only [contC, go_sem]
    exact ⟨fun _ _ => rfl, by rw [byt69]; omega, by omega, rfl⟩
  · cases hc
theorem con90 : ConOK Tryz.prog 90 kCon := ConOK.of (G := []) (H := []) .nil Tryz.func90 fun l ob r hc hob => by
  unfold kCon at hc
  split at hc
  · rename_i l
    cases hc
    have e : l = contC (contD l) := hob _ (by simp)
    have hn : (contD l).n ≤ 1000 := hob _ (by simp)
    generalize contD l = c at *
    subst e
    refine ⟨by kernel_rfl, fnVC_go (rs := [.cell 2 32]) rfl rfl ?_⟩
    simp only [contC, go_sem]
    exact ⟨fun _ _ => rfl, by rw [byt69]; omega, by omega, rfl⟩
  · cases hc
end Go.Ax
end

section
/-
  Two bodies are moved apart.
-/
set_option linter.unusedVariables false
set_option linter.unusedSimpArgs false
set_option maxHeartbeats 4000000
set_option maxRecDepth 100000
namespace Go.Ax
open Go.Proofs
/-- Two indexes of a list. -/
def apB (N : Nat) (a b : Int) : Prop := 0 ≤ a ∧ a < N ∧ 0 ≤ b ∧ b < N ∧ a ≠ b
instance {N : Nat} {a b : Int} : Decidable (apB N a b) := by unfold apB; infer_instance
def dpS (c : Ct) : Nb := if 1 < c.n then nMx (c.D 0) (c.D 1) else c.D 0
def parK (a b : Bd) (c : Ct) : Nb := nDiv (nMul (nPos (nSub (dpS c) (nRat 1 64))) (nRat 1 5)) (nAdd a.m b.m)
def parA (a b : Bd) (c : Ct) : Bd := shfS a (vSub a.pl (vScale c.nv (nMul (parK a b c) a.m)))
def parB (a b : Bd) (c : Ct) : Bd := shfS b (vAdd b.pl (vScale c.nv (nMul (parK a b c) b.m)))
def parT (N : Nat) (B : Nat → Bd) (c : Ct) : Nat → Bd :=
  if apB N c.a c.b ∧ c.n ≠ 0 ∧ (nAdd (B c.a.toNat).m (B c.b.toNat).m).1 ≠ 0 then updB (updB B c.a.toNat (parA (B c.a.toNat) (B c.b.toNat) c)) c.b.toNat (parB (B c.a.toNat) (B c.b.toNat) c) else B
theorem whV_wh {v : Int} : whV (whV v) = whV v := by unfold whV; (repeat' split) <;> omega
theorem whF_wh {v : Int} {f : Bool} : whF (whV v) f = f := by
  unfold whF whV
  split
  · simp
  · rename_i h; simp [h]
theorem nMx_self {x : Nb} : nMx x x = nWh x := by
  unfold nMx nWh
  rw [Bool.or_self]
  split <;> rfl
theorem nMx_wh {x y : Nb} : nMx (nWh x) y = nMx x y := by
  unfold nMx nWh
  dsimp only
  rw [whV_wh, whF_wh]
theorem nSub_wh {x y : Nb} : nSub (nWh x) y = nSub x y := by
  unfold nSub nWh
  dsimp only
  rw [whV_wh, whF_wh]
def dpq (c : Ct) : Nat → Nb
  | 0 => c.D 0
  | 1 => nMx (c.D 0) (c.D 0)
  | _ + 2 => nMx (nMx (c.D 0) (c.D 0)) (c.D 1)
theorem dpq_succ {c : Ct} {i : Nat} (h : i < 2) : dpq c (i + 1) = nMx (dpq c i) (c.D i) := by
  match i with
  | 0 => rfl
  | 1 => rfl
  | i + 2 => omega
theorem dpq_in {c : Ct} (h : ∀ j, j < c.n → inR (c.D j).1) (hn : c.n ≠ 0) : ∀ i, i ≤ min 2 c.n → inR (dpq c i).1
  | 0, _ => h 0 (by omega)
  | 1, _ => of_eq_true (iMx (h 0 (by omega)) (h 0 (by omega)))
  | i + 2, hi => by
    unfold dpq
    rw [nMx_self, nMx_wh]
    by_cases h1 : 1 < c.n
    · exact of_eq_true (iMx (h 0 (by omega)) (h 1 h1))
    · exact absurd h1 (by omega)
def parF : Nat → (Nat → List AV) → List AV → Option (List Prop × AV × (Nat → List AV))
  | N, get, [.agg l] => some ([get = bsC (bsD get), inBs N (bsD get), N ≤ 1000, l = contC (contD l), inC (contD l), (contD l).n ≤ 1000], .tup [], bsC (parT N (bsD get) (contD l)))
  | _, _, _ => none
def mPar : MCon := mcT 27 151 155 parF
theorem con74m : MConOK Tryz.prog 74 mPar := MConOK.mcT (G := [(152, .wr mTwo), (129, k214), (153, kw153), (132, k132), (154, k160), (125, k129), (155, k168), (122, k169), (157, k172), (156, .wr kw156), (121, k130)]) (H := [(7, ⟨[(10, .slot 7)], []⟩), (9, ⟨[(14, .made 13)], []⟩), (11, ⟨[(7, .made 6)], []⟩), (12, ⟨[(6, .made 5)], []⟩), (13, ⟨[(20, .call)], []⟩), (14, ⟨[(21, .call)], []⟩)]) (.mcons con152m (.cons kon214 (.cons konw153 (.cons kon132 (.cons kon160 (.cons kon129 (.cons kon168 (.cons kon169 (.cons kon172 (.mcons konw156 (.cons kon130 .nil))))))))))) Tryz.func74 fun N get rest ob val get' hF hob hcl => by
  unfold parF at hF
  split at hF
  · rename_i l
    cases hF
    have h1 : get = bsC (bsD get) := hob _ (by simp)
    have hB : inBs N (bsD get) := hob _ (by simp)
    have hN : N ≤ 1000 := hob _ (by simp)
    have h2 : l = contC (contD l) := hob _ (by simp)
    have hc : inC (contD l) := hob _ (by simp)
    have hn : (contD l).n ≤ 1000 := hob _ (by simp)
    clear hob
    generalize bsD get = B at *
    generalize contD l = c at *
    subst h1 h2
    refine ⟨by simp [clean, contC], rfl, fun i _ => rfl, by kernel_rfl, bodyM_go (rs := []) rfl rfl ?_⟩
    simp only [contC, go_sem, k214, kw153, k132, k160, k129, k168, k169, k172, kw156, k130, mTwo, tchs_at, tchC]
    obtain ⟨c1, c2, c3, c4, c5, c6, c7, c8, c9⟩ := id hc
    refine ⟨fun hap z hz => ⟨hN, fun h => ?_, fun h => ⟨by have := h.2; simp at this; omega, fun z1 hz1 => ?_⟩⟩, fun hap z hz => ⟨hN, fun h => ?_, fun h => by simp [hz] at h⟩⟩
    · have e : parT N B c = B := if_neg fun hh => by
        rcases h with h | h
        · rw [hz] at h; cases h
        · exact hh.2.1 (by simpa using h)
      rw [e]
    · have hn0 : c.n ≠ 0 := by have := h.2; intro e; rw [e] at this; simp at this
      have hz1' : z1 = ((min 2 c.n : Nat) : Int) := by rw [hz1]; omega
      generalize hM : min 2 c.n = M at *
      subst hz1'
      refine loopC_go (fun (i : Nat) => i ≤ M) (fun i => M - i) (fun i => [(42, i64 (i : Int))]) (fun i => [(30, fam1 24 2 [i64 (dpq c i).1, bo (dpq c i).2] none)]) [1, 0] [43, 44, 8, 45, 46, 47, 48, 49, 50, 51, 52, 53, 54, 55, 42] 0 (by kernel_rfl) ?_ (Nat.zero_le _) ?_ ?_
      · intro x _; simp [goodNames, asg]
      · simp only [go_sem, dpq]
      intro i hi
      have hdi := dpq_in (c := c) (fun j hj => (c5 j hj).2.2) hn0 i (by omega)
      obtain ⟨a1, a2, a3, a4, a5⟩ := id hap
      obtain ⟨i1, i2⟩ := hB c.a.toNat (by omega)
      obtain ⟨i3, i4⟩ := hB c.b.toNat (by omega)
      obtain ⟨p1, p2, p3, p4, p5, p6, p7, p8, p9, p10, p11, p12, p13, p14, p15, p16⟩ := id i1
      obtain ⟨q1, q2, q3, q4, q5, q6, q7, q8, q9, q10, q11, q12, q13, q14, q15, q16⟩ := id i3
      have hne : ¬ c.b.toNat = c.a.toNat := by omega
      simp only [go_sem, k214, kw153, k132, k160, k129, k168, k169, k172, kw156, k130, tchs_at, tchC, mB_ptr, mbP_some, stepC_mbQ, nums_rows, gx_rows1, gx_rows2, gb_rows1, gb_rows2, hdi, c3, c4, i1, i3, p6, p7, p13, q6, q7, q13, hne, if_false]
      refine ⟨fun hiM => ?_, fun hiM => ?_⟩
      · have hin : i < c.n := by omega
        refine ⟨by omega, by omega, (c5 i hin).2.2, fun z2 hz2 => ⟨i + 1, by omega, by omega, by rw [hz2, wrap_in (by unfold inR; omega)]; rfl, ?_⟩⟩
        rw [dpq_succ (by omega)]
        exact ⟨rfl, rfl⟩
      · have hiM : i = M := by omega
        subst hiM
        have hd : nSub (dpq c i) (nRat 1 64) = nSub (dpS c) (nRat 1 64) := by
          unfold dpS
          split
          · have e : i = 2 := by omega
            subst e
            show nSub (nMx (nMx (c.D 0) (c.D 0)) (c.D 1)) _ = _
            rw [nMx_self, nMx_wh]
          · have e : i = 1 := by omega
            subst e
            show nSub (nMx (c.D 0) (c.D 0)) _ = _
            rw [nMx_self, nSub_wh]
        rw [hd]
        have ha : c.a.toNat < N := by omega
        have hb : c.b.toNat < N := by omega
        have hof : ∀ b', updB B c.a.toNat b' c.b.toNat = B c.b.toNat := fun b' => updB_off hne
        simp only [hof]
        refine ⟨ha, hb, fun hk => ?_, fun hk => ⟨by unfold inR; omega, by unfold inR; omega, ha, ha, fun b1 hb1 => ⟨ha, hb, hb, q13, ⟨q6, q7⟩, fun b2 hb2 => ⟨hb, i3, ?_⟩⟩⟩⟩
        · have e : parT N B c = B := if_neg fun hh => hh.2.2 (by simpa using hk)
          rw [e]
        · have e : parT N B c = updB (updB B c.a.toNat (parA (B c.a.toNat) (B c.b.toNat) c)) c.b.toNat (parB (B c.a.toNat) (B c.b.toNat) c) := if_pos ⟨hap, hn0, by simpa using hk⟩
          rw [e, hb1, hb2]
          rfl
    · have e : parT N B c = B := if_neg fun hh => hap hh.1
      rw [e]
  · cases hF
def kPar : Con := cL fun N B rest => match rest with
  | [.agg l] => some ([N ≤ 1000, inBs N B, l = contC (contD l), inC (contD l), (contD l).n ≤ 1000], .ro N 27 (bsC (parT N B (contD l))))
  | _ => none
theorem inB_shf {b : Bd} {p : V2} (h : inB b) (h1 : inR p.1.1) (h2 : inR p.2.1) : inB (shfS b p) := by
  unfold shfS
  split
  · obtain ⟨b1, b2, b3, b4, b5, b6, b7, b8, b9, b10, b11, b12, b13, b14, b15, b16⟩ := h
    exact ⟨b1, b2, b3, b4, b5, h1, h2, b8, b9, b10, b11, b12, b13, b14, b15, b16⟩
  · exact h
theorem shf_n {b : Bd} {p : V2} : (shfS b p).n = b.n := by unfold shfS; split <;> rfl
theorem par_in {N : Nat} {B : Nat → Bd} {c : Ct} (h : inBs N B) : inBs N (parT N B c) := by
  unfold parT
  split
  · rename_i hh
    have hap := hh.1
    unfold apB at hap
    intro j hj
    have hA := h c.a.toNat (by omega)
    have hC := h c.b.toNat (by omega)
    unfold updB
    split
    · exact ⟨inB_shf hC.1 (of_eq_true iVAdd1) (of_eq_true iVAdd2), by unfold parB; rw [shf_n]; exact hC.2⟩
    · split
      · exact ⟨inB_shf hA.1 (of_eq_true iVSub1) (of_eq_true iVSub2), by unfold parA; rw [shf_n]; exact hA.2⟩
      · exact h j hj
  · exact h
def tellE (key K N : Nat) : Option Fam → Option Eff
  | some fam => some ⟨[tabOK K N 27 151 155 fam, N ≤ 1000, ∀ i, i < N → ((fam (i + 1)).get 0).length = 27 ∧ allCells ((fam (i + 1)).get 0) = true], .own key 0 N 27, .many [] (some (famN N 27 57 (fun i => (fam (i + 1)).get 0) none))⟩
  | none => none
theorem mNtel_at {key : Nat} {m : Mem} {K N : Nat} : mNtel key m [.own K 0 N 1] = tellE key K N (look m K) := by
  show (match look m K with
    | some fam => some (⟨[tabOK K N 27 151 155 fam, N ≤ 1000, ∀ i, i < N → ((fam (i + 1)).get 0).length = 27 ∧ allCells ((fam (i + 1)).get 0) = true], .own key 0 N 27, .many [] (some (famN N 27 57 (fun i => (fam (i + 1)).get 0) none))⟩ : Eff)
    | none => none) = _
  cases look m K <;> rfl
theorem tellE_bs {key K N : Nat} {B : Nat → Bd} : tellE key K N (some (famT K N 27 151 155 (bsC B))) = some ⟨[True, N ≤ 1000, True], .own key 0 N 27, .many [] (some (famN N 27 57 (bsC B) none))⟩ := by
  show some (⟨[tabOK K N 27 151 155 (famT K N 27 151 155 (bsC B)), N ≤ 1000, ∀ i, i < N → (bsC B i).length = 27 ∧ allCells (bsC B i) = true], .own key 0 N 27, .many [] (some (famN N 27 57 (bsC B) none))⟩ : Eff) = _
  rw [tabOK_bs, eq_true (show ∀ i, i < N → (bsC B i).length = 27 ∧ allCells (bsC B i) = true from fun i _ => ⟨rfl, rfl⟩)]
attribute [go_sem] mNtel_at tellE_bs mNlay_eq
theorem con19 : ConOK Tryz.prog 19 kPar := ConOK.cL (G := [(73, .wr mNlay), (74, .wr mPar), (75, .wr mNtel)]) (H := []) (.mcons con73m (.mcons con74m (.mcons con75m .nil))) Tryz.func19 fun N B rest ob r hc hob => by
  split at hc
  · rename_i l
    cases hc
    have hN : N ≤ 1000 := hob _ (by simp)
    have hB : inBs N B := hob _ (by simp)
    have h2 : l = contC (contD l) := hob _ (by simp)
    have hi : inC (contD l) := hob _ (by simp)
    have hn : (contD l).n ≤ 1000 := hob _ (by simp)
    clear hob
    generalize contD l = c at *
    subst h2
    refine ⟨by kernel_rfl, fnVC_go (rs := [.tmp 4]) rfl rfl ?_⟩
    simp only [go_sem, mPar, parF, hN, hB, hi, hn]
    rfl
  · cases hc
/-- A copy of a list of bodies. -/
def kBs : Con := cL fun N B rest => match rest with
  | [] => some ([N ≤ 1000, inBs N B], .ro N 27 (bsC B))
  | _ => none
theorem byt57 : bytesT Tryz.prog 57 = 224 := by kernel_rfl
def bsF : List AV → Option (List Prop × Nat × (Nat → List AV))
  | [.ro N 27 g] => some ([g = bsC (bsD g), N ≤ 1000, inBs N (bsD g)], N, g)
  | _ => none
def mNbs : MCon := mcV 27 57 bsF
theorem mNbs_eq {key : Nat} {m : Mem} {N : Nat} {g : Nat → List AV} : mNbs key m [.ro N 27 g] = some ⟨[g = bsC (bsD g), N ≤ 1000, inBs N (bsD g)], .own key 0 N 27, .many [] (some (famN N 27 57 g none))⟩ := (rfl)
attribute [go_sem] mNbs_eq
theorem con76m : MConOK Tryz.prog 76 mNbs := MConOK.mcV (G := [(116, kb116)]) (H := []) (.cons konb116 .nil) Tryz.func76 fun es ob N get hF hob => by
  unfold bsF at hF
  split at hF
  · cases hF
    have e : get = bsC (bsD get) := hob _ (by simp)
    have hN : N ≤ 1000 := hob _ (by simp)
    have hB : inBs N (bsD get) := hob _ (by simp)
    clear hob
    generalize bsD get = B at *
    subst e
    refine ⟨by simp [clean], fun i _ => rfl, by kernel_rfl, bodyM_go (rs := [.tmp 2]) rfl rfl ?_⟩
    simp only [go_sem, kb116]
    refine loopN_go (fun (i : Nat) => i ≤ N) (fun i => N - i) (fun i => [(4, i64 (i : Int)), (3, .own 3 0 i 27)]) (fun i => [(3, famN i 27 57 (bsC B) none)]) [] [5, 6, 7, 8, 11, 12, 13, 14, 15, 16, 17, 18, 3, 9, 10, 4] 1 0 (by kernel_rfl) (Nat.zero_le _) ⟨[(3, none)], ?_, ?_, ?_, ?_⟩ ?_
    · simp only [go_sem]
    · simp only [go_sem]
    · simp only [go_sem]
    · simp [goodNames, asg]
    intro i hi
    by_cases hiN : i < N
    · obtain ⟨i1, i2⟩ := hB i hiN
      simp only [go_sem, kb116, cB_eq, i1, i2, byt57, forall_eq]
      refine ⟨fun h => ⟨by omega, h, by omega, by omega, i + 1, by omega, by omega, [(3, some 15)], ?_⟩, fun h => absurd hiN (by omega)⟩
      simp only [go_sem]
      refine ⟨by rw [wrap_in (by unfold inR; omega)]; rfl, fun j hj => ?_, by simp [goodNames, asg]⟩
      by_cases e : j < i
      · rw [if_pos e]; exact fitL_clean rfl
      · have e : j = i := by omega
        subst e
        rw [if_neg (by omega), Nat.sub_self]
        exact fitL_clean rfl
    · simp only [go_sem, kb116, cB_eq, byt57, forall_eq]
      refine ⟨fun h => absurd h (by omega), fun _ => ?_⟩
      have e : i = N := by omega
      subst e
      exact ⟨3, rfl, rfl⟩
  · cases hF
theorem con16 : ConOK Tryz.prog 16 kBs := ConOK.cL (G := [(35, kb35)]) (H := []) (.cons konb35 .nil) Tryz.func16 fun N B rest ob r hc hob => by
  split at hc
  · cases hc
    have hN : N ≤ 1000 := hob _ (by simp)
    have hB : inBs N B := hob _ (by simp)
    clear hob
    refine ⟨by kernel_rfl, fnVC_go (rs := [.tmp 2]) rfl rfl ?_⟩
    simp only [go_sem, kb35]
    refine loopN_go (fun (i : Nat) => i ≤ N) (fun i => N - i) (fun i => [(4, i64 (i : Int)), (3, .own 3 0 i 27)]) (fun i => [(3, famN i 27 57 (bsC B) none)]) [] [5, 6, 7, 8, 11, 12, 13, 14, 15, 16, 17, 18, 3, 9, 10, 4] 1 0 (by kernel_rfl) (Nat.zero_le _) ⟨[(3, none)], ?_, ?_, ?_, ?_⟩ ?_
    · simp only [go_sem]
    · simp only [go_sem]
    · simp only [go_sem]
    · simp [goodNames, asg]
    intro i hi
    by_cases hiN : i < N
    · obtain ⟨i1, i2⟩ := hB i hiN
      simp only [go_sem, kb35, cB_eq, i1, i2, byt57, forall_eq]
      refine ⟨fun h => ⟨by omega, h, by omega, by omega, i + 1, by omega, by omega, [(3, some 15)], ?_⟩, fun h => absurd hiN (by omega)⟩
      simp only [go_sem]
      refine ⟨by rw [wrap_in (by unfold inR; omega)]; rfl, fun j hj => ?_, by simp [goodNames, asg]⟩
      by_cases e : j < i
      · rw [if_pos e]; exact fitL_clean rfl
      · have e : j = i := by omega
        subst e
        rw [if_neg (by omega), Nat.sub_self]
        exact fitL_clean rfl
    · simp only [go_sem, kb35, cB_eq, byt57, forall_eq]
      refine ⟨fun h => absurd h (by omega), fun _ => ?_⟩
      have e : i = N := by omega
      subst e
      rfl
  · cases hc
def kb84 : Con := cB fun b rest => match rest with
  | [.agg [.v (.int .i64 x), .v (.bool e), .v (.int .i64 y), .v (.bool f)]] => some ([inB b, inR x, inR y], boA (shfS b ((x, e), (y, f))))
  | _ => none
theorem konb84 : ConOK Tryz.prog 84 kb84 := ConOK.cB (G := [(68, kw67), (127, kw127b)]) (H := []) (.cons konw68 (.cons konw127b .nil)) Tryz.func84 fun b rest ob r hc hob => by
  split at hc
  · rename_i x e y f
    cases hc
    have h_0 : inB b := hob _ (by simp)
    have h_1 : inR x := hob _ (by simp)
    have h_2 : inR y := hob _ (by simp)
    obtain ⟨b1, b2, b3, b4, b5, b6, b7, b8, b9, b10, b11, b12, b13, b14, b15, b16⟩ := h_0
    have hb : inB b := hob _ (by simp)
    refine ⟨by kernel_rfl, fnVC_go (rs := [.cell 4 57]) rfl rfl ?_⟩
    simp only [bodyC, go_sem, kw67, kw127b, cB_eq, cBR_eq, bodyD_lit, gx_pts0, gx_pts1, spots_can, etaN, etaV, bd_eta, b1, b2, b3, b4, b6, b7, b8, b9, b10, b11, b12, b13, b14, b15, b16, hb, h_1, h_2]
    simp only [forall_eq, implies_true, true_and]
    refine ⟨fun h => ?_, fun h => ?_⟩
    · have e1 : shfS b ((x, e), (y, f)) = { b with pl := ((x, e), (y, f)) } := if_pos (by rw [h.1, h.2]; rfl)
      rw [e1]; rfl
    · have e1 : shfS b ((x, e), (y, f)) = b := if_neg (by rw [h]; simp)
      rw [e1]; rfl
  · cases hc
end Go.Ax
end

section
/-
  Moving apart, ars the reference does it.
-/
set_option linter.unusedVariables false
set_option linter.unusedSimpArgs false
set_option maxHeartbeats 4000000
set_option maxRecDepth 100000
namespace Go.Ax
open Go.Proofs
theorem famN_upd {N : Nat} {B : Nat → Bd} {i : Nat} {b : Bd} : famN N 27 57 (fun j => if j = i then bodyC b else bodyC (B j)) none = famN N 27 57 (bsC (updB B i b)) none := by rw [← bsC_upd]; rfl
theorem famN_upd2 {N : Nat} {B : Nat → Bd} {i : Nat} {b : Bd} : famN N 27 57 (fun j => if j = i then bodyC b else bsC B j) none = famN N 27 57 (bsC (updB B i b)) none := famN_upd
attribute [go_sem] famN_upd famN_upd2
theorem con20 : ConOK Tryz.prog 20 kPar := ConOK.cL (G := [(76, .wr mNbs), (77, c77), (78, k143), (79, k208), (82, kw82s), (81, k46), (83, kw83b), (27, k52), (80, k144), (85, k147), (32, k181), (84, kb84), (86, k138)]) (H := [(4, ⟨[(12, .made 10), (13, .made 11)], [(7, [.made 10]), (9, [.made 10])]⟩), (7, ⟨[(9, .slot 7)], []⟩), (11, ⟨[(11, .made 10)], []⟩), (12, ⟨[(19, .slot 0)], []⟩), (13, ⟨[(20, .slot 0)], []⟩)]) (.mcons con76m (.cons con77 (.cons kon143 (.cons kon208 (.cons konw82s (.cons kon46 (.cons konw83b (.cons kon52 (.cons kon144 (.cons kon147 (.cons kon181 (.cons konb84 (.cons kon138 .nil))))))))))))) Tryz.func20 fun N B rest ob r hc hob => by
  split at hc
  · rename_i l
    cases hc
    have hN : N ≤ 1000 := hob _ (by simp)
    have hB : inBs N B := hob _ (by simp)
    have h2 : l = contC (contD l) := hob _ (by simp)
    have hi : inC (contD l) := hob _ (by simp)
    have hn : (contD l).n ≤ 1000 := hob _ (by simp)
    clear hob
    generalize contD l = c at *
    subst h2
    refine ⟨by kernel_rfl, fnVC_go (rs := [.tmp 4]) rfl rfl ?_⟩
    obtain ⟨c1, c2, c3, c4, c5, c6, c7, c8, c9⟩ := id hi
    simp only [contC, go_sem, c77, k143, k208, kw82s, k46, kw83b, k52, k144, k147, k181, kb84, k138, cL_eq, cB_eq, tchs_at, tchC, hN, hB, c3, c4, nums_rows, gx_rows1, gx_rows2, gb_rows1, gb_rows2]
    intro z hz
    refine ⟨by omega, fun h => ?_, fun h => ?_⟩
    · have e : parT N B c = B := if_neg fun hh => by
        rcases h with h | h
        · rw [h] at hz; exact of_decide_eq_false hz.symm hh.1
        · exact hh.2.1 (by simpa using h)
      rw [e]; rfl
    · have hap : apB N c.a c.b := of_decide_eq_true (hz.symm.trans h.1)
      have hn0 : c.n ≠ 0 := by have := h.2; intro e; rw [e] at this; simp at this
      obtain ⟨a1, a2, a3, a4, a5⟩ := id hap
      obtain ⟨i1, i2⟩ := hB c.a.toNat (by omega)
      obtain ⟨i3, i4⟩ := hB c.b.toNat (by omega)
      obtain ⟨p1, p2, p3, p4, p5, p6, p7, p8, p9, p10, p11, p12, p13, p14, p15, p16⟩ := id i1
      obtain ⟨q1, q2, q3, q4, q5, q6, q7, q8, q9, q10, q11, q12, q13, q14, q15, q16⟩ := id i3
      refine ⟨a1, a2, by omega, a3, a4, by omega, by omega, fun h1 => ?_, fun h1 => ?_⟩
      · refine ⟨by omega, ⟨(c5 0 (by omega)).2.2, (c5 1 (by omega)).2.2⟩, p13, q13, fun hk => ?_, fun hk => ⟨of_eq_true (iMx (c5 0 (by omega)).2.2 (c5 1 (by omega)).2.2), p13, p6, p7, fun b1 hb1 => ⟨i1, a1, a2, by omega, q13, ⟨q6, q7⟩, fun b2 hb2 => ⟨i3, a3, a4, by omega, ?_⟩⟩⟩⟩
        · have e : parT N B c = B := if_neg fun hh => hh.2.2 (by simpa using hk)
          rw [e]; rfl
        · have e : parT N B c = updB (updB B c.a.toNat (parA (B c.a.toNat) (B c.b.toNat) c)) c.b.toNat (parB (B c.a.toNat) (B c.b.toNat) c) := if_pos ⟨hap, hn0, by simpa using hk⟩
          rw [e, hb1, hb2]
          unfold parA parB parK dpS
          rw [if_pos (by omega)]
          rfl
      · refine ⟨p13, q13, fun hk => ?_, fun hk => ⟨(c5 0 (by omega)).2.2, p13, p6, p7, fun b1 hb1 => ⟨i1, a1, a2, by omega, q13, ⟨q6, q7⟩, fun b2 hb2 => ⟨i3, a3, a4, by omega, ?_⟩⟩⟩⟩
        · have e : parT N B c = B := if_neg fun hh => hh.2.2 (by simpa using hk)
          rw [e]; rfl
        · have e : parT N B c = updB (updB B c.a.toNat (parA (B c.a.toNat) (B c.b.toNat) c)) c.b.toNat (parB (B c.a.toNat) (B c.b.toNat) c) := if_pos ⟨hap, hn0, by simpa using hk⟩
          rw [e, hb1, hb2]
          unfold parA parB parK dpS
          rw [if_neg (by omega)]
          rfl
  · cases hc
end Go.Ax
end
