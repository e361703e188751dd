/-
  How a polygon and a disc touch, by the reference.
-/
import Derived.Test.YtempjfjppjfciaaGreatCM8
set_option linter.unusedVariables false
set_option linter.unusedSimpArgs false
section
set_option maxHeartbeats 4000000
set_option maxRecDepth 100000
namespace Go.Ax
open Go.Proofs
def lsQ (h:Nat → Nb) (s:Nb):Nat → Nat × Nb
 | 0 => (0,s)
 | i + 1 => if i = 0 ∨ cmpS (whV (h i).1) (whV (lsQ h s i).2.1) < 0 then (i,h i) else lsQ h s i
theorem lsQ_eq {h:Nat → Nb} {s:Nb}:∀ i,lsQ h s (i + 1) = (leI h i,h (leI h i))
 | 0 => if_pos (.inl rfl)
 | i + 1 => by
  have e:=lsQ_eq (h:=h) (s:=s) i
  unfold lsQ leI
  rw [e]
  dsimp only
  by_cases c:cmpS (whV (h (i + 1)).1) (whV (h (leI h i)).1) < 0
  ·rw [if_pos (.inr c),if_pos c]
  ·rw [if_neg (by omega),if_neg c]
theorem lsQ_hit {h:Nat → Nb} {s:Nb} {i:Nat} (c:i = 0 ∨ cmpS (whV (h i).1) (whV (lsQ h s i).2.1) < 0):lsQ h s (i + 1) = (i,h i):=if_pos c
theorem lsQ_not {h:Nat → Nb} {s:Nb} {i:Nat} (c:¬ (i = 0 ∨ cmpS (whV (h i).1) (whV (lsQ h s i).2.1) < 0)):lsQ h s (i + 1) = lsQ h s i:=if_neg c
theorem leI_lt {h:Nat → Nb}:∀ i,leI h i ≤ i
 | 0 => Nat.le_refl _
 | i + 1 => by
  have:=leI_lt (h:=h) i
  unfold leI
  split <;> omega
theorem axF_ix {o:Int} {G:Nat → Nb}:∀ i:Nat,0 ≤ (axF o G ax0 (i + 1)).2.1 ∧ (axF o G ax0 (i + 1)).2.1 < ((i + 1:Nat):Int)
 | 0 => by
  rw [axF_hit (.inl (by show (-1:Int) < 0; decide))]
  exact ⟨Int.le_refl _,by show ((0:Nat):Int) < ((0 + 1:Nat):Int); decide⟩
 | i + 1 => by
  have ih:=axF_ix (o:=o) (G:=G) i
  by_cases c:(axF o G ax0 (i + 1)).2.1 < 0 ∨ 0 < cmpS (whV (G (i + 1)).1) (whV (axF o G ax0 (i + 1)).2.2.1)
  ·rw [axF_hit c]
   dsimp only
   omega
  ·rw [axF_not c]
   omega
theorem axSt_ix {n:Nat} {G G':Nat → Nb} (h:0 < n):0 ≤ (axSt n G 0 G' 2).2.1 ∧ (axSt n G 0 G' 2).2.1 < n:=by
 have:=axF_ix (o:=0) (G:=G) (n - 1)
 rw [show n - 1 + 1 = n by omega] at this
 exact this
theorem axF_in {o:Int} {G:Nat → Nb} {s:AxT} (hG:∀ i,inR (G i).1) (hs:inR s.2.2.1):∀ i,inR (axF o G s i).2.2.1
 | 0 => hs
 | i + 1 => by
  have ih:=axF_in (o:=o) hG hs i
  unfold axF
  split
  ·exact hG i
  ·exact ih
theorem axSt_in {n m:Nat} {G G':Nat → Nb} (hG:∀ i,inR (G i).1) (hG':∀ i,inR (G' i).1):∀ i,inR (axSt n G m G' i).2.2.1
 | 0 => by show inR 0; unfold inR; decide
 | 1 => axF_in hG (by show inR 0; unfold inR; decide) n
 | _ + 2 => axF_in hG' (axF_in hG (by show inR 0; unfold inR; decide) n) m
def atI (P:Nat → V2) (i:Nat) (j:Nat):V2:=if i = 0 then zV else P j
theorem atI_pos {P:Nat → V2} {i j:Nat} (h:i ≠ 0):atI P i j = P j:=if_neg h
def c142:Con
 | [.agg [.v (.int .i64 k),.v (.int .i64 x),.v (.int .i64 y),.v (.int .i64 r),.ro n 2 g],.agg [.v (.int .i64 k'),.v (.int .i64 x'),.v (.int .i64 y'),.v (.int .i64 r'),.ro m 2 g']] => some ([spots n g,spots m g',checkS k x y r n (gx g 0) (gx g 1) = 0,checkS k' x' y' r' m (gx g' 0) (gx g' 1) = 0,inR x,inR y,inR r,inR x',inR y',inR r',¬ k = 1,k' = 1,n ≤ 9223372036854775806,m ≤ 9223372036854775806],mfA (pdS n (gx g 0) (gx g 1) x' y' r'))
 | _ => none
theorem vc142 (k x y r:Int) (n:Nat) (X Y:Nat → Int) (k' x' y' r':Int) (m:Nat) (Z T:Nat → Int) (hX:∀ i,i < n → inR (X i) ∧ inR (Y i)) (hZ:∀ i,i < m → inR (Z i) ∧ inR (T i)) (hA:checkS k x y r n X Y = 0) (hB:checkS k' x' y' r' m Z T = 0) (h1:inR x) (h2:inR y) (h3:inR r) (h4:inR x') (h5:inR y') (h6:inR r') (hk:¬ k = 1) (hk':k' = 1) (hn:n ≤ 9223372036854775806) (hm:m ≤ 9223372036854775806) :
  fnVC Tryz.prog [(159,k69),(151,k54),(224,c224),(144,cz37),(225,c225),(226,k83),(223,k147),(227,k181),(184,k111),(219,k143),(214,c214),(215,c194),(186,k146),(222,k138),(221,k47),(228,c228),(218,k140),(220,k46)] [(1,⟨[(8,.made 6),(9,.made 7)],[]⟩),(6,⟨[(15,.slot 4)],[]⟩),(14,⟨[(14,.made 13)],[]⟩),(15,⟨[(9,.made 8)],[]⟩),(18,⟨[(2,.slot 12),(3,.slot 13)],[(1,[.slot 12])]⟩),(23,⟨[(11,.slot 4)],[]⟩)] Tryz.f142 [edA k x y r n X Y,edA k' x' y' r' m Z T] (alk (mfA (pdS n X Y x' y' r'))):=by
 refine fnVC_go (rs:=[.cell 4 52]) rfl rfl ?_
 have hg:spots n fun i => [i64 (X i),i64 (Y i)]:=fun i hi => ⟨rfl,hX i hi⟩
 have hg':spots m fun i => [i64 (Z i),i64 (T i)]:=fun i hi => ⟨rfl,hZ i hi⟩
 have v1:validS x' y' = true:=(check_1 hB).2.1
 have hh:holdsS k x y r n X Y x' y' = inS n X Y x' y':=if_neg hk
 simp only [go_sem,k69,k54,c224,cz37,c225,k83,k147,k181,k111,k143,c214,c194,k146,k138,k47,c228,k140,k46,gx_pts0,gx_pts1,hg,hg',hA,hB,h1,h2,h3,h4,h5,h6,hn,hm,v1,hh]
 intro z hz
 have h8:=fig_n hA hk
 have vX:=(check_1 hA).2.2.1
 have eA:axS k x y r n X Y k' x' y' r' m Z T = axSt n (gD n X Y x' y' r') 0 (gD n X Y x' y' r') 2:=by
  unfold axS
  rw [if_pos ⟨hA,hB⟩,if_neg hk,if_pos hk']
 refine ⟨fun h => ?_,fun h => ?_⟩
 ·have e:pdS n X Y x' y' r' = deepS n X Y x' y' r' (axSt n (gD n X Y x' y' r') 0 (gD n X Y x' y' r') 2):=if_pos (hz.symm.trans h)
  rw [eA,e]
  have hi:=axSt_ix (G:=gD n X Y x' y' r') (G':=gD n X Y x' y' r') (show 0 < n by omega)
  have hr:inR (axSt n (gD n X Y x' y' r') 0 (gD n X Y x' y' r') 2).2.2.1:=axSt_in (fun _ => rg_inR gD_rg) (fun _ => rg_inR gD_rg) 2
  generalize axSt n (gD n X Y x' y' r') 0 (gD n X Y x' y' r') 2 = s at *
  exact ⟨hi.1,hi.2,vX _ (by omega),vX _ (nxt_lt (by omega)),hr,of_eq_true (iNeg hr),alk_one rfl⟩
 have e:pdS n X Y x' y' r' = rdS n X Y x' y' r':=if_neg (by rw [← hz,h]; decide)
 rw [e]
 refine loopC_go (fun (i:Nat) => i ≤ n) (fun i => n - i) (fun i => [(15,i64 (i:Int))])
  (fun i => [(25,fam1 29 4 [i64 (atI (rdV n X Y x' y') i (lsQ (rdL n X Y x' y') (0,false) i).1).1.1,bo (atI (rdV n X Y x' y') i (lsQ (rdL n X Y x' y') (0,false) i).1).1.2,i64 (atI (rdV n X Y x' y') i (lsQ (rdL n X Y x' y') (0,false) i).1).2.1,bo (atI (rdV n X Y x' y') i (lsQ (rdL n X Y x' y') (0,false) i).1).2.2] none),
   (24,fam1 29 4 [i64 (atI (rdP n X Y x' y') i (lsQ (rdL n X Y x' y') (0,false) i).1).1.1,bo (atI (rdP n X Y x' y') i (lsQ (rdL n X Y x' y') (0,false) i).1).1.2,i64 (atI (rdP n X Y x' y') i (lsQ (rdL n X Y x' y') (0,false) i).1).2.1,bo (atI (rdP n X Y x' y') i (lsQ (rdL n X Y x' y') (0,false) i).1).2.2] none),
   (23,fam1 27 2 [i64 (lsQ (rdL n X Y x' y') (0,false) i).2.1,bo (lsQ (rdL n X Y x' y') (0,false) i).2.2] none)]) [18,10,9,2,1,0] [66,67,68,69,70,74,75,76,73,77,78,16,17,79,80,81,18,82,83,84,85,86,87,88,89,90,91,92,93,94,19,95,96,97,98,99,100,101,102,20,103,104,105,106,21,107,108,109,110,111,112,113,114,115,116,118,119,120,121,117,122,123,22,23,124,125,126,127,128,129,130,131,132,133,134,135,136,137,138,139,71,72,15] 0 (by kernel_rfl) ?_ (Nat.zero_le _) ?_ ?_
 ·intro i _; simp [goodNames,asg]
 ·simp only [go_sem]
  repeat' (first | rfl | apply And.intro)
 intro i hi
 simp only [go_sem,k69,k54,c224,cz37,c225,k83,k147,k181,k111,k143,c214,c194,k146,k138,k47,c228,k140,k46,gx_pts0,gx_pts1,hg,hg',h1,h2,h3,h4,h5,h6,hn,hm]
 have eT:nCl (nRat (dtW (mnW (X i) x') (mnW (Y i) y') (mnW (X i) (X (nxt n i))) (mnW (Y i) (Y (nxt n i)))) (dtW (mnW (X i) (X (nxt n i))) (mnW (Y i) (Y (nxt n i))) (mnW (X i) (X (nxt n i))) (mnW (Y i) (Y (nxt n i))))) (0,false) (4294967296,false) = rdT n X Y x' y' i:=rfl
 have eP:vAdd (vLoc (X i) (Y i)) (vScale (vLoc (mnW (X i) (X (nxt n i))) (mnW (Y i) (Y (nxt n i)))) (rdT n X Y x' y' i)) = rdP n X Y x' y' i:=rfl
 have eM:vSub (vLoc x' y') (rdP n X Y x' y' i) = rdM n X Y x' y' i:=rfl
 have eL:vLen (rdM n X Y x' y' i) = rdL n X Y x' y' i:=rfl
 simp only [forall_eq,mnW_eq,dtW_eq,eT,eP,eM,eL]
 have hw:i < n → IntKind.i64.wrap ((i:Int) + 1) = ((i + 1:Nat):Int):=fun h => by rw [wrap_in (by unfold inR; omega)]; rfl
 refine ⟨fun hin => ?_,fun hin => ?_⟩
 ·have hlt:i < n:=by omega
  have hxi:=hX i hlt
  refine ⟨by omega,hin,dtW_inR,dtW_inR,hxi.1,hxi.2,wrap_inR _,wrap_inR _,fun h => ⟨i + 1,by omega,by omega,hw hlt,?_⟩,fun h => ⟨fun h2 => ⟨vX i hlt,vX _ (nxt_lt hlt),i + 1,by omega,by omega,hw hlt,?_⟩,fun h2 => ⟨i + 1,by omega,by omega,hw hlt,?_⟩⟩⟩
  ·rw [lsQ_not (by have:=h.2; have:=h.1; omega),atI_pos (by omega),atI_pos (by omega),atI_pos (by omega),atI_pos (by omega)]
   exact ⟨⟨rfl,rfl,rfl,rfl⟩,⟨rfl,rfl,rfl,rfl⟩,rfl,rfl⟩
  ·have h:¬ (0 < (i:Int) ∧ 0 ≤ cmpS (whV (rdL n X Y x' y' i).1) (whV (lsQ (rdL n X Y x' y') (0,false) i).2.1)):=by simpa using h
   rw [lsQ_hit (by omega)]
   dsimp only
   rw [atI_pos (by omega),atI_pos (by omega),show rdV n X Y x' y' i = _ from if_pos h2]
   exact ⟨⟨rfl,rfl,rfl,rfl⟩,⟨rfl,rfl,rfl,rfl⟩,rfl,rfl⟩
  ·have h:¬ (0 < (i:Int) ∧ 0 ≤ cmpS (whV (rdL n X Y x' y' i).1) (whV (lsQ (rdL n X Y x' y') (0,false) i).2.1)):=by simpa using h
   rw [lsQ_hit (by omega)]
   dsimp only
   rw [atI_pos (by omega),atI_pos (by omega),show rdV n X Y x' y' i = _ from if_neg (by
    rintro (q | q)
    ·have:=h2.1
     rw [decide_eq_true q.1,decide_eq_true q.2] at this
     cases this
    ·rw [h2.2] at q
     cases q)]
   exact ⟨⟨rfl,rfl,rfl,rfl⟩,⟨rfl,rfl,rfl,rfl⟩,rfl,rfl⟩
 ·have e:i = n - 1 + 1:=by omega
  rw [e,lsQ_eq]
  dsimp only
  rw [atI_pos (by omega),atI_pos (by omega)]
  exact ⟨of_eq_true iHyp,alk_one rfl⟩
theorem con142:ConOK Tryz.prog 142 c142:=ConOK.goR (G:=[(159,k69),(151,k54),(224,c224),(144,cz37),(225,c225),(226,k83),(223,k147),(227,k181),(184,k111),(219,k143),(214,c214),(215,c194),(186,k146),(222,k138),(221,k47),(228,c228),(218,k140),(220,k46)]) (H:=[(1,⟨[(8,.made 6),(9,.made 7)],[]⟩),(6,⟨[(15,.slot 4)],[]⟩),(14,⟨[(14,.made 13)],[]⟩),(15,⟨[(9,.made 8)],[]⟩),(18,⟨[(2,.slot 12),(3,.slot 13)],[(1,[.slot 12])]⟩),(23,⟨[(11,.slot 4)],[]⟩)]) (.cons kon69 (.cons kon54 (.cons con224 (.cons con144 (.cons con225 (.cons kon83 (.cons kon147 (.cons kon181 (.cons kon111 (.cons kon143 (.cons con214 (.cons con215 (.cons kon146 (.cons kon138 (.cons kon47 (.cons con228 (.cons kon140 (.cons kon46 .nil)))))))))))))))))) Tryz.func142 fun l ob rr hc hob => by
 unfold c142 at hc
 split at hc
 ·rename_i k x y r n g k' x' y' r' m g'
  cases hc
  have hs:spots n g:=hob _ (by simp)
  have hs':spots m g':=hob _ (by simp)
  exact ⟨[edA k x y r n (gx g 0) (gx g 1),edA k' x' y' r' m (gx g' 0) (gx g' 1)],fun w I vs h => Rs_two (Rs_form hs) (Rs_form hs') h,by kernel_rfl,vc142 k x y r n _ _ k' x' y' r' m _ _ (fun i hi => (hs i hi).2) (fun i hi => (hs' i hi).2) (hob _ (by simp)) (hob _ (by simp)) (hob _ (by simp)) (hob _ (by simp)) (hob _ (by simp)) (hob _ (by simp)) (hob _ (by simp)) (hob _ (by simp)) (hob _ (by simp)) (hob _ (by simp)) (hob _ (by simp)) (hob _ (by simp))⟩
 ·cases hc
end Go.Ax
end
section
/-
  How two polygons touch, by the reference.
-/
set_option maxHeartbeats 4000000
set_option maxRecDepth 100000
namespace Go.Ax
open Go.Proofs
def tcN (nv a b:V2):Nat → Nat
 | 0 => 0
 | 1 => if (vDot nv a).1 ≤ 0 then 1 else 0
 | _ => (if (vDot nv a).1 ≤ 0 then 1 else 0) + (if (vDot nv b).1 ≤ 0 then 1 else 0)
theorem tcN_0 {nv a b:V2}:tcN nv a b 0 = 0:=rfl
theorem tcN_1 {nv a b:V2}:tcN nv a b 1 = if (vDot nv a).1 ≤ 0 then 1 else 0:=rfl
theorem tcN_2 {nv a b:V2}:tcN nv a b 2 = tcN nv a b 1 + if (vDot nv b).1 ≤ 0 then 1 else 0:=rfl
def tcP (nv p a b:V2) (j:Nat):V2:=if (vDot nv a).1 ≤ 0 ∧ j = 0 then vAdd p a else vAdd p b
def tcD (nv a b:V2) (j:Nat):Nb:=if (vDot nv a).1 ≤ 0 ∧ j = 0 then nNeg (vDot nv a) else nNeg (vDot nv b)
theorem flK_tc {nv p a b q:V2} {d:Nb} (h:0 < tcN nv a b 2):(flK nv p a b q d).nv = nv ∧ (flK nv p a b q d).n = tcN nv a b 2 ∧ ∀ j,j < tcN nv a b 2 → (flK nv p a b q d).P j = tcP nv p a b j ∧ (flK nv p a b q d).D j = tcD nv a b j:=by
 rw [tcN_2,tcN_1] at h ⊢
 unfold flK flM tcP tcD
 by_cases ha:(vDot nv a).1 ≤ 0
 ·rw [if_pos (.inl ha),if_pos ha,if_pos ha]
  by_cases hb:(vDot nv b).1 ≤ 0
  ·rw [if_pos hb,if_pos hb]
   refine ⟨rfl,rfl,fun j hj => ?_⟩
   dsimp only
   by_cases e:j = 0
   ·rw [if_pos e,if_pos e,if_pos ⟨ha,e⟩,if_pos ⟨ha,e⟩]
    exact ⟨rfl,rfl⟩
   ·rw [if_neg e,if_neg e,if_neg (fun q => e q.2),if_neg (fun q => e q.2)]
    exact ⟨rfl,rfl⟩
  ·rw [if_neg hb,if_neg hb]
   refine ⟨rfl,rfl,fun j hj => ?_⟩
   have e:j = 0:=by omega
   rw [if_pos ⟨ha,e⟩,if_pos ⟨ha,e⟩]
   exact ⟨rfl,rfl⟩
 ·rw [if_neg ha] at h
  have hb:(vDot nv b).1 ≤ 0:=by
   apply Classical.byContradiction
   intro hb
   rw [if_neg hb] at h
   omega
  rw [if_pos (.inr hb),if_neg ha,if_neg ha,if_pos hb]
  refine ⟨rfl,rfl,fun j hj => ?_⟩
  rw [if_neg (fun q => ha q.1),if_neg (fun q => ha q.1)]
  exact ⟨rfl,rfl⟩
theorem flK_no {nv p a b q:V2} {d:Nb} (h:¬ 0 < tcN nv a b 2):flK nv p a b q d = mf1 nv q d:=by
 rw [tcN_2,tcN_1] at h
 refine if_neg ?_
 rintro (k | k)
 ·rw [if_pos k] at h
  omega
 ·rw [if_pos k] at h
  omega
theorem alk_mf {m:Mf} {nv:V2} {n:Nat} {g:Nat → List AV} (h1:m.nv = nv) (h2:m.n = n) (h3:∀ i,i < n → g i = tchC (m.P i) (m.D i)):alk (mfA m) (.agg [i64 nv.1.1,bo nv.1.2,i64 nv.2.1,bo nv.2.2,.ro n 6 g]):=by
 subst h1 h2
 exact alk_shape (alk_ro6 h3)
theorem vc145 (k x y r:Int) (n:Nat) (X Y:Nat → Int) (k' x' y' r':Int) (m:Nat) (Z T:Nat → Int) (i:Nat) (hX:∀ i,i < n → inR (X i) ∧ inR (Y i)) (hZ:∀ i,i < m → inR (Z i) ∧ inR (T i)) (hA:checkS k x y r n X Y = 0) (hB:checkS k' x' y' r' m Z T = 0) (hk:¬ k = 1) (hk':¬ k' = 1) (hi:i < n) :
  fnVC Tryz.prog [(225,c225),(226,k83),(230,k145),(228,c228),(214,c214),(231,k149),(218,k140),(159,k69),(221,k47),(232,kclp),(220,k46),(222,k138),(184,k111),(219,k143)] [(9,⟨[(6,.made 5)],[]⟩),(11,⟨[(3,.slot 11)],[]⟩),(14,⟨[(10,.made 8),(11,.made 9)],[]⟩),(16,⟨[(12,.slot 20),(13,.slot 21)],[]⟩),(17,⟨[(16,.slot 20),(17,.slot 21)],[]⟩),(27,⟨[(13,.slot 23)],[]⟩),(34,⟨[(11,.made 10)],[]⟩),(36,⟨[(3,.slot 11)],[]⟩),(37,⟨[(14,.slot 23)],[]⟩)] Tryz.f145 [edA k x y r n X Y,edA k' x' y' r' m Z T,i64 (i:Int)] (alk (mfA (flS n X Y m Z T i))):=by
 refine fnVC_go (rs:=[.cell 6 52]) rfl rfl ?_
 have hg:spots n fun i => [i64 (X i),i64 (Y i)]:=fun i hi => ⟨rfl,hX i hi⟩
 have hg':spots m fun i => [i64 (Z i),i64 (T i)]:=fun i hi => ⟨rfl,hZ i hi⟩
 have h8:=fig_n hA hk
 have m8:=fig_n hB hk'
 have hn:n ≤ 9223372036854775806:=by omega
 have hm:m ≤ 9223372036854775806:=by omega
 have vX:=(check_1 hA).2.2.1
 have vZ:=(check_1 hB).2.2.1
 have hil:=nxt_lt hi
 simp only [go_sem,c225,k83,k145,c228,c214,k149,k140,k69,k47,kclp,k46,k138,k111,k143,gx_pts0,gx_pts1,hg,hg',hn,hm,Int.toNat_natCast,vX i hi,vX _ hil]
 refine ⟨by omega,by omega,?_⟩
 refine loopC_go (fun (j:Nat) => j ≤ m) (fun j => m - j) (fun j => [(12,i64 (j:Int)),(10,i64 ((lsQ (agK m Z T (edN n X Y i)) (0,false) j).1:Int))])
  (fun j => [(20,fam1 27 2 [i64 (lsQ (agK m Z T (edN n X Y i)) (0,false) j).2.1,bo (lsQ (agK m Z T (edN n X Y i)) (0,false) j).2.2] none)]) [16,10,9,2,1,0] [40,41,42,43,44,48,49,50,47,51,52,13,14,53,54,55,56,57,15,58,59,60,61,62,63,64,65,66,67,10,45,46,12] 0 (by kernel_rfl) ?_ (Nat.zero_le _) ?_ ?_
 ·intro i _; simp [goodNames,asg]
 ·simp only [go_sem]
  repeat' (first | rfl | apply And.intro)
 intro j hj
 simp only [go_sem,c225,k83,k145,c228,c214,k149,k140,k69,k47,kclp,k46,k138,k111,k143,gx_pts0,gx_pts1,hg,hg',hn,hm]
 have hw:j < m → IntKind.i64.wrap ((j:Int) + 1) = ((j + 1:Nat):Int):=fun h => by rw [wrap_in (by unfold inR; omega)]; rfl
 have eN:vNorm (X i) (Y i) (X (nxt n i)) (Y (nxt n i)) = edN n X Y i:=rfl
 have eK:vDot (vNorm (Z j) (T j) (Z (nxt m j)) (T (nxt m j))) (edN n X Y i) = agK m Z T (edN n X Y i) j:=rfl
 simp only [eN,eK]
 refine ⟨fun hin => ?_,fun hin => ?_⟩
 ·have hlt:j < m:=by omega
  refine ⟨by omega,hin,vZ j hlt,vZ _ (nxt_lt hlt),fun z hz => ⟨fun h z1 hz1 => ⟨j + 1,by omega,by omega,?_⟩,fun h z1 hz1 => ⟨j + 1,by omega,by omega,?_⟩⟩⟩
  ·rw [lsQ_hit (h.imp (fun q => by simpa using q) (fun q => by rw [← hz]; exact q)),hz1,hw hlt]
   exact ⟨⟨rfl,rfl⟩,rfl,rfl⟩
  ·have h1:¬ j = 0:=by
    intro q
    subst q
    exact absurd h.1 (by decide)
   rw [lsQ_not (fun q => q.elim h1 (fun q => h.2 (by rw [hz]; exact q))),hz1,hw hlt]
   exact ⟨⟨rfl,rfl⟩,rfl,rfl⟩
 ·have e:j = m - 1 + 1:=by omega
  have eJ:lsQ (agK m Z T (edN n X Y i)) (0,false) j = (flJ n X Y m Z T i,agK m Z T (edN n X Y i) (flJ n X Y m Z T i)):=by rw [e,lsQ_eq]; rfl
  have hJ:flJ n X Y m Z T i < m:=by
   have:=leI_lt (h:=agK m Z T (edN n X Y i)) (m - 1)
   unfold flJ
   omega
  rw [eJ]
  have hJn:=nxt_lt hJ
  have hxi:=hX i hi
  have hxn:=hX _ hil
  have hzj:=hZ _ hJ
  have hzn:=hZ _ hJn
  simp only [go_sem,c225,k83,k145,c228,c214,k149,k140,k69,k47,kclp,k46,k138,k111,k143,gx_pts0,gx_pts1,hg,hg',hn,hm]
  have eT:(vUnit (vOf (mnW (X i) (X (nxt n i))) (mnW (Y i) (Y (nxt n i))))).2 = flT n X Y i:=rfl
  have eE:vLen (vLoc (mnW (X i) (X (nxt n i))) (mnW (Y i) (Y (nxt n i)))) = flE n X Y i:=rfl
  generalize hJq:flJ n X Y m Z T i = J at *
  have e0:vLoc (mnW (X i) (Z J)) (mnW (Y i) (T J)) = fx0 X Y Z T i J:=rfl
  have e1:vLoc (mnW (X i) (Z (nxt m J))) (mnW (Y i) (T (nxt m J))) = fx0 X Y Z T i (nxt m J):=rfl
  have i1:∀ j,inR (fx0 X Y Z T i j).1.1:=fun j => of_eq_true iLoc1
  have i2:∀ j,inR (fx0 X Y Z T i j).2.1:=fun j => of_eq_true iLoc2
  have c1:clpX (fx0 X Y Z T i J) (fx0 X Y Z T i (nxt m J)) (vDot (flT n X Y i) (fx0 X Y Z T i J)) (vDot (flT n X Y i) (fx0 X Y Z T i (nxt m J))) = cl1X (flT n X Y i) (fx0 X Y Z T i J) (fx0 X Y Z T i (nxt m J)):=rfl
  have c2:clpY (fx0 X Y Z T i J) (fx0 X Y Z T i (nxt m J)) (vDot (flT n X Y i) (fx0 X Y Z T i J)) (vDot (flT n X Y i) (fx0 X Y Z T i (nxt m J))) = cl1Y (flT n X Y i) (fx0 X Y Z T i J) (fx0 X Y Z T i (nxt m J)):=rfl
  have c3:clpX (cl1X (flT n X Y i) (fx0 X Y Z T i J) (fx0 X Y Z T i (nxt m J))) (cl1Y (flT n X Y i) (fx0 X Y Z T i J) (fx0 X Y Z T i (nxt m J))) (nSub (flE n X Y i) (vDot (flT n X Y i) (cl1X (flT n X Y i) (fx0 X Y Z T i J) (fx0 X Y Z T i (nxt m J))))) (nSub (flE n X Y i) (vDot (flT n X Y i) (cl1Y (flT n X Y i) (fx0 X Y Z T i J) (fx0 X Y Z T i (nxt m J))))) = flA n X Y m Z T i J:=rfl
  have c4:clpY (cl1X (flT n X Y i) (fx0 X Y Z T i J) (fx0 X Y Z T i (nxt m J))) (cl1Y (flT n X Y i) (fx0 X Y Z T i J) (fx0 X Y Z T i (nxt m J))) (nSub (flE n X Y i) (vDot (flT n X Y i) (cl1X (flT n X Y i) (fx0 X Y Z T i J) (fx0 X Y Z T i (nxt m J))))) (nSub (flE n X Y i) (vDot (flT n X Y i) (cl1Y (flT n X Y i) (fx0 X Y Z T i J) (fx0 X Y Z T i (nxt m J))))) = flB n X Y m Z T i J:=rfl
  simp only [forall_eq,mnW_eq,eT,eE,e0,e1,c1,c2,c3,c4]
  have iA:inR (flA n X Y m Z T i J).1.1 ∧ inR (flA n X Y m Z T i J).2.1:=⟨clpX_in1 (clpX_in1 (i1 _)),clpX_in2 (clpX_in2 (i2 _))⟩
  have iB:inR (flB n X Y m Z T i J).1.1 ∧ inR (flB n X Y m Z T i J).2.1:=⟨clpY_in1 (clpY_in1 (i1 _)),clpY_in2 (clpY_in2 (i2 _))⟩
  have iw:∀ a b,inR (mnW a b):=fun a b => wrap_inR _
  refine ⟨by omega,by omega,iw _ _,iw _ _,iw _ _,iw _ _,iw _ _,iw _ _,iw _ _,iw _ _,clpX_in1 (i1 _),clpX_in2 (i2 _),clpY_in1 (i1 _),clpY_in2 (i2 _),clpX_in1 (i1 _),clpX_in2 (i2 _),clpY_in1 (i1 _),clpY_in2 (i2 _),?_⟩
  have hS:flS n X Y m Z T i = flK (edN n X Y i) (vLoc (X i) (Y i)) (flA n X Y m Z T i J) (flB n X Y m Z T i J) (vLoc (Z (flW n X Y m Z T i)) (T (flW n X Y m Z T i))) (nPos (nNeg (edH n X Y Z T i (flW n X Y m Z T i)))):=by unfold flS; rw [hJq]
  rw [hS]
  generalize flA n X Y m Z T i J = a at *
  generalize flB n X Y m Z T i J = b at *
  have iN:inR (edN n X Y i).1.1 ∧ inR (edN n X Y i).2.1:=⟨of_eq_true iNorm1,of_eq_true iNorm2⟩
  generalize hnv:edN n X Y i = nv at *
  generalize agK m Z T nv J = ls at *
  have b69:bytesT Tryz.prog 87 = 48:=byt87
  refine loopN_go (fun (s:Nat) => s ≤ 2) (fun s => 2 - s) (fun s => [(24,i64 (s:Int))]) (fun s => [(102,fam1 52 5 [i64 nv.1.1,bo nv.1.2,i64 nv.2.1,bo nv.2.2,.own 105 0 (tcN nv a b s) 6] none),(105,famN (tcN nv a b s) 6 87 (tchs (tcP nv (vLoc (X i) (Y i)) a b) (tcD nv a b)) none)]) [66,58,57,46,35,34,20,16,10,9,2,1,0] [125,126,129,25,130,131,132,133,134,135,26,136,137,138,139,140,141,142,143,144,145,146,147,148,149,150,151,127,128,24] 1 0 (by kernel_rfl) (Nat.zero_le _) ⟨[(105,none)],?_,?_,?_,?_⟩ ?_
  ·simp only [go_sem]
  ·simp only [go_sem,tcN]
  ·simp only [go_sem]
  ·simp [goodNames,asg]
  intro s hs
  match s with
  | 0 =>
   rw [tcN_0]
   simp only [go_sem,c225,k83,k145,c228,c214,k149,k140,k69,k47,kclp,k46,k138,k111,k143,gx_pts0,gx_pts1,hg,hg',hn,hm,hxi,iA,iB,b69]
   simp only [Int.reduceBEq,Bool.false_eq_true,false_imp_iff,true_imp_iff,true_and,and_true,reduceCtorEq]
   refine ⟨iN.1,iN.2,fun ha z hz => ⟨1,by omega,by omega,[(105,some 132)],?_⟩,fun ha z hz => ⟨1,by omega,by omega,[(105,some 105)],?_⟩⟩
   ·rw [tcN_1,if_pos ha]
    simp only [go_sem]
    refine ⟨by rw [hz]; decide,fun q hq => ?_,by simp [goodNames,asg]⟩
    have:q = 0:=by omega
    subst this
    rw [if_neg (by omega)]
    have e:∀ c d:V2,∀ f:Nb,c = tcP nv (vLoc (X i) (Y i)) a b 0 → f = tcD nv a b 0 → List.take 6 (List.drop ((0 - 0) * 6) [i64 c.1.1,bo c.1.2,i64 c.2.1,bo c.2.2,i64 f.1,bo f.2]) = tchs (tcP nv (vLoc (X i) (Y i)) a b) (tcD nv a b) 0:=fun c d f h1 h2 => by
     subst h1 h2
     rfl
    rw [e _ zV _ (if_pos ⟨ha,rfl⟩).symm (if_pos ⟨ha,rfl⟩).symm]
    exact fitL_clean rfl
   ·rw [tcN_1,if_neg ha]
    simp only [go_sem]
    exact ⟨by rw [hz]; decide,fun q hq => absurd hq (Nat.not_lt_zero q),by simp [goodNames,asg]⟩
  | 1 =>
   have hp1:tcN nv a b 1 ≤ 1:=by
    rw [tcN_1]
    split <;> omega
   simp only [go_sem,c225,k83,k145,c228,c214,k149,k140,k69,k47,kclp,k46,k138,k111,k143,gx_pts0,gx_pts1,hg,hg',hn,hm,hxi,iA,iB,b69]
   simp only [Int.reduceBEq,Bool.false_eq_true,false_imp_iff,true_imp_iff,true_and,and_true,reduceCtorEq]
   refine ⟨iN.1,iN.2,fun hb => ⟨by omega,by omega,fun z hz => ⟨2,by omega,by omega,[(105,some 134)],?_⟩⟩,fun hb z hz => ⟨2,by omega,by omega,[(105,some 105)],?_⟩⟩
   ·rw [tcN_2,if_pos hb]
    simp only [go_sem]
    refine ⟨by rw [hz]; decide,fun q hq => ?_,by simp [goodNames,asg]⟩
    by_cases hqp:q < tcN nv a b 1
    ·rw [if_pos hqp]
     exact fitL_clean rfl
    ·rw [if_neg hqp]
     have hq2:q = tcN nv a b 1:=by omega
     have hq3:¬ ((vDot nv a).1 ≤ 0 ∧ q = 0):=fun ⟨u1,u2⟩ => by
      rw [tcN_1,if_pos u1] at hq2
      omega
     have e:∀ c d:V2,∀ f:Nb,c = tcP nv (vLoc (X i) (Y i)) a b q → f = tcD nv a b q → List.take 6 (List.drop ((q - tcN nv a b 1) * 6) [i64 c.1.1,bo c.1.2,i64 c.2.1,bo c.2.2,i64 f.1,bo f.2]) = tchs (tcP nv (vLoc (X i) (Y i)) a b) (tcD nv a b) q:=fun c d f h1 h2 => by
      subst h1 h2
      rw [← hq2,Nat.sub_self]
      rfl
     rw [e _ zV _ (if_neg hq3).symm (if_neg hq3).symm]
     exact fitL_clean rfl
   ·rw [tcN_2,if_neg hb,Nat.add_zero]
    simp only [go_sem]
    exact ⟨by rw [hz]; decide,fun q hq => fitL_clean rfl,by simp [goodNames,asg]⟩
  | 2 =>
   simp only [go_sem,c225,k83,k145,c228,c214,k149,k140,k69,k47,kclp,k46,k138,k111,k143,gx_pts0,gx_pts1,hg,hg',hn,hm,hxi,iA,iB,b69]
   refine ⟨fun h => h.elim,fun _ => ?_⟩
   refine ⟨fun h => ?_,fun h => ?_⟩
   ·have h:0 < tcN nv a b 2:=by omega
    obtain ⟨k1,k2,k3⟩:=flK_tc (p:=vLoc (X i) (Y i)) (q:=vLoc (Z (flW n X Y m Z T i)) (T (flW n X Y m Z T i))) (d:=nPos (nNeg (edH n X Y Z T i (flW n X Y m Z T i)))) h
    refine alk_mf k1 k2 fun q hq => ?_
    rw [(k3 q hq).1,(k3 q hq).2]
    rfl
   have h:¬ 0 < tcN nv a b 2:=by omega
   rw [flK_no h]
   refine loopC_go (fun (j:Nat) => j ≤ m) (fun j => m - j) (fun j => [(28,i64 (j:Int)),(27,i64 ((lsQ (edH n X Y Z T i) ls j).1:Int))])
    (fun j => [(20,fam1 27 2 [i64 (lsQ (edH n X Y Z T i) ls j).2.1,bo (lsQ (edH n X Y Z T i) ls j).2.2] none)]) [105,102,66,58,57,46,35,34,16,10,9,2,1,0] [157,158,159,160,161,164,165,166,167,168,169,170,171,172,173,29,174,175,176,177,178,179,180,181,182,183,27,162,163,28] 0 (by kernel_rfl) ?_ (Nat.zero_le _) ?_ ?_
   ·intro j _; simp [goodNames,asg]
   ·simp only [go_sem]
    repeat' (first | rfl | apply And.intro)
   intro l hl
   simp only [go_sem,c225,k83,k145,c228,c214,k149,k140,k69,k47,kclp,k46,k138,k111,k143,gx_pts0,gx_pts1,hg,hg',hn,hm,hxi,iA,iB,b69]
   have eH:vDot nv (vLoc (mnW (X i) (Z l)) (mnW (Y i) (T l))) = edH n X Y Z T i l:=by
    rw [← hnv]
    rfl
   have hw2:l < m → IntKind.i64.wrap ((l:Int) + 1) = ((l + 1:Nat):Int):=fun h => by rw [wrap_in (by unfold inR; omega)]; rfl
   simp only [forall_eq,mnW_eq,eH]
   refine ⟨fun hin2 => ?_,fun hin2 => ?_⟩
   ·have hlt:l < m:=by omega
    refine ⟨by omega,hin2,iw _ _,iw _ _,iN.1,iN.2,fun h => ⟨l + 1,by omega,by omega,?_⟩,fun h => ⟨l + 1,by omega,by omega,?_⟩⟩
    ·rw [lsQ_hit (h.imp (fun q => by simpa using q) (fun q => q)),hw2 hlt]
     exact ⟨⟨rfl,rfl⟩,rfl,rfl⟩
    ·have h1:¬ l = 0:=by
      intro q
      subst q
      exact absurd h.1 (by decide)
     rw [lsQ_not (fun q => q.elim h1 h.2),hw2 hlt]
     exact ⟨⟨rfl,rfl⟩,rfl,rfl⟩
   ·have e2:l = m - 1 + 1:=by omega
    have eW:lsQ (edH n X Y Z T i) ls l = (flW n X Y m Z T i,edH n X Y Z T i (flW n X Y m Z T i)):=by rw [e2,lsQ_eq]; rfl
    have hW:flW n X Y m Z T i < m:=by
     have:=leI_lt (h:=edH n X Y Z T i) (m - 1)
     unfold flW
     omega
    rw [eW]
    have hzw:=hZ _ hW
    have hr:inR (edH n X Y Z T i (flW n X Y m Z T i)).1:=rg_inR hgt_rg
    exact ⟨by omega,by omega,hzw.1,hzw.2,hr,of_eq_true (iNeg hr),alk_one rfl⟩
  | q + 3 => omega
end Go.Ax
end
section
/-
  How forms touch: all numbers of it are int64s.
-/
set_option maxHeartbeats 4000000
set_option maxRecDepth 100000
namespace Go.Ax
open Go.Proofs
def inV (v:V2):Prop:=inR v.1.1 ∧ inR v.2.1
def inM (m:Mf):Prop:=inV m.nv ∧ m.n ≤ 2 ∧ ∀ j,inV (m.P j) ∧ inR (m.D j).1
theorem inV_norm {a b c d:Int}:inV (vNorm a b c d):=⟨of_eq_true iNorm1,of_eq_true iNorm2⟩
theorem inV_unit {u:V2}:inV (vUnit u).2:=⟨of_eq_true iUnit1,of_eq_true iUnit2⟩
theorem inV_add {u v:V2}:inV (vAdd u v):=⟨of_eq_true iVAdd1,of_eq_true iVAdd2⟩
theorem inV_sub {u v:V2}:inV (vSub u v):=⟨of_eq_true iVSub1,of_eq_true iVSub2⟩
theorem inV_loc {x y:Int}:inV (vLoc x y):=⟨of_eq_true iLoc1,of_eq_true iLoc2⟩
theorem inV_scale {u:V2} {k:Nb}:inV (vScale u k):=⟨of_eq_true iScale1,of_eq_true iScale2⟩
theorem inR_z:inR 0:=by unfold inR; decide
theorem inV_z:inV zV:=⟨inR_z,inR_z⟩
theorem inR_ps {a:Nb} (h:inR a.1):inR (nPos a).1:=of_eq_true (iPos h)
theorem inR_ng {a:Nb} (h:inR a.1):inR (nNeg a).1:=of_eq_true (iNeg h)
theorem inR_sb {a b:Nb}:inR (nSub a b).1:=of_eq_true iSub
theorem inR_dot {u v:V2}:inR (vDot u v).1:=of_eq_true iVDot
theorem inR_hgt {a b c d x y:Int}:inR (hgt a b c d x y).1:=rg_inR hgt_rg
theorem mf1_in {nv p:V2} {d:Nb} (hn:inV nv) (hp:inV p) (hd:inR d.1):inM (mf1 nv p d):=⟨hn,by show 1 ≤ 2; omega,fun _ => ⟨hp,hd⟩⟩
theorem mf0_in:inM mf0:=⟨inV_z,by show 0 ≤ 2; omega,fun _ => ⟨inV_z,inR_z⟩⟩
theorem trnS_in {m:Mf} (h:inM m):inM (trnS m):=⟨inV_scale,h.2⟩
theorem twoS_in {x y r x' y' r':Int}:inM (twoS x y r x' y' r'):=by
 refine mf1_in ?_ inV_add (inR_ps inR_sb)
 unfold twN
 split
 ·exact inV_unit
 ·exact ⟨of_eq_true inR_one,inR_z⟩
theorem deepS_in {n:Nat} {X Y:Nat → Int} {x y r:Int} {s:AxT} (h:inR s.2.2.1):inM (deepS n X Y x y r s):=mf1_in inV_norm inV_sub (inR_ps (inR_ng h))
theorem rdS_in {n:Nat} {X Y:Nat → Int} {x y r:Int}:inM (rdS n X Y x y r):=by
 refine mf1_in ?_ inV_add (inR_ps inR_sb)
 unfold rdV
 split
 ·exact inV_norm
 ·exact inV_unit
theorem pdS_in {n:Nat} {X Y:Nat → Int} {x y r:Int}:inM (pdS n X Y x y r):=by
 unfold pdS
 split
 ·exact deepS_in (axSt_in (fun _ => rg_inR gD_rg) (fun _ => rg_inR gD_rg) _)
 ·exact rdS_in
theorem flM_in {nv p x y:V2} (h:inV nv):inM (flM nv p x y):=by
 unfold flM
 split
 ·split
  ·refine ⟨h,by show 2 ≤ 2; omega,fun j => ?_⟩
   dsimp only
   split
   ·exact ⟨inV_add,inR_ng inR_dot⟩
   ·exact ⟨inV_add,inR_ng inR_dot⟩
  ·exact mf1_in h inV_add (inR_ng inR_dot)
 ·exact mf1_in h inV_add (inR_ng inR_dot)
theorem flS_in {n m:Nat} {X Y Z T:Nat → Int} {i:Nat}:inM (flS n X Y m Z T i):=by
 unfold flS flK
 split
 ·exact flM_in inV_norm
 ·exact mf1_in inV_norm inV_loc (inR_ps (inR_ng inR_hgt))
theorem clipS_in {k x y r:Int} {n:Nat} {X Y:Nat → Int} {k' x' y' r':Int} {m:Nat} {Z T:Nat → Int}:inM (clipS k x y r n X Y k' x' y' r' m Z T):=by
 unfold clipS
 split
 ·split
  ·split
   ·exact twoS_in
   ·exact trnS_in pdS_in
  ·split
   ·exact pdS_in
   ·split
    ·exact flS_in
    ·exact trnS_in flS_in
 ·exact mf0_in
end Go.Ax
end
section
/-
  How forms touch, and bodies, by the reference.
-/
set_option maxHeartbeats 4000000
set_option maxRecDepth 100000
namespace Go.Ax
open Go.Proofs
theorem axF_ix1 {G:Nat → Nb} {s:AxT} {n:Nat} (h:s.1 = 0 ∧ 0 ≤ s.2.1 ∧ s.2.1 < n):∀ i:Nat,((axF 1 G s i).1 = 0 ∧ 0 ≤ (axF 1 G s i).2.1 ∧ (axF 1 G s i).2.1 < n) ∨ ((axF 1 G s i).1 = 1 ∧ 0 ≤ (axF 1 G s i).2.1 ∧ (axF 1 G s i).2.1 < i)
 | 0 => .inl h
 | i + 1 => by
  have ih:=axF_ix1 (G:=G) h i
  by_cases c:(axF 1 G s i).2.1 < 0 ∨ 0 < cmpS (whV (G i).1) (whV (axF 1 G s i).2.2.1)
  ·rw [axF_hit c]
   dsimp only
   exact .inr ⟨rfl,by omega,by omega⟩
  ·rw [axF_not c]
   omega
theorem axF_of {o:Int} {G:Nat → Nb}:∀ i:Nat,(axF o G ax0 (i + 1)).1 = o
 | 0 => by rw [axF_hit (.inl (by show (-1:Int) < 0; decide))]
 | i + 1 => by
  have ih:=axF_of (o:=o) (G:=G) i
  by_cases c:(axF o G ax0 (i + 1)).2.1 < 0 ∨ 0 < cmpS (whV (G (i + 1)).1) (whV (axF o G ax0 (i + 1)).2.2.1)
  ·rw [axF_hit c]
  ·rw [axF_not c,ih]
theorem axSt_ix2 {n m:Nat} {G G':Nat → Nb} (h:0 < n):((axSt n G m G' 2).1 = 0 ∧ 0 ≤ (axSt n G m G' 2).2.1 ∧ (axSt n G m G' 2).2.1 < n) ∨ ((axSt n G m G' 2).1 = 1 ∧ 0 ≤ (axSt n G m G' 2).2.1 ∧ (axSt n G m G' 2).2.1 < m):=by
 have h1:=axF_ix (o:=0) (G:=G) (n - 1)
 have h2:=axF_of (o:=0) (G:=G) (n - 1)
 rw [show n - 1 + 1 = n by omega] at h1 h2
 exact axF_ix1 (G:=G') ⟨h2,h1⟩ m
def c145:Con
 | [.agg [.v (.int .i64 k),.v (.int .i64 x),.v (.int .i64 y),.v (.int .i64 r),.ro n 2 g],.agg [.v (.int .i64 k'),.v (.int .i64 x'),.v (.int .i64 y'),.v (.int .i64 r'),.ro m 2 g'],.v (.int .i64 i)] => some ([spots n g,spots m g',checkS k x y r n (gx g 0) (gx g 1) = 0,checkS k' x' y' r' m (gx g' 0) (gx g' 1) = 0,¬ k = 1,¬ k' = 1,0 ≤ i,i < n],mfA (flS n (gx g 0) (gx g 1) m (gx g' 0) (gx g' 1) i.toNat))
 | _ => none
theorem con145:ConOK Tryz.prog 145 c145:=ConOK.goR (G:=[(225,c225),(226,k83),(230,k145),(228,c228),(214,c214),(231,k149),(218,k140),(159,k69),(221,k47),(232,kclp),(220,k46),(222,k138),(184,k111),(219,k143)]) (H:=[(9,⟨[(6,.made 5)],[]⟩),(11,⟨[(3,.slot 11)],[]⟩),(14,⟨[(10,.made 8),(11,.made 9)],[]⟩),(16,⟨[(12,.slot 20),(13,.slot 21)],[]⟩),(17,⟨[(16,.slot 20),(17,.slot 21)],[]⟩),(27,⟨[(13,.slot 23)],[]⟩),(34,⟨[(11,.made 10)],[]⟩),(36,⟨[(3,.slot 11)],[]⟩),(37,⟨[(14,.slot 23)],[]⟩)]) (.cons con225 (.cons kon83 (.cons kon145 (.cons con228 (.cons con214 (.cons kon149 (.cons kon140 (.cons kon69 (.cons kon47 (.cons konclp (.cons kon46 (.cons kon138 (.cons kon111 (.cons kon143 .nil)))))))))))))) Tryz.func145 fun l ob rr hc hob => by
 unfold c145 at hc
 split at hc
 ·rename_i k x y r n g k' x' y' r' m g' i
  cases hc
  have hs:spots n g:=hob _ (by simp)
  have hs':spots m g':=hob _ (by simp)
  have i0:0 ≤ i:=hob _ (by simp)
  have i1:i < n:=hob _ (by simp)
  have e:i = (i.toNat:Int):=by omega
  refine ⟨[edA k x y r n (gx g 0) (gx g 1),edA k' x' y' r' m (gx g' 0) (gx g' 1),i64 (i.toNat:Int)],fun w I vs h => ?_,by kernel_rfl,vc145 k x y r n _ _ k' x' y' r' m _ _ i.toNat (fun i hi => (hs i hi).2) (fun i hi => (hs' i hi).2) (hob _ (by simp)) (hob _ (by simp)) (hob _ (by simp)) (hob _ (by simp)) (by omega)⟩
  rw [← e]
  obtain ⟨x1,xs,rfl,p1,p2⟩:=h.inv
  obtain ⟨x2,ys,rfl,p3,p4⟩:=p2.inv
  exact .cons (Rs_form hs _ p1) (.cons (Rs_form hs' _ p3) p4)
 ·cases hc
theorem bnd_man {v:V2} {n:Nat} {P:Nat → V2} {D:Nat → Nb}:bnd (manC v n P D) = .agg [i64 v.1.1,bo v.1.2,i64 v.2.1,bo v.2.2,.ro n 6 (tchs P D)]:=(rfl)
attribute [go_sem] bnd_man
def clipA (k x y r:Int) (n:Nat) (X Y:Nat → Int) (k' x' y' r':Int) (m:Nat) (Z T:Nat → Int):AV:=.tup [mfA (clipS k x y r n X Y k' x' y' r' m Z T),bo (clipB k x y r n X Y k' x' y' r' m Z T)]
theorem vc73 (k x y r:Int) (n:Nat) (X Y:Nat → Int) (k' x' y' r':Int) (m:Nat) (Z T:Nat → Int) (hX:∀ i,i < n → inR (X i) ∧ inR (Y i)) (hZ:∀ i,i < m → inR (Z i) ∧ inR (T i)) (hn:n ≤ 9223372036854775806) (hm:m ≤ 9223372036854775806) (h1:inR x) (h2:inR y) (h3:inR r) (h4:inR x') (h5:inR y') (h6:inR r') :
  fnVC Tryz.prog [(139,c255),(140,cz35),(141,c141),(142,c142),(143,ktrn),(144,cz37),(145,c145)] [] Tryz.f73 [edA k x y r n X Y,edA k' x' y' r' m Z T] (alk (clipA k x y r n X Y k' x' y' r' m Z T)):=by
 refine fnVC_go (rs:=[.cell 4 52,.tmp 5]) rfl rfl ?_
 have hg:spots n fun i => [i64 (X i),i64 (Y i)]:=fun i hi => ⟨rfl,hX i hi⟩
 have hg':spots m fun i => [i64 (Z i),i64 (T i)]:=fun i hi => ⟨rfl,hZ i hi⟩
 simp only [go_sem,c255,cz35,c141,c142,ktrn,cz37,c145,gx_pts0,gx_pts1,hg,hg',hn,hm,h1,h2,h3,h4,h5,h6]
 simp only [forall_eq,implies_true,true_and]
 have h0:¬ (checkS k x y r n X Y = 0 ∧ checkS k' x' y' r' m Z T = 0 ∧ apS k x y r n X Y k' x' y' r' m Z T = false) → alk (clipA k x y r n X Y k' x' y' r' m Z T) (.tup [.agg [i64 0,bo false,i64 0,bo false,.v (.slice none 0 0)],bo false]):=fun h => by
  unfold clipA
  rw [show clipS k x y r n X Y k' x' y' r' m Z T = mf0 from if_neg h,show clipB k x y r n X Y k' x' y' r' m Z T = false from decide_eq_false h]
  exact alk_form alk_nil6
 refine ⟨fun h => h0 fun q => ?_,fun h => ?_⟩
 ·rcases h with (h | h) | h
  ·exact bne_iff_ne.1 h q.1
  ·exact bne_iff_ne.1 h q.2.1
  ·rw [h] at q
   exact absurd q.2.2 (by decide)
 have hA:checkS k x y r n X Y = 0:=bne_eq_false_iff_eq.1 h.1.1
 have hB:checkS k' x' y' r' m Z T = 0:=bne_eq_false_iff_eq.1 h.1.2
 have hC:=h.2
 have hall:=And.intro hA (And.intro hB hC)
 have eB:clipB k x y r n X Y k' x' y' r' m Z T = true:=decide_eq_true hall
 have eS:clipS k x y r n X Y k' x' y' r' m Z T = _:=if_pos hall
 unfold clipA
 rw [eB,eS]
 have kk:=(check_1 hA).1
 have kk':=(check_1 hB).1
 refine ⟨fun q => ?_,fun q => ⟨fun q1 => ?_,fun q1 => ⟨fun q2 => ?_,fun q2 => ?_⟩⟩⟩
 ·have k1:k = 1:=by simpa using q.1
  have k2:k' = 1:=by simpa using q.2
  rw [if_pos k1,if_pos k2]
  exact fun _ _ _ h => h
 ·have k2:k' = 1:=by simpa using q1
  have k1:¬ k = 1:=by
   rw [q1,Bool.and_true] at q
   simpa using q
  rw [if_neg k1,if_pos k2]
  exact ⟨hA,hB,k1,k2,fun _ _ _ h => h⟩
 ·have k1:k = 1:=by simpa using q2
  have k2:¬ k' = 1:=by simpa using q1
  rw [if_pos k1,if_neg k2]
  exact ⟨hB,hA,k2,k1,(pdS_in (n:=m) (X:=Z) (Y:=T) (x:=x) (y:=y) (r:=r)).1.1,(pdS_in (n:=m) (X:=Z) (Y:=T) (x:=x) (y:=y) (r:=r)).1.2,fun _ _ _ h => h⟩
 ·have k1:¬ k = 1:=by simpa using q2
  have k2:¬ k' = 1:=by simpa using q1
  have h8:=fig_n hA k1
  have eX:axS k x y r n X Y k' x' y' r' m Z T = axSt n (gP n X Y m Z T) m (gP m Z T n X Y) 2:=by
   unfold axS
   rw [if_pos ⟨hA,hB⟩,if_neg k1,if_neg k2]
  have hi:=axSt_ix2 (n:=n) (m:=m) (G:=gP n X Y m Z T) (G':=gP m Z T n X Y) (by omega)
  rw [← eX] at hi
  clear eX
  generalize axS k x y r n X Y k' x' y' r' m Z T = s at *
  rw [if_neg k1,if_neg k2]
  refine ⟨fun q3 => ?_,fun q3 => ?_⟩
  ·have e:s.1 = 0:=by simpa using q3
   rw [if_pos e]
   exact ⟨hA,hB,k1,k2,by omega,by omega,fun _ _ _ h => h⟩
  ·have e:¬ s.1 = 0:=by simpa using q3
   rw [if_neg e]
   exact ⟨hB,hA,k2,k1,by omega,by omega,(flS_in (n:=m) (X:=Z) (Y:=T) (m:=n) (Z:=X) (T:=Y) (i:=s.2.1.toNat)).1.1,(flS_in (n:=m) (X:=Z) (Y:=T) (m:=n) (Z:=X) (T:=Y) (i:=s.2.1.toNat)).1.2,fun _ _ _ h => h⟩
def c73:Con
 | [.agg [.v (.int .i64 k),.v (.int .i64 x),.v (.int .i64 y),.v (.int .i64 r),.ro n 2 g],.agg [.v (.int .i64 k'),.v (.int .i64 x'),.v (.int .i64 y'),.v (.int .i64 r'),.ro m 2 g']] => some ([spots n g,spots m g',n ≤ 9223372036854775806,m ≤ 9223372036854775806,inR x,inR y,inR r,inR x',inR y',inR r'],
   clipA k x y r n (gx g 0) (gx g 1) k' x' y' r' m (gx g' 0) (gx g' 1))
 | _ => none
theorem con73:ConOK Tryz.prog 73 c73:=ConOK.goR (G:=[(139,c255),(140,cz35),(141,c141),(142,c142),(143,ktrn),(144,cz37),(145,c145)]) (H:=[]) (.cons con139 (.cons con140 (.cons con141 (.cons con142 (.cons kontrn (.cons con144 (.cons con145 .nil))))))) Tryz.func73 fun l ob rr hc hob => by
 unfold c73 at hc
 split at hc
 ·rename_i k x y r n g k' x' y' r' m g'
  cases hc
  have hs:spots n g:=hob _ (by simp)
  have hs':spots m g':=hob _ (by simp)
  exact ⟨[edA k x y r n (gx g 0) (gx g 1),edA k' x' y' r' m (gx g' 0) (gx g' 1)],fun w I vs h => Rs_two (Rs_form hs) (Rs_form hs') h,by kernel_rfl,vc73 k x y r n _ _ k' x' y' r' m _ _ (fun i hi => (hs i hi).2) (fun i hi => (hs' i hi).2) (hob _ (by simp)) (hob _ (by simp)) (hob _ (by simp)) (hob _ (by simp)) (hob _ (by simp)) (hob _ (by simp)) (hob _ (by simp)) (hob _ (by simp))⟩
 ·cases hc
theorem bnd_clip {k x y r:Int} {n:Nat} {X Y:Nat → Int} {k' x' y' r':Int} {m:Nat} {Z T:Nat → Int}:clipA k x y r n X Y k' x' y' r' m Z T = .tup [.agg [i64 (clipS k x y r n X Y k' x' y' r' m Z T).nv.1.1,bo (clipS k x y r n X Y k' x' y' r' m Z T).nv.1.2,i64 (clipS k x y r n X Y k' x' y' r' m Z T).nv.2.1,bo (clipS k x y r n X Y k' x' y' r' m Z T).nv.2.2,.ro (clipS k x y r n X Y k' x' y' r' m Z T).n 6 (tchs (clipS k x y r n X Y k' x' y' r' m Z T).P (clipS k x y r n X Y k' x' y' r' m Z T).D)],bo (clipB k x y r n X Y k' x' y' r' m Z T)]:=(rfl)
attribute [go_sem] bnd_clip
end Go.Ax
end
section
/-
  The box of a form, ars the reference finds it; forms and boxes of bodies.
-/
set_option maxHeartbeats 4000000
set_option maxRecDepth 100000
namespace Go.Ax
open Go.Proofs
-- dropped 149 bagatelle/bagatelleref03.BoxOf
-- dropped 149 bagatelle/bagatelleref03.BoxOf
theorem plC_in {k r w t:Int} {n:Nat} {X Y:Nat → Int} {at' rot:V2} {a:Nb}:inR (plC k r w t n X Y at' rot a) = True:=eq_true (by
 unfold plC
 split
 ·exact spV_inR
 ·unfold inR; omega)
def kb70:Con:=cB fun b rest => match rest with
 | [] => some ([inB b,b.n ≤ 1000],plA b.k b.r b.wd b.ht b.n b.X b.Y b.pl b.rot)
 | _ => none
theorem konb70:ConOK Tryz.prog 70 kb70:=ConOK.cB (G:=[(65,c65)]) (H:=[]) (.cons con65 .nil) Tryz.func70 fun b rest ob r hc hob => by
 split at hc
 ·skip
  cases hc
  have h_0:inB b:=hob _ (by simp)
  have h_1:b.n ≤ 1000:=hob _ (by simp)
  obtain ⟨b1,b2,b3,b4,b5,b6,b7,b8,b9,b10,b11,b12,b13,b14,b15,b16⟩:=h_0
  have hb:inB b:=hob _ (by simp)
  refine ⟨by kernel_rfl,fnVC_go (rs:=[.cell 2 122,.tmp 3]) rfl rfl ?_⟩
  simp only [bodyC,go_sem,c65,cB_eq,cBR_eq,bodyD_lit,gx_pts0,gx_pts1,spots_can,etaN,etaV,bd_eta,b1,b2,b3,b4,b6,b7,b8,b9,b10,b11,b12,b13,b14,b15,b16,hb,h_1,plA]
  simp only [forall_eq]
  exact ⟨b5,by omega,trivial⟩
 ·cases hc
def kb72:Con:=cB fun b rest => match rest with
 | [] => some ([inB b,b.n ≤ 1000],plA b.k b.r b.wd b.ht b.n b.X b.Y b.pl b.rot)
 | _ => none
theorem konb72:ConOK Tryz.prog 72 kb72:=ConOK.cB (G:=[(81,c65)]) (H:=[]) (.cons con81 .nil) Tryz.func72 fun b rest ob r hc hob => by
 split at hc
 ·skip
  cases hc
  have h_0:inB b:=hob _ (by simp)
  have h_1:b.n ≤ 1000:=hob _ (by simp)
  obtain ⟨b1,b2,b3,b4,b5,b6,b7,b8,b9,b10,b11,b12,b13,b14,b15,b16⟩:=h_0
  have hb:inB b:=hob _ (by simp)
  refine ⟨by kernel_rfl,fnVC_go (rs:=[.cell 2 122,.tmp 3]) rfl rfl ?_⟩
  simp only [bodyC,go_sem,c65,cB_eq,cBR_eq,bodyD_lit,gx_pts0,gx_pts1,spots_can,etaN,etaV,bd_eta,b1,b2,b3,b4,b6,b7,b8,b9,b10,b11,b12,b13,b14,b15,b16,hb,h_1,plA]
  simp only [forall_eq]
  exact ⟨b5,by omega,trivial⟩
 ·cases hc
end Go.Ax
end
section
/-
  How two bodies touch, by the reference; contacts of lists.
-/
set_option maxHeartbeats 4000000
set_option maxRecDepth 100000
namespace Go.Ax
open Go.Proofs
def fE (b:Bd):Int:=plErr b.k b.r b.wd b.ht b.n b.X b.Y b.pl b.rot
def fK (b:Bd):Int:=plK b.k b.r b.wd b.ht b.n b.X b.Y b.pl b.rot
def fCx (b:Bd):Int:=plC b.k b.r b.wd b.ht b.n b.X b.Y b.pl b.rot b.pl.1
def fCy (b:Bd):Int:=plC b.k b.r b.wd b.ht b.n b.X b.Y b.pl b.rot b.pl.2
def fR (b:Bd):Int:=plR b.k b.r b.wd b.ht b.n b.X b.Y b.pl b.rot
def fN (b:Bd):Nat:=plN b.k b.r b.wd b.ht b.n b.X b.Y b.pl b.rot
def fX (b:Bd):Nat → Int:=plX b.k b.wd b.ht b.X b.Y b.pl b.rot
def fY (b:Bd):Nat → Int:=plY b.k b.wd b.ht b.X b.Y b.pl b.rot
def touS (b c:Bd):Mf:=clipS (fK b) (fCx b) (fCy b) (fR b) (fN b) (fX b) (fY b) (fK c) (fCx c) (fCy c) (fR c) (fN c) (fX c) (fY c)
def touB (b c:Bd):Bool:=clipB (fK b) (fCx b) (fCy b) (fR b) (fN b) (fX b) (fY b) (fK c) (fCx c) (fCy c) (fR c) (fN c) (fX c) (fY c)
theorem clip_0 {k x y r:Int} {n:Nat} {X Y:Nat → Int} {k' x' y' r':Int} {m:Nat} {Z T:Nat → Int} (h:¬ (checkS k x y r n X Y = 0 ∧ checkS k' x' y' r' m Z T = 0 ∧ apS k x y r n X Y k' x' y' r' m Z T = false)):clipS k x y r n X Y k' x' y' r' m Z T = mf0 ∧ clipB k x y r n X Y k' x' y' r' m Z T = false:=⟨if_neg h,decide_eq_false h⟩
theorem tou_0 {b c:Bd} (h:fE b ≠ 0 ∨ fE c ≠ 0):touS b c = mf0 ∧ touB b c = false:=by
 refine clip_0 fun hq => ?_
 have q:∀ d:Bd,fE d ≠ 0 → fK d = 0:=fun d hd => if_neg hd
 rcases h with h | h
 ·have:=(check_1 hq.1).1
  rw [q b h] at this
  omega
 ·have:=(check_1 hq.2.1).1
  rw [q c h] at this
  omega
def kTou:Con
 | [.agg l,.agg l'] => some ([l = bodyC (bodyD l),l' = bodyC (bodyD l'),inB (bodyD l),inB (bodyD l'),(bodyD l).n ≤ 1000,(bodyD l').n ≤ 1000],.tup [mfA (touS (bodyD l) (bodyD l')),bo (touB (bodyD l) (bodyD l'))])
 | _ => none
theorem vc30 (b c:Bd) (hb:inB b) (hc:inB c) (hn:b.n ≤ 1000) (hm:c.n ≤ 1000) :
  fnVC Tryz.prog [(72,kb72),(73,c73)] [] Tryz.f30 [.agg (bodyC b),.agg (bodyC c)] (alk (.tup [mfA (touS b c),bo (touB b c)])):=by
 refine fnVC_go (rs:=[.cell 4 52,.tmp 5]) rfl rfl ?_
 simp only [go_sem,kb72,c73,cB_eq,hb,hc,hn,hm,plA,pl_spots,plN_max,plC_in]
 simp only [forall_eq,gx_pts0,gx_pts1]
 have hr:∀ d:Bd,inB d → inR (plR d.k d.r d.wd d.ht d.n d.X d.Y d.pl d.rot):=fun d hd => by
  unfold plR
  split
  ·exact hd.2.1
  ·unfold inR; decide
 refine ⟨fun h => ?_,fun h => ⟨hr b hb,hr c hc,fun _ _ _ h => h⟩⟩
 obtain ⟨k1,k2⟩:=tou_0 (b:=b) (c:=c) (h.imp (fun q => bne_iff_ne.1 q) (fun q => bne_iff_ne.1 q))
 rw [k1,k2]
 exact alk_form alk_nil6
theorem con30:ConOK Tryz.prog 30 kTou:=ConOK.goR (G:=[(72,kb72),(73,c73)]) (H:=[]) (.cons konb72 (.cons con73 .nil)) Tryz.func30 fun l ob rr hc hob => by
 unfold kTou at hc
 split at hc
 ·rename_i l l'
  cases hc
  have e1:l = bodyC (bodyD l):=hob _ (by simp)
  have e2:l' = bodyC (bodyD l'):=hob _ (by simp)
  refine ⟨[.agg (bodyC (bodyD l)),.agg (bodyC (bodyD l'))],fun w I vs h => by rw [← e1,← e2]; exact h,by kernel_rfl,vc30 (bodyD l) (bodyD l') (hob _ (by simp)) (hob _ (by simp)) (hob _ (by simp)) (hob _ (by simp))⟩
 ·cases hc
end Go.Ax
end
section
/-
  One iteration of a contact.
-/
set_option maxHeartbeats 4000000
set_option maxRecDepth 100000
namespace Go.Ax
open Go.Proofs
structure Hr where
 a:Bd
 b:Bd
 p:Nb
 r:Nb
structure Hs where
 a:Bd
 b:Bd
 c:Ct
end Go.Ax
end
section
/-
  One iteration of a contact, by the program and by the reference.
-/
set_option maxHeartbeats 4000000
set_option maxRecDepth 100000
namespace Go.Ax
open Go.Proofs
end Go.Ax
end
section
/-
  Equations of two unknowns; the matrix of a body and a place.
-/
set_option maxHeartbeats 4000000
set_option maxRecDepth 100000
namespace Go.Ax
open Go.Proofs
def flt (v:V2):Bool:=whF v.1.1 v.1.2 || whF v.2.1 v.2.2
def solN (a b c d:Nb):Nb:=nDot a d (nNeg b) c
def solX (a b c d:Nb) (v:V2):V2:=(nDiv (nDot v.1 d (nNeg b) v.2) (solN a b c d),nDiv (nDot a v.2 (nNeg v.1) c) (solN a b c d))
def solS (a b c d:Nb) (v:V2):Bool × V2:=if (solN a b c d).2 = true ∨ (solN a b c d).1 = 0 then (false,(0,false),(0,false)) else if flt (solX a b c d v) = true then (false,(0,false),(0,false)) else (true,solX a b c d v)
def mxA (m:Nb × Nb × Nb):AV:=.agg [i64 m.1.1,bo m.1.2,i64 m.2.1.1,bo m.2.1.2,i64 m.2.2.1,bo m.2.2.2]
def matS (b:Bd) (p:V2):Nb × Nb × Nb:=(nAdd b.m (nMul b.i (nMul (vSub p b.pl).2 (vSub p b.pl).2)),nNeg (nMul b.i (nMul (vSub p b.pl).1 (vSub p b.pl).2)),nAdd b.m (nMul b.i (nMul (vSub p b.pl).1 (vSub p b.pl).1)))
theorem iMa1 {b:Bd} {p:V2}:inR (matS b p).1.1 = True:=iAdd
theorem iMa2 {b:Bd} {p:V2}:inR (matS b p).2.1.1 = True:=iNeg (of_eq_true iMul)
theorem iMa3 {b:Bd} {p:V2}:inR (matS b p).2.2.1 = True:=iAdd
theorem iSo1 {a b c d:Nb} {v:V2}:inR (solS a b c d v).2.1.1 = True:=by
 unfold solS
 split
 ·exact inR_0
 ·split
  ·exact inR_0
  ·exact iDiv
theorem iSo2 {a b c d:Nb} {v:V2}:inR (solS a b c d v).2.2.1 = True:=by
 unfold solS
 split
 ·exact inR_0
 ·split
  ·exact inR_0
  ·exact iDiv
def toS (b:Bd) (p:V2):V2:=vAdd b.pl (vApply b.rot p)
theorem toS_f {b:Bd} {p:V2}:vAdd b.pl (vApply b.rot p) = toS b p:=(rfl)
theorem iTo1 {b:Bd} {p:V2}:inR (toS b p).1.1 = True:=iVAdd1
theorem iTo2 {b:Bd} {p:V2}:inR (toS b p).2.1 = True:=iVAdd2
attribute [go_sem] mxA iMa1 iMa2 iMa3 iSo1 iSo2 iTo1 iTo2 toS_f
end Go.Ax
end
section
/-
  Joints: a body is pulled to a place.
-/
set_option maxHeartbeats 4000000
set_option maxRecDepth 100000
namespace Go.Ax
open Go.Proofs
end Go.Ax
end
section
/-
  Joints: two places are kept together; all joints.
-/
set_option maxHeartbeats 4000000
set_option maxRecDepth 100000
namespace Go.Ax
open Go.Proofs
end Go.Ax
end
section
/-
  One iteration of a joint.
-/
set_option maxHeartbeats 4000000
set_option maxRecDepth 100000
namespace Go.Ax
open Go.Proofs
end Go.Ax
end
section
/-
  One iteration of a joint, by the program and by the reference.
-/
set_option maxHeartbeats 4000000
set_option maxRecDepth 100000
namespace Go.Ax
open Go.Proofs
end Go.Ax
end
section
/-
  One iteration of a joint keeps the bodies in their ranges.
-/
set_option maxHeartbeats 4000000
set_option maxRecDepth 100000
namespace Go.Ax
open Go.Proofs
end Go.Ax
end
section
/-
  Lists of contacts and of joints.
-/
set_option maxHeartbeats 4000000
set_option maxRecDepth 100000
namespace Go.Ax
open Go.Proofs
def csC (C:Nat → Ct):Nat → List AV:=fun i => contC (C i)
def csD (g:Nat → List AV):Nat → Ct:=fun i => contD (g i)
theorem csD_C {C:Nat → Ct}:csD (csC C) = C:=rfl
theorem csC_at {C:Nat → Ct} {i:Nat}:csC C i = contC (C i):=(rfl)
attribute [go_sem] csD_C csC_at
def inCs (M:Nat) (C:Nat → Ct):Prop:=∀ i,i < M → inC (C i) ∧ (C i).n ≤ 1000
end Go.Ax
end
section
/-
  Lists of joints; rounds.
-/
set_option maxHeartbeats 4000000
set_option maxRecDepth 100000
namespace Go.Ax
open Go.Proofs
structure Jt where
 k:Int
 a:Int
 b:Int
 x:Int
 e:Bool
 y:Int
 f:Bool
 z:Int
 g:Bool
 u:Int
 h:Bool
 l:Int
 m:Bool
def jtC (j:Jt):List AV:=[i64 j.k,i64 j.a,i64 j.b,i64 j.x,bo j.e,i64 j.y,bo j.f,i64 j.z,bo j.g,i64 j.u,bo j.h,i64 j.l,bo j.m]
def jtD (l:List AV):Jt:=⟨gi l 0,gi l 1,gi l 2,gi l 3,gib l 4,gi l 5,gib l 6,gi l 7,gib l 8,gi l 9,gib l 10,gi l 11,gib l 12⟩
def jsC (J:Nat → Jt):Nat → List AV:=fun i => jtC (J i)
def jsD (g:Nat → List AV):Nat → Jt:=fun i => jtD (g i)
theorem jsD_C {J:Nat → Jt}:jsD (jsC J) = J:=rfl
attribute [go_sem] jsD_C
def updC (C:Nat → Ct) (i:Nat) (c:Ct):Nat → Ct:=fun j => if j = i then c else C j
structure Sv where
 B:Nat → Bd
 C:Nat → Ct
theorem csC_upd {C:Nat → Ct} {i:Nat} {c:Ct}:(fun j => if j = i then contC c else csC C j) = csC (updC C i c):=funext fun j => by
 unfold csC updC
 split <;> rfl
theorem famN_updC {M:Nat} {C:Nat → Ct} {i:Nat} {c:Ct}:famN M 15 55 (fun j => if j = i then contC c else csC C j) none = famN M 15 55 (csC (updC C i c)) none:=by rw [csC_upd]
theorem famN_updC2 {M:Nat} {C:Nat → Ct} {i:Nat} {c:Ct}:famN M 15 55 (fun j => if j = i then contC c else contC (C j)) none = famN M 15 55 (csC (updC C i c)) none:=famN_updC
theorem famCl_cs {M:Nat} {C:Nat → Ct}:famCl (famN M 15 55 (csC C) none) = True:=famCl_Nt fun _ _ => rfl
attribute [go_sem] famN_updC famN_updC2 famCl_cs
end Go.Ax
end
section
/-
  Solve, by the program.
-/
set_option maxHeartbeats 4000000
set_option maxRecDepth 100000
namespace Go.Ax
open Go.Proofs
end Go.Ax
end
section
/-
  Lists of bodies, contacts and joints ars they are made: equal to proper ones up to their lengths.
-/
set_option maxHeartbeats 4000000
set_option maxRecDepth 100000
namespace Go.Ax
open Go.Proofs
def contN (c:Ct):List AV:=[i64 c.a,i64 c.b,i64 c.nv.1.1,bo c.nv.1.2,i64 c.nv.2.1,bo c.nv.2.2,.v (.slice none 0 0),
 i64 c.p0.1,bo c.p0.2,i64 c.p1.1,bo c.p1.2,i64 c.r0.1,bo c.r0.2,i64 c.r1.1,bo c.r1.2]
def rowC (g:Nat → List AV) (i:Nat):Prop:=g i = csC (csD g) i ∨ (g i = contN (csD g i) ∧ (csD g i).n = 0)
section
variable {c:Con} {N M L:Nat} {g g' g'':Nat → List AV} {rest:List AV}
end
section
variable {b c d e:Bd} {l:List AV}
theorem lenA_body:(bodyC b ++ l).length = 27 + l.length:=by rw [List.length_append]; rfl
theorem take27_body:List.take 27 (bodyC b ++ l) = bodyC b:=(rfl)
theorem take54_body:List.take 54 (bodyC b ++ l) = bodyC b ++ List.take 27 l:=(rfl)
theorem take81_body:List.take 81 (bodyC b ++ l) = bodyC b ++ List.take 54 l:=(rfl)
theorem take108_body:List.take 108 (bodyC b ++ l) = bodyC b ++ List.take 81 l:=(rfl)
theorem drop27_body:List.drop 27 (bodyC b ++ l) = l:=(rfl)
theorem drop54_body:List.drop 54 (bodyC b ++ l) = List.drop 27 l:=(rfl)
theorem drop81_body:List.drop 81 (bodyC b ++ l) = List.drop 54 l:=(rfl)
theorem drop108_body:List.drop 108 (bodyC b ++ l) = List.drop 81 l:=(rfl)
end
attribute [go_sem] lenA_body take27_body take54_body take81_body take108_body drop27_body drop54_body drop81_body drop108_body
theorem purLA_body {b:Bd} {l:List AV} {d:Nat} {m:Mem}:purL d m (bodyC b ++ l) = bodyC b ++ purL d m l:=by
 rw [← purL_eq,← purL_eq,List.map_append,purL_eq,purLd_body]
theorem cleanLA_body {b:Bd} {l:List AV}:cleanL 2 (bodyC b ++ l) = cleanL 2 l:=by
 rw [← cleanL_eq,← cleanL_eq,List.all_append,cleanL_eq (l:=bodyC b),cleanL_body,Bool.true_and]
attribute [go_sem] cleanLA_body
def ros2 (b c:Bd):Nat → List AV:=rowsOf 27 (bodyC b ++ bodyC c)
theorem rows_seal2 {b c:Bd}:rowsOf 27 (bodyC b ++ bodyC c) = ros2 b c:=(rfl)
theorem rowG_r2 {b c:Bd} {d:Nat} {m:Mem}:rowG d m (ros2 b c) = ros2 b c:=by
 unfold ros2
 rw [rowG_rows,purLA_body,purLd_body]
theorem purL_r2 {b c:Bd} {d i:Nat} {m:Mem}:purL d m (ros2 b c i) = ros2 b c i:=by
 unfold ros2 rowsOf
 rw [purL_take,purL_drop,purLA_body,purLd_body]
theorem ros2_0 {b c:Bd}:ros2 b c 0 = bodyC b:=(rfl)
theorem ros2_1 {b c:Bd}:ros2 b c 1 = bodyC c:=(rfl)
theorem bsD_r20 {b c:Bd}:bsD (ros2 b c) 0 = b:=(rfl)
theorem bsD_r21 {b c:Bd}:bsD (ros2 b c) 1 = c:=(rfl)
theorem ros2_ok {b c:Bd}:(∀ i,i < 2 → ros2 b c i = bodyC (bsD (ros2 b c) i)) = True:=eq_true fun i hi => by
 match i with
 | 0 => rfl
 | 1 => rfl
 | q + 2 => omega
theorem inBs_r2 {b c:Bd}:inBs 2 (bsD (ros2 b c)) = ((inB b ∧ b.n ≤ 1000) ∧ (inB c ∧ c.n ≤ 1000)):=propext ⟨fun h => ⟨h 0 (by omega),h 1 (by omega)⟩,fun h i hi => by
 match i with
 | 0 => exact h.1
 | 1 => exact h.2
 | q + 2 => omega⟩
attribute [go_sem] rows_seal2 rowG_r2 purL_r2 ros2_0 ros2_1 bsD_r20 bsD_r21 ros2_ok inBs_r2
theorem lenA_cont {c:Ct} {l:List AV}:(contC c ++ l).length = 15 + l.length:=by rw [List.length_append]; rfl
theorem take15A_cont {c:Ct} {l:List AV}:List.take 15 (contC c ++ l) = contC c:=(rfl)
theorem take30A_cont {c:Ct} {l:List AV}:List.take 30 (contC c ++ l) = contC c ++ List.take 15 l:=(rfl)
theorem drop15A_cont {c:Ct} {l:List AV}:List.drop 15 (contC c ++ l) = l:=(rfl)
theorem drop30A_cont {c:Ct} {l:List AV}:List.drop 30 (contC c ++ l) = List.drop 15 l:=(rfl)
theorem cleanLA_cont {c:Ct} {l:List AV}:cleanL 2 (contC c ++ l) = cleanL 2 l:=by
 rw [← cleanL_eq,← cleanL_eq,List.all_append,cleanL_eq (l:=contC c),cleanL_cont,Bool.true_and]
theorem purLd_cont {c:Ct} {d:Nat} {m:Mem}:purL d m (contC c) = contC c:=by cases d <;> rfl
theorem purLA_cont {c:Ct} {l:List AV} {d:Nat} {m:Mem}:purL d m (contC c ++ l) = contC c ++ purL d m l:=by
 rw [← purL_eq,← purL_eq,List.map_append,purL_eq,purLd_cont]
def cts2 (a b:Ct):Nat → List AV:=rowsOf 15 (contC a ++ contC b)
section
variable {a b:Ct} {d i:Nat} {m:Mem}
theorem rows_sealC2:rowsOf 15 (contC a ++ contC b) = cts2 a b:=(rfl)
theorem rowG_c2:rowG d m (cts2 a b) = cts2 a b:=by
 unfold cts2
 rw [rowG_rows,purLA_cont,purLd_cont]
theorem purL_c2:purL d m (cts2 a b i) = cts2 a b i:=by
 unfold cts2 rowsOf
 rw [purL_take,purL_drop,purLA_cont,purLd_cont]
theorem cts2_0:cts2 a b 0 = contC a:=(rfl)
theorem cts2_1:cts2 a b 1 = contC b:=(rfl)
theorem csD_c20:csD (cts2 a b) 0 = a:=(rfl)
theorem csD_c21:csD (cts2 a b) 1 = b:=(rfl)
theorem cts2_ok:(∀ i,i < 2 → rowC (cts2 a b) i) = True:=eq_true fun i hi => .inl (by
 match i with
 | 0 => rfl
 | 1 => rfl
 | q + 2 => omega)
theorem inCs_c2:inCs 2 (csD (cts2 a b)) = ((inC a ∧ a.n ≤ 1000) ∧ (inC b ∧ b.n ≤ 1000)):=propext ⟨fun h => ⟨h 0 (by omega),h 1 (by omega)⟩,fun h i hi => by
 match i with
 | 0 => exact h.1
 | 1 => exact h.2
 | q + 2 => omega⟩
end
attribute [go_sem] lenA_cont take15A_cont take30A_cont drop15A_cont drop30A_cont cleanLA_cont rows_sealC2 rowG_c2 purL_c2 cts2_0 cts2_1 csD_c20 csD_c21 cts2_ok inCs_c2
theorem plainL_cont {c:Ct}:plainL 1 (contC c) = false:=(rfl)
attribute [go_sem] plainL_cont
end Go.Ax
end
section
/-
  How forms touch, by the program: its small parts.
-/
set_option maxHeartbeats 4000000
set_option maxRecDepth 100000
namespace Go.Ax
open Go.Proofs
def kbak:Con
 | [.agg [.v (.int .i64 x),.v (.bool e),.v (.int .i64 y),.v (.bool f),.ro n 6 g]] => some ([inR x,inR y],.agg [i64 (vScale ((x,e),(y,f)) (nInt (-1))).1.1,bo (vScale ((x,e),(y,f)) (nInt (-1))).1.2,i64 (vScale ((x,e),(y,f)) (nInt (-1))).2.1,bo (vScale ((x,e),(y,f)) (nInt (-1))).2.2,.ro n 6 g])
 | _ => none
theorem konbak:ConOK Tryz.prog 135 kbak:=ConOK.of (G:=[(103,k127),(44,k169)]) (H:=[(1,⟨[(5,.slot 1)],[]⟩)]) (.cons kon127 (.cons kon169 .nil)) Tryz.func135 fun l ob rr hc hob => by
 unfold kbak at hc
 split at hc
 ·rename_i x e y f n g
  cases hc
  have h_0:inR x:=hob _ (by simp)
  have h_1:inR y:=hob _ (by simp)
  refine ⟨by kernel_rfl,fnVC_go (rs:=[.cell 2 52]) rfl rfl ?_⟩
  simp only [go_sem,k127,k169,iMul,iDiv,iInt,iAdd,iSub,iRat,iDot,iHyp,iSq,iNeg,iPos,iAbs,iMx,iMn,iCl,iWh,iLoc1,iLoc2,iVAdd1,iVAdd2,iVSub1,iVSub2,iScale1,iScale2,iVDot,iVCross,iLen,iOf1,iOf2,iUnit1,iUnit2,h_0,h_1]
  done
 ·cases hc
def kto:Con
 | [.agg [.v (.int .i64 x),.v (.bool e),.v (.int .i64 y),.v (.bool f)],.agg [.v (.int .i64 a),.v (.bool g),.v (.int .i64 b),.v (.bool h)],.agg [.v (.int .i64 i),.v (.bool k)],.agg [.v (.int .i64 j),.v (.bool l)]] => some ([inR x,inR y,inR a,inR b,inR i,inR j],veA (cutS ((x,e),(y,f)) ((a,g),(b,h)) (i,k) (j,l)))
 | _ => none
theorem konto:ConOK Tryz.prog 260 kto:=ConOK.of (G:=[(114,k172),(111,k160),(78,k168),(44,k169),(43,k130)]) (H:=[(1,⟨[(12,.slot 8)],[]⟩)]) (.cons kon172 (.cons kon160 (.cons kon168 (.cons kon169 (.cons kon130 .nil))))) Tryz.func260 fun l ob rr hc hob => by
 unfold kto at hc
 split at hc
 ·rename_i x e y f a g b h i k j l
  cases hc
  have h_0:inR x:=hob _ (by simp)
  have h_1:inR y:=hob _ (by simp)
  have h_2:inR a:=hob _ (by simp)
  have h_3:inR b:=hob _ (by simp)
  have h_4:inR i:=hob _ (by simp)
  have h_5:inR j:=hob _ (by simp)
  refine ⟨by kernel_rfl,fnVC_go (rs:=[.cell 8 29]) rfl rfl ?_⟩
  simp only [go_sem,k172,k160,k168,k169,k130,iMul,iDiv,iInt,iAdd,iSub,iRat,iDot,iHyp,iSq,iNeg,iPos,iAbs,iMx,iMn,iCl,iWh,iLoc1,iLoc2,iVAdd1,iVAdd2,iVSub1,iVSub2,iScale1,iScale2,iVDot,iVCross,iLen,iOf1,iOf2,iUnit1,iUnit2,h_0,h_1,h_2,h_3,h_4,h_5]
  rfl
 ·cases hc
def sgC (x y:V2):List AV:=[i64 x.1.1,bo x.1.2,i64 x.2.1,bo x.2.2,i64 y.1.1,bo y.1.2,i64 y.2.1,bo y.2.2]
def clpG:List AV → List AV → Option (List Prop × AV × List AV)
 | [.v (.int .i64 x),.v (.bool e),.v (.int .i64 y),.v (.bool f),.v (.int .i64 a),.v (.bool g),.v (.int .i64 b),.v (.bool h)],[.agg [.v (.int .i64 i),.v (.bool k)],.agg [.v (.int .i64 j),.v (.bool l)]] =>
  some ([inR x,inR y,inR a,inR b,inR i,inR j],.tup [],sgC (clpX ((x,e),(y,f)) ((a,g),(b,h)) (i,k) (j,l)) (clpY ((x,e),(y,f)) ((a,g),(b,h)) (i,k) (j,l)))
 | _,_ => none
def mClp:MCon:=mc1 8 clpG
theorem con208m:MConOK Tryz.prog 208 mClp:=MConOK.mc1 (G:=[(260,kto)]) (H:=[(3,⟨[(15,.slot 0)],[]⟩),(5,⟨[(15,.slot 0)],[]⟩)]) (.cons konto .nil) Tryz.func208 fun cells rest ob val cs hF hob => by
 unfold clpG at hF
 split at hF
 ·rename_i x e y f a g b h i k j l
  cases hF
  have h1:inR x:=hob _ (by simp)
  have h2:inR y:=hob _ (by simp)
  have h3:inR a:=hob _ (by simp)
  have h4:inR b:=hob _ (by simp)
  have h5:inR i:=hob _ (by simp)
  have h6:inR j:=hob _ (by simp)
  clear hob
  refine ⟨fun a ha => by simp at ha; rcases ha with ha | ha <;> (subst ha; rfl),rfl,cleanCs_mem rfl,by kernel_rfl,fun fam f q hq hs hg hk => bodyM_go (rs:=[]) rfl rfl ?_⟩
  simp only [go_sem,kto,loadP_E,storeP_E,← hs,hg,hq,h1,h2,h3,h4,h5,h6]
  refine ⟨fun w => ?_,fun w => ⟨fun w2 => ?_,fun w2 => ?_⟩⟩
  ·unfold clpX clpY
   dsimp only
   rw [if_pos w,if_neg (by omega)]
   rfl
  ·have w:¬ (i < 0 ∧ 0 ≤ j):=by simpa using w
   unfold clpX clpY
   dsimp only
   rw [if_neg w,if_pos w2]
   rfl
  ·have w:¬ (i < 0 ∧ 0 ≤ j):=by simpa using w
   have w2:¬ (j < 0 ∧ 0 ≤ i):=by simpa using w2
   unfold clpX clpY
   dsimp only
   rw [if_neg w,if_neg w2]
   rfl
 ·cases hF
def k122:Con
 | [.agg [.ro n 2 g],.v (.int .i64 i)] => some ([spots n g,0 ≤ i,i < n,n ≤ 9223372036854775806],.tup [.agg [i64 (gx g 0 i.toNat),i64 (gx g 1 i.toNat)],.agg [i64 (gx g 0 (nxt n i.toNat)),i64 (gx g 1 (nxt n i.toNat))]])
 | _ => none
theorem vc205 (n:Nat) (X Y:Nat → Int) (i:Nat) (hi:i < n) (hn:n ≤ 9223372036854775806):fnVC Tryz.prog [] [(1,⟨[(15,.slot 4),(16,.slot 5)],[(6,[.slot 4]),(10,[.slot 4]),(14,[.slot 4])]⟩)] Tryz.f205 [.agg [.ro n 2 fun i => [i64 (X i),i64 (Y i)]],i64 i] (· = .tup [.agg [i64 (X i),i64 (Y i)],.agg [i64 (X (nxt n i)),i64 (Y (nxt n i))]]):=by
 refine fnVC_go (rs:=[.cell 4 116,.cell 5 116]) rfl rfl ?_
 have hn0:((n:Int) = 0) = False:=eq_false (by omega)
 simp only [go_sem,hn0]
 have hl:=nxt_lt hi
 refine ⟨by omega,by omega,fun z hz z1 hz1 => ?_⟩
 rw [wrap_in (by unfold inR; omega)] at hz
 rw [hz,tmod_nxt hi] at hz1
 subst hz1
 exact ⟨by omega,by omega,rfl⟩
theorem kon122:ConOK Tryz.prog 205 k122:=ConOK.go (G:=[]) (H:=[(1,⟨[(15,.slot 4),(16,.slot 5)],[(6,[.slot 4]),(10,[.slot 4]),(14,[.slot 4])]⟩)]) .nil Tryz.func205 fun l ob rr hc hob => by
 unfold k122 at hc
 split at hc
 ·rename_i n g i
  cases hc
  have hs:spots n g:=hob _ (by simp)
  have h0:0 ≤ i:=hob _ (by simp)
  have h1:i < n:=hob _ (by simp)
  have e:i = (i.toNat:Int):=by omega
  refine ⟨[.agg [.ro n 2 fun i => [i64 (gx g 0 i),i64 (gx g 1 i)]],i64 (i.toNat:Int)],fun w I vs h => Rs_two (Rs_poly hs) (fun v h => by rw [← e]; exact h) h,by kernel_rfl,vc205 n _ _ i.toNat (by omega) (hob _ (by simp))⟩
 ·cases hc
def k59:Con
 | [.agg [.v (.int .i64 x),.v (.int .i64 y),.v (.int .i64 r)],.agg [.v (.int .i64 x'),.v (.int .i64 y'),.v (.int .i64 r')]] => some ([inR r,inR r',inR x,inR y],mfA (twoS x y r x' y' r'))
 | _ => none
theorem vc134 (x y r x' y' r':Int) (h1:inR r) (h2:inR r') (h3:inR x) (h4:inR y) :
  fnVC Tryz.prog [(193,c193),(125,k63),(172,k165),(199,k166),(201,k162),(175,k161),(111,k160),(200,k167),(103,k127),(78,k168),(44,k169),(43,k130)] [(5,⟨[(11,.made 10)],[]⟩),(6,⟨[(8,.made 7)],[]⟩),(7,⟨[(9,.made 8)],[]⟩)] Tryz.f134 [.agg [i64 x,i64 y,i64 r],.agg [i64 x',i64 y',i64 r']] (alk (mfA (twoS x y r x' y' r'))):=by
 refine fnVC_go (rs:=[.cell 4 52]) rfl rfl ?_
 simp only [go_sem,c193,k63,k165,k166,k162,k161,k160,k167,k127,k168,k169,k130,h1,h2,h3,h4]
 simp only [forall_eq,mnW_eq]
 have i1:∀ a b,inR (mnW a b):=fun a b => wrap_inR _
 refine ⟨i1 _ _,i1 _ _,fun h => ⟨wrap_inR _,?_⟩,fun h => ⟨wrap_inR _,?_⟩⟩
 ·have e:twN (vLoc (mnW x x') (mnW y y')) = oneV:=if_neg (by rw [h]; decide)
  have e1:vOf 1 0 = oneV:=by decide
  rw [e1]
  unfold twoS
  rw [e]
  refine alk_one ?_
  unfold twP
  rw [e]
  rfl
 ·have e:twN (vLoc (mnW x x') (mnW y y')) = (vUnit (vLoc (mnW x x') (mnW y y'))).2:=if_pos h
  unfold twoS
  rw [e]
  refine alk_one ?_
  unfold twP
  rw [e]
  rfl
theorem con134:ConOK Tryz.prog 134 k59:=ConOK.goR (G:=[(193,c193),(125,k63),(172,k165),(199,k166),(201,k162),(175,k161),(111,k160),(200,k167),(103,k127),(78,k168),(44,k169),(43,k130)]) (H:=[(5,⟨[(11,.made 10)],[]⟩),(6,⟨[(8,.made 7)],[]⟩),(7,⟨[(9,.made 8)],[]⟩)]) (.cons con193 (.cons kon63 (.cons kon165 (.cons kon166 (.cons kon162 (.cons kon161 (.cons kon160 (.cons kon167 (.cons kon127 (.cons kon168 (.cons kon169 (.cons kon130 .nil)))))))))))) Tryz.func134 fun l ob rr hc hob => by
 unfold k59 at hc
 split at hc
 ·rename_i x y r x' y' r'
  cases hc
  exact ⟨_,fun w I vs h => h,by kernel_rfl,vc134 x y r x' y' r' (hob _ (by simp)) (hob _ (by simp)) (hob _ (by simp)) (hob _ (by simp))⟩
 ·cases hc
def k117:Con
 | [.agg [.ro n 2 g],.agg [.v (.int .i64 x),.v (.int .i64 y),.v (.int .i64 r)]] => some ([spots n g,n ≤ 1000,0 < n,∀ i,i < n → validS (gx g 0 i) (gx g 1 i) = true,validS x y = true,inR r,inR x,inR y],mfA (deepS n (gx g 0) (gx g 1) x y r (axSt n (gD n (gx g 0) (gx g 1) x y r) 0 (gD n (gx g 0) (gx g 1) x y r) 2)))
 | _ => none
theorem vc202 (n:Nat) (X Y:Nat → Int) (x y r:Int) (hX:∀ i,i < n → inR (X i) ∧ inR (Y i)) (hn:n ≤ 1000) (n0:0 < n) (vX:∀ i,i < n → validS (X i) (Y i) = true) (v1:validS x y = true) (h3:inR r) (h1:inR x) (h2:inR y) :
  fnVC Tryz.prog [(137,k94),(205,k122),(203,k173),(125,k63),(201,k162),(44,k169),(114,k172),(112,k179),(200,k167)] [(3,⟨[(10,.made 9)],[]⟩),(4,⟨[(9,.slot 4)],[]⟩)] Tryz.f202 [.agg [.ro n 2 fun i => [i64 (X i),i64 (Y i)]],.agg [i64 x,i64 y,i64 r]] (alk (mfA (deepS n X Y x y r (axSt n (gD n X Y x y r) 0 (gD n X Y x y r) 2)))):=by
 refine fnVC_go (rs:=[.cell 4 52]) rfl rfl ?_
 have hg:spots n fun i => [i64 (X i),i64 (Y i)]:=fun i hi => ⟨rfl,hX i hi⟩
 simp only [go_sem,k94,k122,k173,k63,k162,k169,k172,k179,k167,k94q,gx_pts0,gx_pts1,hg,hn,n0,v1,h1,h2,h3]
 have hi:=axSt_ix (G:=gD n X Y x y r) (G':=gD n X Y x y r) n0
 have hr:inR (axSt n (gD n X Y x y r) 0 (gD n X Y x y r) 2).2.2.1:=axSt_in (fun _ => rg_inR gD_rg) (fun _ => rg_inR gD_rg) 2
 generalize axSt n (gD n X Y x y r) 0 (gD n X Y x y r) 2 = s at *
 exact ⟨vX,hi.1,hi.2,by omega,vX _ (by omega),vX _ (nxt_lt (by omega)),hr,of_eq_true (iNeg hr),alk_one rfl⟩
theorem con202:ConOK Tryz.prog 202 k117:=ConOK.goR (G:=[(137,k94),(205,k122),(203,k173),(125,k63),(201,k162),(44,k169),(114,k172),(112,k179),(200,k167)]) (H:=[(3,⟨[(10,.made 9)],[]⟩),(4,⟨[(9,.slot 4)],[]⟩)]) (.cons kon94 (.cons kon122 (.cons kon173 (.cons kon63 (.cons kon162 (.cons kon169 (.cons kon172 (.cons kon179 (.cons kon167 .nil))))))))) Tryz.func202 fun l ob rr hc hob => by
 unfold k117 at hc
 split at hc
 ·rename_i n g x y r
  cases hc
  have hs:spots n g:=hob _ (by simp)
  exact ⟨[.agg [.ro n 2 fun i => [i64 (gx g 0 i),i64 (gx g 1 i)]],.agg [i64 x,i64 y,i64 r]],fun w I vs h => Rs_two (Rs_poly hs) (fun v h => h) h,by kernel_rfl,vc202 n _ _ x y r (fun i hi => (hs i hi).2) (hob _ (by simp)) (hob _ (by simp)) (hob _ (by simp)) (hob _ (by simp)) (hob _ (by simp)) (hob _ (by simp)) (hob _ (by simp))⟩
 ·cases hc
end Go.Ax
end
section
/-
  A polygon and a disc, by the program; against which edge.
-/
set_option maxHeartbeats 4000000
set_option maxRecDepth 100000
namespace Go.Ax
open Go.Proofs
def k61:Con
 | [.agg [.ro n 2 g],.agg [.v (.int .i64 x),.v (.int .i64 y),.v (.int .i64 r)]] => some ([spots n g,n ≤ 1000,0 < n,∀ i,i < n → validS (gx g 0 i) (gx g 1 i) = true,validS x y = true,inR r,inR x,inR y],mfA (pdS n (gx g 0) (gx g 1) x y r))
 | _ => none
def rdRw (n:Nat) (X Y:Nat → Int) (x y r:Int):Nat → Mem
 | 0 => [(13,fam1 27 2 [i64 0,bo false] none),(12,fam1 52 5 [i64 0,bo false,i64 0,bo false,.v (.slice none 0 0)] none)]
 | j + 1 => [(13,fam1 27 2 [i64 (rdL n X Y x y (leI (rdL n X Y x y) j)).1,bo (rdL n X Y x y (leI (rdL n X Y x y) j)).2] none),
   (12,fam1 52 5 [i64 (rdV n X Y x y (leI (rdL n X Y x y) j)).1.1,bo (rdV n X Y x y (leI (rdL n X Y x y) j)).1.2,i64 (rdV n X Y x y (leI (rdL n X Y x y) j)).2.1,bo (rdV n X Y x y (leI (rdL n X Y x y) j)).2.2,.own 16 0 1 6] none),
   (16,famN 1 6 87 (tchs (fun _ => rdP n X Y x y (leI (rdL n X Y x y) j)) (fun _ => nPos (nSub (nRat r 256) (rdL n X Y x y (leI (rdL n X Y x y) j))))) none)]
theorem rdRw_0 {n:Nat} {X Y:Nat → Int} {x y r:Int}:rdRw n X Y x y r 0 = [(13,fam1 27 2 [i64 0,bo false] none),(12,fam1 52 5 [i64 0,bo false,i64 0,bo false,.v (.slice none 0 0)] none)]:=(rfl)
theorem rdRw_s {n:Nat} {X Y:Nat → Int} {x y r:Int} {j:Nat}:rdRw n X Y x y r (j + 1) = [(13,fam1 27 2 [i64 (rdL n X Y x y (leI (rdL n X Y x y) j)).1,bo (rdL n X Y x y (leI (rdL n X Y x y) j)).2] none),
   (12,fam1 52 5 [i64 (rdV n X Y x y (leI (rdL n X Y x y) j)).1.1,bo (rdV n X Y x y (leI (rdL n X Y x y) j)).1.2,i64 (rdV n X Y x y (leI (rdL n X Y x y) j)).2.1,bo (rdV n X Y x y (leI (rdL n X Y x y) j)).2.2,.own 16 0 1 6] none),
   (16,famN 1 6 87 (tchs (fun _ => rdP n X Y x y (leI (rdL n X Y x y) j)) (fun _ => nPos (nSub (nRat r 256) (rdL n X Y x y (leI (rdL n X Y x y) j))))) none)]:=(rfl)
theorem leI_0 {h:Nat → Nb}:leI h 0 = 0:=(rfl)
theorem rdV_n {n:Nat} {X Y:Nat → Int} {x y:Int} {i:Nat} (h:(vUnit (rdM n X Y x y i)).1 = false ∨ 0 < (rdT n X Y x y i).1 ∧ (rdT n X Y x y i).1 < 4294967296):rdV n X Y x y i = vNorm (X i) (Y i) (X (nxt n i)) (Y (nxt n i)):=if_pos h.symm
theorem rdV_u {n:Nat} {X Y:Nat → Int} {x y:Int} {i:Nat} (h:(vUnit (rdM n X Y x y i)).1 = true ∧ (decide (0 < (rdT n X Y x y i).1) && decide ((rdT n X Y x y i).1 < 4294967296)) = false):rdV n X Y x y i = (vUnit (rdM n X Y x y i)).2:=if_neg (by
 rintro (q | q)
 ·have:=h.2
  rw [decide_eq_true q.1,decide_eq_true q.2] at this
  cases this
 ·rw [h.1] at q
  cases q)
theorem vc136 (n:Nat) (X Y:Nat → Int) (x y r:Int) (hX:∀ i,i < n → inR (X i) ∧ inR (Y i)) (hn:n ≤ 1000) (n0:0 < n) (vX:∀ i,i < n → validS (X i) (Y i) = true) (v1:validS x y = true) (h3:inR r) (h1:inR x) (h2:inR y) :
  fnVC Tryz.prog [(195,c195),(202,k117),(125,k63),(196,c196),(193,c193),(194,c194),(52,k132),(103,k127),(102,k171),(44,k169),(43,k130),(114,k172),(175,k161),(51,c51),(172,k165),(203,k173),(201,k162),(111,k160),(200,k167),(1000000 + 257,c257)] [(10,⟨[(14,.made 13)],[]⟩),(11,⟨[(9,.made 8)],[]⟩),(19,⟨[(11,.slot 6)],[]⟩)] Tryz.f136 [.agg [.ro n 2 fun i => [i64 (X i),i64 (Y i)]],.agg [i64 x,i64 y,i64 r]] (alk (mfA (pdS n X Y x y r))):=by
 refine fnVC_go (rs:=[.cell 4 52]) rfl rfl ?_
 have hg:spots n fun i => [i64 (X i),i64 (Y i)]:=fun i hi => ⟨rfl,hX i hi⟩
 simp only [go_sem,c195,k117,k63,c196,c193,c194,k132,k127,k171,k169,k130,k172,k161,c51,k165,k173,k162,k160,k167,gx_pts0,gx_pts1,hg,hn,n0,v1,h1,h2,h3]
 intro z hz
 refine ⟨by omega,vX,fun hi => ⟨vX,?_⟩,fun hi => ?_⟩
 ·rw [show pdS n X Y x y r = deepS n X Y x y r (axSt n (gD n X Y x y r) 0 (gD n X Y x y r) 2) from if_pos (hz.symm.trans hi)]
  exact fun _ _ _ h => h
 rw [show pdS n X Y x y r = rdS n X Y x y r from if_neg (by rw [← hz,hi]; decide)]
 have eI:nInt 1 = (4294967296,false):=by decide
 have eT:∀ i,nCl (nRat (dtW (mnW (X i) x) (mnW (Y i) y) (mnW (X i) (X (nxt n i))) (mnW (Y i) (Y (nxt n i)))) (dtW (mnW (X i) (X (nxt n i))) (mnW (Y i) (Y (nxt n i))) (mnW (X i) (X (nxt n i))) (mnW (Y i) (Y (nxt n i))))) (0,false) (4294967296,false) = rdT n X Y x y i:=fun i => rfl
 have eP:∀ i,vAdd (vLoc (X i) (Y i)) (vScale (vLoc (mnW (X i) (X (nxt n i))) (mnW (Y i) (Y (nxt n i)))) (rdT n X Y x y i)) = rdP n X Y x y i:=fun i => rfl
 have eM:∀ i,vSub (vLoc x y) (rdP n X Y x y i) = rdM n X Y x y i:=fun i => rfl
 have eL:∀ i,vLen (rdM n X Y x y i) = rdL n X Y x y i:=fun i => rfl
 refine rangeC_go (fun (j:Nat) => j ≤ n) (fun j => j) (rdRw n X Y x y r) [10,2,1,0] [29,30,8,9,31,32,33,10,34,35,36,37,38,39,40,41,42,43,44,45,46,11,47,48,49,50,51,52,53,54,12,55,56,57,13,58,59,14,60,61,62,63,64,65,66,67,68,69,71,72,70,73,74,15,16,75,76,77,78,79,80,81,82,83,84,85,86,87,88,89,90,91,92,93,94,95,96,97,98,99,100] 1 0 (N:=n) (sq:=edgeE n fun i => [i64 (X i),i64 (Y i)]) (ob:=[spots n fun i => [i64 (X i),i64 (Y i)],n ≤ 9223372036854775806]) rfl (owe2 hg (by omega)) (by kernel_rfl) rfl (fun i _ => ⟨rfl,rfl⟩) (Nat.zero_le _) rfl ⟨[],?_,?_,?_⟩ ?_ ?_
 ·simp only [go_sem,rdRw_0]
 ·simp only [go_sem]
 ·simp [goodNames,asg,rdRw]
 ·intro j hj hlt
  have hlt:j < n:=hlt
  have hxi:=hX j hlt
  cases j with
  | zero =>
   simp only [go_sem,c195,k117,k63,c196,c193,c194,k132,k127,k171,k169,k130,k172,k161,c51,k165,k173,k162,k160,k167,edgeE,rdRw_0,hxi,h1,h2,h3]
   simp only [forall_eq,mnW_eq,dtW_eq,eI,eT,eP,eM,eL,false_imp_iff,true_imp_iff,true_and]
   refine ⟨dtW_inR,dtW_inR,wrap_inR _,wrap_inR _,fun a b => ⟨a,b⟩,fun hv => ⟨vX 0 hlt,vX _ (nxt_lt hlt),1,by omega,rfl,[(16,some 104)],?_⟩,fun hv => ⟨1,by omega,rfl,[(16,some 100)],?_⟩⟩
   ·have eV:=rdV_n (n:=n) (X:=X) (Y:=Y) (x:=x) (y:=y) (i:=0) hv
    simp only [go_sem,rdRw_s,leI_0,eV]
    refine ⟨?_,by simp [goodNames,asg]⟩
    exact fun q hq => by
     have e:q = 0:=by omega
     subst e
     exact fitL_clean rfl
   ·have eV:=rdV_u (n:=n) (X:=X) (Y:=Y) (x:=x) (y:=y) (i:=0) hv
    simp only [go_sem,rdRw_s,leI_0,eV]
    refine ⟨?_,by simp [goodNames,asg]⟩
    exact fun q hq => by
     have e:q = 0:=by omega
     subst e
     exact fitL_clean rfl
  | succ j =>
   simp only [go_sem,c195,k117,k63,c196,c193,c194,k132,k127,k171,k169,k130,k172,k161,c51,k165,k173,k162,k160,k167,edgeE,rdRw_s,hxi,h1,h2,h3]
   simp only [forall_eq,mnW_eq,dtW_eq,eI,eT,eP,eM,eL,true_and]
   have hL:∀ i,inR (rdL n X Y x y i).1:=fun i => of_eq_true iHyp
   refine ⟨dtW_inR,dtW_inR,wrap_inR _,wrap_inR _,fun hc => ⟨j + 2,by omega,rfl,[(16,some 16)],?_⟩,fun hc => ⟨fun a b => ⟨a,b⟩,fun hv => ⟨vX _ hlt,vX _ (nxt_lt hlt),j + 2,by omega,rfl,[(16,some 104)],?_⟩,fun hv => ⟨j + 2,by omega,rfl,[(16,some 100)],?_⟩⟩⟩
   ·have eI2:leI (rdL n X Y x y) (j + 1) = leI (rdL n X Y x y) j:=if_neg (by omega)
    simp only [go_sem,rdRw_s,eI2]
    refine ⟨?_,by simp [goodNames,asg]⟩
    exact fun q hq => by
     have e:q = 0:=by omega
     subst e
     exact fitL_clean rfl
   ·have eI2:leI (rdL n X Y x y) (j + 1) = j + 1:=if_pos (by omega)
    have eV:=rdV_n (n:=n) (X:=X) (Y:=Y) (x:=x) (y:=y) (i:=j + 1) hv
    simp only [go_sem,rdRw_s,eI2,eV]
    refine ⟨?_,by simp [goodNames,asg]⟩
    exact fun q hq => by
     have e:q = 0:=by omega
     subst e
     exact fitL_clean rfl
   ·have eI2:leI (rdL n X Y x y) (j + 1) = j + 1:=if_pos (by omega)
    have eV:=rdV_u (n:=n) (X:=X) (Y:=Y) (x:=x) (y:=y) (i:=j + 1) hv
    simp only [go_sem,rdRw_s,eI2,eV]
    refine ⟨?_,by simp [goodNames,asg]⟩
    exact fun q hq => by
     have e:q = 0:=by omega
     subst e
     exact fitL_clean rfl
 ·intro j hj he
  have e:j = (n - 1) + 1:=by
   have:j = n:=he
   omega
  rw [e]
  simp only [go_sem,c195,k117,k63,c196,c193,c194,k132,k127,k171,k169,k130,k172,k161,c51,k165,k173,k162,k160,k167,rdRw_s]
  refine alk_mf rfl rfl fun q hq => ?_
  rfl
theorem con136:ConOK Tryz.prog 136 k61:=ConOK.goR (G:=[(195,c195),(202,k117),(125,k63),(196,c196),(193,c193),(194,c194),(52,k132),(103,k127),(102,k171),(44,k169),(43,k130),(114,k172),(175,k161),(51,c51),(172,k165),(203,k173),(201,k162),(111,k160),(200,k167),(1000000 + 257,c257)]) (H:=[(10,⟨[(14,.made 13)],[]⟩),(11,⟨[(9,.made 8)],[]⟩),(19,⟨[(11,.slot 6)],[]⟩)]) (.cons con195 (.cons con202 (.cons kon63 (.cons con196 (.cons con193 (.cons con194 (.cons kon132 (.cons kon127 (.cons kon171 (.cons kon169 (.cons kon130 (.cons kon172 (.cons kon161 (.cons con51 (.cons kon165 (.cons kon173 (.cons kon162 (.cons kon160 (.cons kon167 (.seq seq257 .nil)))))))))))))))))))) Tryz.func136 fun l ob rr hc hob => by
 unfold k61 at hc
 split at hc
 ·rename_i n g x y r
  cases hc
  have hs:spots n g:=hob _ (by simp)
  exact ⟨[.agg [.ro n 2 fun i => [i64 (gx g 0 i),i64 (gx g 1 i)]],.agg [i64 x,i64 y,i64 r]],fun w I vs h => Rs_two (Rs_poly hs) (fun v h => h) h,by kernel_rfl,vc136 n _ _ x y r (fun i hi => (hs i hi).2) (hob _ (by simp)) (hob _ (by simp)) (hob _ (by simp)) (hob _ (by simp)) (hob _ (by simp)) (hob _ (by simp)) (hob _ (by simp))⟩
 ·cases hc
end Go.Ax
end
section
/-
  Against which edge a polygon lies, by the program.
-/
set_option maxHeartbeats 4000000
set_option maxRecDepth 100000
namespace Go.Ax
open Go.Proofs
def k123:Con
 | [.agg [.ro n 2 g],.agg [.v (.int .i64 x),.v (.bool e),.v (.int .i64 y),.v (.bool f)]] => some ([spots n g,n ≤ 1000,0 < n,∀ i,i < n → validS (gx g 0 i) (gx g 1 i) = true,inR x,inR y],
   .tup [.agg [i64 (gx g 0 (leI (agK n (gx g 0) (gx g 1) ((x,e),(y,f))) (n - 1))),i64 (gx g 1 (leI (agK n (gx g 0) (gx g 1) ((x,e),(y,f))) (n - 1)))],.agg [i64 (gx g 0 (nxt n (leI (agK n (gx g 0) (gx g 1) ((x,e),(y,f))) (n - 1)))),i64 (gx g 1 (nxt n (leI (agK n (gx g 0) (gx g 1) ((x,e),(y,f))) (n - 1))))]])
 | _ => none
def agRw (n:Nat) (X Y:Nat → Int) (nv:V2):Nat → Mem
 | 0 => [(5,fam1 4 1 [bo true] none),(4,fam1 27 2 [i64 0,bo false] none),(3,fam1 116 2 [i64 0,i64 0] none),(2,fam1 116 2 [i64 0,i64 0] none)]
 | j + 1 => [(5,fam1 4 1 [bo false] none),(4,fam1 27 2 [i64 (agK n X Y nv (leI (agK n X Y nv) j)).1,bo (agK n X Y nv (leI (agK n X Y nv) j)).2] none),(3,fam1 116 2 [i64 (X (nxt n (leI (agK n X Y nv) j))),i64 (Y (nxt n (leI (agK n X Y nv) j)))] none),(2,fam1 116 2 [i64 (X (leI (agK n X Y nv) j)),i64 (Y (leI (agK n X Y nv) j))] none)]
section
variable {n j:Nat} {X Y:Nat → Int} {nv:V2}
theorem agRw_0:agRw n X Y nv 0 = [(5,fam1 4 1 [bo true] none),(4,fam1 27 2 [i64 0,bo false] none),(3,fam1 116 2 [i64 0,i64 0] none),(2,fam1 116 2 [i64 0,i64 0] none)]:=(rfl)
theorem agRw_s:agRw n X Y nv (j + 1) = [(5,fam1 4 1 [bo false] none),(4,fam1 27 2 [i64 (agK n X Y nv (leI (agK n X Y nv) j)).1,bo (agK n X Y nv (leI (agK n X Y nv) j)).2] none),(3,fam1 116 2 [i64 (X (nxt n (leI (agK n X Y nv) j))),i64 (Y (nxt n (leI (agK n X Y nv) j)))] none),(2,fam1 116 2 [i64 (X (leI (agK n X Y nv) j)),i64 (Y (leI (agK n X Y nv) j))] none)]:=(rfl)
end
theorem vc206 (n:Nat) (X Y:Nat → Int) (nv:V2) (hX:∀ i,i < n → inR (X i) ∧ inR (Y i)) (hn:n ≤ 1000) (n0:0 < n) (vX:∀ i,i < n → validS (X i) (Y i) = true) (h1:inR nv.1.1) (h2:inR nv.2.1) :
  fnVC Tryz.prog [(196,c196),(203,k173),(174,k178),(51,c51),(1000000 + 257,c257)] [(6,⟨[(6,.made 5)],[]⟩),(8,⟨[(3,.slot 4),(4,.slot 5),(5,.slot 6),(6,.slot 7)],[(1,[.slot 4]),(2,[.slot 4,.slot 5])]⟩),(9,⟨[(2,.slot 4),(3,.slot 5)],[(1,[.slot 4])]⟩)] Tryz.f206 [.agg [.ro n 2 fun i => [i64 (X i),i64 (Y i)]],.agg [i64 nv.1.1,bo nv.1.2,i64 nv.2.1,bo nv.2.2]] (· = .tup [.agg [i64 (X (leI (agK n X Y nv) (n - 1))),i64 (Y (leI (agK n X Y nv) (n - 1)))],.agg [i64 (X (nxt n (leI (agK n X Y nv) (n - 1)))),i64 (Y (nxt n (leI (agK n X Y nv) (n - 1))))]]):=by
 refine fnVC_go (rs:=[.cell 4 116,.cell 5 116]) rfl rfl ?_
 have hg:spots n fun i => [i64 (X i),i64 (Y i)]:=fun i hi => ⟨rfl,hX i hi⟩
 simp only [go_sem,c196,k173,k178,c51,gx_pts0,gx_pts1,hg,hn,n0,h1,h2]
 have eK:∀ j,vDot (vNorm (X j) (Y j) (X (nxt n j)) (Y (nxt n j))) nv = agK n X Y nv j:=fun j => rfl
 refine rangeC_go (fun (j:Nat) => j ≤ n) (fun j => j) (agRw n X Y nv) [1,0] [13,14,8,9,15,16,17,18,19,10,20,21,22,23,24,25,26,27,28,29] 0 0 (N:=n) (sq:=edgeE n fun i => [i64 (X i),i64 (Y i)]) (ob:=[spots n fun i => [i64 (X i),i64 (Y i)],n ≤ 9223372036854775806]) rfl (owe2 hg (by omega)) (by kernel_rfl) rfl (fun i _ => ⟨rfl,rfl⟩) (Nat.zero_le _) rfl ⟨[],?_,?_,?_⟩ ?_ ?_
 ·simp only [go_sem,agRw_0]
 ·simp only [go_sem]
 ·simp [goodNames,asg,agRw_0]
 ·intro j hj hlt
  have hlt:j < n:=hlt
  cases j with
  | zero =>
   simp only [go_sem,c196,k173,k178,c51,edgeE,agRw_0,h1,h2]
   simp only [forall_eq,eK,false_imp_iff,true_imp_iff,true_and]
   refine ⟨vX 0 hlt,vX _ (nxt_lt hlt),fun h => (by cases h),fun _ => ⟨1,by omega,rfl,[],?_⟩,fun h => (by cases h.1)⟩
   simp only [go_sem,agRw_s,leI_0]
   simp [goodNames,asg]
  | succ j =>
   simp only [go_sem,c196,k173,k178,c51,edgeE,agRw_s,h1,h2]
   simp only [forall_eq,eK,false_imp_iff,true_imp_iff,true_and]
   refine ⟨vX _ hlt,vX _ (nxt_lt hlt),fun h => ⟨j + 2,by omega,rfl,[],?_⟩,fun h => ⟨j + 2,by omega,rfl,[],?_⟩⟩
   ·have eI2:leI (agK n X Y nv) (j + 1) = j + 1:=if_pos (h.resolve_left id)
    simp only [go_sem,agRw_s,eI2]
    simp [goodNames,asg]
   ·have eI2:leI (agK n X Y nv) (j + 1) = leI (agK n X Y nv) j:=if_neg h
    simp only [go_sem,agRw_s,eI2]
    simp [goodNames,asg]
 ·intro j hj he
  have e:j = (n - 1) + 1:=by
   have:j = n:=he
   omega
  rw [e]
  simp only [go_sem,c196,k173,k178,c51,agRw_s]
theorem con206:ConOK Tryz.prog 206 k123:=ConOK.go (G:=[(196,c196),(203,k173),(174,k178),(51,c51),(1000000 + 257,c257)]) (H:=[(6,⟨[(6,.made 5)],[]⟩),(8,⟨[(3,.slot 4),(4,.slot 5),(5,.slot 6),(6,.slot 7)],[(1,[.slot 4]),(2,[.slot 4,.slot 5])]⟩),(9,⟨[(2,.slot 4),(3,.slot 5)],[(1,[.slot 4])]⟩)]) (.cons con196 (.cons kon173 (.cons kon178 (.cons con51 (.seq seq257 .nil))))) Tryz.func206 fun l ob rr hc hob => by
 unfold k123 at hc
 split at hc
 ·rename_i n g x e y f
  cases hc
  have hs:spots n g:=hob _ (by simp)
  exact ⟨[.agg [.ro n 2 fun i => [i64 (gx g 0 i),i64 (gx g 1 i)]],.agg [i64 x,bo e,i64 y,bo f]],fun w I vs h => Rs_two (Rs_poly hs) (fun v h => h) h,by kernel_rfl,vc206 n _ _ ((x,e),(y,f)) (fun i hi => (hs i hi).2) (hob _ (by simp)) (hob _ (by simp)) (hob _ (by simp)) (hob _ (by simp)) (hob _ (by simp))⟩
 ·cases hc
end Go.Ax
end
section
/-
  An element of an array's value.
-/
set_option maxHeartbeats 4000000
set_option maxRecDepth 100000
namespace Go.Ax
open Go.Proofs
section
variable {P:Program} {G:Ctx} {key:Nat} {d:Option Tmp} {q ty:TypeId} {pos:String} {af:Array Edge} {gd:Option (Nat × Bool)} {g:Option Bool} {ρ0:Operand → AV} {m:Mem}
def idzE (P:Program) (q:TypeId) (a b:AV):Option Eff:=match flat a with
 | some x => match flat b with
  | some y => match pureRun P (Instr.index q x y) with
   | some v => some ⟨[],ofVal v,.none⟩
   | none => none
  | none => none
 | none => none
theorem aStep_idz {x i:Operand}:aStep P G key g ⟨d,.index q x i,ty,pos,af,gd⟩ ρ0 m = idzE P q (strip (ρ0 x)) (strip (ρ0 i)):=by
 show effOf (aPure P (fun x => strip (ρ0 x)) ⟨d,.index q x i,ty,pos,af,gd⟩) = _
 unfold aPure idzE
 dsimp only [Op.operands,List.map,flatAll]
 cases hx:flat (strip (ρ0 x)) with
 | none => rfl
 | some vx =>
  dsimp only
  cases hi:flat (strip (ρ0 i)) with
  | none => rfl
  | some vi =>
   dsimp only
   have:execOp (fun x => (flat (strip (ρ0 x))).getD undef) ⟨d,.index q x i,ty,pos,af,gd⟩ = Sem.bind (Instr.index q vx vi) fun v => Sem.pure (Next.value v):=by
    show Sem.bind (Instr.index q ((flat (strip (ρ0 x))).getD undef) ((flat (strip (ρ0 i))).getD undef)) (fun v => Sem.pure (Next.value v)) = _
    rw [hx,hi]; rfl
   rw [this,pureRun_bind]
   cases pureRun P (Instr.index q vx vi) <;> rfl
end
attribute [go_sem] aStep_idz
end Go.Ax
end
section
/-
  How two polygons touch, by the program.
-/
set_option maxHeartbeats 4000000
set_option maxRecDepth 100000
namespace Go.Ax
open Go.Proofs
theorem idx168_0 {a b c d:Int} {e f g h:Bool}:idzE Tryz.prog 253 (.agg [i64 a,bo e,i64 b,bo f,i64 c,bo g,i64 d,bo h]) (.v (.int .i64 0)) = some ⟨[],.agg [i64 a,bo e,i64 b,bo f],.none⟩:=by kernel_rfl
theorem idx168_1 {a b c d:Int} {e f g h:Bool}:idzE Tryz.prog 253 (.agg [i64 a,bo e,i64 b,bo f,i64 c,bo g,i64 d,bo h]) (.v (.int .i64 1)) = some ⟨[],.agg [i64 c,bo g,i64 d,bo h],.none⟩:=by kernel_rfl
attribute [go_sem] idx168_0 idx168_1
def clpQ (r:Nat) (fam:Fam) (pre:List Prop) (s:V2 × V2):Option Eff:=some ⟨pre,.tup [],.many [(r,wb1 fam (sgC s.1 s.2))] none⟩
def clpE (r:Nat) (fam:Fam):Option (List Prop × AV × List AV) → Option Eff
 | some (ob,val,cs) => some ⟨((fam 0).n = 1) :: (8 = (fam 0).sz) :: (cleanCs ((fam 0).get 0) = true) :: famOK r fam :: ob,val,.many [(r,wb1 fam cs)] none⟩
 | none => none
def clpB (r:Nat):Option Fam → List AV → Option Eff
 | some fam,rest => clpE r fam (clpG ((fam 0).get 0) rest)
 | none,_ => none
theorem mClp_bx {key:Nat} {m:Mem} {r:Nat} {rest:List AV}:mClp key m (.bx r 0 :: rest) = clpB r (look m r) rest:=by
 show (match look m r with
  | some fam => (match clpG ((fam 0).get 0) rest with
   | some (ob,val,cs) => some (⟨((fam 0).n = 1) :: (8 = (fam 0).sz) :: (cleanCs ((fam 0).get 0) = true) :: famOK r fam :: ob,val,.many [(r,wb1 fam cs)] none⟩:Eff)
   | none => none)
  | none => none) = _
 generalize look m r = x
 cases x with
 | none => rfl
 | some fam =>
  unfold clpB
  dsimp only
  generalize clpG ((fam 0).get 0) rest = y
  cases y <;> rfl
section
variable {P:Program} {G:Ctx} {H:Hots} {K0:AEx → St → Prop} {hot:Option Hot} {ops:Array Oper} {d:Option Tmp} {rest:List Oper} {i:Nat} {st:List Fr} {t:Slots} {m:Mem} {nx r:Nat} {fam:Fam} {o pre ob:List Prop} {s:V2 × V2}
theorem stepC_clpQ:stepC P G H K0 hot ops d rest i st t m nx (withOb o (bndE (aMut none (clpQ r fam pre s)))) = (∀ s',s' = s → stepC P G H K0 hot ops d rest i st t m nx (withOb o (some ⟨pre,.tup [],.many [(r,wb1 fam (sgC s'.1 s'.2))] none⟩))):=by
 rw [bndE_eq]
 apply propext
 constructor
 ·rintro h b' rfl; exact h
 ·intro h; exact h s rfl
end
theorem clpB_eq {r:Nat} {T:TypeId} {x y a b i j:Int} {e f g h k l:Bool}:clpB r (some (fam1 T 8 [i64 x,bo e,i64 y,bo f,i64 a,bo g,i64 b,bo h] none)) [.agg [i64 i,bo k],.agg [i64 j,bo l]] = clpQ r (fam1 T 8 [i64 x,bo e,i64 y,bo f,i64 a,bo g,i64 b,bo h] none) [(1:Nat) = 1,8 = 8,True,famOK r (fam1 T 8 [i64 x,bo e,i64 y,bo f,i64 a,bo g,i64 b,bo h] none),inR x,inR y,inR a,inR b,inR i,inR j] (clpX ((x,e),(y,f)) ((a,g),(b,h)) (i,k) (j,l),clpY ((x,e),(y,f)) ((a,g),(b,h)) (i,k) (j,l)):=by
 have h1:cleanCs [i64 x,bo e,i64 y,bo f,i64 a,bo g,i64 b,bo h] = true:=rfl
 have h2:(cleanCs [i64 x,bo e,i64 y,bo f,i64 a,bo g,i64 b,bo h] = true) = True:=eq_true h1
 have e:clpB r (some (fam1 T 8 [i64 x,bo e,i64 y,bo f,i64 a,bo g,i64 b,bo h] none)) [.agg [i64 i,bo k],.agg [i64 j,bo l]] = clpQ r (fam1 T 8 [i64 x,bo e,i64 y,bo f,i64 a,bo g,i64 b,bo h] none) [(1:Nat) = 1,8 = 8,cleanCs [i64 x,bo e,i64 y,bo f,i64 a,bo g,i64 b,bo h] = true,famOK r (fam1 T 8 [i64 x,bo e,i64 y,bo f,i64 a,bo g,i64 b,bo h] none),inR x,inR y,inR a,inR b,inR i,inR j] (clpX ((x,e),(y,f)) ((a,g),(b,h)) (i,k) (j,l),clpY ((x,e),(y,f)) ((a,g),(b,h)) (i,k) (j,l)):=rfl
 rw [e,h2]
attribute [go_sem] mClp_bx stepC_clpQ clpB_eq wb1_1
def flRw (nv p a b:V2):Nat → Mem
 | 0 => [(81,fam1 52 5 [i64 nv.1.1,bo nv.1.2,i64 nv.2.1,bo nv.2.2,.v (.slice none 0 0)] none)]
 | k + 1 => [(81,fam1 52 5 [i64 nv.1.1,bo nv.1.2,i64 nv.2.1,bo nv.2.2,.own 89 0 (k + 1) 6] none),(89,famN (k + 1) 6 87 (tchs (tcP nv p a b) (tcD nv a b)) none)]
section
variable {nv p a b:V2}
theorem flRw_0:flRw nv p a b 0 = [(81,fam1 52 5 [i64 nv.1.1,bo nv.1.2,i64 nv.2.1,bo nv.2.2,.v (.slice none 0 0)] none)]:=(rfl)
theorem flRw_1:flRw nv p a b 1 = [(81,fam1 52 5 [i64 nv.1.1,bo nv.1.2,i64 nv.2.1,bo nv.2.2,.own 89 0 1 6] none),(89,famN 1 6 87 (tchs (tcP nv p a b) (tcD nv a b)) none)]:=(rfl)
theorem flRw_2:flRw nv p a b 2 = [(81,fam1 52 5 [i64 nv.1.1,bo nv.1.2,i64 nv.2.1,bo nv.2.2,.own 89 0 2 6] none),(89,famN 2 6 87 (tchs (tcP nv p a b) (tcD nv a b)) none)]:=(rfl)
end
theorem tch_a {nv p a b:V2} (ha:(vDot nv a).1 ≤ 0):tchs (tcP nv p a b) (tcD nv a b) 0 = [i64 (vAdd p a).1.1,bo (vAdd p a).1.2,i64 (vAdd p a).2.1,bo (vAdd p a).2.2,i64 (nNeg (vDot nv a)).1,bo (nNeg (vDot nv a)).2]:=by
 rw [tchs_at]
 unfold tchC tcP tcD
 rw [if_pos ⟨ha,rfl⟩,if_pos ⟨ha,rfl⟩]
theorem tch_b {nv p a b:V2} {q:Nat} (h:¬ ((vDot nv a).1 ≤ 0 ∧ q = 0)):tchs (tcP nv p a b) (tcD nv a b) q = [i64 (vAdd p b).1.1,bo (vAdd p b).1.2,i64 (vAdd p b).2.1,bo (vAdd p b).2.2,i64 (nNeg (vDot nv b)).1,bo (nNeg (vDot nv b)).2]:=by
 rw [tchs_at]
 unfold tchC tcP tcD
 rw [if_neg h,if_neg h]
theorem vc138 (n:Nat) (X Y:Nat → Int) (m:Nat) (Z T:Nat → Int) (i:Nat) (hX:∀ i,i < n → inR (X i) ∧ inR (Y i)) (hZ:∀ i,i < m → inR (Z i) ∧ inR (T i)) (hi:i < n) (hn:n ≤ 1000) (hm:m ≤ 1000) (m0:0 < m) (vX:∀ i,i < n → validS (X i) (Y i) = true) (vZ:∀ i,i < m → validS (Z i) (T i) = true) :
  fnVC Tryz.prog [(205,k122),(203,k173),(206,k123),(193,c193),(207,k176),(172,k165),(125,k63),(175,k161),(174,k178),(208,.wr mClp),(111,k160),(43,k130),(112,k179),(209,k180),(51,c51),(200,k167)] [(6,⟨[(10,.made 9)],[]⟩),(7,⟨[(8,.call)],[]⟩),(8,⟨[(12,.call)],[]⟩),(15,⟨[(13,.slot 16)],[]⟩),(19,⟨[(13,.made 11),(14,.made 12)],[]⟩),(25,⟨[(2,.slot 20),(3,.slot 21)],[(1,[.slot 20])]⟩),(27,⟨[(8,.slot 16)],[]⟩)] Tryz.f138 [.agg [.ro n 2 fun i => [i64 (X i),i64 (Y i)]],.agg [.ro m 2 fun i => [i64 (Z i),i64 (T i)]],i64 (i:Int)] (alk (mfA (flS n X Y m Z T i))):=by
 refine fnVC_go (rs:=[.cell 6 52]) rfl rfl ?_
 have hg:spots n fun i => [i64 (X i),i64 (Y i)]:=fun i hi => ⟨rfl,hX i hi⟩
 have hg':spots m fun i => [i64 (Z i),i64 (T i)]:=fun i hi => ⟨rfl,hZ i hi⟩
 have hil:=nxt_lt hi
 simp only [go_sem,k122,k173,k123,c193,k176,k165,k63,k161,k178,k160,k130,k179,k180,c51,k167,sgC,gx_pts0,gx_pts1,hg,hg',hn,hm,m0,Int.toNat_natCast,vX i hi,vX _ hil]
 have eN:vNorm (X i) (Y i) (X (nxt n i)) (Y (nxt n i)) = edN n X Y i:=rfl
 have eJ:leI (agK m Z T (edN n X Y i)) (m - 1) = flJ n X Y m Z T i:=rfl
 have hJ:flJ n X Y m Z T i < m:=by
  have:=leI_lt (h:=agK m Z T (edN n X Y i)) (m - 1)
  unfold flJ
  omega
 have hJn:=nxt_lt hJ
 have hxi:=hX i hi
 have hxn:=hX _ hil
 have hzj:=hZ _ hJ
 have hzn:=hZ _ hJn
 have eT:(vUnit (vOf (mnW (X i) (X (nxt n i))) (mnW (Y i) (Y (nxt n i))))).2 = flT n X Y i:=rfl
 have eE:vLen (vLoc (mnW (X i) (X (nxt n i))) (mnW (Y i) (Y (nxt n i)))) = flE n X Y i:=rfl
 simp only [eN,eJ]
 generalize hJq:flJ n X Y m Z T i = J at *
 have e0:vLoc (mnW (X i) (Z J)) (mnW (Y i) (T J)) = fx0 X Y Z T i J:=rfl
 have e1:vLoc (mnW (X i) (Z (nxt m J))) (mnW (Y i) (T (nxt m J))) = fx0 X Y Z T i (nxt m J):=rfl
 have i1:∀ j,inR (fx0 X Y Z T i j).1.1:=fun j => of_eq_true iLoc1
 have i2:∀ j,inR (fx0 X Y Z T i j).2.1:=fun j => of_eq_true iLoc2
 have c1:clpX (fx0 X Y Z T i J) (fx0 X Y Z T i (nxt m J)) (vDot (flT n X Y i) (fx0 X Y Z T i J)) (vDot (flT n X Y i) (fx0 X Y Z T i (nxt m J))) = cl1X (flT n X Y i) (fx0 X Y Z T i J) (fx0 X Y Z T i (nxt m J)):=rfl
 have c2:clpY (fx0 X Y Z T i J) (fx0 X Y Z T i (nxt m J)) (vDot (flT n X Y i) (fx0 X Y Z T i J)) (vDot (flT n X Y i) (fx0 X Y Z T i (nxt m J))) = cl1Y (flT n X Y i) (fx0 X Y Z T i J) (fx0 X Y Z T i (nxt m J)):=rfl
 have c3:clpX (cl1X (flT n X Y i) (fx0 X Y Z T i J) (fx0 X Y Z T i (nxt m J))) (cl1Y (flT n X Y i) (fx0 X Y Z T i J) (fx0 X Y Z T i (nxt m J))) (nSub (flE n X Y i) (vDot (flT n X Y i) (cl1X (flT n X Y i) (fx0 X Y Z T i J) (fx0 X Y Z T i (nxt m J))))) (nSub (flE n X Y i) (vDot (flT n X Y i) (cl1Y (flT n X Y i) (fx0 X Y Z T i J) (fx0 X Y Z T i (nxt m J))))) = flA n X Y m Z T i J:=rfl
 have c4:clpY (cl1X (flT n X Y i) (fx0 X Y Z T i J) (fx0 X Y Z T i (nxt m J))) (cl1Y (flT n X Y i) (fx0 X Y Z T i J) (fx0 X Y Z T i (nxt m J))) (nSub (flE n X Y i) (vDot (flT n X Y i) (cl1X (flT n X Y i) (fx0 X Y Z T i J) (fx0 X Y Z T i (nxt m J))))) (nSub (flE n X Y i) (vDot (flT n X Y i) (cl1Y (flT n X Y i) (fx0 X Y Z T i J) (fx0 X Y Z T i (nxt m J))))) = flB n X Y m Z T i J:=rfl
 simp only [forall_eq,mnW_eq,eT,eE,e0,e1,c1,c2,c3,c4]
 have iA:inR (flA n X Y m Z T i J).1.1 ∧ inR (flA n X Y m Z T i J).2.1:=⟨clpX_in1 (clpX_in1 (i1 _)),clpX_in2 (clpX_in2 (i2 _))⟩
 have iB:inR (flB n X Y m Z T i J).1.1 ∧ inR (flB n X Y m Z T i J).2.1:=⟨clpY_in1 (clpY_in1 (i1 _)),clpY_in2 (clpY_in2 (i2 _))⟩
 have iw:∀ a b,inR (mnW a b):=fun a b => wrap_inR _
 refine ⟨by omega,by omega,by omega,vZ,iw _ _,iw _ _,iw _ _,iw _ _,iw _ _,iw _ _,iw _ _,iw _ _,clpX_in1 (i1 _),clpX_in2 (i2 _),clpY_in1 (i1 _),clpY_in2 (i2 _),clpX_in1 (i1 _),clpX_in2 (i2 _),clpY_in1 (i1 _),clpY_in2 (i2 _),?_⟩
 have hS:flS n X Y m Z T i = flK (edN n X Y i) (vLoc (X i) (Y i)) (flA n X Y m Z T i J) (flB n X Y m Z T i J) (vLoc (Z (flW n X Y m Z T i)) (T (flW n X Y m Z T i))) (nPos (nNeg (edH n X Y Z T i (flW n X Y m Z T i)))):=by unfold flS; rw [hJq]
 rw [hS]
 generalize flA n X Y m Z T i J = a at *
 generalize flB n X Y m Z T i J = b at *
 have iN:inR (edN n X Y i).1.1 ∧ inR (edN n X Y i).2.1:=⟨of_eq_true iNorm1,of_eq_true iNorm2⟩
 generalize hnv:edN n X Y i = nv at *
 have b71:bytesT Tryz.prog 87 = 48:=byt87
 refine loopN_go (fun (s:Nat) => s ≤ 2) (fun s => 2 - s) (fun s => [(91,i64 (s:Int))]) (fun s => flRw nv (vLoc (X i) (Y i)) a b (tcN nv a b s)) [55,44,36,25,24,16,10,9,2,1,0] [92,93,18,94,95,96,19,97,98,99,100,101,102,103,104,105,106,107,108,109,110,111,112,113,91] 1 0 (by kernel_rfl) (Nat.zero_le _) ⟨[],?_,?_,?_,?_⟩ ?_
 ·simp only [go_sem]
 ·simp only [go_sem,tcN_0,flRw_0]
 ·simp only [go_sem]
 ·simp [goodNames,asg,tcN_0,flRw_0]
 intro s hs
 match s with
 | 0 =>
  rw [tcN_0]
  simp only [go_sem,k122,k173,k123,c193,k176,k165,k63,k161,k178,k160,k130,k179,k180,c51,k167,sgC,gx_pts0,gx_pts1,hg,hg',hn,hm,hxi,iA,iB,iN,b71,flRw_0]
  simp only [Int.reduceBEq,Bool.false_eq_true,false_imp_iff,true_imp_iff,true_and,and_true,reduceCtorEq]
  refine ⟨fun ha z hz => ⟨1,by omega,by omega,[(89,some 113)],?_⟩,fun ha z hz => ⟨1,by omega,by omega,[],?_⟩⟩
  ·rw [tcN_1,if_pos ha]
   simp only [go_sem,flRw_1]
   refine ⟨by rw [hz]; decide,fun q hq => ?_,by simp [goodNames,asg]⟩
   have e:q = 0:=by omega
   subst e
   rw [tch_a (b:=b) ha]
   exact fitL_clean rfl
  ·rw [tcN_1,if_neg ha]
   simp only [go_sem,flRw_0]
   exact ⟨by rw [hz]; decide,by simp [goodNames,asg]⟩
 | 1 =>
  by_cases ha:(vDot nv a).1 ≤ 0
  ·rw [tcN_1,if_pos ha]
   simp only [go_sem,k122,k173,k123,c193,k176,k165,k63,k161,k178,k160,k130,k179,k180,c51,k167,sgC,gx_pts0,gx_pts1,hg,hg',hn,hm,hxi,iA,iB,iN,b71,flRw_1]
   simp only [Int.reduceBEq,Bool.false_eq_true,false_imp_iff,true_imp_iff,true_and,and_true,reduceCtorEq]
   refine ⟨fun hb z hz => ⟨2,by omega,by omega,[(89,some 113)],?_⟩,fun hb z hz => ⟨2,by omega,by omega,[(89,some 89)],?_⟩⟩
   ·rw [tcN_2,tcN_1,if_pos ha,if_pos hb]
    simp only [go_sem,flRw_2]
    refine ⟨by rw [hz]; decide,fun q hq => ?_,by simp [goodNames,asg]⟩
    by_cases e:q = 0
    ·subst e
     rw [if_pos (by omega)]
     exact fitL_clean rfl
    ·have e:q = 1:=by omega
     subst e
     rw [if_neg (by omega),tch_b (fun u => by have:=u.2; omega)]
     exact fitL_clean rfl
   ·rw [tcN_2,tcN_1,if_pos ha,if_neg hb]
    simp only [go_sem,flRw_1]
    exact ⟨by rw [hz]; decide,fun q hq => fitL_clean rfl,by simp [goodNames,asg]⟩
  ·rw [tcN_1,if_neg ha]
   simp only [go_sem,k122,k173,k123,c193,k176,k165,k63,k161,k178,k160,k130,k179,k180,c51,k167,sgC,gx_pts0,gx_pts1,hg,hg',hn,hm,hxi,iA,iB,iN,b71,flRw_0]
   simp only [Int.reduceBEq,Bool.false_eq_true,false_imp_iff,true_imp_iff,true_and,and_true,reduceCtorEq]
   refine ⟨fun hb z hz => ⟨2,by omega,by omega,[(89,some 113)],?_⟩,fun hb z hz => ⟨2,by omega,by omega,[],?_⟩⟩
   ·rw [tcN_2,tcN_1,if_neg ha,if_pos hb]
    simp only [go_sem,flRw_1]
    refine ⟨by rw [hz]; decide,fun q hq => ?_,by simp [goodNames,asg]⟩
    have e:q = 0:=by omega
    subst e
    rw [tch_b (fun u => ha u.1)]
    exact fitL_clean rfl
   ·rw [tcN_2,tcN_1,if_neg ha,if_neg hb]
    simp only [go_sem,flRw_0]
    exact ⟨by rw [hz]; decide,by simp [goodNames,asg]⟩
 | 2 =>
  by_cases h0:tcN nv a b 2 = 0
  ·rw [h0]
   simp only [go_sem,k122,k173,k123,c193,k176,k165,k63,k161,k178,k160,k130,k179,k180,c51,k167,sgC,gx_pts0,gx_pts1,hg,hg',hn,hm,hxi,iA,iB,iN,b71,flRw_0,Option.toList_some,Option.toList_none,List.nil_append,List.cons_append,List.append_nil]
   have hno:¬ 0 < tcN nv a b 2:=by omega
   rw [flK_no hno]
   refine ⟨fun h => h.elim,fun _ => ⟨fun h => (by cases h),fun _ => ?_⟩⟩
   have e00:vDot nv (vLoc (mnW (X i) (Z 0)) (mnW (Y i) (T 0))) = edH n X Y Z T i 0:=by
    rw [← hnv]
    rfl
   have em:((m:Int) - 1).toNat = m - 1:=by omega
   rw [e00,em]
   refine ⟨by omega,by omega,by omega,?_⟩
   refine loopC_go (fun (j:Nat) => j ≤ m - 1) (fun j => m - 1 - j) (fun j => [(133,i64 (j:Int))])
    (fun j => [(106,fam1 27 2 [i64 (edH n X Y Z T i (leI (edH n X Y Z T i) j)).1,bo (edH n X Y Z T i (leI (edH n X Y Z T i) j)).2] none),(105,fam1 116 2 [i64 (Z (leI (edH n X Y Z T i) j)),i64 (T (leI (edH n X Y Z T i) j))] none)]) [81,55,44,36,25,24,16,10,9,2,1,0] [134,135,136,23,137,138,139,140,24,141,142,143,144,145,146,147,133] 0 (by kernel_rfl) ?_ (Nat.zero_le _) ?_ ?_
   ·intro j _; simp [goodNames,asg]
   ·simp only [go_sem,leI_0]
    repeat' (first | rfl | apply And.intro)
   intro l hl
   simp only [go_sem,k122,k173,k123,c193,k176,k165,k63,k161,k178,k160,k130,k179,k180,c51,k167,gx_pts0,gx_pts1,hg,hg',hn,hm,hxi,iA,iB,iN,b71]
   have eH:∀ q,vDot nv (vLoc (mnW (X i) (Z q)) (mnW (Y i) (T q))) = edH n X Y Z T i q:=fun q => by
    rw [← hnv]
    rfl
   simp only [forall_eq,mnW_eq,eH]
   refine ⟨fun hin => ⟨by omega,hin,fun hc => ⟨l + 1,by omega,by omega,by rw [wrap_in (by unfold inR; omega)]; rfl,?_⟩,fun hc => ⟨l + 1,by omega,by omega,by rw [wrap_in (by unfold inR; omega)]; rfl,?_⟩⟩,fun hin => ?_⟩
   ·have e2:leI (edH n X Y Z T i) (l + 1) = 1 + l:=(if_pos (by rw [Nat.add_comm] at hc; exact hc)).trans (Nat.add_comm _ _)
    rw [e2]
    exact ⟨⟨rfl,rfl⟩,rfl,rfl⟩
   ·have e2:leI (edH n X Y Z T i) (l + 1) = leI (edH n X Y Z T i) l:=if_neg (by rw [Nat.add_comm] at hc; exact hc)
    rw [e2]
    exact ⟨⟨rfl,rfl⟩,rfl,rfl⟩
   ·have e2:l = m - 1:=by omega
    subst e2
    have hW:leI (edH n X Y Z T i) (m - 1) < m:=by
     have:=leI_lt (h:=edH n X Y Z T i) (m - 1)
     omega
    have hzw:=hZ _ hW
    have hr:inR (edH n X Y Z T i (leI (edH n X Y Z T i) (m - 1))).1:=rg_inR hgt_rg
    exact ⟨hzw.1,hzw.2,hr,of_eq_true (iNeg hr),alk_one rfl⟩
  ·rcases (show tcN nv a b 2 = 1 ∨ tcN nv a b 2 = 2 by rw [tcN_2,tcN_1] at h0 ⊢; split at h0 <;> split at h0 <;> simp_all) with h1 | h1
   ·rw [h1]
    simp only [go_sem,k122,k173,k123,c193,k176,k165,k63,k161,k178,k160,k130,k179,k180,c51,k167,sgC,gx_pts0,gx_pts1,hg,hg',hn,hm,hxi,iA,iB,iN,b71,flRw_1]
    refine ⟨fun h => h.elim,fun _ => ⟨fun _ => ?_,fun h => (by cases h)⟩⟩
    obtain ⟨k1,k2,k3⟩:=flK_tc (p:=vLoc (X i) (Y i)) (q:=vLoc (Z (flW n X Y m Z T i)) (T (flW n X Y m Z T i))) (d:=nPos (nNeg (edH n X Y Z T i (flW n X Y m Z T i)))) (show 0 < tcN nv a b 2 by omega)
    rw [h1] at k2 k3
    refine alk_mf k1 k2 fun q hq => ?_
    rw [(k3 q hq).1,(k3 q hq).2]
    rfl
   ·rw [h1]
    simp only [go_sem,k122,k173,k123,c193,k176,k165,k63,k161,k178,k160,k130,k179,k180,c51,k167,sgC,gx_pts0,gx_pts1,hg,hg',hn,hm,hxi,iA,iB,iN,b71,flRw_2]
    refine ⟨fun h => h.elim,fun _ => ⟨fun _ => ?_,fun h => (by cases h)⟩⟩
    obtain ⟨k1,k2,k3⟩:=flK_tc (p:=vLoc (X i) (Y i)) (q:=vLoc (Z (flW n X Y m Z T i)) (T (flW n X Y m Z T i))) (d:=nPos (nNeg (edH n X Y Z T i (flW n X Y m Z T i)))) (show 0 < tcN nv a b 2 by omega)
    rw [h1] at k2 k3
    refine alk_mf k1 k2 fun q hq => ?_
    rw [(k3 q hq).1,(k3 q hq).2]
    rfl
 | q + 3 => omega
def k63f:Con
 | [.agg [.ro n 2 g],.agg [.ro m 2 g'],.v (.int .i64 i)] => some ([spots n g,spots m g',0 ≤ i,i < n,n ≤ 1000,m ≤ 1000,0 < m,∀ i,i < n → validS (gx g 0 i) (gx g 1 i) = true,∀ i,i < m → validS (gx g' 0 i) (gx g' 1 i) = true],mfA (flS n (gx g 0) (gx g 1) m (gx g' 0) (gx g' 1) i.toNat))
 | _ => none
theorem con138:ConOK Tryz.prog 138 k63f:=ConOK.goR (G:=[(205,k122),(203,k173),(206,k123),(193,c193),(207,k176),(172,k165),(125,k63),(175,k161),(174,k178),(208,.wr mClp),(111,k160),(43,k130),(112,k179),(209,k180),(51,c51),(200,k167)]) (H:=[(6,⟨[(10,.made 9)],[]⟩),(7,⟨[(8,.call)],[]⟩),(8,⟨[(12,.call)],[]⟩),(15,⟨[(13,.slot 16)],[]⟩),(19,⟨[(13,.made 11),(14,.made 12)],[]⟩),(25,⟨[(2,.slot 20),(3,.slot 21)],[(1,[.slot 20])]⟩),(27,⟨[(8,.slot 16)],[]⟩)]) (.cons kon122 (.cons kon173 (.cons con206 (.cons con193 (.cons kon176 (.cons kon165 (.cons kon63 (.cons kon161 (.cons kon178 (.mcons con208m (.cons kon160 (.cons kon130 (.cons kon179 (.cons kon180 (.cons con51 (.cons kon167 .nil)))))))))))))))) Tryz.func138 fun l ob rr hc hob => by
 unfold k63f at hc
 split at hc
 ·rename_i n g m g' i
  cases hc
  have hs:spots n g:=hob _ (by simp)
  have hs':spots m g':=hob _ (by simp)
  have i0:0 ≤ i:=hob _ (by simp)
  have i1:i < n:=hob _ (by simp)
  have e:i = (i.toNat:Int):=by omega
  refine ⟨[.agg [.ro n 2 fun i => [i64 (gx g 0 i),i64 (gx g 1 i)]],.agg [.ro m 2 fun i => [i64 (gx g' 0 i),i64 (gx g' 1 i)]],i64 (i.toNat:Int)],fun w I vs h => ?_,by kernel_rfl,vc138 n _ _ m _ _ i.toNat (fun i hi => (hs i hi).2) (fun i hi => (hs' i hi).2) (by omega) (hob _ (by simp)) (hob _ (by simp)) (hob _ (by simp)) (hob _ (by simp)) (hob _ (by simp))⟩
  rw [← e]
  obtain ⟨x1,xs,rfl,p1,p2⟩:=h.inv
  obtain ⟨x2,ys,rfl,p3,p4⟩:=p2.inv
  exact .cons (Rs_poly hs _ p1) (.cons (Rs_poly hs' _ p3) p4)
 ·cases hc
end Go.Ax
end
section
/-
  How two forms touch, by the program.
-/
set_option maxHeartbeats 4000000
set_option maxRecDepth 100000
namespace Go.Ax
open Go.Proofs
theorem vc71 (k x y r:Int) (n:Nat) (g:Nat → List AV) (k' x' y' r':Int) (m:Nat) (g':Nat → List AV) (hg:spots n g) (hg':spots m g') (hn:n ≤ 9223372036854775806) (hm:m ≤ 9223372036854775806) (h1:inR x) (h2:inR y) (h3:inR r) (h4:inR x') (h5:inR y') (h6:inR r') :
  fnVC Tryz.prog [(132,c132),(133,c133),(134,k59),(136,k61),(135,kbak),(137,k94),(138,k63f)] [(9,⟨[(5,.slot 4)],[]⟩),(11,⟨[(4,.slot 4)],[]⟩),(12,⟨[(6,.made 4),(7,.made 5)],[]⟩)] Tryz.f71 [formA k x y r n g,formA k' x' y' r' m g'] (alk (clipA k x y r n (gx g 0) (gx g 1) k' x' y' r' m (gx g' 0) (gx g' 1))):=by
 refine fnVC_go (rs:=[.cell 4 52,.tmp 5]) rfl rfl ?_
 have h0:¬ (checkS k x y r n (gx g 0) (gx g 1) = 0 ∧ checkS k' x' y' r' m (gx g' 0) (gx g' 1) = 0 ∧ apS k x y r n (gx g 0) (gx g 1) k' x' y' r' m (gx g' 0) (gx g' 1) = false) → alk (clipA k x y r n (gx g 0) (gx g 1) k' x' y' r' m (gx g' 0) (gx g' 1)) (.tup [.agg [i64 0,bo false,i64 0,bo false,.v (.slice none 0 0)],bo false]):=fun h => by
  unfold clipA
  rw [show clipS k x y r n (gx g 0) (gx g 1) k' x' y' r' m (gx g' 0) (gx g' 1) = mf0 from if_neg h,show clipB k x y r n (gx g 0) (gx g 1) k' x' y' r' m (gx g' 0) (gx g' 1) = false from decide_eq_false h]
  exact alk_form alk_nil6
 obtain ⟨U,hU⟩:∃ U,clipA k x y r n (gx g 0) (gx g 1) k' x' y' r' m (gx g' 0) (gx g' 1) = U:=⟨_,rfl⟩
 rw [hU] at h0 ⊢
 by_cases hA:checkS k x y r n (gx g 0) (gx g 1) = 0
 ·by_cases hB:checkS k' x' y' r' m (gx g' 0) (gx g' 1) = 0
  ·by_cases hk:k = 1
   ·by_cases hk':k' = 1
    ·have eb:bothS k x y r n g k' x' y' r' m g' = .tup [.iface 197 (.agg [i64 x,i64 y,i64 r]),.iface 197 (.agg [i64 x',i64 y',i64 r']),bo true]:=by unfold bothS; rw [if_pos hA,if_pos hk,if_pos hB,if_pos hk']
     simp only [go_sem,c132,c133,k59,k61,kbak,k94,k63f,c132,eb,c133,c90a,c90d,c90e,c90f,k94,k94p,k94q,k94r,k94d,hg,hg',hn,hm,h1,h2,h3,h4,h5,h6]
     simp only [false_imp_iff,true_imp_iff,reduceCtorEq,true_and,and_true,Bool.false_eq_true]
     have eap:apS k x y r n (gx g 0) (gx g 1) k' x' y' r' m (gx g' 0) (gx g' 1) = ddS x y r x' y' r':=by unfold apS; rw [if_pos ⟨hA,hB⟩,if_pos hk,if_pos hk']
     intro z hz z1 hz1
     refine ⟨fun q => h0 fun w => ?_,fun q => ?_⟩
     ·rw [w.2.2,← hz1] at eap
      rcases q with q | q
      ·rw [hz] at q; cases q
      ·rw [q] at eap; cases eap
     ·have hall:=And.intro hA (And.intro hB (eap.trans (hz1.symm.trans q.2)))
      have eB:clipB k x y r n (gx g 0) (gx g 1) k' x' y' r' m (gx g' 0) (gx g' 1) = true:=decide_eq_true hall
      have eS:clipS k x y r n (gx g 0) (gx g 1) k' x' y' r' m (gx g' 0) (gx g' 1) = _:=if_pos hall
      rw [← hU]
      unfold clipA
      rw [eB,eS,if_pos hk,if_pos hk']
      exact fun _ _ _ h => h
    ·have eb:bothS k x y r n g k' x' y' r' m g' = .tup [.iface 197 (.agg [i64 x,i64 y,i64 r]),.iface 202 (.agg [.ro m 2 g']),bo true]:=by unfold bothS; rw [if_pos hA,if_pos hk,if_pos hB,if_neg hk']
     simp only [go_sem,c132,c133,k59,k61,kbak,k94,k63f,c132,eb,c133,c90a,c90d,c90e,c90f,k94,k94p,k94q,k94r,k94d,hg,hg',hn,hm,h1,h2,h3,h4,h5,h6]
     simp only [false_imp_iff,true_imp_iff,reduceCtorEq,true_and,and_true,Bool.false_eq_true]
     have eap:apS k x y r n (gx g 0) (gx g 1) k' x' y' r' m (gx g' 0) (gx g' 1) = outS m (gx g' 0) (gx g' 1) x y r:=by unfold apS; rw [if_pos ⟨hA,hB⟩,if_pos hk,if_neg hk']
     have fB:=fig_n hB hk'
     intro z hz z1 hz1
     refine ⟨fun _ => trivial,fun _ => trivial,fun _ => (check_1 hB).2.2.1,fun _ => (check_1 hA).2.1,fun q => h0 fun w => ?_,fun q => ⟨by omega,by omega,(check_1 hB).2.2.1,(check_1 hA).2.1,fun a1 e1 a2 e2 a3 e3 a4 e4 => ⟨(pdS_in (n:=m) (X:=gx g' 0) (Y:=gx g' 1) (x:=x) (y:=y) (r:=r)).1.1,(pdS_in (n:=m) (X:=gx g' 0) (Y:=gx g' 1) (x:=x) (y:=y) (r:=r)).1.2,?_⟩⟩⟩
     ·rw [w.2.2,← hz1] at eap
      rcases q with q | q
      ·rw [hz] at q; cases q
      ·rw [q] at eap; cases eap
     ·have hall:=And.intro hA (And.intro hB (eap.trans (hz1.symm.trans q.2)))
      have eB:clipB k x y r n (gx g 0) (gx g 1) k' x' y' r' m (gx g' 0) (gx g' 1) = true:=decide_eq_true hall
      have eS:clipS k x y r n (gx g 0) (gx g 1) k' x' y' r' m (gx g' 0) (gx g' 1) = _:=if_pos hall
      rw [← hU]
      unfold clipA
      rw [eB,eS,if_pos hk,if_neg hk']
      rw [e1,e2,e3,e4]
      exact fun _ _ _ h => h
   ·by_cases hk':k' = 1
    ·have eb:bothS k x y r n g k' x' y' r' m g' = .tup [.iface 202 (.agg [.ro n 2 g]),.iface 197 (.agg [i64 x',i64 y',i64 r']),bo true]:=by unfold bothS; rw [if_pos hA,if_neg hk,if_pos hB,if_pos hk']
     simp only [go_sem,c132,c133,k59,k61,kbak,k94,k63f,c132,eb,c133,c90a,c90d,c90e,c90f,k94,k94p,k94q,k94r,k94d,hg,hg',hn,hm,h1,h2,h3,h4,h5,h6]
     simp only [false_imp_iff,true_imp_iff,reduceCtorEq,true_and,and_true,Bool.false_eq_true]
     have eap:apS k x y r n (gx g 0) (gx g 1) k' x' y' r' m (gx g' 0) (gx g' 1) = outS n (gx g 0) (gx g 1) x' y' r':=by unfold apS; rw [if_pos ⟨hA,hB⟩,if_neg hk,if_pos hk']
     have fA:=fig_n hA hk
     intro z hz z1 hz1
     refine ⟨fun _ => trivial,fun _ => trivial,fun _ => (check_1 hA).2.2.1,fun _ => (check_1 hB).2.1,fun q => h0 fun w => ?_,fun q => ⟨by omega,by omega,(check_1 hA).2.2.1,(check_1 hB).2.1,?_⟩⟩
     ·rw [w.2.2,← hz1] at eap
      rcases q with q | q
      ·rw [hz] at q; cases q
      ·rw [q] at eap; cases eap
     ·have hall:=And.intro hA (And.intro hB (eap.trans (hz1.symm.trans q.2)))
      have eB:clipB k x y r n (gx g 0) (gx g 1) k' x' y' r' m (gx g' 0) (gx g' 1) = true:=decide_eq_true hall
      have eS:clipS k x y r n (gx g 0) (gx g 1) k' x' y' r' m (gx g' 0) (gx g' 1) = _:=if_pos hall
      rw [← hU]
      unfold clipA
      rw [eB,eS,if_neg hk,if_pos hk']
      exact fun _ _ _ h => h
    ·have eb:bothS k x y r n g k' x' y' r' m g' = .tup [.iface 202 (.agg [.ro n 2 g]),.iface 202 (.agg [.ro m 2 g']),bo true]:=by unfold bothS; rw [if_pos hA,if_neg hk,if_pos hB,if_neg hk']
     simp only [go_sem,c132,c133,k59,k61,kbak,k94,k63f,c132,eb,c133,c90a,c90d,c90e,c90f,k94,k94p,k94q,k94r,k94d,hg,hg',hn,hm,h1,h2,h3,h4,h5,h6]
     simp only [false_imp_iff,true_imp_iff,reduceCtorEq,true_and,and_true,Bool.false_eq_true]
     have eap:apS k x y r n (gx g 0) (gx g 1) k' x' y' r' m (gx g' 0) (gx g' 1) = (clrS n (gx g 0) (gx g 1) m (gx g' 0) (gx g' 1) || clrS m (gx g' 0) (gx g' 1) n (gx g 0) (gx g 1)):=by unfold apS; rw [if_pos ⟨hA,hB⟩,if_neg hk,if_neg hk']
     have fA:=fig_n hA hk
     have fB:=fig_n hB hk'
     have eX:axS k x y r n (gx g 0) (gx g 1) k' x' y' r' m (gx g' 0) (gx g' 1) = axSt n (gP n (gx g 0) (gx g 1) m (gx g' 0) (gx g' 1)) m (gP m (gx g' 0) (gx g' 1) n (gx g 0) (gx g 1)) 2:=by
      unfold axS
      rw [if_pos ⟨hA,hB⟩,if_neg hk,if_neg hk']
     have hi:=axSt_ix2 (n:=n) (m:=m) (G:=gP n (gx g 0) (gx g 1) m (gx g' 0) (gx g' 1)) (G':=gP m (gx g' 0) (gx g' 1) n (gx g 0) (gx g 1)) (by omega)
     have vA:=(check_1 hA).2.2.1
     have vB:=(check_1 hB).2.2.1
     have eS:apS k x y r n (gx g 0) (gx g 1) k' x' y' r' m (gx g' 0) (gx g' 1) = false → clipS k x y r n (gx g 0) (gx g 1) k' x' y' r' m (gx g' 0) (gx g' 1) = _:=fun w => (if_pos ⟨hA,hB,w⟩:clipS k x y r n (gx g 0) (gx g 1) k' x' y' r' m (gx g' 0) (gx g' 1) = _)
     rw [if_neg hk,if_neg hk',eX] at eS
     generalize axSt n (gP n (gx g 0) (gx g 1) m (gx g' 0) (gx g' 1)) m (gP m (gx g' 0) (gx g' 1) n (gx g 0) (gx g 1)) 2 = s at *
     clear eX
     intro z hz z1 hz1
     refine ⟨fun _ => trivial,fun _ => trivial,fun _ => vA,fun _ => trivial,fun _ => trivial,fun _ => vB,fun q => h0 fun w => ?_,fun q => ⟨by omega,by omega,vA,by omega,by omega,vB,fun q3 => ⟨by have:s.1 = 0:=(by simpa using q3); omega,by have:s.1 = 0:=(by simpa using q3); omega,by omega,by omega,by omega,vA,vB,?_⟩,fun q3 => ⟨by have:¬ s.1 = 0:=(by simpa using q3); omega,by have:¬ s.1 = 0:=(by simpa using q3); omega,by omega,by omega,by omega,vB,vA,fun a1 e1 a2 e2 a3 e3 a4 e4 => ⟨(flS_in (n:=m) (X:=gx g' 0) (Y:=gx g' 1) (m:=n) (Z:=gx g 0) (T:=gx g 1) (i:=s.2.1.toNat)).1.1,(flS_in (n:=m) (X:=gx g' 0) (Y:=gx g' 1) (m:=n) (Z:=gx g 0) (T:=gx g 1) (i:=s.2.1.toNat)).1.2,?_⟩⟩⟩⟩
     ·rw [w.2.2,← hz1] at eap
      rcases q with q | q
      ·rw [hz] at q; cases q
      ·rw [q] at eap; cases eap
     ·have w:=eap.trans (hz1.symm.trans q.2)
      have e:s.1 = 0:=by simpa using q3
      have eB:clipB k x y r n (gx g 0) (gx g 1) k' x' y' r' m (gx g' 0) (gx g' 1) = true:=decide_eq_true ⟨hA,hB,w⟩
      rw [← hU]
      unfold clipA
      rw [eB,eS w,if_pos e]
      exact fun _ _ _ h => h
     ·have w:=eap.trans (hz1.symm.trans q.2)
      have e:¬ s.1 = 0:=by simpa using q3
      have eB:clipB k x y r n (gx g 0) (gx g 1) k' x' y' r' m (gx g' 0) (gx g' 1) = true:=decide_eq_true ⟨hA,hB,w⟩
      rw [← hU]
      unfold clipA
      rw [eB,eS w,if_neg e,e1,e2,e3,e4]
      exact fun _ _ _ h => h
  ·have h0':=h0 fun q => hB q.2.1
   by_cases hk:k = 1
   ·have eb:bothS k x y r n g k' x' y' r' m g' = .tup [.iface 197 (.agg [i64 x,i64 y,i64 r]),.v .nilIface,bo false]:=by unfold bothS; rw [if_pos hA,if_pos hk,if_neg hB]
    simp only [go_sem,c132,c133,k59,k61,kbak,k94,k63f,c132,eb,c133,c90a,c90d,c90e,c90f,hg,hg',hn,hm,h1,h2,h3,h4,h5,h6]
    exact fun z hz z1 hz1 => ⟨fun h => (by rw [hz] at h; cases h),fun _ => h0',fun q => (by rw [hz] at q; cases q.1)⟩
   ·have eb:bothS k x y r n g k' x' y' r' m g' = .tup [.iface 202 (.agg [.ro n 2 g]),.v .nilIface,bo false]:=by unfold bothS; rw [if_pos hA,if_neg hk,if_neg hB]
    simp only [go_sem,c132,c133,k59,k61,kbak,k94,k63f,c132,eb,c133,c90a,c90d,c90e,c90f,hg,hg',hn,hm,h1,h2,h3,h4,h5,h6]
    exact fun z hz z1 hz1 => ⟨fun h => (by rw [hz] at h; cases h),fun _ => h0',fun q => (by rw [hz] at q; cases q.1)⟩
 ·have h0':=h0 fun q => hA q.1
  by_cases hB:checkS k' x' y' r' m (gx g' 0) (gx g' 1) = 0
  ·by_cases hk':k' = 1
   ·have eb:bothS k x y r n g k' x' y' r' m g' = .tup [.v .nilIface,.iface 197 (.agg [i64 x',i64 y',i64 r']),bo false]:=by unfold bothS; rw [if_neg hA,if_pos hB,if_pos hk']
    simp only [go_sem,c132,c133,k59,k61,kbak,k94,k63f,c132,eb,c133,c90a,c90d,c90e,c90f,hg,hg',hn,hm,h1,h2,h3,h4,h5,h6]
    exact fun z hz z1 hz1 => ⟨fun h => (by rw [hz] at h; cases h),fun _ => h0',fun q => (by rw [hz] at q; cases q.1)⟩
   ·have eb:bothS k x y r n g k' x' y' r' m g' = .tup [.v .nilIface,.iface 202 (.agg [.ro m 2 g']),bo false]:=by unfold bothS; rw [if_neg hA,if_pos hB,if_neg hk']
    simp only [go_sem,c132,c133,k59,k61,kbak,k94,k63f,c132,eb,c133,c90a,c90d,c90e,c90f,hg,hg',hn,hm,h1,h2,h3,h4,h5,h6]
    exact fun z hz z1 hz1 => ⟨fun h => (by rw [hz] at h; cases h),fun _ => h0',fun q => (by rw [hz] at q; cases q.1)⟩
  ·have eb:bothS k x y r n g k' x' y' r' m g' = .tup [.v .nilIface,.v .nilIface,bo false]:=by unfold bothS; rw [if_neg hA,if_neg hB]
   simp only [go_sem,c132,c133,k59,k61,kbak,k94,k63f,c132,eb,c133,c90a,c90d,c90e,c90f,hg,hg',hn,hm,h1,h2,h3,h4,h5,h6]
   exact fun z hz z1 hz1 => ⟨fun h => (by rw [hz] at h; cases h),fun _ => h0',fun q => (by rw [hz] at q; cases q.1)⟩
theorem con71:ConOK Tryz.prog 71 c73:=ConOK.goR (G:=[(132,c132),(133,c133),(134,k59),(136,k61),(135,kbak),(137,k94),(138,k63f)]) (H:=[(9,⟨[(5,.slot 4)],[]⟩),(11,⟨[(4,.slot 4)],[]⟩),(12,⟨[(6,.made 4),(7,.made 5)],[]⟩)]) (.cons con132 (.cons con133 (.cons con134 (.cons con136 (.cons konbak (.cons kon94 (.cons con138 .nil))))))) Tryz.func71 fun l ob rr hc hob => by
 unfold c73 at hc
 split at hc
 ·rename_i k x y r n g k' x' y' r' m g'
  cases hc
  exact ⟨_,fun w I vs h => h,by kernel_rfl,vc71 k x y r n g k' x' y' r' m g' (hob _ (by simp)) (hob _ (by simp)) (hob _ (by simp)) (hob _ (by simp)) (hob _ (by simp)) (hob _ (by simp)) (hob _ (by simp)) (hob _ (by simp)) (hob _ (by simp)) (hob _ (by simp))⟩
 ·cases hc
end Go.Ax
end
section
/-
  Lists of few bodies.
-/
set_option maxHeartbeats 4000000
set_option maxRecDepth 100000
namespace Go.Ax
open Go.Proofs
end Go.Ax
end
section
/-
  How two bodies touch, by the program; SolverTouching: its body.
-/
set_option maxHeartbeats 4000000
set_option maxRecDepth 100000
namespace Go.Ax
open Go.Proofs
theorem tchs_eta {P:Nat → V2} {D:Nat → Nb}:(tchs P D = tchs (tchP (tchs P D)) (tchD (tchs P D))) = True:=eq_true rfl
theorem vc29 (b c:Bd) (hb:inB b) (hc:inB c) (hn:b.n ≤ 1000) (hm:c.n ≤ 1000) :
  fnVC Tryz.prog [(70,kb70),(71,c73)] [] Tryz.f29 [.agg (bodyC b),.agg (bodyC c)] (alk (.tup [mfA (touS b c),bo (touB b c)])):=by
 refine fnVC_go (rs:=[.cell 4 52,.tmp 5]) rfl rfl ?_
 simp only [go_sem,kb70,c73,cB_eq,hb,hc,hn,hm,plA,pl_spots,plN_max,plC_in]
 simp only [forall_eq,gx_pts0,gx_pts1]
 have hr:∀ d:Bd,inB d → inR (plR d.k d.r d.wd d.ht d.n d.X d.Y d.pl d.rot):=fun d hd => by
  unfold plR
  split
  ·exact hd.2.1
  ·unfold inR; decide
 refine ⟨fun h => ?_,fun h => ⟨hr b hb,hr c hc,fun _ _ _ h => h⟩⟩
 obtain ⟨k1,k2⟩:=tou_0 (b:=b) (c:=c) (h.imp (fun q => bne_iff_ne.1 q) (fun q => bne_iff_ne.1 q))
 rw [k1,k2]
 exact alk_form alk_nil6
theorem con29:ConOK Tryz.prog 29 kTou:=ConOK.goR (G:=[(70,kb70),(71,c73)]) (H:=[]) (.cons konb70 (.cons con71 .nil)) Tryz.func29 fun l ob rr hc hob => by
 unfold kTou at hc
 split at hc
 ·rename_i l l'
  cases hc
  have e1:l = bodyC (bodyD l):=hob _ (by simp)
  have e2:l' = bodyC (bodyD l'):=hob _ (by simp)
  refine ⟨[.agg (bodyC (bodyD l)),.agg (bodyC (bodyD l'))],fun w I vs h => by rw [← e1,← e2]; exact h,by kernel_rfl,vc29 (bodyD l) (bodyD l') (hob _ (by simp)) (hob _ (by simp)) (hob _ (by simp)) (hob _ (by simp))⟩
 ·cases hc
theorem vc5 (b c:Bd) (hb:inB b) (hn:b.n ≤ 9223372036854775807) (hc:inB c) (hm:c.n ≤ 9223372036854775807) :
  fnVC Tryz.prog [(27,kLit1),(20,c20),(28,kb28),(29,kTou),(30,kTou),(31,kSaM),(32,kb32)] [(3,⟨[(6,.made 4),(7,.made 5)],[]⟩)] Tryz.f5 [.agg (bodyC b),.agg (bodyC c)] (· = bo true):=by
 refine fnVC_go (rs:=[.tmp 4]) rfl rfl ?_
 simp only [go_sem,kLit1,c20,kb28,kTou,kTou,kSaM,kb32,cB_eq,bodyD_C,mfA,manC,tchs_eta]
 simp only [forall_eq,hn,hm,hb,hc,implies_true,true_and,and_true,beq_self_eq_true,and_self]
 intro h
 have h12:=of_decide_eq_true h
 have k1:b.n ≤ 1000:=by omega
 have k2:c.n ≤ 1000:=by omega
 have k3:(touS b c).n ≤ 1000:=by
  have h:inM (touS b c):=clipS_in
  have:=h.2.1
  omega
 exact ⟨k1,k2,k1,k2,k1,k2,k3,fun _ => k1,fun _ => k2⟩
end Go.Ax
end