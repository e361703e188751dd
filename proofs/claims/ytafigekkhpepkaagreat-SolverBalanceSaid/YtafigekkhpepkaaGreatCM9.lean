/-
  How a polygon and a disc touch, by the reference.
-/
import Derived.Test.YtafigekkhpepkaaGreatCM8
set_option linter.unusedVariables false
set_option linter.unusedSimpArgs false
section
set_option maxHeartbeats 4000000
set_option maxRecDepth 100000
namespace Go.Ax
open Go.Proofs Go.Proofs.Tryz
def lsQ (h:Nat→Nb) (s:Nb):Nat→Nat×Nb
 | 0 => (0,s)
 | i + 1 => if i = 0∨cmpS (whV (h i).1) (whV (lsQ h s i).2.1) < 0 then (i,h i) else lsQ h s i
theorem lsQ_eq {h:Nat→Nb} {s:Nb}:∀ i,lsQ h s (i + 1) = (leI h i,h (leI h i))
 | 0 => if_pos (.inl rfl)
 | i + 1 => by
  have e:=lsQ_eq (h:=h) (s:=s) i
  unfold lsQ leI
  rw [e]
  dsimp only
  by_cases c:cmpS (whV (h (i + 1)).1) (whV (h (leI h i)).1) < 0
  ·rw [if_pos (.inr c),if_pos c]
  ·rw [if_neg (by omega),if_neg c]
theorem lsQ_hit {h:Nat→Nb} {s:Nb} {i:Nat} (c:i = 0∨cmpS (whV (h i).1) (whV (lsQ h s i).2.1) < 0):lsQ h s (i + 1) = (i,h i):=if_pos c
theorem lsQ_not {h:Nat→Nb} {s:Nb} {i:Nat} (c:¬ (i = 0∨cmpS (whV (h i).1) (whV (lsQ h s i).2.1) < 0)):lsQ h s (i + 1) = lsQ h s i:=if_neg c
theorem leI_lt {h:Nat→Nb}:∀ i,leI h i≤i
 | 0 => Nat.le_refl _
 | i + 1 => by
  have:=leI_lt (h:=h) i
  unfold leI
  split <;> omega
theorem axF_ix {o:Int} {G:Nat→Nb}:∀ i:Nat,0≤(axF o G ax0 (i + 1)).2.1∧(axF o G ax0 (i + 1)).2.1 < ((i + 1:Nat):Int)
 | 0 => by
  rw [axF_hit (.inl (by show (-1:Int) < 0; decide))]
  exact ⟨Int.le_refl _,by show ((0:Nat):Int) < ((0 + 1:Nat):Int); decide⟩
 | i + 1 => by
  have ih:=axF_ix (o:=o) (G:=G) i
  by_cases c:(axF o G ax0 (i + 1)).2.1 < 0∨0 < cmpS (whV (G (i + 1)).1) (whV (axF o G ax0 (i + 1)).2.2.1)
  ·rw [axF_hit c]
   dsimp only
   omega
  ·rw [axF_not c]
   omega
theorem axSt_ix {n:Nat} {G G':Nat→Nb} (h:0 < n):0≤(axSt n G 0 G' 2).2.1∧(axSt n G 0 G' 2).2.1 < n:=by
 have:=axF_ix (o:=0) (G:=G) (n - 1)
 rw [show n - 1 + 1 = n by omega] at this
 exact this
theorem axF_in {o:Int} {G:Nat→Nb} {s:AxT} (hG:∀ i,inR (G i).1) (hs:inR s.2.2.1):∀ i,inR (axF o G s i).2.2.1
 | 0 => hs
 | i + 1 => by
  have ih:=axF_in (o:=o) hG hs i
  unfold axF
  split
  ·exact hG i
  ·exact ih
theorem axSt_in {n m:Nat} {G G':Nat→Nb} (hG:∀ i,inR (G i).1) (hG':∀ i,inR (G' i).1):∀ i,inR (axSt n G m G' i).2.2.1
 | 0 => by show inR 0; unfold inR; decide
 | 1 => axF_in hG (by show inR 0; unfold inR; decide) n
 | _ + 2 => axF_in hG' (axF_in hG (by show inR 0; unfold inR; decide) n) m
def atI (P:Nat→V2) (i:Nat) (j:Nat):V2:=if i = 0 then zV else P j
theorem atI_pos {P:Nat→V2} {i j:Nat} (h:i≠0):atI P i j = P j:=if_neg h
def c230:Con
 | [.agg [.v (.int .i64 k),.v (.int .i64 x),.v (.int .i64 y),.v (.int .i64 r),.ro n 2 g],.agg [.v (.int .i64 k'),.v (.int .i64 x'),.v (.int .i64 y'),.v (.int .i64 r'),.ro m 2 g']] => some ([spots n g,spots m g',checkS k x y r n (gx g 0) (gx g 1) = 0,checkS k' x' y' r' m (gx g' 0) (gx g' 1) = 0,inR x,inR y,inR r,inR x',inR y',inR r',¬ k = 1,k' = 1,n≤9223372036854775806,m≤9223372036854775806],mfA (pdS n (gx g 0) (gx g 1) x' y' r'))
 | _ => none
theorem vc230 (k x y r:Int) (n:Nat) (X Y:Nat→Int) (k' x' y' r':Int) (m:Nat) (Z T:Nat→Int) (hX:∀ i,i < n→inR (X i)∧inR (Y i)) (hZ:∀ i,i < m→inR (Z i)∧inR (T i)) (hA:checkS k x y r n X Y = 0) (hB:checkS k' x' y' r' m Z T = 0) (h1:inR x) (h2:inR y) (h3:inR r) (h4:inR x') (h5:inR y') (h6:inR r') (hk:¬ k = 1) (hk':k' = 1) (hn:n≤9223372036854775806) (hm:m≤9223372036854775806) :
  fnVC prog [(213,k69),(28,k54),(272,c272),(232,c232),(273,c273),(274,k83),(85,k147),(32,k181),(92,k111),(78,k143),(268,c268),(269,c269),(95,k146),(86,k138),(142,k47),(29,c29),(141,k140),(81,k46)] [(1,⟨[(8,.made 6),(9,.made 7)],[]⟩),(6,⟨[(15,.slot 4)],[]⟩),(14,⟨[(14,.made 13)],[]⟩),(15,⟨[(9,.made 8)],[]⟩),(18,⟨[(2,.slot 12),(3,.slot 13)],[(1,[.slot 12])]⟩),(23,⟨[(11,.slot 4)],[]⟩)] Tryz.f230 [edA k x y r n X Y,edA k' x' y' r' m Z T] (alk (mfA (pdS n X Y x' y' r'))):=by
 refine fnVC_go (rs:=[.cell 4 29]) rfl rfl ?_
 have hg:spots n fun i => [i64 (X i),i64 (Y i)]:=fun i hi => ⟨rfl,hX i hi⟩
 have hg':spots m fun i => [i64 (Z i),i64 (T i)]:=fun i hi => ⟨rfl,hZ i hi⟩
 have v1:validS x' y' = true:=(check_1 hB).2.1
 have hh:holdsS k x y r n X Y x' y' = inS n X Y x' y':=if_neg hk
 simp only [go_sem,k69,k54,c272,c232,c273,k83,k147,k181,k111,k143,c268,c269,k146,k138,k47,c29,k140,k46,gx_pts0,gx_pts1,hg,hg',hA,hB,h1,h2,h3,h4,h5,h6,hn,hm,v1,hh]
 intro z hz
 have h8:=fig_n hA hk
 have vX:=(check_1 hA).2.2.1
 have eA:axS k x y r n X Y k' x' y' r' m Z T = axSt n (gD n X Y x' y' r') 0 (gD n X Y x' y' r') 2:=by
  unfold axS
  rw [if_pos ⟨hA,hB⟩,if_neg hk,if_pos hk']
 refine ⟨fun h => ?_,fun h => ?_⟩
 ·have e:pdS n X Y x' y' r' = deepS n X Y x' y' r' (axSt n (gD n X Y x' y' r') 0 (gD n X Y x' y' r') 2):=if_pos (hz.symm.trans h)
  rw [eA,e]
  have hi:=axSt_ix (G:=gD n X Y x' y' r') (G':=gD n X Y x' y' r') (show 0 < n by omega)
  have hr:inR (axSt n (gD n X Y x' y' r') 0 (gD n X Y x' y' r') 2).2.2.1:=axSt_in (fun _ => rg_inR gD_rg) (fun _ => rg_inR gD_rg) 2
  generalize axSt n (gD n X Y x' y' r') 0 (gD n X Y x' y' r') 2 = s at *
  exact ⟨hi.1,hi.2,vX _ (by omega),vX _ (nxt_lt (by omega)),hr,of_eq_true (iNeg hr),alk_one rfl⟩
 have e:pdS n X Y x' y' r' = rdS n X Y x' y' r':=if_neg (by rw [← hz,h]; decide)
 rw [e]
 refine loopC_go (fun (i:Nat) => i≤n) (fun i => n - i) (fun i => [(15,i64 (i:Int))])
  (fun i => [(25,fam1 26 4 [i64 (atI (rdV n X Y x' y') i (lsQ (rdL n X Y x' y') (0,false) i).1).1.1,bo (atI (rdV n X Y x' y') i (lsQ (rdL n X Y x' y') (0,false) i).1).1.2,i64 (atI (rdV n X Y x' y') i (lsQ (rdL n X Y x' y') (0,false) i).1).2.1,bo (atI (rdV n X Y x' y') i (lsQ (rdL n X Y x' y') (0,false) i).1).2.2] none),
   (24,fam1 26 4 [i64 (atI (rdP n X Y x' y') i (lsQ (rdL n X Y x' y') (0,false) i).1).1.1,bo (atI (rdP n X Y x' y') i (lsQ (rdL n X Y x' y') (0,false) i).1).1.2,i64 (atI (rdP n X Y x' y') i (lsQ (rdL n X Y x' y') (0,false) i).1).2.1,bo (atI (rdP n X Y x' y') i (lsQ (rdL n X Y x' y') (0,false) i).1).2.2] none),
   (23,fam1 24 2 [i64 (lsQ (rdL n X Y x' y') (0,false) i).2.1,bo (lsQ (rdL n X Y x' y') (0,false) i).2.2] none)]) [18,10,9,2,1,0] [66,67,68,69,70,74,75,76,73,77,78,16,17,79,80,81,18,82,83,84,85,86,87,88,89,90,91,92,93,94,19,95,96,97,98,99,100,101,102,20,103,104,105,106,21,107,108,109,110,111,112,113,114,115,116,118,119,120,121,117,122,123,22,23,124,125,126,127,128,129,130,131,132,133,134,135,136,137,138,139,71,72,15] 0 (by kernel_rfl) ?_ (Nat.zero_le _) ?_ ?_
 ·intro i _; simp [goodNames,asg]
 ·simp only [go_sem]
  repeat' (first | rfl | apply And.intro)
 intro i hi
 simp only [go_sem,k69,k54,c272,c232,c273,k83,k147,k181,k111,k143,c268,c269,k146,k138,k47,c29,k140,k46,gx_pts0,gx_pts1,hg,hg',h1,h2,h3,h4,h5,h6,hn,hm]
 have eT:nCl (nRat (dtW (mnW (X i) x') (mnW (Y i) y') (mnW (X i) (X (nxt n i))) (mnW (Y i) (Y (nxt n i)))) (dtW (mnW (X i) (X (nxt n i))) (mnW (Y i) (Y (nxt n i))) (mnW (X i) (X (nxt n i))) (mnW (Y i) (Y (nxt n i))))) (0,false) (4294967296,false) = rdT n X Y x' y' i:=rfl
 have eP:vAdd (vLoc (X i) (Y i)) (vScale (vLoc (mnW (X i) (X (nxt n i))) (mnW (Y i) (Y (nxt n i)))) (rdT n X Y x' y' i)) = rdP n X Y x' y' i:=rfl
 have eM:vSub (vLoc x' y') (rdP n X Y x' y' i) = rdM n X Y x' y' i:=rfl
 have eL:vLen (rdM n X Y x' y' i) = rdL n X Y x' y' i:=rfl
 simp only [forall_eq,mnW_eq,dtW_eq,eT,eP,eM,eL]
 have hw:i < n→IntKind.i64.wrap ((i:Int) + 1) = ((i + 1:Nat):Int):=fun h => by rw [wrap_in (inRo (by omega))]; rfl
 refine ⟨fun hin => ?_,fun hin => ?_⟩
 ·have hlt:i < n:=by omega
  have hxi:=hX i hlt
  refine ⟨by omega,hin,dtW_inR,dtW_inR,hxi.1,hxi.2,wrap_inR _,wrap_inR _,fun h => ⟨i + 1,by omega,by omega,hw hlt,?_⟩,fun h => ⟨fun h2 => ⟨vX i hlt,vX _ (nxt_lt hlt),i + 1,by omega,by omega,hw hlt,?_⟩,fun h2 => ⟨i + 1,by omega,by omega,hw hlt,?_⟩⟩⟩
  ·rw [lsQ_not (by have:=h.2; have:=h.1; omega),atI_pos (by omega),atI_pos (by omega),atI_pos (by omega),atI_pos (by omega)]
   exact ⟨⟨rfl,rfl,rfl,rfl⟩,⟨rfl,rfl,rfl,rfl⟩,rfl,rfl⟩
  ·have h:¬ (0 < (i:Int)∧0≤cmpS (whV (rdL n X Y x' y' i).1) (whV (lsQ (rdL n X Y x' y') (0,false) i).2.1)):=by simpa using h
   rw [lsQ_hit (by omega)]
   dsimp only
   rw [atI_pos (by omega),atI_pos (by omega),show rdV n X Y x' y' i = _ from if_pos h2]
   exact ⟨⟨rfl,rfl,rfl,rfl⟩,⟨rfl,rfl,rfl,rfl⟩,rfl,rfl⟩
  ·have h:¬ (0 < (i:Int)∧0≤cmpS (whV (rdL n X Y x' y' i).1) (whV (lsQ (rdL n X Y x' y') (0,false) i).2.1)):=by simpa using h
   rw [lsQ_hit (by omega)]
   dsimp only
   rw [atI_pos (by omega),atI_pos (by omega),show rdV n X Y x' y' i = _ from if_neg (by
    rintro (q | q)
    ·have:=h2.1
     rw [decide_eq_true q.1,decide_eq_true q.2] at this
     cases this
    ·rw [h2.2] at q
     cases q)]
   exact ⟨⟨rfl,rfl,rfl,rfl⟩,⟨rfl,rfl,rfl,rfl⟩,rfl,rfl⟩
 ·have e:i = n - 1 + 1:=by omega
  rw [e,lsQ_eq]
  dsimp only
  rw [atI_pos (by omega),atI_pos (by omega)]
  exact ⟨of_eq_true iHyp,alk_one rfl⟩
theorem con230:ConOK prog 230 c230:=ConOK.goR (G:=[(213,k69),(28,k54),(272,c272),(232,c232),(273,c273),(274,k83),(85,k147),(32,k181),(92,k111),(78,k143),(268,c268),(269,c269),(95,k146),(86,k138),(142,k47),(29,c29),(141,k140),(81,k46)]) (H:=[(1,⟨[(8,.made 6),(9,.made 7)],[]⟩),(6,⟨[(15,.slot 4)],[]⟩),(14,⟨[(14,.made 13)],[]⟩),(15,⟨[(9,.made 8)],[]⟩),(18,⟨[(2,.slot 12),(3,.slot 13)],[(1,[.slot 12])]⟩),(23,⟨[(11,.slot 4)],[]⟩)]) (.cons kon69 (.cons kon54 (.cons con272 (.cons con232 (.cons con273 (.cons kon83 (.cons kon147 (.cons kon181 (.cons kon111 (.cons kon143 (.cons con268 (.cons con269 (.cons kon146 (.cons kon138 (.cons kon47 (.cons con29 (.cons kon140 (.cons kon46 .nil)))))))))))))))))) func230 fun l ob rr hc hob => by
 unfold c230 at hc
 split at hc
 ·rename_i k x y r n g k' x' y' r' m g'
  cases hc
  have hs:spots n g:=hob _ (by simp)
  have hs':spots m g':=hob _ (by simp)
  exact ⟨[edA k x y r n (gx g 0) (gx g 1),edA k' x' y' r' m (gx g' 0) (gx g' 1)],fun w I vs h => Rs_two (Rs_form hs) (Rs_form hs') h,by kernel_rfl,vc230 k x y r n _ _ k' x' y' r' m _ _ (fun i hi => (hs i hi).2) (fun i hi => (hs' i hi).2) (hob _ (by simp)) (hob _ (by simp)) (hob _ (by simp)) (hob _ (by simp)) (hob _ (by simp)) (hob _ (by simp)) (hob _ (by simp)) (hob _ (by simp)) (hob _ (by simp)) (hob _ (by simp)) (hob _ (by simp)) (hob _ (by simp))⟩
 ·cases hc
def tcN (nv a b:V2):Nat→Nat
 | 0 => 0
 | 1 => if (vDot nv a).1≤0 then 1 else 0
 | _ => (if (vDot nv a).1≤0 then 1 else 0) + (if (vDot nv b).1≤0 then 1 else 0)
theorem tcN_0 {nv a b:V2}:tcN nv a b 0 = 0:=rfl
theorem tcN_1 {nv a b:V2}:tcN nv a b 1 = if (vDot nv a).1≤0 then 1 else 0:=rfl
theorem tcN_2 {nv a b:V2}:tcN nv a b 2 = tcN nv a b 1 + if (vDot nv b).1≤0 then 1 else 0:=rfl
def tcP (nv p a b:V2) (j:Nat):V2:=if (vDot nv a).1≤0∧j = 0 then vAdd p a else vAdd p b
def tcD (nv a b:V2) (j:Nat):Nb:=if (vDot nv a).1≤0∧j = 0 then nNeg (vDot nv a) else nNeg (vDot nv b)
theorem flK_tc {nv p a b q:V2} {d:Nb} (h:0 < tcN nv a b 2):(flK nv p a b q d).nv = nv∧(flK nv p a b q d).n = tcN nv a b 2∧∀ j,j < tcN nv a b 2→(flK nv p a b q d).P j = tcP nv p a b j∧(flK nv p a b q d).D j = tcD nv a b j:=by
 rw [tcN_2,tcN_1] at h ⊢
 unfold flK flM tcP tcD
 by_cases ha:(vDot nv a).1≤0
 ·rw [if_pos (.inl ha),if_pos ha,if_pos ha]
  by_cases hb:(vDot nv b).1≤0
  ·rw [if_pos hb,if_pos hb]
   refine ⟨rfl,rfl,fun j hj => ?_⟩
   dsimp only
   by_cases e:j = 0
   ·rw [if_pos e,if_pos e,if_pos ⟨ha,e⟩,if_pos ⟨ha,e⟩]
    exact ⟨rfl,rfl⟩
   ·rw [if_neg e,if_neg e,if_neg (fun q => e q.2),if_neg (fun q => e q.2)]
    exact ⟨rfl,rfl⟩
  ·rw [if_neg hb,if_neg hb]
   refine ⟨rfl,rfl,fun j hj => ?_⟩
   have e:j = 0:=by omega
   rw [if_pos ⟨ha,e⟩,if_pos ⟨ha,e⟩]
   exact ⟨rfl,rfl⟩
 ·rw [if_neg ha] at h
  have hb:(vDot nv b).1≤0:=by
   apply Classical.byContradiction
   intro hb
   rw [if_neg hb] at h
   omega
  rw [if_pos (.inr hb),if_neg ha,if_neg ha,if_pos hb]
  refine ⟨rfl,rfl,fun j hj => ?_⟩
  rw [if_neg (fun q => ha q.1),if_neg (fun q => ha q.1)]
  exact ⟨rfl,rfl⟩
theorem flK_no {nv p a b q:V2} {d:Nb} (h:¬ 0 < tcN nv a b 2):flK nv p a b q d = mf1 nv q d:=by
 rw [tcN_2,tcN_1] at h
 refine if_neg ?_
 rintro (k | k)
 ·rw [if_pos k] at h
  omega
 ·rw [if_pos k] at h
  omega
theorem alk_mf {m:Mf} {nv:V2} {n:Nat} {g:Nat→List AV} (h1:m.nv = nv) (h2:m.n = n) (h3:∀ i,i < n→g i = tchC (m.P i) (m.D i)):alk (mfA m) (.agg [i64 nv.1.1,bo nv.1.2,i64 nv.2.1,bo nv.2.2,.ro n 6 g]):=by
 subst h1 h2
 exact alk_shape (alk_ro6 h3)
theorem vc233 (k x y r:Int) (n:Nat) (X Y:Nat→Int) (k' x' y' r':Int) (m:Nat) (Z T:Nat→Int) (i:Nat) (hX:∀ i,i < n→inR (X i)∧inR (Y i)) (hZ:∀ i,i < m→inR (Z i)∧inR (T i)) (hA:checkS k x y r n X Y = 0) (hB:checkS k' x' y' r' m Z T = 0) (hk:¬ k = 1) (hk':¬ k' = 1) (hi:i < n) :
  fnVC prog [(273,c273),(274,k83),(34,k145),(29,c29),(268,c268),(276,k149),(141,k140),(213,k69),(142,k47),(277,kclp),(81,k46),(86,k138),(92,k111),(78,k143)] [(9,⟨[(6,.made 5)],[]⟩),(11,⟨[(3,.slot 11)],[]⟩),(14,⟨[(10,.made 8),(11,.made 9)],[]⟩),(16,⟨[(12,.slot 20),(13,.slot 21)],[]⟩),(17,⟨[(16,.slot 20),(17,.slot 21)],[]⟩),(27,⟨[(13,.slot 23)],[]⟩),(34,⟨[(11,.made 10)],[]⟩),(36,⟨[(3,.slot 11)],[]⟩),(37,⟨[(14,.slot 23)],[]⟩)] Tryz.f233 [edA k x y r n X Y,edA k' x' y' r' m Z T,i64 (i:Int)] (alk (mfA (flS n X Y m Z T i))):=by
 refine fnVC_go (rs:=[.cell 6 29]) rfl rfl ?_
 have hg:spots n fun i => [i64 (X i),i64 (Y i)]:=fun i hi => ⟨rfl,hX i hi⟩
 have hg':spots m fun i => [i64 (Z i),i64 (T i)]:=fun i hi => ⟨rfl,hZ i hi⟩
 have h8:=fig_n hA hk
 have m8:=fig_n hB hk'
 have hn:n≤9223372036854775806:=by omega
 have hm:m≤9223372036854775806:=by omega
 have vX:=(check_1 hA).2.2.1
 have vZ:=(check_1 hB).2.2.1
 have hil:=nxt_lt hi
 simp only [go_sem,c273,k83,k145,c29,c268,k149,k140,k69,k47,kclp,k46,k138,k111,k143,gx_pts0,gx_pts1,hg,hg',hn,hm,Int.toNat_natCast,vX i hi,vX _ hil]
 refine ⟨by omega,by omega,?_⟩
 refine loopC_go (fun (j:Nat) => j≤m) (fun j => m - j) (fun j => [(12,i64 (j:Int)),(10,i64 ((lsQ (agK m Z T (edN n X Y i)) (0,false) j).1:Int))])
  (fun j => [(20,fam1 24 2 [i64 (lsQ (agK m Z T (edN n X Y i)) (0,false) j).2.1,bo (lsQ (agK m Z T (edN n X Y i)) (0,false) j).2.2] none)]) [16,10,9,2,1,0] [40,41,42,43,44,48,49,50,47,51,52,13,14,53,54,55,56,57,15,58,59,60,61,62,63,64,65,66,67,10,45,46,12] 0 (by kernel_rfl) ?_ (Nat.zero_le _) ?_ ?_
 ·intro i _; simp [goodNames,asg]
 ·simp only [go_sem]
  repeat' (first | rfl | apply And.intro)
 intro j hj
 simp only [go_sem,c273,k83,k145,c29,c268,k149,k140,k69,k47,kclp,k46,k138,k111,k143,gx_pts0,gx_pts1,hg,hg',hn,hm]
 have hw:j < m→IntKind.i64.wrap ((j:Int) + 1) = ((j + 1:Nat):Int):=fun h => by rw [wrap_in (inRo (by omega))]; rfl
 have eN:vNorm (X i) (Y i) (X (nxt n i)) (Y (nxt n i)) = edN n X Y i:=rfl
 have eK:vDot (vNorm (Z j) (T j) (Z (nxt m j)) (T (nxt m j))) (edN n X Y i) = agK m Z T (edN n X Y i) j:=rfl
 simp only [eN,eK]
 refine ⟨fun hin => ?_,fun hin => ?_⟩
 ·have hlt:j < m:=by omega
  refine ⟨by omega,hin,vZ j hlt,vZ _ (nxt_lt hlt),fun z hz => ⟨fun h z1 hz1 => ⟨j + 1,by omega,by omega,?_⟩,fun h z1 hz1 => ⟨j + 1,by omega,by omega,?_⟩⟩⟩
  ·rw [lsQ_hit (h.imp (fun q => by simpa using q) (fun q => by rw [← hz]; exact q)),hz1,hw hlt]
   exact ⟨⟨rfl,rfl⟩,rfl,rfl⟩
  ·have h1:¬ j = 0:=by
    intro q
    subst q
    exact absurd h.1 (by decide)
   rw [lsQ_not (fun q => q.elim h1 (fun q => h.2 (by rw [hz]; exact q))),hz1,hw hlt]
   exact ⟨⟨rfl,rfl⟩,rfl,rfl⟩
 ·have e:j = m - 1 + 1:=by omega
  have eJ:lsQ (agK m Z T (edN n X Y i)) (0,false) j = (flJ n X Y m Z T i,agK m Z T (edN n X Y i) (flJ n X Y m Z T i)):=by rw [e,lsQ_eq]; rfl
  have hJ:flJ n X Y m Z T i < m:=by
   have:=leI_lt (h:=agK m Z T (edN n X Y i)) (m - 1)
   unfold flJ
   omega
  rw [eJ]
  have hJn:=nxt_lt hJ
  have hxi:=hX i hi
  have hxn:=hX _ hil
  have hzj:=hZ _ hJ
  have hzn:=hZ _ hJn
  simp only [go_sem,c273,k83,k145,c29,c268,k149,k140,k69,k47,kclp,k46,k138,k111,k143,gx_pts0,gx_pts1,hg,hg',hn,hm]
  have eT:(vUnit (vOf (mnW (X i) (X (nxt n i))) (mnW (Y i) (Y (nxt n i))))).2 = flT n X Y i:=rfl
  have eE:vLen (vLoc (mnW (X i) (X (nxt n i))) (mnW (Y i) (Y (nxt n i)))) = flE n X Y i:=rfl
  generalize hJq:flJ n X Y m Z T i = J at *
  have e0:vLoc (mnW (X i) (Z J)) (mnW (Y i) (T J)) = fx0 X Y Z T i J:=rfl
  have e1:vLoc (mnW (X i) (Z (nxt m J))) (mnW (Y i) (T (nxt m J))) = fx0 X Y Z T i (nxt m J):=rfl
  have i1:∀ j,inR (fx0 X Y Z T i j).1.1:=fun j => of_eq_true iLoc1
  have i2:∀ j,inR (fx0 X Y Z T i j).2.1:=fun j => of_eq_true iLoc2
  have c1:clpX (fx0 X Y Z T i J) (fx0 X Y Z T i (nxt m J)) (vDot (flT n X Y i) (fx0 X Y Z T i J)) (vDot (flT n X Y i) (fx0 X Y Z T i (nxt m J))) = cl1X (flT n X Y i) (fx0 X Y Z T i J) (fx0 X Y Z T i (nxt m J)):=rfl
  have c2:clpY (fx0 X Y Z T i J) (fx0 X Y Z T i (nxt m J)) (vDot (flT n X Y i) (fx0 X Y Z T i J)) (vDot (flT n X Y i) (fx0 X Y Z T i (nxt m J))) = cl1Y (flT n X Y i) (fx0 X Y Z T i J) (fx0 X Y Z T i (nxt m J)):=rfl
  have c3:clpX (cl1X (flT n X Y i) (fx0 X Y Z T i J) (fx0 X Y Z T i (nxt m J))) (cl1Y (flT n X Y i) (fx0 X Y Z T i J) (fx0 X Y Z T i (nxt m J))) (nSub (flE n X Y i) (vDot (flT n X Y i) (cl1X (flT n X Y i) (fx0 X Y Z T i J) (fx0 X Y Z T i (nxt m J))))) (nSub (flE n X Y i) (vDot (flT n X Y i) (cl1Y (flT n X Y i) (fx0 X Y Z T i J) (fx0 X Y Z T i (nxt m J))))) = flA n X Y m Z T i J:=rfl
  have c4:clpY (cl1X (flT n X Y i) (fx0 X Y Z T i J) (fx0 X Y Z T i (nxt m J))) (cl1Y (flT n X Y i) (fx0 X Y Z T i J) (fx0 X Y Z T i (nxt m J))) (nSub (flE n X Y i) (vDot (flT n X Y i) (cl1X (flT n X Y i) (fx0 X Y Z T i J) (fx0 X Y Z T i (nxt m J))))) (nSub (flE n X Y i) (vDot (flT n X Y i) (cl1Y (flT n X Y i) (fx0 X Y Z T i J) (fx0 X Y Z T i (nxt m J))))) = flB n X Y m Z T i J:=rfl
  simp only [forall_eq,mnW_eq,eT,eE,e0,e1,c1,c2,c3,c4]
  have iA:inR (flA n X Y m Z T i J).1.1∧inR (flA n X Y m Z T i J).2.1:=⟨clpX_in1 (clpX_in1 (i1 _)),clpX_in2 (clpX_in2 (i2 _))⟩
  have iB:inR (flB n X Y m Z T i J).1.1∧inR (flB n X Y m Z T i J).2.1:=⟨clpY_in1 (clpY_in1 (i1 _)),clpY_in2 (clpY_in2 (i2 _))⟩
  have iw:∀ a b,inR (mnW a b):=fun a b => wrap_inR _
  refine ⟨by omega,by omega,iw _ _,iw _ _,iw _ _,iw _ _,iw _ _,iw _ _,iw _ _,iw _ _,clpX_in1 (i1 _),clpX_in2 (i2 _),clpY_in1 (i1 _),clpY_in2 (i2 _),clpX_in1 (i1 _),clpX_in2 (i2 _),clpY_in1 (i1 _),clpY_in2 (i2 _),?_⟩
  have hS:flS n X Y m Z T i = flK (edN n X Y i) (vLoc (X i) (Y i)) (flA n X Y m Z T i J) (flB n X Y m Z T i J) (vLoc (Z (flW n X Y m Z T i)) (T (flW n X Y m Z T i))) (nPos (nNeg (edH n X Y Z T i (flW n X Y m Z T i)))):=by unfold flS; rw [hJq]
  rw [hS]
  generalize flA n X Y m Z T i J = a at *
  generalize flB n X Y m Z T i J = b at *
  have iN:inR (edN n X Y i).1.1∧inR (edN n X Y i).2.1:=⟨of_eq_true iNorm1,of_eq_true iNorm2⟩
  generalize hnv:edN n X Y i = nv at *
  generalize agK m Z T nv J = ls at *
  have b69:bytesT prog 69 = 48:=byt69
  refine loopN_go (fun (s:Nat) => s≤2) (fun s => 2 - s) (fun s => [(24,i64 (s:Int))]) (fun s => [(102,fam1 29 5 [i64 nv.1.1,bo nv.1.2,i64 nv.2.1,bo nv.2.2,.own 105 0 (tcN nv a b s) 6] none),(105,famN (tcN nv a b s) 6 69 (tchs (tcP nv (vLoc (X i) (Y i)) a b) (tcD nv a b)) none)]) [66,58,57,46,35,34,20,16,10,9,2,1,0] [125,126,129,25,130,131,132,133,134,135,26,136,137,138,139,140,141,142,143,144,145,146,147,148,149,150,151,127,128,24] 1 0 (by kernel_rfl) (Nat.zero_le _) ⟨[(105,none)],?_,?_,?_,?_⟩ ?_
  ·simp only [go_sem]
  ·simp only [go_sem,tcN]
  ·simp only [go_sem]
  ·simp [goodNames,asg]
  intro s hs
  match s with
  | 0 =>
   rw [tcN_0]
   simp only [go_sem,c273,k83,k145,c29,c268,k149,k140,k69,k47,kclp,k46,k138,k111,k143,gx_pts0,gx_pts1,hg,hg',hn,hm,hxi,iA,iB,b69]
   simp only [Int.reduceBEq,Bool.false_eq_true,false_imp_iff,true_imp_iff,true_and,and_true,reduceCtorEq]
   refine ⟨iN.1,iN.2,fun ha z hz => ⟨1,by omega,by omega,[(105,some 132)],?_⟩,fun ha z hz => ⟨1,by omega,by omega,[(105,some 105)],?_⟩⟩
   ·rw [tcN_1,if_pos ha]
    simp only [go_sem]
    refine ⟨by rw [hz]; decide,fun q hq => ?_,by simp [goodNames,asg]⟩
    have:q = 0:=by omega
    subst this
    rw [if_neg (by omega)]
    have e:∀ c d:V2,∀ f:Nb,c = tcP nv (vLoc (X i) (Y i)) a b 0→f = tcD nv a b 0→List.take 6 (List.drop ((0 - 0) * 6) [i64 c.1.1,bo c.1.2,i64 c.2.1,bo c.2.2,i64 f.1,bo f.2]) = tchs (tcP nv (vLoc (X i) (Y i)) a b) (tcD nv a b) 0:=fun c d f h1 h2 => by
     subst h1 h2
     rfl
    rw [e _ zV _ (if_pos ⟨ha,rfl⟩).symm (if_pos ⟨ha,rfl⟩).symm]
    exact fitL_clean rfl
   ·rw [tcN_1,if_neg ha]
    simp only [go_sem]
    exact ⟨by rw [hz]; decide,fun q hq => absurd hq (Nat.not_lt_zero q),by simp [goodNames,asg]⟩
  | 1 =>
   have hp1:tcN nv a b 1≤1:=by
    rw [tcN_1]
    split <;> omega
   simp only [go_sem,c273,k83,k145,c29,c268,k149,k140,k69,k47,kclp,k46,k138,k111,k143,gx_pts0,gx_pts1,hg,hg',hn,hm,hxi,iA,iB,b69]
   simp only [Int.reduceBEq,Bool.false_eq_true,false_imp_iff,true_imp_iff,true_and,and_true,reduceCtorEq]
   refine ⟨iN.1,iN.2,fun hb => ⟨by omega,by omega,fun z hz => ⟨2,by omega,by omega,[(105,some 134)],?_⟩⟩,fun hb z hz => ⟨2,by omega,by omega,[(105,some 105)],?_⟩⟩
   ·rw [tcN_2,if_pos hb]
    simp only [go_sem]
    refine ⟨by rw [hz]; decide,fun q hq => ?_,by simp [goodNames,asg]⟩
    by_cases hqp:q < tcN nv a b 1
    ·rw [if_pos hqp]
     exact fitL_clean rfl
    ·rw [if_neg hqp]
     have hq2:q = tcN nv a b 1:=by omega
     have hq3:¬ ((vDot nv a).1≤0∧q = 0):=fun ⟨u1,u2⟩ => by
      rw [tcN_1,if_pos u1] at hq2
      omega
     have e:∀ c d:V2,∀ f:Nb,c = tcP nv (vLoc (X i) (Y i)) a b q→f = tcD nv a b q→List.take 6 (List.drop ((q - tcN nv a b 1) * 6) [i64 c.1.1,bo c.1.2,i64 c.2.1,bo c.2.2,i64 f.1,bo f.2]) = tchs (tcP nv (vLoc (X i) (Y i)) a b) (tcD nv a b) q:=fun c d f h1 h2 => by
      subst h1 h2
      rw [← hq2,Nat.sub_self]
      rfl
     rw [e _ zV _ (if_neg hq3).symm (if_neg hq3).symm]
     exact fitL_clean rfl
   ·rw [tcN_2,if_neg hb,Nat.add_zero]
    simp only [go_sem]
    exact ⟨by rw [hz]; decide,fun q hq => fitL_clean rfl,by simp [goodNames,asg]⟩
  | 2 =>
   simp only [go_sem,c273,k83,k145,c29,c268,k149,k140,k69,k47,kclp,k46,k138,k111,k143,gx_pts0,gx_pts1,hg,hg',hn,hm,hxi,iA,iB,b69]
   refine ⟨fun h => h.elim,fun _ => ?_⟩
   refine ⟨fun h => ?_,fun h => ?_⟩
   ·have h:0 < tcN nv a b 2:=by omega
    obtain ⟨k1,k2,k3⟩:=flK_tc (p:=vLoc (X i) (Y i)) (q:=vLoc (Z (flW n X Y m Z T i)) (T (flW n X Y m Z T i))) (d:=nPos (nNeg (edH n X Y Z T i (flW n X Y m Z T i)))) h
    refine alk_mf k1 k2 fun q hq => ?_
    rw [(k3 q hq).1,(k3 q hq).2]
    rfl
   have h:¬ 0 < tcN nv a b 2:=by omega
   rw [flK_no h]
   refine loopC_go (fun (j:Nat) => j≤m) (fun j => m - j) (fun j => [(28,i64 (j:Int)),(27,i64 ((lsQ (edH n X Y Z T i) ls j).1:Int))])
    (fun j => [(20,fam1 24 2 [i64 (lsQ (edH n X Y Z T i) ls j).2.1,bo (lsQ (edH n X Y Z T i) ls j).2.2] none)]) [105,102,66,58,57,46,35,34,16,10,9,2,1,0] [157,158,159,160,161,164,165,166,167,168,169,170,171,172,173,29,174,175,176,177,178,179,180,181,182,183,27,162,163,28] 0 (by kernel_rfl) ?_ (Nat.zero_le _) ?_ ?_
   ·intro j _; simp [goodNames,asg]
   ·simp only [go_sem]
    repeat' (first | rfl | apply And.intro)
   intro l hl
   simp only [go_sem,c273,k83,k145,c29,c268,k149,k140,k69,k47,kclp,k46,k138,k111,k143,gx_pts0,gx_pts1,hg,hg',hn,hm,hxi,iA,iB,b69]
   have eH:vDot nv (vLoc (mnW (X i) (Z l)) (mnW (Y i) (T l))) = edH n X Y Z T i l:=by
    rw [← hnv]
    rfl
   have hw2:l < m→IntKind.i64.wrap ((l:Int) + 1) = ((l + 1:Nat):Int):=fun h => by rw [wrap_in (inRo (by omega))]; rfl
   simp only [forall_eq,mnW_eq,eH]
   refine ⟨fun hin2 => ?_,fun hin2 => ?_⟩
   ·have hlt:l < m:=by omega
    refine ⟨by omega,hin2,iw _ _,iw _ _,iN.1,iN.2,fun h => ⟨l + 1,by omega,by omega,?_⟩,fun h => ⟨l + 1,by omega,by omega,?_⟩⟩
    ·rw [lsQ_hit (h.imp (fun q => by simpa using q) (fun q => q)),hw2 hlt]
     exact ⟨⟨rfl,rfl⟩,rfl,rfl⟩
    ·have h1:¬ l = 0:=by
      intro q
      subst q
      exact absurd h.1 (by decide)
     rw [lsQ_not (fun q => q.elim h1 h.2),hw2 hlt]
     exact ⟨⟨rfl,rfl⟩,rfl,rfl⟩
   ·have e2:l = m - 1 + 1:=by omega
    have eW:lsQ (edH n X Y Z T i) ls l = (flW n X Y m Z T i,edH n X Y Z T i (flW n X Y m Z T i)):=by rw [e2,lsQ_eq]; rfl
    have hW:flW n X Y m Z T i < m:=by
     have:=leI_lt (h:=edH n X Y Z T i) (m - 1)
     unfold flW
     omega
    rw [eW]
    have hzw:=hZ _ hW
    have hr:inR (edH n X Y Z T i (flW n X Y m Z T i)).1:=rg_inR hgt_rg
    exact ⟨by omega,by omega,hzw.1,hzw.2,hr,of_eq_true (iNeg hr),alk_one rfl⟩
  | q + 3 => omega
def inV (v:V2):Prop:=inR v.1.1∧inR v.2.1
def inM (m:Mf):Prop:=inV m.nv∧m.n≤2∧∀ j,inV (m.P j)∧inR (m.D j).1
theorem inV_norm {a b c d:Int}:inV (vNorm a b c d):=⟨of_eq_true iNorm1,of_eq_true iNorm2⟩
theorem inV_unit {u:V2}:inV (vUnit u).2:=⟨of_eq_true iUnit1,of_eq_true iUnit2⟩
theorem inV_add {u v:V2}:inV (vAdd u v):=⟨of_eq_true iVAdd1,of_eq_true iVAdd2⟩
theorem inV_sub {u v:V2}:inV (vSub u v):=⟨of_eq_true iVSub1,of_eq_true iVSub2⟩
theorem inV_loc {x y:Int}:inV (vLoc x y):=⟨of_eq_true iLoc1,of_eq_true iLoc2⟩
theorem inV_scale {u:V2} {k:Nb}:inV (vScale u k):=⟨of_eq_true iScale1,of_eq_true iScale2⟩
theorem inR_z:inR 0:=by unfold inR; decide
theorem inV_z:inV zV:=⟨inR_z,inR_z⟩
theorem inR_ps {a:Nb} (h:inR a.1):inR (nPos a).1:=of_eq_true (iPos h)
theorem inR_ng {a:Nb} (h:inR a.1):inR (nNeg a).1:=of_eq_true (iNeg h)
theorem inR_sb {a b:Nb}:inR (nSub a b).1:=of_eq_true iSub
theorem inR_dot {u v:V2}:inR (vDot u v).1:=of_eq_true iVDot
theorem inR_hgt {a b c d x y:Int}:inR (hgt a b c d x y).1:=rg_inR hgt_rg
theorem mf1_in {nv p:V2} {d:Nb} (hn:inV nv) (hp:inV p) (hd:inR d.1):inM (mf1 nv p d):=⟨hn,by show 1≤2; omega,fun _ => ⟨hp,hd⟩⟩
theorem mf0_in:inM mf0:=⟨inV_z,by show 0≤2; omega,fun _ => ⟨inV_z,inR_z⟩⟩
theorem trnS_in {m:Mf} (h:inM m):inM (trnS m):=⟨inV_scale,h.2⟩
theorem twoS_in {x y r x' y' r':Int}:inM (twoS x y r x' y' r'):=by
 refine mf1_in ?_ inV_add (inR_ps inR_sb)
 unfold twN
 split
 ·exact inV_unit
 ·exact ⟨of_eq_true inR_one,inR_z⟩
theorem deepS_in {n:Nat} {X Y:Nat→Int} {x y r:Int} {s:AxT} (h:inR s.2.2.1):inM (deepS n X Y x y r s):=mf1_in inV_norm inV_sub (inR_ps (inR_ng h))
theorem rdS_in {n:Nat} {X Y:Nat→Int} {x y r:Int}:inM (rdS n X Y x y r):=by
 refine mf1_in ?_ inV_add (inR_ps inR_sb)
 unfold rdV
 split
 ·exact inV_norm
 ·exact inV_unit
theorem pdS_in {n:Nat} {X Y:Nat→Int} {x y r:Int}:inM (pdS n X Y x y r):=by
 unfold pdS
 split
 ·exact deepS_in (axSt_in (fun _ => rg_inR gD_rg) (fun _ => rg_inR gD_rg) _)
 ·exact rdS_in
theorem flM_in {nv p x y:V2} (h:inV nv):inM (flM nv p x y):=by
 unfold flM
 split
 ·split
  ·refine ⟨h,by show 2≤2; omega,fun j => ?_⟩
   dsimp only
   split
   ·exact ⟨inV_add,inR_ng inR_dot⟩
   ·exact ⟨inV_add,inR_ng inR_dot⟩
  ·exact mf1_in h inV_add (inR_ng inR_dot)
 ·exact mf1_in h inV_add (inR_ng inR_dot)
theorem flS_in {n m:Nat} {X Y Z T:Nat→Int} {i:Nat}:inM (flS n X Y m Z T i):=by
 unfold flS flK
 split
 ·exact flM_in inV_norm
 ·exact mf1_in inV_norm inV_loc (inR_ps (inR_ng inR_hgt))
theorem clipS_in {k x y r:Int} {n:Nat} {X Y:Nat→Int} {k' x' y' r':Int} {m:Nat} {Z T:Nat→Int}:inM (clipS k x y r n X Y k' x' y' r' m Z T):=by
 unfold clipS
 split
 ·split
  ·split
   ·exact twoS_in
   ·exact trnS_in pdS_in
  ·split
   ·exact pdS_in
   ·split
    ·exact flS_in
    ·exact trnS_in flS_in
 ·exact mf0_in
theorem axF_ix1 {G:Nat→Nb} {s:AxT} {n:Nat} (h:s.1 = 0∧0≤s.2.1∧s.2.1 < n):∀ i:Nat,((axF 1 G s i).1 = 0∧0≤(axF 1 G s i).2.1∧(axF 1 G s i).2.1 < n)∨((axF 1 G s i).1 = 1∧0≤(axF 1 G s i).2.1∧(axF 1 G s i).2.1 < i)
 | 0 => .inl h
 | i + 1 => by
  have ih:=axF_ix1 (G:=G) h i
  by_cases c:(axF 1 G s i).2.1 < 0∨0 < cmpS (whV (G i).1) (whV (axF 1 G s i).2.2.1)
  ·rw [axF_hit c]
   dsimp only
   exact .inr ⟨rfl,by omega,by omega⟩
  ·rw [axF_not c]
   omega
theorem axF_of {o:Int} {G:Nat→Nb}:∀ i:Nat,(axF o G ax0 (i + 1)).1 = o
 | 0 => by rw [axF_hit (.inl (by show (-1:Int) < 0; decide))]
 | i + 1 => by
  have ih:=axF_of (o:=o) (G:=G) i
  by_cases c:(axF o G ax0 (i + 1)).2.1 < 0∨0 < cmpS (whV (G (i + 1)).1) (whV (axF o G ax0 (i + 1)).2.2.1)
  ·rw [axF_hit c]
  ·rw [axF_not c,ih]
theorem axSt_ix2 {n m:Nat} {G G':Nat→Nb} (h:0 < n):((axSt n G m G' 2).1 = 0∧0≤(axSt n G m G' 2).2.1∧(axSt n G m G' 2).2.1 < n)∨((axSt n G m G' 2).1 = 1∧0≤(axSt n G m G' 2).2.1∧(axSt n G m G' 2).2.1 < m):=by
 have h1:=axF_ix (o:=0) (G:=G) (n - 1)
 have h2:=axF_of (o:=0) (G:=G) (n - 1)
 rw [show n - 1 + 1 = n by omega] at h1 h2
 exact axF_ix1 (G:=G') ⟨h2,h1⟩ m
def c233:Con
 | [.agg [.v (.int .i64 k),.v (.int .i64 x),.v (.int .i64 y),.v (.int .i64 r),.ro n 2 g],.agg [.v (.int .i64 k'),.v (.int .i64 x'),.v (.int .i64 y'),.v (.int .i64 r'),.ro m 2 g'],.v (.int .i64 i)] => some ([spots n g,spots m g',checkS k x y r n (gx g 0) (gx g 1) = 0,checkS k' x' y' r' m (gx g' 0) (gx g' 1) = 0,¬ k = 1,¬ k' = 1,0≤i,i < n],mfA (flS n (gx g 0) (gx g 1) m (gx g' 0) (gx g' 1) i.toNat))
 | _ => none
theorem con233:ConOK prog 233 c233:=ConOK.goR (G:=[(273,c273),(274,k83),(34,k145),(29,c29),(268,c268),(276,k149),(141,k140),(213,k69),(142,k47),(277,kclp),(81,k46),(86,k138),(92,k111),(78,k143)]) (H:=[(9,⟨[(6,.made 5)],[]⟩),(11,⟨[(3,.slot 11)],[]⟩),(14,⟨[(10,.made 8),(11,.made 9)],[]⟩),(16,⟨[(12,.slot 20),(13,.slot 21)],[]⟩),(17,⟨[(16,.slot 20),(17,.slot 21)],[]⟩),(27,⟨[(13,.slot 23)],[]⟩),(34,⟨[(11,.made 10)],[]⟩),(36,⟨[(3,.slot 11)],[]⟩),(37,⟨[(14,.slot 23)],[]⟩)]) (.cons con273 (.cons kon83 (.cons kon145 (.cons con29 (.cons con268 (.cons kon149 (.cons kon140 (.cons kon69 (.cons kon47 (.cons konclp (.cons kon46 (.cons kon138 (.cons kon111 (.cons kon143 .nil)))))))))))))) func233 fun l ob rr hc hob => by
 unfold c233 at hc
 split at hc
 ·rename_i k x y r n g k' x' y' r' m g' i
  cases hc
  have hs:spots n g:=hob _ (by simp)
  have hs':spots m g':=hob _ (by simp)
  have i0:0≤i:=hob _ (by simp)
  have i1:i < n:=hob _ (by simp)
  have e:i = (i.toNat:Int):=by omega
  refine ⟨[edA k x y r n (gx g 0) (gx g 1),edA k' x' y' r' m (gx g' 0) (gx g' 1),i64 (i.toNat:Int)],fun w I vs h => ?_,by kernel_rfl,vc233 k x y r n _ _ k' x' y' r' m _ _ i.toNat (fun i hi => (hs i hi).2) (fun i hi => (hs' i hi).2) (hob _ (by simp)) (hob _ (by simp)) (hob _ (by simp)) (hob _ (by simp)) (by omega)⟩
  rw [← e]
  obtain ⟨x1,xs,rfl,p1,p2⟩:=h.inv
  obtain ⟨x2,ys,rfl,p3,p4⟩:=p2.inv
  exact .cons (Rs_form hs _ p1) (.cons (Rs_form hs' _ p3) p4)
 ·cases hc
theorem bnd_man {v:V2} {n:Nat} {P:Nat→V2} {D:Nat→Nb}:bnd (manC v n P D) = .agg [i64 v.1.1,bo v.1.2,i64 v.2.1,bo v.2.2,.ro n 6 (tchs P D)]:=(rfl)
attribute [go_sem] bnd_man
def clipA (k x y r:Int) (n:Nat) (X Y:Nat→Int) (k' x' y' r':Int) (m:Nat) (Z T:Nat→Int):AV:=.tup [mfA (clipS k x y r n X Y k' x' y' r' m Z T),bo (clipB k x y r n X Y k' x' y' r' m Z T)]
theorem vc170 (k x y r:Int) (n:Nat) (X Y:Nat→Int) (k' x' y' r':Int) (m:Nat) (Z T:Nat→Int) (hX:∀ i,i < n→inR (X i)∧inR (Y i)) (hZ:∀ i,i < m→inR (Z i)∧inR (T i)) (hn:n≤9223372036854775806) (hm:m≤9223372036854775806) (h1:inR x) (h2:inR y) (h3:inR r) (h4:inR x') (h5:inR y') (h6:inR r') :
  fnVC prog [(215,c261),(228,c228),(229,c229),(230,c230),(231,ktrn),(232,c232),(233,c233)] [] Tryz.f170 [edA k x y r n X Y,edA k' x' y' r' m Z T] (alk (clipA k x y r n X Y k' x' y' r' m Z T)):=by
 refine fnVC_go (rs:=[.cell 4 29,.tmp 5]) rfl rfl ?_
 have hg:spots n fun i => [i64 (X i),i64 (Y i)]:=fun i hi => ⟨rfl,hX i hi⟩
 have hg':spots m fun i => [i64 (Z i),i64 (T i)]:=fun i hi => ⟨rfl,hZ i hi⟩
 simp only [go_sem,c261,c228,c229,c230,ktrn,c232,c233,gx_pts0,gx_pts1,hg,hg',hn,hm,h1,h2,h3,h4,h5,h6]
 simp only [forall_eq,implies_true,true_and]
 have h0:¬ (checkS k x y r n X Y = 0∧checkS k' x' y' r' m Z T = 0∧apS k x y r n X Y k' x' y' r' m Z T = false)→alk (clipA k x y r n X Y k' x' y' r' m Z T) (.tup [.agg [i64 0,bo false,i64 0,bo false,.v (.slice none 0 0)],bo false]):=fun h => by
  unfold clipA
  rw [show clipS k x y r n X Y k' x' y' r' m Z T = mf0 from if_neg h,show clipB k x y r n X Y k' x' y' r' m Z T = false from decide_eq_false h]
  exact alk_form alk_nil6
 refine ⟨fun h => h0 fun q => ?_,fun h => ?_⟩
 ·rcases h with (h | h) | h
  ·exact bne_iff_ne.1 h q.1
  ·exact bne_iff_ne.1 h q.2.1
  ·rw [h] at q
   exact absurd q.2.2 (by decide)
 have hA:checkS k x y r n X Y = 0:=bne_eq_false_iff_eq.1 h.1.1
 have hB:checkS k' x' y' r' m Z T = 0:=bne_eq_false_iff_eq.1 h.1.2
 have hC:=h.2
 have hall:=And.intro hA (And.intro hB hC)
 have eB:clipB k x y r n X Y k' x' y' r' m Z T = true:=decide_eq_true hall
 have eS:clipS k x y r n X Y k' x' y' r' m Z T = _:=if_pos hall
 unfold clipA
 rw [eB,eS]
 have kk:=(check_1 hA).1
 have kk':=(check_1 hB).1
 refine ⟨fun q => ?_,fun q => ⟨fun q1 => ?_,fun q1 => ⟨fun q2 => ?_,fun q2 => ?_⟩⟩⟩
 ·have k1:k = 1:=by simpa using q.1
  have k2:k' = 1:=by simpa using q.2
  rw [if_pos k1,if_pos k2]
  exact fun _ _ _ h => h
 ·have k2:k' = 1:=by simpa using q1
  have k1:¬ k = 1:=by
   rw [q1,Bool.and_true] at q
   simpa using q
  rw [if_neg k1,if_pos k2]
  exact ⟨hA,hB,k1,k2,fun _ _ _ h => h⟩
 ·have k1:k = 1:=by simpa using q2
  have k2:¬ k' = 1:=by simpa using q1
  rw [if_pos k1,if_neg k2]
  exact ⟨hB,hA,k2,k1,(pdS_in (n:=m) (X:=Z) (Y:=T) (x:=x) (y:=y) (r:=r)).1.1,(pdS_in (n:=m) (X:=Z) (Y:=T) (x:=x) (y:=y) (r:=r)).1.2,fun _ _ _ h => h⟩
 ·have k1:¬ k = 1:=by simpa using q2
  have k2:¬ k' = 1:=by simpa using q1
  have h8:=fig_n hA k1
  have eX:axS k x y r n X Y k' x' y' r' m Z T = axSt n (gP n X Y m Z T) m (gP m Z T n X Y) 2:=by
   unfold axS
   rw [if_pos ⟨hA,hB⟩,if_neg k1,if_neg k2]
  have hi:=axSt_ix2 (n:=n) (m:=m) (G:=gP n X Y m Z T) (G':=gP m Z T n X Y) (by omega)
  rw [← eX] at hi
  clear eX
  generalize axS k x y r n X Y k' x' y' r' m Z T = s at *
  rw [if_neg k1,if_neg k2]
  refine ⟨fun q3 => ?_,fun q3 => ?_⟩
  ·have e:s.1 = 0:=by simpa using q3
   rw [if_pos e]
   exact ⟨hA,hB,k1,k2,by omega,by omega,fun _ _ _ h => h⟩
  ·have e:¬ s.1 = 0:=by simpa using q3
   rw [if_neg e]
   exact ⟨hB,hA,k2,k1,by omega,by omega,(flS_in (n:=m) (X:=Z) (Y:=T) (m:=n) (Z:=X) (T:=Y) (i:=s.2.1.toNat)).1.1,(flS_in (n:=m) (X:=Z) (Y:=T) (m:=n) (Z:=X) (T:=Y) (i:=s.2.1.toNat)).1.2,fun _ _ _ h => h⟩
def c170:Con
 | [.agg [.v (.int .i64 k),.v (.int .i64 x),.v (.int .i64 y),.v (.int .i64 r),.ro n 2 g],.agg [.v (.int .i64 k'),.v (.int .i64 x'),.v (.int .i64 y'),.v (.int .i64 r'),.ro m 2 g']] => some ([spots n g,spots m g',n≤9223372036854775806,m≤9223372036854775806,inR x,inR y,inR r,inR x',inR y',inR r'],
   clipA k x y r n (gx g 0) (gx g 1) k' x' y' r' m (gx g' 0) (gx g' 1))
 | _ => none
theorem con170:ConOK prog 170 c170:=ConOK.goR (G:=[(215,c261),(228,c228),(229,c229),(230,c230),(231,ktrn),(232,c232),(233,c233)]) (H:=[]) (.cons con215 (.cons con228 (.cons con229 (.cons con230 (.cons kontrn (.cons con232 (.cons con233 .nil))))))) func170 fun l ob rr hc hob => by
 unfold c170 at hc
 split at hc
 ·rename_i k x y r n g k' x' y' r' m g'
  cases hc
  have hs:spots n g:=hob _ (by simp)
  have hs':spots m g':=hob _ (by simp)
  exact ⟨[edA k x y r n (gx g 0) (gx g 1),edA k' x' y' r' m (gx g' 0) (gx g' 1)],fun w I vs h => Rs_two (Rs_form hs) (Rs_form hs') h,by kernel_rfl,vc170 k x y r n _ _ k' x' y' r' m _ _ (fun i hi => (hs i hi).2) (fun i hi => (hs' i hi).2) (hob _ (by simp)) (hob _ (by simp)) (hob _ (by simp)) (hob _ (by simp)) (hob _ (by simp)) (hob _ (by simp)) (hob _ (by simp)) (hob _ (by simp))⟩
 ·cases hc
theorem bnd_clip {k x y r:Int} {n:Nat} {X Y:Nat→Int} {k' x' y' r':Int} {m:Nat} {Z T:Nat→Int}:clipA k x y r n X Y k' x' y' r' m Z T = .tup [.agg [i64 (clipS k x y r n X Y k' x' y' r' m Z T).nv.1.1,bo (clipS k x y r n X Y k' x' y' r' m Z T).nv.1.2,i64 (clipS k x y r n X Y k' x' y' r' m Z T).nv.2.1,bo (clipS k x y r n X Y k' x' y' r' m Z T).nv.2.2,.ro (clipS k x y r n X Y k' x' y' r' m Z T).n 6 (tchs (clipS k x y r n X Y k' x' y' r' m Z T).P (clipS k x y r n X Y k' x' y' r' m Z T).D)],bo (clipB k x y r n X Y k' x' y' r' m Z T)]:=(rfl)
attribute [go_sem] bnd_clip
theorem mnS_le' {Z:Nat→Int}:∀ {n j:Nat},j < n→mnS Z n≤Z j
 | 0,j,h => absurd h (Nat.not_lt_zero j)
 | i + 1,j,h => by
  unfold mnS
  split
  ·rename_i e; subst e
   rw [show j = 0 by omega]; exact Int.le_refl _
  ·by_cases e:j = i
   ·subst e; exact Int.min_le_right _ _
   ·exact Int.le_trans (Int.min_le_left _ _) (mnS_le' (by omega))
theorem mxS_ge' {Z:Nat→Int}:∀ {n j:Nat},j < n→Z j≤mxS Z n
 | 0,j,h => absurd h (Nat.not_lt_zero j)
 | i + 1,j,h => by
  unfold mxS
  split
  ·rename_i e; subst e
   rw [show j = 0 by omega]; exact Int.le_refl _
  ·by_cases e:j = i
   ·subst e; exact Int.le_max_right _ _
   ·exact Int.le_trans (mxS_ge' (by omega)) (Int.le_max_left _ _)
theorem mnS_at {Z:Nat→Int}:∀ {n:Nat},0 < n→∃ j,j < n∧mnS Z n = Z j
 | i + 1,h => by
  unfold mnS
  split
  ·exact ⟨0,by omega,rfl⟩
  ·obtain ⟨j,j1,j2⟩:=mnS_at (Z:=Z) (n:=i) (by omega)
   by_cases e:mnS Z i≤Z i
   ·exact ⟨j,by omega,by rw [Int.min_eq_left e,j2]⟩
   ·exact ⟨i,by omega,by rw [Int.min_eq_right (by omega)]⟩
theorem mxS_at {Z:Nat→Int}:∀ {n:Nat},0 < n→∃ j,j < n∧mxS Z n = Z j
 | i + 1,h => by
  unfold mxS
  split
  ·exact ⟨0,by omega,rfl⟩
  ·obtain ⟨j,j1,j2⟩:=mxS_at (Z:=Z) (n:=i) (by omega)
   by_cases e:mxS Z i≤Z i
   ·exact ⟨i,by omega,by rw [Int.max_eq_right e]⟩
   ·exact ⟨j,by omega,by rw [Int.max_eq_left (by omega),j2]⟩
theorem mnW_v {x y:Int} (hx:-2097152≤x∧x≤2097152) (hy:-2097152≤y∧y≤2097152):mnW x y = y - x:=wrap_in (inRo (by omega))
theorem dtW_v {a b c d:Int} (ha:sm a) (hb:sm b) (hc:sm c) (hd:sm d):dtW a b c d = a * c + b * d:=by
 have h1:=sm_mul ha hc
 have h2:=sm_mul hb hd
 unfold dtW
 rw [wrap_in (x:=a * c) (inRo (by omega)),wrap_in (x:=b * d) (inRo (by omega)),wrap_in (inRo (by omega))]
end Go.Ax
end
section
set_option maxHeartbeats 4000000
namespace Go.Ax
def gd (a:Nb) (B:Int):Prop:=a.2 = false∧-B≤a.1∧a.1≤B
theorem gd_wh {a:Nb} {B:Int} (h:gd a B) (hB:B≤9223372036854775807):whV a.1 = a.1∧whF a.1 a.2 = false:=by
 obtain ⟨h1,h2,h3⟩:=h
 have hr:rg a.1:=by unfold rg; omega
 exact ⟨whV_of hr,by rw [whF_of hr]; exact h1⟩
theorem ft_bd {v C:Int} (h:-C≤v∧v≤C) (hC:C≤9223372036854775807):ftV v = v∧ftF v = false:=by
 unfold ftV ftF
 rw [if_neg (by omega),if_neg (by omega),decide_eq_false (by omega)]
 exact ⟨rfl,rfl⟩
theorem tdiv_bd {v C k:Int} (hk:0 < k) (h:-(C * k)≤v∧v≤C * k):-C≤v.tdiv k∧v.tdiv k≤C:=by
 by_cases s:0≤v
 ·rw [Int.tdiv_eq_ediv_of_nonneg s]
  have h1:0≤v / k:=Int.ediv_nonneg s (by omega)
  have h2:v / k≤C:=Int.ediv_le_of_le_mul hk h.2
  omega
 ·have e:v.tdiv k = -((-v) / k):=by
   rw [← Int.tdiv_eq_ediv_of_nonneg (show 0≤-v by omega),Int.neg_tdiv,Int.neg_neg]
  rw [e]
  have h1:0≤(-v) / k:=Int.ediv_nonneg (by omega) (by omega)
  have h2:(-v) / k≤C:=Int.ediv_le_of_le_mul hk (by omega)
  omega
theorem gd_mul {a b:Nb} {A B C:Int} (ha:gd a A) (hb:gd b B) (hA:0≤A) (lA:A≤9223372036854775807) (lB:B≤9223372036854775807) (h:A * B≤C * 4294967296) (lC:C≤9223372036854775807):gd (nMul a b) C:=by
 obtain ⟨w1,w2⟩:=gd_wh ha lA
 obtain ⟨w3,w4⟩:=gd_wh hb lB
 have m:=mul_bd hA ha.2 hb.2
 have t:=tdiv_bd (v:=a.1 * b.1) (C:=C) (k:=4294967296) (by omega) (by omega)
 obtain ⟨f1,f2⟩:=ft_bd t lC
 unfold nMul
 rw [w1,w2,w3,w4,f1,f2]
 exact ⟨rfl,t⟩
theorem gd_dot {a b c d:Nb} {A B C D E:Int} (ha:gd a A) (hb:gd b B) (hc:gd c C) (hd:gd d D) (hA:0≤A) (hC:0≤C) (lA:A≤9223372036854775807) (lB:B≤9223372036854775807) (lC:C≤9223372036854775807) (lD:D≤9223372036854775807)
  (h:A * B + C * D≤E * 4294967296) (lE:E≤9223372036854775807):gd (nDot a b c d) E:=by
 obtain ⟨w1,w2⟩:=gd_wh ha lA
 obtain ⟨w3,w4⟩:=gd_wh hb lB
 obtain ⟨w5,w6⟩:=gd_wh hc lC
 obtain ⟨w7,w8⟩:=gd_wh hd lD
 have m:=mul_bd hA ha.2 hb.2
 have m2:=mul_bd hC hc.2 hd.2
 have t:=tdiv_bd (v:=a.1 * b.1 + c.1 * d.1) (C:=E) (k:=4294967296) (by omega) (by omega)
 obtain ⟨f1,f2⟩:=ft_bd t lE
 unfold nDot
 rw [w1,w2,w3,w4,w5,w6,w7,w8,f1,f2]
 exact ⟨rfl,t⟩
theorem gd_sub {a b:Nb} {A B:Int} (ha:gd a A) (hb:gd b B) (hA:0≤A) (hB:0≤B) (l:A + B≤9223372036854775807):gd (nSub a b) (A + B):=by
 obtain ⟨w1,w2⟩:=gd_wh ha (by omega)
 obtain ⟨w3,w4⟩:=gd_wh hb (by omega)
 have t:-(A + B)≤a.1 - b.1∧a.1 - b.1≤A + B:=by have:=ha.2; have:=hb.2; omega
 obtain ⟨f1,f2⟩:=ft_bd t l
 unfold nSub
 rw [w1,w2,w3,w4,f1,f2]
 exact ⟨rfl,t⟩
theorem gd_neg {a:Nb} {A:Int} (ha:gd a A) (l:A≤9223372036854775807):gd (nNeg a) A:=by
 obtain ⟨w1,w2⟩:=gd_wh ha l
 unfold nNeg
 rw [w1,w2]
 exact ⟨rfl,by have:=ha.2; dsimp only; omega⟩
theorem gd_rat {s S:Int} (h:-S≤s∧s≤S) (l:S≤549755813887):nRat s 256 = (s * 16777216,false):=by
 have e:(s * 4294967296).tdiv 256 = s * 16777216:=by
  rw [show s * 4294967296 = (s * 16777216) * 256 by omega,Int.mul_tdiv_cancel _ (by omega)]
 have t:-(S * 16777216)≤s * 16777216∧s * 16777216≤S * 16777216:=by omega
 obtain ⟨f1,f2⟩:=ft_bd t (by omega)
 unfold nRat raV raF
 rw [if_neg (by omega),if_neg (by omega),e,f1,f2]
 rfl
theorem gd_div {a b:Nb} {A C L:Int} (ha:gd a A) (lA:A≤9223372036854775807) (hb:b.2 = false) (hL:0 < L) (hb1:L≤b.1) (hb2:b.1≤9223372036854775807) (hC:0≤C) (h:A * 4294967296≤C * L) (lC:C≤9223372036854775807):gd (nDiv a b) C:=by
 obtain ⟨w1,w2⟩:=gd_wh ha lA
 obtain ⟨w3,w4⟩:=gd_wh (a:=b) (B:=9223372036854775807) ⟨hb,by omega,hb2⟩ (by omega)
 have k:C * L≤C * b.1:=Int.mul_le_mul_of_nonneg_left hb1 hC
 have t:=tdiv_bd (v:=a.1 * 4294967296) (C:=C) (k:=b.1) (by omega) (by have:=ha.2; omega)
 obtain ⟨f1,f2⟩:=ft_bd t lC
 unfold nDiv raV raF
 rw [w1,w2,w3,w4,if_neg (by omega),if_neg (by omega),f1,f2]
 exact ⟨rfl,t⟩
theorem isq_bd {n r:Nat} (hn:n < 340282366920938463463374607431768211456) (h:n≤r * r):isq n≤r:=by
 refine Nat.not_lt.1 fun q => ?_
 have:=(isq_ok hn).1
 have:=Nat.mul_le_mul q q
 have e:(r + 1) * (r + 1) = r * r + r + r + 1:=by rw [Nat.add_mul,Nat.mul_add]; omega
 have e2:r.succ * r.succ = (r + 1) * (r + 1):=rfl
 omega
theorem isq_lo {n r:Nat} (hn:n < 340282366920938463463374607431768211456) (h:r * r≤n):r≤isq n:=by
 refine Nat.not_lt.1 fun q => ?_
 have:=(isq_ok hn).2
 have:=Nat.mul_le_mul q q
 have e2:(isq n).succ * (isq n).succ = (isq n + 1) * (isq n + 1):=rfl
 omega
theorem hyp_ok {a b:Nb} {S:Int} (ha:gd a S) (hb:gd b S) (h0:0≤S) (l:S≤2305843009213693951):(nHyp a b).2 = false∧a.1≤(nHyp a b).1∧-a.1≤(nHyp a b).1∧b.1≤(nHyp a b).1∧-b.1≤(nHyp a b).1∧(nHyp a b).1≤2 * S:=by
 obtain ⟨w1,w2⟩:=gd_wh ha (by omega)
 obtain ⟨w3,w4⟩:=gd_wh hb (by omega)
 have m1:=mul_bd h0 ha.2 ha.2
 have m2:=mul_bd h0 hb.2 hb.2
 have s1:=sq0 a.1
 have s2:=sq0 b.1
 have lS:S * S≤2305843009213693951 * 2305843009213693951:=by
  have h1:S * S≤2305843009213693951 * S:=Int.mul_le_mul_of_nonneg_right l h0
  have h2:2305843009213693951 * S≤2305843009213693951 * 2305843009213693951:=Int.mul_le_mul_of_nonneg_left l (by omega)
  omega
 have hN:(((a.1 * a.1 + b.1 * b.1).toNat:Nat):Int) = a.1 * a.1 + b.1 * b.1:=Int.toNat_of_nonneg (by omega)
 have kk:(a.1 * a.1 + b.1 * b.1).toNat < 340282366920938463463374607431768211456:=by omega
 have up:isq (a.1 * a.1 + b.1 * b.1).toNat≤(2 * S).toNat:=by
  refine isq_bd kk ?_
  have e1:(((2 * S).toNat:Nat):Int) = 2 * S:=Int.toNat_of_nonneg (by omega)
  have e2:(((2 * S).toNat * (2 * S).toNat:Nat):Int) = (2 * S) * (2 * S):=by rw [Int.natCast_mul,e1]
  have e3:(2 * S) * (2 * S) = 4 * (S * S):=by grind
  omega
 have lo:∀ z:Int,z * z≤a.1 * a.1 + b.1 * b.1→z≤(isq (a.1 * a.1 + b.1 * b.1).toNat:Int):=fun z hz => by
  by_cases hz0:z≤0
  ·omega
  ·have e1:((z.toNat:Nat):Int) = z:=Int.toNat_of_nonneg (by omega)
   have e2:((z.toNat * z.toNat:Nat):Int) = z * z:=by rw [Int.natCast_mul,e1]
   have:=isq_lo (r:=z.toNat) kk (by omega)
   omega
 have e1:(-a.1) * (-a.1) = a.1 * a.1:=Int.neg_mul_neg ..
 have e2:(-b.1) * (-b.1) = b.1 * b.1:=Int.neg_mul_neg ..
 have l1:=lo a.1 (by omega)
 have l2:=lo (-a.1) (by omega)
 have l3:=lo b.1 (by omega)
 have l4:=lo (-b.1) (by omega)
 unfold nHyp
 rw [w1,w2,w3,w4]
 generalize isq (a.1 * a.1 + b.1 * b.1).toNat = q at *
 obtain ⟨f1,f2⟩:=ft_bd (v:=(q:Int)) (C:=2 * S) (by omega) (by omega)
 rw [f1,f2]
 exact ⟨rfl,l1,l2,l3,l4,by dsimp only; omega⟩
theorem gd_zero {B:Int} (h:0≤B):gd (0,false) B:=⟨rfl,by dsimp only; omega⟩
theorem un_ok {x y S:Int} (hx:-S≤x∧x≤S) (hy:-S≤y∧y≤S) (h0:0≤S) (l:S≤70368744177664):gd (unS x false y false).2.1 4294967296∧gd (unS x false y false).2.2 4294967296:=by
 have hB:gd (unB x y).1 281474976710656∧gd (unB x y).2 281474976710656:=by
  unfold unB
  split
  ·rename_i h
   have h1:-16777216≤x∧x≤16777216:=by have:=h.1; unfold ab at this; split at this <;> omega
   have h2:-16777216≤y∧y≤16777216:=by have:=h.2; unfold ab at this; split at this <;> omega
   exact ⟨⟨rfl,by dsimp only; omega⟩,⟨rfl,by dsimp only; omega⟩⟩
  ·exact ⟨⟨rfl,by dsimp only; omega⟩,⟨rfl,by dsimp only; omega⟩⟩
 obtain ⟨k1,k2,k3,k4,k5,k6⟩:=hyp_ok hB.1 hB.2 (by omega) (by omega)
 unfold unS
 split
 ·exact ⟨gd_zero (by omega),gd_zero (by omega)⟩
 ·split
  ·exact ⟨gd_zero (by omega),gd_zero (by omega)⟩
  ·rename_i hn
   have hne:(nHyp (unB x y).1 (unB x y).2).1≠0:=fun q => hn (.inr q)
   generalize nHyp (unB x y).1 (unB x y).2 = H at *
   have hH:0 < H.1:=by omega
   refine ⟨gd_div (A:=H.1) (L:=H.1) ⟨hB.1.1,by omega⟩ (by omega) k1 hH (Int.le_refl _) (by omega) (by omega) (by omega) (by omega),gd_div (A:=H.1) (L:=H.1) ⟨hB.2.1,by omega⟩ (by omega) k1 hH (Int.le_refl _) (by omega) (by omega) (by omega) (by omega)⟩
theorem aSq (x:Int):ab x * ab x = x * x:=by
 unfold ab
 split
 ·rw [Int.neg_mul_neg]
 ·rfl
theorem aMul (x y:Int):ab (x * y) = ab x * ab y:=by rw [ab_natAbs,ab_natAbs,ab_natAbs,Int.natAbs_mul]; rfl
theorem td_ab {x q:Int} (hq:0 < q):ab (x.tdiv q) * q≤ab x∧ab x < (ab (x.tdiv q) + 1) * q:=by
 have key:∀ y:Int,0≤y→y / q * q≤y∧y < (y / q + 1) * q∧0≤y / q:=fun y hy =>
  ⟨Int.ediv_mul_le y (by omega),Int.lt_ediv_add_one_mul_self y hq,Int.ediv_nonneg hy (by omega)⟩
 by_cases s:0≤x
 ·obtain ⟨k1,k2,k3⟩:=key x s
  rw [Int.tdiv_eq_ediv_of_nonneg s]
  have e1:ab x = x:=by unfold ab; rw [if_neg (by omega)]
  have e2:ab (x / q) = x / q:=by unfold ab; rw [if_neg (by omega)]
  rw [e1,e2]
  exact ⟨k1,k2⟩
 ·obtain ⟨k1,k2,k3⟩:=key (-x) (by omega)
  have e:x.tdiv q = -((-x) / q):=by
   rw [← Int.tdiv_eq_ediv_of_nonneg (show 0≤-x by omega),Int.neg_tdiv,Int.neg_neg]
  have e1:ab x = -x:=by unfold ab; rw [if_pos (by omega)]
  have e2:ab (x.tdiv q) = (-x) / q:=by rw [e]; unfold ab; split <;> omega
  rw [e1,e2]
  exact ⟨k1,k2⟩
theorem sq_mono {a b:Int} (h0:0≤a) (h:a≤b):a * a≤b * b:=Int.mul_le_mul h h h0 (by omega)
theorem unit_sq {u v q:Int} (hq:16777216≤q) (h1:q * q≤u * u + v * v) (h2:u * u + v * v < (q + 1) * (q + 1)) :
  4294967292 * 4294967292≤(u * 4294967296).tdiv q * (u * 4294967296).tdiv q + (v * 4294967296).tdiv q * (v * 4294967296).tdiv q ∧
  (u * 4294967296).tdiv q * (u * 4294967296).tdiv q + (v * 4294967296).tdiv q * (v * 4294967296).tdiv q < 4294967553 * 4294967553:=by
 obtain ⟨a1,a2⟩:=@td_ab (u * 4294967296) q (by omega)
 obtain ⟨b1,b2⟩:=@td_ab (v * 4294967296) q (by omega)
 rw [aMul,show ab 4294967296 = 4294967296 from rfl] at a1 a2 b1 b2
 rw [← aSq u,← aSq v] at h1 h2
 rw [← aSq ((u * 4294967296).tdiv q),← aSq ((v * 4294967296).tdiv q)]
 have nu:=ab_nonneg u
 have nv:=ab_nonneg v
 have na:=ab_nonneg ((u * 4294967296).tdiv q)
 have nb:=ab_nonneg ((v * 4294967296).tdiv q)
 generalize ab ((u * 4294967296).tdiv q) = A at *
 generalize ab ((v * 4294967296).tdiv q) = B at *
 generalize ab u = U at *
 generalize ab v = V at *
 have s1:=sq_mono (Int.mul_nonneg na (show 0≤q by omega)) a1
 have s2:=sq_mono (Int.mul_nonneg nb (show 0≤q by omega)) b1
 have e1:A * q * (A * q) = A * A * (q * q):=by grind
 have e2:B * q * (B * q) = B * B * (q * q):=by grind
 have e3:U * 4294967296 * (U * 4294967296) = 18446744073709551616 * (U * U):=by grind
 have e4:V * 4294967296 * (V * 4294967296) = 18446744073709551616 * (V * V):=by grind
 rw [e1,e3] at s1
 rw [e2,e4] at s2
 have up:A * A + B * B < 4294967553 * 4294967553:=by
  refine Int.not_le.1 fun hn => ?_
  have k1:4294967553 * 4294967553 * (q * q)≤(A * A + B * B) * (q * q):=Int.mul_le_mul_of_nonneg_right hn (Int.mul_nonneg (by omega) (by omega))
  rw [Int.add_mul] at k1
  have k2:=sq_mono (a:=4294967296 * (q + 1)) (b:=4294967553 * q) (by omega) (by omega)
  have e5:4294967296 * (q + 1) * (4294967296 * (q + 1)) = 18446744073709551616 * ((q + 1) * (q + 1)):=by grind
  have e6:4294967553 * q * (4294967553 * q) = 4294967553 * 4294967553 * (q * q):=by grind
  rw [e5,e6] at k2
  omega
 refine ⟨?_,up⟩
 have t1:=sq_mono (a:=U * 4294967296) (b:=(A + 1) * q) (by omega) (by omega)
 have t2:=sq_mono (a:=V * 4294967296) (b:=(B + 1) * q) (by omega) (by omega)
 rw [e3] at t1
 rw [e4] at t2
 have e7:(A + 1) * q * ((A + 1) * q) = (A + 1) * (A + 1) * (q * q):=by grind
 have e8:(B + 1) * q * ((B + 1) * q) = (B + 1) * (B + 1) * (q * q):=by grind
 rw [e7] at t1
 rw [e8] at t2
 have lo:18446744073709551616≤(A + 1) * (A + 1) + (B + 1) * (B + 1):=by
  refine Int.not_lt.1 fun hn => ?_
  have k1:((A + 1) * (A + 1) + (B + 1) * (B + 1)) * (q * q) < 18446744073709551616 * (q * q):=Int.mul_lt_mul_of_pos_right hn (Int.mul_pos (by omega) (by omega))
  rw [Int.add_mul] at k1
  omega
 have hA:A < 4294967553:=by
  refine Int.not_le.1 fun hn => ?_
  have:=sq_mono (by decide) hn
  have:=Int.mul_nonneg nb nb
  omega
 have hB:B < 4294967553:=by
  refine Int.not_le.1 fun hn => ?_
  have:=sq_mono (by decide) hn
  have:=Int.mul_nonneg na na
  omega
 have e9:(A + 1) * (A + 1) = A * A + 2 * A + 1:=by grind
 have e10:(B + 1) * (B + 1) = B * B + 2 * B + 1:=by grind
 omega
theorem hyp_sq {u v:Int} (hu:-281474976710656≤u∧u≤281474976710656) (hv:-281474976710656≤v∧v≤281474976710656):∃ q,nHyp (u,false) (v,false) = (q,false)∧0≤q∧q * q≤u * u + v * v∧u * u + v * v < (q + 1) * (q + 1)∧q≤562949953421312:=by
 have m1:=mul_bd (A:=281474976710656) (B:=281474976710656) (by omega) hu hu
 have m2:=mul_bd (A:=281474976710656) (B:=281474976710656) (by omega) hv hv
 have s1:=sq0 u
 have s2:=sq0 v
 have hN:(((u * u + v * v).toNat:Nat):Int) = u * u + v * v:=Int.toNat_of_nonneg (by omega)
 obtain ⟨k1,k2⟩:=isq_ok (n:=(u * u + v * v).toNat) (by omega)
 have hq:isq (u * u + v * v).toNat≤562949953421312:=by
  refine isq_bd (by omega) ?_
  omega
 have e:nHyp (u,false) (v,false) = ((isq (u * u + v * v).toNat:Int),false):=by
  unfold nHyp
  dsimp only
  rw [whV_of (by unfold rg; omega),whV_of (by unfold rg; omega),whF_of (by unfold rg; omega),whF_of (by unfold rg; omega),ftV_of (by unfold rg; omega),ftF_of (by unfold rg; omega)]
  rfl
 refine ⟨(isq (u * u + v * v).toNat:Int),e,Int.natCast_nonneg _,?_,?_,by omega⟩
 ·rw [← Int.natCast_mul]; omega
 ·have:(((isq (u * u + v * v).toNat + 1) * (isq (u * u + v * v).toNat + 1):Nat):Int) = ((isq (u * u + v * v).toNat:Int) + 1) * ((isq (u * u + v * v).toNat:Int) + 1):=by rw [Int.natCast_mul]; rfl
  omega
theorem un_big {x y S:Int} (hx:-S≤x∧x≤S) (hy:-S≤y∧y≤S) (h0:0≤S) (l:S≤70368744177664):∃ u v,unB x y = ((u,false),(v,false))∧(-281474976710656≤u∧u≤281474976710656)∧(-281474976710656≤v∧v≤281474976710656)∧((u = 0∧v = 0)∨16777216≤ab u∨16777216≤ab v):=by
 unfold unB
 split
 ·rename_i h
  have h1:-16777216≤x∧x≤16777216:=by have:=h.1; unfold ab at this; split at this <;> omega
  have h2:-16777216≤y∧y≤16777216:=by have:=h.2; unfold ab at this; split at this <;> omega
  refine ⟨_,_,rfl,by omega,by omega,?_⟩
  unfold ab
  (repeat' split) <;> omega
 ·rename_i h
  refine ⟨_,_,rfl,by omega,by omega,?_⟩
  omega
theorem un_eq {x y S:Int} (hx:-S≤x∧x≤S) (hy:-S≤y∧y≤S) (h0:0≤S) (l:S≤70368744177664) (h:(unS x false y false).1 = true):∃ a b,(unS x false y false).2 = ((a,false),(b,false))∧4294967292 * 4294967292≤a * a + b * b∧a * a + b * b < 4294967553 * 4294967553∧(-4294967296≤a∧a≤4294967296)∧(-4294967296≤b∧b≤4294967296):=by
 obtain ⟨g1,g2⟩:=un_ok hx hy h0 l
 obtain ⟨u,v,hB,hu,hv,hz⟩:=un_big hx hy h0 l
 obtain ⟨q,e,q0,q1,q2,q3⟩:=hyp_sq hu hv
 have hw1:whF x false = false:=whF_of (by unfold rg; omega)
 have hw2:whF y false = false:=whF_of (by unfold rg; omega)
 have hq:¬ ((nHyp (unB x y).1 (unB x y).2).2 = true∨(nHyp (unB x y).1 (unB x y).2).1 = 0):=fun c => by
  unfold unS at h
  rw [if_neg (by rw [hw1,hw2]; simp),if_pos c] at h
  cases h
 have hU:unS x false y false = (true,nDiv (unB x y).1 (nHyp (unB x y).1 (unB x y).2),nDiv (unB x y).2 (nHyp (unB x y).1 (unB x y).2)):=by
  unfold unS
  rw [if_neg (by rw [hw1,hw2]; simp),if_neg hq]
 rw [hB] at hq hU
 dsimp only at hq hU
 rw [e] at hq hU
 have hq0:q≠0:=fun c => hq (.inr c)
 rw [hU] at g1 g2 ⊢
 have big:16777216≤q:=by
  refine Int.not_lt.1 fun hn => ?_
  have k:(q + 1) * (q + 1)≤16777216 * 16777216:=sq_mono (by omega) (by omega)
  have s1:=sq0 u
  have s2:=sq0 v
  rcases hz with ⟨z1,z2⟩ | z | z
  ·subst z1 z2
   have:q * q≤0:=by omega
   have:0 < q * q:=Int.mul_pos (by omega) (by omega)
   omega
  ·have:=sq_mono (a:=16777216) (by decide) z
   rw [aSq] at this
   omega
  ·have:=sq_mono (a:=16777216) (by decide) z
   rw [aSq] at this
   omega
 obtain ⟨r1,r2⟩:=unit_sq big q1 q2
 have ev:∀ w:Int,(-281474976710656≤w∧w≤281474976710656)→(nDiv (w,false) (q,false)).2 = false→(nDiv (w,false) (q,false)) = ((w * 4294967296).tdiv q,false):=fun w hw hf => by
  have hval:(nDiv (w,false) (q,false)).1 = (w * 4294967296).tdiv q:=by
   show raV (whV w) (whV q) = _
   rw [whV_of (by unfold rg; omega),whV_of (by unfold rg; omega)]
   unfold raV
   rw [if_neg hq0]
   have t:=tdiv_bd (v:=w * 4294967296) (C:=1208925819614629174706176) (k:=q) (by omega) (by
    have:1208925819614629174706176 * 16777216≤1208925819614629174706176 * q:=by omega
    omega)
   have hf':raF (whV w) (whV q) = false:=by
    have:(raF (whV w) (whV q) || (whF w false || whF q false)) = false:=hf
    rw [Bool.or_eq_false_iff] at this
    exact this.1
   rw [whV_of (by unfold rg; omega),whV_of (by unfold rg; omega)] at hf'
   unfold raF at hf'
   rw [if_neg hq0] at hf'
   unfold ftF at hf'
   have:=of_decide_eq_false hf'
   exact ftV_of (by unfold rg; omega)
  exact Prod.ext hval hf
 have d1:=ev u hu g1.1
 have d2:=ev v hv g2.1
 dsimp only at g1 g2 ⊢
 rw [d1] at g1 ⊢
 rw [d2] at g2 ⊢
 exact ⟨_,_,rfl,r1,r2,g1.2,g2.2⟩
end Go.Ax
end
section
set_option maxHeartbeats 4000000
set_option maxRecDepth 100000
namespace Go.Ax
theorem gd_le {a:Nb} {A B:Int} (h:gd a A) (l:A≤B):gd a B:=⟨h.1,by have:=h.2; omega⟩
def uv (v:V2):Prop:=v.1.2 = false∧v.2.2 = false∧4294967292 * 4294967292≤v.1.1 * v.1.1 + v.2.1 * v.2.1∧v.1.1 * v.1.1 + v.2.1 * v.2.1 < 4294967553 * 4294967553∧(-4294967296≤v.1.1∧v.1.1≤4294967296)∧(-4294967296≤v.2.1∧v.2.1≤4294967296)
theorem uv_gd {v:V2} (h:uv v):gd v.1 4294967296∧gd v.2 4294967296:=⟨⟨h.1,h.2.2.2.2.1⟩,h.2.1,h.2.2.2.2.2⟩
theorem uv_un {v:V2} {S:Int} (h1:gd v.1 S) (h2:gd v.2 S) (h0:0≤S) (l:S≤70368744177664) (h:(vUnit v).1 = true):uv (vUnit v).2:=by
 have e:vUnit v = unS v.1.1 false v.2.1 false:=by
  unfold vUnit
  rw [h1.1,h2.1]
 rw [e] at h ⊢
 obtain ⟨a,b,e2,k1,k2,k3,k4⟩:=un_eq h1.2 h2.2 h0 l h
 rw [e2]
 exact ⟨rfl,rfl,k1,k2,k3,k4⟩
theorem un_true {x y S:Int} (hx:-S≤x∧x≤S) (hy:-S≤y∧y≤S) (h0:0≤S) (l:S≤70368744177664) (h:x≠0∨y≠0):(unS x false y false).1 = true:=by
 have hw1:whF x false = false:=whF_of (by unfold rg; omega)
 have hw2:whF y false = false:=whF_of (by unfold rg; omega)
 obtain ⟨u,v,hB,hu,hv,hz⟩:=un_big hx hy h0 l
 obtain ⟨q,e,q0,q1,q2,q3⟩:=hyp_sq hu hv
 have hne:¬ (u = 0∧v = 0):=fun c => by
  unfold unB at hB
  split at hB
  ·have e1:=congrArg (fun p => p.1.1) hB
   have e2:=congrArg (fun p => p.2.1) hB
   dsimp only at e1 e2
   omega
  ·have e1:=congrArg (fun p => p.1.1) hB
   have e2:=congrArg (fun p => p.2.1) hB
   dsimp only at e1 e2
   omega
 have hq:q≠0:=fun c => by
  subst c
  have s1:=sq0 u
  have s2:=sq0 v
  have e1:u * u = 0:=by omega
  have e2:v * v = 0:=by omega
  rcases Int.mul_eq_zero.1 e1 with z | z <;> rcases Int.mul_eq_zero.1 e2 with z' | z' <;> exact hne ⟨z,z'⟩
 unfold unS
 rw [if_neg (by rw [hw1,hw2]; simp),hB]
 dsimp only
 rw [e,if_neg (by simpa using hq)]
theorem int_in {k:Int} (h:-2147483647≤k∧k≤2147483647):nInt k = (k * 4294967296,false):=by
 unfold nInt
 rw [ftV_of (by unfold rg; omega),ftF_of (by unfold rg; omega)]
 rfl
theorem loc_in {x y:Int} (hx:-549755813887≤x∧x≤549755813887) (hy:-549755813887≤y∧y≤549755813887):vLoc x y = ((x * 16777216,false),(y * 16777216,false)):=by
 unfold vLoc
 rw [gd_rat (S:=549755813887) (by omega) (by omega),gd_rat (S:=549755813887) (by omega) (by omega)]
def sml (n:Nat) (X Y:Nat→Int):Prop:=∀ i,i < n→(-12000≤X i∧X i≤12000)∧(-12000≤Y i∧Y i≤12000)
theorem edge_ne {n:Nat} {X Y:Nat→Int} (hc:convexS n X Y = true) {i:Nat} (hi:i < n):X (nxt n i) - X i≠0∨Y (nxt n i) - Y i≠0:=by
 obtain ⟨h3,_,hcv⟩:=convexS_iff.1 hc
 refine Classical.byContradiction fun hn => ?_
 have e1:X (nxt n i) - X i = 0:=by omega
 have e2:Y (nxt n i) - Y i = 0:=by omega
 obtain ⟨k,hk,k1,k2⟩:∃ k,k < n∧k≠i∧k≠nxt n i:=by
  by_cases c0:(0:Nat)≠i∧(0:Nat)≠nxt n i
  ·exact ⟨0,by omega,c0⟩
  by_cases c1:(1:Nat)≠i∧(1:Nat)≠nxt n i
  ·exact ⟨1,by omega,c1⟩
  exact ⟨2,by omega,by omega,by omega⟩
 have:=hcv i hi k hk k1 k2
 unfold turnS at this
 rw [e1,e2,Int.zero_mul,Int.zero_mul] at this
 omega
def wid (n:Nat) (X Y:Nat→Int):Prop:=∀ i,i < n→∀ j,j < n→(-16384≤X j - X i∧X j - X i≤16384)∧(-16384≤Y j - Y i∧Y j - Y i≤16384)
theorem norm_un {a b c d:Int} (h1:-16384≤c - a∧c - a≤16384) (h2:-16384≤d - b∧d - b≤16384) (hne:c - a≠0∨d - b≠0):uv (vNorm a b c d):=by
 unfold vNorm vOf
 rw [int_in (by omega),int_in (by omega)]
 refine uv_un (S:=70368744177664) ⟨rfl,by dsimp only; omega⟩ ⟨rfl,by dsimp only; omega⟩ (by omega) (by omega) ?_
 unfold vUnit
 dsimp only
 exact un_true (S:=70368744177664) (by omega) (by omega) (by omega) (by omega) (by omega)
theorem edN_un {n:Nat} {X Y:Nat→Int} (hc:convexS n X Y = true) (hw:wid n X Y) {i:Nat} (hi:i < n):uv (edN n X Y i):=
 norm_un (hw i hi _ (nxt_lt hi)).1 (hw i hi _ (nxt_lt hi)).2 (edge_ne hc hi)
theorem mn_in {a b:Int} (ha:-12000≤a∧a≤12000) (hb:-12000≤b∧b≤12000):mnW a b = b - a:=mnW_v (by omega) (by omega)
theorem flT_un {n:Nat} {X Y:Nat→Int} (hc:convexS n X Y = true) (hs:sml n X Y) (hw:wid n X Y) {i:Nat} (hi:i < n):uv (flT n X Y i):=by
 have s1:=hs i hi
 have s2:=hs _ (nxt_lt hi)
 have w:=hw i hi _ (nxt_lt hi)
 have hne:=edge_ne hc hi
 unfold flT vOf
 rw [mn_in s1.1 s2.1,mn_in s1.2 s2.2,int_in (by omega),int_in (by omega)]
 refine uv_un (S:=70368744177664) ⟨rfl,by dsimp only; omega⟩ ⟨rfl,by dsimp only; omega⟩ (by omega) (by omega) ?_
 unfold vUnit
 dsimp only
 exact un_true (S:=70368744177664) (by omega) (by omega) (by omega) (by omega) (by omega)
def bt (lo hi:Int) (a:Nb):Prop:=a.2 = false∧lo≤a.1∧a.1≤hi
theorem bt_gd {lo hi:Int} {a:Nb} {B:Int} (h:bt lo hi a) (h1:-B≤lo) (h2:hi≤B):gd a B:=⟨h.1,by have:=h.2; omega⟩
theorem td_btw {d t:Int} (h0:0≤t) (h1:t≤4294967296):(0≤d→0≤(d * t).tdiv 4294967296∧(d * t).tdiv 4294967296≤d)∧(d≤0→d≤(d * t).tdiv 4294967296∧(d * t).tdiv 4294967296≤0):=by
 refine ⟨fun hd => ?_,fun hd => ?_⟩
 ·have k1:=Int.mul_nonneg hd h0
  have k2:d * t≤d * 4294967296:=Int.mul_le_mul_of_nonneg_left h1 hd
  rw [Int.tdiv_eq_ediv_of_nonneg k1]
  exact ⟨Int.ediv_nonneg k1 (by decide),Int.ediv_le_of_le_mul (by decide) (by omega)⟩
 ·have k1:=Int.mul_nonneg (show 0≤-d by omega) h0
  have k2:-d * t≤-d * 4294967296:=Int.mul_le_mul_of_nonneg_left h1 (by omega)
  have e:(d * t).tdiv 4294967296 = -((-d * t) / 4294967296):=by
   rw [← Int.tdiv_eq_ediv_of_nonneg k1,Int.neg_mul,Int.neg_tdiv,Int.neg_neg]
  rw [e]
  have h1:0≤(-d * t) / 4294967296:=Int.ediv_nonneg k1 (by decide)
  have h2:(-d * t) / 4294967296≤-d:=Int.ediv_le_of_le_mul (by decide) (by omega)
  omega
theorem bt_go {x d t:Nb} {lo hi:Int} (hx:bt lo hi x) (hd:d.2 = false) (h1:lo≤x.1 + d.1) (h2:x.1 + d.1≤hi) (ht:bt 0 4294967296 t) (l1:-1152921504606846976≤lo) (l2:hi≤1152921504606846976):bt lo hi (nAdd x (nMul d t)):=by
 obtain ⟨x1,x2,x3⟩:=hx
 obtain ⟨t1,t2,t3⟩:=ht
 have k:=@td_btw d.1 t.1 t2 t3
 have em:nMul d t = ((d.1 * t.1).tdiv 4294967296,false):=by
  unfold nMul
  rw [whV_of (v:=d.1) (by unfold rg; omega),whV_of (v:=t.1) (by unfold rg; omega),whF_of (v:=d.1) (by unfold rg; omega),whF_of (v:=t.1) (by unfold rg; omega),t1,hd]
  have:rg ((d.1 * t.1).tdiv 4294967296):=by unfold rg; omega
  rw [ftV_of this,ftF_of this]
  rfl
 rw [em]
 unfold nAdd
 dsimp only
 have hr:-2305843009213693952≤(d.1 * t.1).tdiv 4294967296∧(d.1 * t.1).tdiv 4294967296≤2305843009213693952:=by omega
 rw [whV_of (v:=x.1) (by unfold rg; omega),whV_of (v:=(d.1 * t.1).tdiv 4294967296) (by unfold rg; omega),whF_of (v:=x.1) (by unfold rg; omega),whF_of (v:=(d.1 * t.1).tdiv 4294967296) (by unfold rg; omega),ftV_of (by unfold rg; omega),ftF_of (by unfold rg; omega),x1]
 exact ⟨rfl,by dsimp only; omega,by dsimp only; omega⟩
theorem bt_part {x y t:Nb} {lo hi:Int} (hx:bt lo hi x) (hy:bt lo hi y) (ht:bt 0 4294967296 t) (l1:-1152921504606846976≤lo) (l2:hi≤1152921504606846976):bt lo hi (nAdd x (nMul (nSub y x) t)):=by
 have hx':=hx
 obtain ⟨x1,x2,x3⟩:=hx
 obtain ⟨y1,y2,y3⟩:=hy
 have es:nSub y x = (y.1 - x.1,false):=by
  unfold nSub
  rw [whV_of (v:=y.1) (by unfold rg; omega),whV_of (v:=x.1) (by unfold rg; omega),whF_of (v:=y.1) (by unfold rg; omega),whF_of (v:=x.1) (by unfold rg; omega),ftV_of (by unfold rg; omega),ftF_of (by unfold rg; omega),x1,y1]
  rfl
 rw [es]
 exact bt_go hx' rfl (by dsimp only; omega) (by dsimp only; omega) ht l1 l2
theorem bt_ratio {i j:Nb} (hi:gd i 4611686018427387903) (hj:gd j 4611686018427387903) (h1:i.1 < 0) (h2:0≤j.1):bt 0 4294967296 (nDiv i (nSub i j)):=by
 obtain ⟨i1,i2,i3⟩:=hi
 obtain ⟨j1,j2,j3⟩:=hj
 have es:nSub i j = (i.1 - j.1,false):=by
  unfold nSub
  rw [whV_of (v:=i.1) (by unfold rg; omega),whV_of (v:=j.1) (by unfold rg; omega),whF_of (v:=i.1) (by unfold rg; omega),whF_of (v:=j.1) (by unfold rg; omega),ftV_of (by unfold rg; omega),ftF_of (by unfold rg; omega),i1,j1]
  rfl
 have e:(i.1 * 4294967296).tdiv (i.1 - j.1) = (-i.1 * 4294967296) / (j.1 - i.1):=by
  rw [← Int.tdiv_eq_ediv_of_nonneg (show 0≤-i.1 * 4294967296 by omega),show -i.1 * 4294967296 = -(i.1 * 4294967296) by omega,show j.1 - i.1 = -(i.1 - j.1) by omega,Int.neg_tdiv,Int.tdiv_neg,Int.neg_neg]
 have k1:0≤(-i.1 * 4294967296) / (j.1 - i.1):=Int.ediv_nonneg (by omega) (by omega)
 have k2:(-i.1 * 4294967296) / (j.1 - i.1)≤4294967296:=Int.ediv_le_of_le_mul (by omega) (by omega)
 rw [es]
 unfold nDiv
 dsimp only
 rw [whV_of (v:=i.1) (by unfold rg; omega),whV_of (v:=i.1 - j.1) (by unfold rg; omega),whF_of (v:=i.1) (by unfold rg; omega),whF_of (v:=i.1 - j.1) (by unfold rg; omega),i1]
 unfold raV raF
 rw [if_neg (by omega),if_neg (by omega),e,ftV_of (by unfold rg; omega),ftF_of (by unfold rg; omega)]
 exact ⟨rfl,k1,k2⟩
def bx (a b c d:Int) (v:V2):Prop:=bt a c v.1∧bt b d v.2
theorem bx_clpX {a b c d:Int} {x y:V2} {i j:Nb} (hx:bx a b c d x) (hy:bx a b c d y) (hi:gd i 4611686018427387903) (hj:gd j 4611686018427387903) (l1:-1152921504606846976≤a) (l2:c≤1152921504606846976) (l3:-1152921504606846976≤b) (l4:d≤1152921504606846976):bx a b c d (clpX x y i j):=by
 unfold clpX
 split
 ·rename_i h
  have t:=bt_ratio hi hj h.1 h.2
  exact ⟨bt_part hx.1 hy.1 t l1 l2,bt_part hx.2 hy.2 t l3 l4⟩
 ·exact hx
theorem bx_clpY {a b c d:Int} {x y:V2} {i j:Nb} (hx:bx a b c d x) (hy:bx a b c d y) (hi:gd i 4611686018427387903) (hj:gd j 4611686018427387903) (l1:-1152921504606846976≤a) (l2:c≤1152921504606846976) (l3:-1152921504606846976≤b) (l4:d≤1152921504606846976):bx a b c d (clpY x y i j):=by
 unfold clpY
 split
 ·rename_i h
  have t:=bt_ratio hj hi h.1 h.2
  exact ⟨bt_part hy.1 hx.1 t l1 l2,bt_part hy.2 hx.2 t l3 l4⟩
 ·exact hy
theorem uv_dot {t x:V2} {B:Int} (ht:uv t) (h1:gd x.1 B) (h2:gd x.2 B) (h0:0≤B) (l:B≤1152921504606846976):gd (vDot t x) (2 * B):=by
 obtain ⟨t1,t2⟩:=uv_gd ht
 exact gd_dot t1 h1 t2 h2 (by omega) (by omega) (by omega) (by omega) (by omega) (by omega) (by omega) (by omega)
theorem fl_bx {a b c d:Int} {t x y:V2} {e:Nb} (ht:uv t) (hx:bx a b c d x) (hy:bx a b c d y) (he:gd e 1125899906842624) (l1:-1125899906842624≤a) (l2:c≤1125899906842624) (l3:-1125899906842624≤b) (l4:d≤1125899906842624) :
  bx a b c d (flX t x y e)∧bx a b c d (flY t x y e):=by
 have g:∀ v,bx a b c d v→gd (vDot t v) (2 * 1125899906842624):=fun v hv => uv_dot ht (bt_gd hv.1 l1 l2) (bt_gd hv.2 l3 l4) (by omega) (by omega)
 have w:∀ v,bx a b c d v→gd (vDot t v) 4611686018427387903:=fun v hv => gd_le (g v hv) (by omega)
 have h1:bx a b c d (cl1X t x y):=bx_clpX hx hy (w x hx) (w y hy) (by omega) (by omega) (by omega) (by omega)
 have h2:bx a b c d (cl1Y t x y):=bx_clpY hx hy (w x hx) (w y hy) (by omega) (by omega) (by omega) (by omega)
 have w':∀ v,bx a b c d v→gd (nSub e (vDot t v)) 4611686018427387903:=fun v hv => gd_le (gd_sub he (g v hv) (by omega) (by omega) (by omega)) (by omega)
 exact ⟨bx_clpX h1 h2 (w' _ h1) (w' _ h2) (by omega) (by omega) (by omega) (by omega),bx_clpY h1 h2 (w' _ h1) (w' _ h2) (by omega) (by omega) (by omega) (by omega)⟩
def tok (a b c d:Int) (M:Mf):Prop:=(1≤M.n∧M.n≤2)∧uv M.nv∧∀ i,i < M.n→((M.D i).2 = false∧0≤(M.D i).1∧(M.D i).1≤70368744177664)∧bx (a * 16777216) (b * 16777216) (c * 16777216) (d * 16777216) (M.P i)
theorem bt_le {a b c d:Int} {x:Nb} (h:bt a b x) (h1:c≤a) (h2:b≤d):bt c d x:=⟨h.1,by have:=h.2; omega⟩
theorem tok_le {a b c d a' b' c' d':Int} {M:Mf} (h:tok a b c d M) (h1:a'≤a) (h2:b'≤b) (h3:c≤c') (h4:d≤d'):tok a' b' c' d' M:=
 ⟨h.1,h.2.1,fun i hi => ⟨(h.2.2 i hi).1,bt_le (h.2.2 i hi).2.1 (by omega) (by omega),bt_le (h.2.2 i hi).2.2 (by omega) (by omega)⟩⟩
theorem tok_one {a b c d:Int} {nv p:V2} {e:Nb} (hn:uv nv) (he:e.2 = false∧0≤e.1∧e.1≤70368744177664) (hp:bx (a * 16777216) (b * 16777216) (c * 16777216) (d * 16777216) p):tok a b c d (mf1 nv p e):=
 ⟨⟨Nat.le_refl 1,by show 1≤2; omega⟩,hn,fun i hi => ⟨he,hp⟩⟩
theorem pos_in {a:Nb} {B:Int} (h:gd a B) (hB:0≤B) (l:B≤9223372036854775807):(nPos a).2 = false∧0≤(nPos a).1∧(nPos a).1≤B∧(nPos a).1 = max 0 a.1:=by
 obtain ⟨w1,w2⟩:=gd_wh h l
 have h2:=h.2
 unfold nPos
 rw [w1,w2]
 dsimp only
 refine ⟨rfl,?_,?_,?_⟩ <;> split <;> omega
theorem len_in {v:V2} {S:Int} (h1:gd v.1 S) (h2:gd v.2 S) (h0:0≤S) (l:S≤281474976710656):∃ q,vLen v = (q,false)∧0≤q∧v.1.1≤q∧-v.1.1≤q∧v.2.1≤q∧-v.2.1≤q∧q≤2 * S:=by
 obtain ⟨k1,k2,k3,k4,k5,k6⟩:=hyp_ok h1 h2 h0 (by omega)
 exact ⟨(nHyp v.1 v.2).1,Prod.ext rfl k1,by omega,k2,k3,k4,k5,k6⟩
theorem wr_in {x:Int} (h:-9223372036854775808≤x∧x≤9223372036854775807):IntKind.i64.wrap x = x:=wrap_in (inRo (by omega))
theorem rat_in {s:Int} (h:-549755813887≤s∧s≤549755813887):nRat s 256 = (s * 16777216,false):=gd_rat (S:=549755813887) (by omega) (by omega)
theorem mul_dir {n k:Nb} {K:Int} (hn:gd n 4294967296) (hk:gd k K) (h0:0≤K) (l:K≤9223372036854775807):gd (nMul n k) K:=
 gd_mul hn hk (by omega) (by omega) l (by omega) l
theorem add_at {x n:Nb} {K:Int} (hx:gd x 1152921504606846976) (hn:gd n K) (h0:0≤K) (l:K≤1152921504606846976):bt (x.1 - K) (x.1 + K) (nAdd x n):=by
 obtain ⟨x1,x2,x3⟩:=hx
 obtain ⟨n1,n2,n3⟩:=hn
 unfold nAdd
 rw [whV_of (v:=x.1) (by unfold rg; omega),whV_of (v:=n.1) (by unfold rg; omega),whF_of (v:=x.1) (by unfold rg; omega),whF_of (v:=n.1) (by unfold rg; omega),ftV_of (by unfold rg; omega),ftF_of (by unfold rg; omega),x1,n1]
 exact ⟨rfl,by dsimp only; omega,by dsimp only; omega⟩
theorem sub_at {x n:Nb} {K:Int} (hx:gd x 1152921504606846976) (hn:gd n K) (h0:0≤K) (l:K≤1152921504606846976):bt (x.1 - K) (x.1 + K) (nSub x n):=by
 obtain ⟨x1,x2,x3⟩:=hx
 obtain ⟨n1,n2,n3⟩:=hn
 unfold nSub
 rw [whV_of (v:=x.1) (by unfold rg; omega),whV_of (v:=n.1) (by unfold rg; omega),whF_of (v:=x.1) (by unfold rg; omega),whF_of (v:=n.1) (by unfold rg; omega),ftV_of (by unfold rg; omega),ftF_of (by unfold rg; omega),x1,n1]
 exact ⟨rfl,by dsimp only; omega,by dsimp only; omega⟩
theorem oneV_uv:uv oneV:=by unfold uv oneV; decide
theorem two_tok {x y r a b s:Int} (hx:-12000≤x∧x≤12000) (hy:-12000≤y∧y≤12000) (ha:-12000≤a∧a≤12000) (hb:-12000≤b∧b≤12000) (hr:0≤r∧r≤12000) (hs:0≤s∧s≤12000) :
  tok (min (x - r) (a - s)) (min (y - r) (b - s)) (max (x + r) (a + s)) (max (y + r) (b + s)) (twoS x y r a b s):=by
 have ed:vLoc (mnW x a) (mnW y b) = (((a - x) * 16777216,false),((b - y) * 16777216,false)):=by rw [mn_in hx ha,mn_in hy hb,loc_in (by omega) (by omega)]
 obtain ⟨q,hq,q0,q1,q2,q3,q4,q5⟩:=@len_in (((a - x) * 16777216,false),((b - y) * 16777216,false)) 402653184000 ⟨rfl,by dsimp only; omega⟩ ⟨rfl,by dsimp only; omega⟩ (by omega) (by omega)
 dsimp only at q1 q2 q3 q4
 have hu:uv (twN (vLoc (mnW x a) (mnW y b))):=by
  rw [ed]
  unfold twN
  split
  ·exact uv_un (S:=402653184000) ⟨rfl,by dsimp only; omega⟩ ⟨rfl,by dsimp only; omega⟩ (by omega) (by omega) ‹_›
  ·exact oneV_uv
 have eD:twD (vLoc (mnW x a) (mnW y b)) r s = (max 0 ((r + s) * 16777216 - q),false):=by
  unfold twD
  rw [ed,hq,wr_in (by omega),rat_in (by omega)]
  have e1:nSub ((r + s) * 16777216,false) (q,false) = ((r + s) * 16777216 - q,false):=by
   unfold nSub
   dsimp only
   rw [whV_of (by unfold rg; omega),whV_of (by unfold rg; omega),whF_of (by unfold rg; omega),whF_of (by unfold rg; omega),ftV_of (by unfold rg; omega),ftF_of (by unfold rg; omega)]
   rfl
  rw [e1]
  obtain ⟨p1,_,_,p4⟩:=pos_in (a:=((r + s) * 16777216 - q,false)) (B:=2305843009213693951) ⟨rfl,by dsimp only; omega⟩ (by omega) (by omega)
  exact Prod.ext p4 p1
 obtain ⟨e,he⟩:∃ e,e = max 0 ((r + s) * 16777216 - q):=⟨_,rfl⟩
 rw [← he] at eD
 have he0:0≤e∧e≤402653184000:=by omega
 have eH:nDiv (e,false) (nInt 2) = (e / 2,false):=by
  rw [int_in (by omega)]
  unfold nDiv raV raF
  dsimp only
  have e2:(e * 4294967296).tdiv 8589934592 = e / 2:=by rw [Int.tdiv_eq_ediv_of_nonneg (by omega)]; omega
  rw [whV_of (v:=e) (by unfold rg; omega),whF_of (v:=e) (by unfold rg; omega),show whV (2 * 4294967296) = 8589934592 from rfl,show whF (2 * 4294967296) false = false from rfl,if_neg (by decide),if_neg (by decide),e2,ftV_of (by unfold rg; omega),ftF_of (by unfold rg; omega)]
  rfl
 have eK:nSub (nRat r 256) (nDiv (e,false) (nInt 2)) = (r * 16777216 - e / 2,false):=by
  rw [eH,rat_in (by omega)]
  unfold nSub
  dsimp only
  rw [whV_of (by unfold rg; omega),whV_of (by unfold rg; omega),whF_of (by unfold rg; omega),whF_of (by unfold rg; omega),ftV_of (by unfold rg; omega),ftF_of (by unfold rg; omega)]
  rfl
 unfold twoS
 refine tok_one hu (by rw [eD]; exact ⟨rfl,by dsimp only; omega,by dsimp only; omega⟩) ?_
 rw [eD]
 unfold twP
 rw [eK,loc_in (by omega) (by omega)]
 obtain ⟨u1,u2⟩:=uv_gd hu
 by_cases hc:e / 2≤r * 16777216
 ·have k:gd (r * 16777216 - e / 2,false) (r * 16777216):=⟨rfl,by dsimp only; omega⟩
  have a1:=add_at (x:=(x * 16777216,false)) ⟨rfl,by dsimp only; omega⟩ (mul_dir u1 k (by omega) (by omega)) (by omega) (by omega)
  have a2:=add_at (x:=(y * 16777216,false)) ⟨rfl,by dsimp only; omega⟩ (mul_dir u2 k (by omega) (by omega)) (by omega) (by omega)
  dsimp only at a1 a2
  exact ⟨bt_le a1 (by omega) (by omega),bt_le a2 (by omega) (by omega)⟩
 ·have k:gd (r * 16777216 - e / 2,false) (e / 2 - r * 16777216):=⟨rfl,by dsimp only; omega⟩
  have a1:=add_at (x:=(x * 16777216,false)) ⟨rfl,by dsimp only; omega⟩ (mul_dir u1 k (by omega) (by omega)) (by omega) (by omega)
  have a2:=add_at (x:=(y * 16777216,false)) ⟨rfl,by dsimp only; omega⟩ (mul_dir u2 k (by omega) (by omega)) (by omega) (by omega)
  dsimp only at a1 a2
  exact ⟨bt_le a1 (by omega) (by omega),bt_le a2 (by omega) (by omega)⟩
theorem axF_at {o:Int} {G:Nat→Nb}:∀ i:Nat,0≤(axF o G ax0 (i + 1)).2.1∧(axF o G ax0 (i + 1)).2.1≤i∧(axF o G ax0 (i + 1)).2.2 = G (axF o G ax0 (i + 1)).2.1.toNat
 | 0 => by
  rw [axF_hit (.inl (by show (-1:Int) < 0; decide))]
  exact ⟨by show (0:Int)≤((0:Nat):Int); omega,by show ((0:Nat):Int)≤((0:Nat):Int); omega,rfl⟩
 | i + 1 => by
  obtain ⟨h1,h2,h3⟩:=axF_at (o:=o) (G:=G) i
  by_cases c:(axF o G ax0 (i + 1)).2.1 < 0∨0 < cmpS (whV (G (i + 1)).1) (whV (axF o G ax0 (i + 1)).2.2.1)
  ·rw [axF_hit c]
   refine ⟨?_,?_,?_⟩
   ·show (0:Int)≤((i + 1:Nat):Int); omega
   ·show ((i + 1:Nat):Int)≤((i + 1:Nat):Int); omega
   ·show G (i + 1) = G ((i + 1:Nat):Int).toNat; rw [Int.toNat_natCast]
  ·rw [axF_not c]
   exact ⟨h1,by omega,h3⟩
theorem hgt_gd {n:Nat} {X Y:Nat→Int} {x y:Int} (hc:convexS n X Y = true) (hs:sml n X Y) (hw:wid n X Y) (hx:-12000≤x∧x≤12000) (hy:-12000≤y∧y≤12000) {i:Nat} (hi:i < n):gd (hgt (X i) (Y i) (X (nxt n i)) (Y (nxt n i)) x y) 805306368000:=by
 have s1:=hs i hi
 have hu:uv (vNorm (X i) (Y i) (X (nxt n i)) (Y (nxt n i))):=edN_un hc hw hi
 unfold hgt
 rw [mn_in s1.1 hx,mn_in s1.2 hy,loc_in (by omega) (by omega)]
 exact gd_le (uv_dot (B:=402653184000) hu ⟨rfl,by dsimp only; omega⟩ ⟨rfl,by dsimp only; omega⟩ (by omega) (by omega)) (by omega)
theorem neg_pos_in {a:Nb} {B:Int} (h:gd a B) (hB:0≤B) (l:B≤70368744177664):(nPos (nNeg a)).2 = false∧0≤(nPos (nNeg a)).1∧(nPos (nNeg a)).1≤70368744177664:=by
 obtain ⟨p1,p2,p3,_⟩:=pos_in (gd_neg h (by omega)) hB (by omega)
 exact ⟨p1,p2,by omega⟩
theorem deep_tok {n:Nat} {X Y:Nat→Int} {x y r:Int} (hc:convexS n X Y = true) (hs:sml n X Y) (hw:wid n X Y) (hx:-12000≤x∧x≤12000) (hy:-12000≤y∧y≤12000) (hr:0≤r∧r≤12000) :
  tok (x - r) (y - r) (x + r) (y + r) (deepS n X Y x y r (axSt n (gD n X Y x y r) 0 (gD n X Y x y r) 2)):=by
 have h3:=(convexS_iff.1 hc).1
 have e:axSt n (gD n X Y x y r) 0 (gD n X Y x y r) 2 = axF 0 (gD n X Y x y r) ax0 n:=rfl
 rw [e]
 obtain ⟨h1,h2,h4⟩:=axF_at (o:=0) (G:=gD n X Y x y r) (n - 1)
 rw [show n - 1 + 1 = n by omega] at h1 h2 h4
 generalize axF 0 (gD n X Y x y r) ax0 n = s at *
 have hi:s.2.1.toNat < n:=by omega
 have hu:=edN_un hc hw hi
 obtain ⟨u1,u2⟩:=uv_gd hu
 have hg:gd (gD n X Y x y r s.2.1.toNat) 1006632960000:=by
  unfold gD
  rw [rat_in (by omega)]
  exact gd_le (gd_sub (B:=201326592000) (hgt_gd hc hs hw hx hy hi) ⟨rfl,by dsimp only; omega⟩ (by omega) (by omega) (by omega)) (by omega)
 unfold deepS
 rw [h4]
 refine tok_one hu (neg_pos_in hg (by omega) (by omega)) ?_
 rw [rat_in (by omega),loc_in (by omega) (by omega)]
 have k:gd (r * 16777216,false) (r * 16777216):=⟨rfl,by dsimp only; omega⟩
 have a1:=sub_at (x:=(x * 16777216,false)) ⟨rfl,by dsimp only; omega⟩ (mul_dir u1 k (by omega) (by omega)) (by omega) (by omega)
 have a2:=sub_at (x:=(y * 16777216,false)) ⟨rfl,by dsimp only; omega⟩ (mul_dir u2 k (by omega) (by omega)) (by omega) (by omega)
 dsimp only at a1 a2
 exact ⟨bt_le a1 (by omega) (by omega),bt_le a2 (by omega) (by omega)⟩
theorem rdT_in {n:Nat} {X Y:Nat→Int} {x y:Int} (hc:convexS n X Y = true) (hs:sml n X Y) (hw:wid n X Y) (hx:-12000≤x∧x≤12000) (hy:-12000≤y∧y≤12000) {i:Nat} (hi:i < n):bt 0 4294967296 (rdT n X Y x y i):=by
 have s1:=hs i hi
 have s2:=hs _ (nxt_lt hi)
 have w:=hw i hi _ (nxt_lt hi)
 have hne:=edge_ne hc hi
 unfold rdT
 rw [mn_in s1.1 hx,mn_in s1.2 hy,mn_in s1.1 s2.1,mn_in s1.2 s2.2]
 have m1:sm (x - X i):=by unfold sm; omega
 have m2:sm (y - Y i):=by unfold sm; omega
 have e1:sm (X (nxt n i) - X i):=by unfold sm; omega
 have e2:sm (Y (nxt n i) - Y i):=by unfold sm; omega
 rw [dtW_v m1 m2 e1 e2,dtW_v e1 e2 e1 e2]
 generalize X (nxt n i) - X i = ex at *
 generalize Y (nxt n i) - Y i = ey at *
 have b1:=mul_bd (A:=24000) (B:=16384) (by omega) (show -24000≤x - X i∧x - X i≤24000 by omega) w.1
 have b2:=mul_bd (A:=24000) (B:=16384) (by omega) (show -24000≤y - Y i∧y - Y i≤24000 by omega) w.2
 have p1:=sq0 ex
 have p2:=sq0 ey
 have hp:1≤ex * ex + ey * ey:=by
  rcases hne with h | h
  ·have:0 < ex * ex:=by
    rcases Int.lt_or_gt_of_ne h with q | q
    ·exact Int.mul_pos_of_neg_of_neg q q
    ·exact Int.mul_pos q q
   omega
  ·have:0 < ey * ey:=by
    rcases Int.lt_or_gt_of_ne h with q | q
    ·exact Int.mul_pos_of_neg_of_neg q q
    ·exact Int.mul_pos q q
   omega
 have hA:-786432000≤(x - X i) * ex + (y - Y i) * ey∧(x - X i) * ex + (y - Y i) * ey≤786432000:=by omega
 generalize (x - X i) * ex + (y - Y i) * ey = A at *
 generalize ex * ex + ey * ey = B at *
 have t:=tdiv_bd (v:=A * 4294967296) (C:=3377699720527872000) (k:=B) (by omega) (by
  have:3377699720527872000 * 1≤3377699720527872000 * B:=Int.mul_le_mul_of_nonneg_left hp (by omega)
  omega)
 have e:nRat A B = ((A * 4294967296).tdiv B,false):=by
  unfold nRat raV raF
  rw [if_neg (by omega),if_neg (by omega),ftV_of (by unfold rg; omega),ftF_of (by unfold rg; omega)]
  rfl
 rw [e]
 unfold nCl
 dsimp only
 generalize (A * 4294967296).tdiv B = v at *
 rw [whV_of (v:=v) (by unfold rg; omega),whF_of (v:=v) (by unfold rg; omega),show whV 0 = 0 from rfl,show whV 4294967296 = 4294967296 from rfl,show whF 0 false = false from rfl,show whF 4294967296 false = false from rfl]
 exact ⟨rfl,by dsimp only; omega,by dsimp only; omega⟩
theorem rdP_in {n:Nat} {X Y:Nat→Int} {x y:Int} (hc:convexS n X Y = true) (hs:sml n X Y) (hw:wid n X Y) (hx:-12000≤x∧x≤12000) (hy:-12000≤y∧y≤12000) {i:Nat} (hi:i < n) :
  bx (mnS X n * 16777216) (mnS Y n * 16777216) (mxS X n * 16777216) (mxS Y n * 16777216) (rdP n X Y x y i):=by
 have s1:=hs i hi
 have s2:=hs _ (nxt_lt hi)
 have t:=rdT_in hc hs hw hx hy hi
 have hn0:=(convexS_iff.1 hc).1
 obtain ⟨j1,g1,e1⟩:=mnS_at (Z:=X) (show 0 < n by omega)
 obtain ⟨j2,g2,e2⟩:=mnS_at (Z:=Y) (show 0 < n by omega)
 obtain ⟨j3,g3,e3⟩:=mxS_at (Z:=X) (show 0 < n by omega)
 obtain ⟨j4,g4,e4⟩:=mxS_at (Z:=Y) (show 0 < n by omega)
 have b1:=hs j1 g1
 have b2:=hs j2 g2
 have b3:=hs j3 g3
 have b4:=hs j4 g4
 have m1:=mnS_le' (Z:=X) hi
 have m2:=mnS_le' (Z:=Y) hi
 have m3:=mxS_ge' (Z:=X) hi
 have m4:=mxS_ge' (Z:=Y) hi
 have m5:=mnS_le' (Z:=X) (nxt_lt hi)
 have m6:=mnS_le' (Z:=Y) (nxt_lt hi)
 have m7:=mxS_ge' (Z:=X) (nxt_lt hi)
 have m8:=mxS_ge' (Z:=Y) (nxt_lt hi)
 unfold rdP
 rw [mn_in s1.1 s2.1,mn_in s1.2 s2.2,loc_in (by omega) (by omega),loc_in (by omega) (by omega)]
 exact ⟨bt_go (x:=(X i * 16777216,false)) (d:=((X (nxt n i) - X i) * 16777216,false)) ⟨rfl,by dsimp only; omega,by dsimp only; omega⟩ rfl (by dsimp only; omega) (by dsimp only; omega) t (by omega) (by omega),
  bt_go (x:=(Y i * 16777216,false)) (d:=((Y (nxt n i) - Y i) * 16777216,false)) ⟨rfl,by dsimp only; omega,by dsimp only; omega⟩ rfl (by dsimp only; omega) (by dsimp only; omega) t (by omega) (by omega)⟩
theorem bx_sml {n:Nat} {X Y:Nat→Int} (hn:0 < n) (hs:sml n X Y) {v:V2} (h:bx (mnS X n * 16777216) (mnS Y n * 16777216) (mxS X n * 16777216) (mxS Y n * 16777216) v):gd v.1 201326592000∧gd v.2 201326592000:=by
 obtain ⟨j1,g1,e1⟩:=mnS_at (Z:=X) hn
 obtain ⟨j2,g2,e2⟩:=mnS_at (Z:=Y) hn
 obtain ⟨j3,g3,e3⟩:=mxS_at (Z:=X) hn
 obtain ⟨j4,g4,e4⟩:=mxS_at (Z:=Y) hn
 have b1:=hs j1 g1
 have b2:=hs j2 g2
 have b3:=hs j3 g3
 have b4:=hs j4 g4
 exact ⟨bt_gd h.1 (by omega) (by omega),bt_gd h.2 (by omega) (by omega)⟩
theorem rd_tok {n:Nat} {X Y:Nat→Int} {x y r:Int} (hc:convexS n X Y = true) (hs:sml n X Y) (hw:wid n X Y) (hx:-12000≤x∧x≤12000) (hy:-12000≤y∧y≤12000) (hr:0≤r∧r≤12000) :
  tok (mnS X n) (mnS Y n) (mxS X n) (mxS Y n) (rdS n X Y x y r):=by
 have h3:=(convexS_iff.1 hc).1
 have hi:leI (rdL n X Y x y) (n - 1) < n:=by
  have:=leI_lt (h:=rdL n X Y x y) (n - 1)
  omega
 unfold rdS
 generalize leI (rdL n X Y x y) (n - 1) = i at *
 have hP:=rdP_in hc hs hw hx hy hi
 obtain ⟨p1,p2⟩:=bx_sml (by omega) hs hP
 have hM:gd (rdM n X Y x y i).1 402653184000∧gd (rdM n X Y x y i).2 402653184000:=by
  unfold rdM
  rw [loc_in (by omega) (by omega)]
  exact ⟨gd_le (gd_sub (A:=201326592000) ⟨rfl,by dsimp only; omega⟩ p1 (by omega) (by omega) (by omega)) (by omega),gd_le (gd_sub (A:=201326592000) ⟨rfl,by dsimp only; omega⟩ p2 (by omega) (by omega) (by omega)) (by omega)⟩
 have hV:uv (rdV n X Y x y i):=by
  unfold rdV
  split
  ·exact edN_un hc hw hi
  ·rename_i h
   refine uv_un hM.1 hM.2 (by omega) (by omega) ?_
   cases hv:(vUnit (rdM n X Y x y i)).1 with
   | true => rfl
   | false => exact absurd (.inr hv) h
 refine tok_one hV ?_ hP
 obtain ⟨q,hq,q0,q1,q2,q3,q4,q5⟩:=len_in hM.1 hM.2 (by omega) (by omega)
 unfold rdL
 rw [hq,rat_in (by omega)]
 obtain ⟨z1,z2,z3,_⟩:=pos_in (gd_sub (a:=(r * 16777216,false)) (b:=(q,false)) (A:=201326592000) (B:=805306368000) ⟨rfl,by dsimp only; omega⟩ ⟨rfl,by dsimp only; omega⟩ (by omega) (by omega) (by omega)) (by omega) (by omega)
 exact ⟨z1,z2,by omega⟩
theorem fl_tok {n:Nat} {X Y:Nat→Int} {m:Nat} {Z T:Nat→Int} (hc:convexS n X Y = true) (hs:sml n X Y) (hw:wid n X Y) (gc:convexS m Z T = true) (gs:sml m Z T) {i:Nat} (hi:i < n) :
  tok (mnS Z m) (mnS T m) (mxS Z m) (mxS T m) (flS n X Y m Z T i):=by
 have h3:=(convexS_iff.1 gc).1
 have hu:=edN_un hc hw hi
 have ht:=flT_un hc hs hw hi
 have s1:=hs i hi
 have s2:=hs _ (nxt_lt hi)
 obtain ⟨j1,g1,e1⟩:=mnS_at (Z:=Z) (show 0 < m by omega)
 obtain ⟨j2,g2,e2⟩:=mnS_at (Z:=T) (show 0 < m by omega)
 obtain ⟨j3,g3,e3⟩:=mxS_at (Z:=Z) (show 0 < m by omega)
 obtain ⟨j4,g4,e4⟩:=mxS_at (Z:=T) (show 0 < m by omega)
 have b1:=gs j1 g1
 have b2:=gs j2 g2
 have b3:=gs j3 g3
 have b4:=gs j4 g4
 have hf:∀ j,j < m→bx ((mnS Z m - X i) * 16777216) ((mnS T m - Y i) * 16777216) ((mxS Z m - X i) * 16777216) ((mxS T m - Y i) * 16777216) (fx0 X Y Z T i j):=fun j hj => by
  have a:=gs j hj
  have m1:=mnS_le' (Z:=Z) hj
  have m2:=mnS_le' (Z:=T) hj
  have m3:=mxS_ge' (Z:=Z) hj
  have m4:=mxS_ge' (Z:=T) hj
  unfold fx0
  rw [mn_in s1.1 a.1,mn_in s1.2 a.2,loc_in (by omega) (by omega)]
  exact ⟨⟨rfl,by dsimp only; omega,by dsimp only; omega⟩,rfl,by dsimp only; omega,by dsimp only; omega⟩
 have hJ:flJ n X Y m Z T i < m:=by
  have:=leI_lt (h:=agK m Z T (edN n X Y i)) (m - 1)
  unfold flJ
  omega
 have hW:flW n X Y m Z T i < m:=by
  have:=leI_lt (h:=edH n X Y Z T i) (m - 1)
  unfold flW
  omega
 have hE:gd (flE n X Y i) 1125899906842624:=by
  unfold flE
  rw [mn_in s1.1 s2.1,mn_in s1.2 s2.2,loc_in (by omega) (by omega)]
  obtain ⟨q,hq,q0,q1,q2,q3,q4,q5⟩:=@len_in (((X (nxt n i) - X i) * 16777216,false),((Y (nxt n i) - Y i) * 16777216,false)) 402653184000 ⟨rfl,by dsimp only; omega⟩ ⟨rfl,by dsimp only; omega⟩ (by omega) (by omega)
  rw [hq]
  exact ⟨rfl,by dsimp only; omega⟩
 have ab:=fl_bx ht (hf _ hJ) (hf _ (nxt_lt hJ)) hE (by omega) (by omega) (by omega) (by omega)
 unfold flS
 have hA:bx ((mnS Z m - X i) * 16777216) ((mnS T m - Y i) * 16777216) ((mxS Z m - X i) * 16777216) ((mxS T m - Y i) * 16777216) (flA n X Y m Z T i (flJ n X Y m Z T i)):=ab.1
 have hB:bx ((mnS Z m - X i) * 16777216) ((mnS T m - Y i) * 16777216) ((mxS Z m - X i) * 16777216) ((mxS T m - Y i) * 16777216) (flB n X Y m Z T i (flJ n X Y m Z T i)):=ab.2
 generalize flA n X Y m Z T i (flJ n X Y m Z T i) = a at *
 generalize flB n X Y m Z T i (flJ n X Y m Z T i) = b at *
 have hadd:∀ v,bx ((mnS Z m - X i) * 16777216) ((mnS T m - Y i) * 16777216) ((mxS Z m - X i) * 16777216) ((mxS T m - Y i) * 16777216) v→bx (mnS Z m * 16777216) (mnS T m * 16777216) (mxS Z m * 16777216) (mxS T m * 16777216) (vAdd (vLoc (X i) (Y i)) v):=fun v hv => by
  have key:∀ (z lo hi:Int) (w:Nb),(-12000≤z∧z≤12000)→-12000≤lo→hi≤12000→bt ((lo - z) * 16777216) ((hi - z) * 16777216) w→bt (lo * 16777216) (hi * 16777216) (nAdd (z * 16777216,false) w):=fun z lo hi w hz hl hh hw => by
   obtain ⟨w1,w2,w3⟩:=hw
   unfold nAdd
   dsimp only
   rw [whV_of (v:=z * 16777216) (by unfold rg; omega),whV_of (v:=w.1) (by unfold rg; omega),whF_of (v:=z * 16777216) (by unfold rg; omega),whF_of (v:=w.1) (by unfold rg; omega),ftV_of (by unfold rg; omega),ftF_of (by unfold rg; omega),w1]
   exact ⟨rfl,by dsimp only; omega,by dsimp only; omega⟩
  rw [loc_in (by omega) (by omega)]
  exact ⟨key _ _ _ _ s1.1 (by omega) (by omega) hv.1,key _ _ _ _ s1.2 (by omega) (by omega) hv.2⟩
 have hdot:∀ v,bx ((mnS Z m - X i) * 16777216) ((mnS T m - Y i) * 16777216) ((mxS Z m - X i) * 16777216) ((mxS T m - Y i) * 16777216) v→gd (vDot (edN n X Y i) v) 805306368000:=fun v hv =>
  gd_le (uv_dot (B:=402653184000) hu (bt_gd hv.1 (by omega) (by omega)) (bt_gd hv.2 (by omega) (by omega)) (by omega) (by omega)) (by omega)
 have hneg:∀ k:Nb,gd k 805306368000→k.1≤0→(nNeg k).2 = false∧0≤(nNeg k).1∧(nNeg k).1≤70368744177664:=fun k hk h0 => by
  obtain ⟨w1,w2⟩:=gd_wh hk (by omega)
  have:=hk.2
  unfold nNeg
  rw [w1,w2]
  exact ⟨rfl,by dsimp only; omega,by dsimp only; omega⟩
 unfold flK
 by_cases hk:(vDot (edN n X Y i) a).1≤0∨(vDot (edN n X Y i) b).1≤0
 ·rw [if_pos hk]
  unfold flM
  by_cases ha:(vDot (edN n X Y i) a).1≤0
  ·rw [if_pos ha]
   by_cases hb:(vDot (edN n X Y i) b).1≤0
   ·rw [if_pos hb]
    refine ⟨⟨by show 1≤2; omega,Nat.le_refl 2⟩,hu,fun j hj => ?_⟩
    by_cases hj0:j = 0
    ·subst hj0
     exact ⟨hneg _ (hdot a hA) ha,hadd a hA⟩
    ·dsimp only
     rw [if_neg hj0,if_neg hj0]
     exact ⟨hneg _ (hdot b hB) hb,hadd b hB⟩
   ·rw [if_neg hb]
    exact tok_one hu (hneg _ (hdot a hA) ha) (hadd a hA)
  ·rw [if_neg ha]
   exact tok_one hu (hneg _ (hdot b hB) (by omega)) (hadd b hB)
 ·rw [if_neg hk]
  have z:=gs _ hW
  refine tok_one hu (neg_pos_in (hgt_gd hc hs hw z.1 z.2 hi) (by omega) (by omega)) ?_
  have m1:=mnS_le' (Z:=Z) hW
  have m2:=mnS_le' (Z:=T) hW
  have m3:=mxS_ge' (Z:=Z) hW
  have m4:=mxS_ge' (Z:=T) hW
  rw [loc_in (by omega) (by omega)]
  exact ⟨⟨rfl,by dsimp only; omega,by dsimp only; omega⟩,rfl,by dsimp only; omega,by dsimp only; omega⟩
theorem trn_tok {a b c d:Int} {M:Mf} (h:tok a b c d M):tok a b c d (trnS M):=by
 refine ⟨h.1,?_,h.2.2⟩
 obtain ⟨h1,h2,h3,h4,h5,h6⟩:=h.2.1
 have e:∀ x:Nb,x.2 = false→(-4294967296≤x.1∧x.1≤4294967296)→nMul x (nInt (-1)) = (-x.1,false):=fun x hx hb => by
  rw [int_in (by omega)]
  unfold nMul
  dsimp only
  have e2:(x.1 * (-4294967296)).tdiv 4294967296 = -x.1:=by
   rw [show x.1 * (-4294967296) = -x.1 * 4294967296 by omega]
   exact Int.mul_tdiv_cancel _ (by decide)
  rw [whV_of (v:=x.1) (by unfold rg; omega),whF_of (v:=x.1) (by unfold rg; omega),show whV (-1 * 4294967296) = -4294967296 from rfl,show whF (-1 * 4294967296) false = false from rfl,e2,ftV_of (by unfold rg; omega),ftF_of (by unfold rg; omega),hx]
  rfl
 show uv (vScale M.nv (nInt (-1)))
 unfold vScale
 rw [e _ h1 h5,e _ h2 h6]
 refine ⟨rfl,rfl,?_,?_,by dsimp only; omega,by dsimp only; omega⟩
 ·dsimp only; rw [Int.neg_mul_neg,Int.neg_mul_neg]; exact h3
 ·dsimp only; rw [Int.neg_mul_neg,Int.neg_mul_neg]; exact h4
def nearF (k x y r:Int) (n:Nat) (X Y:Nat→Int):Prop:=(-12000≤x∧x≤12000)∧(-12000≤y∧y≤12000)∧r≤12000∧sml n X Y∧wid n X Y
theorem boxD {k x y r:Int} {n:Nat} {X Y:Nat→Int} (hc:checkS k x y r n X Y = 0) (hk:k = 1):boxS k x y r n X Y 0 = x - r∧boxS k x y r n X Y 1 = y - r∧boxS k x y r n X Y 2 = x + r∧boxS k x y r n X Y 3 = y + r:=
 ⟨boxS_disc (q:=0) hc hk,boxS_disc (q:=1) hc hk,boxS_disc (q:=2) hc hk,boxS_disc (q:=3) hc hk⟩
theorem boxP {k x y r:Int} {n:Nat} {X Y:Nat→Int} (hc:checkS k x y r n X Y = 0) (hk:k≠1):boxS k x y r n X Y 0 = mnS X n∧boxS k x y r n X Y 1 = mnS Y n∧boxS k x y r n X Y 2 = mxS X n∧boxS k x y r n X Y 3 = mxS Y n:=
 ⟨boxS_poly (q:=0) hc hk,boxS_poly (q:=1) hc hk,boxS_poly (q:=2) hc hk,boxS_poly (q:=3) hc hk⟩
theorem clip_tok {k x y r:Int} {n:Nat} {X Y:Nat→Int} {k' x' y' r':Int} {m:Nat} {Z T:Nat→Int} (hA:checkS k x y r n X Y = 0) (hB:checkS k' x' y' r' m Z T = 0) (hap:apS k x y r n X Y k' x' y' r' m Z T = false) (nA:nearF k x y r n X Y) (nB:nearF k' x' y' r' m Z T) :
  tok (min (boxS k x y r n X Y 0) (boxS k' x' y' r' m Z T 0)) (min (boxS k x y r n X Y 1) (boxS k' x' y' r' m Z T 1)) (max (boxS k x y r n X Y 2) (boxS k' x' y' r' m Z T 2)) (max (boxS k x y r n X Y 3) (boxS k' x' y' r' m Z T 3)) (clipS k x y r n X Y k' x' y' r' m Z T):=by
 have cA:=check_1 hA
 have cB:=check_1 hB
 obtain ⟨a1,a2,a3,a4,a5⟩:=nA
 obtain ⟨b1,b2,b3,b4,b5⟩:=nB
 unfold clipS
 rw [if_pos ⟨hA,hB,hap⟩]
 by_cases hk:k = 1
 ·obtain ⟨r1,_,_,_⟩:=cA.2.2.2.1 hk
  rw [if_pos hk,(boxD hA hk).1,(boxD hA hk).2.1,(boxD hA hk).2.2.1,(boxD hA hk).2.2.2]
  by_cases hk':k' = 1
  ·obtain ⟨r3,_,_,_⟩:=cB.2.2.2.1 hk'
   rw [if_pos hk',(boxD hB hk').1,(boxD hB hk').2.1,(boxD hB hk').2.2.1,(boxD hB hk').2.2.2]
   exact two_tok a1 a2 b1 b2 (by omega) (by omega)
  ·have gc:=(cB.2.2.2.2 hk').2.2
   rw [if_neg hk',(boxP hB hk').1,(boxP hB hk').2.1,(boxP hB hk').2.2.1,(boxP hB hk').2.2.2]
   refine trn_tok ?_
   unfold pdS
   split
   ·exact tok_le (deep_tok (r:=r) gc b4 b5 a1 a2 (by omega)) (Int.min_le_left ..) (Int.min_le_left ..) (Int.le_max_left ..) (Int.le_max_left ..)
   ·exact tok_le (rd_tok (r:=r) gc b4 b5 a1 a2 (by omega)) (Int.min_le_right ..) (Int.min_le_right ..) (Int.le_max_right ..) (Int.le_max_right ..)
 ·have hc:=(cA.2.2.2.2 hk).2.2
  rw [if_neg hk,(boxP hA hk).1,(boxP hA hk).2.1,(boxP hA hk).2.2.1,(boxP hA hk).2.2.2]
  by_cases hk':k' = 1
  ·obtain ⟨r3,_,_,_⟩:=cB.2.2.2.1 hk'
   rw [if_pos hk',(boxD hB hk').1,(boxD hB hk').2.1,(boxD hB hk').2.2.1,(boxD hB hk').2.2.2]
   unfold pdS
   split
   ·exact tok_le (deep_tok (r:=r') hc a4 a5 b1 b2 (by omega)) (Int.min_le_right ..) (Int.min_le_right ..) (Int.le_max_right ..) (Int.le_max_right ..)
   ·exact tok_le (rd_tok (r:=r') hc a4 a5 b1 b2 (by omega)) (Int.min_le_left ..) (Int.min_le_left ..) (Int.le_max_left ..) (Int.le_max_left ..)
  ·have gc:=(cB.2.2.2.2 hk').2.2
   have h3:=(convexS_iff.1 hc).1
   have g3:=(convexS_iff.1 gc).1
   rw [if_neg hk',(boxP hB hk').1,(boxP hB hk').2.1,(boxP hB hk').2.2.1,(boxP hB hk').2.2.2]
   have eX:axS k x y r n X Y k' x' y' r' m Z T = axSt n (gP n X Y m Z T) m (gP m Z T n X Y) 2:=by
    unfold axS
    rw [if_pos ⟨hA,hB⟩,if_neg hk,if_neg hk']
   have hi:=axSt_ix2 (n:=n) (m:=m) (G:=gP n X Y m Z T) (G':=gP m Z T n X Y) (by omega)
   rw [← eX] at hi
   split
   ·exact tok_le (fl_tok hc a4 a5 gc b4 (by omega)) (Int.min_le_right ..) (Int.min_le_right ..) (Int.le_max_right ..) (Int.le_max_right ..)
   ·exact trn_tok (tok_le (fl_tok gc b4 b5 hc a4 (by omega)) (Int.min_le_left ..) (Int.min_le_left ..) (Int.le_max_left ..) (Int.le_max_left ..))
end Go.Ax
end
section
set_option maxHeartbeats 4000000
set_option maxRecDepth 100000
namespace Go.Ax
open Go.Proofs Go.Proofs.Tryz
def hitN (a b:Bd) (x n:V2) (pu:Nb):Nb:=nPos (nAdd pu (sliS a b x n))
def apaA (a:Bd) (x n:V2) (d:Nb):Bd:=pshS a x (vScale n (nNeg d))
def apaB (b:Bd) (x n:V2) (d:Nb):Bd:=pshS b x (vScale n d)
def hitY (a b:Bd) (x t:V2) (nx ru:Nb):Nb:=nCl (nAdd ru (sliS a b x t)) (nNeg (nMul nx (nRat 1 2))) (nMul nx (nRat 1 2))
structure Hr where
 a:Bd
 b:Bd
 p:Nb
 r:Nb
def hitR (a b:Bd) (x n:V2) (pu ru:Nb):Hr:=
 if (sliK a b x n).1 = 0 then ⟨a,b,pu,ru⟩ else
 let nx:=hitN a b x n pu
 let a1:=apaA a x n (nSub nx pu)
 let b1:=apaB b x n (nSub nx pu)
 let t:=vPerp n
 if (sliK a1 b1 x t).1 = 0 then ⟨a1,b1,nx,ru⟩ else
 let ry:=hitY a1 b1 x t nx ru
 ⟨apaA a1 x t (nSub ry ru),apaB b1 x t (nSub ry ru),nx,ry⟩
structure Hs where
 a:Bd
 b:Bd
 c:Ct
def hit0 (a b:Bd) (c:Ct):Hs:=⟨(hitR a b (c.P 0) c.nv c.p0 c.r0).a,(hitR a b (c.P 0) c.nv c.p0 c.r0).b,{ c with p0:=(hitR a b (c.P 0) c.nv c.p0 c.r0).p,r0:=(hitR a b (c.P 0) c.nv c.p0 c.r0).r }⟩
def hit1 (a b:Bd) (c:Ct):Hs:=⟨(hitR a b (c.P 1) c.nv c.p1 c.r1).a,(hitR a b (c.P 1) c.nv c.p1 c.r1).b,{ c with p1:=(hitR a b (c.P 1) c.nv c.p1 c.r1).p,r1:=(hitR a b (c.P 1) c.nv c.p1 c.r1).r }⟩
def hitI (a b:Bd) (c:Ct):Nat→Hs
 | 0 => ⟨a,b,c⟩
 | 1 => hit0 a b c
 | _ + 2 => hit1 (hit0 a b c).a (hit0 a b c).b (hit0 a b c).c
def hitS (a b:Bd) (c:Ct):Hs:=hitI a b c (min 2 c.n)
def hitT (N:Nat) (B:Nat→Bd) (c:Ct):Nat→Bd:=
 if apB N c.a c.b then updB (updB B c.a.toNat (hitS (B c.a.toNat) (B c.b.toNat) c).a) c.b.toNat (hitS (B c.a.toNat) (B c.b.toNat) c).b else B
def hitC (N:Nat) (B:Nat→Bd) (c:Ct):Ct:=if apB N c.a c.b then (hitS (B c.a.toNat) (B c.b.toNat) c).c else c
def hitF:Nat→(Nat→List AV)→List AV→List AV→Option (List Prop×AV×(Nat→List AV)×List AV)
 | N,get,l,[] => some ([get = bsC (bsD get),inBs N (bsD get),N≤1000,l = contC (contD l),inC (contD l),(contD l).n≤1000],.tup [],bsC (hitT N (bsD get) (contD l)),contC (hitC N (bsD get) (contD l)))
 | _,_,_,_ => none
theorem fitF_T {K N M L sz:Nat} {σ:Names} {tp ty:TypeId} {get:Nat→List AV} (hK:K < L) (hc:∀ i,i < N→cleanCs (get i) = true):fitF L M σ (famT K N sz tp ty get) (some (famT K N sz tp ty get)):=fun f => by
 cases f with
 | zero =>
  refine ⟨rfl,rfl,rfl,rfl,rfl,fun j hj => ⟨⟨rfl,hK⟩,trivial⟩⟩
 | succ f =>
  refine ⟨rfl,rfl,rfl,rfl,rfl,fun j hj => ?_⟩
  simp only [famT] at hj ⊢
  split at hj
  ·rename_i hf
   have:j = 0:=by omega
   subst this
   exact fitL_clean (hc f hf)
  ·omega
theorem cleanCs_of:∀ {l:List AV},(∀ c ∈ l,cleanC c = true)→cleanCs l = true
 | [],_ => rfl
 | a :: l,h => by
  simp only [cleanCs,Bool.and_eq_true]
  exact ⟨h a (by simp),cleanCs_of fun c hc => h c (by simp [hc])⟩
theorem fitF_cl {N M:Nat} {σ:Names} {fam:Fam} (h:famCl fam):fitF N M σ fam (some fam):=fun f =>
 ⟨rfl,rfl,rfl,(h f).1,(h f).1,fun j hj => fitL_clean (cleanCs_of ((h f).2 j hj))⟩
theorem nb_f {x:Int} (h:false = !(x == 0)):x = 0:=by simpa using h
theorem nb_t {x:Int} (h:true = !(x == 0)):¬ x = 0:=by simpa using h
theorem iSli {a b:Bd} {x n:V2}:inR (sliS a b x n).1 = True:=iDiv
theorem hitR_b {a b:Bd} {x n:V2} {pu ru:Nb} (h:¬ (sliK a b x n).1 = 0) (k:(sliK (apaA a x n (nSub (hitN a b x n pu) pu)) (apaB b x n (nSub (hitN a b x n pu) pu)) x (vPerp n)).1 = 0) :
  hitR a b x n pu ru = ⟨apaA a x n (nSub (hitN a b x n pu) pu),apaB b x n (nSub (hitN a b x n pu) pu),hitN a b x n pu,ru⟩:=by
 unfold hitR; rw [if_neg h]; dsimp only; rw [if_pos k]
theorem hitR_c {a b:Bd} {x n:V2} {pu ru:Nb} (h:¬ (sliK a b x n).1 = 0) (k:¬ (sliK (apaA a x n (nSub (hitN a b x n pu) pu)) (apaB b x n (nSub (hitN a b x n pu) pu)) x (vPerp n)).1 = 0) :
  hitR a b x n pu ru = (let a1:=apaA a x n (nSub (hitN a b x n pu) pu); let b1:=apaB b x n (nSub (hitN a b x n pu) pu); let nx:=hitN a b x n pu; let t:=vPerp n; let ry:=hitY a1 b1 x t nx ru; ⟨apaA a1 x t (nSub ry ru),apaB b1 x t (nSub ry ru),nx,ry⟩):=by
 unfold hitR; rw [if_neg h]; dsimp only; rw [if_neg k]
theorem hitR_in {a b:Bd} {x n:V2} {pu ru:Nb} (ha:inB a) (hb:inB b) (hp:inR pu.1) (hr:inR ru.1):inB (hitR a b x n pu ru).a∧inB (hitR a b x n pu ru).b∧inR (hitR a b x n pu ru).p.1∧inR (hitR a b x n pu ru).r.1:=by
 unfold hitR
 split
 ·exact ⟨ha,hb,hp,hr⟩
 ·dsimp only
  have k1:inR (hitN a b x n pu).1:=of_eq_true (iPos (of_eq_true iAdd))
  have k2:=inB_psh (p:=x) (j:=vScale n (nNeg (nSub (hitN a b x n pu) pu))) ha
  have k3:=inB_psh (p:=x) (j:=vScale n (nSub (hitN a b x n pu) pu)) hb
  split
  ·exact ⟨k2,k3,k1,hr⟩
  ·exact ⟨inB_psh k2,inB_psh k3,k1,of_eq_true (iCl (of_eq_true iAdd) (of_eq_true (iNeg (of_eq_true iMul))) (of_eq_true iMul))⟩
theorem hitR_n {a b:Bd} {x n:V2} {pu ru:Nb}:(hitR a b x n pu ru).a.n = a.n∧(hitR a b x n pu ru).b.n = b.n:=by
 unfold hitR
 split
 ·exact ⟨rfl,rfl⟩
 ·dsimp only
  split
  ·exact ⟨psh_n,psh_n⟩
  ·exact ⟨psh_n.trans psh_n,psh_n.trans psh_n⟩
theorem hit0_in {a b:Bd} {c:Ct} (ha:inB a) (hb:inB b) (hc:inC c):inB (hit0 a b c).a∧inB (hit0 a b c).b∧inC (hit0 a b c).c:=by
 obtain ⟨c1,c2,c3,c4,c5,c6,c7,c8,c9⟩:=hc
 obtain ⟨h1,h2,h3,h4⟩:=hitR_in (x:=c.P 0) (n:=c.nv) ha hb c6 c8
 exact ⟨h1,h2,c1,c2,c3,c4,c5,h3,c7,h4,c9⟩
theorem hit1_in {a b:Bd} {c:Ct} (ha:inB a) (hb:inB b) (hc:inC c):inB (hit1 a b c).a∧inB (hit1 a b c).b∧inC (hit1 a b c).c:=by
 obtain ⟨c1,c2,c3,c4,c5,c6,c7,c8,c9⟩:=hc
 obtain ⟨h1,h2,h3,h4⟩:=hitR_in (x:=c.P 1) (n:=c.nv) ha hb c7 c9
 exact ⟨h1,h2,c1,c2,c3,c4,c5,c6,h3,c8,h4⟩
theorem hitI_in {a b:Bd} {c:Ct} (ha:inB a) (hb:inB b) (hc:inC c):∀ i,inB (hitI a b c i).a∧inB (hitI a b c i).b∧inC (hitI a b c i).c
 | 0 => ⟨ha,hb,hc⟩
 | 1 => hit0_in ha hb hc
 | _ + 2 => by
  obtain ⟨h1,h2,h3⟩:=hit0_in ha hb hc
  exact hit1_in h1 h2 h3
theorem hitI_n {a b:Bd} {c:Ct}:∀ i,(hitI a b c i).a.n = a.n∧(hitI a b c i).b.n = b.n∧(hitI a b c i).c.n = c.n∧(hitI a b c i).c.nv = c.nv∧(hitI a b c i).c.a = c.a∧(hitI a b c i).c.b = c.b∧(hitI a b c i).c.P = c.P∧(hitI a b c i).c.D = c.D
 | 0 => ⟨rfl,rfl,rfl,rfl,rfl,rfl,rfl,rfl⟩
 | 1 => ⟨hitR_n.1,hitR_n.2,rfl,rfl,rfl,rfl,rfl,rfl⟩
 | _ + 2 => ⟨hitR_n.1.trans hitR_n.1,hitR_n.2.trans hitR_n.2,rfl,rfl,rfl,rfl,rfl,rfl⟩
def contR (c:Ct):List AV:=contC c
def mHit:MCon:=mcTQ 27 15 151 155 hitF
theorem con89m:MConOK prog 89 mHit:=MConOK.mcTQ (G:=[(152,.wr mTwo),(160,kw160p),(161,kSli),(153,kw153),(129,k214),(154,k160),(162,.wr mApa),(132,k132),(125,k129),(164,k179),(163,k171)]) (H:=[(0,⟨[(9,.call)],[]⟩),(11,⟨[(11,.slot 1)],[]⟩),(12,⟨[(13,.call)],[]⟩),(15,⟨[(9,.made 8)],[]⟩),(17,⟨[(12,.slot 1)],[]⟩),(18,⟨[(13,.call)],[]⟩)]) (.mcons con152m (.cons konw160p (.cons con161 (.cons konw153 (.cons kon214 (.cons kon160 (.mcons con162m (.cons kon132 (.cons kon129 (.cons kon179 (.cons kon171 .nil))))))))))) func89 fun N get l rest ob val get' cs' hF hob hcl hcl2 => by
 unfold hitF at hF
 split at hF
 ·cases hF
  have h1:get = bsC (bsD get):=hob _ (by simp)
  have hB:inBs N (bsD get):=hob _ (by simp)
  have hN:N≤1000:=hob _ (by simp)
  have h2:l = contC (contD l):=hob _ (by simp)
  have hc:inC (contD l):=hob _ (by simp)
  have hn:(contD l).n≤1000:=hob _ (by simp)
  clear hob
  generalize bsD get = B at *
  generalize contD l = c at *
  subst h1 h2
  refine ⟨by simp,rfl,fun i _ => rfl,rfl,by kernel_rfl,fun fam f q hq hs hfc => bodyM_go (rs:=[]) rfl rfl ?_⟩
  have hg:∀ f,(fam f).g = none:=fun f => (hfc f).1
  obtain ⟨c1,c2,c3,c4,c5,c6,c7,c8,c9⟩:=id hc
  simp only [contC,go_sem,kw160p,kSli,kw153,k214,k160,k132,k129,k179,k171,mTwo,tchs_at,tchC,loadP_E,storeP_E,← hs,hg,hq,c3,c4]
  have hno:¬ apB N c.a c.b→hitT N B c = B∧hitC N B c = c:=fun h => ⟨if_neg h,if_neg h⟩
  refine ⟨fun hap z hz => ⟨hN,(fun h => by rw [hz] at h; cases h),fun _ z1 hz1 => ?_⟩,fun hap z hz => ⟨hN,(fun h => ?_),fun h => (by rw [hz] at h; cases h)⟩⟩
  rotate_left
  ·obtain ⟨e1,e2⟩:=hno hap
   rw [e1,e2]
   exact ⟨rfl,rfl⟩
  obtain ⟨a1,a2,a3,a4,a5⟩:=id hap
  have hz1':z1 = ((min 2 c.n:Nat):Int):=by rw [hz1]; omega
  have eT:hitT N B c = updB (updB B c.a.toNat (hitS (B c.a.toNat) (B c.b.toNat) c).a) c.b.toNat (hitS (B c.a.toNat) (B c.b.toNat) c).b:=if_pos hap
  have eC:hitC N B c = (hitS (B c.a.toNat) (B c.b.toNat) c).c:=if_pos hap
  obtain ⟨i1,i2⟩:=hB c.a.toNat (by omega)
  obtain ⟨i3,i4⟩:=hB c.b.toNat (by omega)
  have hA:c.a.toNat < N:=by omega
  have hA2:c.b.toNat < N:=by omega
  have hne:c.a.toNat≠c.b.toNat:=by omega
  rw [eT,eC]
  unfold hitS
  generalize c.a.toNat = A at *
  generalize c.b.toNat = Q at *
  generalize hM:min 2 c.n = M at *
  subst hz1'
  have u1:∀ B x y,updB (updB B A x) Q y A = x:=fun B x y => by rw [updB_off hne,updB_at]
  have u2:∀ B x y u v,updB (updB (updB (updB B A x) Q y) A u) Q v = updB (updB B A u) Q v:=fun B x y u v => by
   funext j
   unfold updB
   by_cases h1:j = Q
   ·simp [h1]
   ·by_cases h2:j = A <;> simp [h1,h2]
  obtain ⟨S,hS⟩:∃ S:Nat→Hs,S = hitI (B A) (B Q) c:=⟨_,rfl⟩
  rw [← hS]
  have s0:S 0 = ⟨B A,B Q,c⟩:=by rw [hS]; rfl
  have u0:updB (updB B A (B A)) Q (B Q) = B:=by
   funext j
   unfold updB
   by_cases h1:j = Q
   ·simp [h1]
   ·by_cases h2:j = A
    ·subst h2; simp [h1]
    ·simp [h1,h2]
  have hff:∀ d:Ct,famCl (famE fam f q (contC d)):=fun d => famCl_E hfc (cleanCs_mem rfl)
  refine loopC_go (fun (i:Nat) => i≤M) (fun i => M - i) (fun i => [(45,i64 (i:Int))]) (fun i => [(0,famT 0 N 27 151 155 (bsC (updB (updB B A (S i).a) Q (S i).b))),(1,famE fam f q (contR (S i).c))]) [30,26] [46,47,9,48,49,50,51,52,53,54,55,56,10,58,59,60,61,62,57,63,64,11,12,65,66,67,68,69,70,71,72,13,73,74,75,76,77,78,79,80,81,82,83,84,85,86,87,88,89,90,91,92,93,94,95,96,97,99,100,101,102,103,98,104,105,12,106,107,108,109,110,111,112,113,114,115,14,116,117,118,119,120,121,122,123,124,125,126,127,128,129,130,131,132,133,134,135,136,137,138,139,140,141,142,143,144,145,146,147,148,45] 0 (by kernel_rfl) ?_ (Nat.zero_le _) ?_ ?_
  ·intro x _; simp [goodNames,asg]
  ·simp only [go_sem,s0,u0]
   exact ⟨fitF_T (by omega) fun _ _ => rfl,fitF_cl (hff c)⟩
  intro i hi
  match i,hi with
  | 0,hi =>
   have e0:contR (S 0).c = contC c:=by rw [s0]; rfl
   rw [e0]
   have en:S 1 = hit0 (B A) (B Q) (c):=by rw [hS]; rfl
   by_cases hM0:0 < M
   ·obtain ⟨t1,t2,t3⟩:=c5 0 (by omega)
    simp only [contC,go_sem,kw160p,kSli,kw153,k214,k160,k132,k129,k179,k171,tchs_at,tchC,loadP_E,storeP_E,← hs,hg,hq,c3,c4,c6,c8,s0,mApa,apaF,u0,u1,u2,updB_at,i1,i3,hA,hA2,iSli,inB_psh,t1,t2]
    have fin:∀ s:Hs,S 1 = s→fitF 40 40 [] (famT 0 N 27 151 155 (bsC (updB (updB B A (S 1).a) Q (S 1).b))) (some (famT 0 N 27 151 155 (bsC (updB (updB B A s.a) Q s.b))))∧fitF 40 40 [] (famE fam f q (contR (S 1).c)) (some (famE fam f q (contC s.c))):=fun s hs => by
     rw [hs]; exact ⟨fitF_T (by omega) fun _ _ => rfl,fitF_cl (hff s.c)⟩
    have w1:IntKind.i64.wrap 1 = ((1:Nat):Int):=by decide
    have hAQ:A + 1≠Q + 1:=by omega
    refine ⟨fun h => ⟨by omega,fun y hy => ⟨fun y0 v hv => ?_,fun y0 => ⟨hAQ,fun w hw => ⟨of_eq_true (iWh c3),fun w0 v hv => ?_,fun w0 => ⟨hAQ,of_eq_true (iWh c3),fun v hv => ?_⟩⟩⟩⟩⟩,fun h => absurd h (by omega)⟩
    ·have hk:(sliK (B A) (B Q) (c.P 0) c.nv).1 = 0:=by rw [y0] at hy; simpa using hy
     have es:S 1 = ⟨B A,B Q,c⟩:=by rw [en]; unfold hit0; rw [show hitR (B A) (B Q) (c.P 0) c.nv c.p0 c.r0 = ⟨B A,B Q,c.p0,c.r0⟩ from if_pos hk]
     exact ⟨1,by omega,by omega,by rw [hv,w1],by have q:=fin _ es; rw [u0] at q; exact q⟩
    ·have hk:¬ (sliK (B A) (B Q) (c.P 0) c.nv).1 = 0:=by rw [y0] at hy; simpa using hy
     have hk2:(sliK (apaA (B A) (c.P 0) c.nv (nSub (hitN (B A) (B Q) (c.P 0) c.nv c.p0) c.p0)) (apaB (B Q) (c.P 0) c.nv (nSub (hitN (B A) (B Q) (c.P 0) c.nv c.p0) c.p0)) (c.P 0) (vPerp c.nv)).1 = 0:=nb_f (w0.symm.trans hw)
     have es:=en
     unfold hit0 at es
     rw [hitR_b hk hk2] at es
     exact ⟨1,by omega,by omega,by rw [hv,w1],fin _ es⟩
    ·have hk:¬ (sliK (B A) (B Q) (c.P 0) c.nv).1 = 0:=by rw [y0] at hy; simpa using hy
     have hk2:¬ (sliK (apaA (B A) (c.P 0) c.nv (nSub (hitN (B A) (B Q) (c.P 0) c.nv c.p0) c.p0)) (apaB (B Q) (c.P 0) c.nv (nSub (hitN (B A) (B Q) (c.P 0) c.nv c.p0) c.p0)) (c.P 0) (vPerp c.nv)).1 = 0:=nb_t (w0.symm.trans hw)
     have es:=en
     unfold hit0 at es
     rw [hitR_c hk hk2] at es
     exact ⟨1,by omega,by omega,by rw [hv,w1],fin _ es⟩
   ·simp only [contC,go_sem,kw160p,kSli,kw153,k214,k160,k132,k129,k179,k171,tchs_at,tchC,loadP_E,storeP_E,← hs,hg,hq,c3,c4,c6,c8,s0,mApa,apaF,u0,u1,u2,updB_at,i1,i3,hA,hA2,iSli,inB_psh]
    refine ⟨fun h => absurd h (by omega),fun h => ?_⟩
    have hMe:M = 0:=by omega
    rw [hMe,s0]
    exact ⟨by dsimp only; rw [u0],rfl⟩
  | 1,hi =>
   have e1:S 1 = hit0 (B A) (B Q) c:=by rw [hS]; rfl
   have e2:S 2 = hit1 (S 1).a (S 1).b (S 1).c:=by rw [hS]; rfl
   obtain ⟨j1,j3,j5⟩:=hit0_in i1 i3 hc
   rw [← e1] at j1 j3 j5
   have k1:(S 1).c.nv = c.nv:=by rw [e1]; rfl
   have k2:(S 1).c.n = c.n:=by rw [e1]; rfl
   clear e1
   generalize hs1:S 1 = s at *
   have e0:contR s.c = contC s.c:=rfl
   rw [e0]
   obtain ⟨d1,d2,d3,d4,d5,d6,d7,d8,d9⟩:=id j5
   rw [k2] at d5
   have en:S 2 = hit1 (s.a) (s.b) (s.c):=e2
   by_cases hM0:1 < M
   ·obtain ⟨t1,t2,t3⟩:=d5 1 (by omega)
    simp only [contC,go_sem,kw160p,kSli,kw153,k214,k160,k132,k129,k179,k171,tchs_at,tchC,loadP_E,storeP_E,← hs,hg,hq,d3,d4,d7,d9,← k1,mApa,apaF,u0,u1,u2,updB_at,j1,j3,hA,hA2,iSli,inB_psh,t1,t2]
    have fin:∀ s:Hs,S 2 = s→fitF 40 40 [] (famT 0 N 27 151 155 (bsC (updB (updB B A (S 2).a) Q (S 2).b))) (some (famT 0 N 27 151 155 (bsC (updB (updB B A s.a) Q s.b))))∧fitF 40 40 [] (famE fam f q (contR (S 2).c)) (some (famE fam f q (contC s.c))):=fun s hs => by
     rw [hs]; exact ⟨fitF_T (by omega) fun _ _ => rfl,fitF_cl (hff s.c)⟩
    have w1:IntKind.i64.wrap 2 = ((2:Nat):Int):=by decide
    have hAQ:A + 1≠Q + 1:=by omega
    refine ⟨fun h => ⟨by omega,fun y hy => ⟨fun y0 v hv => ?_,fun y0 => ⟨hAQ,fun w hw => ⟨of_eq_true (iWh d3),fun w0 v hv => ?_,fun w0 => ⟨hAQ,of_eq_true (iWh d3),fun v hv => ?_⟩⟩⟩⟩⟩,fun h => absurd h (by omega)⟩
    ·have hk:(sliK (s.a) (s.b) (s.c.P 1) s.c.nv).1 = 0:=by rw [y0] at hy; simpa using hy
     have es:S 2 = ⟨s.a,s.b,s.c⟩:=by rw [en]; unfold hit1; rw [show hitR (s.a) (s.b) (s.c.P 1) s.c.nv s.c.p1 s.c.r1 = ⟨s.a,s.b,s.c.p1,s.c.r1⟩ from if_pos hk]
     exact ⟨2,by omega,by omega,by rw [hv,w1],fin _ es⟩
    ·have hk:¬ (sliK (s.a) (s.b) (s.c.P 1) s.c.nv).1 = 0:=by rw [y0] at hy; simpa using hy
     have hk2:(sliK (apaA (s.a) (s.c.P 1) s.c.nv (nSub (hitN (s.a) (s.b) (s.c.P 1) s.c.nv s.c.p1) s.c.p1)) (apaB (s.b) (s.c.P 1) s.c.nv (nSub (hitN (s.a) (s.b) (s.c.P 1) s.c.nv s.c.p1) s.c.p1)) (s.c.P 1) (vPerp s.c.nv)).1 = 0:=nb_f (w0.symm.trans hw)
     have es:=en
     unfold hit1 at es
     rw [hitR_b hk hk2] at es
     exact ⟨2,by omega,by omega,by rw [hv,w1],fin _ es⟩
    ·have hk:¬ (sliK (s.a) (s.b) (s.c.P 1) s.c.nv).1 = 0:=by rw [y0] at hy; simpa using hy
     have hk2:¬ (sliK (apaA (s.a) (s.c.P 1) s.c.nv (nSub (hitN (s.a) (s.b) (s.c.P 1) s.c.nv s.c.p1) s.c.p1)) (apaB (s.b) (s.c.P 1) s.c.nv (nSub (hitN (s.a) (s.b) (s.c.P 1) s.c.nv s.c.p1) s.c.p1)) (s.c.P 1) (vPerp s.c.nv)).1 = 0:=nb_t (w0.symm.trans hw)
     have es:=en
     unfold hit1 at es
     rw [hitR_c hk hk2] at es
     exact ⟨2,by omega,by omega,by rw [hv,w1],fin _ es⟩
   ·simp only [contC,go_sem,kw160p,kSli,kw153,k214,k160,k132,k129,k179,k171,tchs_at,tchC,loadP_E,storeP_E,← hs,hg,hq,d3,d4,d7,d9,← k1,mApa,apaF,u0,u1,u2,updB_at,j1,j3,hA,hA2,iSli,inB_psh]
    refine ⟨fun h => absurd h (by omega),fun h => ?_⟩
    have hMe:M = 1:=by omega
    rw [hMe,hs1]
    exact ⟨rfl,rfl⟩
  | i + 2,hi =>
   have e:i = 0:=by omega
   subst e
   have hMe:M = 2:=by omega
   have k2:(S (0 + 2)).c.n = c.n:=by rw [hS]; rfl
   have e0:contR (S (0 + 2)).c = contC (S (0 + 2)).c:=rfl
   rw [e0,hMe]
   generalize S (0 + 2) = s at *
   simp only [contC,go_sem,kw160p,kSli,kw153,k214,k160,k132,k129,k179,k171,tchs_at,tchC,loadP_E,storeP_E,← hs,hg,hq]
   exact fun h => h.elim
 ·cases hF
theorem mulN_eq {x y C:Int} (hx:-9223372036854775807≤x∧x≤9223372036854775807) (hy:-9223372036854775807≤y∧y≤9223372036854775807) (h:-(C * 4294967296)≤x * y∧x * y≤C * 4294967296) (hC:C≤9223372036854775807):nMul (x,false) (y,false) = ((x * y).tdiv 4294967296,false)∧-C≤(x * y).tdiv 4294967296∧(x * y).tdiv 4294967296≤C:=by
 have t:=tdiv_bd (v:=x * y) (C:=C) (k:=4294967296) (by omega) h
 unfold nMul
 dsimp only
 rw [whV_of (v:=x) hx,whV_of (v:=y) hy,whF_of (v:=x) hx,whF_of (v:=y) hy]
 generalize (x * y).tdiv 4294967296 = q at *
 rw [ftV_of (x:=q) (by unfold rg; omega),ftF_of (x:=q) (by unfold rg; omega)]
 exact ⟨rfl,t⟩
theorem dotN_eq {x y z u C:Int} (hx:-9223372036854775807≤x∧x≤9223372036854775807) (hy:-9223372036854775807≤y∧y≤9223372036854775807) (hz:-9223372036854775807≤z∧z≤9223372036854775807) (hu:-9223372036854775807≤u∧u≤9223372036854775807) (h:-(C * 4294967296)≤x * y + z * u∧x * y + z * u≤C * 4294967296) (hC:C≤9223372036854775807) :
  nDot (x,false) (y,false) (z,false) (u,false) = ((x * y + z * u).tdiv 4294967296,false)∧-C≤(x * y + z * u).tdiv 4294967296∧(x * y + z * u).tdiv 4294967296≤C:=by
 have t:=tdiv_bd (v:=x * y + z * u) (C:=C) (k:=4294967296) (by omega) h
 unfold nDot
 dsimp only
 rw [whV_of (v:=x) hx,whV_of (v:=y) hy,whF_of (v:=x) hx,whF_of (v:=y) hy,whV_of (v:=z) hz,whV_of (v:=u) hu,whF_of (v:=z) hz,whF_of (v:=u) hu]
 generalize (x * y + z * u).tdiv 4294967296 = q at *
 rw [ftV_of (x:=q) (by unfold rg; omega),ftF_of (x:=q) (by unfold rg; omega)]
 exact ⟨rfl,t⟩
theorem addN_eq {x y:Int} (hx:-4611686018427387903≤x∧x≤4611686018427387903) (hy:-4611686018427387903≤y∧y≤4611686018427387903):nAdd (x,false) (y,false) = (x + y,false):=by
 unfold nAdd
 dsimp only
 rw [whV_of (v:=x) (by unfold rg; omega),whV_of (v:=y) (by unfold rg; omega),whF_of (v:=x) (by unfold rg; omega),whF_of (v:=y) (by unfold rg; omega),ftV_of (x:=x + y) (by unfold rg; omega),ftF_of (x:=x + y) (by unfold rg; omega)]
 rfl
theorem subN_eq {x y:Int} (hx:-4611686018427387903≤x∧x≤4611686018427387903) (hy:-4611686018427387903≤y∧y≤4611686018427387903):nSub (x,false) (y,false) = (x - y,false):=by
 unfold nSub
 dsimp only
 rw [whV_of (v:=x) (by unfold rg; omega),whV_of (v:=y) (by unfold rg; omega),whF_of (v:=x) (by unfold rg; omega),whF_of (v:=y) (by unfold rg; omega),ftV_of (x:=x - y) (by unfold rg; omega),ftF_of (x:=x - y) (by unfold rg; omega)]
 rfl
theorem negN_eq {x:Int} (hx:-9223372036854775807≤x∧x≤9223372036854775807):nNeg (x,false) = (-x,false):=by
 unfold nNeg
 dsimp only
 rw [whV_of (v:=x) hx,whF_of (v:=x) hx]
theorem nwh_eq {x:Int} (hx:-9223372036854775807≤x∧x≤9223372036854775807):nWh (x,false) = (x,false):=by
 unfold nWh
 dsimp only
 rw [whV_of (v:=x) hx,whF_of (v:=x) hx]
theorem lim_in {x n:Int} {f:Bool} (hn:0≤n∧n≤65536) (h:-(n * 4294967296)≤x∧x≤n * 4294967296):limS (x,f) n = (x,false):=by
 unfold limS nCl
 rw [int_in (k:=-n) (by omega),int_in (k:=n) (by omega)]
 dsimp only
 rw [whV_of (v:=x) (by unfold rg; omega),whV_of (v:=-n * 4294967296) (by unfold rg; omega),whV_of (v:=n * 4294967296) (by unfold rg; omega)]
 have:max (-n * 4294967296) (min x (n * 4294967296)) = x:=by omega
 rw [this]
end Go.Ax
end