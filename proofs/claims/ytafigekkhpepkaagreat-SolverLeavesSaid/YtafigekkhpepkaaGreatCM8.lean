/-
  How two polygons touch, by the reference.
-/
import Derived.Test.YtafigekkhpepkaaGreatCM7
set_option linter.unusedVariables false
set_option linter.unusedSimpArgs false
section
set_option maxHeartbeats 4000000
set_option maxRecDepth 100000
namespace Go.Ax
open Go.Proofs
def tcN (nv a b:V2):Nat → Nat
 | 0 => 0
 | 1 => if (vDot nv a).1 ≤ 0 then 1 else 0
 | _ => (if (vDot nv a).1 ≤ 0 then 1 else 0) + (if (vDot nv b).1 ≤ 0 then 1 else 0)
theorem tcN_0 {nv a b:V2}:tcN nv a b 0 = 0:=rfl
theorem tcN_1 {nv a b:V2}:tcN nv a b 1 = if (vDot nv a).1 ≤ 0 then 1 else 0:=rfl
theorem tcN_2 {nv a b:V2}:tcN nv a b 2 = tcN nv a b 1 + if (vDot nv b).1 ≤ 0 then 1 else 0:=rfl
def tcP (nv p a b:V2) (j:Nat):V2:=if (vDot nv a).1 ≤ 0 ∧ j = 0 then vAdd p a else vAdd p b
def tcD (nv a b:V2) (j:Nat):Nb:=if (vDot nv a).1 ≤ 0 ∧ j = 0 then nNeg (vDot nv a) else nNeg (vDot nv b)
theorem flK_tc {nv p a b q:V2} {d:Nb} (h:0 < tcN nv a b 2):(flK nv p a b q d).nv = nv ∧ (flK nv p a b q d).n = tcN nv a b 2 ∧ ∀ j,j < tcN nv a b 2 → (flK nv p a b q d).P j = tcP nv p a b j ∧ (flK nv p a b q d).D j = tcD nv a b j:=by
 rw [tcN_2,tcN_1] at h ⊢
 unfold flK flM tcP tcD
 by_cases ha:(vDot nv a).1 ≤ 0
 ·rw [if_pos (.inl ha),if_pos ha,if_pos ha]
  by_cases hb:(vDot nv b).1 ≤ 0
  ·rw [if_pos hb,if_pos hb]
   refine ⟨rfl,rfl,fun j hj => ?_⟩
   dsimp only
   by_cases e:j = 0
   ·rw [if_pos e,if_pos e,if_pos ⟨ha,e⟩,if_pos ⟨ha,e⟩]
    exact ⟨rfl,rfl⟩
   ·rw [if_neg e,if_neg e,if_neg (fun q => e q.2),if_neg (fun q => e q.2)]
    exact ⟨rfl,rfl⟩
  ·rw [if_neg hb,if_neg hb]
   refine ⟨rfl,rfl,fun j hj => ?_⟩
   have e:j = 0:=by omega
   rw [if_pos ⟨ha,e⟩,if_pos ⟨ha,e⟩]
   exact ⟨rfl,rfl⟩
 ·rw [if_neg ha] at h
  have hb:(vDot nv b).1 ≤ 0:=by
   apply Classical.byContradiction
   intro hb
   rw [if_neg hb] at h
   omega
  rw [if_pos (.inr hb),if_neg ha,if_neg ha,if_pos hb]
  refine ⟨rfl,rfl,fun j hj => ?_⟩
  rw [if_neg (fun q => ha q.1),if_neg (fun q => ha q.1)]
  exact ⟨rfl,rfl⟩
theorem flK_no {nv p a b q:V2} {d:Nb} (h:¬ 0 < tcN nv a b 2):flK nv p a b q d = mf1 nv q d:=by
 rw [tcN_2,tcN_1] at h
 refine if_neg ?_
 rintro (k | k)
 ·rw [if_pos k] at h
  omega
 ·rw [if_pos k] at h
  omega
theorem alk_mf {m:Mf} {nv:V2} {n:Nat} {g:Nat → List AV} (h1:m.nv = nv) (h2:m.n = n) (h3:∀ i,i < n → g i = tchC (m.P i) (m.D i)):alk (mfA m) (.agg [i64 nv.1.1,bo nv.1.2,i64 nv.2.1,bo nv.2.2,.ro n 6 g]):=by
 subst h1 h2
 exact alk_shape (alk_ro6 h3)
theorem vc233 (k x y r:Int) (n:Nat) (X Y:Nat → Int) (k' x' y' r':Int) (m:Nat) (Z T:Nat → Int) (i:Nat) (hX:∀ i,i < n → inR (X i) ∧ inR (Y i)) (hZ:∀ i,i < m → inR (Z i) ∧ inR (T i)) (hA:checkS k x y r n X Y = 0) (hB:checkS k' x' y' r' m Z T = 0) (hk:¬ k = 1) (hk':¬ k' = 1) (hi:i < n) :
  fnVC Tryz.prog [(273,c273),(274,k83),(34,k145),(29,c29),(268,c268),(276,k149),(141,k140),(213,k69),(142,k47),(277,kclp),(81,k46),(86,k138),(92,k111),(78,k143)] [(9,⟨[(6,.made 5)],[]⟩),(11,⟨[(3,.slot 11)],[]⟩),(14,⟨[(10,.made 8),(11,.made 9)],[]⟩),(16,⟨[(12,.slot 20),(13,.slot 21)],[]⟩),(17,⟨[(16,.slot 20),(17,.slot 21)],[]⟩),(27,⟨[(13,.slot 23)],[]⟩),(34,⟨[(11,.made 10)],[]⟩),(36,⟨[(3,.slot 11)],[]⟩),(37,⟨[(14,.slot 23)],[]⟩)] Tryz.f233 [edA k x y r n X Y,edA k' x' y' r' m Z T,i64 (i:Int)] (alk (mfA (flS n X Y m Z T i))):=by
 refine fnVC_go (rs:=[.cell 6 29]) rfl rfl ?_
 have hg:spots n fun i => [i64 (X i),i64 (Y i)]:=fun i hi => ⟨rfl,hX i hi⟩
 have hg':spots m fun i => [i64 (Z i),i64 (T i)]:=fun i hi => ⟨rfl,hZ i hi⟩
 have h8:=fig_n hA hk
 have m8:=fig_n hB hk'
 have hn:n ≤ 9223372036854775806:=by omega
 have hm:m ≤ 9223372036854775806:=by omega
 have vX:=(check_1 hA).2.2.1
 have vZ:=(check_1 hB).2.2.1
 have hil:=nxt_lt hi
 simp only [go_sem,c273,k83,k145,c29,c268,k149,k140,k69,k47,kclp,k46,k138,k111,k143,gx_pts0,gx_pts1,hg,hg',hn,hm,Int.toNat_natCast,vX i hi,vX _ hil]
 refine ⟨by omega,by omega,?_⟩
 refine loopC_go (fun (j:Nat) => j ≤ m) (fun j => m - j) (fun j => [(12,i64 (j:Int)),(10,i64 ((lsQ (agK m Z T (edN n X Y i)) (0,false) j).1:Int))])
  (fun j => [(20,fam1 24 2 [i64 (lsQ (agK m Z T (edN n X Y i)) (0,false) j).2.1,bo (lsQ (agK m Z T (edN n X Y i)) (0,false) j).2.2] none)]) [16,10,9,2,1,0] [40,41,42,43,44,48,49,50,47,51,52,13,14,53,54,55,56,57,15,58,59,60,61,62,63,64,65,66,67,10,45,46,12] 0 (by kernel_rfl) ?_ (Nat.zero_le _) ?_ ?_
 ·intro i _; simp [goodNames,asg]
 ·simp only [go_sem]
  repeat' (first | rfl | apply And.intro)
 intro j hj
 simp only [go_sem,c273,k83,k145,c29,c268,k149,k140,k69,k47,kclp,k46,k138,k111,k143,gx_pts0,gx_pts1,hg,hg',hn,hm]
 have hw:j < m → IntKind.i64.wrap ((j:Int) + 1) = ((j + 1:Nat):Int):=fun h => by rw [wrap_in (by unfold inR; omega)]; rfl
 have eN:vNorm (X i) (Y i) (X (nxt n i)) (Y (nxt n i)) = edN n X Y i:=rfl
 have eK:vDot (vNorm (Z j) (T j) (Z (nxt m j)) (T (nxt m j))) (edN n X Y i) = agK m Z T (edN n X Y i) j:=rfl
 simp only [eN,eK]
 refine ⟨fun hin => ?_,fun hin => ?_⟩
 ·have hlt:j < m:=by omega
  refine ⟨by omega,hin,vZ j hlt,vZ _ (nxt_lt hlt),fun z hz => ⟨fun h z1 hz1 => ⟨j + 1,by omega,by omega,?_⟩,fun h z1 hz1 => ⟨j + 1,by omega,by omega,?_⟩⟩⟩
  ·rw [lsQ_hit (h.imp (fun q => by simpa using q) (fun q => by rw [← hz]; exact q)),hz1,hw hlt]
   exact ⟨⟨rfl,rfl⟩,rfl,rfl⟩
  ·have h1:¬ j = 0:=by
    intro q
    subst q
    exact absurd h.1 (by decide)
   rw [lsQ_not (fun q => q.elim h1 (fun q => h.2 (by rw [hz]; exact q))),hz1,hw hlt]
   exact ⟨⟨rfl,rfl⟩,rfl,rfl⟩
 ·have e:j = m - 1 + 1:=by omega
  have eJ:lsQ (agK m Z T (edN n X Y i)) (0,false) j = (flJ n X Y m Z T i,agK m Z T (edN n X Y i) (flJ n X Y m Z T i)):=by rw [e,lsQ_eq]; rfl
  have hJ:flJ n X Y m Z T i < m:=by
   have:=leI_lt (h:=agK m Z T (edN n X Y i)) (m - 1)
   unfold flJ
   omega
  rw [eJ]
  have hJn:=nxt_lt hJ
  have hxi:=hX i hi
  have hxn:=hX _ hil
  have hzj:=hZ _ hJ
  have hzn:=hZ _ hJn
  simp only [go_sem,c273,k83,k145,c29,c268,k149,k140,k69,k47,kclp,k46,k138,k111,k143,gx_pts0,gx_pts1,hg,hg',hn,hm]
  have eT:(vUnit (vOf (mnW (X i) (X (nxt n i))) (mnW (Y i) (Y (nxt n i))))).2 = flT n X Y i:=rfl
  have eE:vLen (vLoc (mnW (X i) (X (nxt n i))) (mnW (Y i) (Y (nxt n i)))) = flE n X Y i:=rfl
  generalize hJq:flJ n X Y m Z T i = J at *
  have e0:vLoc (mnW (X i) (Z J)) (mnW (Y i) (T J)) = fx0 X Y Z T i J:=rfl
  have e1:vLoc (mnW (X i) (Z (nxt m J))) (mnW (Y i) (T (nxt m J))) = fx0 X Y Z T i (nxt m J):=rfl
  have i1:∀ j,inR (fx0 X Y Z T i j).1.1:=fun j => of_eq_true iLoc1
  have i2:∀ j,inR (fx0 X Y Z T i j).2.1:=fun j => of_eq_true iLoc2
  have c1:clpX (fx0 X Y Z T i J) (fx0 X Y Z T i (nxt m J)) (vDot (flT n X Y i) (fx0 X Y Z T i J)) (vDot (flT n X Y i) (fx0 X Y Z T i (nxt m J))) = cl1X (flT n X Y i) (fx0 X Y Z T i J) (fx0 X Y Z T i (nxt m J)):=rfl
  have c2:clpY (fx0 X Y Z T i J) (fx0 X Y Z T i (nxt m J)) (vDot (flT n X Y i) (fx0 X Y Z T i J)) (vDot (flT n X Y i) (fx0 X Y Z T i (nxt m J))) = cl1Y (flT n X Y i) (fx0 X Y Z T i J) (fx0 X Y Z T i (nxt m J)):=rfl
  have c3:clpX (cl1X (flT n X Y i) (fx0 X Y Z T i J) (fx0 X Y Z T i (nxt m J))) (cl1Y (flT n X Y i) (fx0 X Y Z T i J) (fx0 X Y Z T i (nxt m J))) (nSub (flE n X Y i) (vDot (flT n X Y i) (cl1X (flT n X Y i) (fx0 X Y Z T i J) (fx0 X Y Z T i (nxt m J))))) (nSub (flE n X Y i) (vDot (flT n X Y i) (cl1Y (flT n X Y i) (fx0 X Y Z T i J) (fx0 X Y Z T i (nxt m J))))) = flA n X Y m Z T i J:=rfl
  have c4:clpY (cl1X (flT n X Y i) (fx0 X Y Z T i J) (fx0 X Y Z T i (nxt m J))) (cl1Y (flT n X Y i) (fx0 X Y Z T i J) (fx0 X Y Z T i (nxt m J))) (nSub (flE n X Y i) (vDot (flT n X Y i) (cl1X (flT n X Y i) (fx0 X Y Z T i J) (fx0 X Y Z T i (nxt m J))))) (nSub (flE n X Y i) (vDot (flT n X Y i) (cl1Y (flT n X Y i) (fx0 X Y Z T i J) (fx0 X Y Z T i (nxt m J))))) = flB n X Y m Z T i J:=rfl
  simp only [forall_eq,mnW_eq,eT,eE,e0,e1,c1,c2,c3,c4]
  have iA:inR (flA n X Y m Z T i J).1.1 ∧ inR (flA n X Y m Z T i J).2.1:=⟨clpX_in1 (clpX_in1 (i1 _)),clpX_in2 (clpX_in2 (i2 _))⟩
  have iB:inR (flB n X Y m Z T i J).1.1 ∧ inR (flB n X Y m Z T i J).2.1:=⟨clpY_in1 (clpY_in1 (i1 _)),clpY_in2 (clpY_in2 (i2 _))⟩
  have iw:∀ a b,inR (mnW a b):=fun a b => wrap_inR _
  refine ⟨by omega,by omega,iw _ _,iw _ _,iw _ _,iw _ _,iw _ _,iw _ _,iw _ _,iw _ _,clpX_in1 (i1 _),clpX_in2 (i2 _),clpY_in1 (i1 _),clpY_in2 (i2 _),clpX_in1 (i1 _),clpX_in2 (i2 _),clpY_in1 (i1 _),clpY_in2 (i2 _),?_⟩
  have hS:flS n X Y m Z T i = flK (edN n X Y i) (vLoc (X i) (Y i)) (flA n X Y m Z T i J) (flB n X Y m Z T i J) (vLoc (Z (flW n X Y m Z T i)) (T (flW n X Y m Z T i))) (nPos (nNeg (edH n X Y Z T i (flW n X Y m Z T i)))):=by unfold flS; rw [hJq]
  rw [hS]
  generalize flA n X Y m Z T i J = a at *
  generalize flB n X Y m Z T i J = b at *
  have iN:inR (edN n X Y i).1.1 ∧ inR (edN n X Y i).2.1:=⟨of_eq_true iNorm1,of_eq_true iNorm2⟩
  generalize hnv:edN n X Y i = nv at *
  generalize agK m Z T nv J = ls at *
  have b69:bytesT Tryz.prog 69 = 48:=byt69
  refine loopN_go (fun (s:Nat) => s ≤ 2) (fun s => 2 - s) (fun s => [(24,i64 (s:Int))]) (fun s => [(102,fam1 29 5 [i64 nv.1.1,bo nv.1.2,i64 nv.2.1,bo nv.2.2,.own 105 0 (tcN nv a b s) 6] none),(105,famN (tcN nv a b s) 6 69 (tchs (tcP nv (vLoc (X i) (Y i)) a b) (tcD nv a b)) none)]) [66,58,57,46,35,34,20,16,10,9,2,1,0] [125,126,129,25,130,131,132,133,134,135,26,136,137,138,139,140,141,142,143,144,145,146,147,148,149,150,151,127,128,24] 1 0 (by kernel_rfl) (Nat.zero_le _) ⟨[(105,none)],?_,?_,?_,?_⟩ ?_
  ·simp only [go_sem]
  ·simp only [go_sem,tcN]
  ·simp only [go_sem]
  ·simp [goodNames,asg]
  intro s hs
  match s with
  | 0 =>
   rw [tcN_0]
   simp only [go_sem,c273,k83,k145,c29,c268,k149,k140,k69,k47,kclp,k46,k138,k111,k143,gx_pts0,gx_pts1,hg,hg',hn,hm,hxi,iA,iB,b69]
   simp only [Int.reduceBEq,Bool.false_eq_true,false_imp_iff,true_imp_iff,true_and,and_true,reduceCtorEq]
   refine ⟨iN.1,iN.2,fun ha z hz => ⟨1,by omega,by omega,[(105,some 132)],?_⟩,fun ha z hz => ⟨1,by omega,by omega,[(105,some 105)],?_⟩⟩
   ·rw [tcN_1,if_pos ha]
    simp only [go_sem]
    refine ⟨by rw [hz]; decide,fun q hq => ?_,by simp [goodNames,asg]⟩
    have:q = 0:=by omega
    subst this
    rw [if_neg (by omega)]
    have e:∀ c d:V2,∀ f:Nb,c = tcP nv (vLoc (X i) (Y i)) a b 0 → f = tcD nv a b 0 → List.take 6 (List.drop ((0 - 0) * 6) [i64 c.1.1,bo c.1.2,i64 c.2.1,bo c.2.2,i64 f.1,bo f.2]) = tchs (tcP nv (vLoc (X i) (Y i)) a b) (tcD nv a b) 0:=fun c d f h1 h2 => by
     subst h1 h2
     rfl
    rw [e _ zV _ (if_pos ⟨ha,rfl⟩).symm (if_pos ⟨ha,rfl⟩).symm]
    exact fitL_clean rfl
   ·rw [tcN_1,if_neg ha]
    simp only [go_sem]
    exact ⟨by rw [hz]; decide,fun q hq => absurd hq (Nat.not_lt_zero q),by simp [goodNames,asg]⟩
  | 1 =>
   have hp1:tcN nv a b 1 ≤ 1:=by
    rw [tcN_1]
    split <;> omega
   simp only [go_sem,c273,k83,k145,c29,c268,k149,k140,k69,k47,kclp,k46,k138,k111,k143,gx_pts0,gx_pts1,hg,hg',hn,hm,hxi,iA,iB,b69]
   simp only [Int.reduceBEq,Bool.false_eq_true,false_imp_iff,true_imp_iff,true_and,and_true,reduceCtorEq]
   refine ⟨iN.1,iN.2,fun hb => ⟨by omega,by omega,fun z hz => ⟨2,by omega,by omega,[(105,some 134)],?_⟩⟩,fun hb z hz => ⟨2,by omega,by omega,[(105,some 105)],?_⟩⟩
   ·rw [tcN_2,if_pos hb]
    simp only [go_sem]
    refine ⟨by rw [hz]; decide,fun q hq => ?_,by simp [goodNames,asg]⟩
    by_cases hqp:q < tcN nv a b 1
    ·rw [if_pos hqp]
     exact fitL_clean rfl
    ·rw [if_neg hqp]
     have hq2:q = tcN nv a b 1:=by omega
     have hq3:¬ ((vDot nv a).1 ≤ 0 ∧ q = 0):=fun ⟨u1,u2⟩ => by
      rw [tcN_1,if_pos u1] at hq2
      omega
     have e:∀ c d:V2,∀ f:Nb,c = tcP nv (vLoc (X i) (Y i)) a b q → f = tcD nv a b q → List.take 6 (List.drop ((q - tcN nv a b 1) * 6) [i64 c.1.1,bo c.1.2,i64 c.2.1,bo c.2.2,i64 f.1,bo f.2]) = tchs (tcP nv (vLoc (X i) (Y i)) a b) (tcD nv a b) q:=fun c d f h1 h2 => by
      subst h1 h2
      rw [← hq2,Nat.sub_self]
      rfl
     rw [e _ zV _ (if_neg hq3).symm (if_neg hq3).symm]
     exact fitL_clean rfl
   ·rw [tcN_2,if_neg hb,Nat.add_zero]
    simp only [go_sem]
    exact ⟨by rw [hz]; decide,fun q hq => fitL_clean rfl,by simp [goodNames,asg]⟩
  | 2 =>
   simp only [go_sem,c273,k83,k145,c29,c268,k149,k140,k69,k47,kclp,k46,k138,k111,k143,gx_pts0,gx_pts1,hg,hg',hn,hm,hxi,iA,iB,b69]
   refine ⟨fun h => h.elim,fun _ => ?_⟩
   refine ⟨fun h => ?_,fun h => ?_⟩
   ·have h:0 < tcN nv a b 2:=by omega
    obtain ⟨k1,k2,k3⟩:=flK_tc (p:=vLoc (X i) (Y i)) (q:=vLoc (Z (flW n X Y m Z T i)) (T (flW n X Y m Z T i))) (d:=nPos (nNeg (edH n X Y Z T i (flW n X Y m Z T i)))) h
    refine alk_mf k1 k2 fun q hq => ?_
    rw [(k3 q hq).1,(k3 q hq).2]
    rfl
   have h:¬ 0 < tcN nv a b 2:=by omega
   rw [flK_no h]
   refine loopC_go (fun (j:Nat) => j ≤ m) (fun j => m - j) (fun j => [(28,i64 (j:Int)),(27,i64 ((lsQ (edH n X Y Z T i) ls j).1:Int))])
    (fun j => [(20,fam1 24 2 [i64 (lsQ (edH n X Y Z T i) ls j).2.1,bo (lsQ (edH n X Y Z T i) ls j).2.2] none)]) [105,102,66,58,57,46,35,34,16,10,9,2,1,0] [157,158,159,160,161,164,165,166,167,168,169,170,171,172,173,29,174,175,176,177,178,179,180,181,182,183,27,162,163,28] 0 (by kernel_rfl) ?_ (Nat.zero_le _) ?_ ?_
   ·intro j _; simp [goodNames,asg]
   ·simp only [go_sem]
    repeat' (first | rfl | apply And.intro)
   intro l hl
   simp only [go_sem,c273,k83,k145,c29,c268,k149,k140,k69,k47,kclp,k46,k138,k111,k143,gx_pts0,gx_pts1,hg,hg',hn,hm,hxi,iA,iB,b69]
   have eH:vDot nv (vLoc (mnW (X i) (Z l)) (mnW (Y i) (T l))) = edH n X Y Z T i l:=by
    rw [← hnv]
    rfl
   have hw2:l < m → IntKind.i64.wrap ((l:Int) + 1) = ((l + 1:Nat):Int):=fun h => by rw [wrap_in (by unfold inR; omega)]; rfl
   simp only [forall_eq,mnW_eq,eH]
   refine ⟨fun hin2 => ?_,fun hin2 => ?_⟩
   ·have hlt:l < m:=by omega
    refine ⟨by omega,hin2,iw _ _,iw _ _,iN.1,iN.2,fun h => ⟨l + 1,by omega,by omega,?_⟩,fun h => ⟨l + 1,by omega,by omega,?_⟩⟩
    ·rw [lsQ_hit (h.imp (fun q => by simpa using q) (fun q => q)),hw2 hlt]
     exact ⟨⟨rfl,rfl⟩,rfl,rfl⟩
    ·have h1:¬ l = 0:=by
      intro q
      subst q
      exact absurd h.1 (by decide)
     rw [lsQ_not (fun q => q.elim h1 h.2),hw2 hlt]
     exact ⟨⟨rfl,rfl⟩,rfl,rfl⟩
   ·have e2:l = m - 1 + 1:=by omega
    have eW:lsQ (edH n X Y Z T i) ls l = (flW n X Y m Z T i,edH n X Y Z T i (flW n X Y m Z T i)):=by rw [e2,lsQ_eq]; rfl
    have hW:flW n X Y m Z T i < m:=by
     have:=leI_lt (h:=edH n X Y Z T i) (m - 1)
     unfold flW
     omega
    rw [eW]
    have hzw:=hZ _ hW
    have hr:inR (edH n X Y Z T i (flW n X Y m Z T i)).1:=rg_inR hgt_rg
    exact ⟨by omega,by omega,hzw.1,hzw.2,hr,of_eq_true (iNeg hr),alk_one rfl⟩
  | q + 3 => omega
end Go.Ax
end
section
/-
  How forms touch: all numbers of it are int64s.
-/
set_option maxHeartbeats 4000000
set_option maxRecDepth 100000
namespace Go.Ax
open Go.Proofs
def inV (v:V2):Prop:=inR v.1.1 ∧ inR v.2.1
def inM (m:Mf):Prop:=inV m.nv ∧ m.n ≤ 2 ∧ ∀ j,inV (m.P j) ∧ inR (m.D j).1
theorem inV_norm {a b c d:Int}:inV (vNorm a b c d):=⟨of_eq_true iNorm1,of_eq_true iNorm2⟩
theorem inV_unit {u:V2}:inV (vUnit u).2:=⟨of_eq_true iUnit1,of_eq_true iUnit2⟩
theorem inV_add {u v:V2}:inV (vAdd u v):=⟨of_eq_true iVAdd1,of_eq_true iVAdd2⟩
theorem inV_sub {u v:V2}:inV (vSub u v):=⟨of_eq_true iVSub1,of_eq_true iVSub2⟩
theorem inV_loc {x y:Int}:inV (vLoc x y):=⟨of_eq_true iLoc1,of_eq_true iLoc2⟩
theorem inV_scale {u:V2} {k:Nb}:inV (vScale u k):=⟨of_eq_true iScale1,of_eq_true iScale2⟩
theorem inR_z:inR 0:=by unfold inR; decide
theorem inV_z:inV zV:=⟨inR_z,inR_z⟩
theorem inR_ps {a:Nb} (h:inR a.1):inR (nPos a).1:=of_eq_true (iPos h)
theorem inR_ng {a:Nb} (h:inR a.1):inR (nNeg a).1:=of_eq_true (iNeg h)
theorem inR_sb {a b:Nb}:inR (nSub a b).1:=of_eq_true iSub
theorem inR_dot {u v:V2}:inR (vDot u v).1:=of_eq_true iVDot
theorem inR_hgt {a b c d x y:Int}:inR (hgt a b c d x y).1:=rg_inR hgt_rg
theorem mf1_in {nv p:V2} {d:Nb} (hn:inV nv) (hp:inV p) (hd:inR d.1):inM (mf1 nv p d):=⟨hn,by show 1 ≤ 2; omega,fun _ => ⟨hp,hd⟩⟩
theorem mf0_in:inM mf0:=⟨inV_z,by show 0 ≤ 2; omega,fun _ => ⟨inV_z,inR_z⟩⟩
theorem trnS_in {m:Mf} (h:inM m):inM (trnS m):=⟨inV_scale,h.2⟩
theorem twoS_in {x y r x' y' r':Int}:inM (twoS x y r x' y' r'):=by
 refine mf1_in ?_ inV_add (inR_ps inR_sb)
 unfold twN
 split
 ·exact inV_unit
 ·exact ⟨of_eq_true inR_one,inR_z⟩
theorem deepS_in {n:Nat} {X Y:Nat → Int} {x y r:Int} {s:AxT} (h:inR s.2.2.1):inM (deepS n X Y x y r s):=mf1_in inV_norm inV_sub (inR_ps (inR_ng h))
theorem rdS_in {n:Nat} {X Y:Nat → Int} {x y r:Int}:inM (rdS n X Y x y r):=by
 refine mf1_in ?_ inV_add (inR_ps inR_sb)
 unfold rdV
 split
 ·exact inV_norm
 ·exact inV_unit
theorem pdS_in {n:Nat} {X Y:Nat → Int} {x y r:Int}:inM (pdS n X Y x y r):=by
 unfold pdS
 split
 ·exact deepS_in (axSt_in (fun _ => rg_inR gD_rg) (fun _ => rg_inR gD_rg) _)
 ·exact rdS_in
theorem flM_in {nv p x y:V2} (h:inV nv):inM (flM nv p x y):=by
 unfold flM
 split
 ·split
  ·refine ⟨h,by show 2 ≤ 2; omega,fun j => ?_⟩
   dsimp only
   split
   ·exact ⟨inV_add,inR_ng inR_dot⟩
   ·exact ⟨inV_add,inR_ng inR_dot⟩
  ·exact mf1_in h inV_add (inR_ng inR_dot)
 ·exact mf1_in h inV_add (inR_ng inR_dot)
theorem flS_in {n m:Nat} {X Y Z T:Nat → Int} {i:Nat}:inM (flS n X Y m Z T i):=by
 unfold flS flK
 split
 ·exact flM_in inV_norm
 ·exact mf1_in inV_norm inV_loc (inR_ps (inR_ng inR_hgt))
theorem clipS_in {k x y r:Int} {n:Nat} {X Y:Nat → Int} {k' x' y' r':Int} {m:Nat} {Z T:Nat → Int}:inM (clipS k x y r n X Y k' x' y' r' m Z T):=by
 unfold clipS
 split
 ·split
  ·split
   ·exact twoS_in
   ·exact trnS_in pdS_in
  ·split
   ·exact pdS_in
   ·split
    ·exact flS_in
    ·exact trnS_in flS_in
 ·exact mf0_in
end Go.Ax
end
section
/-
  How forms touch, and bodies, by the reference.
-/
set_option maxHeartbeats 4000000
set_option maxRecDepth 100000
namespace Go.Ax
open Go.Proofs
theorem axF_ix1 {G:Nat → Nb} {s:AxT} {n:Nat} (h:s.1 = 0 ∧ 0 ≤ s.2.1 ∧ s.2.1 < n):∀ i:Nat,((axF 1 G s i).1 = 0 ∧ 0 ≤ (axF 1 G s i).2.1 ∧ (axF 1 G s i).2.1 < n) ∨ ((axF 1 G s i).1 = 1 ∧ 0 ≤ (axF 1 G s i).2.1 ∧ (axF 1 G s i).2.1 < i)
 | 0 => .inl h
 | i + 1 => by
  have ih:=axF_ix1 (G:=G) h i
  by_cases c:(axF 1 G s i).2.1 < 0 ∨ 0 < cmpS (whV (G i).1) (whV (axF 1 G s i).2.2.1)
  ·rw [axF_hit c]
   dsimp only
   exact .inr ⟨rfl,by omega,by omega⟩
  ·rw [axF_not c]
   omega
theorem axF_of {o:Int} {G:Nat → Nb}:∀ i:Nat,(axF o G ax0 (i + 1)).1 = o
 | 0 => by rw [axF_hit (.inl (by show (-1:Int) < 0; decide))]
 | i + 1 => by
  have ih:=axF_of (o:=o) (G:=G) i
  by_cases c:(axF o G ax0 (i + 1)).2.1 < 0 ∨ 0 < cmpS (whV (G (i + 1)).1) (whV (axF o G ax0 (i + 1)).2.2.1)
  ·rw [axF_hit c]
  ·rw [axF_not c,ih]
theorem axSt_ix2 {n m:Nat} {G G':Nat → Nb} (h:0 < n):((axSt n G m G' 2).1 = 0 ∧ 0 ≤ (axSt n G m G' 2).2.1 ∧ (axSt n G m G' 2).2.1 < n) ∨ ((axSt n G m G' 2).1 = 1 ∧ 0 ≤ (axSt n G m G' 2).2.1 ∧ (axSt n G m G' 2).2.1 < m):=by
 have h1:=axF_ix (o:=0) (G:=G) (n - 1)
 have h2:=axF_of (o:=0) (G:=G) (n - 1)
 rw [show n - 1 + 1 = n by omega] at h1 h2
 exact axF_ix1 (G:=G') ⟨h2,h1⟩ m
def c233:Con
 | [.agg [.v (.int .i64 k),.v (.int .i64 x),.v (.int .i64 y),.v (.int .i64 r),.ro n 2 g],.agg [.v (.int .i64 k'),.v (.int .i64 x'),.v (.int .i64 y'),.v (.int .i64 r'),.ro m 2 g'],.v (.int .i64 i)] => some ([spots n g,spots m g',checkS k x y r n (gx g 0) (gx g 1) = 0,checkS k' x' y' r' m (gx g' 0) (gx g' 1) = 0,¬ k = 1,¬ k' = 1,0 ≤ i,i < n],mfA (flS n (gx g 0) (gx g 1) m (gx g' 0) (gx g' 1) i.toNat))
 | _ => none
theorem con233:ConOK Tryz.prog 233 c233:=ConOK.goR (G:=[(273,c273),(274,k83),(34,k145),(29,c29),(268,c268),(276,k149),(141,k140),(213,k69),(142,k47),(277,kclp),(81,k46),(86,k138),(92,k111),(78,k143)]) (H:=[(9,⟨[(6,.made 5)],[]⟩),(11,⟨[(3,.slot 11)],[]⟩),(14,⟨[(10,.made 8),(11,.made 9)],[]⟩),(16,⟨[(12,.slot 20),(13,.slot 21)],[]⟩),(17,⟨[(16,.slot 20),(17,.slot 21)],[]⟩),(27,⟨[(13,.slot 23)],[]⟩),(34,⟨[(11,.made 10)],[]⟩),(36,⟨[(3,.slot 11)],[]⟩),(37,⟨[(14,.slot 23)],[]⟩)]) (.cons con273 (.cons kon83 (.cons kon145 (.cons con29 (.cons con268 (.cons kon149 (.cons kon140 (.cons kon69 (.cons kon47 (.cons konclp (.cons kon46 (.cons kon138 (.cons kon111 (.cons kon143 .nil)))))))))))))) Tryz.func233 fun l ob rr hc hob => by
 unfold c233 at hc
 split at hc
 ·rename_i k x y r n g k' x' y' r' m g' i
  cases hc
  have hs:spots n g:=hob _ (by simp)
  have hs':spots m g':=hob _ (by simp)
  have i0:0 ≤ i:=hob _ (by simp)
  have i1:i < n:=hob _ (by simp)
  have e:i = (i.toNat:Int):=by omega
  refine ⟨[edA k x y r n (gx g 0) (gx g 1),edA k' x' y' r' m (gx g' 0) (gx g' 1),i64 (i.toNat:Int)],fun w I vs h => ?_,by kernel_rfl,vc233 k x y r n _ _ k' x' y' r' m _ _ i.toNat (fun i hi => (hs i hi).2) (fun i hi => (hs' i hi).2) (hob _ (by simp)) (hob _ (by simp)) (hob _ (by simp)) (hob _ (by simp)) (by omega)⟩
  rw [← e]
  obtain ⟨x1,xs,rfl,p1,p2⟩:=h.inv
  obtain ⟨x2,ys,rfl,p3,p4⟩:=p2.inv
  exact .cons (Rs_form hs _ p1) (.cons (Rs_form hs' _ p3) p4)
 ·cases hc
theorem bnd_man {v:V2} {n:Nat} {P:Nat → V2} {D:Nat → Nb}:bnd (manC v n P D) = .agg [i64 v.1.1,bo v.1.2,i64 v.2.1,bo v.2.2,.ro n 6 (tchs P D)]:=(rfl)
attribute [go_sem] bnd_man
def clipA (k x y r:Int) (n:Nat) (X Y:Nat → Int) (k' x' y' r':Int) (m:Nat) (Z T:Nat → Int):AV:=.tup [mfA (clipS k x y r n X Y k' x' y' r' m Z T),bo (clipB k x y r n X Y k' x' y' r' m Z T)]
theorem vc170 (k x y r:Int) (n:Nat) (X Y:Nat → Int) (k' x' y' r':Int) (m:Nat) (Z T:Nat → Int) (hX:∀ i,i < n → inR (X i) ∧ inR (Y i)) (hZ:∀ i,i < m → inR (Z i) ∧ inR (T i)) (hn:n ≤ 9223372036854775806) (hm:m ≤ 9223372036854775806) (h1:inR x) (h2:inR y) (h3:inR r) (h4:inR x') (h5:inR y') (h6:inR r') :
  fnVC Tryz.prog [(215,c261),(228,c228),(229,c229),(230,c230),(231,ktrn),(232,c232),(233,c233)] [] Tryz.f170 [edA k x y r n X Y,edA k' x' y' r' m Z T] (alk (clipA k x y r n X Y k' x' y' r' m Z T)):=by
 refine fnVC_go (rs:=[.cell 4 29,.tmp 5]) rfl rfl ?_
 have hg:spots n fun i => [i64 (X i),i64 (Y i)]:=fun i hi => ⟨rfl,hX i hi⟩
 have hg':spots m fun i => [i64 (Z i),i64 (T i)]:=fun i hi => ⟨rfl,hZ i hi⟩
 simp only [go_sem,c261,c228,c229,c230,ktrn,c232,c233,gx_pts0,gx_pts1,hg,hg',hn,hm,h1,h2,h3,h4,h5,h6]
 simp only [forall_eq,implies_true,true_and]
 have h0:¬ (checkS k x y r n X Y = 0 ∧ checkS k' x' y' r' m Z T = 0 ∧ apS k x y r n X Y k' x' y' r' m Z T = false) → alk (clipA k x y r n X Y k' x' y' r' m Z T) (.tup [.agg [i64 0,bo false,i64 0,bo false,.v (.slice none 0 0)],bo false]):=fun h => by
  unfold clipA
  rw [show clipS k x y r n X Y k' x' y' r' m Z T = mf0 from if_neg h,show clipB k x y r n X Y k' x' y' r' m Z T = false from decide_eq_false h]
  exact alk_form alk_nil6
 refine ⟨fun h => h0 fun q => ?_,fun h => ?_⟩
 ·rcases h with (h | h) | h
  ·exact bne_iff_ne.1 h q.1
  ·exact bne_iff_ne.1 h q.2.1
  ·rw [h] at q
   exact absurd q.2.2 (by decide)
 have hA:checkS k x y r n X Y = 0:=bne_eq_false_iff_eq.1 h.1.1
 have hB:checkS k' x' y' r' m Z T = 0:=bne_eq_false_iff_eq.1 h.1.2
 have hC:=h.2
 have hall:=And.intro hA (And.intro hB hC)
 have eB:clipB k x y r n X Y k' x' y' r' m Z T = true:=decide_eq_true hall
 have eS:clipS k x y r n X Y k' x' y' r' m Z T = _:=if_pos hall
 unfold clipA
 rw [eB,eS]
 have kk:=(check_1 hA).1
 have kk':=(check_1 hB).1
 refine ⟨fun q => ?_,fun q => ⟨fun q1 => ?_,fun q1 => ⟨fun q2 => ?_,fun q2 => ?_⟩⟩⟩
 ·have k1:k = 1:=by simpa using q.1
  have k2:k' = 1:=by simpa using q.2
  rw [if_pos k1,if_pos k2]
  exact fun _ _ _ h => h
 ·have k2:k' = 1:=by simpa using q1
  have k1:¬ k = 1:=by
   rw [q1,Bool.and_true] at q
   simpa using q
  rw [if_neg k1,if_pos k2]
  exact ⟨hA,hB,k1,k2,fun _ _ _ h => h⟩
 ·have k1:k = 1:=by simpa using q2
  have k2:¬ k' = 1:=by simpa using q1
  rw [if_pos k1,if_neg k2]
  exact ⟨hB,hA,k2,k1,(pdS_in (n:=m) (X:=Z) (Y:=T) (x:=x) (y:=y) (r:=r)).1.1,(pdS_in (n:=m) (X:=Z) (Y:=T) (x:=x) (y:=y) (r:=r)).1.2,fun _ _ _ h => h⟩
 ·have k1:¬ k = 1:=by simpa using q2
  have k2:¬ k' = 1:=by simpa using q1
  have h8:=fig_n hA k1
  have eX:axS k x y r n X Y k' x' y' r' m Z T = axSt n (gP n X Y m Z T) m (gP m Z T n X Y) 2:=by
   unfold axS
   rw [if_pos ⟨hA,hB⟩,if_neg k1,if_neg k2]
  have hi:=axSt_ix2 (n:=n) (m:=m) (G:=gP n X Y m Z T) (G':=gP m Z T n X Y) (by omega)
  rw [← eX] at hi
  clear eX
  generalize axS k x y r n X Y k' x' y' r' m Z T = s at *
  rw [if_neg k1,if_neg k2]
  refine ⟨fun q3 => ?_,fun q3 => ?_⟩
  ·have e:s.1 = 0:=by simpa using q3
   rw [if_pos e]
   exact ⟨hA,hB,k1,k2,by omega,by omega,fun _ _ _ h => h⟩
  ·have e:¬ s.1 = 0:=by simpa using q3
   rw [if_neg e]
   exact ⟨hB,hA,k2,k1,by omega,by omega,(flS_in (n:=m) (X:=Z) (Y:=T) (m:=n) (Z:=X) (T:=Y) (i:=s.2.1.toNat)).1.1,(flS_in (n:=m) (X:=Z) (Y:=T) (m:=n) (Z:=X) (T:=Y) (i:=s.2.1.toNat)).1.2,fun _ _ _ h => h⟩
def c170:Con
 | [.agg [.v (.int .i64 k),.v (.int .i64 x),.v (.int .i64 y),.v (.int .i64 r),.ro n 2 g],.agg [.v (.int .i64 k'),.v (.int .i64 x'),.v (.int .i64 y'),.v (.int .i64 r'),.ro m 2 g']] => some ([spots n g,spots m g',n ≤ 9223372036854775806,m ≤ 9223372036854775806,inR x,inR y,inR r,inR x',inR y',inR r'],
   clipA k x y r n (gx g 0) (gx g 1) k' x' y' r' m (gx g' 0) (gx g' 1))
 | _ => none
theorem con170:ConOK Tryz.prog 170 c170:=ConOK.goR (G:=[(215,c261),(228,c228),(229,c229),(230,c230),(231,ktrn),(232,c232),(233,c233)]) (H:=[]) (.cons con215 (.cons con228 (.cons con229 (.cons con230 (.cons kontrn (.cons con232 (.cons con233 .nil))))))) Tryz.func170 fun l ob rr hc hob => by
 unfold c170 at hc
 split at hc
 ·rename_i k x y r n g k' x' y' r' m g'
  cases hc
  have hs:spots n g:=hob _ (by simp)
  have hs':spots m g':=hob _ (by simp)
  exact ⟨[edA k x y r n (gx g 0) (gx g 1),edA k' x' y' r' m (gx g' 0) (gx g' 1)],fun w I vs h => Rs_two (Rs_form hs) (Rs_form hs') h,by kernel_rfl,vc170 k x y r n _ _ k' x' y' r' m _ _ (fun i hi => (hs i hi).2) (fun i hi => (hs' i hi).2) (hob _ (by simp)) (hob _ (by simp)) (hob _ (by simp)) (hob _ (by simp)) (hob _ (by simp)) (hob _ (by simp)) (hob _ (by simp)) (hob _ (by simp))⟩
 ·cases hc
theorem bnd_clip {k x y r:Int} {n:Nat} {X Y:Nat → Int} {k' x' y' r':Int} {m:Nat} {Z T:Nat → Int}:clipA k x y r n X Y k' x' y' r' m Z T = .tup [.agg [i64 (clipS k x y r n X Y k' x' y' r' m Z T).nv.1.1,bo (clipS k x y r n X Y k' x' y' r' m Z T).nv.1.2,i64 (clipS k x y r n X Y k' x' y' r' m Z T).nv.2.1,bo (clipS k x y r n X Y k' x' y' r' m Z T).nv.2.2,.ro (clipS k x y r n X Y k' x' y' r' m Z T).n 6 (tchs (clipS k x y r n X Y k' x' y' r' m Z T).P (clipS k x y r n X Y k' x' y' r' m Z T).D)],bo (clipB k x y r n X Y k' x' y' r' m Z T)]:=(rfl)
attribute [go_sem] bnd_clip
end Go.Ax
end
section
/-
  The box of a form, ars the reference finds it; forms and boxes of bodies.
-/
set_option maxHeartbeats 4000000
set_option maxRecDepth 100000
namespace Go.Ax
open Go.Proofs
theorem spV_inR {a:Nb}:inR (spV a):=by
 have:rg (whV (nMul a (nInt 256)).1):=whV_rg (rg_inR nMul_rg)
 unfold spV
 unfold rg at this
 unfold inR
 omega
theorem pl_spots {N:Nat} {k w t:Int} {X Y:Nat → Int} {at' rot:V2}:(spots N fun i => [i64 (plX k w t X Y at' rot i),i64 (plY k w t X Y at' rot i)]) = True:=eq_true fun i _ => ⟨rfl,spV_inR,spV_inR⟩
theorem plN_le {k r w t:Int} {n:Nat} {X Y:Nat → Int} {at' rot:V2}:plN k r w t n X Y at' rot ≤ 8:=by
 unfold plN
 split
 ·split
  ·omega
  ·unfold corN
   split
   ·rename_i h
    have:=chk_cases h
    split <;> omega
   ·omega
 ·omega
theorem plN_max {k r w t:Int} {n:Nat} {X Y:Nat → Int} {at' rot:V2}:(plN k r w t n X Y at' rot ≤ 9223372036854775806) = True:=eq_true (Nat.le_trans plN_le (by omega))
theorem plC_in {k r w t:Int} {n:Nat} {X Y:Nat → Int} {at' rot:V2} {a:Nb}:inR (plC k r w t n X Y at' rot a) = True:=eq_true (by
 unfold plC
 split
 ·exact spV_inR
 ·unfold inR; omega)
def kb62:Con:=cB fun b rest => match rest with
 | [] => some ([inB b,b.n ≤ 1000],plA b.k b.r b.wd b.ht b.n b.X b.Y b.pl b.rot)
 | _ => none
theorem konb62:ConOK Tryz.prog 62 kb62:=ConOK.cB (G:=[(146,c145)]) (H:=[]) (.cons con146 .nil) Tryz.func62 fun b rest ob r hc hob => by
 split at hc
 ·skip
  cases hc
  have h_0:inB b:=hob _ (by simp)
  have h_1:b.n ≤ 1000:=hob _ (by simp)
  obtain ⟨b1,b2,b3,b4,b5,b6,b7,b8,b9,b10,b11,b12,b13,b14,b15,b16⟩:=h_0
  have hb:inB b:=hob _ (by simp)
  refine ⟨by kernel_rfl,fnVC_go (rs:=[.cell 2 103,.tmp 3]) rfl rfl ?_⟩
  simp only [bodyC,go_sem,c145,cB_eq,cBR_eq,bodyD_lit,gx_pts0,gx_pts1,spots_can,etaN,etaV,bd_eta,b1,b2,b3,b4,b6,b7,b8,b9,b10,b11,b12,b13,b14,b15,b16,hb,h_1,plA]
  simp only [forall_eq]
  exact ⟨b5,by omega,trivial⟩
 ·cases hc
end Go.Ax
end
section
/-
  How two bodies touch, by the reference; contacts of lists.
-/
set_option maxHeartbeats 4000000
set_option maxRecDepth 100000
namespace Go.Ax
open Go.Proofs
def fE (b:Bd):Int:=plErr b.k b.r b.wd b.ht b.n b.X b.Y b.pl b.rot
def fK (b:Bd):Int:=plK b.k b.r b.wd b.ht b.n b.X b.Y b.pl b.rot
def fCx (b:Bd):Int:=plC b.k b.r b.wd b.ht b.n b.X b.Y b.pl b.rot b.pl.1
def fCy (b:Bd):Int:=plC b.k b.r b.wd b.ht b.n b.X b.Y b.pl b.rot b.pl.2
def fR (b:Bd):Int:=plR b.k b.r b.wd b.ht b.n b.X b.Y b.pl b.rot
def fN (b:Bd):Nat:=plN b.k b.r b.wd b.ht b.n b.X b.Y b.pl b.rot
def fX (b:Bd):Nat → Int:=plX b.k b.wd b.ht b.X b.Y b.pl b.rot
def fY (b:Bd):Nat → Int:=plY b.k b.wd b.ht b.X b.Y b.pl b.rot
def touS (b c:Bd):Mf:=clipS (fK b) (fCx b) (fCy b) (fR b) (fN b) (fX b) (fY b) (fK c) (fCx c) (fCy c) (fR c) (fN c) (fX c) (fY c)
def touB (b c:Bd):Bool:=clipB (fK b) (fCx b) (fCy b) (fR b) (fN b) (fX b) (fY b) (fK c) (fCx c) (fCy c) (fR c) (fN c) (fX c) (fY c)
theorem clip_0 {k x y r:Int} {n:Nat} {X Y:Nat → Int} {k' x' y' r':Int} {m:Nat} {Z T:Nat → Int} (h:¬ (checkS k x y r n X Y = 0 ∧ checkS k' x' y' r' m Z T = 0 ∧ apS k x y r n X Y k' x' y' r' m Z T = false)):clipS k x y r n X Y k' x' y' r' m Z T = mf0 ∧ clipB k x y r n X Y k' x' y' r' m Z T = false:=⟨if_neg h,decide_eq_false h⟩
theorem tou_0 {b c:Bd} (h:fE b ≠ 0 ∨ fE c ≠ 0):touS b c = mf0 ∧ touB b c = false:=by
 refine clip_0 fun hq => ?_
 have q:∀ d:Bd,fE d ≠ 0 → fK d = 0:=fun d hd => if_neg hd
 rcases h with h | h
 ·have:=(check_1 hq.1).1
  rw [q b h] at this
  omega
 ·have:=(check_1 hq.2.1).1
  rw [q c h] at this
  omega
def kTou:Con
 | [.agg l,.agg l'] => some ([l = bodyC (bodyD l),l' = bodyC (bodyD l'),inB (bodyD l),inB (bodyD l'),(bodyD l).n ≤ 1000,(bodyD l').n ≤ 1000],.tup [mfA (touS (bodyD l) (bodyD l')),bo (touB (bodyD l) (bodyD l'))])
 | _ => none
theorem vc99 (b c:Bd) (hb:inB b) (hc:inB c) (hn:b.n ≤ 1000) (hm:c.n ≤ 1000) :
  fnVC Tryz.prog [(62,kb62),(170,c170)] [] Tryz.f99 [.agg (bodyC b),.agg (bodyC c)] (alk (.tup [mfA (touS b c),bo (touB b c)])):=by
 refine fnVC_go (rs:=[.cell 4 29,.tmp 5]) rfl rfl ?_
 simp only [go_sem,kb62,c170,cB_eq,hb,hc,hn,hm,plA,pl_spots,plN_max,plC_in]
 simp only [forall_eq,gx_pts0,gx_pts1]
 have hr:∀ d:Bd,inB d → inR (plR d.k d.r d.wd d.ht d.n d.X d.Y d.pl d.rot):=fun d hd => by
  unfold plR
  split
  ·exact hd.2.1
  ·unfold inR; decide
 refine ⟨fun h => ?_,fun h => ⟨hr b hb,hr c hc,fun _ _ _ h => h⟩⟩
 obtain ⟨k1,k2⟩:=tou_0 (b:=b) (c:=c) (h.imp (fun q => bne_iff_ne.1 q) (fun q => bne_iff_ne.1 q))
 rw [k1,k2]
 exact alk_form alk_nil6
theorem con99:ConOK Tryz.prog 99 kTou:=ConOK.goR (G:=[(62,kb62),(170,c170)]) (H:=[]) (.cons konb62 (.cons con170 .nil)) Tryz.func99 fun l ob rr hc hob => by
 unfold kTou at hc
 split at hc
 ·rename_i l l'
  cases hc
  have e1:l = bodyC (bodyD l):=hob _ (by simp)
  have e2:l' = bodyC (bodyD l'):=hob _ (by simp)
  refine ⟨[.agg (bodyC (bodyD l)),.agg (bodyC (bodyD l'))],fun w I vs h => by rw [← e1,← e2]; exact h,by kernel_rfl,vc99 (bodyD l) (bodyD l') (hob _ (by simp)) (hob _ (by simp)) (hob _ (by simp)) (hob _ (by simp))⟩
 ·cases hc
def cntS (b c:Bd) (i j:Int):Ct:=⟨i,j,(touS b c).nv,(touS b c).n,(touS b c).P,(touS b c).D,(0,false),(0,false),(0,false),(0,false)⟩
def kCnt:Con:=cL fun N B rest => match rest with
 | [.v (.int .i64 a),.v (.int .i64 b)] => some ([0 ≤ a,a < N,0 ≤ b,b < N,inBs N B],.tup [.agg (contC (cntS (B a.toNat) (B b.toNat) a b)),bo (touB (B a.toNat) (B b.toNat))])
 | _ => none
theorem con25:ConOK Tryz.prog 25 kCnt:=ConOK.cL (G:=[(99,kTou)]) (H:=[(1,⟨[(13,.made 12)],[]⟩)]) (.cons con99 .nil) Tryz.func25 fun N B rest ob rr hc hob => by
 split at hc
 ·rename_i a b
  cases hc
  have h1:0 ≤ a:=hob _ (by simp)
  have h2:a < N:=hob _ (by simp)
  have h3:0 ≤ b:=hob _ (by simp)
  have h4:b < N:=hob _ (by simp)
  have hB:inBs N B:=hob _ (by simp)
  have k1:=hB a.toNat (by omega)
  have k2:=hB b.toNat (by omega)
  clear hob
  refine ⟨by kernel_rfl,fnVC_go (rs:=[.cell 6 32,.tmp 7]) rfl rfl ?_⟩
  simp only [go_sem,kTou,mfA,manC,bsC_at,h1,h2,h3,h4,k1,k2]
  intro z hz
  subst hz
  rfl
 ·cases hc
theorem cnt_in {b c:Bd} {i j:Int} (hi:inR i) (hj:inR j):inC (cntS b c i j) ∧ (cntS b c i j).n ≤ 2:=by
 have h:inM (touS b c):=clipS_in
 have hz:inR 0:=by unfold inR; decide
 exact ⟨⟨hi,hj,h.1.1,h.1.2,fun q _ => ⟨(h.2.2 q).1.1,(h.2.2 q).1.2,(h.2.2 q).2⟩,hz,hz,hz,hz⟩,h.2.1⟩
end Go.Ax
end
section
/-
  One iteration of a contact.
-/
set_option maxHeartbeats 4000000
set_option maxRecDepth 100000
namespace Go.Ax
open Go.Proofs
def hitN (a b:Bd) (x n:V2) (pu:Nb):Nb:=nPos (nAdd pu (sliS a b x n))
def apaA (a:Bd) (x n:V2) (d:Nb):Bd:=pshS a x (vScale n (nNeg d))
def apaB (b:Bd) (x n:V2) (d:Nb):Bd:=pshS b x (vScale n d)
def hitY (a b:Bd) (x t:V2) (nx ru:Nb):Nb:=nCl (nAdd ru (sliS a b x t)) (nNeg (nMul nx (nRat 1 2))) (nMul nx (nRat 1 2))
structure Hr where
 a:Bd
 b:Bd
 p:Nb
 r:Nb
def hitR (a b:Bd) (x n:V2) (pu ru:Nb):Hr:=
 if (sliK a b x n).1 = 0 then ⟨a,b,pu,ru⟩ else
 let nx:=hitN a b x n pu
 let a1:=apaA a x n (nSub nx pu)
 let b1:=apaB b x n (nSub nx pu)
 let t:=vPerp n
 if (sliK a1 b1 x t).1 = 0 then ⟨a1,b1,nx,ru⟩ else
 let ry:=hitY a1 b1 x t nx ru
 ⟨apaA a1 x t (nSub ry ru),apaB b1 x t (nSub ry ru),nx,ry⟩
structure Hs where
 a:Bd
 b:Bd
 c:Ct
def hit0 (a b:Bd) (c:Ct):Hs:=⟨(hitR a b (c.P 0) c.nv c.p0 c.r0).a,(hitR a b (c.P 0) c.nv c.p0 c.r0).b,{ c with p0:=(hitR a b (c.P 0) c.nv c.p0 c.r0).p,r0:=(hitR a b (c.P 0) c.nv c.p0 c.r0).r }⟩
def hit1 (a b:Bd) (c:Ct):Hs:=⟨(hitR a b (c.P 1) c.nv c.p1 c.r1).a,(hitR a b (c.P 1) c.nv c.p1 c.r1).b,{ c with p1:=(hitR a b (c.P 1) c.nv c.p1 c.r1).p,r1:=(hitR a b (c.P 1) c.nv c.p1 c.r1).r }⟩
def hitI (a b:Bd) (c:Ct):Nat → Hs
 | 0 => ⟨a,b,c⟩
 | 1 => hit0 a b c
 | _ + 2 => hit1 (hit0 a b c).a (hit0 a b c).b (hit0 a b c).c
def hitS (a b:Bd) (c:Ct):Hs:=hitI a b c (min 2 c.n)
def hitT (N:Nat) (B:Nat → Bd) (c:Ct):Nat → Bd:=
 if apB N c.a c.b then updB (updB B c.a.toNat (hitS (B c.a.toNat) (B c.b.toNat) c).a) c.b.toNat (hitS (B c.a.toNat) (B c.b.toNat) c).b else B
def hitC (N:Nat) (B:Nat → Bd) (c:Ct):Ct:=if apB N c.a c.b then (hitS (B c.a.toNat) (B c.b.toNat) c).c else c
def hitF:Nat → (Nat → List AV) → List AV → List AV → Option (List Prop × AV × (Nat → List AV) × List AV)
 | N,get,l,[] => some ([get = bsC (bsD get),inBs N (bsD get),N ≤ 1000,l = contC (contD l),inC (contD l),(contD l).n ≤ 1000],.tup [],bsC (hitT N (bsD get) (contD l)),contC (hitC N (bsD get) (contD l)))
 | _,_,_,_ => none
theorem fitF_T {K N M L sz:Nat} {σ:Names} {tp ty:TypeId} {get:Nat → List AV} (hK:K < L) (hc:∀ i,i < N → cleanCs (get i) = true):fitF L M σ (famT K N sz tp ty get) (some (famT K N sz tp ty get)):=fun f => by
 cases f with
 | zero =>
  refine ⟨rfl,rfl,rfl,rfl,rfl,fun j hj => ⟨⟨rfl,hK⟩,trivial⟩⟩
 | succ f =>
  refine ⟨rfl,rfl,rfl,rfl,rfl,fun j hj => ?_⟩
  simp only [famT] at hj ⊢
  split at hj
  ·rename_i hf
   have:j = 0:=by omega
   subst this
   exact fitL_clean (hc f hf)
  ·omega
theorem cleanCs_of:∀ {l:List AV},(∀ c ∈ l,cleanC c = true) → cleanCs l = true
 | [],_ => rfl
 | a :: l,h => by
  simp only [cleanCs,Bool.and_eq_true]
  exact ⟨h a (by simp),cleanCs_of fun c hc => h c (by simp [hc])⟩
theorem fitF_cl {N M:Nat} {σ:Names} {fam:Fam} (h:famCl fam):fitF N M σ fam (some fam):=fun f =>
 ⟨rfl,rfl,rfl,(h f).1,(h f).1,fun j hj => fitL_clean (cleanCs_of ((h f).2 j hj))⟩
theorem nb_f {x:Int} (h:false = !(x == 0)):x = 0:=by simpa using h
theorem nb_t {x:Int} (h:true = !(x == 0)):¬ x = 0:=by simpa using h
theorem iSli {a b:Bd} {x n:V2}:inR (sliS a b x n).1 = True:=iDiv
theorem hitR_b {a b:Bd} {x n:V2} {pu ru:Nb} (h:¬ (sliK a b x n).1 = 0) (k:(sliK (apaA a x n (nSub (hitN a b x n pu) pu)) (apaB b x n (nSub (hitN a b x n pu) pu)) x (vPerp n)).1 = 0) :
  hitR a b x n pu ru = ⟨apaA a x n (nSub (hitN a b x n pu) pu),apaB b x n (nSub (hitN a b x n pu) pu),hitN a b x n pu,ru⟩:=by
 unfold hitR; rw [if_neg h]; dsimp only; rw [if_pos k]
theorem hitR_c {a b:Bd} {x n:V2} {pu ru:Nb} (h:¬ (sliK a b x n).1 = 0) (k:¬ (sliK (apaA a x n (nSub (hitN a b x n pu) pu)) (apaB b x n (nSub (hitN a b x n pu) pu)) x (vPerp n)).1 = 0) :
  hitR a b x n pu ru = (let a1:=apaA a x n (nSub (hitN a b x n pu) pu); let b1:=apaB b x n (nSub (hitN a b x n pu) pu); let nx:=hitN a b x n pu; let t:=vPerp n; let ry:=hitY a1 b1 x t nx ru; ⟨apaA a1 x t (nSub ry ru),apaB b1 x t (nSub ry ru),nx,ry⟩):=by
 unfold hitR; rw [if_neg h]; dsimp only; rw [if_neg k]
theorem hitR_in {a b:Bd} {x n:V2} {pu ru:Nb} (ha:inB a) (hb:inB b) (hp:inR pu.1) (hr:inR ru.1):inB (hitR a b x n pu ru).a ∧ inB (hitR a b x n pu ru).b ∧ inR (hitR a b x n pu ru).p.1 ∧ inR (hitR a b x n pu ru).r.1:=by
 unfold hitR
 split
 ·exact ⟨ha,hb,hp,hr⟩
 ·dsimp only
  have k1:inR (hitN a b x n pu).1:=of_eq_true (iPos (of_eq_true iAdd))
  have k2:=inB_psh (p:=x) (j:=vScale n (nNeg (nSub (hitN a b x n pu) pu))) ha
  have k3:=inB_psh (p:=x) (j:=vScale n (nSub (hitN a b x n pu) pu)) hb
  split
  ·exact ⟨k2,k3,k1,hr⟩
  ·exact ⟨inB_psh k2,inB_psh k3,k1,of_eq_true (iCl (of_eq_true iAdd) (of_eq_true (iNeg (of_eq_true iMul))) (of_eq_true iMul))⟩
theorem hit0_in {a b:Bd} {c:Ct} (ha:inB a) (hb:inB b) (hc:inC c):inB (hit0 a b c).a ∧ inB (hit0 a b c).b ∧ inC (hit0 a b c).c:=by
 obtain ⟨c1,c2,c3,c4,c5,c6,c7,c8,c9⟩:=hc
 obtain ⟨h1,h2,h3,h4⟩:=hitR_in (x:=c.P 0) (n:=c.nv) ha hb c6 c8
 exact ⟨h1,h2,c1,c2,c3,c4,c5,h3,c7,h4,c9⟩
def contR (c:Ct):List AV:=contC c
def mHit:MCon:=mcTQ 27 15 151 155 hitF
theorem con89m:MConOK Tryz.prog 89 mHit:=MConOK.mcTQ (G:=[(152,.wr mTwo),(160,kw160p),(161,kSli),(153,kw153),(129,k214),(154,k160),(162,.wr mApa),(132,k132),(125,k129),(164,k179),(163,k171)]) (H:=[(0,⟨[(9,.call)],[]⟩),(11,⟨[(11,.slot 1)],[]⟩),(12,⟨[(13,.call)],[]⟩),(15,⟨[(9,.made 8)],[]⟩),(17,⟨[(12,.slot 1)],[]⟩),(18,⟨[(13,.call)],[]⟩)]) (.mcons con152m (.cons konw160p (.cons con161 (.cons konw153 (.cons kon214 (.cons kon160 (.mcons con162m (.cons kon132 (.cons kon129 (.cons kon179 (.cons kon171 .nil))))))))))) Tryz.func89 fun N get l rest ob val get' cs' hF hob hcl hcl2 => by
 unfold hitF at hF
 split at hF
 ·cases hF
  have h1:get = bsC (bsD get):=hob _ (by simp)
  have hB:inBs N (bsD get):=hob _ (by simp)
  have hN:N ≤ 1000:=hob _ (by simp)
  have h2:l = contC (contD l):=hob _ (by simp)
  have hc:inC (contD l):=hob _ (by simp)
  have hn:(contD l).n ≤ 1000:=hob _ (by simp)
  clear hob
  generalize bsD get = B at *
  generalize contD l = c at *
  subst h1 h2
  refine ⟨by simp,rfl,fun i _ => rfl,rfl,by kernel_rfl,fun fam f q hq hs hfc => bodyM_go (rs:=[]) rfl rfl ?_⟩
  have hg:∀ f,(fam f).g = none:=fun f => (hfc f).1
  obtain ⟨c1,c2,c3,c4,c5,c6,c7,c8,c9⟩:=id hc
  simp only [contC,go_sem,kw160p,kSli,kw153,k214,k160,k132,k129,k179,k171,mTwo,tchs_at,tchC,loadP_E,storeP_E,← hs,hg,hq,c3,c4]
  have hno:¬ apB N c.a c.b → hitT N B c = B ∧ hitC N B c = c:=fun h => ⟨if_neg h,if_neg h⟩
  refine ⟨fun hap z hz => ⟨hN,(fun h => by rw [hz] at h; cases h),fun _ z1 hz1 => ?_⟩,fun hap z hz => ⟨hN,(fun h => ?_),fun h => (by rw [hz] at h; cases h)⟩⟩
  rotate_left
  ·obtain ⟨e1,e2⟩:=hno hap
   rw [e1,e2]
   exact ⟨rfl,rfl⟩
  obtain ⟨a1,a2,a3,a4,a5⟩:=id hap
  have hz1':z1 = ((min 2 c.n:Nat):Int):=by rw [hz1]; omega
  have eT:hitT N B c = updB (updB B c.a.toNat (hitS (B c.a.toNat) (B c.b.toNat) c).a) c.b.toNat (hitS (B c.a.toNat) (B c.b.toNat) c).b:=if_pos hap
  have eC:hitC N B c = (hitS (B c.a.toNat) (B c.b.toNat) c).c:=if_pos hap
  obtain ⟨i1,i2⟩:=hB c.a.toNat (by omega)
  obtain ⟨i3,i4⟩:=hB c.b.toNat (by omega)
  have hA:c.a.toNat < N:=by omega
  have hA2:c.b.toNat < N:=by omega
  have hne:c.a.toNat ≠ c.b.toNat:=by omega
  rw [eT,eC]
  unfold hitS
  generalize c.a.toNat = A at *
  generalize c.b.toNat = Q at *
  generalize hM:min 2 c.n = M at *
  subst hz1'
  have u1:∀ B x y,updB (updB B A x) Q y A = x:=fun B x y => by rw [updB_off hne,updB_at]
  have u2:∀ B x y u v,updB (updB (updB (updB B A x) Q y) A u) Q v = updB (updB B A u) Q v:=fun B x y u v => by
   funext j
   unfold updB
   by_cases h1:j = Q
   ·simp [h1]
   ·by_cases h2:j = A <;> simp [h1,h2]
  obtain ⟨S,hS⟩:∃ S:Nat → Hs,S = hitI (B A) (B Q) c:=⟨_,rfl⟩
  rw [← hS]
  have s0:S 0 = ⟨B A,B Q,c⟩:=by rw [hS]; rfl
  have u0:updB (updB B A (B A)) Q (B Q) = B:=by
   funext j
   unfold updB
   by_cases h1:j = Q
   ·simp [h1]
   ·by_cases h2:j = A
    ·subst h2; simp [h1]
    ·simp [h1,h2]
  have hff:∀ d:Ct,famCl (famE fam f q (contC d)):=fun d => famCl_E hfc (cleanCs_mem rfl)
  refine loopC_go (fun (i:Nat) => i ≤ M) (fun i => M - i) (fun i => [(45,i64 (i:Int))]) (fun i => [(0,famT 0 N 27 151 155 (bsC (updB (updB B A (S i).a) Q (S i).b))),(1,famE fam f q (contR (S i).c))]) [30,26] [46,47,9,48,49,50,51,52,53,54,55,56,10,58,59,60,61,62,57,63,64,11,12,65,66,67,68,69,70,71,72,13,73,74,75,76,77,78,79,80,81,82,83,84,85,86,87,88,89,90,91,92,93,94,95,96,97,99,100,101,102,103,98,104,105,12,106,107,108,109,110,111,112,113,114,115,14,116,117,118,119,120,121,122,123,124,125,126,127,128,129,130,131,132,133,134,135,136,137,138,139,140,141,142,143,144,145,146,147,148,45] 0 (by kernel_rfl) ?_ (Nat.zero_le _) ?_ ?_
  ·intro x _; simp [goodNames,asg]
  ·simp only [go_sem,s0,u0]
   exact ⟨fitF_T (by omega) fun _ _ => rfl,fitF_cl (hff c)⟩
  intro i hi
  match i,hi with
  | 0,hi =>
   have e0:contR (S 0).c = contC c:=by rw [s0]; rfl
   rw [e0]
   have en:S 1 = hit0 (B A) (B Q) (c):=by rw [hS]; rfl
   by_cases hM0:0 < M
   ·obtain ⟨t1,t2,t3⟩:=c5 0 (by omega)
    simp only [contC,go_sem,kw160p,kSli,kw153,k214,k160,k132,k129,k179,k171,tchs_at,tchC,loadP_E,storeP_E,← hs,hg,hq,c3,c4,c6,c8,s0,mApa,apaF,u0,u1,u2,updB_at,i1,i3,hA,hA2,iSli,inB_psh,t1,t2]
    have fin:∀ s:Hs,S 1 = s → fitF 40 40 [] (famT 0 N 27 151 155 (bsC (updB (updB B A (S 1).a) Q (S 1).b))) (some (famT 0 N 27 151 155 (bsC (updB (updB B A s.a) Q s.b)))) ∧ fitF 40 40 [] (famE fam f q (contR (S 1).c)) (some (famE fam f q (contC s.c))):=fun s hs => by
     rw [hs]; exact ⟨fitF_T (by omega) fun _ _ => rfl,fitF_cl (hff s.c)⟩
    have w1:IntKind.i64.wrap 1 = ((1:Nat):Int):=by decide
    have hAQ:A + 1 ≠ Q + 1:=by omega
    refine ⟨fun h => ⟨by omega,fun y hy => ⟨fun y0 v hv => ?_,fun y0 => ⟨hAQ,fun w hw => ⟨of_eq_true (iWh c3),fun w0 v hv => ?_,fun w0 => ⟨hAQ,of_eq_true (iWh c3),fun v hv => ?_⟩⟩⟩⟩⟩,fun h => absurd h (by omega)⟩
    ·have hk:(sliK (B A) (B Q) (c.P 0) c.nv).1 = 0:=by rw [y0] at hy; simpa using hy
     have es:S 1 = ⟨B A,B Q,c⟩:=by rw [en]; unfold hit0; rw [show hitR (B A) (B Q) (c.P 0) c.nv c.p0 c.r0 = ⟨B A,B Q,c.p0,c.r0⟩ from if_pos hk]
     exact ⟨1,by omega,by omega,by rw [hv,w1],by have q:=fin _ es; rw [u0] at q; exact q⟩
    ·have hk:¬ (sliK (B A) (B Q) (c.P 0) c.nv).1 = 0:=by rw [y0] at hy; simpa using hy
     have hk2:(sliK (apaA (B A) (c.P 0) c.nv (nSub (hitN (B A) (B Q) (c.P 0) c.nv c.p0) c.p0)) (apaB (B Q) (c.P 0) c.nv (nSub (hitN (B A) (B Q) (c.P 0) c.nv c.p0) c.p0)) (c.P 0) (vPerp c.nv)).1 = 0:=nb_f (w0.symm.trans hw)
     have es:=en
     unfold hit0 at es
     rw [hitR_b hk hk2] at es
     exact ⟨1,by omega,by omega,by rw [hv,w1],fin _ es⟩
    ·have hk:¬ (sliK (B A) (B Q) (c.P 0) c.nv).1 = 0:=by rw [y0] at hy; simpa using hy
     have hk2:¬ (sliK (apaA (B A) (c.P 0) c.nv (nSub (hitN (B A) (B Q) (c.P 0) c.nv c.p0) c.p0)) (apaB (B Q) (c.P 0) c.nv (nSub (hitN (B A) (B Q) (c.P 0) c.nv c.p0) c.p0)) (c.P 0) (vPerp c.nv)).1 = 0:=nb_t (w0.symm.trans hw)
     have es:=en
     unfold hit0 at es
     rw [hitR_c hk hk2] at es
     exact ⟨1,by omega,by omega,by rw [hv,w1],fin _ es⟩
   ·simp only [contC,go_sem,kw160p,kSli,kw153,k214,k160,k132,k129,k179,k171,tchs_at,tchC,loadP_E,storeP_E,← hs,hg,hq,c3,c4,c6,c8,s0,mApa,apaF,u0,u1,u2,updB_at,i1,i3,hA,hA2,iSli,inB_psh]
    refine ⟨fun h => absurd h (by omega),fun h => ?_⟩
    have hMe:M = 0:=by omega
    rw [hMe,s0]
    exact ⟨by dsimp only; rw [u0],rfl⟩
  | 1,hi =>
   have e1:S 1 = hit0 (B A) (B Q) c:=by rw [hS]; rfl
   have e2:S 2 = hit1 (S 1).a (S 1).b (S 1).c:=by rw [hS]; rfl
   obtain ⟨j1,j3,j5⟩:=hit0_in i1 i3 hc
   rw [← e1] at j1 j3 j5
   have k1:(S 1).c.nv = c.nv:=by rw [e1]; rfl
   have k2:(S 1).c.n = c.n:=by rw [e1]; rfl
   clear e1
   generalize hs1:S 1 = s at *
   have e0:contR s.c = contC s.c:=rfl
   rw [e0]
   obtain ⟨d1,d2,d3,d4,d5,d6,d7,d8,d9⟩:=id j5
   rw [k2] at d5
   have en:S 2 = hit1 (s.a) (s.b) (s.c):=e2
   by_cases hM0:1 < M
   ·obtain ⟨t1,t2,t3⟩:=d5 1 (by omega)
    simp only [contC,go_sem,kw160p,kSli,kw153,k214,k160,k132,k129,k179,k171,tchs_at,tchC,loadP_E,storeP_E,← hs,hg,hq,d3,d4,d7,d9,← k1,mApa,apaF,u0,u1,u2,updB_at,j1,j3,hA,hA2,iSli,inB_psh,t1,t2]
    have fin:∀ s:Hs,S 2 = s → fitF 40 40 [] (famT 0 N 27 151 155 (bsC (updB (updB B A (S 2).a) Q (S 2).b))) (some (famT 0 N 27 151 155 (bsC (updB (updB B A s.a) Q s.b)))) ∧ fitF 40 40 [] (famE fam f q (contR (S 2).c)) (some (famE fam f q (contC s.c))):=fun s hs => by
     rw [hs]; exact ⟨fitF_T (by omega) fun _ _ => rfl,fitF_cl (hff s.c)⟩
    have w1:IntKind.i64.wrap 2 = ((2:Nat):Int):=by decide
    have hAQ:A + 1 ≠ Q + 1:=by omega
    refine ⟨fun h => ⟨by omega,fun y hy => ⟨fun y0 v hv => ?_,fun y0 => ⟨hAQ,fun w hw => ⟨of_eq_true (iWh d3),fun w0 v hv => ?_,fun w0 => ⟨hAQ,of_eq_true (iWh d3),fun v hv => ?_⟩⟩⟩⟩⟩,fun h => absurd h (by omega)⟩
    ·have hk:(sliK (s.a) (s.b) (s.c.P 1) s.c.nv).1 = 0:=by rw [y0] at hy; simpa using hy
     have es:S 2 = ⟨s.a,s.b,s.c⟩:=by rw [en]; unfold hit1; rw [show hitR (s.a) (s.b) (s.c.P 1) s.c.nv s.c.p1 s.c.r1 = ⟨s.a,s.b,s.c.p1,s.c.r1⟩ from if_pos hk]
     exact ⟨2,by omega,by omega,by rw [hv,w1],fin _ es⟩
    ·have hk:¬ (sliK (s.a) (s.b) (s.c.P 1) s.c.nv).1 = 0:=by rw [y0] at hy; simpa using hy
     have hk2:(sliK (apaA (s.a) (s.c.P 1) s.c.nv (nSub (hitN (s.a) (s.b) (s.c.P 1) s.c.nv s.c.p1) s.c.p1)) (apaB (s.b) (s.c.P 1) s.c.nv (nSub (hitN (s.a) (s.b) (s.c.P 1) s.c.nv s.c.p1) s.c.p1)) (s.c.P 1) (vPerp s.c.nv)).1 = 0:=nb_f (w0.symm.trans hw)
     have es:=en
     unfold hit1 at es
     rw [hitR_b hk hk2] at es
     exact ⟨2,by omega,by omega,by rw [hv,w1],fin _ es⟩
    ·have hk:¬ (sliK (s.a) (s.b) (s.c.P 1) s.c.nv).1 = 0:=by rw [y0] at hy; simpa using hy
     have hk2:¬ (sliK (apaA (s.a) (s.c.P 1) s.c.nv (nSub (hitN (s.a) (s.b) (s.c.P 1) s.c.nv s.c.p1) s.c.p1)) (apaB (s.b) (s.c.P 1) s.c.nv (nSub (hitN (s.a) (s.b) (s.c.P 1) s.c.nv s.c.p1) s.c.p1)) (s.c.P 1) (vPerp s.c.nv)).1 = 0:=nb_t (w0.symm.trans hw)
     have es:=en
     unfold hit1 at es
     rw [hitR_c hk hk2] at es
     exact ⟨2,by omega,by omega,by rw [hv,w1],fin _ es⟩
   ·simp only [contC,go_sem,kw160p,kSli,kw153,k214,k160,k132,k129,k179,k171,tchs_at,tchC,loadP_E,storeP_E,← hs,hg,hq,d3,d4,d7,d9,← k1,mApa,apaF,u0,u1,u2,updB_at,j1,j3,hA,hA2,iSli,inB_psh]
    refine ⟨fun h => absurd h (by omega),fun h => ?_⟩
    have hMe:M = 1:=by omega
    rw [hMe,hs1]
    exact ⟨rfl,rfl⟩
  | i + 2,hi =>
   have e:i = 0:=by omega
   subst e
   have hMe:M = 2:=by omega
   have k2:(S (0 + 2)).c.n = c.n:=by rw [hS]; rfl
   have e0:contR (S (0 + 2)).c = contC (S (0 + 2)).c:=rfl
   rw [e0,hMe]
   generalize S (0 + 2) = s at *
   simp only [contC,go_sem,kw160p,kSli,kw153,k214,k160,k132,k129,k179,k171,tchs_at,tchC,loadP_E,storeP_E,← hs,hg,hq]
   exact fun h => h.elim
 ·cases hF
end Go.Ax
end
section
/-
  One iteration of a contact, by the program and by the reference.
-/
set_option maxHeartbeats 4000000
set_option maxRecDepth 100000
namespace Go.Ax
open Go.Proofs
def kHit:Con:=cL fun N B rest => match rest with
 | [.agg l] => some ([N ≤ 1000,inBs N B,l = contC (contD l),inC (contD l),(contD l).n ≤ 1000],.tup [.ro N 27 (bsC (hitT N B (contD l))),.agg (contC (hitC N B (contD l)))])
 | _ => none
theorem con22:ConOK Tryz.prog 22 kHit:=ConOK.cL (G:=[(73,.wr mNlay),(88,kCon),(89,.wr mHit),(75,.wr mNtel)]) (H:=[(1,⟨[(6,.made 4)],[]⟩),(3,⟨[(4,.slot 5)],[]⟩)]) (.mcons con73m (.cons con88 (.mcons con89m (.mcons con75m .nil)))) Tryz.func22 fun N B rest ob r hc hob => by
 split at hc
 ·rename_i l
  cases hc
  have hN:N ≤ 1000:=hob _ (by simp)
  have hB:inBs N B:=hob _ (by simp)
  have h2:l = contC (contD l):=hob _ (by simp)
  have hi:inC (contD l):=hob _ (by simp)
  have hn:(contD l).n ≤ 1000:=hob _ (by simp)
  clear hob
  generalize contD l = c at *
  subst h2
  refine ⟨by kernel_rfl,fnVC_go (rs:=[.tmp 4,.cell 5 32]) rfl rfl ?_⟩
  simp only [go_sem,kCon,mHit,hitF,hN,hB,hi,hn]
  exact ⟨by omega,rfl⟩
 ·cases hc
theorem drop2_cont {b:Ct}:(contC b).drop 2 = [i64 b.nv.1.1,bo b.nv.1.2,i64 b.nv.2.1,bo b.nv.2.2,.ro b.n 6 (tchs b.P b.D),i64 b.p0.1,bo b.p0.2,i64 b.p1.1,bo b.p1.2,i64 b.r0.1,bo b.r0.2,i64 b.r1.1,bo b.r1.2]:=(rfl)
theorem drop6_cont {b:Ct}:(contC b).drop 6 = [.ro b.n 6 (tchs b.P b.D),i64 b.p0.1,bo b.p0.2,i64 b.p1.1,bo b.p1.2,i64 b.r0.1,bo b.r0.2,i64 b.r1.1,bo b.r1.2]:=(rfl)
end Go.Ax
end
section
/-
  Equations of two unknowns; the matrix of a body and a place.
-/
set_option maxHeartbeats 4000000
set_option maxRecDepth 100000
namespace Go.Ax
open Go.Proofs
def flt (v:V2):Bool:=whF v.1.1 v.1.2 || whF v.2.1 v.2.2
def solN (a b c d:Nb):Nb:=nDot a d (nNeg b) c
def solX (a b c d:Nb) (v:V2):V2:=(nDiv (nDot v.1 d (nNeg b) v.2) (solN a b c d),nDiv (nDot a v.2 (nNeg v.1) c) (solN a b c d))
def solS (a b c d:Nb) (v:V2):Bool × V2:=if (solN a b c d).2 = true ∨ (solN a b c d).1 = 0 then (false,(0,false),(0,false)) else if flt (solX a b c d v) = true then (false,(0,false),(0,false)) else (true,solX a b c d v)
def mxA (m:Nb × Nb × Nb):AV:=.agg [i64 m.1.1,bo m.1.2,i64 m.2.1.1,bo m.2.1.2,i64 m.2.2.1,bo m.2.2.2]
def matS (b:Bd) (p:V2):Nb × Nb × Nb:=(nAdd b.m (nMul b.i (nMul (vSub p b.pl).2 (vSub p b.pl).2)),nNeg (nMul b.i (nMul (vSub p b.pl).1 (vSub p b.pl).2)),nAdd b.m (nMul b.i (nMul (vSub p b.pl).1 (vSub p b.pl).1)))
theorem iMa1 {b:Bd} {p:V2}:inR (matS b p).1.1 = True:=iAdd
theorem iMa2 {b:Bd} {p:V2}:inR (matS b p).2.1.1 = True:=iNeg (of_eq_true iMul)
theorem iMa3 {b:Bd} {p:V2}:inR (matS b p).2.2.1 = True:=iAdd
theorem iSo1 {a b c d:Nb} {v:V2}:inR (solS a b c d v).2.1.1 = True:=by
 unfold solS
 split
 ·exact inR_0
 ·split
  ·exact inR_0
  ·exact iDiv
theorem iSo2 {a b c d:Nb} {v:V2}:inR (solS a b c d v).2.2.1 = True:=by
 unfold solS
 split
 ·exact inR_0
 ·split
  ·exact inR_0
  ·exact iDiv
def toS (b:Bd) (p:V2):V2:=vAdd b.pl (vApply b.rot p)
theorem toS_f {b:Bd} {p:V2}:vAdd b.pl (vApply b.rot p) = toS b p:=(rfl)
theorem iTo1 {b:Bd} {p:V2}:inR (toS b p).1.1 = True:=iVAdd1
theorem iTo2 {b:Bd} {p:V2}:inR (toS b p).2.1 = True:=iVAdd2
attribute [go_sem] mxA iMa1 iMa2 iMa3 iSo1 iSo2 iTo1 iTo2 toS_f
end Go.Ax
end
section
/-
  Joints: a body is pulled to a place.
-/
set_option maxHeartbeats 4000000
set_option maxRecDepth 100000
namespace Go.Ax
open Go.Proofs
end Go.Ax
end
section
/-
  Joints: two places are kept together; all joints.
-/
set_option maxHeartbeats 4000000
set_option maxRecDepth 100000
namespace Go.Ax
open Go.Proofs
end Go.Ax
end
section
/-
  One iteration of a joint.
-/
set_option maxHeartbeats 4000000
set_option maxRecDepth 100000
namespace Go.Ax
open Go.Proofs
end Go.Ax
end
section
/-
  One iteration of a joint, by the program and by the reference.
-/
set_option maxHeartbeats 4000000
set_option maxRecDepth 100000
namespace Go.Ax
open Go.Proofs
end Go.Ax
end
section
/-
  One iteration of a joint keeps the bodies in their ranges.
-/
set_option maxHeartbeats 4000000
set_option maxRecDepth 100000
namespace Go.Ax
open Go.Proofs
end Go.Ax
end
section
/-
  Lists of contacts and of joints.
-/
set_option maxHeartbeats 4000000
set_option maxRecDepth 100000
namespace Go.Ax
open Go.Proofs
def csC (C:Nat → Ct):Nat → List AV:=fun i => contC (C i)
def csD (g:Nat → List AV):Nat → Ct:=fun i => contD (g i)
theorem csD_C {C:Nat → Ct}:csD (csC C) = C:=rfl
theorem csC_at {C:Nat → Ct} {i:Nat}:csC C i = contC (C i):=(rfl)
attribute [go_sem] csD_C csC_at
def inCs (M:Nat) (C:Nat → Ct):Prop:=∀ i,i < M → inC (C i) ∧ (C i).n ≤ 1000
end Go.Ax
end
section
/-
  Lists of joints; rounds.
-/
set_option maxHeartbeats 4000000
set_option maxRecDepth 100000
namespace Go.Ax
open Go.Proofs
structure Jt where
 k:Int
 a:Int
 b:Int
 x:Int
 e:Bool
 y:Int
 f:Bool
 z:Int
 g:Bool
 u:Int
 h:Bool
 l:Int
 m:Bool
def jtC (j:Jt):List AV:=[i64 j.k,i64 j.a,i64 j.b,i64 j.x,bo j.e,i64 j.y,bo j.f,i64 j.z,bo j.g,i64 j.u,bo j.h,i64 j.l,bo j.m]
def jtD (l:List AV):Jt:=⟨gi l 0,gi l 1,gi l 2,gi l 3,gib l 4,gi l 5,gib l 6,gi l 7,gib l 8,gi l 9,gib l 10,gi l 11,gib l 12⟩
def jsC (J:Nat → Jt):Nat → List AV:=fun i => jtC (J i)
def jsD (g:Nat → List AV):Nat → Jt:=fun i => jtD (g i)
theorem jsD_C {J:Nat → Jt}:jsD (jsC J) = J:=rfl
attribute [go_sem] jsD_C
def updC (C:Nat → Ct) (i:Nat) (c:Ct):Nat → Ct:=fun j => if j = i then c else C j
structure Sv where
 B:Nat → Bd
 C:Nat → Ct
theorem csC_upd {C:Nat → Ct} {i:Nat} {c:Ct}:(fun j => if j = i then contC c else csC C j) = csC (updC C i c):=funext fun j => by
 unfold csC updC
 split <;> rfl
theorem famN_updC {M:Nat} {C:Nat → Ct} {i:Nat} {c:Ct}:famN M 15 32 (fun j => if j = i then contC c else csC C j) none = famN M 15 32 (csC (updC C i c)) none:=by rw [csC_upd]
theorem famN_updC2 {M:Nat} {C:Nat → Ct} {i:Nat} {c:Ct}:famN M 15 32 (fun j => if j = i then contC c else contC (C j)) none = famN M 15 32 (csC (updC C i c)) none:=famN_updC
theorem famCl_cs {M:Nat} {C:Nat → Ct}:famCl (famN M 15 32 (csC C) none) = True:=famCl_Nt fun _ _ => rfl
attribute [go_sem] famN_updC famN_updC2 famCl_cs
end Go.Ax
end
section
/-
  Solve, by the program.
-/
set_option maxHeartbeats 4000000
set_option maxRecDepth 100000
namespace Go.Ax
open Go.Proofs
end Go.Ax
end
section
/-
  Lists of bodies, contacts and joints ars they are made: equal to proper ones up to their lengths.
-/
set_option maxHeartbeats 4000000
set_option maxRecDepth 100000
namespace Go.Ax
open Go.Proofs
def adB:AV → Option (Prop × AV)
 | .ro N 27 g => some (∀ i,i < N → g i = bsC (bsD g) i,.ro N 27 (bsC (bsD g)))
 | _ => none
def contN (c:Ct):List AV:=[i64 c.a,i64 c.b,i64 c.nv.1.1,bo c.nv.1.2,i64 c.nv.2.1,bo c.nv.2.2,.v (.slice none 0 0),
 i64 c.p0.1,bo c.p0.2,i64 c.p1.1,bo c.p1.2,i64 c.r0.1,bo c.r0.2,i64 c.r1.1,bo c.r1.2]
def rowC (g:Nat → List AV) (i:Nat):Prop:=g i = csC (csD g) i ∨ (g i = contN (csD g i) ∧ (csD g i).n = 0)
theorem adB_ok {a a':AV} {p:Prop} (h:adB a = some (p,a')) (hp:p) {w:World} {ρ:Env} {v:Value} (hR:R w ρ a v):R w ρ a' v:=by
 unfold adB at h
 split at h
 ·cases h; exact ro_alike hp hR
 ·cases h
def cLw (c:Con):Con
 | b :: rest => match adB b with
  | some (p,b') => (match c (b' :: rest) with
   | some (ob,r) => some (p :: ob,r)
   | none => none)
  | none => none
 | _ => none
theorem ConOK.cLw {P:Program} {f:FuncId} {c:Con} (h:ConOK P f c):ConOK P f (Ax.cLw c):=by
 intro es ob r hc hob
 unfold Ax.cLw at hc
 split at hc
 ·rename_i b rest
  split at hc
  ·rename_i p b' hb
   split at hc
   ·rename_i ob' r' hF
    cases hc
    intro I w vs hI hRs
    refine h _ _ _ hF (fun q hq => hob q (by simp [hq])) I w vs hI ?_
    obtain ⟨x,xs,rfl,h1,h2⟩:=hRs.inv
    exact .cons (adB_ok hb (hob p (by simp)) h1) h2
   ·cases hc
  ·cases hc
 ·cases hc
section
variable {c:Con} {N M L:Nat} {g g' g'':Nat → List AV} {rest:List AV}
theorem cLw_eq:cLw c (.ro N 27 g :: rest) = (match c (.ro N 27 (bsC (bsD g)) :: rest) with
   | some (ob,r) => some ((∀ i,i < N → g i = bsC (bsD g) i) :: ob,r)
   | none => none):=(rfl)
end
def kSaW:Con
 | [.ro N 27 g,.ro M 27 g'] => some ([M = N,∀ i,i < N → g' i = g i,∀ i,i < N → g i = bsC (bsD g) i,N ≤ 1000,inBs N (bsD g)],bo true)
 | _ => none
theorem con18w:ConOK Tryz.prog 18 kSaW:=by
 intro es ob r hc hob
 unfold kSaW at hc
 split at hc
 ·rename_i N g M g'
  cases hc
  have h1:M = N:=hob _ (by simp)
  have h2:∀ i,i < N → g' i = g i:=hob _ (by simp)
  have h3:∀ i,i < N → g i = bsC (bsD g) i:=hob _ (by simp)
  have h4:N ≤ 1000:=hob _ (by simp)
  have h5:inBs N (bsD g):=hob _ (by simp)
  subst h1
  intro I w vs hI hRs
  refine con18 [.ro M 27 (bsC (bsD g)),.ro M 27 (bsC (bsD g))] [bsC (bsD g) = bsC (bsD (bsC (bsD g))),M ≤ 1000,inBs M (bsD g),AV.ro M 27 (bsC (bsD g)) = .ro M 27 (bsC (bsD g))] (bo true) rfl ?_ I w vs hI ?_
  ·intro p hp
   simp only [List.mem_cons,List.not_mem_nil,or_false] at hp
   rcases hp with rfl | rfl | rfl | rfl
   ·rfl
   ·exact h4
   ·exact h5
   ·trivial
  ·obtain ⟨x,xs,rfl,k1,k2⟩:=hRs.inv
   obtain ⟨y,ys,rfl,k3,k4⟩:=k2.inv
   exact .cons (ro_alike h3 k1) (.cons (ro_alike (fun i hi => (h2 i hi).trans (h3 i hi)) k3) k4)
 ·cases hc
section
variable {b c d e:Bd} {l:List AV}
theorem lenA_body:(bodyC b ++ l).length = 27 + l.length:=by rw [List.length_append]; rfl
theorem take27_body:List.take 27 (bodyC b ++ l) = bodyC b:=(rfl)
theorem take54_body:List.take 54 (bodyC b ++ l) = bodyC b ++ List.take 27 l:=(rfl)
theorem take81_body:List.take 81 (bodyC b ++ l) = bodyC b ++ List.take 54 l:=(rfl)
theorem take108_body:List.take 108 (bodyC b ++ l) = bodyC b ++ List.take 81 l:=(rfl)
theorem drop27_body:List.drop 27 (bodyC b ++ l) = l:=(rfl)
theorem drop54_body:List.drop 54 (bodyC b ++ l) = List.drop 27 l:=(rfl)
theorem drop81_body:List.drop 81 (bodyC b ++ l) = List.drop 54 l:=(rfl)
theorem drop108_body:List.drop 108 (bodyC b ++ l) = List.drop 81 l:=(rfl)
end
attribute [go_sem] lenA_body take27_body take54_body take81_body take108_body drop27_body drop54_body drop81_body drop108_body
theorem purLA_body {b:Bd} {l:List AV} {d:Nat} {m:Mem}:purL d m (bodyC b ++ l) = bodyC b ++ purL d m l:=by
 rw [← purL_eq,← purL_eq,List.map_append,purL_eq,purLd_body]
theorem cleanLA_body {b:Bd} {l:List AV}:cleanL 2 (bodyC b ++ l) = cleanL 2 l:=by
 rw [← cleanL_eq,← cleanL_eq,List.all_append,cleanL_eq (l:=bodyC b),cleanL_body,Bool.true_and]
attribute [go_sem] cleanLA_body
def ros2 (b c:Bd):Nat → List AV:=rowsOf 27 (bodyC b ++ bodyC c)
theorem rows_seal2 {b c:Bd}:rowsOf 27 (bodyC b ++ bodyC c) = ros2 b c:=(rfl)
theorem rowG_r2 {b c:Bd} {d:Nat} {m:Mem}:rowG d m (ros2 b c) = ros2 b c:=by
 unfold ros2
 rw [rowG_rows,purLA_body,purLd_body]
theorem purL_r2 {b c:Bd} {d i:Nat} {m:Mem}:purL d m (ros2 b c i) = ros2 b c i:=by
 unfold ros2 rowsOf
 rw [purL_take,purL_drop,purLA_body,purLd_body]
theorem ros2_0 {b c:Bd}:ros2 b c 0 = bodyC b:=(rfl)
theorem ros2_1 {b c:Bd}:ros2 b c 1 = bodyC c:=(rfl)
theorem bsD_r20 {b c:Bd}:bsD (ros2 b c) 0 = b:=(rfl)
theorem bsD_r21 {b c:Bd}:bsD (ros2 b c) 1 = c:=(rfl)
theorem ros2_ok {b c:Bd}:(∀ i,i < 2 → ros2 b c i = bodyC (bsD (ros2 b c) i)) = True:=eq_true fun i hi => by
 match i with
 | 0 => rfl
 | 1 => rfl
 | q + 2 => omega
theorem inBs_r2 {b c:Bd}:inBs 2 (bsD (ros2 b c)) = ((inB b ∧ b.n ≤ 1000) ∧ (inB c ∧ c.n ≤ 1000)):=propext ⟨fun h => ⟨h 0 (by omega),h 1 (by omega)⟩,fun h i hi => by
 match i with
 | 0 => exact h.1
 | 1 => exact h.2
 | q + 2 => omega⟩
attribute [go_sem] rows_seal2 rowG_r2 purL_r2 ros2_0 ros2_1 bsD_r20 bsD_r21 ros2_ok inBs_r2
theorem lenA_cont {c:Ct} {l:List AV}:(contC c ++ l).length = 15 + l.length:=by rw [List.length_append]; rfl
theorem take15A_cont {c:Ct} {l:List AV}:List.take 15 (contC c ++ l) = contC c:=(rfl)
theorem take30A_cont {c:Ct} {l:List AV}:List.take 30 (contC c ++ l) = contC c ++ List.take 15 l:=(rfl)
theorem drop15A_cont {c:Ct} {l:List AV}:List.drop 15 (contC c ++ l) = l:=(rfl)
theorem drop30A_cont {c:Ct} {l:List AV}:List.drop 30 (contC c ++ l) = List.drop 15 l:=(rfl)
theorem cleanLA_cont {c:Ct} {l:List AV}:cleanL 2 (contC c ++ l) = cleanL 2 l:=by
 rw [← cleanL_eq,← cleanL_eq,List.all_append,cleanL_eq (l:=contC c),cleanL_cont,Bool.true_and]
theorem purLd_cont {c:Ct} {d:Nat} {m:Mem}:purL d m (contC c) = contC c:=by cases d <;> rfl
theorem purLA_cont {c:Ct} {l:List AV} {d:Nat} {m:Mem}:purL d m (contC c ++ l) = contC c ++ purL d m l:=by
 rw [← purL_eq,← purL_eq,List.map_append,purL_eq,purLd_cont]
def cts2 (a b:Ct):Nat → List AV:=rowsOf 15 (contC a ++ contC b)
section
variable {a b:Ct} {d i:Nat} {m:Mem}
theorem rows_sealC2:rowsOf 15 (contC a ++ contC b) = cts2 a b:=(rfl)
theorem rowG_c2:rowG d m (cts2 a b) = cts2 a b:=by
 unfold cts2
 rw [rowG_rows,purLA_cont,purLd_cont]
theorem purL_c2:purL d m (cts2 a b i) = cts2 a b i:=by
 unfold cts2 rowsOf
 rw [purL_take,purL_drop,purLA_cont,purLd_cont]
theorem cts2_0:cts2 a b 0 = contC a:=(rfl)
theorem cts2_1:cts2 a b 1 = contC b:=(rfl)
theorem csD_c20:csD (cts2 a b) 0 = a:=(rfl)
theorem csD_c21:csD (cts2 a b) 1 = b:=(rfl)
theorem cts2_ok:(∀ i,i < 2 → rowC (cts2 a b) i) = True:=eq_true fun i hi => .inl (by
 match i with
 | 0 => rfl
 | 1 => rfl
 | q + 2 => omega)
theorem inCs_c2:inCs 2 (csD (cts2 a b)) = ((inC a ∧ a.n ≤ 1000) ∧ (inC b ∧ b.n ≤ 1000)):=propext ⟨fun h => ⟨h 0 (by omega),h 1 (by omega)⟩,fun h i hi => by
 match i with
 | 0 => exact h.1
 | 1 => exact h.2
 | q + 2 => omega⟩
end
attribute [go_sem] lenA_cont take15A_cont take30A_cont drop15A_cont drop30A_cont cleanLA_cont rows_sealC2 rowG_c2 purL_c2 cts2_0 cts2_1 csD_c20 csD_c21 cts2_ok inCs_c2
theorem plainL_cont {c:Ct}:plainL 1 (contC c) = false:=(rfl)
attribute [go_sem] plainL_cont
def kHitW:Con:=cLw kHit
theorem con22w:ConOK Tryz.prog 22 kHitW:=con22.cLw
def kCntW:Con:=cLw kCnt
theorem con25w:ConOK Tryz.prog 25 kCntW:=con25.cLw
end Go.Ax
end
section
/-
  Bodies made of numbers.
-/
set_option maxHeartbeats 4000000
set_option maxRecDepth 100000
namespace Go.Ax
open Go.Proofs
def mkD (dn kd:Int):Int:=if modS kd 4 = 0 then 0 else 1 + modS dn 1000
def nuN (x s:Int):Nb:=(x.tmod (s * 4294967296),false)
def mk0 (a b c x y u dn kd s:Int):Bd:=nwB (mkK a) (mkR a b) (mkH a b b) (mkH a b c) (mkN a) (mkX a b c) (mkY a b c) (foAt x y s) (foRot u) (mkD dn kd) (modS kd 4 != 0)
def mkB (a b c x y u vx vy sp dn kd s:Int):Bd:=
 if modS kd 4 = 1 then { mk0 a b c x y u dn kd s with v:=(nuN vx 200,nuN vy 200),w:=nuN sp 60 }
 else if modS kd 4 = 2 then { mk0 a b c x y u dn kd s with st:=30,sl:=true }
 else if modS kd 4 = 3 then { mk0 a b c x y u dn kd s with sl:=true,fa:=true }
 else mk0 a b c x y u dn kd s
theorem wrD {dn:Int}:IntKind.i64.wrap (1 + modS dn 1000) = 1 + modS dn 1000:=by
 have h:=modS_bd (n:=dn) (m:=1000) (by omega)
 exact wrap_in (by unfold inR; omega)
theorem mk_spots {a b c:Int}:(spots (mkN a) fun i => [i64 (mkX a b c i),i64 (mkY a b c i)]) = True:=eq_true fun i hi => ⟨rfl,mk_inR i hi⟩
theorem snV_inR {x:Int} {f:Bool}:inR (snV x f):=by
 have h:=@snV_rg x f
 unfold rg at h
 unfold inR
 omega
theorem csV_inR {x:Int} {f:Bool}:inR (csV x f):=snV_inR
def kb24:Con
 | [.agg [.v (.int .i64 a),.v (.int .i64 b),.v (.int .i64 c),.v (.int .i64 x),.v (.int .i64 y),.v (.int .i64 u),.v (.int .i64 p),.v (.int .i64 q),.v (.int .i64 r),.v (.int .i64 d),.v (.int .i64 k)],.v (.int .i64 s)] => some ([inR a,inR b,inR c,inR x,inR y,inR u,inR p,inR q,inR r,inR d,inR k,1 ≤ s ∧ s ≤ 1000000],boA (mkB a b c x y u p q r d k s))
 | _ => none
theorem con24:ConOK Tryz.prog 24 kb24:=ConOK.of (G:=[(31,c31),(97,c97),(98,c98),(96,c96),(53,c53)]) (H:=[(5,⟨[(15,.made 14)],[]⟩),(8,⟨[(11,.slot 7),(13,.slot 7)],[]⟩)]) (.cons con31 (.cons con97 (.cons con98 (.cons con96 (.cons con53 .nil))))) Tryz.func24 fun l ob rr hc hob => by
 unfold kb24 at hc
 split at hc
 ·rename_i a b c x y u p q r d k s
  cases hc
  have h_0:inR a:=hob _ (by simp)
  have h_1:inR b:=hob _ (by simp)
  have h_2:inR c:=hob _ (by simp)
  have h_3:inR x:=hob _ (by simp)
  have h_4:inR y:=hob _ (by simp)
  have h_5:inR u:=hob _ (by simp)
  have h_6:inR p:=hob _ (by simp)
  have h_7:inR q:=hob _ (by simp)
  have h_8:inR r:=hob _ (by simp)
  have h_9:inR d:=hob _ (by simp)
  have h_10:inR k:=hob _ (by simp)
  have h_11:1 ≤ s ∧ s ≤ 1000000:=hob _ (by simp)
  clear hob
  refine ⟨by kernel_rfl,fnVC_go (rs:=[.cell 4 57]) rfl rfl ?_⟩
  simp only [go_sem,c31,c97,c98,c96,c53,boA,bodyC,mk_spots,gx_pts0,gx_pts1,wrD,h_0,h_1,h_2,h_3,h_4,h_5,h_6,h_7,h_8,h_9,h_10,h_11]
  simp only [forall_eq,true_imp_iff,true_and,and_true,wrD]
  refine ⟨by unfold inR; omega,by unfold inR; omega,fun g0 => ?_,fun g0 => ?_⟩
  ·have e0:mk0 a b c x y u d k s = nwB (mkK a) (mkR a b) (mkH a b b) (mkH a b c) (mkN a) (mkX a b c) (mkY a b c) (foAt x y s) (foRot u) 0 (modS k 4 != 0):=by
    unfold mk0; rw [show mkD d k = 0 from if_pos (by simpa using g0)]
   exact ⟨mkN_le,tmod_inR h_11,tmod_inR h_11,csV_inR,snV_inR,fun g1 => by
     rw [show mkB a b c x y u p q r d k s = { mk0 a b c x y u d k s with v:=(nuN p 200,nuN q 200),w:=nuN r 60 } from if_pos (by simpa using g1),e0] <;> rfl,
    fun g1 => ⟨fun g2 => by
     rw [show mkB a b c x y u p q r d k s = { mk0 a b c x y u d k s with st:=30,sl:=true } from (if_neg (by simpa using g1)).trans (if_pos (by simpa using g2)),e0] <;> rfl,
    fun g2 => ⟨fun g3 => by
     rw [show mkB a b c x y u p q r d k s = { mk0 a b c x y u d k s with sl:=true,fa:=true } from (if_neg (by simpa using g1)).trans ((if_neg (by simpa using g2)).trans (if_pos (by simpa using g3))),e0] <;> rfl,
    fun g3 => by
     rw [show mkB a b c x y u p q r d k s = mk0 a b c x y u d k s from (if_neg (by simpa using g1)).trans ((if_neg (by simpa using g2)).trans (if_neg (by simpa using g3))),e0] <;> rfl⟩⟩⟩
  ·have e0:mk0 a b c x y u d k s = nwB (mkK a) (mkR a b) (mkH a b b) (mkH a b c) (mkN a) (mkX a b c) (mkY a b c) (foAt x y s) (foRot u) (1 + modS d 1000) (modS k 4 != 0):=by
    unfold mk0; rw [show mkD d k = 1 + modS d 1000 from if_neg (by simpa using g0)]
   exact ⟨mkN_le,tmod_inR h_11,tmod_inR h_11,csV_inR,snV_inR,by have:=modS_bd (n:=d) (m:=1000) (by omega); unfold inR; omega,fun g1 => by
     rw [show mkB a b c x y u p q r d k s = { mk0 a b c x y u d k s with v:=(nuN p 200,nuN q 200),w:=nuN r 60 } from if_pos (by simpa using g1),e0] <;> rfl,
    fun g1 => ⟨fun g2 => by
     rw [show mkB a b c x y u p q r d k s = { mk0 a b c x y u d k s with st:=30,sl:=true } from (if_neg (by simpa using g1)).trans (if_pos (by simpa using g2)),e0] <;> rfl,
    fun g2 => ⟨fun g3 => by
     rw [show mkB a b c x y u p q r d k s = { mk0 a b c x y u d k s with sl:=true,fa:=true } from (if_neg (by simpa using g1)).trans ((if_neg (by simpa using g2)).trans (if_pos (by simpa using g3))),e0] <;> rfl,
    fun g3 => by
     rw [show mkB a b c x y u p q r d k s = mk0 a b c x y u d k s from (if_neg (by simpa using g1)).trans ((if_neg (by simpa using g2)).trans (if_neg (by simpa using g3))),e0] <;> rfl⟩⟩⟩
 ·cases hc
end Go.Ax
end
section
/-
  Times; bodies that are the same, by the program.
-/
set_option maxHeartbeats 4000000
set_option maxRecDepth 100000
namespace Go.Ax
open Go.Proofs
theorem aEq209 {a0 b0:Int} {a1 b1:Int} {a2 b2:Int} {a3 b3:Int}:aEq Tryz.prog 209 (.agg [i64 a0,i64 a1,i64 a2,i64 a3]) (.agg [i64 b0,i64 b1,i64 b2,i64 b3]) = some ((a0 == b0) && ((a1 == b1) && ((a2 == b2) && ((a3 == b3) && true)))):=by kernel_rfl
theorem eq209 {xo yo:Operand} {neg:Bool} {a0 b0:Int} {a1 b1:Int} {a2 b2:Int} {a3 b3:Int}:eqE Tryz.prog neg 209 xo yo (.agg [i64 a0,i64 a1,i64 a2,i64 a3]) (.agg [i64 b0,i64 b1,i64 b2,i64 b3]) = some ⟨[],.v (.bool (negV neg ((a0 == b0) && ((a1 == b1) && ((a2 == b2) && ((a3 == b3) && true)))))),.none⟩:=eqE_agg aEq209
attribute [go_sem] eq209
end Go.Ax
end
section
/-
  SolverSleeps: its body.
-/
set_option maxHeartbeats 4000000
set_option maxRecDepth 100000
namespace Go.Ax
open Go.Proofs
end Go.Ax
end
section
/-
  A body at rest falls asleep.
-/
set_option maxHeartbeats 4000000
set_option maxRecDepth 100000
namespace Go.Ax
open Go.Proofs
theorem whF_in {x:Int} (h:-1000000000000000000 ≤ x):whF x false = false:=by
 unfold whF
 simp
 omega
theorem whV_in {x:Int} (h:-1000000000000000000 ≤ x) (h2:x ≤ 1000000000000000000):whV x = x:=by
 unfold whV
 split <;> omega
theorem ftV_in {x:Int} (h:-1000000000000000000 ≤ x) (h2:x ≤ 1000000000000000000):ftV x = x:=by
 unfold ftV
 (repeat' split) <;> omega
theorem ftF_in {x:Int} (h:-1000000000000000000 ≤ x) (h2:x ≤ 1000000000000000000):ftF x = false:=by
 unfold ftF
 simp
 omega
end Go.Ax
end
section
/-
  Sine and cosine ars they are computed: their squares sum up to one, but for 2^-19. Plain arithmetic.
-/
namespace Go.Ax
def pev:List Int → Int → Int
 | [],_ => 0
 | c :: cs,y => c + y * pev cs y
def padd:List Int → List Int → List Int
 | [],q => q
 | a :: p,[] => a :: p
 | a :: p,b :: q => (a + b) :: padd p q
def psm (k:Int):List Int → List Int
 | [] => []
 | a :: p => k * a :: psm k p
def pmul:List Int → List Int → List Int
 | [],_ => []
 | a :: p,q => padd (psm a q) (0 :: pmul p q)
def pcomp:List Int → List Int → List Int
 | [],_ => []
 | a :: p,q => padd [a] (pmul q (pcomp p q))
def pabs:List Int → Int → Int
 | [],_ => 0
 | c :: cs,B => (if c < 0 then -c else c) + B * pabs cs B
theorem pev_add (y:Int):∀ p q:List Int,pev (padd p q) y = pev p y + pev q y
 | [],q => by simp [padd,pev]
 | a :: p,[] => by simp [padd,pev]
 | a :: p,b :: q => by simp only [padd,pev,pev_add y p q]; grind
theorem pev_sm (k y:Int):∀ p:List Int,pev (psm k p) y = k * pev p y
 | [] => by simp [psm,pev]
 | a :: p => by simp only [psm,pev,pev_sm k y p]; grind
theorem pev_mul (y:Int):∀ p q:List Int,pev (pmul p q) y = pev p y * pev q y
 | [],q => by simp [pmul,pev]
 | a :: p,q => by simp only [pmul,pev,pev_add,pev_sm,pev_mul y p q]; grind
theorem pev_comp (y:Int) (q:List Int):∀ p:List Int,pev (pcomp p q) y = pev p (pev q y)
 | [] => by simp [pcomp,pev]
 | a :: p => by simp only [pcomp,pev,pev_add,pev_mul,pev_comp y q p]; grind
theorem pev_bd {y B:Int} (h0:0 ≤ y) (h1:y ≤ B):∀ cs:List Int,0 ≤ pabs cs B ∧ -(pabs cs B) ≤ pev cs y ∧ pev cs y ≤ pabs cs B
 | [] => by simp [pabs,pev]
 | c :: cs => by
  obtain ⟨k0,k1,k2⟩:=pev_bd h0 h1 cs
  have m1:y * pev cs y ≤ y * pabs cs B:=Int.mul_le_mul_of_nonneg_left k2 h0
  have m2:y * -(pabs cs B) ≤ y * pev cs y:=Int.mul_le_mul_of_nonneg_left k1 h0
  have m3:y * pabs cs B ≤ B * pabs cs B:=Int.mul_le_mul_of_nonneg_right h1 k0
  have m4:0 ≤ y * pabs cs B:=Int.mul_nonneg h0 k0
  rw [Int.mul_neg] at m2
  simp only [pabs,pev]
  split <;> refine ⟨?_,?_,?_⟩ <;> omega
def serT:List Int:=[0,4768988719006436111262234168778648423474656980035636955663595829178822894077063921902894844467270927543474141934655026171951583604355055887615953102486438762529161216000,0,(-43087899414213674021824125643264255072305462219207007284242456456798725817691141891220050084051744617156383553793407931128471747317646658681962496000),0,116789985381818398160573898299231102288065772677584217151319844983904676864291965346766500211691480339536943806187305008155852800,0,(-150742804613711681364039825115385279235570281032314673924162220557576589258871909346252821120275293038182400),0,113496997394961198577319469229027706569291890953579835547744303126809085079968756531200,0,(-55933495975544804015926845529165017287291580706094561614752645120),0,19436928798524005033027957576502600238366720,0,(-5017514388048998039552),0,1]
def serN:Int:=4768988719006436111262234168778648423474656980035636955663595829178822894077063921902894844467270927543474141934655026171951583604355055887615953102486438762529161216000
def serG (q:Int):List Int:=padd (padd (pmul serT serT) (pmul (pcomp serT [q,-1]) (pcomp serT [q,-1]))) [-(serN * 4294967296 * (serN * 4294967296))]
theorem serG_small:pabs (serG 6746518852) 6746518852 * 1048576 ≤ serN * 4294967296 * (serN * 4294967296):=by decide +kernel
theorem serG_small':pabs (serG 6746518851) 6746518851 * 1048576 ≤ serN * 4294967296 * (serN * 4294967296):=by decide +kernel
theorem pev_G {q y:Int}:pev (serG q) y = pev serT y * pev serT y + pev serT (q - y) * pev serT (q - y) - serN * 4294967296 * (serN * 4294967296):=by
 unfold serG
 simp only [pev_add,pev_mul,pev_comp,pev]
 have e:q + y * (-1 + y * 0) = q - y:=by grind
 rw [e]
 generalize pev serT y = a
 generalize pev serT (q - y) = b
 generalize serN = n
 grind
theorem ser_circle {q y:Int} (hq:q = 6746518852 ∨ q = 6746518851) (h0:0 ≤ y) (h1:y ≤ q) :
  -(serN * 4294967296 * (serN * 4294967296)) ≤ 1048576 * (pev serT y * pev serT y + pev serT (q - y) * pev serT (q - y) - serN * 4294967296 * (serN * 4294967296)) ∧
  1048576 * (pev serT y * pev serT y + pev serT (q - y) * pev serT (q - y) - serN * 4294967296 * (serN * 4294967296)) ≤ serN * 4294967296 * (serN * 4294967296):=by
 rw [← pev_G]
 obtain ⟨k0,k1,k2⟩:=pev_bd h0 h1 (serG q)
 have hs:pabs (serG q) q * 1048576 ≤ serN * 4294967296 * (serN * 4294967296):=by
  rcases hq with rfl | rfl
  ·exact serG_small
  ·exact serG_small'
 generalize serN * 4294967296 * (serN * 4294967296) = M at *
 omega
theorem td_err {x k:Int} (hk:0 < k):-k < x - x.tdiv k * k ∧ x - x.tdiv k * k < k:=by
 rcases Int.le_total 0 x with h | h
 ·rw [Int.tdiv_eq_ediv_of_nonneg h]
  have h1:=Int.emod_nonneg x (by omega:k ≠ 0)
  have h2:=Int.emod_lt_of_pos x hk
  have h3:=Int.emod_add_mul_ediv x k
  rw [Int.mul_comm k] at h3
  omega
 ·have e:x.tdiv k = -((-x).tdiv k):=by rw [Int.neg_tdiv,Int.neg_neg]
  rw [e,Int.tdiv_eq_ediv_of_nonneg (by omega)]
  have h1:=Int.emod_nonneg (-x) (by omega:k ≠ 0)
  have h2:=Int.emod_lt_of_pos (-x) hk
  have h3:=Int.emod_add_mul_ediv (-x) k
  rw [Int.mul_comm k] at h3
  rw [Int.neg_mul]
  omega
theorem ab_mul {a b A B:Int} (ha:-A ≤ a ∧ a ≤ A) (hb:-B ≤ b ∧ b ≤ B):-(A * B) ≤ a * b ∧ a * b ≤ A * B:=by
 have hA:0 ≤ A:=by omega
 have hB:0 ≤ B:=by omega
 rcases Int.le_total 0 a with h | h
 ·have k1:a * b ≤ a * B:=Int.mul_le_mul_of_nonneg_left hb.2 h
  have k2:a * -B ≤ a * b:=Int.mul_le_mul_of_nonneg_left hb.1 h
  have k3:a * B ≤ A * B:=Int.mul_le_mul_of_nonneg_right ha.2 hB
  rw [Int.mul_neg] at k2
  omega
 ·have k1:-a * b ≤ -a * B:=Int.mul_le_mul_of_nonneg_left hb.2 (by omega)
  have k2:-a * -B ≤ -a * b:=Int.mul_le_mul_of_nonneg_left hb.1 (by omega)
  have k3:-a * B ≤ A * B:=Int.mul_le_mul_of_nonneg_right (by omega) hB
  simp only [Int.mul_neg,Int.neg_mul] at k1 k2 k3
  omega
def facM (k:Nat):Int:=2 * ((k:Int) + 1) * (2 * ((k:Int) + 1) + 1)
def tq (y:Int):Nat → Int
 | 0 => y
 | k + 1 => -((((tq y k * y).tdiv 4294967296 * y).tdiv 4294967296 * 4294967296).tdiv (facM k * 4294967296))
def sq (y:Int):Nat → Int
 | 0 => y
 | k + 1 => sq y k + tq y (k + 1)
def mq:Nat → Int
 | 0 => 1
 | k + 1 => mq k * (facM k * (4294967296 * 4294967296))
def xq (y:Int):Nat → Int
 | 0 => y
 | k + 1 => -(xq y k * (y * y))
theorem tq_neg (y:Int):∀ k,tq (-y) k = -tq y k
 | 0 => rfl
 | k + 1 => by
  simp only [tq,tq_neg y k,Int.mul_neg,Int.neg_tdiv,Int.neg_mul,Int.neg_neg]
theorem sq_neg (y:Int):∀ k,sq (-y) k = -sq y k
 | 0 => rfl
 | k + 1 => by simp only [sq,sq_neg y k,tq_neg]; omega
theorem ser_step {t y m:Int} (ht:-6746518852 ≤ t ∧ t ≤ 6746518852) (hy:-6746518852 ≤ y ∧ y ≤ 6746518852) (hm:6 ≤ m) :
  (-13493037704 ≤ (t * y).tdiv 4294967296 ∧ (t * y).tdiv 4294967296 ≤ 13493037704) ∧
  (-26986075408 ≤ ((t * y).tdiv 4294967296 * y).tdiv 4294967296 ∧ ((t * y).tdiv 4294967296 * y).tdiv 4294967296 ≤ 26986075408) ∧
  (-6746518852 ≤ -((((t * y).tdiv 4294967296 * y).tdiv 4294967296 * 4294967296).tdiv (m * 4294967296)) ∧ -((((t * y).tdiv 4294967296 * y).tdiv 4294967296 * 4294967296).tdiv (m * 4294967296)) ≤ 6746518852) ∧
  (-(3 + m) * 18446744073709551616 ≤ -((((t * y).tdiv 4294967296 * y).tdiv 4294967296 * 4294967296).tdiv (m * 4294967296)) * (m * 18446744073709551616) + t * (y * y) ∧
   -((((t * y).tdiv 4294967296 * y).tdiv 4294967296 * 4294967296).tdiv (m * 4294967296)) * (m * 18446744073709551616) + t * (y * y) ≤ (3 + m) * 18446744073709551616):=by
 have e3:=td_err (x:=t * y) (k:=4294967296) (by decide)
 have m3:=ab_mul ht hy
 generalize hA:(t * y).tdiv 4294967296 = a at *
 have ba:-13493037704 ≤ a ∧ a ≤ 13493037704:=by omega
 have e2:=td_err (x:=a * y) (k:=4294967296) (by decide)
 have m2:=ab_mul ba hy
 generalize hB:(a * y).tdiv 4294967296 = b at *
 have bb:-26986075408 ≤ b ∧ b ≤ 26986075408:=by omega
 have hm':0 < m * 4294967296:=by omega
 have e1:=td_err (x:=b * 4294967296) (k:=m * 4294967296) hm'
 generalize hC:(b * 4294967296).tdiv (m * 4294967296) = c at *
 have e1':c * (m * 4294967296) = (c * m) * 4294967296:=by grind
 rw [e1'] at e1
 have e0:-m < b - c * m ∧ b - c * m < m:=by omega
 have bc:-6746518852 ≤ c ∧ c ≤ 6746518852:=by
  constructor
  ·refine Int.not_lt.1 fun h => ?_
   have:c * m ≤ (-6746518853) * m:=Int.mul_le_mul_of_nonneg_right (by omega) (by omega)
   omega
  ·refine Int.not_lt.1 fun h => ?_
   have:6746518853 * m ≤ c * m:=Int.mul_le_mul_of_nonneg_right (by omega) (by omega)
   omega
 refine ⟨ba,bb,by omega,?_⟩
 have r3:-4294967296 ≤ t * y - a * 4294967296 ∧ t * y - a * 4294967296 ≤ 4294967296:=by omega
 have k3:=ab_mul r3 hy
 have id1:-c * (m * 18446744073709551616) + t * (y * y) = (t * y - a * 4294967296) * y + (a * y - b * 4294967296) * 4294967296 + (b - c * m) * 18446744073709551616:=by grind
 rw [id1]
 omega
theorem facM_ge (k:Nat):6 ≤ facM k:=by
 unfold facM
 have h1:(2:Int) * ((k:Int) + 1) ≥ 2:=by omega
 have h2:(2:Int) * ((k:Int) + 1) + 1 ≥ 3:=by omega
 have:=Int.mul_le_mul h1 h2 (by omega) (by omega)
 omega
theorem facM_ge1 (k:Nat):20 ≤ facM (k + 1):=by
 unfold facM
 have h1:(2:Int) * (((k + 1:Nat):Int) + 1) ≥ 4:=by omega
 have h2:(2:Int) * (((k + 1:Nat):Int) + 1) + 1 ≥ 5:=by omega
 have:=Int.mul_le_mul h1 h2 (by omega) (by omega)
 omega
theorem mq_pos:∀ k,0 < mq k
 | 0 => by decide
 | k + 1 => by
  simp only [mq]
  have:=facM_ge k
  exact Int.mul_pos (mq_pos k) (Int.mul_pos (by omega) (by decide))
theorem tq_le {y:Int} (hy:-6746518852 ≤ y ∧ y ≤ 6746518852):∀ k,-6746518852 ≤ tq y k ∧ tq y k ≤ 6746518852
 | 0 => hy
 | k + 1 => (ser_step (tq_le hy k) hy (facM_ge k)).2.2.1
theorem err_step {t t' y m M X d:Int} (hM:0 < M) (hy:-6746518852 ≤ y ∧ y ≤ 6746518852) (hd:0 ≤ d) (hd2:d ≤ 2) (h:-(d * M) ≤ t * M - X ∧ t * M - X ≤ d * M)
  (he:-(3 + m) * 18446744073709551616 ≤ t' * (m * 18446744073709551616) + t * (y * y) ∧ t' * (m * 18446744073709551616) + t * (y * y) ≤ (3 + m) * 18446744073709551616) (hm:3 * d + 3 ≤ m) :
  -(2 * (M * (m * (4294967296 * 4294967296)))) ≤ t' * (M * (m * (4294967296 * 4294967296))) - -(X * (y * y)) ∧ t' * (M * (m * (4294967296 * 4294967296))) - -(X * (y * y)) ≤ 2 * (M * (m * (4294967296 * 4294967296))):=by
 have hyy:=ab_mul hy hy
 have y0:0 ≤ y * y:=by
  rcases Int.le_total 0 y with h | h
  ·exact Int.mul_nonneg h h
  ·have:=Int.mul_nonneg (show 0 ≤ -y by omega) (show 0 ≤ -y by omega)
   rwa [Int.neg_mul_neg] at this
 have id1:t' * (M * (m * (4294967296 * 4294967296))) - -(X * (y * y)) = M * (t' * (m * 18446744073709551616) + t * (y * y)) - (t * M - X) * (y * y):=by grind
 rw [id1]
 generalize t * M - X = e at *
 generalize t' * (m * 18446744073709551616) + t * (y * y) = f at *
 generalize y * y = q at *
 have k1:=ab_mul (a:=e) (A:=d * M) h (b:=q) (B:=3 * 18446744073709551616) (by omega)
 have k2:M * f ≤ M * ((3 + m) * 18446744073709551616):=Int.mul_le_mul_of_nonneg_left he.2 (by omega)
 have k3:M * (-(3 + m) * 18446744073709551616) ≤ M * f:=Int.mul_le_mul_of_nonneg_left he.1 (by omega)
 have k4:M * (3 * d + 3) ≤ M * m:=Int.mul_le_mul_of_nonneg_left hm (by omega)
 have j1:M * ((3 + m) * 18446744073709551616) = (3 * M + M * m) * 18446744073709551616:=by grind
 have j2:M * (-(3 + m) * 18446744073709551616) = -((3 * M + M * m) * 18446744073709551616):=by grind
 have j3:d * M * (3 * 18446744073709551616) = (3 * (M * d)) * 18446744073709551616:=by grind
 have j4:M * (3 * d + 3) = 3 * (M * d) + 3 * M:=by grind
 have j5:M * (m * (4294967296 * 4294967296)) = (M * m) * 18446744073709551616:=by grind
 rw [j1] at k2
 rw [j2] at k3
 rw [j3] at k1
 rw [j4] at k4
 rw [j5]
 omega
theorem ser_err {y:Int} (hy:-6746518852 ≤ y ∧ y ≤ 6746518852):∀ k,-(2 * mq (k + 1)) ≤ tq y (k + 1) * mq (k + 1) - xq y (k + 1) ∧ tq y (k + 1) * mq (k + 1) - xq y (k + 1) ≤ 2 * mq (k + 1)
 | 0 => by
  have h:=ser_step (t:=tq y 0) hy hy (facM_ge 0)
  exact err_step (d:=0) (t:=tq y 0) (M:=mq 0) (X:=xq y 0) (m:=facM 0) (mq_pos 0) hy (by omega) (by omega) (by simp [tq,mq,xq]) h.2.2.2 (by have:=facM_ge 0; omega)
 | k + 1 => by
  have h:=ser_step (tq_le hy (k + 1)) hy (facM_ge (k + 1))
  exact err_step (d:=2) (t:=tq y (k + 1)) (M:=mq (k + 1)) (X:=xq y (k + 1)) (m:=facM (k + 1)) (mq_pos _) hy (by omega) (by omega) (ser_err hy k) h.2.2.2 (by have:=facM_ge1 k; omega)
theorem mq_1:mq 1 * 43087899414213674021824125643264255072305462219207007284242456456798725817691141891220050084051744617156383553793407931128471747317646658681962496000 = serN:=by decide +kernel
theorem mq_2:mq 2 * 116789985381818398160573898299231102288065772677584217151319844983904676864291965346766500211691480339536943806187305008155852800 = serN:=by decide +kernel
theorem mq_3:mq 3 * 150742804613711681364039825115385279235570281032314673924162220557576589258871909346252821120275293038182400 = serN:=by decide +kernel
theorem mq_4:mq 4 * 113496997394961198577319469229027706569291890953579835547744303126809085079968756531200 = serN:=by decide +kernel
theorem mq_5:mq 5 * 55933495975544804015926845529165017287291580706094561614752645120 = serN:=by decide +kernel
theorem mq_6:mq 6 * 19436928798524005033027957576502600238366720 = serN:=by decide +kernel
theorem mq_7:mq 7 * 5017514388048998039552 = serN:=by decide +kernel
theorem mq_8:mq 8 * 1 = serN:=by decide +kernel
theorem err_R {t M X r N:Int} (hM:0 < M) (hr:0 ≤ r) (e:M * r = N) (h:-(2 * M) ≤ t * M - X ∧ t * M - X ≤ 2 * M):-(2 * N) ≤ t * N - X * r ∧ t * N - X * r ≤ 2 * N:=by
 have k1:=Int.mul_le_mul_of_nonneg_right h.1 hr
 have k2:=Int.mul_le_mul_of_nonneg_right h.2 hr
 subst e
 have j1:-(2 * M) * r = -(2 * (M * r)):=by grind
 have j2:(t * M - X) * r = t * (M * r) - X * r:=by grind
 have j3:2 * M * r = 2 * (M * r):=by grind
 rw [j1,j2] at k1
 rw [j2,j3] at k2
 exact ⟨k1,k2⟩
theorem ser_sum {y:Int} (hy:-6746518852 ≤ y ∧ y ≤ 6746518852):-(16 * serN) ≤ sq y 8 * serN - pev serT y ∧ sq y 8 * serN - pev serT y ≤ 16 * serN:=by
 have e1:-(2 * serN) ≤ tq y 1 * serN - xq y 1 * 43087899414213674021824125643264255072305462219207007284242456456798725817691141891220050084051744617156383553793407931128471747317646658681962496000 ∧ tq y 1 * serN - xq y 1 * 43087899414213674021824125643264255072305462219207007284242456456798725817691141891220050084051744617156383553793407931128471747317646658681962496000 ≤ 2 * serN:=err_R (mq_pos 1) (by decide) mq_1 (ser_err hy 0)
 have e2:-(2 * serN) ≤ tq y 2 * serN - xq y 2 * 116789985381818398160573898299231102288065772677584217151319844983904676864291965346766500211691480339536943806187305008155852800 ∧ tq y 2 * serN - xq y 2 * 116789985381818398160573898299231102288065772677584217151319844983904676864291965346766500211691480339536943806187305008155852800 ≤ 2 * serN:=err_R (mq_pos 2) (by decide) mq_2 (ser_err hy 1)
 have e3:-(2 * serN) ≤ tq y 3 * serN - xq y 3 * 150742804613711681364039825115385279235570281032314673924162220557576589258871909346252821120275293038182400 ∧ tq y 3 * serN - xq y 3 * 150742804613711681364039825115385279235570281032314673924162220557576589258871909346252821120275293038182400 ≤ 2 * serN:=err_R (mq_pos 3) (by decide) mq_3 (ser_err hy 2)
 have e4:-(2 * serN) ≤ tq y 4 * serN - xq y 4 * 113496997394961198577319469229027706569291890953579835547744303126809085079968756531200 ∧ tq y 4 * serN - xq y 4 * 113496997394961198577319469229027706569291890953579835547744303126809085079968756531200 ≤ 2 * serN:=err_R (mq_pos 4) (by decide) mq_4 (ser_err hy 3)
 have e5:-(2 * serN) ≤ tq y 5 * serN - xq y 5 * 55933495975544804015926845529165017287291580706094561614752645120 ∧ tq y 5 * serN - xq y 5 * 55933495975544804015926845529165017287291580706094561614752645120 ≤ 2 * serN:=err_R (mq_pos 5) (by decide) mq_5 (ser_err hy 4)
 have e6:-(2 * serN) ≤ tq y 6 * serN - xq y 6 * 19436928798524005033027957576502600238366720 ∧ tq y 6 * serN - xq y 6 * 19436928798524005033027957576502600238366720 ≤ 2 * serN:=err_R (mq_pos 6) (by decide) mq_6 (ser_err hy 5)
 have e7:-(2 * serN) ≤ tq y 7 * serN - xq y 7 * 5017514388048998039552 ∧ tq y 7 * serN - xq y 7 * 5017514388048998039552 ≤ 2 * serN:=err_R (mq_pos 7) (by decide) mq_7 (ser_err hy 6)
 have e8:-(2 * serN) ≤ tq y 8 * serN - xq y 8 * 1 ∧ tq y 8 * serN - xq y 8 * 1 ≤ 2 * serN:=err_R (mq_pos 8) (by decide) mq_8 (ser_err hy 7)
 have hs:sq y 8 * serN = y * serN + tq y 1 * serN + tq y 2 * serN + tq y 3 * serN + tq y 4 * serN + tq y 5 * serN + tq y 6 * serN + tq y 7 * serN + tq y 8 * serN:=by
  simp only [sq]
  generalize serN = n
  grind
 have hp:pev serT y = y * serN + xq y 1 * 43087899414213674021824125643264255072305462219207007284242456456798725817691141891220050084051744617156383553793407931128471747317646658681962496000 + xq y 2 * 116789985381818398160573898299231102288065772677584217151319844983904676864291965346766500211691480339536943806187305008155852800 + xq y 3 * 150742804613711681364039825115385279235570281032314673924162220557576589258871909346252821120275293038182400 + xq y 4 * 113496997394961198577319469229027706569291890953579835547744303126809085079968756531200 + xq y 5 * 55933495975544804015926845529165017287291580706094561614752645120 + xq y 6 * 19436928798524005033027957576502600238366720 + xq y 7 * 5017514388048998039552 + xq y 8 * 1:=by
  simp only [xq,pev,serT,serN]
  grind
 rw [hs,hp]
 omega
theorem sq_circle0 {q y:Int} (hq:q = 6746518852 ∨ q = 6746518851) (h0:0 ≤ y) (h1:y ≤ q) :
  -35184372088832 ≤ sq y 8 * sq y 8 + sq (q - y) 8 * sq (q - y) 8 - 18446744073709551616 ∧ sq y 8 * sq y 8 + sq (q - y) 8 * sq (q - y) 8 - 18446744073709551616 ≤ 35184372088832:=by
 have hc:=ser_circle hq h0 h1
 have ha:=ser_sum (y:=y) (by omega)
 have hb:=ser_sum (y:=q - y) (by omega)
 generalize sq y 8 = S at *
 generalize sq (q - y) 8 = C at *
 generalize pev serT y = A at *
 generalize pev serT (q - y) = B at *
 have hN:0 < serN:=by decide +kernel
 have hN1:1000000 ≤ serN:=by decide +kernel
 generalize serN = N at *
 have sqA:0 ≤ A * A:=by
  rcases Int.le_total 0 A with h | h
  ·exact Int.mul_nonneg h h
  ·have:=Int.mul_nonneg (show 0 ≤ -A by omega) (show 0 ≤ -A by omega)
   rwa [Int.neg_mul_neg] at this
 have sqB:0 ≤ B * B:=by
  rcases Int.le_total 0 B with h | h
  ·exact Int.mul_nonneg h h
  ·have:=Int.mul_nonneg (show 0 ≤ -B by omega) (show 0 ≤ -B by omega)
   rwa [Int.neg_mul_neg] at this
 have jN:N * 4294967296 * (N * 4294967296) = (N * N) * 18446744073709551616:=by grind
 rw [jN] at hc
 have nn:0 < N * N:=Int.mul_pos hN hN
 have big:∀ X:Int,X * X ≤ (N * N) * 18446744073709551616 * 2 → -(2 * (N * 4294967296)) ≤ X ∧ X ≤ 2 * (N * 4294967296):=fun X hX => by
  have p0:0 < N * 4294967296:=by omega
  constructor
  ·refine Int.not_lt.1 fun h => ?_
   have h1:2 * (N * 4294967296) ≤ -X:=by omega
   have h2:=Int.mul_le_mul h1 h1 (by omega) (by omega)
   have h3:2 * (N * 4294967296) * (2 * (N * 4294967296)) = (N * N) * 18446744073709551616 * 4:=by grind
   have h4:-X * -X = X * X:=by grind
   rw [h3,h4] at h2
   omega
  ·refine Int.not_lt.1 fun h => ?_
   have h1:2 * (N * 4294967296) ≤ X:=by omega
   have h2:=Int.mul_le_mul h1 h1 (by omega) (by omega)
   have h3:2 * (N * 4294967296) * (2 * (N * 4294967296)) = (N * N) * 18446744073709551616 * 4:=by grind
   rw [h3] at h2
   omega
 have bA:=big A (by omega)
 have bB:=big B (by omega)
 have err:∀ X s:Int,-(2 * (N * 4294967296)) ≤ X ∧ X ≤ 2 * (N * 4294967296) → -(16 * N) ≤ s * N - X ∧ s * N - X ≤ 16 * N → -((N * N) * 300000000000) ≤ (s * s) * (N * N) - X * X ∧ (s * s) * (N * N) - X * X ≤ (N * N) * 300000000000:=fun X s hX hs => by
  have id1:(s * s) * (N * N) - X * X = (s * N - X) * (s * N - X) + 2 * ((s * N - X) * X):=by grind
  rw [id1]
  have k1:=ab_mul hs hs
  have k2:=ab_mul hs hX
  have j1:16 * N * (16 * N) = (N * N) * 256:=by grind
  have j2:16 * N * (2 * (N * 4294967296)) = (N * N) * 137438953472:=by grind
  rw [j1] at k1
  rw [j2] at k2
  omega
 have eA:=err A S bA ha
 have eB:=err B C bB hb
 have fin:∀ z:Int,z * (N * N) ≤ (N * N) * 18000000000000 → z ≤ 18000000000000:=fun z hz => Int.not_lt.1 fun h => by
  have:=Int.mul_lt_mul_of_pos_left h nn
  rw [Int.mul_comm] at this
  have e:N * N * z = z * (N * N):=Int.mul_comm _ _
  omega
 have u1:(S * S + C * C - 18446744073709551616) * (N * N) ≤ (N * N) * 18000000000000 + (N * N) * 600000000000:=by
  have e:(S * S + C * C - 18446744073709551616) * (N * N) = S * S * (N * N) + C * C * (N * N) - (N * N) * 18446744073709551616:=by grind
  rw [e]; omega
 have u2:-((N * N) * 18000000000000 + (N * N) * 600000000000) ≤ (S * S + C * C - 18446744073709551616) * (N * N):=by
  have e:(S * S + C * C - 18446744073709551616) * (N * N) = S * S * (N * N) + C * C * (N * N) - (N * N) * 18446744073709551616:=by grind
  rw [e]; omega
 have fin2:∀ z:Int,z * (N * N) ≤ (N * N) * 35184372088832 → z ≤ 35184372088832:=fun z hz => Int.not_lt.1 fun h => by
  have h2:=Int.mul_lt_mul_of_pos_left h nn
  have e:N * N * z = z * (N * N):=Int.mul_comm _ _
  omega
 constructor
 ·have:=fin2 (-(S * S + C * C - 18446744073709551616)) (by rw [Int.neg_mul]; omega)
  omega
 ·exact fin2 _ (by omega)
theorem sq_circle {y z:Int} (hy:-6746518852 ≤ y ∧ y ≤ 6746518852) {q:Int} (hq:q = 6746518852 ∨ q = 6746518851) (h1:(if y < 0 then -y else y) ≤ q) (hz:(if z < 0 then -z else z) = q - (if y < 0 then -y else y)) :
  -35184372088832 ≤ sq y 8 * sq y 8 + sq z 8 * sq z 8 - 18446744073709551616 ∧ sq y 8 * sq y 8 + sq z 8 * sq z 8 - 18446744073709551616 ≤ 35184372088832:=by
 have h:=sq_circle0 (y:=if y < 0 then -y else y) hq (by split <;> omega) h1
 rw [← hz] at h
 have e:∀ x:Int,sq (if x < 0 then -x else x) 8 * sq (if x < 0 then -x else x) 8 = sq x 8 * sq x 8:=fun x => by
  split
  ·rw [sq_neg,Int.neg_mul_neg]
  ·rfl
 rw [e,e] at h
 exact h
end Go.Ax
end
section
/-
  The sine's series, ars plain numbers.
-/
set_option maxHeartbeats 4000000
set_option maxRecDepth 100000
namespace Go.Ax
open Go.Proofs
theorem td_le {x A:Int} (h:-(A * 4294967296) ≤ x ∧ x ≤ A * 4294967296):-A ≤ x.tdiv 4294967296 ∧ x.tdiv 4294967296 ≤ A:=by
 have e:=@td_err x 4294967296 (by omega)
 omega
theorem nMul_in {t y:Int} (ht:-100000000000 ≤ t ∧ t ≤ 100000000000) (hy:-6746518852 ≤ y ∧ y ≤ 6746518852):nMul (t,false) (y,false) = ((t * y).tdiv 4294967296,false) ∧ (-200000000000 ≤ (t * y).tdiv 4294967296 ∧ (t * y).tdiv 4294967296 ≤ 200000000000):=by
 have h:=ab_mul ht hy
 have h2:=@td_le (t * y) 200000000000 (by omega)
 refine ⟨?_,h2⟩
 unfold nMul
 dsimp only
 rw [whV_in (by omega) (by omega),whV_in (by omega) (by omega),ftV_in (by omega) (by omega),ftF_in (by omega) (by omega),whF_in (by omega),whF_in (by omega)]
 rfl
theorem nInt_in {n:Int} (h:0 ≤ n ∧ n ≤ 1000000):nInt n = (n * 4294967296,false):=by
 unfold nInt
 rw [ftV_in (by omega) (by omega),ftF_in (by omega) (by omega)]
 rfl
theorem facM_le {k:Nat} (h:k < 8):facM k ≤ 1000:=by
 unfold facM
 match k,h with
 | 0,_ | 1,_ | 2,_ | 3,_ | 4,_ | 5,_ | 6,_ | 7,_ => decide
 | k + 8,h => omega
theorem snT_eq {y:Int} (hy:-6746518852 ≤ y ∧ y ≤ 6746518852):∀ k,k ≤ 8 → snT (y,false) k = (tq y k,false)
 | 0,_ => rfl
 | k + 1,hk => by
  have ht:=tq_le hy k
  have g1:=facM_ge k
  have g2:=@facM_le k (by omega)
  obtain ⟨s1,s2,s3,s4⟩:=ser_step (m:=facM k) ht hy g1
  show nNeg (nDiv (nMul (nMul (snT (y,false) k) (y,false)) (y,false)) (nInt (facM k))) = _
  rw [snT_eq hy k (by omega),(nMul_in (by omega) hy).1,(nMul_in (by omega) hy).1,nInt_in (by omega)]
  show nNeg (nDiv _ _) = (-((((tq y k * y).tdiv 4294967296 * y).tdiv 4294967296 * 4294967296).tdiv (facM k * 4294967296)),false)
  generalize ((tq y k * y).tdiv 4294967296 * y).tdiv 4294967296 = u at *
  unfold nDiv raV raF
  dsimp only
  rw [whV_in (by omega) (by omega),whV_in (by omega) (by omega),if_neg (by omega),if_neg (by omega)]
  generalize (u * 4294967296).tdiv (facM k * 4294967296) = v at *
  rw [ftV_in (by omega) (by omega),ftF_in (by omega) (by omega),whF_in (by omega),whF_in (by omega)]
  unfold nNeg
  dsimp only
  rw [whV_in (by omega) (by omega)]
  show (-v,whF v false) = _
  rw [whF_in (by omega)]
theorem sq_le {y:Int} (hy:-6746518852 ≤ y ∧ y ≤ 6746518852):∀ k:Nat,k ≤ 8 → -((k + 1:Int) * 6746518852) ≤ sq y k ∧ sq y k ≤ (k + 1:Int) * 6746518852
 | 0,_ => by
  show _ ≤ y ∧ y ≤ _
  omega
 | k + 1,hk => by
  have h1:=sq_le hy k (by omega)
  have h2:=tq_le hy (k + 1)
  show _ ≤ sq y k + tq y (k + 1) ∧ sq y k + tq y (k + 1) ≤ _
  omega
theorem snS_eq {y:Int} (hy:-6746518852 ≤ y ∧ y ≤ 6746518852):∀ k,k ≤ 8 → snS (y,false) k = (sq y k,false)
 | 0,_ => rfl
 | k + 1,hk => by
  have h1:=sq_le hy k (by omega)
  have h2:=tq_le hy (k + 1)
  show nAdd (snS (y,false) k) (snT (y,false) (k + 1)) = (sq y k + tq y (k + 1),false)
  rw [snS_eq hy k (by omega),snT_eq hy (k + 1) hk]
  unfold nAdd
  dsimp only
  rw [whV_in (by omega) (by omega),whV_in (by omega) (by omega),ftV_in (by omega) (by omega),ftF_in (by omega) (by omega),whF_in (by omega),whF_in (by omega)]
  rfl
end Go.Ax
end
section
/-
  Made polygons are convex.
-/
set_option maxHeartbeats 4000000
set_option maxRecDepth 100000
namespace Go.Ax
open Go.Proofs
theorem mul_ge {M T:Int} (hM:64 ≤ M) (hT:64 ≤ T):64 * M ≤ M * T ∧ 64 * T ≤ M * T:=by
 have h1:M * 64 ≤ M * T:=Int.mul_le_mul_of_nonneg_left hT (by omega)
 have h2:64 * T ≤ M * T:=Int.mul_le_mul_of_nonneg_right hM (by omega)
 omega
theorem tri_cvx {M T:Int} (hM:64 ≤ M) (hT:64 ≤ T) {X Y:Nat → Int} (x0:X 0 = -M) (x1:X 1 = M) (x2:X 2 = 0) (y0:Y 0 = -T) (y1:Y 1 = -T) (y2:Y 2 = T):cvxS 3 X Y = true:=by
 obtain ⟨p1,p2⟩:=mul_ge hM hT
 unfold cvxS
 refine decide_eq_true fun i hi => ?_
 match i,hi with
 | 0,_ =>
  rw [show nxt 3 0 = 1 from rfl,show nxt2 3 0 = 2 from rfl,x0,x1,x2,y0,y1,y2]
  refine ⟨?_,fun j hj k1 k2 => ?_⟩
  ·simp only [Int.sub_mul,Int.mul_sub,Int.add_mul,Int.mul_add,Int.neg_mul,Int.mul_neg,Int.zero_mul,Int.mul_zero,Int.mul_comm T M,Int.neg_neg,ab]
   (repeat' split) <;> omega
  ·match j,hj,k1,k2 with
   | 0,_,k1,k2 => exact absurd rfl k1
   | 1,_,k1,k2 => exact absurd rfl k2
   | 2,_,_,_ =>
    rw [x2,y2]
    simp only [Int.sub_mul,Int.mul_sub,Int.add_mul,Int.mul_add,Int.neg_mul,Int.mul_neg,Int.zero_mul,Int.mul_zero,Int.mul_comm T M,Int.neg_neg,ab]
    omega
   | j + 3,h,_,_ => omega
 | 1,_ =>
  rw [show nxt 3 1 = 2 from rfl,show nxt2 3 1 = 0 from rfl,x0,x1,x2,y0,y1,y2]
  refine ⟨?_,fun j hj k1 k2 => ?_⟩
  ·simp only [Int.sub_mul,Int.mul_sub,Int.add_mul,Int.mul_add,Int.neg_mul,Int.mul_neg,Int.zero_mul,Int.mul_zero,Int.mul_comm T M,Int.neg_neg,ab]
   (repeat' split) <;> omega
  ·match j,hj,k1,k2 with
   | 0,_,_,_ =>
    rw [x0,y0]
    simp only [Int.sub_mul,Int.mul_sub,Int.add_mul,Int.mul_add,Int.neg_mul,Int.mul_neg,Int.zero_mul,Int.mul_zero,Int.mul_comm T M,Int.neg_neg,ab]
    omega
   | 1,_,k1,k2 => exact absurd rfl k1
   | 2,_,k1,k2 => exact absurd rfl k2
   | j + 3,h,_,_ => omega
 | 2,_ =>
  rw [show nxt 3 2 = 0 from rfl,show nxt2 3 2 = 1 from rfl,x0,x1,x2,y0,y1,y2]
  refine ⟨?_,fun j hj k1 k2 => ?_⟩
  ·simp only [Int.sub_mul,Int.mul_sub,Int.add_mul,Int.mul_add,Int.neg_mul,Int.mul_neg,Int.zero_mul,Int.mul_zero,Int.mul_comm T M,Int.neg_neg,ab]
   (repeat' split) <;> omega
  ·match j,hj,k1,k2 with
   | 0,_,k1,k2 => exact absurd rfl k2
   | 1,_,_,_ =>
    rw [x1,y1]
    simp only [Int.sub_mul,Int.mul_sub,Int.add_mul,Int.mul_add,Int.neg_mul,Int.mul_neg,Int.zero_mul,Int.mul_zero,Int.mul_comm T M,Int.neg_neg,ab]
    omega
   | 2,_,k1,k2 => exact absurd rfl k1
   | j + 3,h,_,_ => omega
 | i + 3,h => omega
end Go.Ax
end