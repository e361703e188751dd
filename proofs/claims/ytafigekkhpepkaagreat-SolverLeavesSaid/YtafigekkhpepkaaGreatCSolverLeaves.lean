/-
  SolverLeaves: its body.
-/
import Derived.Test.YtafigekkhpepkaaGreatCM11
import Derived.Test.YtafigekkhpepkaaGreatRows
import Derived.WalkKit
import Derived.ProofKit
set_option linter.unusedVariables false
set_option linter.unusedSimpArgs false
section
set_option maxHeartbeats 4000000
set_option maxRecDepth 100000
namespace Go.Ax
open Go.Proofs
def thK (t:Th) (k:Int):Th:={ t with k:=k }
theorem mk_side {t:Th} {x n:V2} (hx:gd x.1 201326592000 ∧ gd x.2 201326592000) (hn:gd n.1 4294967296 ∧ gd n.2 4294967296):(∃ u1 u2 k,side (mkT (thK t (modS t.k 2)) 12) x n u1 u2 k) ∧ calm (mkT (thK t (modS t.k 2)) 12):=by
 have hm:=modS_bd (n:=t.k) (m:=2) (by omega)
 have e:mkT (thK t (modS t.k 2)) 12 = _:=mkB_eq (a:=t.a) (b:=t.b) (c:=t.c) (x:=t.x) (y:=t.y) (u:=t.u) (p:=t.p) (q:=t.q) (r:=t.r) (d:=t.d) (k:=modS t.k 2) (s:=12) (by omega)
 rw [e]
 generalize modS t.k 2 = k at *
 have hk:modS k 4 = k:=by
  unfold modS
  rw [Int.tmod_eq_of_lt (by omega) (by omega)]
  split <;> omega
 have p1:=@foAt_bd12 t.x
 have p2:=@foAt_bd12 t.y
 have n1:=@nu_bd t.p 200 (by omega)
 have n2:=@nu_bd t.q 200 (by omega)
 have n3:-257698037760 ≤ t.r.tmod (60 * 4294967296) ∧ t.r.tmod (60 * 4294967296) ≤ 257698037760:=by
  have h1:t.r.tmod (60 * 4294967296) < 60 * 4294967296:=Int.tmod_lt_of_pos t.r (by omega)
  have h2:-(60 * 4294967296) < t.r.tmod (60 * 4294967296):=Int.lt_tmod_of_pos t.r (by omega)
  omega
 have ex:x = ((x.1.1,false),(x.2.1,false)):=Prod.ext (Prod.ext rfl hx.1.1) (Prod.ext rfl hx.2.1)
 have en:n = ((n.1.1,false),(n.2.1,false)):=Prod.ext (Prod.ext rfl hn.1.1) (Prod.ext rfl hn.2.1)
 by_cases h0:k = 0
 ·have e1:mkV t.p t.q k = ((0,false),(0,false)):=if_neg (by omega)
  have e2:mkO t.r k = (0,false):=if_neg (by omega)
  have e3:mkWt t.a t.b t.c t.d k = ((0,false),(0,false)):=if_neg (by rw [hk,h0]; decide)
  refine ⟨side_of (v1:=0) (v2:=0) (w:=0) (p1:=t.x.tmod (12 * 4294967296)) (p2:=t.y.tmod (12 * 4294967296)) (m:=0) (i:=0) e1 e2 rfl ex en (by show (mkWt t.a t.b t.c t.d k).1 = _; rw [e3]) (by show (mkWt t.a t.b t.c t.d k).2 = _; rw [e3]) (by omega) (by omega) (by omega) p1 p2 hx.1.2 hx.2.2 hn.1.2 hn.2.2 (.inr ⟨rfl,rfl,rfl,rfl,rfl⟩),?_⟩
  exact ⟨decide_eq_false (by omega),0,0,0,e1,e2,by omega,by omega,by omega⟩
 ·have h1:k = 1:=by omega
  have e1:mkV t.p t.q k = (nuN t.p 200,nuN t.q 200):=if_pos (by omega)
  have e2:mkO t.r k = nuN t.r 60:=if_pos (by omega)
  obtain ⟨⟨m1,m2,m3⟩,i1,i2,i3⟩:=wg_ok (a:=t.a) (b:=t.b) (c:=t.c) (d:=t.d) (k:=k) (by omega)
  refine ⟨side_of (v1:=(nuN t.p 200).1) (v2:=(nuN t.q 200).1) (w:=t.r.tmod (60 * 4294967296)) (p1:=t.x.tmod (12 * 4294967296)) (p2:=t.y.tmod (12 * 4294967296)) (m:=(mkWt t.a t.b t.c t.d k).1.1) (i:=(mkWt t.a t.b t.c t.d k).2.1) e1 e2 rfl ex en (Prod.ext rfl m1) (Prod.ext rfl i1) (by omega) (by omega) n3 p1 p2 hx.1.2 hx.2.2 hn.1.2 hn.2.2 (.inl ⟨⟨m2,m3⟩,i2,i3⟩),?_⟩
  exact ⟨decide_eq_false (by omega),(nuN t.p 200).1,(nuN t.q 200).1,t.r.tmod (60 * 4294967296),e1,e2,by omega,by omega,n3⟩
def midF (x y r:Int):Prop:=(-6000 ≤ x ∧ x ≤ 6000) ∧ (-6000 ≤ y ∧ y ≤ 6000) ∧ r ≤ 6000
theorem mk_mid {a b c x y u:Int}:midF (plC (mkK a) (mkR a b) (mkH a b b) (mkH a b c) (mkN a) (mkX a b c) (mkY a b c) (foAt x y 12) (foRot u) (foAt x y 12).1) (plC (mkK a) (mkR a b) (mkH a b b) (mkH a b c) (mkN a) (mkX a b c) (mkY a b c) (foAt x y 12) (foRot u) (foAt x y 12).2)
   (plR (mkK a) (mkR a b) (mkH a b b) (mkH a b c) (mkN a) (mkX a b c) (mkY a b c) (foAt x y 12) (foRot u)):=by
 have hp:=@mk_place a b c x y u 12 (by omega)
 have h1:=@foAt_bd12 x
 have h2:=@foAt_bd12 y
 have w1:=@mkW_bd b b
 have q:∀ a:Int,-51539607552 ≤ a ∧ a ≤ 51539607552 → -6000 ≤ spV (a,false) ∧ spV (a,false) ≤ 6000:=fun a h => by
  rw [spV_in (by omega)]
  omega
 unfold midF plC plR
 rw [if_pos hp,if_pos hp,if_pos hp]
 refine ⟨q _ h1,q _ h2,?_⟩
 unfold mkR
 split <;> omega
theorem mk_fB {t:Th} {k:Int}:∃ b,b = mkT (thK t k) 12 ∧ checkS (fK b) (fCx b) (fCy b) (fR b) (fN b) (fX b) (fY b) = 0 ∧ nearF (fK b) (fCx b) (fCy b) (fR b) (fN b) (fX b) (fY b) ∧ midF (fCx b) (fCy b) (fR b):=by
 have e:mkT (thK t k) 12 = _:=mkB_eq (a:=t.a) (b:=t.b) (c:=t.c) (x:=t.x) (y:=t.y) (u:=t.u) (p:=t.p) (q:=t.q) (r:=t.r) (d:=t.d) (k:=k) (s:=12) (by omega)
 exact ⟨_,e.symm,mk_form (by omega),mk_near,mk_mid⟩
theorem box_lo {k x y r:Int} {n:Nat} {X Y:Nat → Int} (hc:checkS k x y r n X Y = 0) (hn:nearF k x y r n X Y) (hm:midF x y r) (q:Nat):-12000 ≤ boxS k x y r n X Y q ∧ boxS k x y r n X Y q ≤ 12000:=by
 have c:=check_1 hc
 obtain ⟨h1,h2,h3,h4,h5⟩:=hn
 obtain ⟨g1,g2,g3⟩:=hm
 by_cases hk:k = 1
 ·obtain ⟨r1,_,_,_⟩:=c.2.2.2.1 hk
  rw [boxS_disc hc hk]
  split <;> omega
 ·have g3:=(convexS_iff.1 (c.2.2.2.2 hk).2.2).1
  rw [boxS_poly hc hk]
  obtain ⟨j1,g1,e1⟩:=mnS_at (Z:=X) (n:=n) (by omega)
  obtain ⟨j2,g2,e2⟩:=mnS_at (Z:=Y) (n:=n) (by omega)
  obtain ⟨j3,g3,e3⟩:=mxS_at (Z:=X) (n:=n) (by omega)
  obtain ⟨j4,g4,e4⟩:=mxS_at (Z:=Y) (n:=n) (by omega)
  have b1:=h4 j1 g1
  have b2:=h4 j2 g2
  have b3:=h4 j3 g3
  have b4:=h4 j4 g4
  unfold bxS
  split <;> omega
theorem hv0 {t v:Th} {k l:Int} {A B:Bd} (hA:mkT (thK t k) 12 = A) (hB:mkT (thK v l) 12 = B) (h:touB A B = true):((cntS A B 0 1).n ≤ 2 ∧ uv (cntS A B 0 1).nv) ∧ ∀ i,i < (cntS A B 0 1).n → gd ((cntS A B 0 1).P i).1 201326592000 ∧ gd ((cntS A B 0 1).P i).2 201326592000:=by
 obtain ⟨b,e1,c1,n1,m1⟩:=@mk_fB t k
 obtain ⟨b',e2,c2,n2,m2⟩:=@mk_fB v l
 rw [hA] at e1
 rw [hB] at e2
 subst e1 e2
 obtain ⟨_,_,hap⟩:=of_decide_eq_true h
 have T:=clip_tok c1 c2 hap n1 n2
 obtain ⟨⟨T1,T2⟩,T3,T4⟩:=T
 refine ⟨⟨T2,T3⟩,fun i hi => ?_⟩
 obtain ⟨_,T5,T6⟩:=T4 i hi
 have l1:=box_lo c1 n1 m1
 have l2:=box_lo c2 n2 m2
 have o0:=l1 0
 have o1:=l1 1
 have o2:=l1 2
 have o3:=l1 3
 have p0:=l2 0
 have p1:=l2 1
 have p2:=l2 2
 have p3:=l2 3
 exact ⟨bt_gd T5 (by omega) (by omega),bt_gd T6 (by omega) (by omega)⟩
theorem vc6 (t v:Th) (ht:inT t) (hv:inT v):fnVC Tryz.prog [(31,c31),(24,kb24),(25,kCntW),(15,c15),(33,kb33),(32,k181),(34,k145),(22,kHitW),(18,kSaW),(21,kSaC)] [(1,⟨[(7,.slot 2),(9,.slot 3)],[]⟩),(10,⟨[(12,.made 11)],[]⟩)] Tryz.f6 [.agg (thC t),.agg (thC v)] (· = bo true):=by
 refine fnVC_go (rs:=[.tmp 4]) rfl rfl ?_
 obtain ⟨a0,a1,a2,a3,a4,a5,a6,a7,a8,a9,a10⟩:=ht
 obtain ⟨b0,b1,b2,b3,b4,b5,b6,b7,b8,b9,b10⟩:=hv
 obtain ⟨A,hA⟩:∃ A,mkT (thK t (modS t.k 2)) 12 = A:=⟨_,rfl⟩
 obtain ⟨B,hB⟩:∃ B,mkT (thK v (modS v.k 2)) 12 = B:=⟨_,rfl⟩
 simp only [thC,go_sem,c31,kb24,kCntW,c15,kb33,k181,k145,kHitW,kSaW,kSaC,boA,cLw_eq,cL_eq,cB_eq,kCnt,kHit,mkT_eq,contD_C,hA,hB,a0,a1,a2,a3,a4,a5,a6,a7,a8,a9,a10,b0,b1,b2,b3,b4,b5,b6,b7,b8,b9,b10]
 intro z hz z1 hz1
 have eA:mkB t.a t.b t.c t.x t.y t.u t.p t.q t.r t.d z 12 = A:=by rw [hz,← hA]; rfl
 have eB:mkB v.a v.b v.c v.x v.y v.u v.p v.q v.r v.d z1 12 = B:=by rw [hz1,← hB]; rfl
 rw [eA,eB]
 have iA:inB A:=hA ▸ mkT_in (by omega)
 have iB:inB B:=hB ▸ mkT_in (by omega)
 have nA:A.n ≤ 1000:=hA ▸ mkT_n (by omega)
 have nB:B.n ≤ 1000:=hB ▸ mkT_n (by omega)
 have j1:=modS_bd (n:=t.k) (m:=2) (by omega)
 have j2:=modS_bd (n:=v.k) (m:=2) (by omega)
 refine ⟨by rw [hz]; unfold inR; omega,by rw [hz1]; unfold inR; omega,fun z2 hz2 => ⟨⟨⟨iA,nA⟩,iB,nB⟩,fun _ _ => trivial,fun hg => ?_⟩⟩
 have hz':inR 0:=by unfold inR; decide
 obtain ⟨q1,q2⟩:=@cnt_in A B 0 1 hz' (by unfold inR; decide)
 have ht:touB A B = true:=by rw [← hz2]; exact hg
 obtain ⟨⟨_,hu⟩,hP⟩:=hv0 (t:=t) (v:=v) hA hB ht
 obtain ⟨c,hc⟩:∃ c,cntS A B 0 1 = c:=⟨_,rfl⟩
 have cz:c.p0 = (0,false) ∧ c.p1 = (0,false) ∧ c.r0 = (0,false) ∧ c.r1 = (0,false) ∧ c.a = 0 ∧ c.b = 1:=by rw [← hc]; exact ⟨rfl,rfl,rfl,rfl,rfl,rfl⟩
 rw [hc] at q1 q2 hu hP ⊢
 obtain ⟨c1,c2,c3,c4,c5,c6,c7,c8,c9⟩:=id q1
 refine loopC_go (fun (i:Nat) => (i ≤ 2 ∧ i ≤ c.n) ∧ ∀ j,j < i → 0 ≤ (vDot (vSub (spdS B (c.P j)) (spdS A (c.P j))) c.nv).1) (fun i => 2 - i) (fun i => [(8,i64 (i:Int))]) (fun _ => []) [24] [34,35,36,37,38,39,42,43,44,45,46,47,48,9,49,50,51,52,53,54,55,56,57,58,59,10,60,61,62,63,64,65,66,67,4,40,41,8] 0 (by kernel_rfl) ?_ ⟨⟨by omega,by omega⟩,fun j hj => absurd hj (by omega)⟩ ?_ ?_
 ·intro x _; simp [goodNames,asg]
 ·simp only [go_sem]
 intro i hi
 simp only [drop6_cont,drop2_cont,go_sem,c31,kb24,kCntW,c15,kb33,k181,k145,kHitW,kSaW,kSaC,cLw_eq,cL_eq,cB_eq,kHit,contD_C,tchs_at,tchC,iA,iB,nA,nB,c3,c4]
 refine ⟨fun hin => ?_,fun hin => ?_⟩
 ·have hlt:i < c.n:=by omega
  obtain ⟨t1,t2,t3⟩:=c5 i hlt
  refine ⟨by omega,hin,t1,t2,t1,t2,fun _ _ => trivial,fun hnn w hw => ⟨i + 1,⟨⟨by omega,by omega⟩,fun j hj => ?_⟩,by omega,by rw [hw,wrap_in (by unfold inR; omega)]; rfl⟩⟩
  by_cases e:j = i
  ·rw [e]; omega
  ·exact hi.2 j (by omega)
 ·have en:i = c.n:=by omega
  have hR:∀ j,j < c.n → hitR A B (c.P j) c.nv (0,false) (0,false) = ⟨A,B,(0,false),(0,false)⟩:=fun j hj => by
   have hn:=uv_gd hu
   have hn2:gd (vPerp c.nv).1 4294967296 ∧ gd (vPerp c.nv).2 4294967296:=by
    obtain ⟨⟨f1,g1⟩,f2,g2⟩:=id hn
    have en:c.nv = ((c.nv.1.1,false),(c.nv.2.1,false)):=Prod.ext (Prod.ext rfl f1) (Prod.ext rfl f2)
    rw [en]
    unfold vPerp
    dsimp only
    rw [negN_eq (by omega),nwh_eq (by omega)]
    exact ⟨⟨rfl,by dsimp only; omega⟩,rfl,by dsimp only; omega⟩
   have sA:=mk_side (t:=t) (hP j hj) hn
   have sB:=mk_side (t:=v) (hP j hj) hn
   have sA2:=mk_side (t:=t) (hP j hj) hn2
   have sB2:=mk_side (t:=v) (hP j hj) hn2
   rw [hA] at sA sA2
   rw [hB] at sB sB2
   obtain ⟨⟨x1,x2,x3,x4⟩,ca⟩:=sA
   obtain ⟨⟨y1,y2,y3,y4⟩,cb⟩:=sB
   obtain ⟨⟨u1,u2,u3,u4⟩,_⟩:=sA2
   obtain ⟨⟨w1,w2,w3,w4⟩,_⟩:=sB2
   exact hitR_leave ca cb hn ⟨_,_,_,_,_,_,x4,y4⟩ ⟨_,_,_,_,_,_,u4,w4⟩ (hi.2 j (by omega))
  obtain ⟨z1',z2',z3',z4',z5',z6'⟩:=cz
  have h0:0 < c.n → hit0 A B c = ⟨A,B,c⟩:=fun h => by
   unfold hit0
   rw [z1',z3',hR 0 h]
   have:({ c with p0:=(0,false),r0:=(0,false) }:Ct) = c:=by
    cases c
    dsimp only at z1' z3'
    subst z1' z3'
    rfl
   rw [this]
  have h1:1 < c.n → hit1 A B c = ⟨A,B,c⟩:=fun h => by
   unfold hit1
   rw [z2',z4',hR 1 h]
   have:({ c with p1:=(0,false),r1:=(0,false) }:Ct) = c:=by
    cases c
    dsimp only at z2' z4'
    subst z2' z4'
    rfl
   rw [this]
  have hS:hitS A B c = ⟨A,B,c⟩:=by
   unfold hitS
   rw [Nat.min_eq_right q2]
   rcases (show c.n = 0 ∨ c.n = 1 ∨ c.n = 2 by omega) with e | e | e
   ·rw [e]; rfl
   ·rw [e]; exact h0 (by omega)
   ·rw [e]
    show hit1 (hit0 A B c).a (hit0 A B c).b (hit0 A B c).c = _
    rw [h0 (by omega)]
    exact h1 (by omega)
  have eC:hitC 2 (bsD (ros2 A B)) c = c:=by
   unfold hitC
   split
   ·rw [z5',z6']
    show (hitS A B c).c = c
    rw [hS]
   ·rfl
  have eT:∀ j,j < 2 → hitT 2 (bsD (ros2 A B)) c j = bsD (ros2 A B) j:=fun j hj => by
   rw [hitT_ap]
   split
   ·rw [z5',z6']
    show (if j = 1 then (hitS A B c).b else if j = 0 then (hitS A B c).a else bsD (ros2 A B) j) = _
    rw [hS]
    rcases (show j = 0 ∨ j = 1 by omega) with e | e <;> subst e <;> rfl
   ·rfl
  have hB2:inBs 2 (bsD (ros2 A B)):=by rw [inBs_r2]; exact ⟨⟨iA,nA⟩,iB,nB⟩
  have hok:∀ i,i < 2 → ros2 A B i = bodyC (bsD (ros2 A B) i):=of_eq_true ros2_ok
  rw [eC]
  refine ⟨q1,by omega,fun z hz => ⟨fun j hj => by rw [eT j hj]; exact hok j hj,fun _ _ => trivial,fun j hj => by rw [eT j hj]; exact hB2 j hj,fun z_1 hz1 => ⟨fun _ => trivial,fun _ => by omega,fun _ => rfl,fun z_2 hz2 => ⟨⟨hz,hz1⟩,hz2⟩⟩⟩⟩
end Go.Ax
end
section
/-
  What is proved: for every input bagatellelaw05.SolverLeaves returns true, and the input reads ars it did. No further condition.
-/
namespace Go.Proofs.YtafigekkhpepkaaGreat.solverLeavesDone
open Go.ChangeShapes Go.WideShapes Go.ChangeAt Go.RowKit Go.Ax
theorem own:ownKnob Tryz.prog.godebug = none:=by kernel_rfl
theorem ctx:CtxOK Tryz.prog [(31,c31),(24,kb24),(25,kCntW),(15,c15),(33,kb33),(32,k181),(34,k145),(22,kHitW),(18,kSaW),(21,kSaC)]:=
 (.cons con31 (.cons con24 (.cons con25w (.cons con15 (.cons konb33 (.cons kon181 (.cons kon145 (.cons con22w (.cons con18w (.cons con21 .nil))))))))))
set_option maxRecDepth 100000 in
theorem walk {w:World} {avs:List AV} {vs:List Value} (h:fitVs [.agg [.int .i64,.int .i64,.int .i64,.int .i64,.int .i64,.int .i64,.int .i64,.int .i64,.int .i64,.int .i64,.int .i64],.agg [.int .i64,.int .i64,.int .i64,.int .i64,.int .i64,.int .i64,.int .i64,.int .i64,.int .i64,.int .i64,.int .i64]] avs) (hR:Rs w (.ext (All w)) avs vs) :
  Calls Tryz.prog 6 vs.toArray w fun e w' => e = .returned (.bool true) ∧ Below w.heap.size w w':=by
 obtain ⟨_,_,rfl,⟨_,rfl,⟨_,_,rfl,⟨a_1,rfl,ja_1⟩,_,_,rfl,⟨b_1,rfl,jb_1⟩,_,_,rfl,⟨c_1,rfl,jc_1⟩,_,_,rfl,⟨x_1,rfl,jx_1⟩,_,_,rfl,⟨y_1,rfl,jy_1⟩,_,_,rfl,⟨u_1,rfl,ju_1⟩,_,_,rfl,⟨p_1,rfl,jp_1⟩,_,_,rfl,⟨q_1,rfl,jq_1⟩,_,_,rfl,⟨r_1,rfl,jr_1⟩,_,_,rfl,⟨d_1,rfl,jd_1⟩,_,_,rfl,⟨k_1,rfl,jk_1⟩,rfl⟩⟩,_,_,rfl,⟨_,rfl,⟨_,_,rfl,⟨a_2,rfl,ja_2⟩,_,_,rfl,⟨b_2,rfl,jb_2⟩,_,_,rfl,⟨c_2,rfl,jc_2⟩,_,_,rfl,⟨x_2,rfl,jx_2⟩,_,_,rfl,⟨y_2,rfl,jy_2⟩,_,_,rfl,⟨u_2,rfl,ju_2⟩,_,_,rfl,⟨p_2,rfl,jp_2⟩,_,_,rfl,⟨q_2,rfl,jq_2⟩,_,_,rfl,⟨r_2,rfl,jr_2⟩,_,_,rfl,⟨d_2,rfl,jd_2⟩,_,_,rfl,⟨k_2,rfl,jk_2⟩,rfl⟩⟩,rfl⟩:=h
 obtain ⟨_,k2⟩:=fn_sound ctx Tryz.func6 (by kernel_rfl) (vc6 ⟨a_1,b_1,c_1,x_1,y_1,u_1,p_1,q_1,r_1,d_1,k_1⟩ ⟨a_2,b_2,c_2,x_2,y_2,u_2,p_2,q_2,r_2,d_2,k_2⟩ ⟨wf_i64 ja_1,wf_i64 jb_1,wf_i64 jc_1,wf_i64 jx_1,wf_i64 jy_1,wf_i64 ju_1,wf_i64 jp_1,wf_i64 jq_1,wf_i64 jr_1,wf_i64 jd_1,wf_i64 jk_1⟩ ⟨wf_i64 ja_2,wf_i64 jb_2,wf_i64 jc_2,wf_i64 jx_2,wf_i64 jy_2,wf_i64 ju_2,wf_i64 jp_2,wf_i64 jq_2,wf_i64 jr_2,wf_i64 jd_2,wf_i64 jk_2⟩) (All w) w vs (fun _ h => h) hR
 refine k2.mono fun e w' ⟨v,he,⟨r,hr,hv⟩,hb⟩ => ?_
 subst hr
 cases hv
 exact ⟨he,hb⟩
set_option maxRecDepth 100000 in
theorem lifted (os:Os) (started:os.Started) (H:Type) (enc:TypeId × Value → H) :
  ReturnsInHanded {} Tryz.checked os 6 .any (Rows.solverLeavesSpec.pre6 enc Tryz.prog Tryz.f6 Rows.solverLeavesRow.domain false) (Rows.solverLeavesSpec.post enc Tryz.prog Tryz.f6 false true false false):=by
 refine returnsInHanded_of_change (C:=Tryz.checked) own started (by kernel_rfl) Tryz.func6
  (ChangeSpec.witness6 (enc:=enc) (C:=Tryz.checked) false ⟨#[],#[.agg #[.int .i64 0,.int .i64 0,.int .i64 0,.int .i64 0,.int .i64 0,.int .i64 0,.int .i64 0,.int .i64 0,.int .i64 0,.int .i64 0,.int .i64 0],.agg #[.int .i64 0,.int .i64 0,.int .i64 0,.int .i64 0,.int .i64 0,.int .i64 0,.int .i64 0,.int .i64 0,.int .i64 0,.int .i64 0,.int .i64 0]],[]⟩ 8 (by kernel_rfl) (by kernel_rfl) (by kernel_rfl) (by kernel_rfl)) ?_
 intro W base args ds gs before hval hW hcnd _
 have hW':=hW
 obtain ⟨p,q,hA,hV,rfl,hfz,hnd⟩:=hW
 obtain ⟨rfl,rfl⟩:=trodVars_none hV
 have hA':=hA
 rw [Tryz.params6] at hA hval
 obtain ⟨avs,w1,w2⟩:=args_read (P:=Tryz.prog) (ss:=[.agg [.int .i64,.int .i64,.int .i64,.int .i64,.int .i64,.int .i64,.int .i64,.int .i64,.int .i64,.int .i64,.int .i64],.agg [.int .i64,.int .i64,.int .i64,.int .i64,.int .i64,.int .i64,.int .i64,.int .i64,.int .i64,.int .i64,.int .i64]]) (by kernel_rfl) (fun j t v hj hv => hval j t v (by simpa using hj) (by simpa using hv)) hA
 obtain ⟨v0,vs0,d0,ds0,p0,q0,hargs,rfl,rfl,h0,r0⟩:=trodAll_cons hA
 obtain ⟨v1,vs1,d1,ds1,p1,q1,rfl,rfl,rfl,h1,r1⟩:=trodAll_cons r0
 obtain ⟨rfl,rfl,rfl⟩:=trodAll_nil r1
 have hw:=walk w1 w2
 rw [show args.toList.toArray = args by simp] at hw
 refine hw.mono fun e W' ⟨he,bel⟩ => ?_
 subst he
 obtain ⟨ps,hst⟩:=args_stay laidOut bel (by kernel_rfl) hA'
 exact ⟨_,rfl,_,_,_,[],_,[],hW',trodAll_mk1 (shut_bool Tryz.underlying4 _),hst,rfl,bel.frame _,fun h => by cases h⟩
theorem func:Tryz.pinned.checked.prog.funcNamed Rows.solverLeavesRow.func = some 6:=by kernel_rfl
theorem four:((Rows.solverLeavesRow.inPlace == Tryz.prog.inPlace 6) = true) ∧ ((Rows.solverLeavesRow.unfollowed == Tryz.prog.unfollowed 6) = true) ∧ ((Rows.solverLeavesRow.recurses == Tryz.prog.recurses 6) = true) ∧ ((Rows.solverLeavesRow.named == Tryz.prog.varsNamed 6) = true):=by
 have h:((Rows.solverLeavesRow.inPlace == Tryz.prog.inPlace 6) && ((Rows.solverLeavesRow.unfollowed == Tryz.prog.unfollowed 6) && ((Rows.solverLeavesRow.recurses == Tryz.prog.recurses 6) && (Rows.solverLeavesRow.named == Tryz.prog.varsNamed 6)))) = true:=by kernel_rfl
 simpa only [Bool.and_eq_true] using h
theorem facts:joinedFacts Tryz.prog 6 Tryz.f6 Rows.solverLeavesSpec Rows.solverLeavesRow = true:=
 andT (andT (andT (andT (andT (andT (andT (andT (andT (andT (andT (andT (andT (andT (andT (andT (andT (andT (andT (andT (andT (andT (andT (andT (andT (andT (andT (andT (andT (andT (andT (by kernel_rfl) laidOut) fRowed) (by kernel_rfl)) (by kernel_rfl)) (by kernel_rfl)) fStops) (by kernel_rfl)) fStopK) four.1) four.2.1) four.2.2.1) four.2.2.2) (by kernel_rfl)) (by kernel_rfl)) (by kernel_rfl)) (by kernel_rfl)) (by kernel_rfl)) (by kernel_rfl)) (by kernel_rfl)) (by kernel_rfl)) (by kernel_rfl)) fPlain) (by kernel_rfl)) fHeard) fMay) fLift) fMake) (by kernel_rfl)) (by kernel_rfl)) (by kernel_rfl)) (by kernel_rfl)
theorem over:Rows.solverLeavesRow.holds Tryz.pinned (OpenSpec.ofChange Rows.solverLeavesSpec):=
 OpenClaim.holds_of_wide 6 Tryz.f6 rfl rfl rfl rfl rfl rfl rfl ⟨rfl,rfl,rfl,rfl,rfl⟩ rfl rfl rfl rfl rfl func Tryz.func6 facts
  (of_decide_eq_true (by kernel_rfl)) (by unfold Func.isWrapper; first | (rw [if_pos (by decide +kernel)]; kernel_rfl) | (rw [if_neg (by decide +kernel)]; exact ⟨rfl,rfl⟩))
  (fun os started H enc _ => lifted os started H enc)
theorem proved:Rows.SolverLeavesSaid:=over
#print axioms proved
end Go.Proofs.YtafigekkhpepkaaGreat.solverLeavesDone
end