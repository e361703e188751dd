/-
  SolverBalance: its body.
-/
import Derived.Test.YtafigekkhpepkaaGreatCM12
import Derived.Test.YtafigekkhpepkaaGreatRows
import Derived.WalkKit
import Derived.ProofKit
set_option linter.unusedVariables false
set_option linter.unusedSimpArgs false
section
set_option maxHeartbeats 4000000
set_option maxRecDepth 100000
namespace Go.Ax
open Go.Proofs
def wX (b:Bd) (x:Nb):Bd:={ b with v:=(x,b.v.2) }
def wY (b:Bd) (x:Nb):Bd:={ b with v:=(b.v.1,x) }
def wW (b:Bd) (x:Int):Bd:={ b with w:=(x,b.w.2) }
section
variable {b:Bd} {x:Int} {e:Bool} {y:Nb}
theorem ld13:ofC (some (false,1)) (List.drop 13 (bodyC b)) = some (i64 b.v.1.1):=(rfl)
theorem ld15:ofC (some (false,1)) (List.drop 15 (bodyC b)) = some (i64 b.v.2.1):=(rfl)
theorem ld17:ofC (some (false,1)) (List.drop 17 (bodyC b)) = some (i64 b.w.1):=(rfl)
theorem st13:List.take 13 (bodyC b) ++ [i64 x,bo e] ++ List.drop 15 (bodyC b) = bodyC (wX b (x,e)):=(rfl)
theorem st15:List.take 15 (bodyC b) ++ [i64 x,bo e] ++ List.drop 17 (bodyC b) = bodyC (wY b (x,e)):=(rfl)
theorem st17:List.take 17 (bodyC b) ++ [i64 x] ++ List.drop 18 (bodyC b) = bodyC (wW b x):=(rfl)
theorem wX_v2:(wX b y).v.2.1 = b.v.2.1:=(rfl)
theorem wX_w:(wX b y).w.1 = b.w.1:=(rfl)
theorem wY_w:(wY b y).w.1 = b.w.1:=(rfl)
end
theorem wXYW {b:Bd}:wW (wY (wX b (b.v.1.1.tmod 8589934592,false)) (b.v.2.1.tmod 8589934592,false)) (b.w.1.tmod 2147483648) = calB b:=(rfl)
theorem cleanCs_r2 {b c:Bd} {q:Nat} (h:q < 2):cleanCs (ros2 b c q) = true:=by
 match q,h with
 | 0,_ => rfl
 | 1,_ => rfl
def rowG10 (A B:Bd):Nat→Nat→List AV
 | 0 => ros2 A B
 | 1 => ros2 (calB A) B
 | _ + 2 => ros2 (calB A) (calB B)
theorem vc10 (t v:Th) (n:Int) (ht:inT t) (hv:inT v) (hn:inR n):cutVC Tryz.prog [(24,kb24),(53,c53),(54,kTwoV),(25,kCntW),(22,kHitW),(19,kParW),(48,kt48),(55,kw55),(49,kBndW),(56,kSlowV),(15,c15)] [(2,⟨[(13,.slot 4),(16,.slot 4),(19,.slot 4),(21,.slot 4)],[(5,[.slot 4]),(8,[.slot 4]),(10,[.slot 4])]⟩),(7,⟨[(23,.slot 7),(27,.slot 7)],[]⟩),(9,⟨[(22,.made 20),(23,.made 21)],[]⟩)] [(2,⟨[(13,.slot 4),(16,.slot 4),(19,.slot 4),(21,.slot 4)],[(5,[.slot 4]),(8,[.slot 4]),(10,[.slot 4])]⟩),(7,⟨[(23,.slot 7),(27,.slot 7)],[]⟩),(9,⟨[(22,.made 20),(23,.made 21)],[]⟩)] Tryz.f10 [.tmp 6] 5 [.agg (thC t),.agg (thC v),i64 n] (· = bo true):=by
 refine cutVC_go rfl rfl (by kernel_rfl) (by simp only [unseq_seq,unseq_zero,fold_cons,fold_nil]; rfl) (y:=(unseq 5 (Tryz.f10.body.getD .skip)).2) (by kernel_rfl) ?_
 obtain ⟨a0,a1,a2,a3,a4,a5,a6,a7,a8,a9,a10⟩:=ht
 obtain ⟨b0,b1,b2,b3,b4,b5,b6,b7,b8,b9,b10⟩:=hv
 have i1:inR 1:=by unfold inR; omega
 simp only [thC,go_sem,kb24,c53,kTwoV,kCntW,kHitW,kParW,kt48,kw55,kBndW,kSlowV,c15,cutK_ret,cutK_normal,endR_ret,boA,a0,a1,a2,a3,a4,a5,a6,a7,a8,a9,a10,b0,b1,b2,b3,b4,b5,b6,b7,b8,b9,b10,i1]
 obtain ⟨A,hA⟩:∃ A,mkB t.a t.b t.c t.x t.y t.u t.p t.q t.r t.d 1 12 = A:=⟨_,rfl⟩
 obtain ⟨B,hB⟩:∃ B,mkB t.a t.b t.c v.x v.y v.u v.p v.q v.r t.d 1 12 = B:=⟨_,rfl⟩
 rw [hA,hB]
 refine loopN_go (fun (i:Nat) => i≤2) (fun i => 2 - i) (fun i => [(8,i64 i)]) (fun i => [(33,famN 2 27 57 (rowG10 A B i) none)]) [] [44,45,48,49,50,51,52,53,54,55,56,57,58,59,60,61,62,63,64,65,66,67,68,69,70,71,72,73,74,75,76,77,78,79,80,81,82,83,84,85,46,47,8] 0 0 (by kernel_rfl) (Nat.zero_le _) ⟨[],?_,?_,?_,?_⟩ ?_
 ·simp only [go_sem,Int.cast_ofNat_Int]
 ·simp only [go_sem]
  intro q hq
  exact fitL_clean (cleanCs_r2 hq)
 ·simp only [go_sem]
 ·simp [goodNames,asg]
 intro i hi
 have iA:inB A∧A.n≤1000:=by rw [← hA]; exact ⟨mkB_in (by omega),mkB_n (by omega)⟩
 have iB:inB B∧B.n≤1000:=by rw [← hB]; exact ⟨mkB_in (by omega),mkB_n (by omega)⟩
 have vin:∀ b:Bd,inB b→inR b.v.1.1∧inR b.v.2.1∧inR b.w.1:=fun b h => by
  obtain ⟨p1,p2,p3,p4,p5,p6,p7,p8,p9,p10,p11,p12,p13,p14,p15,p16⟩:=h
  exact ⟨p10,p11,p12⟩
 have jA:=vin A iA.1
 have jB:=vin B iB.1
 rcases (show i = 0∨i = 1∨i = 2 by omega) with rfl | rfl | rfl
 ·have e:rowG10 A B 0 = ros2 A B:=rfl
  have e2:(2:Int) * 4294967296 = 8589934592:=rfl
  simp only [go_sem,kb24,c53,kTwoV,kCntW,kHitW,kParW,kt48,kw55,kBndW,kSlowV,c15,↓forall_eq,e,e2,jA,jB,ld13,ld15,ld17,st13,st15,st17,wX_v2,wX_w,wY_w,wXYW]
  refine ⟨fun _ => ⟨1,by omega,by omega,[],by rw [wrap_in (by unfold inR; omega)]; rfl,?_,by simp [goodNames,asg]⟩,fun h => (by cases h)⟩
  simp only [go_sem]
  intro q hq
  match q,hq with
  | 0,_ => exact fitL_clean rfl
  | 1,_ => exact fitL_clean rfl
 ·have e:rowG10 A B 1 = ros2 (calB A) B:=rfl
  have e2:(2:Int) * 4294967296 = 8589934592:=rfl
  simp only [go_sem,kb24,c53,kTwoV,kCntW,kHitW,kParW,kt48,kw55,kBndW,kSlowV,c15,↓forall_eq,e,e2,jA,jB,ld13,ld15,ld17,st13,st15,st17,wX_v2,wX_w,wY_w,wXYW]
  refine ⟨fun _ => ⟨2,by omega,by omega,[],by rw [wrap_in (by unfold inR; omega)]; rfl,?_,by simp [goodNames,asg]⟩,fun h => (by cases h)⟩
  simp only [go_sem]
  intro q hq
  match q,hq with
  | 0,_ => exact fitL_clean rfl
  | 1,_ => exact fitL_clean rfl
 ·have e:rowG10 A B 2 = ros2 (calB A) (calB B):=rfl
  simp only [go_sem,kb24,c53,kTwoV,kCntW,kHitW,kParW,kt48,kw55,kBndW,kSlowV,c15,↓forall_eq,e,cutK_normal]
  refine ⟨fun h => (by cases h),fun _ => ⟨[(7,.ro 2 27 (ros2 (calB A) (calB B))),(2,i64 n)],fun p hp => ?_,?_⟩⟩
  ·simp only [List.mem_cons,List.not_mem_nil,or_false] at hp
   rcases hp with rfl | rfl
   ·simp only [go_sem]
   ·simp only [go_sem]
  ·obtain ⟨v1,v2,w,p1,p2,A1⟩:=mk_bal (t:=thK t 1) rfl
   obtain ⟨u1,u2,w',q1,q2,B1⟩:=mk_bal (t:=tB t v) rfl
   have hw:=mk_wt1 (t:=t)
   have eA:mkT (thK t 1) 12 = A:=hA
   have eB:mkT (tB t v) 12 = B:=hB
   have eB2:mkT (thK (tB t v) 1) 12 = B:=hB
   rw [eA] at A1
   rw [eB] at B1
   refine vb_end ⟨cal_in iA.1,iA.2⟩ ⟨cal_in iB.1,iB.2⟩ hn (fun h => ?_) (fun h => ?_) (fun r0 r1 => rod_same hw (by omega) (by omega) A1 B1 r0 r1) (fun r0 r1 => pin_same hw (by omega) (by omega) A1 B1 r0 r1)
   ·obtain ⟨⟨n1,n2,hu⟩,hD⟩:=hvD (t:=t) (v:=tB t v) (k:=1) (l:=1) eA eB2 h
    exact hit_same hw A1 B1 n2 hu (fun j hj => (hD j hj).2) ⟨rfl,rfl,rfl,rfl⟩ ⟨rfl,rfl⟩
   ·obtain ⟨⟨n1,n2,hu⟩,hD⟩:=hvD (t:=t) (v:=tB t v) (k:=1) (l:=1) eA eB2 h
    exact par_same hw A1 B1 (by show (cntS A B 0 1).n≠0; omega) hu (fun j hj => (hD j hj).1) ⟨rfl,rfl⟩
end Go.Ax
end
section
namespace Go.Proofs.YtafigekkhpepkaaGreat.solverBalanceDone
open Go.ChangeShapes Go.WideShapes Go.ChangeAt Go.RowKit Go.Ax
theorem own:ownKnob Tryz.prog.godebug = none:=by kernel_rfl
theorem ctx:CtxOK Tryz.prog [(24,kb24),(53,c53),(54,kTwoV),(25,kCntW),(22,kHitW),(19,kParW),(48,kt48),(55,kw55),(49,kBndW),(56,kSlowV),(15,c15)]:=
 (.cons con24 (.cons con53 (.cons konTwoV (.cons con25w (.cons con22w (.cons con19w (.cons kont48 (.cons konw55 (.cons con49w (.cons konSlowV (.cons con15 .nil)))))))))))
set_option maxRecDepth 100000 in
theorem walk {w:World} {avs:List AV} {vs:List Value} (h:fitVs [.agg [.int .i64,.int .i64,.int .i64,.int .i64,.int .i64,.int .i64,.int .i64,.int .i64,.int .i64,.int .i64,.int .i64],.agg [.int .i64,.int .i64,.int .i64,.int .i64,.int .i64,.int .i64,.int .i64,.int .i64,.int .i64,.int .i64,.int .i64],.int .i64] avs) (hR:Rs w (.ext (All w)) avs vs) :
  Calls Tryz.prog 10 vs.toArray w fun e w' => e = .returned (.bool true)∧Below w.heap.size w w':=by
 obtain ⟨_,_,rfl,⟨_,rfl,⟨_,_,rfl,⟨a_1,rfl,ja_1⟩,_,_,rfl,⟨b_1,rfl,jb_1⟩,_,_,rfl,⟨c_1,rfl,jc_1⟩,_,_,rfl,⟨x_1,rfl,jx_1⟩,_,_,rfl,⟨y_1,rfl,jy_1⟩,_,_,rfl,⟨u_1,rfl,ju_1⟩,_,_,rfl,⟨p_1,rfl,jp_1⟩,_,_,rfl,⟨q_1,rfl,jq_1⟩,_,_,rfl,⟨r_1,rfl,jr_1⟩,_,_,rfl,⟨d_1,rfl,jd_1⟩,_,_,rfl,⟨k_1,rfl,jk_1⟩,rfl⟩⟩,_,_,rfl,⟨_,rfl,⟨_,_,rfl,⟨a_2,rfl,ja_2⟩,_,_,rfl,⟨b_2,rfl,jb_2⟩,_,_,rfl,⟨c_2,rfl,jc_2⟩,_,_,rfl,⟨x_2,rfl,jx_2⟩,_,_,rfl,⟨y_2,rfl,jy_2⟩,_,_,rfl,⟨u_2,rfl,ju_2⟩,_,_,rfl,⟨p_2,rfl,jp_2⟩,_,_,rfl,⟨q_2,rfl,jq_2⟩,_,_,rfl,⟨r_2,rfl,jr_2⟩,_,_,rfl,⟨d_2,rfl,jd_2⟩,_,_,rfl,⟨k_2,rfl,jk_2⟩,rfl⟩⟩,_,_,rfl,⟨n,rfl,jn⟩,rfl⟩:=h
 obtain ⟨_,k2⟩:=fn_cut (Kf:=(· = bo true)) ctx Tryz.func10 5 rfl (fun r h => by subst h; rfl) (vc10 ⟨a_1,b_1,c_1,x_1,y_1,u_1,p_1,q_1,r_1,d_1,k_1⟩ ⟨a_2,b_2,c_2,x_2,y_2,u_2,p_2,q_2,r_2,d_2,k_2⟩ n ⟨wf_i64 ja_1,wf_i64 jb_1,wf_i64 jc_1,wf_i64 jx_1,wf_i64 jy_1,wf_i64 ju_1,wf_i64 jp_1,wf_i64 jq_1,wf_i64 jr_1,wf_i64 jd_1,wf_i64 jk_1⟩ ⟨wf_i64 ja_2,wf_i64 jb_2,wf_i64 jc_2,wf_i64 jx_2,wf_i64 jy_2,wf_i64 ju_2,wf_i64 jp_2,wf_i64 jq_2,wf_i64 jr_2,wf_i64 jd_2,wf_i64 jk_2⟩ (wf_i64 jn)) (All w) w vs (fun _ h => h) hR
 refine k2.mono fun e w' ⟨v,he,⟨r,hr,hv⟩,hb⟩ => ?_
 subst hr
 cases hv
 exact ⟨he,hb⟩
set_option maxRecDepth 100000 in
theorem lifted (os:Os) (started:os.Started) (H:Type) (enc:TypeId×Value→H) :
  ReturnsInHanded {} Tryz.checked os 10 .any (Rows.solverBalanceSpec.pre6 enc Tryz.prog Tryz.f10 Rows.solverBalanceRow.domain false) (Rows.solverBalanceSpec.post enc Tryz.prog Tryz.f10 false true false false):=by
 refine returnsInHanded_of_change (C:=Tryz.checked) own started (by kernel_rfl) Tryz.func10
  (ChangeSpec.witness6 (enc:=enc) (C:=Tryz.checked) false ⟨#[],#[.agg #[.int .i64 0,.int .i64 0,.int .i64 0,.int .i64 0,.int .i64 0,.int .i64 0,.int .i64 0,.int .i64 0,.int .i64 0,.int .i64 0,.int .i64 0],.agg #[.int .i64 0,.int .i64 0,.int .i64 0,.int .i64 0,.int .i64 0,.int .i64 0,.int .i64 0,.int .i64 0,.int .i64 0,.int .i64 0,.int .i64 0],.int .i64 0],[]⟩ 8 (by kernel_rfl) (by kernel_rfl) (by kernel_rfl) (by kernel_rfl)) ?_
 intro W base args ds gs before hval hW hcnd _
 have hW':=hW
 obtain ⟨p,q,hA,hV,rfl,hfz,hnd⟩:=hW
 obtain ⟨rfl,rfl⟩:=trodVars_none hV
 have hA':=hA
 rw [Tryz.params10] at hA hval
 obtain ⟨avs,w1,w2⟩:=args_read (P:=Tryz.prog) (ss:=[.agg [.int .i64,.int .i64,.int .i64,.int .i64,.int .i64,.int .i64,.int .i64,.int .i64,.int .i64,.int .i64,.int .i64],.agg [.int .i64,.int .i64,.int .i64,.int .i64,.int .i64,.int .i64,.int .i64,.int .i64,.int .i64,.int .i64,.int .i64],.int .i64]) (by kernel_rfl) (fun j t v hj hv => hval j t v (by simpa using hj) (by simpa using hv)) hA
 obtain ⟨v0,vs0,d0,ds0,p0,q0,hargs,rfl,rfl,h0,r0⟩:=trodAll_cons hA
 obtain ⟨v1,vs1,d1,ds1,p1,q1,rfl,rfl,rfl,h1,r1⟩:=trodAll_cons r0
 obtain ⟨v2,vs2,d2,ds2,p2,q2,rfl,rfl,rfl,h2,r2⟩:=trodAll_cons r1
 obtain ⟨rfl,rfl,rfl⟩:=trodAll_nil r2
 have hw:=walk w1 w2
 rw [show args.toList.toArray = args by simp] at hw
 refine hw.mono fun e W' ⟨he,bel⟩ => ?_
 subst he
 obtain ⟨ps,hst⟩:=args_stay laidOut bel (by kernel_rfl) hA'
 exact ⟨_,rfl,_,_,_,[],_,[],hW',trodAll_mk1 (shut_bool Tryz.underlying4 _),hst,rfl,bel.frame _,fun h => by cases h⟩
theorem func:Tryz.pinned.checked.prog.funcNamed Rows.solverBalanceRow.func = some 10:=by kernel_rfl
theorem four:((Rows.solverBalanceRow.inPlace == Tryz.prog.inPlace 10) = true)∧((Rows.solverBalanceRow.unfollowed == Tryz.prog.unfollowed 10) = true)∧((Rows.solverBalanceRow.recurses == Tryz.prog.recurses 10) = true)∧((Rows.solverBalanceRow.named == Tryz.prog.varsNamed 10) = true):=by
 have h:((Rows.solverBalanceRow.inPlace == Tryz.prog.inPlace 10) && ((Rows.solverBalanceRow.unfollowed == Tryz.prog.unfollowed 10) && ((Rows.solverBalanceRow.recurses == Tryz.prog.recurses 10) && (Rows.solverBalanceRow.named == Tryz.prog.varsNamed 10)))) = true:=by kernel_rfl
 simpa only [Bool.and_eq_true] using h
theorem facts:joinedFacts Tryz.prog 10 Tryz.f10 Rows.solverBalanceSpec Rows.solverBalanceRow = true:=
 andT (andT (andT (andT (andT (andT (andT (andT (andT (andT (andT (andT (andT (andT (andT (andT (andT (andT (andT (andT (andT (andT (andT (andT (andT (andT (andT (andT (andT (andT (andT (by kernel_rfl) laidOut) fRowed) (by kernel_rfl)) (by kernel_rfl)) (by kernel_rfl)) fStops) (by kernel_rfl)) fStopK) four.1) four.2.1) four.2.2.1) four.2.2.2) (by kernel_rfl)) (by kernel_rfl)) (by kernel_rfl)) (by kernel_rfl)) (by kernel_rfl)) (by kernel_rfl)) (by kernel_rfl)) (by kernel_rfl)) (by kernel_rfl)) fPlain) (by kernel_rfl)) fHeard) fMay) fLift) fMake) (by kernel_rfl)) (by kernel_rfl)) (by kernel_rfl)) (by kernel_rfl)
theorem over:Rows.solverBalanceRow.holds Tryz.pinned (OpenSpec.ofChange Rows.solverBalanceSpec):=
 OpenClaim.holds_of_wide 10 Tryz.f10 rfl rfl rfl rfl rfl rfl rfl ⟨rfl,rfl,rfl,rfl,rfl⟩ rfl rfl rfl rfl rfl func Tryz.func10 facts
  (of_decide_eq_true (by kernel_rfl)) (by unfold Func.isWrapper; first | (rw [if_pos (by decide +kernel)]; kernel_rfl) | (rw [if_neg (by decide +kernel)]; exact ⟨rfl,rfl⟩))
  (fun os started H enc _ => lifted os started H enc)
theorem proved:Rows.SolverBalanceSaid:=over
#print axioms proved
end Go.Proofs.YtafigekkhpepkaaGreat.solverBalanceDone
end