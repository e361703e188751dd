/-
  What is proved: for every input bagatellelaw05.SolverStill returns true, and the input reads ars it did. No further condition.
-/
import Derived.Test.YtempjfjppjfciaaGreatCM11
import Derived.Test.YtempjfjppjfciaaGreatRows
import Derived.WalkKit
import Derived.ProofKit
set_option linter.unusedVariables false
set_option linter.unusedSimpArgs false
namespace Go.Proofs.YtempjfjppjfciaaGreat.solverStillDone
open Go.ChangeShapes Go.WideShapes Go.ChangeAt Go.RowKit Go.Ax
theorem own:ownKnob Tryz.prog.godebug = none:=by kernel_rfl
theorem ctx:CtxOK Tryz.prog [(7,kb24),(8,kt48),(10,kb10),(9,kb47),(11,kb11),(12,kb12),(13,kb13),(14,kb14),(15,kw67),(16,kCntW),(18,kw55),(17,kSolW),(19,kParW),(20,c20)]:=
 (.cons con7 (.cons kont48 (.cons konb10 (.cons con9 (.cons konb11 (.cons konb12 (.cons konb13 (.cons konb14 (.cons konw67 (.cons con16w (.cons konw55 (.cons con17w (.cons con19w (.cons con20 .nil))))))))))))))
set_option maxRecDepth 100000 in
theorem walk {w:World} {avs:List AV} {vs:List Value} (h:fitVs [.agg [.int .i64,.int .i64,.int .i64,.int .i64,.int .i64,.int .i64,.int .i64,.int .i64,.int .i64,.int .i64,.int .i64],.agg [.int .i64,.int .i64,.int .i64,.int .i64,.int .i64,.int .i64,.int .i64,.int .i64,.int .i64,.int .i64,.int .i64],.agg [.int .i64,.bool,.int .i64,.bool],.agg [.int .i64,.bool,.int .i64,.bool],.int .i64] avs) (hR:Rs w (.ext (All w)) avs vs) :
  Calls Tryz.prog 3 vs.toArray w fun e w' => e = .returned (.bool true) ∧ Below w.heap.size w w':=by
 obtain ⟨_,_,rfl,⟨_,rfl,⟨_,_,rfl,⟨a_1,rfl,ja_1⟩,_,_,rfl,⟨b_1,rfl,jb_1⟩,_,_,rfl,⟨c_1,rfl,jc_1⟩,_,_,rfl,⟨x_1,rfl,jx_1⟩,_,_,rfl,⟨y_1,rfl,jy_1⟩,_,_,rfl,⟨u_1,rfl,ju_1⟩,_,_,rfl,⟨p_1,rfl,jp_1⟩,_,_,rfl,⟨q_1,rfl,jq_1⟩,_,_,rfl,⟨r_1,rfl,jr_1⟩,_,_,rfl,⟨d_1,rfl,jd_1⟩,_,_,rfl,⟨k_1,rfl,jk_1⟩,rfl⟩⟩,_,_,rfl,⟨_,rfl,⟨_,_,rfl,⟨a_2,rfl,ja_2⟩,_,_,rfl,⟨b_2,rfl,jb_2⟩,_,_,rfl,⟨c_2,rfl,jc_2⟩,_,_,rfl,⟨x_2,rfl,jx_2⟩,_,_,rfl,⟨y_2,rfl,jy_2⟩,_,_,rfl,⟨u_2,rfl,ju_2⟩,_,_,rfl,⟨p_2,rfl,jp_2⟩,_,_,rfl,⟨q_2,rfl,jq_2⟩,_,_,rfl,⟨r_2,rfl,jr_2⟩,_,_,rfl,⟨d_2,rfl,jd_2⟩,_,_,rfl,⟨k_2,rfl,jk_2⟩,rfl⟩⟩,_,_,rfl,⟨_,rfl,⟨_,_,rfl,⟨x0,rfl,a0⟩,_,_,rfl,⟨x1,rfl⟩,_,_,rfl,⟨x2,rfl,a2⟩,_,_,rfl,⟨x3,rfl⟩,rfl⟩⟩,_,_,rfl,⟨_,rfl,⟨_,_,rfl,⟨y0,rfl,b0⟩,_,_,rfl,⟨y1,rfl⟩,_,_,rfl,⟨y2,rfl,b2⟩,_,_,rfl,⟨y3,rfl⟩,rfl⟩⟩,_,_,rfl,⟨n,rfl,jn⟩,rfl⟩:=h
 obtain ⟨_,k2⟩:=fn_sound ctx Tryz.func3 (by kernel_rfl) (vc3 ⟨a_1,b_1,c_1,x_1,y_1,u_1,p_1,q_1,r_1,d_1,k_1⟩ ⟨a_2,b_2,c_2,x_2,y_2,u_2,p_2,q_2,r_2,d_2,k_2⟩ x0 x2 y0 y2 n x1 x3 y1 y3 ⟨wf_i64 ja_1,wf_i64 jb_1,wf_i64 jc_1,wf_i64 jx_1,wf_i64 jy_1,wf_i64 ju_1,wf_i64 jp_1,wf_i64 jq_1,wf_i64 jr_1,wf_i64 jd_1,wf_i64 jk_1⟩ ⟨wf_i64 ja_2,wf_i64 jb_2,wf_i64 jc_2,wf_i64 jx_2,wf_i64 jy_2,wf_i64 ju_2,wf_i64 jp_2,wf_i64 jq_2,wf_i64 jr_2,wf_i64 jd_2,wf_i64 jk_2⟩ (wf_i64 a0) (wf_i64 a2) (wf_i64 b0) (wf_i64 b2) (wf_i64 jn)) (All w) w vs (fun _ h => h) hR
 refine k2.mono fun e w' ⟨v,he,⟨r,hr,hv⟩,hb⟩ => ?_
 subst hr
 cases hv
 exact ⟨he,hb⟩
set_option maxRecDepth 100000 in
theorem lifted (os:Os) (started:os.Started) (H:Type) (enc:TypeId × Value → H) :
  ReturnsInHanded {} Tryz.checked os 3 .any (Rows.solverStillSpec.pre6 enc Tryz.prog Tryz.f3 Rows.solverStillRow.domain false) (Rows.solverStillSpec.post enc Tryz.prog Tryz.f3 false true false false):=by
 refine returnsInHanded_of_change (C:=Tryz.checked) own started (by kernel_rfl) Tryz.func3
  (ChangeSpec.witness6 (enc:=enc) (C:=Tryz.checked) false ⟨#[],#[.agg #[.int .i64 0,.int .i64 0,.int .i64 0,.int .i64 0,.int .i64 0,.int .i64 0,.int .i64 0,.int .i64 0,.int .i64 0,.int .i64 0,.int .i64 0],.agg #[.int .i64 0,.int .i64 0,.int .i64 0,.int .i64 0,.int .i64 0,.int .i64 0,.int .i64 0,.int .i64 0,.int .i64 0,.int .i64 0,.int .i64 0],.agg #[.int .i64 0,.bool false,.int .i64 0,.bool false],.agg #[.int .i64 0,.bool false,.int .i64 0,.bool false],.int .i64 0],[]⟩ 8 (by kernel_rfl) (by kernel_rfl) (by kernel_rfl) (by kernel_rfl)) ?_
 intro W base args ds gs before hval hW hcnd _
 have hW':=hW
 obtain ⟨p,q,hA,hV,rfl,hfz,hnd⟩:=hW
 obtain ⟨rfl,rfl⟩:=trodVars_none hV
 have hA':=hA
 rw [Tryz.params3] at hA hval
 obtain ⟨avs,w1,w2⟩:=args_read (P:=Tryz.prog) (ss:=[.agg [.int .i64,.int .i64,.int .i64,.int .i64,.int .i64,.int .i64,.int .i64,.int .i64,.int .i64,.int .i64,.int .i64],.agg [.int .i64,.int .i64,.int .i64,.int .i64,.int .i64,.int .i64,.int .i64,.int .i64,.int .i64,.int .i64,.int .i64],.agg [.int .i64,.bool,.int .i64,.bool],.agg [.int .i64,.bool,.int .i64,.bool],.int .i64]) (by kernel_rfl) (fun j t v hj hv => hval j t v (by simpa using hj) (by simpa using hv)) hA
 obtain ⟨v0,vs0,d0,ds0,p0,q0,hargs,rfl,rfl,h0,r0⟩:=trodAll_cons hA
 obtain ⟨v1,vs1,d1,ds1,p1,q1,rfl,rfl,rfl,h1,r1⟩:=trodAll_cons r0
 obtain ⟨v2,vs2,d2,ds2,p2,q2,rfl,rfl,rfl,h2,r2⟩:=trodAll_cons r1
 obtain ⟨v3,vs3,d3,ds3,p3,q3,rfl,rfl,rfl,h3,r3⟩:=trodAll_cons r2
 obtain ⟨v4,vs4,d4,ds4,p4,q4,rfl,rfl,rfl,h4,r4⟩:=trodAll_cons r3
 obtain ⟨rfl,rfl,rfl⟩:=trodAll_nil r4
 have hw:=walk w1 w2
 rw [show args.toList.toArray = args by simp] at hw
 refine hw.mono fun e W' ⟨he,bel⟩ => ?_
 subst he
 obtain ⟨ps,hst⟩:=args_stay laidOut bel (by kernel_rfl) hA'
 exact ⟨_,rfl,_,_,_,[],_,[],hW',trodAll_mk1 (shut_bool Tryz.underlying4 _),hst,rfl,bel.frame _,fun h => by cases h⟩
theorem func:Tryz.pinned.checked.prog.funcNamed Rows.solverStillRow.func = some 3:=by kernel_rfl
theorem four:((Rows.solverStillRow.inPlace == Tryz.prog.inPlace 3) = true) ∧ ((Rows.solverStillRow.unfollowed == Tryz.prog.unfollowed 3) = true) ∧ ((Rows.solverStillRow.recurses == Tryz.prog.recurses 3) = true) ∧ ((Rows.solverStillRow.named == Tryz.prog.varsNamed 3) = true):=by
 have h:((Rows.solverStillRow.inPlace == Tryz.prog.inPlace 3) && ((Rows.solverStillRow.unfollowed == Tryz.prog.unfollowed 3) && ((Rows.solverStillRow.recurses == Tryz.prog.recurses 3) && (Rows.solverStillRow.named == Tryz.prog.varsNamed 3)))) = true:=by kernel_rfl
 simpa only [Bool.and_eq_true] using h
theorem facts:joinedFacts Tryz.prog 3 Tryz.f3 Rows.solverStillSpec Rows.solverStillRow = true:=
 andT (andT (andT (andT (andT (andT (andT (andT (andT (andT (andT (andT (andT (andT (andT (andT (andT (andT (andT (andT (andT (andT (andT (andT (andT (andT (andT (andT (andT (andT (andT (by kernel_rfl) laidOut) fRowed) (by kernel_rfl)) (by kernel_rfl)) (by kernel_rfl)) fStops) (by kernel_rfl)) fStopK) four.1) four.2.1) four.2.2.1) four.2.2.2) (by kernel_rfl)) (by kernel_rfl)) (by kernel_rfl)) (by kernel_rfl)) (by kernel_rfl)) (by kernel_rfl)) (by kernel_rfl)) (by kernel_rfl)) (by kernel_rfl)) fPlain) (by kernel_rfl)) fHeard) fMay) fLift) fMake) (by kernel_rfl)) (by kernel_rfl)) (by kernel_rfl)) (by kernel_rfl)
theorem over:Rows.solverStillRow.holds Tryz.pinned (OpenSpec.ofChange Rows.solverStillSpec):=
 OpenClaim.holds_of_wide 3 Tryz.f3 rfl rfl rfl rfl rfl rfl rfl ⟨rfl,rfl,rfl,rfl,rfl⟩ rfl rfl rfl rfl rfl func Tryz.func3 facts
  (of_decide_eq_true (by kernel_rfl)) (by unfold Func.isWrapper; first | (rw [if_pos (by decide +kernel)]; kernel_rfl) | (rw [if_neg (by decide +kernel)]; exact ⟨rfl,rfl⟩))
  (fun os started H enc _ => lifted os started H enc)
theorem proved:Rows.SolverStillSaid:=over
#print axioms proved
end Go.Proofs.YtempjfjppjfciaaGreat.solverStillDone