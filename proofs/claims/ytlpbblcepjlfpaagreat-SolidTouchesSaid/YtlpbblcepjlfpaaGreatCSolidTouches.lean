/-
  What is proved: for every input bagatellelaw03.SolidTouches returns true, and the input reads ars it did. No further condition.
-/
import Derived.Test.YtlpbblcepjlfpaaGreatCM9
import Derived.Test.YtlpbblcepjlfpaaGreatRows
import Derived.WalkKit
import Derived.ProofKit
set_option linter.unusedVariables false
set_option linter.unusedSimpArgs false
namespace Go.Proofs.YtlpbblcepjlfpaaGreat.solidTouchesDone
open Go.ChangeShapes Go.WideShapes Go.ChangeAt Go.RowKit Go.Ax
theorem own:ownKnob Tryz.prog.godebug = none:=by kernel_rfl
theorem laidOut:laidOutB Tryz.prog = true:=by kernel_rfl
theorem ctx:CtxOK Tryz.prog [(23,c23),(19,c20),(24,c24),(16,c16),(27,k47),(26,k46),(25,k45),(12,c12),(29,c29),(28,c28),(30,k50),(32,k52),(31,c31),(13,c13)]:=
 (.cons con23 (.cons con19 (.cons con24 (.cons con16 (.cons kon47 (.cons kon46 (.cons kon45 (.cons con12 (.cons con29 (.cons con28 (.cons kon50 (.cons kon52 (.cons con31 (.cons con13 .nil))))))))))))))
set_option maxRecDepth 100000 in
theorem walk {w:World} {avs:List AV} {vs:List Value} (h:fitVs [.agg [.int .i64,.int .i64,.int .i64,.int .i64,.int .i64,.int .i64],.agg [.int .i64,.int .i64,.int .i64,.int .i64,.int .i64,.int .i64]] avs) (hR:Rs w (.ext (All w)) avs vs) :
  Calls Tryz.prog 5 vs.toArray w fun e w' => e = .returned (.bool true) ∧ Below w.heap.size w w':=by
 obtain ⟨_,_,rfl,⟨_,rfl,_,_,rfl,⟨y0,rfl,b0⟩,_,_,rfl,⟨y1,rfl,b1⟩,_,_,rfl,⟨y2,rfl,b2⟩,_,_,rfl,⟨y3,rfl,b3⟩,_,_,rfl,⟨y4,rfl,b4⟩,_,_,rfl,⟨y5,rfl,b5⟩,rfl⟩,_,_,rfl,⟨_,rfl,_,_,rfl,⟨z0,rfl,c0⟩,_,_,rfl,⟨z1,rfl,c1⟩,_,_,rfl,⟨z2,rfl,c2⟩,_,_,rfl,⟨z3,rfl,c3⟩,_,_,rfl,⟨z4,rfl,c4⟩,_,_,rfl,⟨z5,rfl,c5⟩,rfl⟩,rfl⟩:=h
 obtain ⟨_,k2⟩:=fn_sound ctx Tryz.func5 (by kernel_rfl) (vc5 y0 y1 y2 y3 y4 y5 z0 z1 z2 z3 z4 z5 ⟨wf_i64 b0,wf_i64 b1,wf_i64 b2,wf_i64 b3,wf_i64 b4,wf_i64 b5⟩ ⟨wf_i64 c0,wf_i64 c1,wf_i64 c2,wf_i64 c3,wf_i64 c4,wf_i64 c5⟩) (All w) w vs (fun _ h => h) hR
 refine k2.mono fun e w' ⟨v,he,⟨r,hr,hv⟩,hb⟩ => ?_
 subst hr
 cases hv
 exact ⟨he,hb⟩
set_option maxRecDepth 100000 in
theorem lifted (os:Os) (started:os.Started) (H:Type) (enc:TypeId × Value → H) :
  ReturnsInHanded {} Tryz.checked os 5 .any (Rows.solidTouchesSpec.pre6 enc Tryz.prog Tryz.f5 Rows.solidTouchesRow.domain false) (Rows.solidTouchesSpec.post enc Tryz.prog Tryz.f5 false true false false):=by
 refine returnsInHanded_of_change (C:=Tryz.checked) own started (by kernel_rfl) Tryz.func5
  (ChangeSpec.witness6 (enc:=enc) (C:=Tryz.checked) false ⟨#[],#[.agg #[.int .i64 0,.int .i64 0,.int .i64 0,.int .i64 0,.int .i64 0,.int .i64 0],.agg #[.int .i64 0,.int .i64 0,.int .i64 0,.int .i64 0,.int .i64 0,.int .i64 0]],[]⟩ 8 (by kernel_rfl) (by kernel_rfl) (by kernel_rfl) (by kernel_rfl)) ?_
 intro W base args ds gs before hval hW hcnd _
 have hW':=hW
 obtain ⟨p,q,hA,hV,rfl,hfz,hnd⟩:=hW
 obtain ⟨rfl,rfl⟩:=trodVars_none hV
 have hA':=hA
 rw [Tryz.params5] at hA hval
 obtain ⟨avs,w1,w2⟩:=args_read (P:=Tryz.prog) (ss:=[.agg [.int .i64,.int .i64,.int .i64,.int .i64,.int .i64,.int .i64],.agg [.int .i64,.int .i64,.int .i64,.int .i64,.int .i64,.int .i64]]) (by kernel_rfl) (fun j t v hj hv => hval j t v (by simpa using hj) (by simpa using hv)) hA
 obtain ⟨v0,vs0,d0,ds0,p0,q0,hargs,rfl,rfl,h0,r0⟩:=trodAll_cons hA
 obtain ⟨v1,vs1,d1,ds1,p1,q1,rfl,rfl,rfl,h1,r1⟩:=trodAll_cons r0
 obtain ⟨rfl,rfl,rfl⟩:=trodAll_nil r1
 have hw:=walk w1 w2
 rw [show args.toList.toArray = args by simp] at hw
 refine hw.mono fun e W' ⟨he,bel⟩ => ?_
 subst he
 obtain ⟨ps,hst⟩:=args_stay laidOut bel (by kernel_rfl) hA'
 exact ⟨_,rfl,_,_,_,[],_,[],hW',trodAll_mk1 (shut_bool Tryz.underlying4 _),hst,rfl,bel.frame _,fun h => by cases h⟩
theorem over:Rows.solidTouchesRow.holds Tryz.pinned (OpenSpec.ofChange Rows.solidTouchesSpec):=
 OpenClaim.holds_of_wide 5 Tryz.f5 rfl rfl rfl rfl rfl rfl rfl ⟨rfl,rfl,rfl,rfl,rfl⟩ rfl rfl rfl rfl rfl (by kernel_rfl) Tryz.func5 (by kernel_rfl)
  (of_decide_eq_true (by kernel_rfl)) (by unfold Func.isWrapper; first | (rw [if_pos (by decide +kernel)]; kernel_rfl) | (rw [if_neg (by decide +kernel)]; exact ⟨rfl,rfl⟩))
  (fun os started H enc _ => lifted os started H enc)
theorem proved:Rows.SolidTouchesSaid:=over
#print axioms proved
end Go.Proofs.YtlpbblcepjlfpaaGreat.solidTouchesDone