/-
  What is proved: for every input bagatellelaw03.SolidPlaced returns true, and the input reads ars it did. No further condition.
-/
import Derived.Test.YtlpbblcepjlfpaaGreatCM8
import Derived.Test.YtlpbblcepjlfpaaGreatRows
import Derived.WalkKit
import Derived.ProofKit
set_option linter.unusedVariables false
set_option linter.unusedSimpArgs false
namespace Go.Proofs.YtlpbblcepjlfpaaGreat.solidPlacedDone
open Go.ChangeShapes Go.WideShapes Go.ChangeAt Go.RowKit Go.Ax
theorem own:ownKnob Tryz.prog.godebug = none:=by kernel_rfl
theorem laidOut:laidOutB Tryz.prog = true:=by kernel_rfl
theorem ctx:CtxOK Tryz.prog [(7,c7),(9,c9),(8,c8),(10,c10),(11,c45),(12,c12),(13,c13),(14,c14),(15,c15),(16,c16)]:=
 (.cons con7 (.cons con9 (.cons con8 (.cons con10 (.cons con11 (.cons con12 (.cons con13 (.cons con14 (.cons con15 (.cons con16 .nil))))))))))
set_option maxRecDepth 100000 in
theorem walk {w:World} {avs:List AV} {vs:List Value} (h:fitVs [.agg [.int .i64,.int .i64,.int .i64,.int .i64,.int .i64,.int .i64]] avs) (hR:Rs w (.ext (All w)) avs vs) :
  Calls Tryz.prog 3 vs.toArray w fun e w' => e = .returned (.bool true) ∧ Below w.heap.size w w':=by
 obtain ⟨_,_,rfl,⟨_,rfl,_,_,rfl,⟨y0,rfl,b0⟩,_,_,rfl,⟨y1,rfl,b1⟩,_,_,rfl,⟨y2,rfl,b2⟩,_,_,rfl,⟨y3,rfl,b3⟩,_,_,rfl,⟨y4,rfl,b4⟩,_,_,rfl,⟨y5,rfl,b5⟩,rfl⟩,rfl⟩:=h
 obtain ⟨_,k2⟩:=fn_sound ctx Tryz.func3 (by kernel_rfl) (vc3 y0 y1 y2 y3 y4 y5 ⟨wf_i64 b0,wf_i64 b1,wf_i64 b2,wf_i64 b3,wf_i64 b4,wf_i64 b5⟩) (All w) w vs (fun _ h => h) hR
 refine k2.mono fun e w' ⟨v,he,⟨r,hr,hv⟩,hb⟩ => ?_
 subst hr
 cases hv
 exact ⟨he,hb⟩
set_option maxRecDepth 100000 in
theorem lifted (os:Os) (started:os.Started) (H:Type) (enc:TypeId × Value → H) :
  ReturnsInHanded {} Tryz.checked os 3 .any (Rows.solidPlacedSpec.pre6 enc Tryz.prog Tryz.f3 Rows.solidPlacedRow.domain false) (Rows.solidPlacedSpec.post enc Tryz.prog Tryz.f3 false true false false):=by
 refine returnsInHanded_of_change (C:=Tryz.checked) own started (by kernel_rfl) Tryz.func3
  (ChangeSpec.witness6 (enc:=enc) (C:=Tryz.checked) false ⟨#[],#[.agg #[.int .i64 0,.int .i64 0,.int .i64 0,.int .i64 0,.int .i64 0,.int .i64 0]],[]⟩ 8 (by kernel_rfl) (by kernel_rfl) (by kernel_rfl) (by kernel_rfl)) ?_
 intro W base args ds gs before hval hW hcnd _
 have hW':=hW
 obtain ⟨p,q,hA,hV,rfl,hfz,hnd⟩:=hW
 obtain ⟨rfl,rfl⟩:=trodVars_none hV
 have hA':=hA
 rw [Tryz.params3] at hA hval
 obtain ⟨avs,w1,w2⟩:=args_read (P:=Tryz.prog) (ss:=[.agg [.int .i64,.int .i64,.int .i64,.int .i64,.int .i64,.int .i64]]) (by kernel_rfl) (fun j t v hj hv => hval j t v (by simpa using hj) (by simpa using hv)) hA
 obtain ⟨v0,vs0,d0,ds0,p0,q0,hargs,rfl,rfl,h0,r0⟩:=trodAll_cons hA
 obtain ⟨rfl,rfl,rfl⟩:=trodAll_nil r0
 have hw:=walk w1 w2
 rw [show args.toList.toArray = args by simp] at hw
 refine hw.mono fun e W' ⟨he,bel⟩ => ?_
 subst he
 obtain ⟨ps,hst⟩:=args_stay laidOut bel (by kernel_rfl) hA'
 exact ⟨_,rfl,_,_,_,[],_,[],hW',trodAll_mk1 (shut_bool Tryz.underlying4 _),hst,rfl,bel.frame _,fun h => by cases h⟩
theorem over:Rows.solidPlacedRow.holds Tryz.pinned (OpenSpec.ofChange Rows.solidPlacedSpec):=
 OpenClaim.holds_of_wide 3 Tryz.f3 rfl rfl rfl rfl rfl rfl rfl ⟨rfl,rfl,rfl,rfl,rfl⟩ rfl rfl rfl rfl rfl (by kernel_rfl) Tryz.func3 (by kernel_rfl)
  (of_decide_eq_true (by kernel_rfl)) (by unfold Func.isWrapper; first | (rw [if_pos (by decide +kernel)]; kernel_rfl) | (rw [if_neg (by decide +kernel)]; exact ⟨rfl,rfl⟩))
  (fun os started H enc _ => lifted os started H enc)
theorem proved:Rows.SolidPlacedSaid:=over
#print axioms proved
end Go.Proofs.YtlpbblcepjlfpaaGreat.solidPlacedDone