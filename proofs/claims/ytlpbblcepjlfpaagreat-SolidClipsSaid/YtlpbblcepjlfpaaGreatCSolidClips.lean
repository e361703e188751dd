/-
  What is proved: for every input bagatellelaw03.SolidClips returns true, and the input reads ars it did. No further condition.
-/
import Derived.Test.YtlpbblcepjlfpaaGreatCM10
import Derived.Test.YtlpbblcepjlfpaaGreatRows
import Derived.WalkKit
import Derived.ProofKit
set_option linter.unusedVariables false
set_option linter.unusedSimpArgs false
namespace Go.Proofs.YtlpbblcepjlfpaaGreat.solidClipsDone
open Go.ChangeShapes Go.WideShapes Go.ChangeAt Go.RowKit Go.Ax
theorem own:ownKnob Tryz.prog.godebug = none:=by kernel_rfl
theorem laidOut:laidOutB Tryz.prog = true:=by kernel_rfl
theorem ctx:CtxOK Tryz.prog [(17,c17),(16,c16),(18,c18),(19,c20),(20,c20),(21,kSaM),(22,c22)]:=
 (.cons con17 (.cons con16 (.cons con18 (.cons con19 (.cons con20 (.cons con21 (.cons con22 .nil)))))))
theorem row2 {l:List AV} (h:fitS [.int .i64,.int .i64] l):l = [i64 (gi l 0),i64 (gi l 1)] ∧ inR (gi l 0) ∧ inR (gi l 1):=by
 obtain ⟨_,_,rfl,⟨x0,rfl,k0⟩,_,_,rfl,⟨x1,rfl,k1⟩,rfl⟩:=h
 exact ⟨rfl,wf_i64 k0,wf_i64 k1⟩
set_option maxRecDepth 100000 in
theorem walk {w:World} {avs:List AV} {vs:List Value} (h:fitVs [.agg [.int .i64,.int .i64,.int .i64,.int .i64,.slice 2 [.int .i64,.int .i64]],.agg [.int .i64,.int .i64,.int .i64,.int .i64,.slice 2 [.int .i64,.int .i64]]] avs) (hR:Rs w (.ext (All w)) avs vs) :
  Calls Tryz.prog 4 vs.toArray w fun e w' => e = .returned (.bool true) ∧ Below w.heap.size w w':=by
 obtain ⟨_,_,rfl,⟨_,rfl,_,_,rfl,⟨x0,rfl,a0⟩,_,_,rfl,⟨x1,rfl,a1⟩,_,_,rfl,⟨x2,rfl,a2⟩,_,_,rfl,⟨x3,rfl,a3⟩,_,_,rfl,⟨n,get,rfl,hn,af⟩,rfl⟩,_,_,rfl,⟨_,rfl,_,_,rfl,⟨z0,rfl,c0⟩,_,_,rfl,⟨z1,rfl,c1⟩,_,_,rfl,⟨z2,rfl,c2⟩,_,_,rfl,⟨z3,rfl,c3⟩,_,_,rfl,⟨m,get2,rfl,hm,cf⟩,rfl⟩,rfl⟩:=h
 have hg:get = fun i => [i64 (gx get 0 i),i64 (gx get 1 i)]:=funext fun i => (row2 (af i)).1
 rw [hg] at hR
 have hg2:get2 = fun i => [i64 (gx get2 0 i),i64 (gx get2 1 i)]:=funext fun i => (row2 (cf i)).1
 have hR:Rs w (.ext (All w)) [formA x0 x1 x2 x3 n fun i => [i64 (gx get 0 i),i64 (gx get 1 i)],formA z0 z1 z2 z3 m fun i => [i64 (gx get2 0 i),i64 (gx get2 1 i)]] vs:=by rw [← hg2]; exact hR
 obtain ⟨_,k2⟩:=fn_sound ctx Tryz.func4 (by kernel_rfl) (vc4 x0 x1 x2 x3 n (gx get 0) (gx get 1) z0 z1 z2 z3 m (gx get2 0) (gx get2 1) (fun i _ => (row2 (af i)).2) (wf_i64 a1) (wf_i64 a2) (wf_i64 a3) (fun i _ => (row2 (cf i)).2) (wf_i64 c1) (wf_i64 c2) (wf_i64 c3)) (All w) w vs (fun _ h => h) hR
 refine k2.mono fun e w' ⟨v,he,⟨r,hr,hv⟩,hb⟩ => ?_
 subst hr
 cases hv
 exact ⟨he,hb⟩
set_option maxRecDepth 100000 in
theorem lifted (os:Os) (started:os.Started) (H:Type) (enc:TypeId × Value → H) :
  ReturnsInHanded {} Tryz.checked os 4 .any (Rows.solidClipsSpec.pre6 enc Tryz.prog Tryz.f4 Rows.solidClipsRow.domain false) (Rows.solidClipsSpec.post enc Tryz.prog Tryz.f4 false true false false):=by
 refine returnsInHanded_of_change (C:=Tryz.checked) own started (by kernel_rfl) Tryz.func4
  (ChangeSpec.witness6 (enc:=enc) (C:=Tryz.checked) false ⟨#[],#[.agg #[.int .i64 0,.int .i64 0,.int .i64 0,.int .i64 0,.slice none 0 0],.agg #[.int .i64 0,.int .i64 0,.int .i64 0,.int .i64 0,.slice none 0 0]],[]⟩ 8 (by kernel_rfl) (by kernel_rfl) (by kernel_rfl) (by kernel_rfl)) ?_
 intro W base args ds gs before hval hW hcnd _
 have hW':=hW
 obtain ⟨p,q,hA,hV,rfl,hfz,hnd⟩:=hW
 obtain ⟨rfl,rfl⟩:=trodVars_none hV
 have hA':=hA
 rw [Tryz.params4] at hA hval
 obtain ⟨avs,w1,w2⟩:=args_read (P:=Tryz.prog) (ss:=[.agg [.int .i64,.int .i64,.int .i64,.int .i64,.slice 2 [.int .i64,.int .i64]],.agg [.int .i64,.int .i64,.int .i64,.int .i64,.slice 2 [.int .i64,.int .i64]]]) (by kernel_rfl) (fun j t v hj hv => hval j t v (by simpa using hj) (by simpa using hv)) hA
 obtain ⟨v0,vs0,d0,ds0,p0,q0,hargs,rfl,rfl,h0,r0⟩:=trodAll_cons hA
 obtain ⟨v1,vs1,d1,ds1,p1,q1,rfl,rfl,rfl,h1,r1⟩:=trodAll_cons r0
 obtain ⟨rfl,rfl,rfl⟩:=trodAll_nil r1
 have hw:=walk w1 w2
 rw [show args.toList.toArray = args by simp] at hw
 refine hw.mono fun e W' ⟨he,bel⟩ => ?_
 subst he
 obtain ⟨ps,hst⟩:=args_stay laidOut bel (by kernel_rfl) hA'
 exact ⟨_,rfl,_,_,_,[],_,[],hW',trodAll_mk1 (shut_bool Tryz.underlying4 _),hst,rfl,bel.frame _,fun h => by cases h⟩
theorem over:Rows.solidClipsRow.holds Tryz.pinned (OpenSpec.ofChange Rows.solidClipsSpec):=
 OpenClaim.holds_of_wide 4 Tryz.f4 rfl rfl rfl rfl rfl rfl rfl ⟨rfl,rfl,rfl,rfl,rfl⟩ rfl rfl rfl rfl rfl (by kernel_rfl) Tryz.func4 (by kernel_rfl)
  (of_decide_eq_true (by kernel_rfl)) (by unfold Func.isWrapper; first | (rw [if_pos (by decide +kernel)]; kernel_rfl) | (rw [if_neg (by decide +kernel)]; exact ⟨rfl,rfl⟩))
  (fun os started H enc _ => lifted os started H enc)
theorem proved:Rows.SolidClipsSaid:=over
#print axioms proved
end Go.Proofs.YtlpbblcepjlfpaaGreat.solidClipsDone