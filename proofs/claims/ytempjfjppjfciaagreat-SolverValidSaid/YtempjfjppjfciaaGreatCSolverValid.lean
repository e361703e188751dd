/-
  What is proved: for every input bagatellelaw05.SolverValid returns true, and the input reads ars it did. No further condition.
-/
import Derived.Test.YtempjfjppjfciaaGreatCM12
import Derived.Test.YtempjfjppjfciaaGreatRows
import Derived.WalkKit
import Derived.ProofKit
set_option linter.unusedVariables false
set_option linter.unusedSimpArgs false
namespace Go.Proofs.YtempjfjppjfciaaGreat.solverValidDone
open Go.ChangeShapes Go.WideShapes Go.ChangeAt Go.RowKit Go.Ax
theorem own:ownKnob Tryz.prog.godebug = none:=by kernel_rfl
theorem ctx:CtxOK Tryz.prog [(20,c20),(21,kBods),(8,kt48),(22,c22),(24,c24),(23,c23),(25,kb25),(10,kb10),(14,kb14),(11,kb11),(12,kb12),(13,kb13),(16,kCnt),(18,kw55),(26,c26),(17,kSolW)]:=
 (.cons con20 (.cons con21 (.cons kont48 (.cons con22 (.cons con24 (.cons con23 (.cons konb25 (.cons konb10 (.cons konb14 (.cons konb11 (.cons konb12 (.cons konb13 (.cons con16 (.cons konw55 (.cons con26 (.cons con17w .nil))))))))))))))))
set_option maxRecDepth 100000 in
theorem walk {w:World} {avs:List AV} {vs:List Value} (h:fitVs [.slice 11 shTh,.bool,.agg [.int .i64,.bool,.int .i64,.bool],.agg [.int .i64,.bool,.int .i64,.bool],.int .i64,.int .i64] avs) (hR:Rs w (.ext (All w)) avs vs) :
  Calls Tryz.prog 4 vs.toArray w fun e w' => e = .returned (.bool true) ∧ Below w.heap.size w w':=by
 obtain ⟨_,_,rfl,⟨c,get,rfl,hc,hb⟩,_,_,rfl,⟨b,rfl⟩,_,_,rfl,⟨_,rfl,⟨_,_,rfl,⟨x0,rfl,a0⟩,_,_,rfl,⟨x1,rfl⟩,_,_,rfl,⟨x2,rfl,a2⟩,_,_,rfl,⟨x3,rfl⟩,rfl⟩⟩,_,_,rfl,⟨_,rfl,⟨_,_,rfl,⟨y0,rfl,b0⟩,_,_,rfl,⟨y1,rfl⟩,_,_,rfl,⟨y2,rfl,b2⟩,_,_,rfl,⟨y3,rfl⟩,rfl⟩⟩,_,_,rfl,⟨n,rfl,jn⟩,_,_,rfl,⟨k,rfl,jk⟩,rfl⟩:=h
 rw [(rowsTh hb).1] at hR
 unfold maxLen at hc
 obtain ⟨_,k2⟩:=fn_cut (Kf:=(· = bo true)) ctx Tryz.func4 9 rfl (fun r h => by subst h; rfl) (vc4 c (thsD get) x0 x2 y0 y2 n k b x1 x3 y1 y3 (by omega) (rowsTh hb).2 (wf_i64 a0) (wf_i64 a2) (wf_i64 b0) (wf_i64 b2) (wf_i64 jn) (wf_i64 jk)) (All w) w vs (fun _ h => h) hR
 refine k2.mono fun e w' ⟨v,he,⟨r,hr,hv⟩,hb⟩ => ?_
 subst hr
 cases hv
 exact ⟨he,hb⟩
set_option maxRecDepth 100000 in
theorem lifted (os:Os) (started:os.Started) (H:Type) (enc:TypeId × Value → H) :
  ReturnsInHanded {} Tryz.checked os 4 .any (Rows.solverValidSpec.pre6 enc Tryz.prog Tryz.f4 Rows.solverValidRow.domain false) (Rows.solverValidSpec.post enc Tryz.prog Tryz.f4 false true false false):=by
 refine returnsInHanded_of_change (C:=Tryz.checked) own started (by kernel_rfl) Tryz.func4
  (ChangeSpec.witness6 (enc:=enc) (C:=Tryz.checked) false ⟨#[],#[.slice none 0 0,.bool false,.agg #[.int .i64 0,.bool false,.int .i64 0,.bool false],.agg #[.int .i64 0,.bool false,.int .i64 0,.bool false],.int .i64 0,.int .i64 0],[]⟩ 8 (by kernel_rfl) (by kernel_rfl) (by kernel_rfl) (by kernel_rfl)) ?_
 intro W base args ds gs before hval hW hcnd _
 have hW':=hW
 obtain ⟨p,q,hA,hV,rfl,hfz,hnd⟩:=hW
 obtain ⟨rfl,rfl⟩:=trodVars_none hV
 have hA':=hA
 rw [Tryz.params4] at hA hval
 obtain ⟨avs,w1,w2⟩:=args_read (P:=Tryz.prog) (ss:=[.slice 11 shTh,.bool,.agg [.int .i64,.bool,.int .i64,.bool],.agg [.int .i64,.bool,.int .i64,.bool],.int .i64,.int .i64]) (by kernel_rfl) (fun j t v hj hv => hval j t v (by simpa using hj) (by simpa using hv)) hA
 obtain ⟨v0,vs0,d0,ds0,p0,q0,hargs,rfl,rfl,h0,r0⟩:=trodAll_cons hA
 obtain ⟨v1,vs1,d1,ds1,p1,q1,rfl,rfl,rfl,h1,r1⟩:=trodAll_cons r0
 obtain ⟨v2,vs2,d2,ds2,p2,q2,rfl,rfl,rfl,h2,r2⟩:=trodAll_cons r1
 obtain ⟨v3,vs3,d3,ds3,p3,q3,rfl,rfl,rfl,h3,r3⟩:=trodAll_cons r2
 obtain ⟨v4,vs4,d4,ds4,p4,q4,rfl,rfl,rfl,h4,r4⟩:=trodAll_cons r3
 obtain ⟨v5,vs5,d5,ds5,p5,q5,rfl,rfl,rfl,h5,r5⟩:=trodAll_cons r4
 obtain ⟨rfl,rfl,rfl⟩:=trodAll_nil r5
 have hw:=walk w1 w2
 rw [show args.toList.toArray = args by simp] at hw
 refine hw.mono fun e W' ⟨he,bel⟩ => ?_
 subst he
 obtain ⟨ps,hst⟩:=args_stay laidOut bel (by kernel_rfl) hA'
 exact ⟨_,rfl,_,_,_,[],_,[],hW',trodAll_mk1 (shut_bool Tryz.underlying4 _),hst,rfl,bel.frame _,fun h => by cases h⟩
theorem func:Tryz.pinned.checked.prog.funcNamed Rows.solverValidRow.func = some 4:=by kernel_rfl
theorem four:((Rows.solverValidRow.inPlace == Tryz.prog.inPlace 4) = true) ∧ ((Rows.solverValidRow.unfollowed == Tryz.prog.unfollowed 4) = true) ∧ ((Rows.solverValidRow.recurses == Tryz.prog.recurses 4) = true) ∧ ((Rows.solverValidRow.named == Tryz.prog.varsNamed 4) = true):=by
 have h:((Rows.solverValidRow.inPlace == Tryz.prog.inPlace 4) && ((Rows.solverValidRow.unfollowed == Tryz.prog.unfollowed 4) && ((Rows.solverValidRow.recurses == Tryz.prog.recurses 4) && (Rows.solverValidRow.named == Tryz.prog.varsNamed 4)))) = true:=by kernel_rfl
 simpa only [Bool.and_eq_true] using h
theorem facts:joinedFacts Tryz.prog 4 Tryz.f4 Rows.solverValidSpec Rows.solverValidRow = true:=
 andT (andT (andT (andT (andT (andT (andT (andT (andT (andT (andT (andT (andT (andT (andT (andT (andT (andT (andT (andT (andT (andT (andT (andT (andT (andT (andT (andT (andT (andT (andT (by kernel_rfl) laidOut) fRowed) (by kernel_rfl)) (by kernel_rfl)) (by kernel_rfl)) fStops) (by kernel_rfl)) fStopK) four.1) four.2.1) four.2.2.1) four.2.2.2) (by kernel_rfl)) (by kernel_rfl)) (by kernel_rfl)) (by kernel_rfl)) (by kernel_rfl)) (by kernel_rfl)) (by kernel_rfl)) (by kernel_rfl)) (by kernel_rfl)) fPlain) (by kernel_rfl)) fHeard) fMay) fLift) fMake) (by kernel_rfl)) (by kernel_rfl)) (by kernel_rfl)) (by kernel_rfl)
theorem over:Rows.solverValidRow.holds Tryz.pinned (OpenSpec.ofChange Rows.solverValidSpec):=
 OpenClaim.holds_of_wide 4 Tryz.f4 rfl rfl rfl rfl rfl rfl rfl ⟨rfl,rfl,rfl,rfl,rfl⟩ rfl rfl rfl rfl rfl func Tryz.func4 facts
  (of_decide_eq_true (by kernel_rfl)) (by unfold Func.isWrapper; first | (rw [if_pos (by decide +kernel)]; kernel_rfl) | (rw [if_neg (by decide +kernel)]; exact ⟨rfl,rfl⟩))
  (fun os started H enc _ => lifted os started H enc)
theorem proved:Rows.SolverValidSaid:=over
#print axioms proved
end Go.Proofs.YtempjfjppjfciaaGreat.solverValidDone