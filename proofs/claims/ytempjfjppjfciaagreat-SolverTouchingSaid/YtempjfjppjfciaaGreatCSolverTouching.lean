/-
  What is proved: for every input bagatellelaw05.SolverTouching returns true, and the input reads ars it did. No further condition.
-/
import Derived.Test.YtempjfjppjfciaaGreatCM11
import Derived.Test.YtempjfjppjfciaaGreatRows
import Derived.WalkKit
import Derived.ProofKit
set_option linter.unusedVariables false
set_option linter.unusedSimpArgs false
namespace Go.Proofs.YtempjfjppjfciaaGreat.solverTouchingDone
open Go.ChangeShapes Go.WideShapes Go.ChangeAt Go.RowKit Go.Ax
theorem own:ownKnob Tryz.prog.godebug = none:=by kernel_rfl
theorem ctx:CtxOK Tryz.prog [(27,kLit1),(20,c20),(28,kb28),(29,kTou),(30,kTou),(31,kSaM),(32,kb32)]:=
 (.cons konL14 (.cons con20 (.cons konb28 (.cons con29 (.cons con30 (.cons con31 (.cons konb32 .nil)))))))
set_option maxRecDepth 100000 in
theorem walk {w:World} {avs:List AV} {vs:List Value} (h:fitVs [.agg shB,.agg shB] avs) (hR:Rs w (.ext (All w)) avs vs) :
  Calls Tryz.prog 5 vs.toArray w fun e w' => e = .returned (.bool true) ∧ Below w.heap.size w w':=by
 obtain ⟨_,_,rfl,⟨l,rfl,hl⟩,_,_,rfl,⟨l2,rfl,hl2⟩,rfl⟩:=h
 rw [(rowB hl).1,(rowB hl2).1] at hR
 obtain ⟨_,k2⟩:=fn_sound ctx Tryz.func5 (by kernel_rfl) (vc5 (bodyD l) (bodyD l2) (rowB hl).2.1 (rowB hl).2.2 (rowB hl2).2.1 (rowB hl2).2.2 ) (All w) w vs (fun _ h => h) hR
 refine k2.mono fun e w' ⟨v,he,⟨r,hr,hv⟩,hb⟩ => ?_
 subst hr
 cases hv
 exact ⟨he,hb⟩
set_option maxRecDepth 100000 in
theorem lifted (os:Os) (started:os.Started) (H:Type) (enc:TypeId × Value → H) :
  ReturnsInHanded {} Tryz.checked os 5 .any (Rows.solverTouchingSpec.pre6 enc Tryz.prog Tryz.f5 Rows.solverTouchingRow.domain false) (Rows.solverTouchingSpec.post enc Tryz.prog Tryz.f5 false true false false):=by
 refine returnsInHanded_of_change (C:=Tryz.checked) own started (by kernel_rfl) Tryz.func5
  (ChangeSpec.witness6 (enc:=enc) (C:=Tryz.checked) false ⟨#[],#[.agg #[.int .i64 0,.int .i64 0,.int .i64 0,.int .i64 0,.slice none 0 0,.int .i64 0,.bool false,.int .i64 0,.bool false,.int .i64 0,.bool false,.int .i64 0,.bool false,.int .i64 0,.bool false,.int .i64 0,.bool false,.int .i64 0,.bool false,.int .i64 0,.bool false,.int .i64 0,.bool false,.int .i64 0,.bool false,.bool false,.int .i64 0],.agg #[.int .i64 0,.int .i64 0,.int .i64 0,.int .i64 0,.slice none 0 0,.int .i64 0,.bool false,.int .i64 0,.bool false,.int .i64 0,.bool false,.int .i64 0,.bool false,.int .i64 0,.bool false,.int .i64 0,.bool false,.int .i64 0,.bool false,.int .i64 0,.bool false,.int .i64 0,.bool false,.int .i64 0,.bool false,.bool false,.int .i64 0]],[]⟩ 8 (by kernel_rfl) (by kernel_rfl) (by kernel_rfl) (by kernel_rfl)) ?_
 intro W base args ds gs before hval hW hcnd _
 have hW':=hW
 obtain ⟨p,q,hA,hV,rfl,hfz,hnd⟩:=hW
 obtain ⟨rfl,rfl⟩:=trodVars_none hV
 have hA':=hA
 rw [Tryz.params5] at hA hval
 obtain ⟨avs,w1,w2⟩:=args_read (P:=Tryz.prog) (ss:=[.agg shB,.agg shB]) (by kernel_rfl) (fun j t v hj hv => hval j t v (by simpa using hj) (by simpa using hv)) hA
 obtain ⟨v0,vs0,d0,ds0,p0,q0,hargs,rfl,rfl,h0,r0⟩:=trodAll_cons hA
 obtain ⟨v1,vs1,d1,ds1,p1,q1,rfl,rfl,rfl,h1,r1⟩:=trodAll_cons r0
 obtain ⟨rfl,rfl,rfl⟩:=trodAll_nil r1
 have hw:=walk w1 w2
 rw [show args.toList.toArray = args by simp] at hw
 refine hw.mono fun e W' ⟨he,bel⟩ => ?_
 subst he
 obtain ⟨ps,hst⟩:=args_stay laidOut bel (by kernel_rfl) hA'
 exact ⟨_,rfl,_,_,_,[],_,[],hW',trodAll_mk1 (shut_bool Tryz.underlying4 _),hst,rfl,bel.frame _,fun h => by cases h⟩
theorem func:Tryz.pinned.checked.prog.funcNamed Rows.solverTouchingRow.func = some 5:=by kernel_rfl
theorem four:((Rows.solverTouchingRow.inPlace == Tryz.prog.inPlace 5) = true) ∧ ((Rows.solverTouchingRow.unfollowed == Tryz.prog.unfollowed 5) = true) ∧ ((Rows.solverTouchingRow.recurses == Tryz.prog.recurses 5) = true) ∧ ((Rows.solverTouchingRow.named == Tryz.prog.varsNamed 5) = true):=by
 have h:((Rows.solverTouchingRow.inPlace == Tryz.prog.inPlace 5) && ((Rows.solverTouchingRow.unfollowed == Tryz.prog.unfollowed 5) && ((Rows.solverTouchingRow.recurses == Tryz.prog.recurses 5) && (Rows.solverTouchingRow.named == Tryz.prog.varsNamed 5)))) = true:=by kernel_rfl
 simpa only [Bool.and_eq_true] using h
theorem facts:joinedFacts Tryz.prog 5 Tryz.f5 Rows.solverTouchingSpec Rows.solverTouchingRow = true:=
 andT (andT (andT (andT (andT (andT (andT (andT (andT (andT (andT (andT (andT (andT (andT (andT (andT (andT (andT (andT (andT (andT (andT (andT (andT (andT (andT (andT (andT (andT (andT (by kernel_rfl) laidOut) fRowed) (by kernel_rfl)) (by kernel_rfl)) (by kernel_rfl)) fStops) (by kernel_rfl)) fStopK) four.1) four.2.1) four.2.2.1) four.2.2.2) (by kernel_rfl)) (by kernel_rfl)) (by kernel_rfl)) (by kernel_rfl)) (by kernel_rfl)) (by kernel_rfl)) (by kernel_rfl)) (by kernel_rfl)) (by kernel_rfl)) fPlain) (by kernel_rfl)) fHeard) fMay) fLift) fMake) (by kernel_rfl)) (by kernel_rfl)) (by kernel_rfl)) (by kernel_rfl)
theorem over:Rows.solverTouchingRow.holds Tryz.pinned (OpenSpec.ofChange Rows.solverTouchingSpec):=
 OpenClaim.holds_of_wide 5 Tryz.f5 rfl rfl rfl rfl rfl rfl rfl ⟨rfl,rfl,rfl,rfl,rfl⟩ rfl rfl rfl rfl rfl func Tryz.func5 facts
  (of_decide_eq_true (by kernel_rfl)) (by unfold Func.isWrapper; first | (rw [if_pos (by decide +kernel)]; kernel_rfl) | (rw [if_neg (by decide +kernel)]; exact ⟨rfl,rfl⟩))
  (fun os started H enc _ => lifted os started H enc)
theorem proved:Rows.SolverTouchingSaid:=over
#print axioms proved
end Go.Proofs.YtempjfjppjfciaaGreat.solverTouchingDone