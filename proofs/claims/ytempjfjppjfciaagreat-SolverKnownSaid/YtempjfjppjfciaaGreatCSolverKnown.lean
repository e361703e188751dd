/-
  What is proved: for every input bagatellelaw05.SolverKnown returns true, and the input reads ars it did. No further condition.
-/
import Derived.Test.YtempjfjppjfciaaGreatCM10
import Derived.Test.YtempjfjppjfciaaGreatRows
import Derived.WalkKit
import Derived.ProofKit
set_option linter.unusedVariables false
set_option linter.unusedSimpArgs false
namespace Go.Proofs.YtempjfjppjfciaaGreat.solverKnownDone
open Go.ChangeShapes Go.WideShapes Go.ChangeAt Go.RowKit Go.Ax
theorem own:ownKnob Tryz.prog.godebug = none:=by kernel_rfl
theorem ctx:CtxOK Tryz.prog [(18,kw55),(23,k23n),(20,c20),(10,kb10),(9,kb47),(33,k50),(28,kb28),(14,kb14),(34,kw72),(11,kb11),(12,kb12),(13,kb13),(29,kTou),(35,kHitX),(36,kj51),(37,kTotW)]:=
 (.cons konw55 (.cons kon23n (.cons con20 (.cons konb10 (.cons con9 (.cons kon50 (.cons konb28 (.cons konb14 (.cons konw72 (.cons konb11 (.cons konb12 (.cons konb13 (.cons con29 (.cons konHitX (.cons konj51 (.cons konTotW .nil))))))))))))))))
set_option maxRecDepth 100000 in
theorem walk {w:World} {avs:List AV} {vs:List Value} (h:fitVs [] avs) (hR:Rs w (.ext (All w)) avs vs) :
  Calls Tryz.prog 6 vs.toArray w fun e w' => e = .returned (.bool true) ∧ Below w.heap.size w w':=by
 subst h
 obtain ⟨_,k2⟩:=fn_sound ctx Tryz.func6 (by kernel_rfl) (vc6 ) (All w) w vs (fun _ h => h) hR
 refine k2.mono fun e w' ⟨v,he,⟨r,hr,hv⟩,hb⟩ => ?_
 subst hr
 cases hv
 exact ⟨he,hb⟩
set_option maxRecDepth 100000 in
theorem lifted (os:Os) (started:os.Started) (H:Type) (enc:TypeId × Value → H) :
  ReturnsInHanded {} Tryz.checked os 6 .any (Rows.solverKnownSpec.pre6 enc Tryz.prog Tryz.f6 Rows.solverKnownRow.domain false) (Rows.solverKnownSpec.post enc Tryz.prog Tryz.f6 false true false false):=by
 refine returnsInHanded_of_change (C:=Tryz.checked) own started (by kernel_rfl) Tryz.func6
  (ChangeSpec.witness6 (enc:=enc) (C:=Tryz.checked) false ⟨#[],#[],[]⟩ 8 (by kernel_rfl) (by kernel_rfl) (by kernel_rfl) (by kernel_rfl)) ?_
 intro W base args ds gs before hval hW hcnd _
 have hW':=hW
 obtain ⟨p,q,hA,hV,rfl,hfz,hnd⟩:=hW
 obtain ⟨rfl,rfl⟩:=trodVars_none hV
 have hA':=hA
 rw [Tryz.params6] at hA hval
 obtain ⟨avs,w1,w2⟩:=args_read (P:=Tryz.prog) (base:=base) (ss:=[]) (by kernel_rfl) (fun j t v hj hv => by cases hj) hA
 obtain ⟨hx,rfl,rfl⟩:=trodAll_nil hA
 obtain rfl:args = #[]:=Array.ext' hx
 have hw:=walk w1 w2
 rw [show (#[]:Array Value).toList.toArray = #[] from rfl] at hw
 refine hw.mono fun e W' ⟨he,bel⟩ => ?_
 subst he
 obtain ⟨ps,hst⟩:=args_stay laidOut bel (by kernel_rfl) hA'
 exact ⟨_,rfl,_,_,_,[],_,[],hW',trodAll_mk1 (shut_bool Tryz.underlying4 _),hst,rfl,bel.frame _,fun h => by cases h⟩
theorem func:Tryz.pinned.checked.prog.funcNamed Rows.solverKnownRow.func = some 6:=by kernel_rfl
theorem four:((Rows.solverKnownRow.inPlace == Tryz.prog.inPlace 6) = true) ∧ ((Rows.solverKnownRow.unfollowed == Tryz.prog.unfollowed 6) = true) ∧ ((Rows.solverKnownRow.recurses == Tryz.prog.recurses 6) = true) ∧ ((Rows.solverKnownRow.named == Tryz.prog.varsNamed 6) = true):=by
 have h:((Rows.solverKnownRow.inPlace == Tryz.prog.inPlace 6) && ((Rows.solverKnownRow.unfollowed == Tryz.prog.unfollowed 6) && ((Rows.solverKnownRow.recurses == Tryz.prog.recurses 6) && (Rows.solverKnownRow.named == Tryz.prog.varsNamed 6)))) = true:=by kernel_rfl
 simpa only [Bool.and_eq_true] using h
theorem facts:joinedFacts Tryz.prog 6 Tryz.f6 Rows.solverKnownSpec Rows.solverKnownRow = true:=
 andT (andT (andT (andT (andT (andT (andT (andT (andT (andT (andT (andT (andT (andT (andT (andT (andT (andT (andT (andT (andT (andT (andT (andT (andT (andT (andT (andT (andT (andT (andT (by kernel_rfl) laidOut) fRowed) (by kernel_rfl)) (by kernel_rfl)) (by kernel_rfl)) fStops) (by kernel_rfl)) fStopK) four.1) four.2.1) four.2.2.1) four.2.2.2) (by kernel_rfl)) (by kernel_rfl)) (by kernel_rfl)) (by kernel_rfl)) (by kernel_rfl)) (by kernel_rfl)) (by kernel_rfl)) (by kernel_rfl)) (by kernel_rfl)) fPlain) (by kernel_rfl)) fHeard) fMay) fLift) fMake) (by kernel_rfl)) (by kernel_rfl)) (by kernel_rfl)) (by kernel_rfl)
theorem over:Rows.solverKnownRow.holds Tryz.pinned (OpenSpec.ofChange Rows.solverKnownSpec):=
 OpenClaim.holds_of_wide 6 Tryz.f6 rfl rfl rfl rfl rfl rfl rfl ⟨rfl,rfl,rfl,rfl,rfl⟩ rfl rfl rfl rfl rfl func Tryz.func6 facts
  (of_decide_eq_true (by kernel_rfl)) (by unfold Func.isWrapper; first | (rw [if_pos (by decide +kernel)]; kernel_rfl) | (rw [if_neg (by decide +kernel)]; exact ⟨rfl,rfl⟩))
  (fun os started H enc _ => lifted os started H enc)
theorem proved:Rows.SolverKnownSaid:=over
#print axioms proved
end Go.Proofs.YtempjfjppjfciaaGreat.solverKnownDone