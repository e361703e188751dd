/-
  What is proved: for every input bagatellelaw03.SolidKnown returns true, and the input reads ars it did. No further condition.
-/
import Derived.Test.YtlpbblcepjlfpaaGreatCM8
import Derived.Test.YtlpbblcepjlfpaaGreatRows
import Derived.WalkKit
import Derived.ProofKit
set_option linter.unusedVariables false
set_option linter.unusedSimpArgs false
namespace Go.Proofs.YtlpbblcepjlfpaaGreat.solidKnownDone
open Go.ChangeShapes Go.WideShapes Go.ChangeAt Go.RowKit Go.Ax
theorem own:ownKnob Tryz.prog.godebug = none:=by kernel_rfl
theorem laidOut:laidOutB Tryz.prog = true:=by kernel_rfl
theorem ctx:CtxOK Tryz.prog [(33,c33),(8,k8n),(22,c22),(12,c12),(24,c24),(19,c20),(21,kSaE),(34,c34),(35,k54),(36,c36),(37,c37),(29,k29n),(38,c38),(39,c39),(16,c16)]:=
 (.cons con33 (.cons kon8n (.cons con22 (.cons con12 (.cons con24 (.cons con19 (.cons konSaE (.cons con34 (.cons kon54 (.cons con36 (.cons con37 (.cons kon29n (.cons con38 (.cons con39 (.cons con16 .nil)))))))))))))))
set_option maxRecDepth 100000 in
theorem walk {w:World} {avs:List AV} {vs:List Value} (h:fitVs [] avs) (hR:Rs w (.ext (All w)) avs vs) :
  Calls Tryz.prog 6 vs.toArray w fun e w' => e = .returned (.bool true) ∧ Below w.heap.size w w':=by
 subst h
 obtain ⟨_,k2⟩:=fn_sound ctx Tryz.func6 (by kernel_rfl) (vc6 ) (All w) w vs (fun _ h => h) hR
 refine k2.mono fun e w' ⟨v,he,⟨r,hr,hv⟩,hb⟩ => ?_
 subst hr
 cases hv
 exact ⟨he,hb⟩
set_option maxRecDepth 100000 in
theorem lifted (os:Os) (started:os.Started) (H:Type) (enc:TypeId × Value → H) :
  ReturnsInHanded {} Tryz.checked os 6 .any (Rows.solidKnownSpec.pre6 enc Tryz.prog Tryz.f6 Rows.solidKnownRow.domain false) (Rows.solidKnownSpec.post enc Tryz.prog Tryz.f6 false true false false):=by
 refine returnsInHanded_of_change (C:=Tryz.checked) own started (by kernel_rfl) Tryz.func6
  (ChangeSpec.witness6 (enc:=enc) (C:=Tryz.checked) false ⟨#[],#[],[]⟩ 8 (by kernel_rfl) (by kernel_rfl) (by kernel_rfl) (by kernel_rfl)) ?_
 intro W base args ds gs before hval hW hcnd _
 have hW':=hW
 obtain ⟨p,q,hA,hV,rfl,hfz,hnd⟩:=hW
 obtain ⟨rfl,rfl⟩:=trodVars_none hV
 have hA':=hA
 rw [Tryz.params6] at hA hval
 obtain ⟨avs,w1,w2⟩:=args_read (P:=Tryz.prog) (base:=base) (ss:=[]) (by kernel_rfl) (fun j t v hj hv => by cases hj) hA
 obtain ⟨hx,rfl,rfl⟩:=trodAll_nil hA
 obtain rfl:args = #[]:=Array.ext' hx
 have hw:=walk w1 w2
 rw [show (#[]:Array Value).toList.toArray = #[] from rfl] at hw
 refine hw.mono fun e W' ⟨he,bel⟩ => ?_
 subst he
 obtain ⟨ps,hst⟩:=args_stay laidOut bel (by kernel_rfl) hA'
 exact ⟨_,rfl,_,_,_,[],_,[],hW',trodAll_mk1 (shut_bool Tryz.underlying4 _),hst,rfl,bel.frame _,fun h => by cases h⟩
theorem over:Rows.solidKnownRow.holds Tryz.pinned (OpenSpec.ofChange Rows.solidKnownSpec):=
 OpenClaim.holds_of_wide 6 Tryz.f6 rfl rfl rfl rfl rfl rfl rfl ⟨rfl,rfl,rfl,rfl,rfl⟩ rfl rfl rfl rfl rfl (by kernel_rfl) Tryz.func6 (by kernel_rfl)
  (of_decide_eq_true (by kernel_rfl)) (by unfold Func.isWrapper; first | (rw [if_pos (by decide +kernel)]; kernel_rfl) | (rw [if_neg (by decide +kernel)]; exact ⟨rfl,rfl⟩))
  (fun os started H enc _ => lifted os started H enc)
theorem proved:Rows.SolidKnownSaid:=over
#print axioms proved
end Go.Proofs.YtlpbblcepjlfpaaGreat.solidKnownDone