/-
  SolverNothing: its body.
-/
import Derived.Test.YtafigekkhpepkaaGreatCM10
import Derived.Test.YtafigekkhpepkaaGreatRows
import Derived.WalkKit
import Derived.ProofKit
set_option linter.unusedVariables false
set_option linter.unusedSimpArgs false
section
set_option maxHeartbeats 4000000
set_option maxRecDepth 100000
namespace Go.Ax
open Go.Proofs
def ros4 (a b c d:Bd):Nat → List AV:=rowsOf 27 (bodyC a ++ (bodyC b ++ (bodyC c ++ bodyC d)))
section
variable {a b c e:Bd} {d i:Nat} {m:Mem}
theorem rows_seal4:rowsOf 27 (bodyC a ++ (bodyC b ++ (bodyC c ++ bodyC e))) = ros4 a b c e:=(rfl)
theorem rowG_r4:rowG d m (ros4 a b c e) = ros4 a b c e:=by
 unfold ros4
 rw [rowG_rows,purLA_body,purLA_body,purLA_body,purLd_body]
theorem purL_r4:purL d m (ros4 a b c e i) = ros4 a b c e i:=by
 unfold ros4 rowsOf
 rw [purL_take,purL_drop,purLA_body,purLA_body,purLA_body,purLd_body]
theorem ros4_0:ros4 a b c e 0 = bodyC a:=(rfl)
theorem ros4_1:ros4 a b c e 1 = bodyC b:=(rfl)
theorem ros4_2:ros4 a b c e 2 = bodyC c:=(rfl)
theorem ros4_3:ros4 a b c e 3 = bodyC e:=(rfl)
theorem bsD_r40:bsD (ros4 a b c e) 0 = a:=(rfl)
theorem bsD_r41:bsD (ros4 a b c e) 1 = b:=(rfl)
theorem bsD_r42:bsD (ros4 a b c e) 2 = c:=(rfl)
theorem bsD_r43:bsD (ros4 a b c e) 3 = e:=(rfl)
theorem ros4_ok:(∀ i,i < 4 → ros4 a b c e i = bodyC (bsD (ros4 a b c e) i)) = True:=eq_true fun i hi => by
 match i with
 | 0 => rfl
 | 1 => rfl
 | 2 => rfl
 | 3 => rfl
 | q + 4 => omega
theorem inBs_r4:inBs 4 (bsD (ros4 a b c e)) = ((inB a ∧ a.n ≤ 1000) ∧ (inB b ∧ b.n ≤ 1000) ∧ (inB c ∧ c.n ≤ 1000) ∧ (inB e ∧ e.n ≤ 1000)):=propext ⟨fun h => ⟨h 0 (by omega),h 1 (by omega),h 2 (by omega),h 3 (by omega)⟩,fun h i hi => by
 match i with
 | 0 => exact h.1
 | 1 => exact h.2.1
 | 2 => exact h.2.2.1
 | 3 => exact h.2.2.2
 | q + 4 => omega⟩
end
attribute [go_sem] rows_seal4 rowG_r4 purL_r4 ros4_0 ros4_1 ros4_2 ros4_3 bsD_r40 bsD_r41 bsD_r42 bsD_r43 ros4_ok inBs_r4
def lit01:Nat → List AV:=rowsOf 15 [i64 0,i64 1,i64 0,bo false,i64 0,bo false,.v (.slice none 0 0),i64 0,bo false,i64 0,bo false,i64 0,bo false,i64 0,bo false]
theorem lit01_eq:rowsOf 15 [i64 0,i64 1,i64 0,bo false,i64 0,bo false,.v (.slice none 0 0),i64 0,bo false,i64 0,bo false,i64 0,bo false,i64 0,bo false] = lit01:=(rfl)
theorem vc12 (t0 t1 t2 t3:Th) (n l:Int) (h0:inT t0) (h1:inT t1) (h2:inT t2) (h3:inT t3) (hn:inR n) (hl:inR l) :
  fnVC Tryz.prog [(24,kb24),(48,kt48),(31,c31),(58,kSolW),(18,kSaW),(25,kCntW),(21,kSaC),(15,c15)] [] Tryz.f12 [.agg (thC t0 ++ (thC t1 ++ (thC t2 ++ thC t3))),i64 n,i64 l] (· = bo true):=by
 refine fnVC_go (rs:=[.tmp 6]) rfl rfl ?_
 obtain ⟨a0,a1,a2,a3,a4,a5,a6,a7,a8,a9,a10⟩:=h0
 obtain ⟨b0,b1,b2,b3,b4,b5,b6,b7,b8,b9,b10⟩:=h1
 obtain ⟨c0,c1,c2,c3,c4,c5,c6,c7,c8,c9,c10⟩:=h2
 obtain ⟨d0,d1,d2,d3,d4,d5,d6,d7,d8,d9,d10⟩:=h3
 obtain ⟨A,hA⟩:∃ A,mkT t0 12 = A:=⟨_,rfl⟩
 obtain ⟨B,hB⟩:∃ A,mkT t1 12 = A:=⟨_,rfl⟩
 obtain ⟨C,hC⟩:∃ A,mkT t2 12 = A:=⟨_,rfl⟩
 obtain ⟨D,hD⟩:∃ A,mkT t3 12 = A:=⟨_,rfl⟩
 simp only [thC,List.cons_append,List.nil_append,List.append_assoc,go_sem,kb24,kt48,c31,kSolW,kSaW,kCntW,kSaC,c15,boA,cLw_eq,cLs_nn,cLs_en,cLs_eq,cL_eq,cB_eq,kCnt,kSol,mkT_eq,hA,hB,hC,hD,hn,hl,a0,a1,a2,a3,a4,a5,a6,a7,a8,a9,a10,b0,b1,b2,b3,b4,b5,b6,b7,b8,b9,b10,c0,c1,c2,c3,c4,c5,c6,c7,c8,c9,c10,d0,d1,d2,d3,d4,d5,d6,d7,d8,d9,d10]
 simp only [lit01_eq]
 have hz0:inR 0:=by unfold inR; decide
 have hN:∀ t:Th,(mkT t 12).n ≤ 1000:=fun t => mkT_n (by omega)
 have hI:∀ t:Th,inB (mkT t 12):=fun t => mkT_in (by omega)
 have iA:inB A ∧ A.n ≤ 1000:=hA ▸ ⟨hI t0,hN t0⟩
 have iB:inB B ∧ B.n ≤ 1000:=hB ▸ ⟨hI t1,hN t1⟩
 have iC:inB C ∧ C.n ≤ 1000:=hC ▸ ⟨hI t2,hN t2⟩
 have iD:inB D ∧ D.n ≤ 1000:=hD ▸ ⟨hI t3,hN t3⟩
 have i4:(inB A ∧ A.n ≤ 1000) ∧ (inB B ∧ B.n ≤ 1000) ∧ (inB C ∧ C.n ≤ 1000) ∧ inB D ∧ D.n ≤ 1000:=⟨iA,iB,iC,iD⟩
 have hB4:inBs 4 (bsD (ros4 A B C D)):=by rw [inBs_r4]; exact i4
 have hok:∀ i,i < 4 → ros4 A B C D i = bodyC (bsD (ros4 A B C D) i):=of_eq_true ros4_ok
 obtain ⟨x1,x2⟩:=@cnt_in A B 0 1 hz0 (by unfold inR; decide)
 obtain ⟨y1,y2⟩:=@cnt_in C D 2 3 (by unfold inR; decide) (by unfold inR; decide)
 have hx:inC (cntS A B 0 1) ∧ (cntS A B 0 1).n ≤ 1000:=⟨x1,by omega⟩
 have hy:inC (cntS C D 2 3) ∧ (cntS C D 2 3).n ≤ 1000:=⟨y1,by omega⟩
 have hxy:inCs 2 (csD (cts2 (cntS A B 0 1) (cntS C D 2 3))):=by rw [inCs_c2]; exact ⟨hx,hy⟩
 have hL:(csD lit01 0).n = 0:=rfl
 have hL1:inCs 1 (csD lit01):=fun i hi => by
  have e:i = 0:=by omega
  subst e
  refine ⟨⟨hz0,by show inR 1; unfold inR; decide,hz0,hz0,fun q hq => ?_,hz0,hz0,hz0,hz0⟩,by rw [hL]; omega⟩
  rw [hL] at hq
  omega
 have hL2:∀ i,i < 1 → rowC lit01 i:=fun i hi => by
  have e:i = 0:=by omega
  subst e
  exact .inr ⟨rfl,rfl⟩
 have hT:inR (tiN l):=by have:=@tiN_bd l; unfold inR; omega
 have hM:inR (modS n 6):=by have:=@modS_bd n 6 (by omega); unfold inR; omega
 have hJ:inJs 0 (jsD fun x => []):=fun i hi => absurd hi (by omega)
 have hC0:inCs 0 (csD fun x => []):=fun i hi => absurd hi (by omega)
 have h6:inR 6:=by unfold inR; decide
 have hdis:dis (csD (cts2 (cntS A B 0 1) (cntS C D 2 3)) 0) (csD (cts2 (cntS A B 0 1) (cntS C D 2 3)) 1):=by
  rw [csD_c20,csD_c21]
  exact ⟨by show (0:Int).toNat ≠ (2:Int).toNat; decide,by show (0:Int).toNat ≠ (3:Int).toNat; decide,by show (1:Int).toNat ≠ (2:Int).toNat; decide,by show (1:Int).toNat ≠ (3:Int).toNat; decide⟩
 intro z hz
 obtain ⟨w1,w2,w3⟩:=sol_swap (N:=4) (J:=jsD fun x => []) (dt:=(tiN l,false)) (B:=bsD (ros4 A B C D)) (C:=csD (cts2 (cntS A B 0 1) (cntS C D 2 3))) (C':=csD (cts2 (cntS C D 2 3) (cntS A B 0 1))) (r:=z) (by rw [csD_c20,csD_c21]) (by rw [csD_c20,csD_c21]) hdis
 rw [← hz] at hM
 have hS:inBs 4 (solT 4 2 0 (bsD (ros4 A B C D)) (csD (cts2 (cntS A B 0 1) (cntS C D 2 3))) (jsD fun x => []) z (tiN l,false)).B ∧ inCs 2 (solT 4 2 0 (bsD (ros4 A B C D)) (csD (cts2 (cntS A B 0 1) (cntS C D 2 3))) (jsD fun x => []) z (tiN l,false)).C:=
  ⟨parL_in (rndS_in (s:=⟨_,_⟩) hB4 hxy _).1 _,(rndS_in (s:=⟨_,_⟩) hB4 hxy _).2⟩
 have hn0:=(hS.2 0 (by omega)).2
 have hn1:=(hS.2 1 (by omega)).2
 simp only [sol_none,sol_zero hL,← w1,← w2,← w3,i4,iA,iB,iC,iD,hx,hy,hL1,hL2,hT,hM,hJ,hC0,h6,hB4,hS.1,hn0,hn1,forall_eq,implies_true,and_self,true_and,and_true]
 exact ⟨hL2,hok,fun _ => hok,fun h => absurd h (by decide),fun _ => rfl⟩
end Go.Ax
end
section
/-
  What is proved: for every input bagatellelaw05.SolverNothing returns true, and the input reads ars it did. No further condition.
-/
namespace Go.Proofs.YtafigekkhpepkaaGreat.solverNothingDone
open Go.ChangeShapes Go.WideShapes Go.ChangeAt Go.RowKit Go.Ax
theorem own:ownKnob Tryz.prog.godebug = none:=by kernel_rfl
theorem ctx:CtxOK Tryz.prog [(24,kb24),(48,kt48),(31,c31),(58,kSolW),(18,kSaW),(25,kCntW),(21,kSaC),(15,c15)]:=
 (.cons con24 (.cons kont48 (.cons con31 (.cons con58w (.cons con18w (.cons con25w (.cons con21 (.cons con15 .nil))))))))
set_option maxRecDepth 100000 in
theorem walk {w:World} {avs:List AV} {vs:List Value} (h:fitVs [.agg sh44,.int .i64,.int .i64] avs) (hR:Rs w (.ext (All w)) avs vs) :
  Calls Tryz.prog 12 vs.toArray w fun e w' => e = .returned (.bool true) ∧ Below w.heap.size w w':=by
 obtain ⟨_,_,rfl,⟨l0,rfl,hl⟩,_,_,rfl,⟨n,rfl,jn⟩,_,_,rfl,⟨l,rfl,jl⟩,rfl⟩:=h
 obtain ⟨t0,t1,t2,t3,i0,i1,i2,i3,rfl⟩:=fit_44 hl
 obtain ⟨_,k2⟩:=fn_sound ctx Tryz.func12 (by kernel_rfl) (vc12 t0 t1 t2 t3 n l i0 i1 i2 i3 (wf_i64 jn) (wf_i64 jl)) (All w) w vs (fun _ h => h) hR
 refine k2.mono fun e w' ⟨v,he,⟨r,hr,hv⟩,hb⟩ => ?_
 subst hr
 cases hv
 exact ⟨he,hb⟩
set_option maxRecDepth 100000 in
theorem lifted (os:Os) (started:os.Started) (H:Type) (enc:TypeId × Value → H) :
  ReturnsInHanded {} Tryz.checked os 12 .any (Rows.solverNothingSpec.pre6 enc Tryz.prog Tryz.f12 Rows.solverNothingRow.domain false) (Rows.solverNothingSpec.post enc Tryz.prog Tryz.f12 false true false false):=by
 refine returnsInHanded_of_change (C:=Tryz.checked) own started (by kernel_rfl) Tryz.func12
  (ChangeSpec.witness6 (enc:=enc) (C:=Tryz.checked) false ⟨#[],#[.agg #[.int .i64 0,.int .i64 0,.int .i64 0,.int .i64 0,.int .i64 0,.int .i64 0,.int .i64 0,.int .i64 0,.int .i64 0,.int .i64 0,.int .i64 0,.int .i64 0,.int .i64 0,.int .i64 0,.int .i64 0,.int .i64 0,.int .i64 0,.int .i64 0,.int .i64 0,.int .i64 0,.int .i64 0,.int .i64 0,.int .i64 0,.int .i64 0,.int .i64 0,.int .i64 0,.int .i64 0,.int .i64 0,.int .i64 0,.int .i64 0,.int .i64 0,.int .i64 0,.int .i64 0,.int .i64 0,.int .i64 0,.int .i64 0,.int .i64 0,.int .i64 0,.int .i64 0,.int .i64 0,.int .i64 0,.int .i64 0,.int .i64 0,.int .i64 0],.int .i64 0,.int .i64 0],[]⟩ 8 (by kernel_rfl) (by kernel_rfl) (by kernel_rfl) (by kernel_rfl)) ?_
 intro W base args ds gs before hval hW hcnd _
 have hW':=hW
 obtain ⟨p,q,hA,hV,rfl,hfz,hnd⟩:=hW
 obtain ⟨rfl,rfl⟩:=trodVars_none hV
 have hA':=hA
 rw [Tryz.params12] at hA hval
 obtain ⟨avs,w1,w2⟩:=args_read (P:=Tryz.prog) (ss:=[.agg sh44,.int .i64,.int .i64]) (by kernel_rfl) (fun j t v hj hv => hval j t v (by simpa using hj) (by simpa using hv)) hA
 obtain ⟨v0,vs0,d0,ds0,p0,q0,hargs,rfl,rfl,h0,r0⟩:=trodAll_cons hA
 obtain ⟨v1,vs1,d1,ds1,p1,q1,rfl,rfl,rfl,h1,r1⟩:=trodAll_cons r0
 obtain ⟨v2,vs2,d2,ds2,p2,q2,rfl,rfl,rfl,h2,r2⟩:=trodAll_cons r1
 obtain ⟨rfl,rfl,rfl⟩:=trodAll_nil r2
 have hw:=walk w1 w2
 rw [show args.toList.toArray = args by simp] at hw
 refine hw.mono fun e W' ⟨he,bel⟩ => ?_
 subst he
 obtain ⟨ps,hst⟩:=args_stay laidOut bel (by kernel_rfl) hA'
 exact ⟨_,rfl,_,_,_,[],_,[],hW',trodAll_mk1 (shut_bool Tryz.underlying4 _),hst,rfl,bel.frame _,fun h => by cases h⟩
theorem func:Tryz.pinned.checked.prog.funcNamed Rows.solverNothingRow.func = some 12:=by kernel_rfl
theorem four:((Rows.solverNothingRow.inPlace == Tryz.prog.inPlace 12) = true) ∧ ((Rows.solverNothingRow.unfollowed == Tryz.prog.unfollowed 12) = true) ∧ ((Rows.solverNothingRow.recurses == Tryz.prog.recurses 12) = true) ∧ ((Rows.solverNothingRow.named == Tryz.prog.varsNamed 12) = true):=by
 have h:((Rows.solverNothingRow.inPlace == Tryz.prog.inPlace 12) && ((Rows.solverNothingRow.unfollowed == Tryz.prog.unfollowed 12) && ((Rows.solverNothingRow.recurses == Tryz.prog.recurses 12) && (Rows.solverNothingRow.named == Tryz.prog.varsNamed 12)))) = true:=by kernel_rfl
 simpa only [Bool.and_eq_true] using h
theorem facts:joinedFacts Tryz.prog 12 Tryz.f12 Rows.solverNothingSpec Rows.solverNothingRow = true:=
 andT (andT (andT (andT (andT (andT (andT (andT (andT (andT (andT (andT (andT (andT (andT (andT (andT (andT (andT (andT (andT (andT (andT (andT (andT (andT (andT (andT (andT (andT (andT (by kernel_rfl) laidOut) fRowed) (by kernel_rfl)) (by kernel_rfl)) (by kernel_rfl)) fStops) (by kernel_rfl)) fStopK) four.1) four.2.1) four.2.2.1) four.2.2.2) (by kernel_rfl)) (by kernel_rfl)) (by kernel_rfl)) (by kernel_rfl)) (by kernel_rfl)) (by kernel_rfl)) (by kernel_rfl)) (by kernel_rfl)) (by kernel_rfl)) fPlain) (by kernel_rfl)) fHeard) fMay) fLift) fMake) (by kernel_rfl)) (by kernel_rfl)) (by kernel_rfl)) (by kernel_rfl)
theorem over:Rows.solverNothingRow.holds Tryz.pinned (OpenSpec.ofChange Rows.solverNothingSpec):=
 OpenClaim.holds_of_wide 12 Tryz.f12 rfl rfl rfl rfl rfl rfl rfl ⟨rfl,rfl,rfl,rfl,rfl⟩ rfl rfl rfl rfl rfl func Tryz.func12 facts
  (of_decide_eq_true (by kernel_rfl)) (by unfold Func.isWrapper; first | (rw [if_pos (by decide +kernel)]; kernel_rfl) | (rw [if_neg (by decide +kernel)]; exact ⟨rfl,rfl⟩))
  (fun os started H enc _ => lifted os started H enc)
theorem proved:Rows.SolverNothingSaid:=over
#print axioms proved
end Go.Proofs.YtafigekkhpepkaaGreat.solverNothingDone
end