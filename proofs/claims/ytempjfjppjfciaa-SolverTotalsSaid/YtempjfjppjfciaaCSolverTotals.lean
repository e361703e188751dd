/-
  SolverTotals: its body.
-/
import Derived.Test.YtempjfjppjfciaaCM6
import Derived.Test.YtempjfjppjfciaaRows
import Derived.WalkKit
import Derived.ProofKit
set_option linter.unusedVariables false
set_option linter.unusedSimpArgs false
section
set_option maxHeartbeats 4000000
set_option maxRecDepth 100000
namespace Go.Ax
open Go.Proofs
section
variable {b c d e:Bd} {l:List AV}
theorem lenA_body:(bodyC b ++ l).length = 27 + l.length:=by rw [List.length_append]; rfl
theorem take27_body:List.take 27 (bodyC b ++ l) = bodyC b:=(rfl)
theorem take54_body:List.take 54 (bodyC b ++ l) = bodyC b ++ List.take 27 l:=(rfl)
theorem take81_body:List.take 81 (bodyC b ++ l) = bodyC b ++ List.take 54 l:=(rfl)
theorem take108_body:List.take 108 (bodyC b ++ l) = bodyC b ++ List.take 81 l:=(rfl)
theorem drop27_body:List.drop 27 (bodyC b ++ l) = l:=(rfl)
theorem drop54_body:List.drop 54 (bodyC b ++ l) = List.drop 27 l:=(rfl)
theorem drop81_body:List.drop 81 (bodyC b ++ l) = List.drop 54 l:=(rfl)
theorem drop108_body:List.drop 108 (bodyC b ++ l) = List.drop 81 l:=(rfl)
end
attribute [go_sem] lenA_body take27_body take54_body take81_body take108_body drop27_body drop54_body drop81_body drop108_body
theorem purLA_body {b:Bd} {l:List AV} {d:Nat} {m:Mem}:purL d m (bodyC b ++ l) = bodyC b ++ purL d m l:=by
 rw [← purL_eq,← purL_eq,List.map_append,purL_eq,purLd_body]
theorem cleanLA_body {b:Bd} {l:List AV}:cleanL 2 (bodyC b ++ l) = cleanL 2 l:=by
 rw [← cleanL_eq,← cleanL_eq,List.all_append,cleanL_eq (l:=bodyC b),cleanL_body,Bool.true_and]
attribute [go_sem] cleanLA_body
def ros2 (b c:Bd):Nat → List AV:=rowsOf 27 (bodyC b ++ bodyC c)
theorem rows_seal2 {b c:Bd}:rowsOf 27 (bodyC b ++ bodyC c) = ros2 b c:=(rfl)
theorem rowG_r2 {b c:Bd} {d:Nat} {m:Mem}:rowG d m (ros2 b c) = ros2 b c:=by
 unfold ros2
 rw [rowG_rows,purLA_body,purLd_body]
theorem purL_r2 {b c:Bd} {d i:Nat} {m:Mem}:purL d m (ros2 b c i) = ros2 b c i:=by
 unfold ros2 rowsOf
 rw [purL_take,purL_drop,purLA_body,purLd_body]
theorem ros2_0 {b c:Bd}:ros2 b c 0 = bodyC b:=(rfl)
theorem ros2_1 {b c:Bd}:ros2 b c 1 = bodyC c:=(rfl)
theorem bsD_r20 {b c:Bd}:bsD (ros2 b c) 0 = b:=(rfl)
theorem bsD_r21 {b c:Bd}:bsD (ros2 b c) 1 = c:=(rfl)
theorem ros2_ok {b c:Bd}:(∀ i,i < 2 → ros2 b c i = bodyC (bsD (ros2 b c) i)) = True:=eq_true fun i hi => by
 match i with
 | 0 => rfl
 | 1 => rfl
 | q + 2 => omega
theorem inBs_r2 {b c:Bd}:inBs 2 (bsD (ros2 b c)) = ((inB b ∧ b.n ≤ 1000) ∧ (inB c ∧ c.n ≤ 1000)):=propext ⟨fun h => ⟨h 0 (by omega),h 1 (by omega)⟩,fun h i hi => by
 match i with
 | 0 => exact h.1
 | 1 => exact h.2
 | q + 2 => omega⟩
attribute [go_sem] rows_seal2 rowG_r2 purL_r2 ros2_0 ros2_1 bsD_r20 bsD_r21 ros2_ok inBs_r2
theorem lit2 {b c:Bd} {M:Nat}:(∀ i,i < 2 → ros2 b c i = bodyC (bodyD (ros2 b c i)) ∧ (bodyD (ros2 b c i)).n ≤ M) = (b.n ≤ M ∧ c.n ≤ M):=propext ⟨fun h => ⟨(h 0 (by omega)).2,(h 1 (by omega)).2⟩,fun h i hi => by
 match i with
 | 0 => exact ⟨rfl,h.1⟩
 | 1 => exact ⟨rfl,h.2⟩
 | q + 2 => omega⟩
attribute [go_sem] lit2
theorem drop4_body {b:Bd}:(bodyC b).drop 4 = [ptsA b.n b.X b.Y,i64 b.pl.1.1,bo b.pl.1.2,i64 b.pl.2.1,bo b.pl.2.2,i64 b.rot.1.1,bo b.rot.1.2,i64 b.rot.2.1,bo b.rot.2.2,i64 b.v.1.1,bo b.v.1.2,i64 b.v.2.1,bo b.v.2.2,i64 b.w.1,bo b.w.2,i64 b.m.1,bo b.m.2,i64 b.i.1,bo b.i.2,i64 b.st,bo b.sl,bo b.fa,i64 b.ve]:=(rfl)
attribute [go_sem] drop4_body
def setX (X:Nat → Int) (z:Int) (j:Nat):Int:=if j = 0 then z else X j
theorem set_seal {a:Bd} {z:Int} {g:Option Bool}:famN a.n 2 46 (fun j => if j = 0 then [AV.v (.int .i64 z),i64 (a.Y 0)] else [i64 (a.X j),i64 (a.Y j)]) g = famN a.n 2 46 (fun j => [i64 (setX a.X z j),i64 (a.Y j)]) g:=by
 congr 1
 funext j
 unfold setX
 split
 ·rename_i h; rw [h]
 ·rfl
attribute [go_sem] set_seal
theorem seal_a {a:Bd}:[AV.v (.int .i64 a.k),AV.v (.int .i64 a.r),AV.v (.int .i64 a.wd),AV.v (.int .i64 a.ht),AV.ro a.n 2 fun i => [AV.v (.int .i64 (a.X i)),AV.v (.int .i64 (a.Y i))],AV.v (.int .i64 a.pl.1.1),AV.v (.bool a.pl.1.2),AV.v (.int .i64 a.pl.2.1),AV.v (.bool a.pl.2.2),AV.v (.int .i64 a.rot.1.1),AV.v (.bool a.rot.1.2),AV.v (.int .i64 a.rot.2.1),AV.v (.bool a.rot.2.2),AV.v (.int .i64 a.v.1.1),AV.v (.bool a.v.1.2),AV.v (.int .i64 a.v.2.1),AV.v (.bool a.v.2.2),AV.v (.int .i64 a.w.1),AV.v (.bool a.w.2),AV.v (.int .i64 a.m.1),AV.v (.bool a.m.2),AV.v (.int .i64 a.i.1),AV.v (.bool a.i.2),AV.v (.int .i64 a.st),AV.v (.bool a.sl),AV.v (.bool a.fa),AV.v (.int .i64 a.ve)] = bodyC a:=(rfl)
def withX (a:Bd) (z:Int):Bd:={ a with X:=setX a.X z }
theorem seal_x {a:Bd} {z:Int}:[AV.v (.int .i64 a.k),AV.v (.int .i64 a.r),AV.v (.int .i64 a.wd),AV.v (.int .i64 a.ht),AV.ro a.n 2 fun i => [AV.v (.int .i64 (setX a.X z i)),AV.v (.int .i64 (a.Y i))],AV.v (.int .i64 a.pl.1.1),AV.v (.bool a.pl.1.2),AV.v (.int .i64 a.pl.2.1),AV.v (.bool a.pl.2.2),AV.v (.int .i64 a.rot.1.1),AV.v (.bool a.rot.1.2),AV.v (.int .i64 a.rot.2.1),AV.v (.bool a.rot.2.2),AV.v (.int .i64 a.v.1.1),AV.v (.bool a.v.1.2),AV.v (.int .i64 a.v.2.1),AV.v (.bool a.v.2.2),AV.v (.int .i64 a.w.1),AV.v (.bool a.w.2),AV.v (.int .i64 a.m.1),AV.v (.bool a.m.2),AV.v (.int .i64 a.i.1),AV.v (.bool a.i.2),AV.v (.int .i64 a.st),AV.v (.bool a.sl),AV.v (.bool a.fa),AV.v (.int .i64 a.ve)] = bodyC (withX a z):=(rfl)
theorem withX_n {a:Bd} {z:Int}:(withX a z).n = a.n:=(rfl)
theorem inB_withX {a:Bd} {z:Int} (h:inB a) (hz:inR z):inB (withX a z):=by
 obtain ⟨b1,b2,b3,b4,b5,b6,b7,b8,b9,b10,b11,b12,b13,b14,b15,b16⟩:=h
 refine ⟨b1,b2,b3,b4,fun j hj => ⟨?_,(b5 j hj).2⟩,b6,b7,b8,b9,b10,b11,b12,b13,b14,b15,b16⟩
 show inR (setX a.X z j)
 unfold setX
 split
 ·exact hz
 ·exact (b5 j hj).1
theorem sam_withX {a:Bd} {z:Int} (hn:0 < a.n) (h:z ≠ a.X 0):samS a (withX a z) = false:=sam_pts (X:=setX a.X z) (Y:=a.Y) hn (.inl fun e => h e.symm)
theorem xor_back (w:BitVec 64):BitVec.ofInt 64 (IntKind.i64.wrap (w.toNat:Int)) = w:=by
 apply BitVec.eq_of_toNat_eq
 rw [BitVec.toNat_ofInt,wrap_i64]
 have:=w.isLt
 omega
theorem xor_ne {x:Int}:xorI .i64 x 1 ≠ x:=fun h => by
 have h1:BitVec.ofInt 64 (xorI .i64 x 1) = BitVec.ofInt 64 x ^^^ BitVec.ofInt 64 1:=xor_back _
 rw [h] at h1
 generalize BitVec.ofInt 64 x = v at h1
 have h2:=congrArg (v ^^^ ·) h1
 simp only [← BitVec.xor_assoc,BitVec.xor_self,BitVec.zero_xor] at h2
 revert h2
 decide
theorem vc3 (N:Nat) (B:Nat → Bd) (a b:Bd) (hN:N ≤ 9223372036854775807) (hB:∀ i,inB (B i) ∧ (B i).n ≤ 9223372036854775807) (ha:inB a) (hb:inB b) (han:a.n ≤ 9223372036854775807) (hbn:b.n ≤ 9223372036854775807) :
  fnVC Try.prog [(4,kLit),(5,c5),(6,kBs),(7,.wr mNcop),(8,kTot),(9,kTot),(10,kSam),(11,kSam),(12,kb12),(13,kSaB)] [] Try.f3 [.ro N 27 (bsC B),.agg (bodyC a),.agg (bodyC b)] (· = bo true):=by
 refine fnVC_go (rs:=[.tmp 6]) rfl rfl ?_
 simp only [go_sem,totA,kLit,c5,cL_eq,cB_eq,kBs,kTot,kSam,kb12,kSaB,bsD_C]
 intro z hz
 refine ⟨fun _ => hN,fun _ i _ => (hB i).2,?_⟩
 intro z1 hz1
 refine ⟨fun _ => trivial,fun _ => ⟨han,hbn⟩,fun _ _ => trivial,fun h => ?_⟩
 have h12:∀ i,i < N → (B i).n ≤ 12:=of_decide_eq_true (hz.symm.trans h.1.2)
 have hab:=of_decide_eq_true (hz1.symm.trans h.2)
 have ha12:a.n ≤ 1000:=by have:=hab 0 (by omega); rw [ros2_0,bodyD_C] at this; omega
 have hN5:N ≤ 1000:=by have:=h.1.1; omega
 have hbs:inBs N B:=fun i hi => ⟨(hB i).1,by have:=h12 i hi; omega⟩
 clear hz hz1 h hab h12
 simp only [forall_eq,seal_a,seal_x,bodyD_C,withX_n,sam_self,hN5,hbs,ha,hb,ha12,beq_self_eq_true,implies_true,and_self,true_and,and_true,Bool.and_self,reduceCtorEq,false_imp_iff,true_imp_iff]
 refine ⟨by simp,fun h => ⟨h,h,by omega,h,inB_withX ha (wrap_inR _),fun q => ?_⟩⟩
 rw [sam_withX (by omega) xor_ne] at q
 simp at q
end Go.Ax
end
section
namespace Go.Proofs.Ytempjfjppjfciaa.solverTotalsDone
open Go.ChangeShapes Go.WideShapes Go.ChangeAt Go.RowKit Go.Ax
theorem own:ownKnob Try.prog.godebug = none:=by kernel_rfl
theorem ctx:CtxOK Try.prog [(4,.pure kLit),(5,.pure c5),(6,.pure kBs),(7,.wr mNcop),(8,.pure kTot),(9,.pure kTot),(10,.pure kSam),(11,.pure kSam),(12,.pure kb12),(13,.pure kSaB)]:=
 .cons kon14L (.cons con5 (.cons con6 (.mcons conm7 (.cons con8 (.cons con9 (.cons con10 (.cons con11 (.cons konb12 (.cons con13 .nil)))))))))
set_option maxRecDepth 100000 in
theorem walk {w:World} {avs:List AV} {vs:List Value} (h:fitVs [.slice 27 shB,.agg shB,.agg shB] avs) (hR:Rs w (.ext (All w)) avs vs) :
  Calls Try.prog 3 vs.toArray w fun e w' => e = .returned (.bool true) ∧ Below w.heap.size w w':=by
 obtain ⟨_,_,rfl,⟨n,get,rfl,hn,hb⟩,_,_,rfl,⟨l,rfl,hl⟩,_,_,rfl,⟨l2,rfl,hl2⟩,rfl⟩:=h
 rw [(rowsB hb).1,(rowB hl).1,(rowB hl2).1] at hR
 unfold maxLen at hn
 obtain ⟨_,k2⟩:=fn_sound ctx Try.func3 (by kernel_rfl) (vc3 n (bsD get) (bodyD l) (bodyD l2) (by omega) (rowsB hb).2 (rowB hl).2.1 (rowB hl2).2.1 (rowB hl).2.2 (rowB hl2).2.2) (All w) w vs (fun _ h => h) hR
 refine k2.mono fun e w' ⟨v,he,⟨r,hr,hv⟩,hb⟩ => ?_
 subst hr
 cases hv
 exact ⟨he,hb⟩
set_option maxRecDepth 100000 in
theorem lifted (os:Os) (started:os.Started) (H:Type) (enc:TypeId × Value → H) :
  ReturnsInHanded {} Try.checked os 3 .any (Rows.solverTotalsSpec.pre6 enc Try.prog Try.f3 Rows.solverTotalsRow.domain false) (Rows.solverTotalsSpec.post enc Try.prog Try.f3 false true false false):=by
 refine returnsInHanded_of_change (C:=Try.checked) own started (by kernel_rfl) Try.func3
  (ChangeSpec.witness6 (enc:=enc) (C:=Try.checked) false ⟨#[],#[.slice none 0 0,.agg #[.int .i64 0,.int .i64 0,.int .i64 0,.int .i64 0,.slice none 0 0,.int .i64 0,.bool false,.int .i64 0,.bool false,.int .i64 0,.bool false,.int .i64 0,.bool false,.int .i64 0,.bool false,.int .i64 0,.bool false,.int .i64 0,.bool false,.int .i64 0,.bool false,.int .i64 0,.bool false,.int .i64 0,.bool false,.bool false,.int .i64 0],.agg #[.int .i64 0,.int .i64 0,.int .i64 0,.int .i64 0,.slice none 0 0,.int .i64 0,.bool false,.int .i64 0,.bool false,.int .i64 0,.bool false,.int .i64 0,.bool false,.int .i64 0,.bool false,.int .i64 0,.bool false,.int .i64 0,.bool false,.int .i64 0,.bool false,.int .i64 0,.bool false,.int .i64 0,.bool false,.bool false,.int .i64 0]],[]⟩ 8 (by kernel_rfl) (by kernel_rfl) (by kernel_rfl) (by kernel_rfl)) ?_
 intro W base args ds gs before hval hW hcnd _
 have hW':=hW
 obtain ⟨p,q,hA,hV,rfl,hfz,hnd⟩:=hW
 obtain ⟨rfl,rfl⟩:=trodVars_none hV
 have hA':=hA
 rw [Try.params3] at hA hval
 obtain ⟨avs,w1,w2⟩:=args_read (P:=Try.prog) (ss:=[.slice 27 shB,.agg shB,.agg shB]) (by kernel_rfl) (fun j t v hj hv => hval j t v (by simpa using hj) (by simpa using hv)) hA
 obtain ⟨v0,vs0,d0,ds0,p0,q0,hargs,rfl,rfl,h0,r0⟩:=trodAll_cons hA
 obtain ⟨v1,vs1,d1,ds1,p1,q1,rfl,rfl,rfl,h1,r1⟩:=trodAll_cons r0
 obtain ⟨v2,vs2,d2,ds2,p2,q2,rfl,rfl,rfl,h2,r2⟩:=trodAll_cons r1
 obtain ⟨rfl,rfl,rfl⟩:=trodAll_nil r2
 have hw:=walk w1 w2
 rw [show args.toList.toArray = args by simp] at hw
 refine hw.mono fun e W' ⟨he,bel⟩ => ?_
 subst he
 obtain ⟨ps,hst⟩:=args_stay laidOut bel (by kernel_rfl) hA'
 exact ⟨_,rfl,_,_,_,[],_,[],hW',trodAll_mk1 (shut_bool Try.underlying4 _),hst,rfl,bel.frame _,fun h => by cases h⟩
theorem func:Try.pinned.checked.prog.funcNamed Rows.solverTotalsRow.func = some 3:=by kernel_rfl
theorem four:((Rows.solverTotalsRow.inPlace == Try.prog.inPlace 3) = true) ∧ ((Rows.solverTotalsRow.unfollowed == Try.prog.unfollowed 3) = true) ∧ ((Rows.solverTotalsRow.recurses == Try.prog.recurses 3) = true) ∧ ((Rows.solverTotalsRow.named == Try.prog.varsNamed 3) = true):=by
 have h:((Rows.solverTotalsRow.inPlace == Try.prog.inPlace 3) && ((Rows.solverTotalsRow.unfollowed == Try.prog.unfollowed 3) && ((Rows.solverTotalsRow.recurses == Try.prog.recurses 3) && (Rows.solverTotalsRow.named == Try.prog.varsNamed 3)))) = true:=by kernel_rfl
 simpa only [Bool.and_eq_true] using h
theorem facts:joinedFacts Try.prog 3 Try.f3 Rows.solverTotalsSpec Rows.solverTotalsRow = true:=
 andT (andT (andT (andT (andT (andT (andT (andT (andT (andT (andT (andT (andT (andT (andT (andT (andT (andT (andT (andT (andT (andT (andT (andT (andT (andT (andT (andT (andT (andT (andT (by kernel_rfl) laidOut) fRowed) (by kernel_rfl)) (by kernel_rfl)) (by kernel_rfl)) fStops) (by kernel_rfl)) fStopK) four.1) four.2.1) four.2.2.1) four.2.2.2) (by kernel_rfl)) (by kernel_rfl)) (by kernel_rfl)) (by kernel_rfl)) (by kernel_rfl)) (by kernel_rfl)) (by kernel_rfl)) (by kernel_rfl)) (by kernel_rfl)) fPlain) (by kernel_rfl)) fHeard) fMay) fLift) fMake) (by kernel_rfl)) (by kernel_rfl)) (by kernel_rfl)) (by kernel_rfl)
theorem over:Rows.solverTotalsRow.holds Try.pinned (OpenSpec.ofChange Rows.solverTotalsSpec):=
 OpenClaim.holds_of_wide 3 Try.f3 rfl rfl rfl rfl rfl rfl rfl ⟨rfl,rfl,rfl,rfl,rfl⟩ rfl rfl rfl rfl rfl func Try.func3 facts
  (of_decide_eq_true (by kernel_rfl)) (by unfold Func.isWrapper; first | (rw [if_pos (by decide +kernel)]; kernel_rfl) | (rw [if_neg (by decide +kernel)]; exact ⟨rfl,rfl⟩))
  (fun os started H enc _ => lifted os started H enc)
theorem proved:Rows.SolverTotalsSaid:=over
#print axioms proved
end Go.Proofs.Ytempjfjppjfciaa.solverTotalsDone
end