/-
  How two forms touch, by the program.
-/
import Derived.Test.YtempjfjppjfciaaGreatCM8
import Derived.ShutString
import Derived.ChangeOld
import Derived.Below
set_option linter.unusedVariables false
set_option linter.unusedSimpArgs false
section
set_option maxHeartbeats 4000000
set_option maxRecDepth 100000
namespace Go.Ax
open Go.Proofs
theorem vc71 (k x y r:Int) (n:Nat) (g:Nat → List AV) (k' x' y' r':Int) (m:Nat) (g':Nat → List AV) (hg:spots n g) (hg':spots m g') (hn:n ≤ 9223372036854775806) (hm:m ≤ 9223372036854775806) (h1:inR x) (h2:inR y) (h3:inR r) (h4:inR x') (h5:inR y') (h6:inR r') :
  fnVC Tryz.prog [(132,c132),(133,c133),(134,k59),(136,k61),(135,kbak),(137,k94),(138,k63f)] [(9,⟨[(5,.slot 4)],[]⟩),(11,⟨[(4,.slot 4)],[]⟩),(12,⟨[(6,.made 4),(7,.made 5)],[]⟩)] Tryz.f71 [formA k x y r n g,formA k' x' y' r' m g'] (alk (clipA k x y r n (gx g 0) (gx g 1) k' x' y' r' m (gx g' 0) (gx g' 1))):=by
 refine fnVC_go (rs:=[.cell 4 52,.tmp 5]) rfl rfl ?_
 have h0:¬ (checkS k x y r n (gx g 0) (gx g 1) = 0 ∧ checkS k' x' y' r' m (gx g' 0) (gx g' 1) = 0 ∧ apS k x y r n (gx g 0) (gx g 1) k' x' y' r' m (gx g' 0) (gx g' 1) = false) → alk (clipA k x y r n (gx g 0) (gx g 1) k' x' y' r' m (gx g' 0) (gx g' 1)) (.tup [.agg [i64 0,bo false,i64 0,bo false,.v (.slice none 0 0)],bo false]):=fun h => by
  unfold clipA
  rw [show clipS k x y r n (gx g 0) (gx g 1) k' x' y' r' m (gx g' 0) (gx g' 1) = mf0 from if_neg h,show clipB k x y r n (gx g 0) (gx g 1) k' x' y' r' m (gx g' 0) (gx g' 1) = false from decide_eq_false h]
  exact alk_form alk_nil6
 obtain ⟨U,hU⟩:∃ U,clipA k x y r n (gx g 0) (gx g 1) k' x' y' r' m (gx g' 0) (gx g' 1) = U:=⟨_,rfl⟩
 rw [hU] at h0 ⊢
 by_cases hA:checkS k x y r n (gx g 0) (gx g 1) = 0
 ·by_cases hB:checkS k' x' y' r' m (gx g' 0) (gx g' 1) = 0
  ·by_cases hk:k = 1
   ·by_cases hk':k' = 1
    ·have eb:bothS k x y r n g k' x' y' r' m g' = .tup [.iface 197 (.agg [i64 x,i64 y,i64 r]),.iface 197 (.agg [i64 x',i64 y',i64 r']),bo true]:=by unfold bothS; rw [if_pos hA,if_pos hk,if_pos hB,if_pos hk']
     simp only [go_sem,c132,c133,k59,k61,kbak,k94,k63f,c132,eb,c133,c90a,c90d,c90e,c90f,k94,k94p,k94q,k94r,k94d,hg,hg',hn,hm,h1,h2,h3,h4,h5,h6]
     simp only [false_imp_iff,true_imp_iff,reduceCtorEq,true_and,and_true,Bool.false_eq_true]
     have eap:apS k x y r n (gx g 0) (gx g 1) k' x' y' r' m (gx g' 0) (gx g' 1) = ddS x y r x' y' r':=by unfold apS; rw [if_pos ⟨hA,hB⟩,if_pos hk,if_pos hk']
     intro z hz z1 hz1
     refine ⟨fun q => h0 fun w => ?_,fun q => ?_⟩
     ·rw [w.2.2,← hz1] at eap
      rcases q with q | q
      ·rw [hz] at q; cases q
      ·rw [q] at eap; cases eap
     ·have hall:=And.intro hA (And.intro hB (eap.trans (hz1.symm.trans q.2)))
      have eB:clipB k x y r n (gx g 0) (gx g 1) k' x' y' r' m (gx g' 0) (gx g' 1) = true:=decide_eq_true hall
      have eS:clipS k x y r n (gx g 0) (gx g 1) k' x' y' r' m (gx g' 0) (gx g' 1) = _:=if_pos hall
      rw [← hU]
      unfold clipA
      rw [eB,eS,if_pos hk,if_pos hk']
      exact fun _ _ _ h => h
    ·have eb:bothS k x y r n g k' x' y' r' m g' = .tup [.iface 197 (.agg [i64 x,i64 y,i64 r]),.iface 202 (.agg [.ro m 2 g']),bo true]:=by unfold bothS; rw [if_pos hA,if_pos hk,if_pos hB,if_neg hk']
     simp only [go_sem,c132,c133,k59,k61,kbak,k94,k63f,c132,eb,c133,c90a,c90d,c90e,c90f,k94,k94p,k94q,k94r,k94d,hg,hg',hn,hm,h1,h2,h3,h4,h5,h6]
     simp only [false_imp_iff,true_imp_iff,reduceCtorEq,true_and,and_true,Bool.false_eq_true]
     have eap:apS k x y r n (gx g 0) (gx g 1) k' x' y' r' m (gx g' 0) (gx g' 1) = outS m (gx g' 0) (gx g' 1) x y r:=by unfold apS; rw [if_pos ⟨hA,hB⟩,if_pos hk,if_neg hk']
     have fB:=fig_n hB hk'
     intro z hz z1 hz1
     refine ⟨fun _ => trivial,fun _ => trivial,fun _ => (check_1 hB).2.2.1,fun _ => (check_1 hA).2.1,fun q => h0 fun w => ?_,fun q => ⟨by omega,by omega,(check_1 hB).2.2.1,(check_1 hA).2.1,fun a1 e1 a2 e2 a3 e3 a4 e4 => ⟨(pdS_in (n:=m) (X:=gx g' 0) (Y:=gx g' 1) (x:=x) (y:=y) (r:=r)).1.1,(pdS_in (n:=m) (X:=gx g' 0) (Y:=gx g' 1) (x:=x) (y:=y) (r:=r)).1.2,?_⟩⟩⟩
     ·rw [w.2.2,← hz1] at eap
      rcases q with q | q
      ·rw [hz] at q; cases q
      ·rw [q] at eap; cases eap
     ·have hall:=And.intro hA (And.intro hB (eap.trans (hz1.symm.trans q.2)))
      have eB:clipB k x y r n (gx g 0) (gx g 1) k' x' y' r' m (gx g' 0) (gx g' 1) = true:=decide_eq_true hall
      have eS:clipS k x y r n (gx g 0) (gx g 1) k' x' y' r' m (gx g' 0) (gx g' 1) = _:=if_pos hall
      rw [← hU]
      unfold clipA
      rw [eB,eS,if_pos hk,if_neg hk']
      rw [e1,e2,e3,e4]
      exact fun _ _ _ h => h
   ·by_cases hk':k' = 1
    ·have eb:bothS k x y r n g k' x' y' r' m g' = .tup [.iface 202 (.agg [.ro n 2 g]),.iface 197 (.agg [i64 x',i64 y',i64 r']),bo true]:=by unfold bothS; rw [if_pos hA,if_neg hk,if_pos hB,if_pos hk']
     simp only [go_sem,c132,c133,k59,k61,kbak,k94,k63f,c132,eb,c133,c90a,c90d,c90e,c90f,k94,k94p,k94q,k94r,k94d,hg,hg',hn,hm,h1,h2,h3,h4,h5,h6]
     simp only [false_imp_iff,true_imp_iff,reduceCtorEq,true_and,and_true,Bool.false_eq_true]
     have eap:apS k x y r n (gx g 0) (gx g 1) k' x' y' r' m (gx g' 0) (gx g' 1) = outS n (gx g 0) (gx g 1) x' y' r':=by unfold apS; rw [if_pos ⟨hA,hB⟩,if_neg hk,if_pos hk']
     have fA:=fig_n hA hk
     intro z hz z1 hz1
     refine ⟨fun _ => trivial,fun _ => trivial,fun _ => (check_1 hA).2.2.1,fun _ => (check_1 hB).2.1,fun q => h0 fun w => ?_,fun q => ⟨by omega,by omega,(check_1 hA).2.2.1,(check_1 hB).2.1,?_⟩⟩
     ·rw [w.2.2,← hz1] at eap
      rcases q with q | q
      ·rw [hz] at q; cases q
      ·rw [q] at eap; cases eap
     ·have hall:=And.intro hA (And.intro hB (eap.trans (hz1.symm.trans q.2)))
      have eB:clipB k x y r n (gx g 0) (gx g 1) k' x' y' r' m (gx g' 0) (gx g' 1) = true:=decide_eq_true hall
      have eS:clipS k x y r n (gx g 0) (gx g 1) k' x' y' r' m (gx g' 0) (gx g' 1) = _:=if_pos hall
      rw [← hU]
      unfold clipA
      rw [eB,eS,if_neg hk,if_pos hk']
      exact fun _ _ _ h => h
    ·have eb:bothS k x y r n g k' x' y' r' m g' = .tup [.iface 202 (.agg [.ro n 2 g]),.iface 202 (.agg [.ro m 2 g']),bo true]:=by unfold bothS; rw [if_pos hA,if_neg hk,if_pos hB,if_neg hk']
     simp only [go_sem,c132,c133,k59,k61,kbak,k94,k63f,c132,eb,c133,c90a,c90d,c90e,c90f,k94,k94p,k94q,k94r,k94d,hg,hg',hn,hm,h1,h2,h3,h4,h5,h6]
     simp only [false_imp_iff,true_imp_iff,reduceCtorEq,true_and,and_true,Bool.false_eq_true]
     have eap:apS k x y r n (gx g 0) (gx g 1) k' x' y' r' m (gx g' 0) (gx g' 1) = (clrS n (gx g 0) (gx g 1) m (gx g' 0) (gx g' 1) || clrS m (gx g' 0) (gx g' 1) n (gx g 0) (gx g 1)):=by unfold apS; rw [if_pos ⟨hA,hB⟩,if_neg hk,if_neg hk']
     have fA:=fig_n hA hk
     have fB:=fig_n hB hk'
     have eX:axS k x y r n (gx g 0) (gx g 1) k' x' y' r' m (gx g' 0) (gx g' 1) = axSt n (gP n (gx g 0) (gx g 1) m (gx g' 0) (gx g' 1)) m (gP m (gx g' 0) (gx g' 1) n (gx g 0) (gx g 1)) 2:=by
      unfold axS
      rw [if_pos ⟨hA,hB⟩,if_neg hk,if_neg hk']
     have hi:=axSt_ix2 (n:=n) (m:=m) (G:=gP n (gx g 0) (gx g 1) m (gx g' 0) (gx g' 1)) (G':=gP m (gx g' 0) (gx g' 1) n (gx g 0) (gx g 1)) (by omega)
     have vA:=(check_1 hA).2.2.1
     have vB:=(check_1 hB).2.2.1
     have eS:apS k x y r n (gx g 0) (gx g 1) k' x' y' r' m (gx g' 0) (gx g' 1) = false → clipS k x y r n (gx g 0) (gx g 1) k' x' y' r' m (gx g' 0) (gx g' 1) = _:=fun w => (if_pos ⟨hA,hB,w⟩:clipS k x y r n (gx g 0) (gx g 1) k' x' y' r' m (gx g' 0) (gx g' 1) = _)
     rw [if_neg hk,if_neg hk',eX] at eS
     generalize axSt n (gP n (gx g 0) (gx g 1) m (gx g' 0) (gx g' 1)) m (gP m (gx g' 0) (gx g' 1) n (gx g 0) (gx g 1)) 2 = s at *
     clear eX
     intro z hz z1 hz1
     refine ⟨fun _ => trivial,fun _ => trivial,fun _ => vA,fun _ => trivial,fun _ => trivial,fun _ => vB,fun q => h0 fun w => ?_,fun q => ⟨by omega,by omega,vA,by omega,by omega,vB,fun q3 => ⟨by have:s.1 = 0:=(by simpa using q3); omega,by have:s.1 = 0:=(by simpa using q3); omega,by omega,by omega,by omega,vA,vB,?_⟩,fun q3 => ⟨by have:¬ s.1 = 0:=(by simpa using q3); omega,by have:¬ s.1 = 0:=(by simpa using q3); omega,by omega,by omega,by omega,vB,vA,fun a1 e1 a2 e2 a3 e3 a4 e4 => ⟨(flS_in (n:=m) (X:=gx g' 0) (Y:=gx g' 1) (m:=n) (Z:=gx g 0) (T:=gx g 1) (i:=s.2.1.toNat)).1.1,(flS_in (n:=m) (X:=gx g' 0) (Y:=gx g' 1) (m:=n) (Z:=gx g 0) (T:=gx g 1) (i:=s.2.1.toNat)).1.2,?_⟩⟩⟩⟩
     ·rw [w.2.2,← hz1] at eap
      rcases q with q | q
      ·rw [hz] at q; cases q
      ·rw [q] at eap; cases eap
     ·have w:=eap.trans (hz1.symm.trans q.2)
      have e:s.1 = 0:=by simpa using q3
      have eB:clipB k x y r n (gx g 0) (gx g 1) k' x' y' r' m (gx g' 0) (gx g' 1) = true:=decide_eq_true ⟨hA,hB,w⟩
      rw [← hU]
      unfold clipA
      rw [eB,eS w,if_pos e]
      exact fun _ _ _ h => h
     ·have w:=eap.trans (hz1.symm.trans q.2)
      have e:¬ s.1 = 0:=by simpa using q3
      have eB:clipB k x y r n (gx g 0) (gx g 1) k' x' y' r' m (gx g' 0) (gx g' 1) = true:=decide_eq_true ⟨hA,hB,w⟩
      rw [← hU]
      unfold clipA
      rw [eB,eS w,if_neg e,e1,e2,e3,e4]
      exact fun _ _ _ h => h
  ·have h0':=h0 fun q => hB q.2.1
   by_cases hk:k = 1
   ·have eb:bothS k x y r n g k' x' y' r' m g' = .tup [.iface 197 (.agg [i64 x,i64 y,i64 r]),.v .nilIface,bo false]:=by unfold bothS; rw [if_pos hA,if_pos hk,if_neg hB]
    simp only [go_sem,c132,c133,k59,k61,kbak,k94,k63f,c132,eb,c133,c90a,c90d,c90e,c90f,hg,hg',hn,hm,h1,h2,h3,h4,h5,h6]
    exact fun z hz z1 hz1 => ⟨fun h => (by rw [hz] at h; cases h),fun _ => h0',fun q => (by rw [hz] at q; cases q.1)⟩
   ·have eb:bothS k x y r n g k' x' y' r' m g' = .tup [.iface 202 (.agg [.ro n 2 g]),.v .nilIface,bo false]:=by unfold bothS; rw [if_pos hA,if_neg hk,if_neg hB]
    simp only [go_sem,c132,c133,k59,k61,kbak,k94,k63f,c132,eb,c133,c90a,c90d,c90e,c90f,hg,hg',hn,hm,h1,h2,h3,h4,h5,h6]
    exact fun z hz z1 hz1 => ⟨fun h => (by rw [hz] at h; cases h),fun _ => h0',fun q => (by rw [hz] at q; cases q.1)⟩
 ·have h0':=h0 fun q => hA q.1
  by_cases hB:checkS k' x' y' r' m (gx g' 0) (gx g' 1) = 0
  ·by_cases hk':k' = 1
   ·have eb:bothS k x y r n g k' x' y' r' m g' = .tup [.v .nilIface,.iface 197 (.agg [i64 x',i64 y',i64 r']),bo false]:=by unfold bothS; rw [if_neg hA,if_pos hB,if_pos hk']
    simp only [go_sem,c132,c133,k59,k61,kbak,k94,k63f,c132,eb,c133,c90a,c90d,c90e,c90f,hg,hg',hn,hm,h1,h2,h3,h4,h5,h6]
    exact fun z hz z1 hz1 => ⟨fun h => (by rw [hz] at h; cases h),fun _ => h0',fun q => (by rw [hz] at q; cases q.1)⟩
   ·have eb:bothS k x y r n g k' x' y' r' m g' = .tup [.v .nilIface,.iface 202 (.agg [.ro m 2 g']),bo false]:=by unfold bothS; rw [if_neg hA,if_pos hB,if_neg hk']
    simp only [go_sem,c132,c133,k59,k61,kbak,k94,k63f,c132,eb,c133,c90a,c90d,c90e,c90f,hg,hg',hn,hm,h1,h2,h3,h4,h5,h6]
    exact fun z hz z1 hz1 => ⟨fun h => (by rw [hz] at h; cases h),fun _ => h0',fun q => (by rw [hz] at q; cases q.1)⟩
  ·have eb:bothS k x y r n g k' x' y' r' m g' = .tup [.v .nilIface,.v .nilIface,bo false]:=by unfold bothS; rw [if_neg hA,if_neg hB]
   simp only [go_sem,c132,c133,k59,k61,kbak,k94,k63f,c132,eb,c133,c90a,c90d,c90e,c90f,hg,hg',hn,hm,h1,h2,h3,h4,h5,h6]
   exact fun z hz z1 hz1 => ⟨fun h => (by rw [hz] at h; cases h),fun _ => h0',fun q => (by rw [hz] at q; cases q.1)⟩
theorem con71:ConOK Tryz.prog 71 c73:=ConOK.goR (G:=[(132,c132),(133,c133),(134,k59),(136,k61),(135,kbak),(137,k94),(138,k63f)]) (H:=[(9,⟨[(5,.slot 4)],[]⟩),(11,⟨[(4,.slot 4)],[]⟩),(12,⟨[(6,.made 4),(7,.made 5)],[]⟩)]) (.cons con132 (.cons con133 (.cons con134 (.cons con136 (.cons konbak (.cons kon94 (.cons con138 .nil))))))) Tryz.func71 fun l ob rr hc hob => by
 unfold c73 at hc
 split at hc
 ·rename_i k x y r n g k' x' y' r' m g'
  cases hc
  exact ⟨_,fun w I vs h => h,by kernel_rfl,vc71 k x y r n g k' x' y' r' m g' (hob _ (by simp)) (hob _ (by simp)) (hob _ (by simp)) (hob _ (by simp)) (hob _ (by simp)) (hob _ (by simp)) (hob _ (by simp)) (hob _ (by simp)) (hob _ (by simp)) (hob _ (by simp))⟩
 ·cases hc
end Go.Ax
end
section
set_option maxHeartbeats 4000000
set_option maxRecDepth 100000
namespace Go.Ax
open Go.Proofs
end Go.Ax
end
section
set_option maxHeartbeats 4000000
set_option maxRecDepth 100000
namespace Go.Ax
open Go.Proofs
theorem vc29 (b c:Bd) (hb:inB b) (hc:inB c) (hn:b.n ≤ 1000) (hm:c.n ≤ 1000) :
  fnVC Tryz.prog [(70,kb70),(71,c73)] [] Tryz.f29 [.agg (bodyC b),.agg (bodyC c)] (alk (.tup [mfA (touS b c),bo (touB b c)])):=by
 refine fnVC_go (rs:=[.cell 4 52,.tmp 5]) rfl rfl ?_
 simp only [go_sem,kb70,c73,cB_eq,hb,hc,hn,hm,plA,pl_spots,plN_max,plC_in]
 simp only [forall_eq,gx_pts0,gx_pts1]
 have hr:∀ d:Bd,inB d → inR (plR d.k d.r d.wd d.ht d.n d.X d.Y d.pl d.rot):=fun d hd => by
  unfold plR
  split
  ·exact hd.2.1
  ·unfold inR; decide
 refine ⟨fun h => ?_,fun h => ⟨hr b hb,hr c hc,fun _ _ _ h => h⟩⟩
 obtain ⟨k1,k2⟩:=tou_0 (b:=b) (c:=c) (h.imp (fun q => bne_iff_ne.1 q) (fun q => bne_iff_ne.1 q))
 rw [k1,k2]
 exact alk_form alk_nil6
theorem con29:ConOK Tryz.prog 29 kTou:=ConOK.goR (G:=[(70,kb70),(71,c73)]) (H:=[]) (.cons konb70 (.cons con71 .nil)) Tryz.func29 fun l ob rr hc hob => by
 unfold kTou at hc
 split at hc
 ·rename_i l l'
  cases hc
  have e1:l = bodyC (bodyD l):=hob _ (by simp)
  have e2:l' = bodyC (bodyD l'):=hob _ (by simp)
  refine ⟨[.agg (bodyC (bodyD l)),.agg (bodyC (bodyD l'))],fun w I vs h => by rw [← e1,← e2]; exact h,by kernel_rfl,vc29 (bodyD l) (bodyD l') (hob _ (by simp)) (hob _ (by simp)) (hob _ (by simp)) (hob _ (by simp))⟩
 ·cases hc
end Go.Ax
end
section
set_option maxHeartbeats 4000000
set_option maxRecDepth 100000
namespace Go.Ax
open Go.Proofs
end Go.Ax
end
section
set_option maxHeartbeats 4000000
set_option maxRecDepth 100000
namespace Go.Ax
open Go.Proofs
theorem vc83 (n:Nat) (X Y:Nat → Int) (hn:n ≤ 1000):fnVC Tryz.prog [] [] Tryz.f83 [.ro n 2 fun i => [i64 (X i),i64 (Y i)],.ro n 2 fun i => [i64 (X i),i64 (Y i)]] (· = bo true):=by
 refine fnVC_go (rs:=[.tmp 4]) rfl rfl ?_
 simp only [go_sem]
 refine ⟨fun h => by simp at h,fun h => ?_⟩
 refine loopC_go (fun (i:Nat) => i ≤ n) (fun i => n - i) (fun i => [(13,i64 (i:Int))]) (fun _ => []) [] [14,15,5,16,17,18,19,20,21,22,23,24,4,25,13] 0 (by kernel_rfl) ?_ (Nat.zero_le _) ?_ ?_
 ·intro x _; simp [goodNames,asg]
 ·simp only [go_sem]
 intro i hi
 simp only [go_sem,forall_eq,beq_self_eq_true,bne_self_eq_false]
 exact ⟨fun h => ⟨by omega,h,by omega,h,fun _ => ⟨i + 1,by omega,by omega,by rw [wrap_in (by unfold inR; omega)]; rfl⟩⟩,fun _ => trivial⟩
def kSq:Con
 | [.ro n 2 g,b] => some ([spots n g,n ≤ 1000,b = .ro n 2 g],bo true)
 | _ => none
theorem con83:ConOK Tryz.prog 83 kSq:=ConOK.go (G:=[]) (H:=[]) .nil Tryz.func83 fun l ob rr hc hob => by
 unfold kSq at hc
 split at hc
 ·rename_i n g b
  cases hc
  have hs:spots n g:=hob _ (by simp)
  have hn:n ≤ 1000:=hob _ (by simp)
  have hb:b = .ro n 2 g:=hob _ (by simp)
  subst hb
  refine ⟨[.ro n 2 fun i => [i64 (gx g 0 i),i64 (gx g 1 i)],.ro n 2 fun i => [i64 (gx g 0 i),i64 (gx g 1 i)]],fun w I vs h => Rs_two (fun v hv => ro_alike (fun i hi => (hs i hi).1) hv) (fun v hv => ro_alike (fun i hi => (hs i hi).1) hv) h,by kernel_rfl,vc83 n _ _ hn⟩
 ·cases hc
theorem aEq139w {a0 b0:Int} {a1 b1:Int} {a2 b2:Int} {a3 b3:Int}:aEq Tryz.prog 139 (.agg [i64 a0,i64 a1,i64 a2,i64 a3]) (.agg [i64 b0,i64 b1,i64 b2,i64 b3]) = some ((a0 == b0) && ((a1 == b1) && ((a2 == b2) && ((a3 == b3) && true)))):=by kernel_rfl
theorem eq139w {xo yo:Operand} {neg:Bool} {a0 b0:Int} {a1 b1:Int} {a2 b2:Int} {a3 b3:Int}:eqE Tryz.prog neg 139 xo yo (.agg [i64 a0,i64 a1,i64 a2,i64 a3]) (.agg [i64 b0,i64 b1,i64 b2,i64 b3]) = some ⟨[],.v (.bool (negV neg ((a0 == b0) && ((a1 == b1) && ((a2 == b2) && ((a3 == b3) && true)))))),.none⟩:=eqE_agg aEq139w
attribute [go_sem] eq139w
theorem vc40 (k r w t:Int) (n:Nat) (X Y:Nat → Int) (hX:∀ i,i < n → inR (X i) ∧ inR (Y i)) (hn:n ≤ 1000):fnVC Tryz.prog [(83,kSq)] [] Tryz.f40 [shapeA k r w t n fun i => [i64 (X i),i64 (Y i)],shapeA k r w t n fun i => [i64 (X i),i64 (Y i)]] (· = bo true):=by
 refine fnVC_go (rs:=[.tmp 4]) rfl rfl ?_
 have hg:spots n fun i => [i64 (X i),i64 (Y i)]:=fun i hi => ⟨rfl,hX i hi⟩
 simp only [go_sem,kSq,kSq,hg,hn,beq_self_eq_true,Bool.and_self,Bool.and_true]
 exact fun _ => trivial
def kSh:Con
 | [.agg [.v (.int .i64 k),.v (.int .i64 r),.v (.int .i64 w),.v (.int .i64 t),.ro n 2 g],b] => some ([spots n g,n ≤ 1000,b = .agg [i64 k,i64 r,i64 w,i64 t,.ro n 2 g]],bo true)
 | _ => none
theorem con40:ConOK Tryz.prog 40 kSh:=ConOK.go (G:=[(83,kSq)]) (H:=[]) (.cons con83 .nil) Tryz.func40 fun l ob rr hc hob => by
 unfold kSh at hc
 split at hc
 ·rename_i k r w t n g b
  cases hc
  have hs:spots n g:=hob _ (by simp)
  have hn:n ≤ 1000:=hob _ (by simp)
  have hb:b = .agg [i64 k,i64 r,i64 w,i64 t,.ro n 2 g]:=hob _ (by simp)
  subst hb
  exact ⟨[shapeA k r w t n fun i => [i64 (gx g 0 i),i64 (gx g 1 i)],shapeA k r w t n fun i => [i64 (gx g 0 i),i64 (gx g 1 i)]],fun w I vs h => Rs_two (Rs_shape hs) (Rs_shape hs) h,by kernel_rfl,vc40 k r w t n _ _ (fun i hi => (hs i hi).2) hn⟩
 ·cases hc
def kb47:Con:=cB fun b rest => match rest with
 | [a] => some ([inB b,b.n ≤ 1000,a = .agg (bodyC b)],bo true)
 | _ => none
theorem con9:ConOK Tryz.prog 9 kb47:=ConOK.cB (G:=[(40,kSh)]) (H:=[]) (.cons con40 .nil) Tryz.func9 fun b rest ob r hc hob => by
 split at hc
 ·rename_i a
  cases hc
  have h_0:inB b:=hob _ (by simp)
  have h_1:b.n ≤ 1000:=hob _ (by simp)
  have h_2:a = .agg (bodyC b):=hob _ (by simp)
  obtain ⟨b1,b2,b3,b4,b5,b6,b7,b8,b9,b10,b11,b12,b13,b14,b15,b16⟩:=h_0
  have hb:inB b:=hob _ (by simp)
  subst h_2
  refine ⟨by kernel_rfl,fnVC_go (rs:=[.tmp 4]) rfl rfl ?_⟩
  simp only [bodyC,go_sem,kSh,cB_eq,cBR_eq,bodyD_lit,gx_pts0,gx_pts1,spots_can,etaN,etaV,bd_eta,b1,b2,b3,b4,b6,b7,b8,b9,b10,b11,b12,b13,b14,b15,b16,hb,h_1]
  intro z hz
  subst hz
  exact ⟨b5,(fun h => by cases h),by simp⟩
 ·cases hc
def slQ (b:Bd):Nat → Bd
 | 0 => b
 | i + 1 => resS (slQ b i)
theorem slQ_s {b:Bd} {i:Nat}:slQ b (i + 1) = resS (slQ b i):=rfl
theorem fst0 {b:Bd} (hv:b.v = zV) (hw:b.w = (0,false)):fstS b = 0:=by
 unfold fstS
 rw [hv,hw]
 decide +kernel
theorem slQ_eq {b:Bd} (hm:mvS b = true) (hs:b.sl = false) (hf:b.fa = false) (ht:b.st = 0) (hv:b.v = zV) (hw:b.w = (0,false)):∀ i:Nat,i < 30 → slQ b i = { b with st:=(i:Int) }
 | 0,_ => by
  show b = _
  cases b
  cases ht
  rfl
 | i + 1,h => by
  have e:=slQ_eq hm hs hf ht hv hw i (by omega)
  rw [slQ_s,e]
  have hi:idS { b with st:=(i:Int) } = false:=by
   unfold idS
   show (!mvS b || b.sl || b.fa) = false
   rw [hm,hs,hf]; rfl
  have hf0:fstS { b with st:=(i:Int) } = 0:=fst0 hv hw
  unfold resS
  rw [if_neg (by rw [hi]; decide),hf0,if_neg (by decide +kernel)]
  have hmn:min (i:Int) 29 + 1 = ((i + 1:Nat):Int):=by omega
  show (if min (i:Int) 29 + 1 = 30 then _ else _) = _
  rw [hmn,if_neg (by omega)]
theorem slQ_30 {b:Bd} (hm:mvS b = true) (hs:b.sl = false) (hf:b.fa = false) (ht:b.st = 0) (hv:b.v = zV) (hw:b.w = (0,false)):slQ b 30 = { rstS b with st:=30 }:=by
 have e:=slQ_eq hm hs hf ht hv hw 29 (by omega)
 rw [slQ_s,e]
 have hi:idS { b with st:=((29:Nat):Int) } = false:=by
  unfold idS
  show (!mvS b || b.sl || b.fa) = false
  rw [hm,hs,hf]; rfl
 have hf0:fstS { b with st:=((29:Nat):Int) } = 0:=fst0 hv hw
 unfold resS
 rw [if_neg (by rw [hi]; decide),hf0,if_neg (by decide +kernel),if_pos (by show min ((29:Nat):Int) 29 + 1 = 30; decide)]
 rfl
def dis (c d:Ct):Prop:=c.a.toNat ≠ d.a.toNat ∧ c.a.toNat ≠ d.b.toNat ∧ c.b.toNat ≠ d.a.toNat ∧ c.b.toNat ≠ d.b.toNat
structure kept (Q:Nat → Bd → Prop):Prop where
 psh:∀ i b p j,Q i b → Q i (pshS b p j)
 shf:∀ i b p,Q i b → Q i (shfS b p)
section
variable {Q:Nat → Bd → Prop} {N:Nat} {B:Nat → Bd}
end
theorem psh_still {b:Bd} {p j:V2} (h:mvS b = false):pshS b p j = b:=if_pos (by rw [h]; rfl)
end Go.Ax
end
section
namespace Go.Ax
def facM (k:Nat):Int:=2 * ((k:Int) + 1) * (2 * ((k:Int) + 1) + 1)
def tq (y:Int):Nat → Int
 | 0 => y
 | k + 1 => -((((tq y k * y).tdiv 4294967296 * y).tdiv 4294967296 * 4294967296).tdiv (facM k * 4294967296))
def sq (y:Int):Nat → Int
 | 0 => y
 | k + 1 => sq y k + tq y (k + 1)
end Go.Ax
end
section
set_option maxHeartbeats 4000000
set_option maxRecDepth 100000
namespace Go.Ax
open Go.Proofs
end Go.Ax
end
section
set_option maxHeartbeats 4000000
set_option maxRecDepth 100000
namespace Go.Ax
open Go.Proofs
end Go.Ax
end
section
set_option maxHeartbeats 4000000
set_option maxRecDepth 100000
namespace Go.Ax
open Go.Proofs
end Go.Ax
end
section
set_option maxHeartbeats 4000000
set_option maxRecDepth 100000
namespace Go.Ax
open Go.Proofs
end Go.Ax
end
section
set_option maxHeartbeats 4000000
set_option maxRecDepth 100000
namespace Go.Ax
open Go.Proofs
end Go.Ax
end
section
set_option maxHeartbeats 4000000
set_option maxRecDepth 100000
namespace Go.Ax
open Go.Proofs
end Go.Ax
end
section
set_option maxHeartbeats 4000000
set_option maxRecDepth 100000
namespace Go.Ax
open Go.Proofs
end Go.Ax
end
section
set_option maxHeartbeats 4000000
set_option maxRecDepth 100000
namespace Go.Ax
open Go.Proofs
end Go.Ax
end
section
set_option maxHeartbeats 4000000
set_option maxRecDepth 100000
namespace Go.Ax
open Go.Proofs
end Go.Ax
end
section
set_option maxHeartbeats 4000000
set_option maxRecDepth 100000
namespace Go.Ax
open Go.Proofs
end Go.Ax
end
section
set_option maxHeartbeats 4000000
set_option maxRecDepth 100000
namespace Go.Ax
open Go.Proofs
end Go.Ax
end
section
set_option maxHeartbeats 4000000
set_option maxRecDepth 100000
namespace Go.Ax
open Go.Proofs
end Go.Ax
end
section
set_option maxHeartbeats 4000000
set_option maxRecDepth 100000
namespace Go.Ax
open Go.Proofs
structure Th where
 a:Int
 b:Int
 c:Int
 x:Int
 y:Int
 u:Int
 p:Int
 q:Int
 r:Int
 d:Int
 k:Int
def ctP (c:Ct) (a b:Nb):Ct:={ c with p0:=a,p1:=b }
def ctR (c:Ct) (a b:Nb):Ct:={ c with r0:=a,r1:=b }
theorem put7_cont {c:Ct} {a b:Int} {e f:Bool}:List.take 7 (contC c) ++ [i64 a,bo e,i64 b,bo f] ++ List.drop 11 (contC c) = contC (ctP c (a,e) (b,f)):=(rfl)
theorem put11_cont {c:Ct} {a b:Int} {e f:Bool}:List.take 11 (contC c) ++ [i64 a,bo e,i64 b,bo f] = contC (ctR c (a,e) (b,f)):=(rfl)
theorem take15_cont {c:Ct}:List.take 15 (contC c) = contC c:=(rfl)
theorem len15_cont {c:Ct}:(contC c).length = 15:=(rfl)
attribute [go_sem] put7_cont put11_cont take15_cont len15_cont
def k23n:Con
 | [.agg [.v (.int .i64 k),.v (.int .i64 r),.v (.int .i64 w),.v (.int .i64 t),.v (.slice none 0 0)],.agg [.v (.int .i64 x),.v (.bool e),.v (.int .i64 y),.v (.bool f),.v (.int .i64 c),.v (.bool o),.v (.int .i64 s),.v (.bool p)],.v (.int .i64 d),.v (.bool mv)] => some ([inR x,inR y,inR c,inR s,inR r,inR d],.tup [boA (nwB k r w t 0 (fun _ => 0) (fun _ => 0) ((x,e),(y,f)) ((c,o),(s,p)) d mv),i64 (nwE k r w t 0 (fun _ => 0) (fun _ => 0) ((x,e),(y,f)) ((c,o),(s,p)) d mv)])
 | _ => none
theorem kon23n:ConOK Tryz.prog 23 k23n:=ConOK.goR (G:=[(62,c62),(63,c63),(64,c64),(65,c65)]) (H:=[(4,⟨[(5,.made 4)],[]⟩)]) (.cons con62 (.cons con63 (.cons con64 (.cons con65 .nil)))) Tryz.func23 fun l ob rr hc hob => by
 unfold k23n at hc
 split at hc
 ·rename_i k r w t x e y f c o s p d mv
  cases hc
  refine ⟨[shapeA k r w t 0 fun i => [i64 0,i64 0],poseA ((x,e),(y,f)) ((c,o),(s,p)),i64 d,bo mv],fun w I vs h => ?_,by kernel_rfl,vc23 k r w t 0 _ _ ((x,e),(y,f)) ((c,o),(s,p)) d mv (fun i hi => absurd hi (by omega)) (by omega) (hob _ (by simp)) (hob _ (by simp)) (hob _ (by simp)) (hob _ (by simp)) (hob _ (by simp)) (hob _ (by simp))⟩
  obtain ⟨x1,xs,rfl,p1,p2⟩:=h.inv
  exact .cons (alk_shape alk_nil _ _ _ p1) p2
 ·cases hc
theorem nil_ro27 {w:World} {ρ:Env} {v:Value} {f:Nat → List AV} (hR:R w ρ (.v (.slice none 0 0)) v):R w ρ (.ro 0 27 f) v:=by
 cases hR
 exact .ro 0 0 (Nat.le_refl _) (fun h => absurd h (by omega)) (fun h => absurd h (by omega)) (fun i h => absurd h (by omega)) (fun i k h => absurd h (by omega)) (fun i k c x h => absurd h (by omega))
def kTotW:Con
 | [.v (.slice none 0 0)] => some ([],.agg [i64 0,bo false,i64 0,bo false])
 | [.ro 1 27 g] => some ([g 0 = bodyC (bodyD (g 0)),inB (bodyD (g 0)),(bodyD (g 0)).n ≤ 1000],totA (momL (bsD g) 1).1 (momL (bsD g) 1).2)
 | _ => none
theorem konTotW:ConOK Tryz.prog 37 kTotW:=fun l ob r hc hob => by
 unfold kTotW at hc
 split at hc
 ·cases hc
  have:=con37 [.ro 0 27 (bsC (bsD fun _ => []))] _ _ rfl (fun p hp => by
   simp only [List.mem_cons,List.not_mem_nil,or_false] at hp
   rcases hp with rfl | rfl | rfl
   ·rfl
   ·omega
   ·exact fun i hi => absurd hi (by omega))
  intro I w vs hI hR
  obtain ⟨x1,xs,rfl,p1,p2⟩:=hR.inv
  exact this I w _ hI (.cons (nil_ro27 p1) p2)
 ·rename_i g
  cases hc
  have h1:g 0 = bodyC (bodyD (g 0)):=hob _ (by simp)
  have h2:inB (bodyD (g 0)):=hob _ (by simp)
  have h3:(bodyD (g 0)).n ≤ 1000:=hob _ (by simp)
  have:=con37 [.ro 1 27 (bsC (bsD g))] _ _ rfl (fun p hp => by
   simp only [List.mem_cons,List.not_mem_nil,or_false] at hp
   rcases hp with rfl | rfl | rfl
   ·rfl
   ·omega
   ·intro i hi
    have e:i = 0:=by omega
    subst e
    exact ⟨h2,h3⟩)
  intro I w vs hI hR
  obtain ⟨x1,xs,rfl,p1,p2⟩:=hR.inv
  refine this I w _ hI (.cons (ro_alike (fun i hi => ?_) p1) p2)
  have e:i = 0:=by omega
  subst e
  exact h1
 ·cases hc
def withV (b:Bd) (v:V2):Bd:={ b with v:=v }
def withX (b:Bd) (x:Nb):Bd:={ b with pl:=(x,b.pl.2) }
section
variable {b:Bd} {x y:Int} {e f:Bool}
theorem dropK5:List.drop 5 (bodyC b) = [i64 b.pl.1.1,bo b.pl.1.2,i64 b.pl.2.1,bo b.pl.2.2,i64 b.rot.1.1,bo b.rot.1.2,i64 b.rot.2.1,bo b.rot.2.2,i64 b.v.1.1,bo b.v.1.2,i64 b.v.2.1,bo b.v.2.2,i64 b.w.1,bo b.w.2,i64 b.m.1,bo b.m.2,i64 b.i.1,bo b.i.2,i64 b.st,bo b.sl,bo b.fa,i64 b.ve]:=(rfl)
theorem dropK13:List.drop 13 (bodyC b) = [i64 b.v.1.1,bo b.v.1.2,i64 b.v.2.1,bo b.v.2.2,i64 b.w.1,bo b.w.2,i64 b.m.1,bo b.m.2,i64 b.i.1,bo b.i.2,i64 b.st,bo b.sl,bo b.fa,i64 b.ve]:=(rfl)
theorem dropK19:List.drop 19 (bodyC b) = [i64 b.m.1,bo b.m.2,i64 b.i.1,bo b.i.2,i64 b.st,bo b.sl,bo b.fa,i64 b.ve]:=(rfl)
theorem dropK23:List.drop 23 (bodyC b) = [i64 b.st,bo b.sl,bo b.fa,i64 b.ve]:=(rfl)
theorem dropK24:List.drop 24 (bodyC b) = [bo b.sl,bo b.fa,i64 b.ve]:=(rfl)
theorem dropK25:List.drop 25 (bodyC b) = [bo b.fa,i64 b.ve]:=(rfl)
theorem putV:List.take 13 (bodyC b) ++ [i64 x,bo e,i64 y,bo f] ++ List.drop 17 (bodyC b) = bodyC (withV b ((x,e),(y,f))):=(rfl)
theorem putX:List.take 5 (bodyC b) ++ [i64 x,bo e] ++ List.drop 7 (bodyC b) = bodyC (withX b (x,e)):=(rfl)
end
attribute [go_sem] dropK5 dropK13 dropK19 dropK23 dropK24 dropK25 putV putX
theorem n_8:nInt (-8) = (-34359738368,false):=by decide
theorem n_255:nInt (-255) = (-1095216660480,false):=by decide
theorem n_4:nInt (-4) = (-17179869184,false):=by decide
theorem n_256:nInt (-256) = (-1099511627776,false):=by decide
theorem n2:nInt 2 = (8589934592,false):=by decide
theorem n4:nInt 4 = (17179869184,false):=by decide
def kHitX:Con
 | [.ro 2 27 g,.agg [.v (.int .i64 a),.v (.int .i64 b),.v (.int .i64 x),.v (.bool e),.v (.int .i64 y),.v (.bool f),.ro n 6 t,.v (.int .i64 p),.v (.bool q),.v (.int .i64 r),.v (.bool s),.v (.int .i64 u),.v (.bool v),.v (.int .i64 z),.v (.bool o)]] =>
  some ([∀ i,i < 2 → g i = bsC (bsD g) i,∀ i,i < n → t i = tchs (tchP t) (tchD t) i,inBs 2 (bsD g),inC ⟨a,b,((x,e),(y,f)),n,tchP t,tchD t,(p,q),(r,s),(u,v),(z,o)⟩,n ≤ 1000],
   .tup [.ro 2 27 (bsC (hitT 2 (bsD g) ⟨a,b,((x,e),(y,f)),n,tchP t,tchD t,(p,q),(r,s),(u,v),(z,o)⟩)),.agg (contC (hitC 2 (bsD g) ⟨a,b,((x,e),(y,f)),n,tchP t,tchD t,(p,q),(r,s),(u,v),(z,o)⟩))])
 | _ => none
theorem konHitX:ConOK Tryz.prog 35 kHitX:=fun l ob rr hc hob => by
 unfold kHitX at hc
 split at hc
 ·rename_i g a b x e y f n t p q r s u v z o
  cases hc
  have h1:∀ i,i < 2 → g i = bsC (bsD g) i:=hob _ (by simp)
  have h2:∀ i,i < n → t i = tchs (tchP t) (tchD t) i:=hob _ (by simp)
  have h3:inBs 2 (bsD g):=hob _ (by simp)
  have h4:inC ⟨a,b,((x,e),(y,f)),n,tchP t,tchD t,(p,q),(r,s),(u,v),(z,o)⟩:=hob _ (by simp)
  have h5:n ≤ 1000:=hob _ (by simp)
  clear hob
  have:=con35 [.ro 2 27 (bsC (bsD g)),.agg (contC ⟨a,b,((x,e),(y,f)),n,tchP t,tchD t,(p,q),(r,s),(u,v),(z,o)⟩)] _ _ rfl (fun w hw => by
   simp only [List.mem_cons,List.not_mem_nil,or_false] at hw
   rcases hw with rfl | rfl | rfl | rfl | rfl | rfl
   ·rfl
   ·omega
   ·exact h3
   ·rfl
   ·exact h4
   ·exact h5)
  intro I w vs hI hR
  obtain ⟨x1,xs,rfl,p1,p2⟩:=hR.inv
  obtain ⟨x2,ys,rfl,p3,p4⟩:=p2.inv
  refine this I w _ hI (.cons (ro_alike h1 p1) (.cons ?_ p4))
  cases p3 with
  | agg hl hh =>
   refine .agg hl fun i c v h6 h7 => ?_
   by_cases hi:i = 6
   ·subst hi
    have e6:some (AV.ro n 6 (tchs (tchP t) (tchD t))) = some c:=h6
    cases e6
    exact ro_alike h2 (hh 6 _ v rfl h7)
   ·refine hh i c v ?_ h7
    rw [← h6]
    match i,hi with
    | 0,_ | 1,_ | 2,_ | 3,_ | 4,_ | 5,_ | 7,_ | 8,_ | 9,_ | 10,_ | 11,_ | 12,_ | 13,_ | 14,_ => rfl
    | 6,hi => exact absurd rfl hi
    | k + 15,_ => rfl
 ·cases hc
section
variable {c:Ct}
theorem dropC7:List.drop 7 (contC c) = [i64 c.p0.1,bo c.p0.2,i64 c.p1.1,bo c.p1.2,i64 c.r0.1,bo c.r0.2,i64 c.r1.1,bo c.r1.2]:=(rfl)
theorem dropC11:List.drop 11 (contC c) = [i64 c.r0.1,bo c.r0.2,i64 c.r1.1,bo c.r1.2]:=(rfl)
end
attribute [go_sem] dropC7 dropC11
def rot1:V2:=((4294967296,false),(0,false))
def ballB:Bd:=⟨1,256,0,0,0,fun _ => 0,fun _ => 0,zV,rot1,zV,(0,false),(1367130551,false),(2734261102,false),0,false,false,1⟩
def wallB:Bd:=⟨2,0,256,256,0,fun _ => 0,fun _ => 0,((8589934592,false),(0,false)),rot1,zV,(0,false),(0,false),(0,false),0,false,false,1⟩
theorem k_ball:nwB 1 256 0 0 0 (fun _ => 0) (fun _ => 0) ((0,false),(0,false)) ((4294967296,false),(0,false)) 1 true = ballB:=by kernel_rfl
theorem k_wall:nwB 2 0 256 256 0 (fun _ => 0) (fun _ => 0) ((8589934592,false),(0,false)) ((4294967296,false),(0,false)) 0 false = wallB:=by kernel_rfl
theorem k_e1:nwE 1 256 0 0 0 (fun _ => 0) (fun _ => 0) ((0,false),(0,false)) ((4294967296,false),(0,false)) 0 true = 3:=by decide +kernel
theorem k_e2:nwE 1 256 0 0 0 (fun _ => 0) (fun _ => 0) ((0,false),(0,false)) ((4294967296,false),(0,false)) 1 false = 3:=by decide +kernel
theorem k_e3:nwE 2 0 256 256 0 (fun _ => 0) (fun _ => 0) ((8589934592,false),(0,false)) ((4294967296,false),(0,false)) 0 false = 0:=by decide +kernel
theorem k_e4:nwE 1 256 0 0 0 (fun _ => 0) (fun _ => 0) ((0,false),(0,false)) ((4294967296,false),(0,false)) 1 true = 0:=by decide +kernel
theorem inR_k {x:Int} (h:-10000000000000000 ≤ x ∧ x ≤ 10000000000000000):inR x:=by unfold inR; omega
theorem ball_in:inB ballB:=⟨inR_k (by decide),inR_k (by decide),inR_k (by decide),inR_k (by decide),fun j hj => absurd hj (by show ¬ j < 0; omega),inR_k (by decide),inR_k (by decide),inR_k (by decide),inR_k (by decide),inR_k (by decide),inR_k (by decide),inR_k (by decide),inR_k (by decide),inR_k (by decide),inR_k (by decide),inR_k (by decide)⟩
theorem wall_in:inB wallB:=⟨inR_k (by decide),inR_k (by decide),inR_k (by decide),inR_k (by decide),fun j hj => absurd hj (by show ¬ j < 0; omega),inR_k (by decide),inR_k (by decide),inR_k (by decide),inR_k (by decide),inR_k (by decide),inR_k (by decide),inR_k (by decide),inR_k (by decide),inR_k (by decide),inR_k (by decide),inR_k (by decide)⟩
def fastB:Bd:={ ballB with v:=((0,false),(-1095216660480,false)) }
def fas2B:Bd:={ ballB with v:=((8589934592,false),(0,false)) }
theorem k_pul:(pulS ballB ((0,false),(-34359738368,false)) (2147483648,false)).v = ((0,false),(-17179869184,false)):=by decide +kernel
theorem k_pul2:(pulS fastB ((0,false),(-34359738368,false)) (4294967296,false)).v = ((0,false),(-1099511627776,false)):=by decide +kernel
theorem s_fast:withV ballB ((0,false),(-1095216660480,false)) = fastB:=(rfl)
theorem s_fas2:withV fastB ((8589934592,false),(0,false)) = fas2B:=(rfl)
def edgeB:Bd:=rndB 17592186044416 ballB.m ballB.i
def edg2B:Bd:={ edgeB with v:=((4294967296,false),(0,false)) }
theorem s_edge:rndB 17592186044416 ballB.m ballB.i = edgeB:=(rfl)
theorem s_edg2:withV edgeB ((4294967296,false),(0,false)) = edg2B:=(rfl)
def inl (b:Bd):Prop:=b.n = 0 ∧ -10000000000000000 ≤ b.k ∧ b.k ≤ 10000000000000000 ∧ -10000000000000000 ≤ b.r ∧ b.r ≤ 10000000000000000 ∧ -10000000000000000 ≤ b.wd ∧ b.wd ≤ 10000000000000000 ∧ -10000000000000000 ≤ b.ht ∧ b.ht ≤ 10000000000000000 ∧ -10000000000000000 ≤ b.pl.1.1 ∧ b.pl.1.1 ≤ 10000000000000000 ∧ -10000000000000000 ≤ b.pl.2.1 ∧ b.pl.2.1 ≤ 10000000000000000 ∧ -10000000000000000 ≤ b.rot.1.1 ∧ b.rot.1.1 ≤ 10000000000000000 ∧ -10000000000000000 ≤ b.rot.2.1 ∧ b.rot.2.1 ≤ 10000000000000000 ∧ -10000000000000000 ≤ b.v.1.1 ∧ b.v.1.1 ≤ 10000000000000000 ∧ -10000000000000000 ≤ b.v.2.1 ∧ b.v.2.1 ≤ 10000000000000000 ∧ -10000000000000000 ≤ b.w.1 ∧ b.w.1 ≤ 10000000000000000 ∧ -10000000000000000 ≤ b.m.1 ∧ b.m.1 ≤ 10000000000000000 ∧ -10000000000000000 ≤ b.i.1 ∧ b.i.1 ≤ 10000000000000000 ∧ -10000000000000000 ≤ b.st ∧ b.st ≤ 10000000000000000 ∧ -10000000000000000 ≤ b.ve ∧ b.ve ≤ 10000000000000000
instance {b:Bd}:Decidable (inl b):=by unfold inl; infer_instance
theorem inl_in {b:Bd} (h:inl b):inB b:=by
 unfold inl at h
 exact ⟨inR_k (by omega),inR_k (by omega),inR_k (by omega),inR_k (by omega),fun j hj => absurd hj (by omega),inR_k (by omega),inR_k (by omega),inR_k (by omega),inR_k (by omega),inR_k (by omega),inR_k (by omega),inR_k (by omega),inR_k (by omega),inR_k (by omega),inR_k (by omega),inR_k (by omega)⟩
theorem fast_in:inB fastB:=inl_in (by decide +kernel)
theorem fas2_in:inB fas2B:=inl_in (by decide +kernel)
theorem edg2_in:inB edg2B:=inl_in (by decide +kernel)
theorem k_g1:(goS fas2B (2147483648,false)).pl = ((4294967296,false),(0,false)):=by decide +kernel
theorem k_g2:(goS edg2B (4294967296,false)).fa = true:=by decide +kernel
theorem k_g3:(goS edg2B (4294967296,false)).sl = true:=by decide +kernel
theorem k_g4:(goS edg2B (4294967296,false)).pl = edg2B.pl:=by decide +kernel
theorem k_g5:(goS edg2B (4294967296,false)).rot = edg2B.rot:=by decide +kernel
theorem k_g6:(goS edg2B (4294967296,false)).v = ((0,false),(0,false)):=by decide +kernel
def hardB:Bd:={ rndB 0 (4294967296,false) (4294967296,false) with v:=((4294967296,false),(0,false)) }
theorem s_hard:withV (rndB 0 (4294967296,false) (4294967296,false)) ((4294967296,false),(0,false)) = hardB:=(rfl)
theorem hard_in:inB hardB:=inl_in (by decide +kernel)
def hitCt:Ct:=⟨0,1,((4294967296,false),(0,false)),1,tchP (rowsOf 6 [i64 4294967296,bo false,i64 0,bo false,i64 0,bo false]),tchD (rowsOf 6 [i64 4294967296,bo false,i64 0,bo false,i64 0,bo false]),(0,false),(0,false),(0,false),(0,false)⟩
theorem s_ct:(⟨0,1,((4294967296,false),(0,false)),1,tchP (rowsOf 6 [i64 4294967296,bo false,i64 0,bo false,i64 0,bo false]),tchD (rowsOf 6 [i64 4294967296,bo false,i64 0,bo false,i64 0,bo false]),(0,false),(0,false),(0,false),(0,false)⟩:Ct) = hitCt:=(rfl)
theorem s_row:(∀ i:Nat,i < 1 → List.take 6 (List.drop (i * 6) [i64 4294967296,bo false,i64 0,bo false,i64 0,bo false]) = tchs (tchP (rowsOf 6 [i64 4294967296,bo false,i64 0,bo false,i64 0,bo false])) (tchD (rowsOf 6 [i64 4294967296,bo false,i64 0,bo false,i64 0,bo false])) i) = True:=eq_true fun i hi => by
 have e:i = 0:=by omega
 subst e
 rfl
theorem ct_in:inC hitCt:=⟨inR_k (by decide),inR_k (by decide),inR_k (by decide),inR_k (by decide),fun q hq => (by
 have hq:q < 1:=hq
 have e:q = 0:=by omega
 subst e
 exact ⟨inR_k (by decide),inR_k (by decide),inR_k (by decide)⟩),inR_k (by decide),inR_k (by decide),inR_k (by decide),inR_k (by decide)⟩
theorem k_h1:(hitT 2 (bsD (ros2 hardB wallB)) hitCt 0).v = ((0,false),(0,false)):=by decide +kernel
theorem k_h2:hitT 2 (bsD (ros2 hardB wallB)) hitCt 1 = wallB:=by kernel_rfl
theorem k_h3:(hitC 2 (bsD (ros2 hardB wallB)) hitCt).p0 = (4294967296,false):=by decide +kernel
theorem k_h4:(hitC 2 (bsD (ros2 hardB wallB)) hitCt).p1 = (0,false):=by decide +kernel
theorem k_h5:(hitC 2 (bsD (ros2 hardB wallB)) hitCt).r0 = (0,false):=by decide +kernel
theorem k_h6:(hitC 2 (bsD (ros2 hardB wallB)) hitCt).r1 = (0,false):=by decide +kernel
def lghB:Bd:={ rndB 0 (2147483648,false) (4294967296,false) with v:=((8589934592,false),(0,false)) }
theorem s_lgh:withV (rndB 0 (2147483648,false) (4294967296,false)) ((8589934592,false),(0,false)) = lghB:=(rfl)
theorem lgh_in:inB lghB:=inl_in (by decide +kernel)
theorem k_j1:cjS 2 2 0 0 ((0,false),(0,false)) ((0,false),(0,false)) (0,false) = 3:=by decide +kernel
theorem k_j2:cjS 1 1 0 0 ((0,false),(0,false)) ((0,false),(0,false)) (4294967296,false) = 4:=by decide +kernel
theorem k_m1:su1 (momL (bsD (rowsOf 27 (bodyC lghB))) 1).1 (gx (vcsC (momL (bsD (rowsOf 27 (bodyC lghB))) 1).2) 0) (gb (vcsC (momL (bsD (rowsOf 27 (bodyC lghB))) 1).2) 1) = (17179869184,false):=by kernel_rfl
theorem k_m2:su1 (momL (bsD (rowsOf 27 (bodyC lghB))) 1).1 (gx (vcsC (momL (bsD (rowsOf 27 (bodyC lghB))) 1).2) 2) (gb (vcsC (momL (bsD (rowsOf 27 (bodyC lghB))) 1).2) 3) = (0,false):=by kernel_rfl
def slpB:Bd:={ rstS ballB with st:=30 }
theorem k_s1:slpB.sl = true:=rfl
theorem k_s2:(wakS slpB).st = 0:=by decide +kernel
theorem k_s3:(wakS slpB).sl = false:=by decide +kernel
theorem slp_in:inB slpB:=inl_in (by decide +kernel)
def walfB:Bd:={ wallB with pl:=((10737418240,false),(0,false)) }
theorem walf_in:inB walfB:=inl_in (by decide +kernel)
theorem s_wal1:withX wallB (10737418240,false) = walfB:=(rfl)
theorem s_wal2:withX walfB (8589934592,false) = wallB:=(rfl)
theorem k_t1:touB ballB wallB = true:=by decide +kernel
theorem k_t2:touB ballB walfB = false:=by decide +kernel
theorem vc6:fnVC Tryz.prog [(18,kw55),(23,k23n),(20,c20),(10,kb10),(9,kb47),(33,k50),(28,kb28),(14,kb14),(34,kw72),(11,kb11),(12,kb12),(13,kb13),(29,kTou),(35,kHitX),(36,kj51),(37,kTotW)] [(20,⟨[(4,.made 3)],[]⟩),(40,⟨[(17,.made 15)],[]⟩),(45,⟨[(5,.made 4)],[]⟩)] Tryz.f6 [] (· = bo true):=by
 refine fnVC_go (rs:=[.tmp 0]) rfl rfl ?_
 simp only [s_fast,s_fas2,s_edge,s_edg2,k_ball,k_wall,k_e1,k_e2,k_e3,k_e4,n_8,n_255,n_4,n_256,n2,n4,go_sem,kw55,k23n,c20,kb10,kb47,k50,kb28,kb14,kw72,kb11,kb12,kb13,kTou,kHitX,kj51,kTotW,boA,cLw_eq,cL_eq,cB_eq,kHit]
 simp only [s_fast,s_fas2,s_edge,s_edg2,forall_eq,k_ball,k_wall,k_e1,k_e2,k_e3,k_e4,ball_in,wall_in,fast_in,fas2_in,edg2_in,k_pul,k_pul2,k_g1,k_g2,k_g3,k_g4,k_g5,k_g6,Bool.and_self,Bool.true_eq_false,psh_still (b:=wallB) rfl,beq_self_eq_true,bne_self_eq_false,reduceCtorEq,false_imp_iff,true_imp_iff,true_and,and_true,implies_true,or_self,and_self]
 have nw:wallB.n ≤ 1000:=by decide
 have nb:ballB.n ≤ 1000:=by decide
 have nf:fastB.n ≤ 1000:=by decide
 have ne:edg2B.n ≤ 1000:=by decide
 have n2':fas2B.n ≤ 1000:=by decide
 refine ⟨inR_k (by decide),inR_k (by decide),inR_k (by decide),inR_k (by decide),inR_k (by decide),nw,nw,inR_k (by decide),nb,inR_k (by decide),nb,inR_k (by decide),inR_k (by decide),inR_k (by decide),nf,inR_k (by decide),inR_k (by decide),ne,inR_k (by decide),n2',inR_k (by decide),?_⟩
 have bv:ballB.v = zV:=rfl
 have sE:∀ i,i < 30 → slQ ballB i = { ballB with st:=(i:Int) }:=fun i hi => slQ_eq rfl rfl rfl rfl rfl rfl i hi
 have sL:slQ ballB 30 = slpB:=slQ_30 rfl rfl rfl rfl rfl rfl
 have sI:∀ i,i ≤ 30 → inB (slQ ballB i) ∧ (slQ ballB i).n ≤ 1000:=fun i hi => by
  by_cases h:i < 30
  ·rw [sE i h]
   obtain ⟨b1,b2,b3,b4,b5,b6,b7,b8,b9,b10,b11,b12,b13,b14,b15,b16⟩:=ball_in
   exact ⟨⟨b1,b2,b3,b4,b5,b6,b7,b8,b9,b10,b11,b12,b13,b14,by show inR (i:Int); unfold inR; omega,b16⟩,nb⟩
  ·rw [show i = 30 by omega,sL]
   exact ⟨inl_in (by decide +kernel),by decide⟩
 refine loopC_go (fun (i:Nat) => i ≤ 30) (fun i => 30 - i) (fun i => [(15,i64 (i:Int))]) (fun i => [(158,fam1 40 27 (bodyC (slQ ballB i)) none)]) [76,56,47] [152,153,156,157,0,158,159,154,155,15] 0 (by kernel_rfl) ?_ (Nat.zero_le _) ?_ ?_
 ·intro i _; simp [goodNames,asg]
 ·simp only [go_sem]
  exact fitL_clean rfl
 intro i hi
 by_cases h30:i < 30
 ·obtain ⟨i1,i2⟩:=sI i hi
  have hs:(slQ ballB i).sl = false:=by rw [sE i h30]; rfl
  have hn:slQ ballB (i + 1) = resS (slQ ballB i):=rfl
  simp only [go_sem,kw55,k23n,c20,kb10,kb47,k50,kb28,kb14,kw72,kb11,kb12,kb13,kTou,kHitX,kj51,kTotW,cB_eq,i1,i2,hs]
  refine ⟨fun h _ z hz => ⟨i + 1,by omega,by omega,by rw [hz,wrap_in (by unfold inR; omega)]; rfl,fitL_clean rfl⟩,fun h => absurd h (by omega)⟩
 have e30:i = 30:=by omega
 subst e30
 rw [sL]
 simp only [s_wal1,s_wal2,k_s1,k_s2,k_s3,n_8,n_255,n_4,n_256,n2,n4,go_sem,kw55,k23n,c20,kb10,kb47,k50,kb28,kb14,kw72,kb11,kb12,kb13,kTou,kHitX,kj51,kTotW,boA,totA,mfA,manC,cLw_eq,cL_eq,cB_eq,kHit,contD_C,ball_in,wall_in,slp_in,hard_in,walf_in,s_hard]
 simp only [s_lgh,lgh_in,k_j1,k_j2,k_m1,k_m2,s_hard,s_ct,s_row,ct_in,hard_in,wall_in,k_h1,k_h2,k_h3,k_h4,k_h5,k_h6,beq_self_eq_true,Bool.and_self,s_wal1,s_wal2,k_t1,k_t2,k_s1,k_s2,k_s3,forall_eq,bne_self_eq_false,reduceCtorEq,false_imp_iff,true_imp_iff,true_and,and_true,implies_true,or_self,and_self]
 exact ⟨by decide,by decide,nb,nw,nb,by decide,⟨by decide,nw⟩,nw,by decide,inR_k (by decide)⟩
end Go.Ax
end
section
namespace Go.Ax
open Go.ChangeShapes Go.WideShapes Go.ChangeAt Go.RowKit
inductive ShV where
 | int (k:IntKind)
 | bool
 | agg (es:List Sh)
 | slice (sz:Nat) (es:List Sh)
def shV (P:Program) (t:TypeId):Option ShV:=
 match P.underlying t with
 | some .bool => some .bool
 | some (.int k) => some (.int k)
 | some (.slice _) => match shT P 6 t with
  | some [.slice sz es] => some (.slice sz es)
  | _ => none
 | some (.struct _) => (shT P 6 t).map .agg
 | some (.array _ _) => (shT P 6 t).map .agg
 | _ => none
def fitV:ShV → AV → Prop
 | .int k,a => ∃ n,a = .v (.int k n) ∧ (Lit.int k n).wf = true
 | .bool,a => ∃ b,a = .v (.bool b)
 | .agg es,a => ∃ l,a = .agg l ∧ fitS es l
 | .slice sz es,a => ∃ (n:Nat) (get:Nat → List AV),a = .ro n sz get ∧ n ≤ maxLen ∧ ∀ i,fitS es (get i)
def shVs (P:Program):List TypeId → Option (List ShV)
 | [] => some []
 | t :: ts => match shV P t,shVs P ts with
  | some s,some r => some (s :: r)
  | _,_ => none
def fitVs:List ShV → List AV → Prop
 | [],l => l = []
 | s :: ss,l => ∃ a r,l = a :: r ∧ fitV s a ∧ fitVs ss r
section
variable {H:Type} {enc:TypeId × Value → H} {P:Program} {w:World} {spare:Nat → Bool} {held:Bool} {base:Nat}
theorem okWide_agg_struct {t:TypeId} {fs:Array Field} {v:Value} (ht:P.underlying t = some (.struct fs)) (h:Value.okWide P w .any base t v):∃ cs,v = .agg cs:=by
 obtain ⟨cs,h,_⟩:=okWide_struct ht h
 exact ⟨cs,h⟩
theorem trod_agg_array {t e:TypeId} {n:Nat} {v:Value} {x:DataW H} {ps:List MemPlace} (ht:P.underlying t = some (.array n e)) (h:Value.okWide P w .any base t v):∃ cs,v = .agg cs:=by
 cases v <;> simp [Value.okWide,Value.ok,ht] at h <;> exact ⟨_,rfl⟩
theorem arg_read {t:TypeId} {s:ShV} {v:Value} {x:DataW H} {ps:List MemPlace} (hs:shV P t = some s) (ho:Value.okWide P w .any base t v) (h:DataW.Trod enc P w 0 spare held t v x ps):∃ a,fitV s a ∧ R w (.ext (All w)) a v:=by
 unfold shV at hs
 split at hs
 ·rename_i hu
  cases hs
  obtain ⟨b,rfl⟩:=okWide_bool hu ho
  exact ⟨_,⟨b,rfl⟩,.v⟩
 ·rename_i k hu
  cases hs
  obtain ⟨n,rfl,_,_,hw⟩:=open_int hu ho h
  exact ⟨_,⟨n,rfl,hw⟩,.v⟩
 ·rename_i e hu
  split at hs
  ·rename_i sz es he
   cases hs
   obtain ⟨a,len,cap,rfl⟩:=okWide_slice hu ho
   obtain ⟨n,get,h1,h2,h3⟩:=slice_read he h
   exact ⟨_,⟨n,get,rfl,h1,h2⟩,h3⟩
  ·cases hs
 ·rename_i fs hu
  obtain ⟨es,he,rfl⟩:=Option.map_eq_some_iff.1 hs
  obtain ⟨cs,rfl⟩:=okWide_agg_struct hu ho
  obtain ⟨l,h1,h2⟩:=agg_read he h
  exact ⟨_,⟨l,rfl,h1⟩,h2⟩
 ·rename_i n e hu
  obtain ⟨es,he,rfl⟩:=Option.map_eq_some_iff.1 hs
  obtain ⟨cs,rfl⟩:=trod_agg_array (x:=x) (ps:=ps) hu ho
  obtain ⟨l,h1,h2⟩:=agg_read he h
  exact ⟨_,⟨l,rfl,h1⟩,h2⟩
 ·cases hs
theorem args_read:∀ {ts:List TypeId} {ss:List ShV} {vs:List Value} {ds:List (DataW H)} {ps:List MemPlace},shVs P ts = some ss → (∀ (j:Nat) t v,ts[j]? = some t → vs[j]? = some v → Value.okWide P w .any base t v) →
  DataW.TrodAll enc P w 0 spare held ts vs ds ps → ∃ l,fitVs ss l ∧ Rs w (.ext (All w)) l vs
 | [],ss,vs,ds,ps,hs,ho,h => by
  simp only [shVs,Option.some.injEq] at hs
  subst hs
  obtain ⟨rfl,rfl,rfl⟩:=trodAll_nil h
  exact ⟨[],rfl,.nil⟩
 | t :: ts,ss,vs,ds,ps,hs,ho,h => by
  simp only [shVs] at hs
  split at hs
  ·rename_i s r h1 h2
   cases hs
   obtain ⟨v,vs',d,ds',p,q,rfl,rfl,rfl,h3,h4⟩:=trodAll_cons h
   obtain ⟨a,a1,a2⟩:=arg_read h1 (ho 0 t v rfl rfl) h3
   obtain ⟨l,b1,b2⟩:=args_read h2 (fun j t v hj hv => ho (j + 1) t v (by simpa using hj) (by simpa using hv)) h4
   exact ⟨a :: l,⟨a,l,rfl,a1,b1⟩,Rs.cons a2 b2⟩
  ·cases hs
def readOK (P:Program) (ts:List TypeId):Bool:=ts.all fun t => P.readableRec t && decide (t < P.types.size)
theorem args_stay {W W':World} (hl:laidOutB P = true) (hb:Below W.heap.size W W'):∀ {ts:List TypeId} {vs:List Value} {ds:List (DataW H)} {ps:List MemPlace},readOK P ts = true →
  DataW.TrodAll enc P W 0 (fun _ => true) true ts vs ds ps → ∃ ps,DataW.TrodAll enc P W' 0 (fun b => decide (b < W.heap.size)) true ts vs ds ps
 | [],vs,ds,ps,_,h => by
  obtain ⟨rfl,rfl,rfl⟩:=trodAll_nil h
  exact ⟨[],rfl⟩
 | t :: ts,vs,ds,ps,hr,h => by
  obtain ⟨v,vs',d,ds',p,q,rfl,rfl,rfl,h3,h4⟩:=trodAll_cons h
  simp only [readOK,List.all_cons,Bool.and_eq_true,decide_eq_true_eq] at hr
  obtain ⟨q',h5⟩:=args_stay hl hb (by simpa [readOK] using hr.2) h4
  refine ⟨_,trodAll_cons_mk (Below.trod hl hr.1.1 hr.1.2 h3 hb ?_) h5⟩
  obtain ⟨m,hm⟩:=h3
  exact DataW.trod_lt m _ _ _ hm
end
end Go.Ax
end
section
set_option maxHeartbeats 4000000
set_option maxRecDepth 100000
namespace Go.Ax
open Go.Proofs
end Go.Ax
end