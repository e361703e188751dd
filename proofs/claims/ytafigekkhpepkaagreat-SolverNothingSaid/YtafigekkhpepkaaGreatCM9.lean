/-
  Contacts of different bodies: their order does not matter.
-/
import Derived.Test.YtafigekkhpepkaaGreatCM8
import Derived.ShutString
import Derived.ChangeOld
import Derived.Below
set_option linter.unusedVariables false
set_option linter.unusedSimpArgs false
section
set_option maxHeartbeats 4000000
set_option maxRecDepth 100000
namespace Go.Ax
open Go.Proofs
theorem hitT_ap {N:Nat} {B:Nat → Bd} {c:Ct} {j:Nat}:hitT N B c j = if apB N c.a c.b then (if j = c.b.toNat then (hitS (B c.a.toNat) (B c.b.toNat) c).b else if j = c.a.toNat then (hitS (B c.a.toNat) (B c.b.toNat) c).a else B j) else B j:=by
 unfold hitT
 split <;> rfl
theorem hitT_off {N:Nat} {B:Nat → Bd} {c:Ct} {j:Nat} (h:c.a.toNat ≠ j) (h2:c.b.toNat ≠ j):hitT N B c j = B j:=by
 rw [hitT_ap,if_neg (Ne.symm h2),if_neg (Ne.symm h)]
 split <;> rfl
theorem parT_ap {N:Nat} {B:Nat → Bd} {c:Ct} {j:Nat}:parT N B c j = if apB N c.a c.b ∧ c.n ≠ 0 ∧ (nAdd (B c.a.toNat).m (B c.b.toNat).m).1 ≠ 0 then (if j = c.b.toNat then parB (B c.a.toNat) (B c.b.toNat) c else if j = c.a.toNat then parA (B c.a.toNat) (B c.b.toNat) c else B j) else B j:=by
 unfold parT
 split <;> rfl
theorem parT_off {N:Nat} {B:Nat → Bd} {c:Ct} {j:Nat} (h:c.a.toNat ≠ j) (h2:c.b.toNat ≠ j):parT N B c j = B j:=by
 rw [parT_ap,if_neg (Ne.symm h2),if_neg (Ne.symm h)]
 split <;> rfl
def dis (c d:Ct):Prop:=c.a.toNat ≠ d.a.toNat ∧ c.a.toNat ≠ d.b.toNat ∧ c.b.toNat ≠ d.a.toNat ∧ c.b.toNat ≠ d.b.toNat
theorem hitT_comm {N:Nat} {B:Nat → Bd} {c d:Ct} (h:dis c d):hitT N (hitT N B c) d = hitT N (hitT N B d) c:=by
 obtain ⟨h1,h2,h3,h4⟩:=h
 funext j
 rw [hitT_ap (B:=hitT N B c),hitT_off h1 h3,hitT_off h2 h4,hitT_ap (B:=hitT N B d),hitT_off (Ne.symm h1) (Ne.symm h2),hitT_off (Ne.symm h3) (Ne.symm h4),hitT_ap (B:=B) (c:=c) (j:=j),hitT_ap (B:=B) (c:=d) (j:=j)]
 by_cases p:apB N c.a c.b <;> by_cases q:apB N d.a d.b <;> simp only [p,q,if_true,if_false]
 by_cases e1:j = c.a.toNat
 ·subst e1; simp [h1,h2]
 by_cases e2:j = c.b.toNat
 ·subst e2; simp [h3,h4]
 simp [e1,e2]
theorem hitC_off {N:Nat} {B:Nat → Bd} {c d:Ct} (h:dis c d):hitC N (hitT N B c) d = hitC N B d:=by
 unfold hitC
 rw [hitT_off h.1 h.2.2.1,hitT_off h.2.1 h.2.2.2]
theorem parT_comm {N:Nat} {B:Nat → Bd} {c d:Ct} (h:dis c d):parT N (parT N B c) d = parT N (parT N B d) c:=by
 obtain ⟨h1,h2,h3,h4⟩:=h
 funext j
 rw [parT_ap (B:=parT N B c),parT_off h1 h3,parT_off h2 h4,parT_ap (B:=parT N B d),parT_off (Ne.symm h1) (Ne.symm h2),parT_off (Ne.symm h3) (Ne.symm h4),parT_ap (B:=B) (c:=c) (j:=j),parT_ap (B:=B) (c:=d) (j:=j)]
 by_cases p:apB N c.a c.b ∧ c.n ≠ 0 ∧ (nAdd (B c.a.toNat).m (B c.b.toNat).m).1 ≠ 0 <;> by_cases q:apB N d.a d.b ∧ d.n ≠ 0 ∧ (nAdd (B d.a.toNat).m (B d.b.toNat).m).1 ≠ 0 <;> simp only [p,q,if_true,if_false]
 by_cases e1:j = c.a.toNat
 ·subst e1; simp [h1,h2]
 by_cases e2:j = c.b.toNat
 ·subst e2; simp [h3,h4]
 simp [e1,e2]
theorem hitC_ab {N:Nat} {B:Nat → Bd} {c:Ct}:(hitC N B c).a = c.a ∧ (hitC N B c).b = c.b:=by
 unfold hitC
 split
 ·have:=@hitI_n (B c.a.toNat) (B c.b.toNat) c (min 2 c.n)
  exact ⟨this.2.2.2.2.1,this.2.2.2.2.2.1⟩
 ·exact ⟨rfl,rfl⟩
theorem dis_hit {N:Nat} {B B':Nat → Bd} {c d:Ct} (h:dis c d):dis (hitC N B c) (hitC N B' d):=by
 unfold dis
 rw [hitC_ab.1,hitC_ab.2,hitC_ab.1,hitC_ab.2]
 exact h
theorem rnd_swap {N:Nat} {J:Nat → Jt} {dt:Nb} {B:Nat → Bd} {C C':Nat → Ct} (h0:C 0 = C' 1) (h1:C 1 = C' 0) (h:dis (C 0) (C 1)):∀ k,
  (rndS N 2 0 J dt ⟨B,C⟩ k).B = (rndS N 2 0 J dt ⟨B,C'⟩ k).B ∧ (rndS N 2 0 J dt ⟨B,C⟩ k).C 0 = (rndS N 2 0 J dt ⟨B,C'⟩ k).C 1 ∧ (rndS N 2 0 J dt ⟨B,C⟩ k).C 1 = (rndS N 2 0 J dt ⟨B,C'⟩ k).C 0 ∧ dis ((rndS N 2 0 J dt ⟨B,C⟩ k).C 0) ((rndS N 2 0 J dt ⟨B,C⟩ k).C 1)
 | 0 => ⟨rfl,h0,h1,h⟩
 | k + 1 => by
  obtain ⟨i0,i1,i2,i3⟩:=rnd_swap (N:=N) (J:=J) (dt:=dt) (B:=B) h0 h1 h k
  have st:∀ C:Nat → Ct,rndS N 2 0 J dt ⟨B,C⟩ (k + 1) = ⟨hitT N (hitT N (rndS N 2 0 J dt ⟨B,C⟩ k).B ((rndS N 2 0 J dt ⟨B,C⟩ k).C 0)) ((rndS N 2 0 J dt ⟨B,C⟩ k).C 1),updC (updC (rndS N 2 0 J dt ⟨B,C⟩ k).C 0 (hitC N (rndS N 2 0 J dt ⟨B,C⟩ k).B ((rndS N 2 0 J dt ⟨B,C⟩ k).C 0))) 1 (hitC N (hitT N (rndS N 2 0 J dt ⟨B,C⟩ k).B ((rndS N 2 0 J dt ⟨B,C⟩ k).C 0)) ((rndS N 2 0 J dt ⟨B,C⟩ k).C 1))⟩:=fun C => rfl
  rw [st,st]
  generalize rndS N 2 0 J dt ⟨B,C⟩ k = s at *
  generalize rndS N 2 0 J dt ⟨B,C'⟩ k = s' at *
  dsimp only
  have u1:∀ (C:Nat → Ct) (c d:Ct),updC (updC C 0 c) 1 d 0 = c:=fun C c d => rfl
  have u2:∀ (C:Nat → Ct) (c d:Ct),updC (updC C 0 c) 1 d 1 = d:=fun C c d => rfl
  have i3':dis (s.C 1) (s.C 0):=⟨Ne.symm i3.1,Ne.symm i3.2.2.1,Ne.symm i3.2.1,Ne.symm i3.2.2.2⟩
  rw [u1,u2,u1,u2,← i0,← i1,← i2,hitC_off i3,hitC_off i3']
  exact ⟨hitT_comm i3,rfl,rfl,dis_hit i3⟩
theorem sol_swap {N:Nat} {J:Nat → Jt} {dt:Nb} {B:Nat → Bd} {C C':Nat → Ct} {r:Int} (h0:C 0 = C' 1) (h1:C 1 = C' 0) (h:dis (C 0) (C 1)) :
  (solT N 2 0 B C J r dt).B = (solT N 2 0 B C' J r dt).B ∧ (solT N 2 0 B C J r dt).C 0 = (solT N 2 0 B C' J r dt).C 1 ∧ (solT N 2 0 B C J r dt).C 1 = (solT N 2 0 B C' J r dt).C 0:=by
 obtain ⟨i0,i1,i2,i3⟩:=rnd_swap (N:=N) (J:=J) (dt:=dt) (B:=B) h0 h1 h (rdN r)
 refine ⟨?_,i1,i2⟩
 show parT N (parT N (rndS N 2 0 J dt ⟨B,C⟩ (rdN r)).B ((rndS N 2 0 J dt ⟨B,C⟩ (rdN r)).C 0)) ((rndS N 2 0 J dt ⟨B,C⟩ (rdN r)).C 1) = parT N (parT N (rndS N 2 0 J dt ⟨B,C'⟩ (rdN r)).B ((rndS N 2 0 J dt ⟨B,C'⟩ (rdN r)).C 0)) ((rndS N 2 0 J dt ⟨B,C'⟩ (rdN r)).C 1)
 rw [← i0,← i1,← i2]
 exact parT_comm i3
theorem rnd_none {N:Nat} {J:Nat → Jt} {dt:Nb} {s:Sv}:∀ k,rndS N 0 0 J dt s k = s
 | 0 => rfl
 | k + 1 => by
  have e:=rnd_none (N:=N) (J:=J) (dt:=dt) (s:=s) k
  show (⟨(rndS N 0 0 J dt s k).B,(rndS N 0 0 J dt s k).C⟩:Sv) = s
  rw [e]
theorem sol_none {N:Nat} {J:Nat → Jt} {dt:Nb} {B:Nat → Bd} {C:Nat → Ct} {r:Int}:solT N 0 0 B C J r dt = ⟨B,C⟩:=by
 unfold solT
 rw [rnd_none]
 rfl
theorem sol_zero {N:Nat} {J:Nat → Jt} {dt:Nb} {B:Nat → Bd} {C:Nat → Ct} (h:(C 0).n = 0):solT N 1 0 B C J 0 dt = ⟨B,C⟩:=by
 have e:parT N B (C 0) = B:=if_neg (fun q => q.2.1 h)
 show (⟨parT N B (C 0),C⟩:Sv) = ⟨B,C⟩
 rw [e]
end Go.Ax
end
section
/-
  Bodies made of numbers.
-/
set_option maxHeartbeats 4000000
set_option maxRecDepth 100000
namespace Go.Ax
open Go.Proofs
def mkD (dn kd:Int):Int:=if modS kd 4 = 0 then 0 else 1 + modS dn 1000
def nuN (x s:Int):Nb:=(x.tmod (s * 4294967296),false)
def mk0 (a b c x y u dn kd s:Int):Bd:=nwB (mkK a) (mkR a b) (mkH a b b) (mkH a b c) (mkN a) (mkX a b c) (mkY a b c) (foAt x y s) (foRot u) (mkD dn kd) (modS kd 4 != 0)
def mkB (a b c x y u vx vy sp dn kd s:Int):Bd:=
 if modS kd 4 = 1 then { mk0 a b c x y u dn kd s with v:=(nuN vx 200,nuN vy 200),w:=nuN sp 60 }
 else if modS kd 4 = 2 then { mk0 a b c x y u dn kd s with st:=30,sl:=true }
 else if modS kd 4 = 3 then { mk0 a b c x y u dn kd s with sl:=true,fa:=true }
 else mk0 a b c x y u dn kd s
theorem wrD {dn:Int}:IntKind.i64.wrap (1 + modS dn 1000) = 1 + modS dn 1000:=by
 have h:=modS_bd (n:=dn) (m:=1000) (by omega)
 exact wrap_in (by unfold inR; omega)
theorem mk_spots {a b c:Int}:(spots (mkN a) fun i => [i64 (mkX a b c i),i64 (mkY a b c i)]) = True:=eq_true fun i hi => ⟨rfl,mk_inR i hi⟩
theorem snV_inR {x:Int} {f:Bool}:inR (snV x f):=by
 have h:=@snV_rg x f
 unfold rg at h
 unfold inR
 omega
theorem csV_inR {x:Int} {f:Bool}:inR (csV x f):=snV_inR
def kb24:Con
 | [.agg [.v (.int .i64 a),.v (.int .i64 b),.v (.int .i64 c),.v (.int .i64 x),.v (.int .i64 y),.v (.int .i64 u),.v (.int .i64 p),.v (.int .i64 q),.v (.int .i64 r),.v (.int .i64 d),.v (.int .i64 k)],.v (.int .i64 s)] => some ([inR a,inR b,inR c,inR x,inR y,inR u,inR p,inR q,inR r,inR d,inR k,1 ≤ s ∧ s ≤ 1000000],boA (mkB a b c x y u p q r d k s))
 | _ => none
theorem con24:ConOK Tryz.prog 24 kb24:=ConOK.of (G:=[(31,c31),(97,c97),(98,c98),(96,c96),(53,c53)]) (H:=[(5,⟨[(15,.made 14)],[]⟩),(8,⟨[(11,.slot 7),(13,.slot 7)],[]⟩)]) (.cons con31 (.cons con97 (.cons con98 (.cons con96 (.cons con53 .nil))))) Tryz.func24 fun l ob rr hc hob => by
 unfold kb24 at hc
 split at hc
 ·rename_i a b c x y u p q r d k s
  cases hc
  have h_0:inR a:=hob _ (by simp)
  have h_1:inR b:=hob _ (by simp)
  have h_2:inR c:=hob _ (by simp)
  have h_3:inR x:=hob _ (by simp)
  have h_4:inR y:=hob _ (by simp)
  have h_5:inR u:=hob _ (by simp)
  have h_6:inR p:=hob _ (by simp)
  have h_7:inR q:=hob _ (by simp)
  have h_8:inR r:=hob _ (by simp)
  have h_9:inR d:=hob _ (by simp)
  have h_10:inR k:=hob _ (by simp)
  have h_11:1 ≤ s ∧ s ≤ 1000000:=hob _ (by simp)
  clear hob
  refine ⟨by kernel_rfl,fnVC_go (rs:=[.cell 4 57]) rfl rfl ?_⟩
  simp only [go_sem,c31,c97,c98,c96,c53,boA,bodyC,mk_spots,gx_pts0,gx_pts1,wrD,h_0,h_1,h_2,h_3,h_4,h_5,h_6,h_7,h_8,h_9,h_10,h_11]
  simp only [forall_eq,true_imp_iff,true_and,and_true,wrD]
  refine ⟨by unfold inR; omega,by unfold inR; omega,fun g0 => ?_,fun g0 => ?_⟩
  ·have e0:mk0 a b c x y u d k s = nwB (mkK a) (mkR a b) (mkH a b b) (mkH a b c) (mkN a) (mkX a b c) (mkY a b c) (foAt x y s) (foRot u) 0 (modS k 4 != 0):=by
    unfold mk0; rw [show mkD d k = 0 from if_pos (by simpa using g0)]
   exact ⟨mkN_le,tmod_inR h_11,tmod_inR h_11,csV_inR,snV_inR,fun g1 => by
     rw [show mkB a b c x y u p q r d k s = { mk0 a b c x y u d k s with v:=(nuN p 200,nuN q 200),w:=nuN r 60 } from if_pos (by simpa using g1),e0] <;> rfl,
    fun g1 => ⟨fun g2 => by
     rw [show mkB a b c x y u p q r d k s = { mk0 a b c x y u d k s with st:=30,sl:=true } from (if_neg (by simpa using g1)).trans (if_pos (by simpa using g2)),e0] <;> rfl,
    fun g2 => ⟨fun g3 => by
     rw [show mkB a b c x y u p q r d k s = { mk0 a b c x y u d k s with sl:=true,fa:=true } from (if_neg (by simpa using g1)).trans ((if_neg (by simpa using g2)).trans (if_pos (by simpa using g3))),e0] <;> rfl,
    fun g3 => by
     rw [show mkB a b c x y u p q r d k s = mk0 a b c x y u d k s from (if_neg (by simpa using g1)).trans ((if_neg (by simpa using g2)).trans (if_neg (by simpa using g3))),e0] <;> rfl⟩⟩⟩
  ·have e0:mk0 a b c x y u d k s = nwB (mkK a) (mkR a b) (mkH a b b) (mkH a b c) (mkN a) (mkX a b c) (mkY a b c) (foAt x y s) (foRot u) (1 + modS d 1000) (modS k 4 != 0):=by
    unfold mk0; rw [show mkD d k = 1 + modS d 1000 from if_neg (by simpa using g0)]
   exact ⟨mkN_le,tmod_inR h_11,tmod_inR h_11,csV_inR,snV_inR,by have:=modS_bd (n:=d) (m:=1000) (by omega); unfold inR; omega,fun g1 => by
     rw [show mkB a b c x y u p q r d k s = { mk0 a b c x y u d k s with v:=(nuN p 200,nuN q 200),w:=nuN r 60 } from if_pos (by simpa using g1),e0] <;> rfl,
    fun g1 => ⟨fun g2 => by
     rw [show mkB a b c x y u p q r d k s = { mk0 a b c x y u d k s with st:=30,sl:=true } from (if_neg (by simpa using g1)).trans (if_pos (by simpa using g2)),e0] <;> rfl,
    fun g2 => ⟨fun g3 => by
     rw [show mkB a b c x y u p q r d k s = { mk0 a b c x y u d k s with sl:=true,fa:=true } from (if_neg (by simpa using g1)).trans ((if_neg (by simpa using g2)).trans (if_pos (by simpa using g3))),e0] <;> rfl,
    fun g3 => by
     rw [show mkB a b c x y u p q r d k s = mk0 a b c x y u d k s from (if_neg (by simpa using g1)).trans ((if_neg (by simpa using g2)).trans (if_neg (by simpa using g3))),e0] <;> rfl⟩⟩⟩
 ·cases hc
end Go.Ax
end
section
/-
  Times; bodies that are the same, by the program.
-/
set_option maxHeartbeats 4000000
set_option maxRecDepth 100000
namespace Go.Ax
open Go.Proofs
def tiN (n:Int):Int:=16777216 + modS n 1056964608
theorem tiN_bd {n:Int}:16777216 ≤ tiN n ∧ tiN n ≤ 1073741824:=by
 have h:=modS_bd (n:=n) (m:=1056964608) (by omega)
 unfold tiN
 omega
theorem wrT {n:Int}:IntKind.i64.wrap (16777216 + modS n 1056964608) = tiN n:=by
 have h:=@tiN_bd n
 exact wrap_in (by show inR (tiN n); unfold inR; omega)
def kt48:Con
 | [.v (.int .i64 n)] => some ([inR n],nbA (tiN n,false))
 | _ => none
theorem kont48:ConOK Tryz.prog 48 kt48:=ConOK.of (G:=[(31,c31)]) (H:=[]) (.cons con31 .nil) Tryz.func48 fun l ob rr hc hob => by
 unfold kt48 at hc
 split at hc
 ·rename_i n
  cases hc
  have h_0:inR n:=hob _ (by simp)
  refine ⟨by kernel_rfl,fnVC_go (rs:=[.cell 2 24]) rfl rfl ?_⟩
  simp only [go_sem,c31,iMul,iDiv,iInt,iAdd,iSub,iRat,iDot,iHyp,iSq,iNeg,iPos,iAbs,iMx,iMn,iCl,iWh,iLoc1,iLoc2,iVAdd1,iVAdd2,iVSub1,iVSub2,iScale1,iScale2,iVDot,iVCross,iLen,iOf1,iOf2,iUnit1,iUnit2,h_0]
  simp only [forall_eq,wrT]
  exact ⟨by unfold inR; omega,rfl⟩
 ·cases hc
theorem aEq209 {a0 b0:Int} {a1 b1:Int} {a2 b2:Int} {a3 b3:Int}:aEq Tryz.prog 209 (.agg [i64 a0,i64 a1,i64 a2,i64 a3]) (.agg [i64 b0,i64 b1,i64 b2,i64 b3]) = some ((a0 == b0) && ((a1 == b1) && ((a2 == b2) && ((a3 == b3) && true)))):=by kernel_rfl
theorem eq209 {xo yo:Operand} {neg:Bool} {a0 b0:Int} {a1 b1:Int} {a2 b2:Int} {a3 b3:Int}:eqE Tryz.prog neg 209 xo yo (.agg [i64 a0,i64 a1,i64 a2,i64 a3]) (.agg [i64 b0,i64 b1,i64 b2,i64 b3]) = some ⟨[],.v (.bool (negV neg ((a0 == b0) && ((a1 == b1) && ((a2 == b2) && ((a3 == b3) && true)))))),.none⟩:=eqE_agg aEq209
attribute [go_sem] eq209
end Go.Ax
end
section
/-
  SolverSleeps: its body.
-/
set_option maxHeartbeats 4000000
set_option maxRecDepth 100000
namespace Go.Ax
open Go.Proofs
end Go.Ax
end
section
/-
  A body at rest falls asleep.
-/
set_option maxHeartbeats 4000000
set_option maxRecDepth 100000
namespace Go.Ax
open Go.Proofs
theorem whF_in {x:Int} (h:-1000000000000000000 ≤ x):whF x false = false:=by
 unfold whF
 simp
 omega
theorem whV_in {x:Int} (h:-1000000000000000000 ≤ x) (h2:x ≤ 1000000000000000000):whV x = x:=by
 unfold whV
 split <;> omega
theorem ftV_in {x:Int} (h:-1000000000000000000 ≤ x) (h2:x ≤ 1000000000000000000):ftV x = x:=by
 unfold ftV
 (repeat' split) <;> omega
theorem ftF_in {x:Int} (h:-1000000000000000000 ≤ x) (h2:x ≤ 1000000000000000000):ftF x = false:=by
 unfold ftF
 simp
 omega
end Go.Ax
end
section
/-
  Sine and cosine ars they are computed: their squares sum up to one, but for 2^-19. Plain arithmetic.
-/
namespace Go.Ax
def pev:List Int → Int → Int
 | [],_ => 0
 | c :: cs,y => c + y * pev cs y
def padd:List Int → List Int → List Int
 | [],q => q
 | a :: p,[] => a :: p
 | a :: p,b :: q => (a + b) :: padd p q
def psm (k:Int):List Int → List Int
 | [] => []
 | a :: p => k * a :: psm k p
def pmul:List Int → List Int → List Int
 | [],_ => []
 | a :: p,q => padd (psm a q) (0 :: pmul p q)
def pcomp:List Int → List Int → List Int
 | [],_ => []
 | a :: p,q => padd [a] (pmul q (pcomp p q))
def pabs:List Int → Int → Int
 | [],_ => 0
 | c :: cs,B => (if c < 0 then -c else c) + B * pabs cs B
theorem pev_add (y:Int):∀ p q:List Int,pev (padd p q) y = pev p y + pev q y
 | [],q => by simp [padd,pev]
 | a :: p,[] => by simp [padd,pev]
 | a :: p,b :: q => by simp only [padd,pev,pev_add y p q]; grind
theorem pev_sm (k y:Int):∀ p:List Int,pev (psm k p) y = k * pev p y
 | [] => by simp [psm,pev]
 | a :: p => by simp only [psm,pev,pev_sm k y p]; grind
theorem pev_mul (y:Int):∀ p q:List Int,pev (pmul p q) y = pev p y * pev q y
 | [],q => by simp [pmul,pev]
 | a :: p,q => by simp only [pmul,pev,pev_add,pev_sm,pev_mul y p q]; grind
theorem pev_comp (y:Int) (q:List Int):∀ p:List Int,pev (pcomp p q) y = pev p (pev q y)
 | [] => by simp [pcomp,pev]
 | a :: p => by simp only [pcomp,pev,pev_add,pev_mul,pev_comp y q p]; grind
theorem pev_bd {y B:Int} (h0:0 ≤ y) (h1:y ≤ B):∀ cs:List Int,0 ≤ pabs cs B ∧ -(pabs cs B) ≤ pev cs y ∧ pev cs y ≤ pabs cs B
 | [] => by simp [pabs,pev]
 | c :: cs => by
  obtain ⟨k0,k1,k2⟩:=pev_bd h0 h1 cs
  have m1:y * pev cs y ≤ y * pabs cs B:=Int.mul_le_mul_of_nonneg_left k2 h0
  have m2:y * -(pabs cs B) ≤ y * pev cs y:=Int.mul_le_mul_of_nonneg_left k1 h0
  have m3:y * pabs cs B ≤ B * pabs cs B:=Int.mul_le_mul_of_nonneg_right h1 k0
  have m4:0 ≤ y * pabs cs B:=Int.mul_nonneg h0 k0
  rw [Int.mul_neg] at m2
  simp only [pabs,pev]
  split <;> refine ⟨?_,?_,?_⟩ <;> omega
def serT:List Int:=[0,4768988719006436111262234168778648423474656980035636955663595829178822894077063921902894844467270927543474141934655026171951583604355055887615953102486438762529161216000,0,(-43087899414213674021824125643264255072305462219207007284242456456798725817691141891220050084051744617156383553793407931128471747317646658681962496000),0,116789985381818398160573898299231102288065772677584217151319844983904676864291965346766500211691480339536943806187305008155852800,0,(-150742804613711681364039825115385279235570281032314673924162220557576589258871909346252821120275293038182400),0,113496997394961198577319469229027706569291890953579835547744303126809085079968756531200,0,(-55933495975544804015926845529165017287291580706094561614752645120),0,19436928798524005033027957576502600238366720,0,(-5017514388048998039552),0,1]
def serN:Int:=4768988719006436111262234168778648423474656980035636955663595829178822894077063921902894844467270927543474141934655026171951583604355055887615953102486438762529161216000
def serG (q:Int):List Int:=padd (padd (pmul serT serT) (pmul (pcomp serT [q,-1]) (pcomp serT [q,-1]))) [-(serN * 4294967296 * (serN * 4294967296))]
theorem serG_small:pabs (serG 6746518852) 6746518852 * 1048576 ≤ serN * 4294967296 * (serN * 4294967296):=by decide +kernel
theorem serG_small':pabs (serG 6746518851) 6746518851 * 1048576 ≤ serN * 4294967296 * (serN * 4294967296):=by decide +kernel
theorem pev_G {q y:Int}:pev (serG q) y = pev serT y * pev serT y + pev serT (q - y) * pev serT (q - y) - serN * 4294967296 * (serN * 4294967296):=by
 unfold serG
 simp only [pev_add,pev_mul,pev_comp,pev]
 have e:q + y * (-1 + y * 0) = q - y:=by grind
 rw [e]
 generalize pev serT y = a
 generalize pev serT (q - y) = b
 generalize serN = n
 grind
theorem ser_circle {q y:Int} (hq:q = 6746518852 ∨ q = 6746518851) (h0:0 ≤ y) (h1:y ≤ q) :
  -(serN * 4294967296 * (serN * 4294967296)) ≤ 1048576 * (pev serT y * pev serT y + pev serT (q - y) * pev serT (q - y) - serN * 4294967296 * (serN * 4294967296)) ∧
  1048576 * (pev serT y * pev serT y + pev serT (q - y) * pev serT (q - y) - serN * 4294967296 * (serN * 4294967296)) ≤ serN * 4294967296 * (serN * 4294967296):=by
 rw [← pev_G]
 obtain ⟨k0,k1,k2⟩:=pev_bd h0 h1 (serG q)
 have hs:pabs (serG q) q * 1048576 ≤ serN * 4294967296 * (serN * 4294967296):=by
  rcases hq with rfl | rfl
  ·exact serG_small
  ·exact serG_small'
 generalize serN * 4294967296 * (serN * 4294967296) = M at *
 omega
theorem td_err {x k:Int} (hk:0 < k):-k < x - x.tdiv k * k ∧ x - x.tdiv k * k < k:=by
 rcases Int.le_total 0 x with h | h
 ·rw [Int.tdiv_eq_ediv_of_nonneg h]
  have h1:=Int.emod_nonneg x (by omega:k ≠ 0)
  have h2:=Int.emod_lt_of_pos x hk
  have h3:=Int.emod_add_mul_ediv x k
  rw [Int.mul_comm k] at h3
  omega
 ·have e:x.tdiv k = -((-x).tdiv k):=by rw [Int.neg_tdiv,Int.neg_neg]
  rw [e,Int.tdiv_eq_ediv_of_nonneg (by omega)]
  have h1:=Int.emod_nonneg (-x) (by omega:k ≠ 0)
  have h2:=Int.emod_lt_of_pos (-x) hk
  have h3:=Int.emod_add_mul_ediv (-x) k
  rw [Int.mul_comm k] at h3
  rw [Int.neg_mul]
  omega
theorem ab_mul {a b A B:Int} (ha:-A ≤ a ∧ a ≤ A) (hb:-B ≤ b ∧ b ≤ B):-(A * B) ≤ a * b ∧ a * b ≤ A * B:=by
 have hA:0 ≤ A:=by omega
 have hB:0 ≤ B:=by omega
 rcases Int.le_total 0 a with h | h
 ·have k1:a * b ≤ a * B:=Int.mul_le_mul_of_nonneg_left hb.2 h
  have k2:a * -B ≤ a * b:=Int.mul_le_mul_of_nonneg_left hb.1 h
  have k3:a * B ≤ A * B:=Int.mul_le_mul_of_nonneg_right ha.2 hB
  rw [Int.mul_neg] at k2
  omega
 ·have k1:-a * b ≤ -a * B:=Int.mul_le_mul_of_nonneg_left hb.2 (by omega)
  have k2:-a * -B ≤ -a * b:=Int.mul_le_mul_of_nonneg_left hb.1 (by omega)
  have k3:-a * B ≤ A * B:=Int.mul_le_mul_of_nonneg_right (by omega) hB
  simp only [Int.mul_neg,Int.neg_mul] at k1 k2 k3
  omega
def facM (k:Nat):Int:=2 * ((k:Int) + 1) * (2 * ((k:Int) + 1) + 1)
def tq (y:Int):Nat → Int
 | 0 => y
 | k + 1 => -((((tq y k * y).tdiv 4294967296 * y).tdiv 4294967296 * 4294967296).tdiv (facM k * 4294967296))
def sq (y:Int):Nat → Int
 | 0 => y
 | k + 1 => sq y k + tq y (k + 1)
def mq:Nat → Int
 | 0 => 1
 | k + 1 => mq k * (facM k * (4294967296 * 4294967296))
def xq (y:Int):Nat → Int
 | 0 => y
 | k + 1 => -(xq y k * (y * y))
theorem tq_neg (y:Int):∀ k,tq (-y) k = -tq y k
 | 0 => rfl
 | k + 1 => by
  simp only [tq,tq_neg y k,Int.mul_neg,Int.neg_tdiv,Int.neg_mul,Int.neg_neg]
theorem sq_neg (y:Int):∀ k,sq (-y) k = -sq y k
 | 0 => rfl
 | k + 1 => by simp only [sq,sq_neg y k,tq_neg]; omega
theorem ser_step {t y m:Int} (ht:-6746518852 ≤ t ∧ t ≤ 6746518852) (hy:-6746518852 ≤ y ∧ y ≤ 6746518852) (hm:6 ≤ m) :
  (-13493037704 ≤ (t * y).tdiv 4294967296 ∧ (t * y).tdiv 4294967296 ≤ 13493037704) ∧
  (-26986075408 ≤ ((t * y).tdiv 4294967296 * y).tdiv 4294967296 ∧ ((t * y).tdiv 4294967296 * y).tdiv 4294967296 ≤ 26986075408) ∧
  (-6746518852 ≤ -((((t * y).tdiv 4294967296 * y).tdiv 4294967296 * 4294967296).tdiv (m * 4294967296)) ∧ -((((t * y).tdiv 4294967296 * y).tdiv 4294967296 * 4294967296).tdiv (m * 4294967296)) ≤ 6746518852) ∧
  (-(3 + m) * 18446744073709551616 ≤ -((((t * y).tdiv 4294967296 * y).tdiv 4294967296 * 4294967296).tdiv (m * 4294967296)) * (m * 18446744073709551616) + t * (y * y) ∧
   -((((t * y).tdiv 4294967296 * y).tdiv 4294967296 * 4294967296).tdiv (m * 4294967296)) * (m * 18446744073709551616) + t * (y * y) ≤ (3 + m) * 18446744073709551616):=by
 have e3:=td_err (x:=t * y) (k:=4294967296) (by decide)
 have m3:=ab_mul ht hy
 generalize hA:(t * y).tdiv 4294967296 = a at *
 have ba:-13493037704 ≤ a ∧ a ≤ 13493037704:=by omega
 have e2:=td_err (x:=a * y) (k:=4294967296) (by decide)
 have m2:=ab_mul ba hy
 generalize hB:(a * y).tdiv 4294967296 = b at *
 have bb:-26986075408 ≤ b ∧ b ≤ 26986075408:=by omega
 have hm':0 < m * 4294967296:=by omega
 have e1:=td_err (x:=b * 4294967296) (k:=m * 4294967296) hm'
 generalize hC:(b * 4294967296).tdiv (m * 4294967296) = c at *
 have e1':c * (m * 4294967296) = (c * m) * 4294967296:=by grind
 rw [e1'] at e1
 have e0:-m < b - c * m ∧ b - c * m < m:=by omega
 have bc:-6746518852 ≤ c ∧ c ≤ 6746518852:=by
  constructor
  ·refine Int.not_lt.1 fun h => ?_
   have:c * m ≤ (-6746518853) * m:=Int.mul_le_mul_of_nonneg_right (by omega) (by omega)
   omega
  ·refine Int.not_lt.1 fun h => ?_
   have:6746518853 * m ≤ c * m:=Int.mul_le_mul_of_nonneg_right (by omega) (by omega)
   omega
 refine ⟨ba,bb,by omega,?_⟩
 have r3:-4294967296 ≤ t * y - a * 4294967296 ∧ t * y - a * 4294967296 ≤ 4294967296:=by omega
 have k3:=ab_mul r3 hy
 have id1:-c * (m * 18446744073709551616) + t * (y * y) = (t * y - a * 4294967296) * y + (a * y - b * 4294967296) * 4294967296 + (b - c * m) * 18446744073709551616:=by grind
 rw [id1]
 omega
theorem facM_ge (k:Nat):6 ≤ facM k:=by
 unfold facM
 have h1:(2:Int) * ((k:Int) + 1) ≥ 2:=by omega
 have h2:(2:Int) * ((k:Int) + 1) + 1 ≥ 3:=by omega
 have:=Int.mul_le_mul h1 h2 (by omega) (by omega)
 omega
theorem facM_ge1 (k:Nat):20 ≤ facM (k + 1):=by
 unfold facM
 have h1:(2:Int) * (((k + 1:Nat):Int) + 1) ≥ 4:=by omega
 have h2:(2:Int) * (((k + 1:Nat):Int) + 1) + 1 ≥ 5:=by omega
 have:=Int.mul_le_mul h1 h2 (by omega) (by omega)
 omega
theorem mq_pos:∀ k,0 < mq k
 | 0 => by decide
 | k + 1 => by
  simp only [mq]
  have:=facM_ge k
  exact Int.mul_pos (mq_pos k) (Int.mul_pos (by omega) (by decide))
theorem tq_le {y:Int} (hy:-6746518852 ≤ y ∧ y ≤ 6746518852):∀ k,-6746518852 ≤ tq y k ∧ tq y k ≤ 6746518852
 | 0 => hy
 | k + 1 => (ser_step (tq_le hy k) hy (facM_ge k)).2.2.1
theorem err_step {t t' y m M X d:Int} (hM:0 < M) (hy:-6746518852 ≤ y ∧ y ≤ 6746518852) (hd:0 ≤ d) (hd2:d ≤ 2) (h:-(d * M) ≤ t * M - X ∧ t * M - X ≤ d * M)
  (he:-(3 + m) * 18446744073709551616 ≤ t' * (m * 18446744073709551616) + t * (y * y) ∧ t' * (m * 18446744073709551616) + t * (y * y) ≤ (3 + m) * 18446744073709551616) (hm:3 * d + 3 ≤ m) :
  -(2 * (M * (m * (4294967296 * 4294967296)))) ≤ t' * (M * (m * (4294967296 * 4294967296))) - -(X * (y * y)) ∧ t' * (M * (m * (4294967296 * 4294967296))) - -(X * (y * y)) ≤ 2 * (M * (m * (4294967296 * 4294967296))):=by
 have hyy:=ab_mul hy hy
 have y0:0 ≤ y * y:=by
  rcases Int.le_total 0 y with h | h
  ·exact Int.mul_nonneg h h
  ·have:=Int.mul_nonneg (show 0 ≤ -y by omega) (show 0 ≤ -y by omega)
   rwa [Int.neg_mul_neg] at this
 have id1:t' * (M * (m * (4294967296 * 4294967296))) - -(X * (y * y)) = M * (t' * (m * 18446744073709551616) + t * (y * y)) - (t * M - X) * (y * y):=by grind
 rw [id1]
 generalize t * M - X = e at *
 generalize t' * (m * 18446744073709551616) + t * (y * y) = f at *
 generalize y * y = q at *
 have k1:=ab_mul (a:=e) (A:=d * M) h (b:=q) (B:=3 * 18446744073709551616) (by omega)
 have k2:M * f ≤ M * ((3 + m) * 18446744073709551616):=Int.mul_le_mul_of_nonneg_left he.2 (by omega)
 have k3:M * (-(3 + m) * 18446744073709551616) ≤ M * f:=Int.mul_le_mul_of_nonneg_left he.1 (by omega)
 have k4:M * (3 * d + 3) ≤ M * m:=Int.mul_le_mul_of_nonneg_left hm (by omega)
 have j1:M * ((3 + m) * 18446744073709551616) = (3 * M + M * m) * 18446744073709551616:=by grind
 have j2:M * (-(3 + m) * 18446744073709551616) = -((3 * M + M * m) * 18446744073709551616):=by grind
 have j3:d * M * (3 * 18446744073709551616) = (3 * (M * d)) * 18446744073709551616:=by grind
 have j4:M * (3 * d + 3) = 3 * (M * d) + 3 * M:=by grind
 have j5:M * (m * (4294967296 * 4294967296)) = (M * m) * 18446744073709551616:=by grind
 rw [j1] at k2
 rw [j2] at k3
 rw [j3] at k1
 rw [j4] at k4
 rw [j5]
 omega
theorem ser_err {y:Int} (hy:-6746518852 ≤ y ∧ y ≤ 6746518852):∀ k,-(2 * mq (k + 1)) ≤ tq y (k + 1) * mq (k + 1) - xq y (k + 1) ∧ tq y (k + 1) * mq (k + 1) - xq y (k + 1) ≤ 2 * mq (k + 1)
 | 0 => by
  have h:=ser_step (t:=tq y 0) hy hy (facM_ge 0)
  exact err_step (d:=0) (t:=tq y 0) (M:=mq 0) (X:=xq y 0) (m:=facM 0) (mq_pos 0) hy (by omega) (by omega) (by simp [tq,mq,xq]) h.2.2.2 (by have:=facM_ge 0; omega)
 | k + 1 => by
  have h:=ser_step (tq_le hy (k + 1)) hy (facM_ge (k + 1))
  exact err_step (d:=2) (t:=tq y (k + 1)) (M:=mq (k + 1)) (X:=xq y (k + 1)) (m:=facM (k + 1)) (mq_pos _) hy (by omega) (by omega) (ser_err hy k) h.2.2.2 (by have:=facM_ge1 k; omega)
theorem mq_1:mq 1 * 43087899414213674021824125643264255072305462219207007284242456456798725817691141891220050084051744617156383553793407931128471747317646658681962496000 = serN:=by decide +kernel
theorem mq_2:mq 2 * 116789985381818398160573898299231102288065772677584217151319844983904676864291965346766500211691480339536943806187305008155852800 = serN:=by decide +kernel
theorem mq_3:mq 3 * 150742804613711681364039825115385279235570281032314673924162220557576589258871909346252821120275293038182400 = serN:=by decide +kernel
theorem mq_4:mq 4 * 113496997394961198577319469229027706569291890953579835547744303126809085079968756531200 = serN:=by decide +kernel
theorem mq_5:mq 5 * 55933495975544804015926845529165017287291580706094561614752645120 = serN:=by decide +kernel
theorem mq_6:mq 6 * 19436928798524005033027957576502600238366720 = serN:=by decide +kernel
theorem mq_7:mq 7 * 5017514388048998039552 = serN:=by decide +kernel
theorem mq_8:mq 8 * 1 = serN:=by decide +kernel
theorem err_R {t M X r N:Int} (hM:0 < M) (hr:0 ≤ r) (e:M * r = N) (h:-(2 * M) ≤ t * M - X ∧ t * M - X ≤ 2 * M):-(2 * N) ≤ t * N - X * r ∧ t * N - X * r ≤ 2 * N:=by
 have k1:=Int.mul_le_mul_of_nonneg_right h.1 hr
 have k2:=Int.mul_le_mul_of_nonneg_right h.2 hr
 subst e
 have j1:-(2 * M) * r = -(2 * (M * r)):=by grind
 have j2:(t * M - X) * r = t * (M * r) - X * r:=by grind
 have j3:2 * M * r = 2 * (M * r):=by grind
 rw [j1,j2] at k1
 rw [j2,j3] at k2
 exact ⟨k1,k2⟩
theorem ser_sum {y:Int} (hy:-6746518852 ≤ y ∧ y ≤ 6746518852):-(16 * serN) ≤ sq y 8 * serN - pev serT y ∧ sq y 8 * serN - pev serT y ≤ 16 * serN:=by
 have e1:-(2 * serN) ≤ tq y 1 * serN - xq y 1 * 43087899414213674021824125643264255072305462219207007284242456456798725817691141891220050084051744617156383553793407931128471747317646658681962496000 ∧ tq y 1 * serN - xq y 1 * 43087899414213674021824125643264255072305462219207007284242456456798725817691141891220050084051744617156383553793407931128471747317646658681962496000 ≤ 2 * serN:=err_R (mq_pos 1) (by decide) mq_1 (ser_err hy 0)
 have e2:-(2 * serN) ≤ tq y 2 * serN - xq y 2 * 116789985381818398160573898299231102288065772677584217151319844983904676864291965346766500211691480339536943806187305008155852800 ∧ tq y 2 * serN - xq y 2 * 116789985381818398160573898299231102288065772677584217151319844983904676864291965346766500211691480339536943806187305008155852800 ≤ 2 * serN:=err_R (mq_pos 2) (by decide) mq_2 (ser_err hy 1)
 have e3:-(2 * serN) ≤ tq y 3 * serN - xq y 3 * 150742804613711681364039825115385279235570281032314673924162220557576589258871909346252821120275293038182400 ∧ tq y 3 * serN - xq y 3 * 150742804613711681364039825115385279235570281032314673924162220557576589258871909346252821120275293038182400 ≤ 2 * serN:=err_R (mq_pos 3) (by decide) mq_3 (ser_err hy 2)
 have e4:-(2 * serN) ≤ tq y 4 * serN - xq y 4 * 113496997394961198577319469229027706569291890953579835547744303126809085079968756531200 ∧ tq y 4 * serN - xq y 4 * 113496997394961198577319469229027706569291890953579835547744303126809085079968756531200 ≤ 2 * serN:=err_R (mq_pos 4) (by decide) mq_4 (ser_err hy 3)
 have e5:-(2 * serN) ≤ tq y 5 * serN - xq y 5 * 55933495975544804015926845529165017287291580706094561614752645120 ∧ tq y 5 * serN - xq y 5 * 55933495975544804015926845529165017287291580706094561614752645120 ≤ 2 * serN:=err_R (mq_pos 5) (by decide) mq_5 (ser_err hy 4)
 have e6:-(2 * serN) ≤ tq y 6 * serN - xq y 6 * 19436928798524005033027957576502600238366720 ∧ tq y 6 * serN - xq y 6 * 19436928798524005033027957576502600238366720 ≤ 2 * serN:=err_R (mq_pos 6) (by decide) mq_6 (ser_err hy 5)
 have e7:-(2 * serN) ≤ tq y 7 * serN - xq y 7 * 5017514388048998039552 ∧ tq y 7 * serN - xq y 7 * 5017514388048998039552 ≤ 2 * serN:=err_R (mq_pos 7) (by decide) mq_7 (ser_err hy 6)
 have e8:-(2 * serN) ≤ tq y 8 * serN - xq y 8 * 1 ∧ tq y 8 * serN - xq y 8 * 1 ≤ 2 * serN:=err_R (mq_pos 8) (by decide) mq_8 (ser_err hy 7)
 have hs:sq y 8 * serN = y * serN + tq y 1 * serN + tq y 2 * serN + tq y 3 * serN + tq y 4 * serN + tq y 5 * serN + tq y 6 * serN + tq y 7 * serN + tq y 8 * serN:=by
  simp only [sq]
  generalize serN = n
  grind
 have hp:pev serT y = y * serN + xq y 1 * 43087899414213674021824125643264255072305462219207007284242456456798725817691141891220050084051744617156383553793407931128471747317646658681962496000 + xq y 2 * 116789985381818398160573898299231102288065772677584217151319844983904676864291965346766500211691480339536943806187305008155852800 + xq y 3 * 150742804613711681364039825115385279235570281032314673924162220557576589258871909346252821120275293038182400 + xq y 4 * 113496997394961198577319469229027706569291890953579835547744303126809085079968756531200 + xq y 5 * 55933495975544804015926845529165017287291580706094561614752645120 + xq y 6 * 19436928798524005033027957576502600238366720 + xq y 7 * 5017514388048998039552 + xq y 8 * 1:=by
  simp only [xq,pev,serT,serN]
  grind
 rw [hs,hp]
 omega
theorem sq_circle0 {q y:Int} (hq:q = 6746518852 ∨ q = 6746518851) (h0:0 ≤ y) (h1:y ≤ q) :
  -35184372088832 ≤ sq y 8 * sq y 8 + sq (q - y) 8 * sq (q - y) 8 - 18446744073709551616 ∧ sq y 8 * sq y 8 + sq (q - y) 8 * sq (q - y) 8 - 18446744073709551616 ≤ 35184372088832:=by
 have hc:=ser_circle hq h0 h1
 have ha:=ser_sum (y:=y) (by omega)
 have hb:=ser_sum (y:=q - y) (by omega)
 generalize sq y 8 = S at *
 generalize sq (q - y) 8 = C at *
 generalize pev serT y = A at *
 generalize pev serT (q - y) = B at *
 have hN:0 < serN:=by decide +kernel
 have hN1:1000000 ≤ serN:=by decide +kernel
 generalize serN = N at *
 have sqA:0 ≤ A * A:=by
  rcases Int.le_total 0 A with h | h
  ·exact Int.mul_nonneg h h
  ·have:=Int.mul_nonneg (show 0 ≤ -A by omega) (show 0 ≤ -A by omega)
   rwa [Int.neg_mul_neg] at this
 have sqB:0 ≤ B * B:=by
  rcases Int.le_total 0 B with h | h
  ·exact Int.mul_nonneg h h
  ·have:=Int.mul_nonneg (show 0 ≤ -B by omega) (show 0 ≤ -B by omega)
   rwa [Int.neg_mul_neg] at this
 have jN:N * 4294967296 * (N * 4294967296) = (N * N) * 18446744073709551616:=by grind
 rw [jN] at hc
 have nn:0 < N * N:=Int.mul_pos hN hN
 have big:∀ X:Int,X * X ≤ (N * N) * 18446744073709551616 * 2 → -(2 * (N * 4294967296)) ≤ X ∧ X ≤ 2 * (N * 4294967296):=fun X hX => by
  have p0:0 < N * 4294967296:=by omega
  constructor
  ·refine Int.not_lt.1 fun h => ?_
   have h1:2 * (N * 4294967296) ≤ -X:=by omega
   have h2:=Int.mul_le_mul h1 h1 (by omega) (by omega)
   have h3:2 * (N * 4294967296) * (2 * (N * 4294967296)) = (N * N) * 18446744073709551616 * 4:=by grind
   have h4:-X * -X = X * X:=by grind
   rw [h3,h4] at h2
   omega
  ·refine Int.not_lt.1 fun h => ?_
   have h1:2 * (N * 4294967296) ≤ X:=by omega
   have h2:=Int.mul_le_mul h1 h1 (by omega) (by omega)
   have h3:2 * (N * 4294967296) * (2 * (N * 4294967296)) = (N * N) * 18446744073709551616 * 4:=by grind
   rw [h3] at h2
   omega
 have bA:=big A (by omega)
 have bB:=big B (by omega)
 have err:∀ X s:Int,-(2 * (N * 4294967296)) ≤ X ∧ X ≤ 2 * (N * 4294967296) → -(16 * N) ≤ s * N - X ∧ s * N - X ≤ 16 * N → -((N * N) * 300000000000) ≤ (s * s) * (N * N) - X * X ∧ (s * s) * (N * N) - X * X ≤ (N * N) * 300000000000:=fun X s hX hs => by
  have id1:(s * s) * (N * N) - X * X = (s * N - X) * (s * N - X) + 2 * ((s * N - X) * X):=by grind
  rw [id1]
  have k1:=ab_mul hs hs
  have k2:=ab_mul hs hX
  have j1:16 * N * (16 * N) = (N * N) * 256:=by grind
  have j2:16 * N * (2 * (N * 4294967296)) = (N * N) * 137438953472:=by grind
  rw [j1] at k1
  rw [j2] at k2
  omega
 have eA:=err A S bA ha
 have eB:=err B C bB hb
 have fin:∀ z:Int,z * (N * N) ≤ (N * N) * 18000000000000 → z ≤ 18000000000000:=fun z hz => Int.not_lt.1 fun h => by
  have:=Int.mul_lt_mul_of_pos_left h nn
  rw [Int.mul_comm] at this
  have e:N * N * z = z * (N * N):=Int.mul_comm _ _
  omega
 have u1:(S * S + C * C - 18446744073709551616) * (N * N) ≤ (N * N) * 18000000000000 + (N * N) * 600000000000:=by
  have e:(S * S + C * C - 18446744073709551616) * (N * N) = S * S * (N * N) + C * C * (N * N) - (N * N) * 18446744073709551616:=by grind
  rw [e]; omega
 have u2:-((N * N) * 18000000000000 + (N * N) * 600000000000) ≤ (S * S + C * C - 18446744073709551616) * (N * N):=by
  have e:(S * S + C * C - 18446744073709551616) * (N * N) = S * S * (N * N) + C * C * (N * N) - (N * N) * 18446744073709551616:=by grind
  rw [e]; omega
 have fin2:∀ z:Int,z * (N * N) ≤ (N * N) * 35184372088832 → z ≤ 35184372088832:=fun z hz => Int.not_lt.1 fun h => by
  have h2:=Int.mul_lt_mul_of_pos_left h nn
  have e:N * N * z = z * (N * N):=Int.mul_comm _ _
  omega
 constructor
 ·have:=fin2 (-(S * S + C * C - 18446744073709551616)) (by rw [Int.neg_mul]; omega)
  omega
 ·exact fin2 _ (by omega)
theorem sq_circle {y z:Int} (hy:-6746518852 ≤ y ∧ y ≤ 6746518852) {q:Int} (hq:q = 6746518852 ∨ q = 6746518851) (h1:(if y < 0 then -y else y) ≤ q) (hz:(if z < 0 then -z else z) = q - (if y < 0 then -y else y)) :
  -35184372088832 ≤ sq y 8 * sq y 8 + sq z 8 * sq z 8 - 18446744073709551616 ∧ sq y 8 * sq y 8 + sq z 8 * sq z 8 - 18446744073709551616 ≤ 35184372088832:=by
 have h:=sq_circle0 (y:=if y < 0 then -y else y) hq (by split <;> omega) h1
 rw [← hz] at h
 have e:∀ x:Int,sq (if x < 0 then -x else x) 8 * sq (if x < 0 then -x else x) 8 = sq x 8 * sq x 8:=fun x => by
  split
  ·rw [sq_neg,Int.neg_mul_neg]
  ·rfl
 rw [e,e] at h
 exact h
end Go.Ax
end
section
/-
  The sine's series, ars plain numbers.
-/
set_option maxHeartbeats 4000000
set_option maxRecDepth 100000
namespace Go.Ax
open Go.Proofs
theorem td_le {x A:Int} (h:-(A * 4294967296) ≤ x ∧ x ≤ A * 4294967296):-A ≤ x.tdiv 4294967296 ∧ x.tdiv 4294967296 ≤ A:=by
 have e:=@td_err x 4294967296 (by omega)
 omega
theorem nMul_in {t y:Int} (ht:-100000000000 ≤ t ∧ t ≤ 100000000000) (hy:-6746518852 ≤ y ∧ y ≤ 6746518852):nMul (t,false) (y,false) = ((t * y).tdiv 4294967296,false) ∧ (-200000000000 ≤ (t * y).tdiv 4294967296 ∧ (t * y).tdiv 4294967296 ≤ 200000000000):=by
 have h:=ab_mul ht hy
 have h2:=@td_le (t * y) 200000000000 (by omega)
 refine ⟨?_,h2⟩
 unfold nMul
 dsimp only
 rw [whV_in (by omega) (by omega),whV_in (by omega) (by omega),ftV_in (by omega) (by omega),ftF_in (by omega) (by omega),whF_in (by omega),whF_in (by omega)]
 rfl
theorem nInt_in {n:Int} (h:0 ≤ n ∧ n ≤ 1000000):nInt n = (n * 4294967296,false):=by
 unfold nInt
 rw [ftV_in (by omega) (by omega),ftF_in (by omega) (by omega)]
 rfl
theorem facM_le {k:Nat} (h:k < 8):facM k ≤ 1000:=by
 unfold facM
 match k,h with
 | 0,_ | 1,_ | 2,_ | 3,_ | 4,_ | 5,_ | 6,_ | 7,_ => decide
 | k + 8,h => omega
theorem snT_eq {y:Int} (hy:-6746518852 ≤ y ∧ y ≤ 6746518852):∀ k,k ≤ 8 → snT (y,false) k = (tq y k,false)
 | 0,_ => rfl
 | k + 1,hk => by
  have ht:=tq_le hy k
  have g1:=facM_ge k
  have g2:=@facM_le k (by omega)
  obtain ⟨s1,s2,s3,s4⟩:=ser_step (m:=facM k) ht hy g1
  show nNeg (nDiv (nMul (nMul (snT (y,false) k) (y,false)) (y,false)) (nInt (facM k))) = _
  rw [snT_eq hy k (by omega),(nMul_in (by omega) hy).1,(nMul_in (by omega) hy).1,nInt_in (by omega)]
  show nNeg (nDiv _ _) = (-((((tq y k * y).tdiv 4294967296 * y).tdiv 4294967296 * 4294967296).tdiv (facM k * 4294967296)),false)
  generalize ((tq y k * y).tdiv 4294967296 * y).tdiv 4294967296 = u at *
  unfold nDiv raV raF
  dsimp only
  rw [whV_in (by omega) (by omega),whV_in (by omega) (by omega),if_neg (by omega),if_neg (by omega)]
  generalize (u * 4294967296).tdiv (facM k * 4294967296) = v at *
  rw [ftV_in (by omega) (by omega),ftF_in (by omega) (by omega),whF_in (by omega),whF_in (by omega)]
  unfold nNeg
  dsimp only
  rw [whV_in (by omega) (by omega)]
  show (-v,whF v false) = _
  rw [whF_in (by omega)]
theorem sq_le {y:Int} (hy:-6746518852 ≤ y ∧ y ≤ 6746518852):∀ k:Nat,k ≤ 8 → -((k + 1:Int) * 6746518852) ≤ sq y k ∧ sq y k ≤ (k + 1:Int) * 6746518852
 | 0,_ => by
  show _ ≤ y ∧ y ≤ _
  omega
 | k + 1,hk => by
  have h1:=sq_le hy k (by omega)
  have h2:=tq_le hy (k + 1)
  show _ ≤ sq y k + tq y (k + 1) ∧ sq y k + tq y (k + 1) ≤ _
  omega
theorem snS_eq {y:Int} (hy:-6746518852 ≤ y ∧ y ≤ 6746518852):∀ k,k ≤ 8 → snS (y,false) k = (sq y k,false)
 | 0,_ => rfl
 | k + 1,hk => by
  have h1:=sq_le hy k (by omega)
  have h2:=tq_le hy (k + 1)
  show nAdd (snS (y,false) k) (snT (y,false) (k + 1)) = (sq y k + tq y (k + 1),false)
  rw [snS_eq hy k (by omega),snT_eq hy (k + 1) hk]
  unfold nAdd
  dsimp only
  rw [whV_in (by omega) (by omega),whV_in (by omega) (by omega),ftV_in (by omega) (by omega),ftF_in (by omega) (by omega),whF_in (by omega),whF_in (by omega)]
  rfl
end Go.Ax
end
section
/-
  Made polygons are convex.
-/
set_option maxHeartbeats 4000000
set_option maxRecDepth 100000
namespace Go.Ax
open Go.Proofs
theorem mul_ge {M T:Int} (hM:64 ≤ M) (hT:64 ≤ T):64 * M ≤ M * T ∧ 64 * T ≤ M * T:=by
 have h1:M * 64 ≤ M * T:=Int.mul_le_mul_of_nonneg_left hT (by omega)
 have h2:64 * T ≤ M * T:=Int.mul_le_mul_of_nonneg_right hM (by omega)
 omega
theorem tri_cvx {M T:Int} (hM:64 ≤ M) (hT:64 ≤ T) {X Y:Nat → Int} (x0:X 0 = -M) (x1:X 1 = M) (x2:X 2 = 0) (y0:Y 0 = -T) (y1:Y 1 = -T) (y2:Y 2 = T):cvxS 3 X Y = true:=by
 obtain ⟨p1,p2⟩:=mul_ge hM hT
 unfold cvxS
 refine decide_eq_true fun i hi => ?_
 match i,hi with
 | 0,_ =>
  rw [show nxt 3 0 = 1 from rfl,show nxt2 3 0 = 2 from rfl,x0,x1,x2,y0,y1,y2]
  refine ⟨?_,fun j hj k1 k2 => ?_⟩
  ·simp only [Int.sub_mul,Int.mul_sub,Int.add_mul,Int.mul_add,Int.neg_mul,Int.mul_neg,Int.zero_mul,Int.mul_zero,Int.mul_comm T M,Int.neg_neg,ab]
   (repeat' split) <;> omega
  ·match j,hj,k1,k2 with
   | 0,_,k1,k2 => exact absurd rfl k1
   | 1,_,k1,k2 => exact absurd rfl k2
   | 2,_,_,_ =>
    rw [x2,y2]
    simp only [Int.sub_mul,Int.mul_sub,Int.add_mul,Int.mul_add,Int.neg_mul,Int.mul_neg,Int.zero_mul,Int.mul_zero,Int.mul_comm T M,Int.neg_neg,ab]
    omega
   | j + 3,h,_,_ => omega
 | 1,_ =>
  rw [show nxt 3 1 = 2 from rfl,show nxt2 3 1 = 0 from rfl,x0,x1,x2,y0,y1,y2]
  refine ⟨?_,fun j hj k1 k2 => ?_⟩
  ·simp only [Int.sub_mul,Int.mul_sub,Int.add_mul,Int.mul_add,Int.neg_mul,Int.mul_neg,Int.zero_mul,Int.mul_zero,Int.mul_comm T M,Int.neg_neg,ab]
   (repeat' split) <;> omega
  ·match j,hj,k1,k2 with
   | 0,_,_,_ =>
    rw [x0,y0]
    simp only [Int.sub_mul,Int.mul_sub,Int.add_mul,Int.mul_add,Int.neg_mul,Int.mul_neg,Int.zero_mul,Int.mul_zero,Int.mul_comm T M,Int.neg_neg,ab]
    omega
   | 1,_,k1,k2 => exact absurd rfl k1
   | 2,_,k1,k2 => exact absurd rfl k2
   | j + 3,h,_,_ => omega
 | 2,_ =>
  rw [show nxt 3 2 = 0 from rfl,show nxt2 3 2 = 1 from rfl,x0,x1,x2,y0,y1,y2]
  refine ⟨?_,fun j hj k1 k2 => ?_⟩
  ·simp only [Int.sub_mul,Int.mul_sub,Int.add_mul,Int.mul_add,Int.neg_mul,Int.mul_neg,Int.zero_mul,Int.mul_zero,Int.mul_comm T M,Int.neg_neg,ab]
   (repeat' split) <;> omega
  ·match j,hj,k1,k2 with
   | 0,_,k1,k2 => exact absurd rfl k2
   | 1,_,_,_ =>
    rw [x1,y1]
    simp only [Int.sub_mul,Int.mul_sub,Int.add_mul,Int.mul_add,Int.neg_mul,Int.mul_neg,Int.zero_mul,Int.mul_zero,Int.mul_comm T M,Int.neg_neg,ab]
    omega
   | 2,_,k1,k2 => exact absurd rfl k1
   | j + 3,h,_,_ => omega
 | i + 3,h => omega
end Go.Ax
end
section
/-
  Made polygons of five and eight corners are convex.
-/
set_option maxHeartbeats 4000000
set_option maxRecDepth 100000
namespace Go.Ax
open Go.Proofs
theorem pen_cvx {M T h:Int} (hM:64 ≤ M) (hT:64 ≤ T) (h1:2 * h ≤ M) (h2:M ≤ 2 * h + 1) {X Y:Nat → Int} (x0:X 0 = -h) (y0:Y 0 = -T) (x1:X 1 = h) (y1:Y 1 = -T) (x2:X 2 = M) (y2:Y 2 = 0) (x3:X 3 = 0) (y3:Y 3 = T) (x4:X 4 = -M) (y4:Y 4 = 0):cvxS 5 X Y = true:=by
 obtain ⟨p1,p2⟩:=mul_ge hM hT
 have q1:(2 * h) * T ≤ M * T:=Int.mul_le_mul_of_nonneg_right h1 (by omega)
 have q2:M * T ≤ (2 * h + 1) * T:=Int.mul_le_mul_of_nonneg_right h2 (by omega)
 have q3:h * 64 ≤ h * T:=Int.mul_le_mul_of_nonneg_left hT (by omega)
 rw [Int.mul_assoc] at q1
 rw [Int.add_mul,Int.mul_assoc,Int.one_mul] at q2
 unfold cvxS
 refine decide_eq_true fun i hi => ?_
 match i,hi with
 | 0,_ =>
  rw [show nxt 5 0 = 1 from rfl,show nxt2 5 0 = 2 from rfl,x0,x1,x2,y0,y1,y2]
  refine ⟨?_,fun j hj k1 k2 => ?_⟩
  ·simp only [Int.sub_mul,Int.mul_sub,Int.add_mul,Int.mul_add,Int.neg_mul,Int.mul_neg,Int.zero_mul,Int.mul_zero,Int.mul_comm T M,Int.mul_comm T h,Int.neg_neg,ab]
   (repeat' split) <;> omega
  ·match j,hj,k1,k2 with
   | 0,_,k1,k2 => exact absurd rfl k1
   | 1,_,k1,k2 => exact absurd rfl k2
   | 2,_,_,_ =>
    rw [x2,y2]
    simp only [Int.sub_mul,Int.mul_sub,Int.add_mul,Int.mul_add,Int.neg_mul,Int.mul_neg,Int.zero_mul,Int.mul_zero,Int.mul_comm T M,Int.mul_comm T h,Int.neg_neg,ab]
    omega
   | 3,_,_,_ =>
    rw [x3,y3]
    simp only [Int.sub_mul,Int.mul_sub,Int.add_mul,Int.mul_add,Int.neg_mul,Int.mul_neg,Int.zero_mul,Int.mul_zero,Int.mul_comm T M,Int.mul_comm T h,Int.neg_neg,ab]
    omega
   | 4,_,_,_ =>
    rw [x4,y4]
    simp only [Int.sub_mul,Int.mul_sub,Int.add_mul,Int.mul_add,Int.neg_mul,Int.mul_neg,Int.zero_mul,Int.mul_zero,Int.mul_comm T M,Int.mul_comm T h,Int.neg_neg,ab]
    omega
   | j + 5,h,_,_ => omega
 | 1,_ =>
  rw [show nxt 5 1 = 2 from rfl,show nxt2 5 1 = 3 from rfl,x1,x2,x3,y1,y2,y3]
  refine ⟨?_,fun j hj k1 k2 => ?_⟩
  ·simp only [Int.sub_mul,Int.mul_sub,Int.add_mul,Int.mul_add,Int.neg_mul,Int.mul_neg,Int.zero_mul,Int.mul_zero,Int.mul_comm T M,Int.mul_comm T h,Int.neg_neg,ab]
   (repeat' split) <;> omega
  ·match j,hj,k1,k2 with
   | 0,_,_,_ =>
    rw [x0,y0]
    simp only [Int.sub_mul,Int.mul_sub,Int.add_mul,Int.mul_add,Int.neg_mul,Int.mul_neg,Int.zero_mul,Int.mul_zero,Int.mul_comm T M,Int.mul_comm T h,Int.neg_neg,ab]
    omega
   | 1,_,k1,k2 => exact absurd rfl k1
   | 2,_,k1,k2 => exact absurd rfl k2
   | 3,_,_,_ =>
    rw [x3,y3]
    simp only [Int.sub_mul,Int.mul_sub,Int.add_mul,Int.mul_add,Int.neg_mul,Int.mul_neg,Int.zero_mul,Int.mul_zero,Int.mul_comm T M,Int.mul_comm T h,Int.neg_neg,ab]
    omega
   | 4,_,_,_ =>
    rw [x4,y4]
    simp only [Int.sub_mul,Int.mul_sub,Int.add_mul,Int.mul_add,Int.neg_mul,Int.mul_neg,Int.zero_mul,Int.mul_zero,Int.mul_comm T M,Int.mul_comm T h,Int.neg_neg,ab]
    omega
   | j + 5,h,_,_ => omega
 | 2,_ =>
  rw [show nxt 5 2 = 3 from rfl,show nxt2 5 2 = 4 from rfl,x2,x3,x4,y2,y3,y4]
  refine ⟨?_,fun j hj k1 k2 => ?_⟩
  ·simp only [Int.sub_mul,Int.mul_sub,Int.add_mul,Int.mul_add,Int.neg_mul,Int.mul_neg,Int.zero_mul,Int.mul_zero,Int.mul_comm T M,Int.mul_comm T h,Int.neg_neg,ab]
   (repeat' split) <;> omega
  ·match j,hj,k1,k2 with
   | 0,_,_,_ =>
    rw [x0,y0]
    simp only [Int.sub_mul,Int.mul_sub,Int.add_mul,Int.mul_add,Int.neg_mul,Int.mul_neg,Int.zero_mul,Int.mul_zero,Int.mul_comm T M,Int.mul_comm T h,Int.neg_neg,ab]
    omega
   | 1,_,_,_ =>
    rw [x1,y1]
    simp only [Int.sub_mul,Int.mul_sub,Int.add_mul,Int.mul_add,Int.neg_mul,Int.mul_neg,Int.zero_mul,Int.mul_zero,Int.mul_comm T M,Int.mul_comm T h,Int.neg_neg,ab]
    omega
   | 2,_,k1,k2 => exact absurd rfl k1
   | 3,_,k1,k2 => exact absurd rfl k2
   | 4,_,_,_ =>
    rw [x4,y4]
    simp only [Int.sub_mul,Int.mul_sub,Int.add_mul,Int.mul_add,Int.neg_mul,Int.mul_neg,Int.zero_mul,Int.mul_zero,Int.mul_comm T M,Int.mul_comm T h,Int.neg_neg,ab]
    omega
   | j + 5,h,_,_ => omega
 | 3,_ =>
  rw [show nxt 5 3 = 4 from rfl,show nxt2 5 3 = 0 from rfl,x3,x4,x0,y3,y4,y0]
  refine ⟨?_,fun j hj k1 k2 => ?_⟩
  ·simp only [Int.sub_mul,Int.mul_sub,Int.add_mul,Int.mul_add,Int.neg_mul,Int.mul_neg,Int.zero_mul,Int.mul_zero,Int.mul_comm T M,Int.mul_comm T h,Int.neg_neg,ab]
   (repeat' split) <;> omega
  ·match j,hj,k1,k2 with
   | 0,_,_,_ =>
    rw [x0,y0]
    simp only [Int.sub_mul,Int.mul_sub,Int.add_mul,Int.mul_add,Int.neg_mul,Int.mul_neg,Int.zero_mul,Int.mul_zero,Int.mul_comm T M,Int.mul_comm T h,Int.neg_neg,ab]
    omega
   | 1,_,_,_ =>
    rw [x1,y1]
    simp only [Int.sub_mul,Int.mul_sub,Int.add_mul,Int.mul_add,Int.neg_mul,Int.mul_neg,Int.zero_mul,Int.mul_zero,Int.mul_comm T M,Int.mul_comm T h,Int.neg_neg,ab]
    omega
   | 2,_,_,_ =>
    rw [x2,y2]
    simp only [Int.sub_mul,Int.mul_sub,Int.add_mul,Int.mul_add,Int.neg_mul,Int.mul_neg,Int.zero_mul,Int.mul_zero,Int.mul_comm T M,Int.mul_comm T h,Int.neg_neg,ab]
    omega
   | 3,_,k1,k2 => exact absurd rfl k1
   | 4,_,k1,k2 => exact absurd rfl k2
   | j + 5,h,_,_ => omega
 | 4,_ =>
  rw [show nxt 5 4 = 0 from rfl,show nxt2 5 4 = 1 from rfl,x4,x0,x1,y4,y0,y1]
  refine ⟨?_,fun j hj k1 k2 => ?_⟩
  ·simp only [Int.sub_mul,Int.mul_sub,Int.add_mul,Int.mul_add,Int.neg_mul,Int.mul_neg,Int.zero_mul,Int.mul_zero,Int.mul_comm T M,Int.mul_comm T h,Int.neg_neg,ab]
   (repeat' split) <;> omega
  ·match j,hj,k1,k2 with
   | 0,_,k1,k2 => exact absurd rfl k2
   | 1,_,_,_ =>
    rw [x1,y1]
    simp only [Int.sub_mul,Int.mul_sub,Int.add_mul,Int.mul_add,Int.neg_mul,Int.mul_neg,Int.zero_mul,Int.mul_zero,Int.mul_comm T M,Int.mul_comm T h,Int.neg_neg,ab]
    omega
   | 2,_,_,_ =>
    rw [x2,y2]
    simp only [Int.sub_mul,Int.mul_sub,Int.add_mul,Int.mul_add,Int.neg_mul,Int.mul_neg,Int.zero_mul,Int.mul_zero,Int.mul_comm T M,Int.mul_comm T h,Int.neg_neg,ab]
    omega
   | 3,_,_,_ =>
    rw [x3,y3]
    simp only [Int.sub_mul,Int.mul_sub,Int.add_mul,Int.mul_add,Int.neg_mul,Int.mul_neg,Int.zero_mul,Int.mul_zero,Int.mul_comm T M,Int.mul_comm T h,Int.neg_neg,ab]
    omega
   | 4,_,k1,k2 => exact absurd rfl k1
   | j + 5,h,_,_ => omega
 | i + 5,h => omega
theorem oct_cvx {M h:Int} (hM:64 ≤ M) (h1:2 * h ≤ M) (h2:M ≤ 2 * h + 1) {X Y:Nat → Int} (x0:X 0 = M) (y0:Y 0 = -h) (x1:X 1 = M) (y1:Y 1 = h) (x2:X 2 = h) (y2:Y 2 = M) (x3:X 3 = -h) (y3:Y 3 = M) (x4:X 4 = -M) (y4:Y 4 = h) (x5:X 5 = -M) (y5:Y 5 = -h) (x6:X 6 = -h) (y6:Y 6 = -M) (x7:X 7 = h) (y7:Y 7 = -M):cvxS 8 X Y = true:=by
 have p1:64 * M ≤ M * M:=Int.mul_le_mul_of_nonneg_right hM (by omega)
 have q1:(2 * h) * M ≤ M * M:=Int.mul_le_mul_of_nonneg_right h1 (by omega)
 have q2:M * M ≤ (2 * h + 1) * M:=Int.mul_le_mul_of_nonneg_right h2 (by omega)
 have q3:h * (2 * h) ≤ h * M:=Int.mul_le_mul_of_nonneg_left h1 (by omega)
 have q4:h * M ≤ h * (2 * h + 1):=Int.mul_le_mul_of_nonneg_left h2 (by omega)
 have q5:32 * h ≤ h * h:=Int.mul_le_mul_of_nonneg_right (by omega) (by omega)
 rw [Int.mul_assoc] at q1
 rw [Int.add_mul,Int.mul_assoc,Int.one_mul] at q2
 rw [Int.mul_left_comm] at q3
 rw [Int.mul_add,Int.mul_left_comm,Int.mul_one] at q4
 unfold cvxS
 refine decide_eq_true fun i hi => ?_
 match i,hi with
 | 0,_ =>
  rw [show nxt 8 0 = 1 from rfl,show nxt2 8 0 = 2 from rfl,x0,x1,x2,y0,y1,y2]
  refine ⟨?_,fun j hj k1 k2 => ?_⟩
  ·simp only [Int.sub_mul,Int.mul_sub,Int.add_mul,Int.mul_add,Int.neg_mul,Int.mul_neg,Int.zero_mul,Int.mul_zero,Int.mul_comm M h,Int.neg_neg,ab]
   (repeat' split) <;> omega
  ·match j,hj,k1,k2 with
   | 0,_,k1,k2 => exact absurd rfl k1
   | 1,_,k1,k2 => exact absurd rfl k2
   | 2,_,_,_ =>
    rw [x2,y2]
    simp only [Int.sub_mul,Int.mul_sub,Int.add_mul,Int.mul_add,Int.neg_mul,Int.mul_neg,Int.zero_mul,Int.mul_zero,Int.mul_comm M h,Int.neg_neg,ab]
    omega
   | 3,_,_,_ =>
    rw [x3,y3]
    simp only [Int.sub_mul,Int.mul_sub,Int.add_mul,Int.mul_add,Int.neg_mul,Int.mul_neg,Int.zero_mul,Int.mul_zero,Int.mul_comm M h,Int.neg_neg,ab]
    omega
   | 4,_,_,_ =>
    rw [x4,y4]
    simp only [Int.sub_mul,Int.mul_sub,Int.add_mul,Int.mul_add,Int.neg_mul,Int.mul_neg,Int.zero_mul,Int.mul_zero,Int.mul_comm M h,Int.neg_neg,ab]
    omega
   | 5,_,_,_ =>
    rw [x5,y5]
    simp only [Int.sub_mul,Int.mul_sub,Int.add_mul,Int.mul_add,Int.neg_mul,Int.mul_neg,Int.zero_mul,Int.mul_zero,Int.mul_comm M h,Int.neg_neg,ab]
    omega
   | 6,_,_,_ =>
    rw [x6,y6]
    simp only [Int.sub_mul,Int.mul_sub,Int.add_mul,Int.mul_add,Int.neg_mul,Int.mul_neg,Int.zero_mul,Int.mul_zero,Int.mul_comm M h,Int.neg_neg,ab]
    omega
   | 7,_,_,_ =>
    rw [x7,y7]
    simp only [Int.sub_mul,Int.mul_sub,Int.add_mul,Int.mul_add,Int.neg_mul,Int.mul_neg,Int.zero_mul,Int.mul_zero,Int.mul_comm M h,Int.neg_neg,ab]
    omega
   | j + 8,h,_,_ => omega
 | 1,_ =>
  rw [show nxt 8 1 = 2 from rfl,show nxt2 8 1 = 3 from rfl,x1,x2,x3,y1,y2,y3]
  refine ⟨?_,fun j hj k1 k2 => ?_⟩
  ·simp only [Int.sub_mul,Int.mul_sub,Int.add_mul,Int.mul_add,Int.neg_mul,Int.mul_neg,Int.zero_mul,Int.mul_zero,Int.mul_comm M h,Int.neg_neg,ab]
   (repeat' split) <;> omega
  ·match j,hj,k1,k2 with
   | 0,_,_,_ =>
    rw [x0,y0]
    simp only [Int.sub_mul,Int.mul_sub,Int.add_mul,Int.mul_add,Int.neg_mul,Int.mul_neg,Int.zero_mul,Int.mul_zero,Int.mul_comm M h,Int.neg_neg,ab]
    omega
   | 1,_,k1,k2 => exact absurd rfl k1
   | 2,_,k1,k2 => exact absurd rfl k2
   | 3,_,_,_ =>
    rw [x3,y3]
    simp only [Int.sub_mul,Int.mul_sub,Int.add_mul,Int.mul_add,Int.neg_mul,Int.mul_neg,Int.zero_mul,Int.mul_zero,Int.mul_comm M h,Int.neg_neg,ab]
    omega
   | 4,_,_,_ =>
    rw [x4,y4]
    simp only [Int.sub_mul,Int.mul_sub,Int.add_mul,Int.mul_add,Int.neg_mul,Int.mul_neg,Int.zero_mul,Int.mul_zero,Int.mul_comm M h,Int.neg_neg,ab]
    omega
   | 5,_,_,_ =>
    rw [x5,y5]
    simp only [Int.sub_mul,Int.mul_sub,Int.add_mul,Int.mul_add,Int.neg_mul,Int.mul_neg,Int.zero_mul,Int.mul_zero,Int.mul_comm M h,Int.neg_neg,ab]
    omega
   | 6,_,_,_ =>
    rw [x6,y6]
    simp only [Int.sub_mul,Int.mul_sub,Int.add_mul,Int.mul_add,Int.neg_mul,Int.mul_neg,Int.zero_mul,Int.mul_zero,Int.mul_comm M h,Int.neg_neg,ab]
    omega
   | 7,_,_,_ =>
    rw [x7,y7]
    simp only [Int.sub_mul,Int.mul_sub,Int.add_mul,Int.mul_add,Int.neg_mul,Int.mul_neg,Int.zero_mul,Int.mul_zero,Int.mul_comm M h,Int.neg_neg,ab]
    omega
   | j + 8,h,_,_ => omega
 | 2,_ =>
  rw [show nxt 8 2 = 3 from rfl,show nxt2 8 2 = 4 from rfl,x2,x3,x4,y2,y3,y4]
  refine ⟨?_,fun j hj k1 k2 => ?_⟩
  ·simp only [Int.sub_mul,Int.mul_sub,Int.add_mul,Int.mul_add,Int.neg_mul,Int.mul_neg,Int.zero_mul,Int.mul_zero,Int.mul_comm M h,Int.neg_neg,ab]
   (repeat' split) <;> omega
  ·match j,hj,k1,k2 with
   | 0,_,_,_ =>
    rw [x0,y0]
    simp only [Int.sub_mul,Int.mul_sub,Int.add_mul,Int.mul_add,Int.neg_mul,Int.mul_neg,Int.zero_mul,Int.mul_zero,Int.mul_comm M h,Int.neg_neg,ab]
    omega
   | 1,_,_,_ =>
    rw [x1,y1]
    simp only [Int.sub_mul,Int.mul_sub,Int.add_mul,Int.mul_add,Int.neg_mul,Int.mul_neg,Int.zero_mul,Int.mul_zero,Int.mul_comm M h,Int.neg_neg,ab]
    omega
   | 2,_,k1,k2 => exact absurd rfl k1
   | 3,_,k1,k2 => exact absurd rfl k2
   | 4,_,_,_ =>
    rw [x4,y4]
    simp only [Int.sub_mul,Int.mul_sub,Int.add_mul,Int.mul_add,Int.neg_mul,Int.mul_neg,Int.zero_mul,Int.mul_zero,Int.mul_comm M h,Int.neg_neg,ab]
    omega
   | 5,_,_,_ =>
    rw [x5,y5]
    simp only [Int.sub_mul,Int.mul_sub,Int.add_mul,Int.mul_add,Int.neg_mul,Int.mul_neg,Int.zero_mul,Int.mul_zero,Int.mul_comm M h,Int.neg_neg,ab]
    omega
   | 6,_,_,_ =>
    rw [x6,y6]
    simp only [Int.sub_mul,Int.mul_sub,Int.add_mul,Int.mul_add,Int.neg_mul,Int.mul_neg,Int.zero_mul,Int.mul_zero,Int.mul_comm M h,Int.neg_neg,ab]
    omega
   | 7,_,_,_ =>
    rw [x7,y7]
    simp only [Int.sub_mul,Int.mul_sub,Int.add_mul,Int.mul_add,Int.neg_mul,Int.mul_neg,Int.zero_mul,Int.mul_zero,Int.mul_comm M h,Int.neg_neg,ab]
    omega
   | j + 8,h,_,_ => omega
 | 3,_ =>
  rw [show nxt 8 3 = 4 from rfl,show nxt2 8 3 = 5 from rfl,x3,x4,x5,y3,y4,y5]
  refine ⟨?_,fun j hj k1 k2 => ?_⟩
  ·simp only [Int.sub_mul,Int.mul_sub,Int.add_mul,Int.mul_add,Int.neg_mul,Int.mul_neg,Int.zero_mul,Int.mul_zero,Int.mul_comm M h,Int.neg_neg,ab]
   (repeat' split) <;> omega
  ·match j,hj,k1,k2 with
   | 0,_,_,_ =>
    rw [x0,y0]
    simp only [Int.sub_mul,Int.mul_sub,Int.add_mul,Int.mul_add,Int.neg_mul,Int.mul_neg,Int.zero_mul,Int.mul_zero,Int.mul_comm M h,Int.neg_neg,ab]
    omega
   | 1,_,_,_ =>
    rw [x1,y1]
    simp only [Int.sub_mul,Int.mul_sub,Int.add_mul,Int.mul_add,Int.neg_mul,Int.mul_neg,Int.zero_mul,Int.mul_zero,Int.mul_comm M h,Int.neg_neg,ab]
    omega
   | 2,_,_,_ =>
    rw [x2,y2]
    simp only [Int.sub_mul,Int.mul_sub,Int.add_mul,Int.mul_add,Int.neg_mul,Int.mul_neg,Int.zero_mul,Int.mul_zero,Int.mul_comm M h,Int.neg_neg,ab]
    omega
   | 3,_,k1,k2 => exact absurd rfl k1
   | 4,_,k1,k2 => exact absurd rfl k2
   | 5,_,_,_ =>
    rw [x5,y5]
    simp only [Int.sub_mul,Int.mul_sub,Int.add_mul,Int.mul_add,Int.neg_mul,Int.mul_neg,Int.zero_mul,Int.mul_zero,Int.mul_comm M h,Int.neg_neg,ab]
    omega
   | 6,_,_,_ =>
    rw [x6,y6]
    simp only [Int.sub_mul,Int.mul_sub,Int.add_mul,Int.mul_add,Int.neg_mul,Int.mul_neg,Int.zero_mul,Int.mul_zero,Int.mul_comm M h,Int.neg_neg,ab]
    omega
   | 7,_,_,_ =>
    rw [x7,y7]
    simp only [Int.sub_mul,Int.mul_sub,Int.add_mul,Int.mul_add,Int.neg_mul,Int.mul_neg,Int.zero_mul,Int.mul_zero,Int.mul_comm M h,Int.neg_neg,ab]
    omega
   | j + 8,h,_,_ => omega
 | 4,_ =>
  rw [show nxt 8 4 = 5 from rfl,show nxt2 8 4 = 6 from rfl,x4,x5,x6,y4,y5,y6]
  refine ⟨?_,fun j hj k1 k2 => ?_⟩
  ·simp only [Int.sub_mul,Int.mul_sub,Int.add_mul,Int.mul_add,Int.neg_mul,Int.mul_neg,Int.zero_mul,Int.mul_zero,Int.mul_comm M h,Int.neg_neg,ab]
   (repeat' split) <;> omega
  ·match j,hj,k1,k2 with
   | 0,_,_,_ =>
    rw [x0,y0]
    simp only [Int.sub_mul,Int.mul_sub,Int.add_mul,Int.mul_add,Int.neg_mul,Int.mul_neg,Int.zero_mul,Int.mul_zero,Int.mul_comm M h,Int.neg_neg,ab]
    omega
   | 1,_,_,_ =>
    rw [x1,y1]
    simp only [Int.sub_mul,Int.mul_sub,Int.add_mul,Int.mul_add,Int.neg_mul,Int.mul_neg,Int.zero_mul,Int.mul_zero,Int.mul_comm M h,Int.neg_neg,ab]
    omega
   | 2,_,_,_ =>
    rw [x2,y2]
    simp only [Int.sub_mul,Int.mul_sub,Int.add_mul,Int.mul_add,Int.neg_mul,Int.mul_neg,Int.zero_mul,Int.mul_zero,Int.mul_comm M h,Int.neg_neg,ab]
    omega
   | 3,_,_,_ =>
    rw [x3,y3]
    simp only [Int.sub_mul,Int.mul_sub,Int.add_mul,Int.mul_add,Int.neg_mul,Int.mul_neg,Int.zero_mul,Int.mul_zero,Int.mul_comm M h,Int.neg_neg,ab]
    omega
   | 4,_,k1,k2 => exact absurd rfl k1
   | 5,_,k1,k2 => exact absurd rfl k2
   | 6,_,_,_ =>
    rw [x6,y6]
    simp only [Int.sub_mul,Int.mul_sub,Int.add_mul,Int.mul_add,Int.neg_mul,Int.mul_neg,Int.zero_mul,Int.mul_zero,Int.mul_comm M h,Int.neg_neg,ab]
    omega
   | 7,_,_,_ =>
    rw [x7,y7]
    simp only [Int.sub_mul,Int.mul_sub,Int.add_mul,Int.mul_add,Int.neg_mul,Int.mul_neg,Int.zero_mul,Int.mul_zero,Int.mul_comm M h,Int.neg_neg,ab]
    omega
   | j + 8,h,_,_ => omega
 | 5,_ =>
  rw [show nxt 8 5 = 6 from rfl,show nxt2 8 5 = 7 from rfl,x5,x6,x7,y5,y6,y7]
  refine ⟨?_,fun j hj k1 k2 => ?_⟩
  ·simp only [Int.sub_mul,Int.mul_sub,Int.add_mul,Int.mul_add,Int.neg_mul,Int.mul_neg,Int.zero_mul,Int.mul_zero,Int.mul_comm M h,Int.neg_neg,ab]
   (repeat' split) <;> omega
  ·match j,hj,k1,k2 with
   | 0,_,_,_ =>
    rw [x0,y0]
    simp only [Int.sub_mul,Int.mul_sub,Int.add_mul,Int.mul_add,Int.neg_mul,Int.mul_neg,Int.zero_mul,Int.mul_zero,Int.mul_comm M h,Int.neg_neg,ab]
    omega
   | 1,_,_,_ =>
    rw [x1,y1]
    simp only [Int.sub_mul,Int.mul_sub,Int.add_mul,Int.mul_add,Int.neg_mul,Int.mul_neg,Int.zero_mul,Int.mul_zero,Int.mul_comm M h,Int.neg_neg,ab]
    omega
   | 2,_,_,_ =>
    rw [x2,y2]
    simp only [Int.sub_mul,Int.mul_sub,Int.add_mul,Int.mul_add,Int.neg_mul,Int.mul_neg,Int.zero_mul,Int.mul_zero,Int.mul_comm M h,Int.neg_neg,ab]
    omega
   | 3,_,_,_ =>
    rw [x3,y3]
    simp only [Int.sub_mul,Int.mul_sub,Int.add_mul,Int.mul_add,Int.neg_mul,Int.mul_neg,Int.zero_mul,Int.mul_zero,Int.mul_comm M h,Int.neg_neg,ab]
    omega
   | 4,_,_,_ =>
    rw [x4,y4]
    simp only [Int.sub_mul,Int.mul_sub,Int.add_mul,Int.mul_add,Int.neg_mul,Int.mul_neg,Int.zero_mul,Int.mul_zero,Int.mul_comm M h,Int.neg_neg,ab]
    omega
   | 5,_,k1,k2 => exact absurd rfl k1
   | 6,_,k1,k2 => exact absurd rfl k2
   | 7,_,_,_ =>
    rw [x7,y7]
    simp only [Int.sub_mul,Int.mul_sub,Int.add_mul,Int.mul_add,Int.neg_mul,Int.mul_neg,Int.zero_mul,Int.mul_zero,Int.mul_comm M h,Int.neg_neg,ab]
    omega
   | j + 8,h,_,_ => omega
 | 6,_ =>
  rw [show nxt 8 6 = 7 from rfl,show nxt2 8 6 = 0 from rfl,x6,x7,x0,y6,y7,y0]
  refine ⟨?_,fun j hj k1 k2 => ?_⟩
  ·simp only [Int.sub_mul,Int.mul_sub,Int.add_mul,Int.mul_add,Int.neg_mul,Int.mul_neg,Int.zero_mul,Int.mul_zero,Int.mul_comm M h,Int.neg_neg,ab]
   (repeat' split) <;> omega
  ·match j,hj,k1,k2 with
   | 0,_,_,_ =>
    rw [x0,y0]
    simp only [Int.sub_mul,Int.mul_sub,Int.add_mul,Int.mul_add,Int.neg_mul,Int.mul_neg,Int.zero_mul,Int.mul_zero,Int.mul_comm M h,Int.neg_neg,ab]
    omega
   | 1,_,_,_ =>
    rw [x1,y1]
    simp only [Int.sub_mul,Int.mul_sub,Int.add_mul,Int.mul_add,Int.neg_mul,Int.mul_neg,Int.zero_mul,Int.mul_zero,Int.mul_comm M h,Int.neg_neg,ab]
    omega
   | 2,_,_,_ =>
    rw [x2,y2]
    simp only [Int.sub_mul,Int.mul_sub,Int.add_mul,Int.mul_add,Int.neg_mul,Int.mul_neg,Int.zero_mul,Int.mul_zero,Int.mul_comm M h,Int.neg_neg,ab]
    omega
   | 3,_,_,_ =>
    rw [x3,y3]
    simp only [Int.sub_mul,Int.mul_sub,Int.add_mul,Int.mul_add,Int.neg_mul,Int.mul_neg,Int.zero_mul,Int.mul_zero,Int.mul_comm M h,Int.neg_neg,ab]
    omega
   | 4,_,_,_ =>
    rw [x4,y4]
    simp only [Int.sub_mul,Int.mul_sub,Int.add_mul,Int.mul_add,Int.neg_mul,Int.mul_neg,Int.zero_mul,Int.mul_zero,Int.mul_comm M h,Int.neg_neg,ab]
    omega
   | 5,_,_,_ =>
    rw [x5,y5]
    simp only [Int.sub_mul,Int.mul_sub,Int.add_mul,Int.mul_add,Int.neg_mul,Int.mul_neg,Int.zero_mul,Int.mul_zero,Int.mul_comm M h,Int.neg_neg,ab]
    omega
   | 6,_,k1,k2 => exact absurd rfl k1
   | 7,_,k1,k2 => exact absurd rfl k2
   | j + 8,h,_,_ => omega
 | 7,_ =>
  rw [show nxt 8 7 = 0 from rfl,show nxt2 8 7 = 1 from rfl,x7,x0,x1,y7,y0,y1]
  refine ⟨?_,fun j hj k1 k2 => ?_⟩
  ·simp only [Int.sub_mul,Int.mul_sub,Int.add_mul,Int.mul_add,Int.neg_mul,Int.mul_neg,Int.zero_mul,Int.mul_zero,Int.mul_comm M h,Int.neg_neg,ab]
   (repeat' split) <;> omega
  ·match j,hj,k1,k2 with
   | 0,_,k1,k2 => exact absurd rfl k2
   | 1,_,_,_ =>
    rw [x1,y1]
    simp only [Int.sub_mul,Int.mul_sub,Int.add_mul,Int.mul_add,Int.neg_mul,Int.mul_neg,Int.zero_mul,Int.mul_zero,Int.mul_comm M h,Int.neg_neg,ab]
    omega
   | 2,_,_,_ =>
    rw [x2,y2]
    simp only [Int.sub_mul,Int.mul_sub,Int.add_mul,Int.mul_add,Int.neg_mul,Int.mul_neg,Int.zero_mul,Int.mul_zero,Int.mul_comm M h,Int.neg_neg,ab]
    omega
   | 3,_,_,_ =>
    rw [x3,y3]
    simp only [Int.sub_mul,Int.mul_sub,Int.add_mul,Int.mul_add,Int.neg_mul,Int.mul_neg,Int.zero_mul,Int.mul_zero,Int.mul_comm M h,Int.neg_neg,ab]
    omega
   | 4,_,_,_ =>
    rw [x4,y4]
    simp only [Int.sub_mul,Int.mul_sub,Int.add_mul,Int.mul_add,Int.neg_mul,Int.mul_neg,Int.zero_mul,Int.mul_zero,Int.mul_comm M h,Int.neg_neg,ab]
    omega
   | 5,_,_,_ =>
    rw [x5,y5]
    simp only [Int.sub_mul,Int.mul_sub,Int.add_mul,Int.mul_add,Int.neg_mul,Int.mul_neg,Int.zero_mul,Int.mul_zero,Int.mul_comm M h,Int.neg_neg,ab]
    omega
   | 6,_,_,_ =>
    rw [x6,y6]
    simp only [Int.sub_mul,Int.mul_sub,Int.add_mul,Int.mul_add,Int.neg_mul,Int.mul_neg,Int.zero_mul,Int.mul_zero,Int.mul_comm M h,Int.neg_neg,ab]
    omega
   | 7,_,k1,k2 => exact absurd rfl k1
   | j + 8,h,_,_ => omega
 | i + 8,h => omega
end Go.Ax
end
section
/-
  Made shapes are sound.
-/
set_option maxHeartbeats 4000000
set_option maxRecDepth 100000
namespace Go.Ax
open Go.Proofs
theorem mk_lo {a b c:Int} (i:Nat) (hi:i < mkN a):lo (mkX a b c i) ∧ lo (mkY a b c i):=by
 have b1:=@mkM_bd b b
 have b2:=@mkM_bd b c
 have t1:(mkM b b).tdiv 2 = mkM b b / 2:=Int.tdiv_eq_ediv_of_nonneg (by omega)
 have t2:(-mkM b b).tdiv 2 = -(mkM b b / 2):=by rw [Int.neg_tdiv,t1]
 unfold mkX mkY mkP
 unfold mkN at hi
 by_cases k0:modS a 5 = 0
 ·rw [if_pos k0] at hi; omega
 rw [if_neg k0] at hi
 by_cases k1:modS a 5 = 1
 ·rw [if_pos k1] at hi; omega
 rw [if_neg k1] at hi
 rw [t1,t2]
 generalize mkM b b = M at *
 generalize mkM b c = T at *
 by_cases k2:modS a 5 = 2
 ·rw [if_pos k2] at hi
  rw [if_pos k2]
  match i with
  | 0 => show lo (-M) ∧ lo (-T); unfold lo; omega
  | 1 => show lo M ∧ lo (-T); unfold lo; omega
  | 2 => show lo 0 ∧ lo T; unfold lo; omega
  | q + 3 => omega
 rw [if_neg k2] at hi
 rw [if_neg k2]
 by_cases k3:modS a 5 = 3
 ·rw [if_pos k3] at hi
  rw [if_pos k3]
  match i with
  | 0 => show lo (-(M / 2)) ∧ lo (-T); unfold lo; omega
  | 1 => show lo (M / 2) ∧ lo (-T); unfold lo; omega
  | 2 => show lo M ∧ lo 0; unfold lo; omega
  | 3 => show lo 0 ∧ lo T; unfold lo; omega
  | 4 => show lo (-M) ∧ lo 0; unfold lo; omega
  | q + 5 => omega
 rw [if_neg k3] at hi
 rw [if_neg k3]
 match i with
 | 0 => show lo M ∧ lo (-(M / 2)); unfold lo; omega
 | 1 => show lo M ∧ lo (M / 2); unfold lo; omega
 | 2 => show lo (M / 2) ∧ lo M; unfold lo; omega
 | 3 => show lo (-(M / 2)) ∧ lo M; unfold lo; omega
 | 4 => show lo (-M) ∧ lo (M / 2); unfold lo; omega
 | 5 => show lo (-M) ∧ lo (-(M / 2)); unfold lo; omega
 | 6 => show lo (-(M / 2)) ∧ lo (-M); unfold lo; omega
 | 7 => show lo (M / 2) ∧ lo (-M); unfold lo; omega
 | q + 8 => omega
theorem mk_cvx {a b c:Int} (k0:modS a 5 ≠ 0) (k1:modS a 5 ≠ 1):cvxS (mkN a) (mkX a b c) (mkY a b c) = true:=by
 have b1:=@mkM_bd b b
 have b2:=@mkM_bd b c
 have t1:(mkM b b).tdiv 2 = mkM b b / 2:=Int.tdiv_eq_ediv_of_nonneg (by omega)
 have t2:(-mkM b b).tdiv 2 = -(mkM b b / 2):=by rw [Int.neg_tdiv,t1]
 by_cases k2:modS a 5 = 2
 ·rw [show mkN a = 3 from by unfold mkN; rw [if_neg k0,if_neg k1,if_pos k2]]
  refine tri_cvx (M:=mkM b b) (T:=mkM b c) (by omega) (by omega) ?_ ?_ ?_ ?_ ?_ ?_ <;> (first | unfold mkX | unfold mkY) <;> unfold mkP <;> rw [if_pos k2] <;> rfl
 by_cases k3:modS a 5 = 3
 ·rw [show mkN a = 5 from by unfold mkN; rw [if_neg k0,if_neg k1,if_neg k2,if_pos k3]]
  refine pen_cvx (M:=mkM b b) (T:=mkM b c) (h:=mkM b b / 2) (by omega) (by omega) (by omega) (by omega) ?_ ?_ ?_ ?_ ?_ ?_ ?_ ?_ ?_ ?_ <;> (first | unfold mkX | unfold mkY) <;> unfold mkP <;> rw [if_neg k2,if_pos k3,t1,t2] <;> rfl
 ·rw [show mkN a = 8 from by unfold mkN; rw [if_neg k0,if_neg k1,if_neg k2,if_neg k3]]
  refine oct_cvx (M:=mkM b b) (h:=mkM b b / 2) (by omega) (by omega) (by omega) ?_ ?_ ?_ ?_ ?_ ?_ ?_ ?_ ?_ ?_ ?_ ?_ ?_ ?_ ?_ ?_ <;> (first | unfold mkX | unfold mkY) <;> unfold mkP <;> rw [if_neg k2,if_neg k3,t1,t2] <;> rfl
theorem mk_chk {a b c:Int}:chkS (mkK a) (mkR a b) (mkH a b b) (mkH a b c) (mkN a) (mkX a b c) (mkY a b c) = 0:=by
 have w1:=@mkW_bd b b
 have w2:=@mkW_bd b c
 by_cases k0:modS a 5 = 0
 ·unfold chkS mkK mkR mkH mkN
  rw [if_pos k0,if_pos k0,if_pos k0,if_pos k0,if_pos k0,if_pos rfl,if_neg (by simp),if_pos w1]
 by_cases k1:modS a 5 = 1
 ·unfold chkS mkK mkR mkH mkN
  rw [if_neg k0,if_neg k0,if_neg k0,if_neg k0,if_neg k0,if_pos k1,if_pos k1,if_pos k1,if_pos k1,if_neg (by decide),if_pos rfl,if_neg (by simp),if_pos ⟨w1,w2⟩]
 have hN:3 ≤ mkN a ∧ mkN a ≤ 8:=by
  unfold mkN
  rw [if_neg k0,if_neg k1]
  (repeat' split) <;> omega
 have e1:mkK a = 3:=by unfold mkK; rw [if_neg k0,if_neg k1]
 have e2:mkR a b = 0:=if_neg k0
 have e3:∀ v,mkH a b v = 0:=fun v => by unfold mkH; rw [if_neg k0,if_neg k1]
 unfold chkS
 rw [e1,e2,e3,e3,if_neg (by decide),if_neg (by decide),if_pos rfl,if_neg (by omega),if_pos mk_lo,if_pos (mk_cvx k0 k1)]
end Go.Ax
end
section
/-
  Made bodies: their weights.
-/
set_option maxHeartbeats 4000000
set_option maxRecDepth 100000
namespace Go.Ax
open Go.Proofs
theorem mk_wgE {a b c d k:Int} (hk:modS k 4 ≠ 0):wgE (mkK a) (mkR a b) (mkH a b b) (mkH a b c) (mkN a) (mkX a b c) (mkY a b c) (mkD d k) = 0:=by
 have h:=modS_bd (n:=d) (m:=1000) (by omega)
 have e:mkD d k = 1 + modS d 1000:=if_neg hk
 unfold wgE
 rw [if_neg (by rw [mk_chk]; simp),e,if_neg (by omega)]
theorem foAt_bd {x s:Int} (h:1 ≤ s ∧ s ≤ 4000):-17179869184000 ≤ x.tmod (s * 4294967296) ∧ x.tmod (s * 4294967296) ≤ 17179869184000:=by
 have h1:x.tmod (s * 4294967296) < s * 4294967296:=Int.tmod_lt_of_pos x (by omega)
 have h2:-(s * 4294967296) < x.tmod (s * 4294967296):=Int.lt_tmod_of_pos x (by omega)
 omega
end Go.Ax
end
section
/-
  Turns made of numbers are on the circle.
-/
set_option maxHeartbeats 4000000
set_option maxRecDepth 100000
namespace Go.Ax
open Go.Proofs
def abZ (x:Int):Int:=if x < 0 then -x else x
theorem qt_pair {p:Int} (h:-13493037704 ≤ p ∧ p ≤ 13493037704):∃ q,(q = 6746518852 ∨ q = 6746518851) ∧ (-6746518852 ≤ qtV p ∧ qtV p ≤ 6746518852) ∧ abZ (qtV p) ≤ q ∧ (-6746518852 ≤ qtV (if 13493037704 < p + 6746518852 then p + 6746518852 - 26986075409 else p + 6746518852) ∧ qtV (if 13493037704 < p + 6746518852 then p + 6746518852 - 26986075409 else p + 6746518852) ≤ 6746518852) ∧ abZ (qtV (if 13493037704 < p + 6746518852 then p + 6746518852 - 26986075409 else p + 6746518852)) = q - abZ (qtV p):=by
 by_cases h1:6746518852 < p
 ·refine ⟨6746518851,.inr rfl,?_⟩
  rw [if_pos (by omega)]
  unfold qtV abZ
  (repeat' split) <;> omega
 ·refine ⟨6746518852,.inl rfl,?_⟩
  rw [if_neg (by omega)]
  unfold qtV abZ
  (repeat' split) <;> omega
theorem wpV_sh {p:Int} (h:-13493037704 ≤ p ∧ p ≤ 13493037704):wpV (p + 6746518852) = if 13493037704 < p + 6746518852 then p + 6746518852 - 26986075409 else p + 6746518852:=by
 have e:(p + 6746518852).tmod 26986075409 = p + 6746518852:=by
  rcases Int.le_total 0 (p + 6746518852) with k | k
  ·rw [Int.tmod_eq_emod_of_nonneg k,Int.emod_eq_of_lt k (by omega)]
  ·have e2:p + 6746518852 = -(-(p + 6746518852)):=by omega
   rw [e2,Int.neg_tmod,Int.tmod_eq_emod_of_nonneg (by omega),Int.emod_eq_of_lt (by omega) (by omega)]
 unfold wpV
 rw [e]
 split
 ·rfl
 ·rw [if_neg (by omega)]
def cl1 (x:Int):Int:=max (-4294967296) (min x 4294967296)
theorem snV_q {v:Int} (h:-1000000000000000 ≤ v ∧ v ≤ 1000000000000000):snV v false = cl1 (sq (qtV (wpV v)) 8) ∧ snF v false = false:=by
 have hp:=@wpV_le v
 have hy:-6746518852 ≤ qtV (wpV v) ∧ qtV (wpV v) ≤ 6746518852:=by
  obtain ⟨q,h1,h2,h3,h4,h5⟩:=qt_pair hp
  exact h2
 have hs:=sq_le hy 8 (by omega)
 have e:snY v false = (qtV (wpV v),false):=by
  unfold snY
  rw [whV_in (by omega) (by omega),whF_in (by omega)]
 unfold snV snF
 rw [e,snS_eq hy 8 (by omega)]
 dsimp only
 rw [whV_in (by omega) (by omega),whF_in (by omega)]
 exact ⟨rfl,rfl⟩
theorem csV_q {v:Int} (h:-1000000000000000 ≤ v ∧ v ≤ 1000000000000000):csV v false = cl1 (sq (qtV (if 13493037704 < wpV v + 6746518852 then wpV v + 6746518852 - 26986075409 else wpV v + 6746518852)) 8) ∧ csF v false = false:=by
 have hp:=@wpV_le v
 have e:nAdd (wpV (whV v),whF v false) (6746518852,false) = (wpV v + 6746518852,false):=by
  rw [whV_in (by omega) (by omega),whF_in (by omega)]
  unfold nAdd
  dsimp only
  rw [whV_in (by omega) (by omega),whV_in (by omega) (by omega),ftV_in (by omega) (by omega),ftF_in (by omega) (by omega),whF_in (by omega),whF_in (by omega)]
  rfl
 have k:=@snV_q (wpV v + 6746518852) (by omega)
 rw [wpV_sh hp] at k
 unfold csV csF
 rw [e]
 exact k
theorem big_sq {x:Int} (h:4294967296 ≤ x ∨ x ≤ -4294967296):18446744073709551616 ≤ x * x:=by
 rcases h with h | h
 ·have:=Int.mul_le_mul h h (by omega) (by omega)
  omega
 ·have:=Int.mul_le_mul (a:=4294967296) (b:=4294967296) (c:=-x) (d:=-x) (by omega) (by omega) (by omega) (by omega)
  rw [Int.neg_mul_neg] at this
  omega
theorem cl1_sq {x:Int}:(cl1 x * cl1 x = x * x ∧ x * x ≤ 18446744073709551616) ∨ (cl1 x * cl1 x = 18446744073709551616 ∧ 18446744073709551616 ≤ x * x):=by
 by_cases h1:4294967296 < x
 ·refine .inr ⟨?_,big_sq (.inl (by omega))⟩
  rw [show cl1 x = 4294967296 from by unfold cl1; omega]
  rfl
 by_cases h2:x < -4294967296
 ·refine .inr ⟨?_,big_sq (.inr (by omega))⟩
  rw [show cl1 x = -4294967296 from by unfold cl1; omega]
  rfl
 ·refine .inl ⟨by rw [show cl1 x = x from by unfold cl1; omega],?_⟩
  have:=ab_mul (a:=x) (b:=x) (A:=4294967296) (B:=4294967296) (by omega) (by omega)
  omega
theorem sq_nn (x:Int):0 ≤ x * x:=by
 rcases Int.le_total 0 x with h | h
 ·exact Int.mul_nonneg h h
 ·have:=Int.mul_nonneg (a:=-x) (b:=-x) (by omega) (by omega)
  rw [Int.neg_mul_neg] at this
  exact this
theorem cl1_bd {x:Int}:-4294967296 ≤ cl1 x ∧ cl1 x ≤ 4294967296:=by unfold cl1; omega
theorem cl_circle {a b:Int} (h:-35184372088832 ≤ a * a + b * b - 18446744073709551616 ∧ a * a + b * b - 18446744073709551616 ≤ 35184372088832) :
  -35184372088832 ≤ cl1 a * cl1 a + cl1 b * cl1 b - 18446744073709551616 ∧ cl1 a * cl1 a + cl1 b * cl1 b - 18446744073709551616 ≤ 35184372088832:=by
 have ha:=sq_nn a
 have hb:=sq_nn b
 generalize ea:a * a = A at *
 generalize eb:b * b = B at *
 have ca:=@cl1_sq a
 have cb:=@cl1_sq b
 rw [ea] at ca
 rw [eb] at cb
 generalize cl1 a * cl1 a = P at *
 generalize cl1 b * cl1 b = Q at *
 omega
theorem foRot_ok (u:Int):rotS (foRot u).1.1 (foRot u).1.2 (foRot u).2.1 (foRot u).2.2 = 0:=by
 have hv:-1000000000000000 ≤ u.tmod (8 * 4294967296) ∧ u.tmod (8 * 4294967296) ≤ 1000000000000000:=by
  have h1:u.tmod (8 * 4294967296) < 8 * 4294967296:=Int.tmod_lt_of_pos u (by omega)
  have h2:-(8 * 4294967296) < u.tmod (8 * 4294967296):=Int.lt_tmod_of_pos u (by omega)
  omega
 unfold foRot
 dsimp only
 generalize u.tmod (8 * 4294967296) = v at *
 have hp:=@wpV_le v
 obtain ⟨q,q1,q2,q3,q4,q5⟩:=qt_pair hp
 have hc:=sq_circle q2 q1 q3 q5
 obtain ⟨s1,s2⟩:=snV_q hv
 obtain ⟨c1,c2⟩:=csV_q hv
 rw [s1,s2,c1,c2]
 generalize sq (qtV (wpV v)) 8 = S at *
 generalize sq (qtV (if 13493037704 < wpV v + 6746518852 then wpV v + 6746518852 - 26986075409 else wpV v + 6746518852)) 8 = C at *
 have hk:=cl_circle hc
 have k1:=@cl1_bd S
 have k2:=@cl1_bd C
 have e:(nDot (cl1 C,false) (cl1 C,false) (cl1 S,false) (cl1 S,false)).1 = (cl1 C * cl1 C + cl1 S * cl1 S).tdiv 4294967296:=by
  unfold nDot
  dsimp only
  rw [whV_in (by omega) (by omega),whV_in (by omega) (by omega)]
  have:=@td_err (cl1 C * cl1 C + cl1 S * cl1 S) 4294967296 (by omega)
  exact ftV_in (by omega) (by omega)
 have hd:=@td_err (cl1 C * cl1 C + cl1 S * cl1 S) 4294967296 (by omega)
 unfold rotS
 rw [e,whF_in (by omega),whF_in (by omega)]
 refine if_neg ?_
 simp
 omega
end Go.Ax
end
section
/-
  Made bodies are sound, and have a mass.
-/
set_option maxHeartbeats 4000000
set_option maxRecDepth 100000
namespace Go.Ax
open Go.Proofs
theorem far_no {x:Int} (h:-17592186044416 ≤ x ∧ x ≤ 17592186044416):farB (x,false) = false:=by
 unfold farB
 dsimp only
 rw [whF_in (by omega),whV_in (by omega) (by omega)]
 have:¬ 17592186044416 < ab x:=by unfold ab; split <;> omega
 rw [decide_eq_false this]
 rfl
theorem mk_place {a b c x y u s:Int} (hs:1 ≤ s ∧ s ≤ 4000):plErr (mkK a) (mkR a b) (mkH a b b) (mkH a b c) (mkN a) (mkX a b c) (mkY a b c) (foAt x y s) (foRot u) = 0:=by
 have h1:=@foAt_bd x s hs
 have h2:=@foAt_bd y s hs
 unfold plErr
 rw [if_neg (by rw [mk_chk]; simp),if_neg (by rw [foRot_ok]; simp)]
 unfold foAt
 dsimp only
 rw [far_no (by omega),far_no (by omega)]
 rfl
theorem mk_nwE {a b c x y u d k s:Int} (hs:1 ≤ s ∧ s ≤ 4000):nwE (mkK a) (mkR a b) (mkH a b b) (mkH a b c) (mkN a) (mkX a b c) (mkY a b c) (foAt x y s) (foRot u) (mkD d k) (modS k 4 != 0) = 0:=by
 unfold nwE
 rw [if_neg (by rw [mk_chk]; simp)]
 by_cases hk:modS k 4 = 0
 ·have e:mkD d k = 0:=if_pos hk
  rw [e,mk_place hs,hk]
  rfl
 ·have e:(modS k 4 != 0) = true:=by simpa using hk
  rw [e,if_pos rfl,mk_wgE hk,mk_place hs]
  rfl
end Go.Ax
end
section
/-
  Made bodies have a mass.
-/
set_option maxHeartbeats 4000000
set_option maxRecDepth 100000
namespace Go.Ax
open Go.Proofs
end Go.Ax
end
section
/-
  The body that sleeps.
-/
set_option maxHeartbeats 4000000
set_option maxRecDepth 100000
namespace Go.Ax
open Go.Proofs
theorem mk_wgS_in {k r w t d:Int} {n:Nat} {X Y:Nat → Int}:inR (wgS k r w t n X Y d).1.1 ∧ inR (wgS k r w t n X Y d).2.1:=by
 have q:∀ a b:Nb,inR (nDiv a b).1:=fun a b => by
  have h:rg (nDiv a b).1:=raV_rg
  unfold rg at h
  unfold inR
  omega
 unfold wgS
 split
 ·unfold wgM
  split
  ·exact ⟨q _ _,q _ _⟩
  ·exact ⟨q _ _,q _ _⟩
 ·exact ⟨by unfold inR; decide,by unfold inR; decide⟩
end Go.Ax
end
section
/-
  Made bodies: their weights are not below 0.
-/
set_option maxHeartbeats 4000000
set_option maxRecDepth 100000
namespace Go.Ax
open Go.Proofs
end Go.Ax
end
section
/-
  Made bodies: what they are.
-/
set_option maxHeartbeats 4000000
set_option maxRecDepth 100000
namespace Go.Ax
open Go.Proofs
def mkWt (a b c d k:Int):Nb × Nb:=nwW (mkK a) (mkR a b) (mkH a b b) (mkH a b c) (mkN a) (mkX a b c) (mkY a b c) (mkD d k) (modS k 4 != 0)
theorem mk0_eq {a b c x y u d k s:Int} (hs:1 ≤ s ∧ s ≤ 4000):mk0 a b c x y u d k s = ⟨mkK a,mkR a b,mkH a b b,mkH a b c,mkN a,mkX a b c,mkY a b c,foAt x y s,foRot u,zV,(0,false),(mkWt a b c d k).1,(mkWt a b c d k).2,0,false,false,1⟩:=by
 have hE:=@mk_nwE a b c x y u d k s hs
 unfold mk0 nwB
 rw [if_pos hE]
 rfl
def mkV (p q k:Int):V2:=if modS k 4 = 1 then (nuN p 200,nuN q 200) else zV
def mkO (r k:Int):Nb:=if modS k 4 = 1 then nuN r 60 else (0,false)
def mkSt (k:Int):Int:=if modS k 4 = 2 then 30 else 0
theorem mkB_eq {a b c x y u p q r d k s:Int} (hs:1 ≤ s ∧ s ≤ 4000):mkB a b c x y u p q r d k s = ⟨mkK a,mkR a b,mkH a b b,mkH a b c,mkN a,mkX a b c,mkY a b c,foAt x y s,foRot u,mkV p q k,mkO r k,(mkWt a b c d k).1,(mkWt a b c d k).2,mkSt k,decide (modS k 4 = 2 ∨ modS k 4 = 3),decide (modS k 4 = 3),1⟩:=by
 unfold mkB mkV mkO mkSt
 rw [mk0_eq hs]
 by_cases h1:modS k 4 = 1
 ·rw [if_pos h1,if_pos h1,if_pos h1,if_neg (by omega),decide_eq_false (by omega),decide_eq_false (by omega)]
 ·rw [if_neg h1,if_neg h1,if_neg h1]
  by_cases h2:modS k 4 = 2
  ·rw [if_pos h2,if_pos h2,decide_eq_true (by omega),decide_eq_false (by omega)]
  ·rw [if_neg h2,if_neg h2]
   by_cases h3:modS k 4 = 3
   ·rw [if_pos h3,decide_eq_true (by omega),decide_eq_true h3]
   ·rw [if_neg h3,decide_eq_false (by omega),decide_eq_false h3]
theorem nu_bd {x s:Int} (h:1 ≤ s ∧ s ≤ 200):-858993459200 < (nuN x s).1 ∧ (nuN x s).1 < 858993459200:=by
 have h1:x.tmod (s * 4294967296) < s * 4294967296:=Int.tmod_lt_of_pos x (by omega)
 have h2:-(s * 4294967296) < x.tmod (s * 4294967296):=Int.lt_tmod_of_pos x (by omega)
 show -858993459200 < x.tmod (s * 4294967296) ∧ x.tmod (s * 4294967296) < 858993459200
 omega
theorem mkWt_in {a b c d k:Int}:inR (mkWt a b c d k).1.1 ∧ inR (mkWt a b c d k).2.1:=by
 unfold mkWt nwW
 split
 ·exact mk_wgS_in
 ·exact ⟨by show inR 0; unfold inR; decide,by show inR 0; unfold inR; decide⟩
theorem mkB_in {a b c x y u p q r d k s:Int} (hs:1 ≤ s ∧ s ≤ 4000):inB (mkB a b c x y u p q r d k s):=by
 rw [mkB_eq hs]
 have hm:=@mkWt_in a b c d k
 have w1:=@mkW_bd b b
 have h1:∀ v,inR (mkH a b v):=fun v => by
  have:=@mkW_bd b v
  unfold mkH inR
  (repeat' split) <;> omega
 have hz:inR 0:=by unfold inR; decide
 have hu:∀ x s,1 ≤ s ∧ s ≤ 200 → inR (nuN x s).1:=fun x s h => by
  have:=@nu_bd x s h
  unfold inR; omega
 refine ⟨?_,?_,h1 b,h1 c,fun j hj => mk_inR j hj,tmod_inR (by omega),tmod_inR (by omega),csV_inR,snV_inR,?_,?_,?_,hm.1,hm.2,?_,(by unfold inR; decide:inR 1)⟩
 ·show inR (mkK a)
  unfold mkK inR
  (repeat' split) <;> omega
 ·show inR (mkR a b)
  unfold mkR inR
  (repeat' split) <;> omega
 ·show inR (mkV p q k).1.1
  unfold mkV
  split
  ·exact hu _ _ (by omega)
  ·exact hz
 ·show inR (mkV p q k).2.1
  unfold mkV
  split
  ·exact hu _ _ (by omega)
  ·exact hz
 ·show inR (mkO r k).1
  unfold mkO
  split
  ·exact hu _ _ (by omega)
  ·exact hz
 ·show inR (mkSt k)
  unfold mkSt
  split
  ·unfold inR; decide
  ·exact hz
theorem mkB_n {a b c x y u p q r d k s:Int} (hs:1 ≤ s ∧ s ≤ 4000):(mkB a b c x y u p q r d k s).n ≤ 1000:=by
 rw [mkB_eq hs]
 show mkN a ≤ 1000
 unfold mkN
 (repeat' split) <;> omega
end Go.Ax
end
section
/-
  Impulses lie in the cone of friction.
-/
set_option maxHeartbeats 4000000
set_option maxRecDepth 100000
namespace Go.Ax
open Go.Proofs
end Go.Ax
end
section
/-
  Lists of few bodies.
-/
set_option maxHeartbeats 4000000
set_option maxRecDepth 100000
namespace Go.Ax
open Go.Proofs
end Go.Ax
end
section
/-
  SolverCone: its body.
-/
set_option maxHeartbeats 4000000
set_option maxRecDepth 100000
namespace Go.Ax
open Go.Proofs
structure Th where
 a:Int
 b:Int
 c:Int
 x:Int
 y:Int
 u:Int
 p:Int
 q:Int
 r:Int
 d:Int
 k:Int
def thC (t:Th):List AV:=[i64 t.a,i64 t.b,i64 t.c,i64 t.x,i64 t.y,i64 t.u,i64 t.p,i64 t.q,i64 t.r,i64 t.d,i64 t.k]
def inT (t:Th):Prop:=inR t.a ∧ inR t.b ∧ inR t.c ∧ inR t.x ∧ inR t.y ∧ inR t.u ∧ inR t.p ∧ inR t.q ∧ inR t.r ∧ inR t.d ∧ inR t.k
def mkT (t:Th) (s:Int):Bd:=mkB t.a t.b t.c t.x t.y t.u t.p t.q t.r t.d t.k s
theorem mkT_eq {t:Th} {s:Int}:mkB t.a t.b t.c t.x t.y t.u t.p t.q t.r t.d t.k s = mkT t s:=rfl
theorem mkT_in {t:Th} {s:Int} (hs:1 ≤ s ∧ s ≤ 4000):inB (mkT t s):=mkB_in hs
theorem mkT_n {t:Th} {s:Int} (hs:1 ≤ s ∧ s ≤ 4000):(mkT t s).n ≤ 1000:=mkB_n hs
def ctP (c:Ct) (a b:Nb):Ct:={ c with p0:=a,p1:=b }
def ctR (c:Ct) (a b:Nb):Ct:={ c with r0:=a,r1:=b }
theorem put7_cont {c:Ct} {a b:Int} {e f:Bool}:List.take 7 (contC c) ++ [i64 a,bo e,i64 b,bo f] ++ List.drop 11 (contC c) = contC (ctP c (a,e) (b,f)):=(rfl)
theorem put11_cont {c:Ct} {a b:Int} {e f:Bool}:List.take 11 (contC c) ++ [i64 a,bo e,i64 b,bo f] = contC (ctR c (a,e) (b,f)):=(rfl)
theorem take15_cont {c:Ct}:List.take 15 (contC c) = contC c:=(rfl)
theorem len15_cont {c:Ct}:(contC c).length = 15:=(rfl)
attribute [go_sem] put7_cont put11_cont take15_cont len15_cont
end Go.Ax
end
section
/-
  The frame of a law: its arguments ars abstract values, and what they read ars behind the call.
-/
namespace Go.Ax
open Go.ChangeShapes Go.WideShapes Go.ChangeAt Go.RowKit
inductive ShV where
 | int (k:IntKind)
 | bool
 | agg (es:List Sh)
 | slice (sz:Nat) (es:List Sh)
def shV (P:Program) (t:TypeId):Option ShV:=
 match P.underlying t with
 | some .bool => some .bool
 | some (.int k) => some (.int k)
 | some (.slice _) => match shT P 9 t with
  | some [.slice sz es] => some (.slice sz es)
  | _ => none
 | some (.struct _) => (shT P 9 t).map .agg
 | some (.array _ _) => (shT P 9 t).map .agg
 | _ => none
def fitV:ShV → AV → Prop
 | .int k,a => ∃ n,a = .v (.int k n) ∧ (Lit.int k n).wf = true
 | .bool,a => ∃ b,a = .v (.bool b)
 | .agg es,a => ∃ l,a = .agg l ∧ fitS es l
 | .slice sz es,a => ∃ (n:Nat) (get:Nat → List AV),a = .ro n sz get ∧ n ≤ maxLen ∧ ∀ i,fitS es (get i)
def shVs (P:Program):List TypeId → Option (List ShV)
 | [] => some []
 | t :: ts => match shV P t,shVs P ts with
  | some s,some r => some (s :: r)
  | _,_ => none
def fitVs:List ShV → List AV → Prop
 | [],l => l = []
 | s :: ss,l => ∃ a r,l = a :: r ∧ fitV s a ∧ fitVs ss r
section
variable {H:Type} {enc:TypeId × Value → H} {P:Program} {w:World} {spare:Nat → Bool} {held:Bool} {base:Nat}
theorem okWide_agg_struct {t:TypeId} {fs:Array Field} {v:Value} (ht:P.underlying t = some (.struct fs)) (h:Value.okWide P w .any base t v):∃ cs,v = .agg cs:=by
 obtain ⟨cs,h,_⟩:=okWide_struct ht h
 exact ⟨cs,h⟩
theorem trod_agg_array {t e:TypeId} {n:Nat} {v:Value} {x:DataW H} {ps:List MemPlace} (ht:P.underlying t = some (.array n e)) (h:Value.okWide P w .any base t v):∃ cs,v = .agg cs:=by
 cases v <;> simp [Value.okWide,Value.ok,ht] at h <;> exact ⟨_,rfl⟩
theorem arg_read {t:TypeId} {s:ShV} {v:Value} {x:DataW H} {ps:List MemPlace} (hs:shV P t = some s) (ho:Value.okWide P w .any base t v) (h:DataW.Trod enc P w 0 spare held t v x ps):∃ a,fitV s a ∧ R w (.ext (All w)) a v:=by
 unfold shV at hs
 split at hs
 ·rename_i hu
  cases hs
  obtain ⟨b,rfl⟩:=okWide_bool hu ho
  exact ⟨_,⟨b,rfl⟩,.v⟩
 ·rename_i k hu
  cases hs
  obtain ⟨n,rfl,_,_,hw⟩:=open_int hu ho h
  exact ⟨_,⟨n,rfl,hw⟩,.v⟩
 ·rename_i e hu
  split at hs
  ·rename_i sz es he
   cases hs
   obtain ⟨a,len,cap,rfl⟩:=okWide_slice hu ho
   obtain ⟨n,get,h1,h2,h3⟩:=slice_read he h
   exact ⟨_,⟨n,get,rfl,h1,h2⟩,h3⟩
  ·cases hs
 ·rename_i fs hu
  obtain ⟨es,he,rfl⟩:=Option.map_eq_some_iff.1 hs
  obtain ⟨cs,rfl⟩:=okWide_agg_struct hu ho
  obtain ⟨l,h1,h2⟩:=agg_read he h
  exact ⟨_,⟨l,rfl,h1⟩,h2⟩
 ·rename_i n e hu
  obtain ⟨es,he,rfl⟩:=Option.map_eq_some_iff.1 hs
  obtain ⟨cs,rfl⟩:=trod_agg_array (x:=x) (ps:=ps) hu ho
  obtain ⟨l,h1,h2⟩:=agg_read he h
  exact ⟨_,⟨l,rfl,h1⟩,h2⟩
 ·cases hs
theorem args_read:∀ {ts:List TypeId} {ss:List ShV} {vs:List Value} {ds:List (DataW H)} {ps:List MemPlace},shVs P ts = some ss → (∀ (j:Nat) t v,ts[j]? = some t → vs[j]? = some v → Value.okWide P w .any base t v) →
  DataW.TrodAll enc P w 0 spare held ts vs ds ps → ∃ l,fitVs ss l ∧ Rs w (.ext (All w)) l vs
 | [],ss,vs,ds,ps,hs,ho,h => by
  simp only [shVs,Option.some.injEq] at hs
  subst hs
  obtain ⟨rfl,rfl,rfl⟩:=trodAll_nil h
  exact ⟨[],rfl,.nil⟩
 | t :: ts,ss,vs,ds,ps,hs,ho,h => by
  simp only [shVs] at hs
  split at hs
  ·rename_i s r h1 h2
   cases hs
   obtain ⟨v,vs',d,ds',p,q,rfl,rfl,rfl,h3,h4⟩:=trodAll_cons h
   obtain ⟨a,a1,a2⟩:=arg_read h1 (ho 0 t v rfl rfl) h3
   obtain ⟨l,b1,b2⟩:=args_read h2 (fun j t v hj hv => ho (j + 1) t v (by simpa using hj) (by simpa using hv)) h4
   exact ⟨a :: l,⟨a,l,rfl,a1,b1⟩,Rs.cons a2 b2⟩
  ·cases hs
def readOK (P:Program) (ts:List TypeId):Bool:=ts.all fun t => P.readableRec t && decide (t < P.types.size)
theorem args_stay {W W':World} (hl:laidOutB P = true) (hb:Below W.heap.size W W'):∀ {ts:List TypeId} {vs:List Value} {ds:List (DataW H)} {ps:List MemPlace},readOK P ts = true →
  DataW.TrodAll enc P W 0 (fun _ => true) true ts vs ds ps → ∃ ps,DataW.TrodAll enc P W' 0 (fun b => decide (b < W.heap.size)) true ts vs ds ps
 | [],vs,ds,ps,_,h => by
  obtain ⟨rfl,rfl,rfl⟩:=trodAll_nil h
  exact ⟨[],rfl⟩
 | t :: ts,vs,ds,ps,hr,h => by
  obtain ⟨v,vs',d,ds',p,q,rfl,rfl,rfl,h3,h4⟩:=trodAll_cons h
  simp only [readOK,List.all_cons,Bool.and_eq_true,decide_eq_true_eq] at hr
  obtain ⟨q',h5⟩:=args_stay hl hb (by simpa [readOK] using hr.2) h4
  refine ⟨_,trodAll_cons_mk (Below.trod hl hr.1.1 hr.1.2 h3 hb ?_) h5⟩
  obtain ⟨m,hm⟩:=h3
  exact DataW.trod_lt m _ _ _ hm
end
end Go.Ax
end
section
/-
  Laws about bodies: their arguments.
-/
set_option maxHeartbeats 4000000
set_option maxRecDepth 100000
namespace Go.Ax
open Go.Proofs
end Go.Ax
end
section
/-
  Things ars arguments, eleven numbers at a time.
-/
set_option maxRecDepth 100000
namespace Go.Ax
open Go.Proofs
def shTh:List Sh:=[.int .i64,.int .i64,.int .i64,.int .i64,.int .i64,.int .i64,.int .i64,.int .i64,.int .i64,.int .i64,.int .i64]
theorem fit_th {ss:List Sh} {l:List AV} (h:fitS (shTh ++ ss) l):∃ t,inT t ∧ ∃ r,l = thC t ++ r ∧ fitS ss r:=by
 obtain ⟨_,_,rfl,⟨a,rfl,ja⟩,_,_,rfl,⟨b,rfl,jb⟩,_,_,rfl,⟨c,rfl,jc⟩,_,_,rfl,⟨x,rfl,jx⟩,_,_,rfl,⟨y,rfl,jy⟩,_,_,rfl,⟨u,rfl,ju⟩,_,_,rfl,⟨p,rfl,jp⟩,_,_,rfl,⟨q,rfl,jq⟩,_,_,rfl,⟨r,rfl,jr⟩,_,_,rfl,⟨d,rfl,jd⟩,_,_,rfl,⟨k,rfl,jk⟩,h⟩:=h
 exact ⟨⟨a,b,c,x,y,u,p,q,r,d,k⟩,⟨wf_i64 ja,wf_i64 jb,wf_i64 jc,wf_i64 jx,wf_i64 jy,wf_i64 ju,wf_i64 jp,wf_i64 jq,wf_i64 jr,wf_i64 jd,wf_i64 jk⟩,_,rfl,h⟩
def sh44:List Sh:=shTh ++ (shTh ++ (shTh ++ (shTh ++ [])))
theorem fit_44 {l:List AV} (h:fitS sh44 l):∃ t0 t1 t2 t3,inT t0 ∧ inT t1 ∧ inT t2 ∧ inT t3 ∧ l = thC t0 ++ (thC t1 ++ (thC t2 ++ thC t3)):=by
 obtain ⟨t0,i0,r0,rfl,h1⟩:=fit_th (ss:=shTh ++ (shTh ++ (shTh ++ []))) h
 obtain ⟨t1,i1,r1,rfl,h2⟩:=fit_th (ss:=shTh ++ (shTh ++ [])) h1
 obtain ⟨t2,i2,r2,rfl,h3⟩:=fit_th (ss:=shTh ++ []) h2
 obtain ⟨t3,i3,r3,rfl,h4⟩:=fit_th (ss:=[]) h3
 have e:r3 = []:=h4
 subst e
 rw [List.append_nil]
 exact ⟨t0,t1,t2,t3,i0,i1,i2,i3,rfl⟩
end Go.Ax
end