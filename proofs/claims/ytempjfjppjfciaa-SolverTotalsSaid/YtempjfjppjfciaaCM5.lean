/-
  Bodies: small functions; what writes a body.
-/
import Derived.Test.YtempjfjppjfciaaCM4
import Derived.ShutString
import Derived.ChangeOld
import Derived.Below
set_option linter.unusedVariables false
set_option linter.unusedSimpArgs false
section
set_option maxHeartbeats 4000000
set_option maxRecDepth 100000
namespace Go.Ax
open Go.Proofs
def mvS (b:Bd):Bool:=!(b.m.1 == 0 && b.i.1 == 0)
theorem whV_bne {x:Int} (h:inR x):(whV x != 0) = !(x == 0):=by
 have e:whV x = 0 ↔ x = 0:=by unfold whV; unfold inR at h; split <;> omega
 by_cases hx:x = 0
 ·subst hx; rfl
 ·have:¬ whV x = 0:=fun k => hx (e.1 k)
  have e1:(whV x == 0) = false:=by simpa using this
  have e2:(x == 0) = false:=by simpa using hx
  rw [bne,e1,e2]
def kw26:Con:=cB fun b rest => match rest with
 | [] => some ([inR b.m.1,inR b.i.1],bo (mvS b))
 | _ => none
theorem konw26:ConOK Try.prog 20 kw26:=ConOK.cB (G:=[]) (H:=[]) .nil Try.func20 fun b rest ob r hc hob => by
 split at hc
 ·cases hc
  refine ⟨by kernel_rfl,fnVC_go (rs:=[.tmp 2]) rfl rfl ?_⟩
  simp only [bodyC,go_sem]
  unfold mvS
  cases h1:b.m.1 == 0 <;> cases h2:b.i.1 == 0 <;> simp_all [bne]
 ·cases hc
def kw175:Con:=cBR fun b rest => match rest with
 | [.agg [.v (.int .i64 x),.v (.bool e),.v (.int .i64 y),.v (.bool f)]] => some ([inR b.pl.1.1,inR b.pl.2.1,inR x,inR y],veA (vSub ((x,e),(y,f)) b.pl))
 | _ => none
theorem konw175:ConOK Try.prog 44 kw175:=ConOK.cBR (G:=[(69,k172)]) (H:=[(1,⟨[(8,.slot 4)],[]⟩)]) (.cons kon172 .nil) Try.func44 fun b rest ob r hc hob => by
 split at hc
 ·rename_i x e y f
  cases hc
  have h0:inR b.pl.1.1:=hob _ (by simp)
  have h1:inR b.pl.2.1:=hob _ (by simp)
  have h2:inR x:=hob _ (by simp)
  have h3:inR y:=hob _ (by simp)
  refine ⟨by kernel_rfl,fnVC_go (rs:=[.cell 4 29]) rfl rfl ?_⟩
  simp only [bodyC,go_sem,k172,h0,h1,h2,h3]
  rfl
 ·cases hc
def wakS (b:Bd):Bd:=if mvS b && !b.fa then { b with sl:=false,st:=0 } else b
def kw134:MCon:=mB fun b rest => match rest with
 | [] => some ([inB b],wakS b)
 | _ => none
theorem konw134:MConOK Try.prog 49 kw134:=MConOK.mB (G:=[(20,kw26)]) (H:=[]) (.cons konw26 .nil) Try.func49 fun b rest ob r hc hob => by
 split at hc
 ·cases hc
  refine ⟨by simp,by kernel_rfl,fun fam f i hi hsz hg hk => bodyM_go (rs:=[]) rfl rfl ?_⟩
  have hb:inB b:=hob _ (by simp)
  obtain ⟨b1,b2,b3,b4,b5,b6,b7,b8,b9,b10,b11,b12,b13,b14,b15,b16⟩:=hb
  simp only [bodyC,go_sem,kw26,cB_eq,bodyD_lit,gx_pts0,gx_pts1,etaN,etaV,bd_eta,hi,hg,hk,← hsz,b13,b14]
  simp only [forall_eq,true_and,implies_true]
  refine ⟨fun h => ?_,fun h => ?_⟩
  ·have e:wakS b = { b with sl:=false,st:=0 }:=if_pos (by simp [h])
   rw [e,bodyR]; rfl
  ·have e:wakS b = b:=if_neg (by simp only [h]; simp)
   rw [e,bodyR]; rfl
 ·cases hc
def kw123:Con
 | [.v (.int .i64 n),.ro 1 2 g] => some ([nums 1 g,0 ≤ n ∧ n ≤ 65536],bo (withS (gx g 0 0,gb g 1 0) n))
 | [.v (.int .i64 n),.ro 2 2 g] => some ([nums 2 g,0 ≤ n ∧ n ≤ 65536],bo (withS (gx g 0 0,gb g 1 0) n && withS (gx g 0 1,gb g 1 1) n))
 | _ => none
theorem vc30 (m:Nat) (hm:m ≤ 1000) (n:Int) (hn:0 ≤ n ∧ n ≤ 65536) (X:Nat → Int) (E:Nat → Bool) (hX:∀ i,i < m → inR (X i)):fnVC Try.prog [(35,kSum)] [] Try.f30 [.v (.int .i64 n),.ro m 2 fun i => [i64 (X i),bo (E i)]] (· = bo (decide (∀ i,i < m → withS (X i,E i) n = true))):=by
 refine fnVC_go (rs:=[.tmp 4]) rfl rfl ?_
 simp only [go_sem,kSum]
 refine loopC_go (fun (i:Nat) => i ≤ m ∧ ∀ j,j < i → withS (X j,E j) n = true) (fun i => m - i) (fun i => [(9,i64 (i:Int))]) (fun _ => []) [] [10,11,12,6,13,14,15,16,17,18,19,20,21,22,23,24,25,26,27,28,4,29,9] 0 (by kernel_rfl) ?_ ⟨Nat.zero_le _,fun j hj => by omega⟩ ?_ ?_
 ·intro x _; simp [goodNames,asg]
 ·simp only [go_sem]
 intro i hi
 simp only [go_sem,kSum]
 have hw:IntKind.i64.wrap (n * 4294967296) = n * 4294967296:=wrap_in (by unfold inR; omega)
 refine ⟨fun h => ⟨by omega,h,hX i (by omega),fun z hz z1 hz1 z2 hz2 => ?_⟩,fun h => ?_⟩
 ·have hi':i < m:=by omega
  have hx:=hX i hi'
  have key:withS (X i,E i) n = true ↔ (nWh (X i,E i)).2 = false ∧ ¬ z2 < z1:=by
   rw [hw] at hz2
   have hwr:=whV_rg hx
   unfold rg at hwr
   have e0:(nWh (X i,E i)).1 = whV (X i):=rfl
   have e1:(nWh (X i,E i)).2 = whF (X i) (E i):=rfl
   rw [e0] at hz hz1
   rw [wrap_in (by unfold inR; omega)] at hz
   unfold withS
   rw [e1]
   cases hf:whF (X i) (E i) with
   | true => simp
   | false =>
    have hne:¬ X i = -9223372036854775808:=by
     intro e; unfold whF at hf; simp [e] at hf
    have ev:whV (X i) = X i:=by unfold whV; rw [if_neg hne]
    rw [ev] at hz hz1
    simp only [Bool.not_false,Bool.true_and,decide_eq_true_eq,true_and]
    omega
  refine ⟨fun hb => ?_,fun hb z3 hz3 => ⟨i + 1,⟨by omega,fun j hj => ?_⟩,by omega,by rw [hz3,wrap_in (by unfold inR; omega)]; rfl⟩⟩
  ·refine (decide_eq_false fun hc => ?_).symm
   have:=key.1 (hc i hi')
   rcases hb with hb | hb
   ·rw [this.1] at hb; cases hb
   ·exact this.2 hb
  ·by_cases e:j = i
   ·subst e; exact key.2 hb
   ·exact hi.2 j (by omega)
 ·exact (decide_eq_true fun j hj => hi.2 j (by omega)).symm
theorem dec_lt1 {p:Nat → Bool}:decide (∀ i:Nat,i < 1 → p i = true) = p 0:=by
 cases h:p 0
 ·refine decide_eq_false fun hc => ?_
  rw [hc 0 (by omega)] at h; cases h
 ·refine decide_eq_true fun i hi => ?_
  have:i = 0:=by omega
  subst this; exact h
theorem dec_lt2 {p:Nat → Bool}:decide (∀ i:Nat,i < 2 → p i = true) = (p 0 && p 1):=by
 cases h:p 0
 ·refine decide_eq_false fun hc => ?_
  rw [hc 0 (by omega)] at h; cases h
 ·cases h1:p 1
  ·refine decide_eq_false fun hc => ?_
   rw [hc 1 (by omega)] at h1; cases h1
  ·refine decide_eq_true fun i hi => ?_
   match i with
   | 0 => exact h
   | 1 => exact h1
   | i + 2 => omega
theorem konw123:ConOK Try.prog 30 kw123:=ConOK.go (G:=[(35,kSum)]) (H:=[]) (.cons konS179 .nil) Try.func30 fun l ob rr hc hob => by
 unfold kw123 at hc
 split at hc
 ·rename_i n g
  cases hc
  have hg:nums 1 g:=hob _ (by simp)
  refine ⟨[.v (.int .i64 n),.ro 1 2 fun i => [i64 (gx g 0 i),bo (gb g 1 i)]],fun w I vs h => ?_,by kernel_rfl,?_⟩
  ·exact Rs_two (fun v hv => hv) (fun v hv => ro_alike (fun i hi => (hg i hi).1) hv) h
  ·have:=vc30 1 (by omega) n (hob _ (by simp)) (gx g 0) (gb g 1) fun i hi => (hg i hi).2
   rw [dec_lt1] at this
   exact this
 ·rename_i n g
  cases hc
  have hg:nums 2 g:=hob _ (by simp)
  refine ⟨[.v (.int .i64 n),.ro 2 2 fun i => [i64 (gx g 0 i),bo (gb g 1 i)]],fun w I vs h => ?_,by kernel_rfl,?_⟩
  ·exact Rs_two (fun v hv => hv) (fun v hv => ro_alike (fun i hi => (hg i hi).1) hv) h
  ·have:=vc30 2 (by omega) n (hob _ (by simp)) (gx g 0) (gb g 1) fun i hi => (hg i hi).2
   rw [dec_lt2] at this
   exact this
 ·cases hc
def pshS (b:Bd) (p j:V2):Bd:=if !mvS b || b.fa then b else
 let c:Bd:={ b with v:=limV (vAdd b.v (vScale j b.m)),w:=limS (nAdd b.w (nMul b.i (vCross (vSub p b.pl) j))) 64 }
 if b.sl then wakS c else c
def kw115:MCon:=mB fun b rest => match rest with
 | [.agg [.v (.int .i64 x),.v (.bool e),.v (.int .i64 y),.v (.bool f)],.agg [.v (.int .i64 z),.v (.bool g),.v (.int .i64 u),.v (.bool h)]] => some ([inB b,inR x,inR y,inR z,inR u],pshS b ((x,e),(y,f)) ((z,g),(u,h)))
 | _ => none
theorem konw115:MConOK Try.prog 29 kw115:=MConOK.mB (G:=[(20,kw26),(44,kw175),(43,k250),(42,k129),(46,k169),(22,k130),(45,kw120),(48,kw153),(47,kw176l),(49,.wr kw134)]) (H:=[(2,⟨[(13,.made 12)],[]⟩),(3,⟨[(20,.slot 0)],[]⟩),(4,⟨[(12,.slot 0)],[]⟩)]) (.cons konw26 (.cons konw175 (.cons kon250 (.cons kon129 (.cons kon169 (.cons kon130 (.cons konw120 (.cons konw153 (.cons konw176l (.mcons konw134 .nil)))))))))) Try.func29 fun b rest ob r hc hob => by
 split at hc
 ·rename_i x e y f z g u h
  cases hc
  refine ⟨by simp [clean],by kernel_rfl,fun fam f' i hi hsz hg hk => bodyM_go (rs:=[]) rfl rfl ?_⟩
  have hb:inB b:=hob _ (by simp)
  have h1:inR x:=hob _ (by simp)
  have h2:inR y:=hob _ (by simp)
  have h3:inR z:=hob _ (by simp)
  have h4:inR u:=hob _ (by simp)
  obtain ⟨b1,b2,b3,b4,b5,b6,b7,b8,b9,b10,b11,b12,b13,b14,b15,b16⟩:=hb
  simp only [bodyC,go_sem,kw26,kw175,k250,k129,k169,k130,kw120,kw153,kw176l,kw134,cB_eq,cBR_eq,bodyD_lit,gx_pts0,gx_pts1,etaN,etaV,bd_eta,mB_ptr,mbP_some,stepC_mbQ,hi,hg,hk,← hsz,b1,b2,b3,b4,b6,b7,b8,b9,b10,b11,b12,b13,b14,b15,b16,vecs_rows,gx4_1,gx4_2,gx4_3,gx4_4,gb4_1,gb4_2,gb4_3,gb4_4,nums_rows,gx_rows1,gx_rows2,gb_rows1,gb_rows2,iMul,iAdd,iDot,iVCross,iVSub1,iVSub2,iVAdd1,iVAdd2,iScale1,iScale2,h1,h2,h3,h4]
  intro z1 hz1
  subst hz1
  simp only [true_and,implies_true]
  have hc0:∀ v:V2,∀ w:Nb,inR v.1.1 → inR v.2.1 → inR w.1 → inB { b with v:=v,w:=w }:=fun v w q1 q2 q3 => inB_push (hob _ (by simp)) q1 q2 q3
  refine ⟨fun hh => ?_,fun hh => ⟨fun hs b' hb' => ⟨hc0 _ _ (of_eq_true (iLim (of_eq_true iVAdd1))) (of_eq_true (iLim (of_eq_true iVAdd2))) (of_eq_true (iLim (of_eq_true iAdd))),?_⟩,fun hs => ?_⟩⟩
  ·have e:pshS b ((x,e),(y,f)) ((z,g),(u,h)) = b:=if_pos (by simpa using hh)
   rw [e,bodyR]; rfl
  ·have e:pshS b ((x,e),(y,f)) ((z,g),(u,h)) = b':=by
    rw [hb']
    unfold pshS
    rw [if_neg (by simp [hh]),if_pos hs]
    rfl
   rw [e,bodyR]; rfl
  ·have e:pshS b ((x,e),(y,f)) ((z,g),(u,h)) = { b with v:=limV (vAdd b.v (vScale ((z,g),(u,h)) b.m)),w:=limS (nAdd b.w (nMul b.i (vCross (vSub ((x,e),(y,f)) b.pl) ((z,g),(u,h))))) 64 }:=by
    unfold pshS
    rw [if_neg (by simp [hh]),if_neg (by simp [hs])]
   rw [e,bodyR]; rfl
 ·cases hc
theorem iTurn1 {k:Nb} {v:V2}:inR (vTurn k v).1.1 = True:=iMul
theorem iTurn2 {k:Nb} {v:V2}:inR (vTurn k v).2.1 = True:=iMul
attribute [go_sem] iTurn1 iTurn2
theorem spots_can {n:Nat} {X Y:Nat → Int}:spots n (fun j => [i64 (X j),i64 (Y j)]) = (∀ j,j < n → inR (X j) ∧ inR (Y j)):=propext ⟨fun h j hj => (h j hj).2,fun h j hj => ⟨rfl,h j hj⟩⟩
theorem byt46:bytesT Try.prog 46 = 16:=by kernel_rfl
theorem vc19 (k r w t:Int) (n:Nat) (X Y:Nat → Int) (hn:n ≤ 1000):fnVC Try.prog [] [] Try.f19 [shapeA k r w t n fun i => [i64 (X i),i64 (Y i)]] (· = shapeA k r w t n fun i => [i64 (X i),i64 (Y i)]):=by
 refine fnVC_go (rs:=[.cell 2 25]) rfl rfl ?_
 simp only [go_sem]
 exact ⟨fun _ _ => rfl,by rw [byt46]; omega,by omega⟩
def c19:Con
 | [.agg [.v (.int .i64 k),.v (.int .i64 r),.v (.int .i64 w),.v (.int .i64 t),.ro n 2 g]] => some ([spots n g,n ≤ 1000],.agg [i64 k,i64 r,i64 w,i64 t,.ro n 2 fun i => [i64 (gx g 0 i),i64 (gx g 1 i)]])
 | _ => none
theorem con19:ConOK Try.prog 19 c19:=ConOK.go (G:=[]) (H:=[]) .nil Try.func19 fun l ob rr hc hob => by
 unfold c19 at hc
 split at hc
 ·rename_i k r w t n g
  cases hc
  have h_0:spots n g:=hob _ (by simp)
  have h_1:n ≤ 1000:=hob _ (by simp)
  exact ⟨[shapeA k r w t n fun i => [i64 (gx g 0 i),i64 (gx g 1 i)]],fun w I vs h => Rs_one (Rs_shape h_0) h,by kernel_rfl,vc19 k r w t n _ _ h_1⟩
 ·cases hc
def kb7:Con:=cB fun b rest => match rest with
 | [] => some ([inB b,b.n ≤ 1000],boA b)
 | _ => none
theorem konb7:ConOK Try.prog 7 kb7:=ConOK.cB (G:=[(19,c19)]) (H:=[]) (.cons con19 .nil) Try.func7 fun b rest ob r hc hob => by
 split at hc
 ·skip
  cases hc
  have h_0:inB b:=hob _ (by simp)
  have h_1:b.n ≤ 1000:=hob _ (by simp)
  obtain ⟨b1,b2,b3,b4,b5,b6,b7,b8,b9,b10,b11,b12,b13,b14,b15,b16⟩:=h_0
  have hb:inB b:=hob _ (by simp)
  refine ⟨by kernel_rfl,fnVC_go (rs:=[.cell 2 37]) rfl rfl ?_⟩
  simp only [bodyC,go_sem,c19,cB_eq,cBR_eq,bodyD_lit,gx_pts0,gx_pts1,spots_can,etaN,etaV,bd_eta,b1,b2,b3,b4,b6,b7,b8,b9,b10,b11,b12,b13,b14,b15,b16,hb,h_1]
  simp only [forall_eq]
  exact ⟨b5,rfl⟩
 ·cases hc
def kb18:Con:=cB fun b rest => match rest with
 | [] => some ([inB b,b.n ≤ 1000],boA b)
 | _ => none
theorem konb18:ConOK Try.prog 18 kb18:=ConOK.cB (G:=[(31,c31)]) (H:=[]) (.cons con31 .nil) Try.func18 fun b rest ob r hc hob => by
 split at hc
 ·skip
  cases hc
  have h_0:inB b:=hob _ (by simp)
  have h_1:b.n ≤ 1000:=hob _ (by simp)
  obtain ⟨b1,b2,b3,b4,b5,b6,b7,b8,b9,b10,b11,b12,b13,b14,b15,b16⟩:=h_0
  have hb:inB b:=hob _ (by simp)
  refine ⟨by kernel_rfl,fnVC_go (rs:=[.cell 2 37]) rfl rfl ?_⟩
  simp only [bodyC,go_sem,c31,cB_eq,cBR_eq,bodyD_lit,gx_pts0,gx_pts1,spots_can,etaN,etaV,bd_eta,b1,b2,b3,b4,b6,b7,b8,b9,b10,b11,b12,b13,b14,b15,b16,hb,h_1]
  exact ⟨b5,rfl⟩
 ·cases hc
def spdS (b:Bd) (p:V2):V2:=vAdd b.v (vTurn b.w (vSub p b.pl))
def hftS (b:Bd) (p n:V2):Nb:=nAdd b.m (nMul b.i (nMul (vCross (vSub p b.pl) n) (vCross (vSub p b.pl) n)))
def onF:List AV → Option (List Prop × List AV)
 | [.agg l] => some ([l = bodyC (bodyD l),inB (bodyD l),(bodyD l).n ≤ 1000],bodyC (bodyD l))
 | _ => none
def mNon:MCon:=mcN 65 onF
theorem mNon_eq {key:Nat} {m:Mem} {l:List AV}:mNon key m [.agg l] = some ⟨[l = bodyC (bodyD l),inB (bodyD l),(bodyD l).n ≤ 1000],.bx key 0,.many [] (some (fam1 65 27 (bodyC (bodyD l)) none))⟩:=(rfl)
theorem con28m:MConOK Try.prog 28 mNon:=MConOK.mcN (G:=[(7,kb7)]) (H:=[]) (.cons konb7 .nil) Try.func28 fun es ob cs hF hob => by
 unfold onF at hF
 split at hF
 ·rename_i l
  cases hF
  have e:l = bodyC (bodyD l):=hob _ (by simp)
  have h:inB (bodyD l):=hob _ (by simp)
  have hn:(bodyD l).n ≤ 1000:=hob _ (by simp)
  generalize bodyD l = b at *
  subst e
  refine ⟨by simp [clean_body],by simp [bodyC,cleanCs,cleanC],by kernel_rfl,bodyM_go (rs:=[.tmp 2]) rfl rfl ?_⟩
  obtain ⟨b1,b2,b3,b4,b5,b6,b7,b8,b9,b10,b11,b12,b13,b14,b15,b16⟩:=id h
  simp only [bodyC,go_sem,kb7,cB_eq,bodyD_lit,gx_pts0,gx_pts1,etaN,etaV,bd_eta,h,hn]
  simp only [forall_eq]
  exact ⟨5,rfl,if_pos rfl⟩
 ·cases hF
def kb14:Con:=cB fun b rest => match rest with
 | [.agg [.v (.int .i64 x),.v (.bool e),.v (.int .i64 y),.v (.bool f)],.agg [.v (.int .i64 z),.v (.bool g),.v (.int .i64 u),.v (.bool h)]] => some ([inB b,b.n ≤ 1000,inR x,inR y,inR z,inR u],boA (pshS b ((x,e),(y,f)) ((z,g),(u,h))))
 | _ => none
theorem konb14:ConOK Try.prog 14 kb14:=ConOK.cB (G:=[(28,.wr mNon),(29,.wr kw115)]) (H:=[]) (.mcons con28m (.mcons konw115 .nil)) Try.func14 fun b rest ob r hc hob => by
 split at hc
 ·rename_i x e y f z g u h
  cases hc
  have h_0:inB b:=hob _ (by simp)
  have h_1:b.n ≤ 1000:=hob _ (by simp)
  have h_2:inR x:=hob _ (by simp)
  have h_3:inR y:=hob _ (by simp)
  have h_4:inR z:=hob _ (by simp)
  have h_5:inR u:=hob _ (by simp)
  obtain ⟨b1,b2,b3,b4,b5,b6,b7,b8,b9,b10,b11,b12,b13,b14,b15,b16⟩:=h_0
  have hb:inB b:=hob _ (by simp)
  refine ⟨by kernel_rfl,fnVC_go (rs:=[.cell 6 37]) rfl rfl ?_⟩
  simp only [bodyC,go_sem,kw115,cB_eq,cBR_eq,bodyD_lit,gx_pts0,gx_pts1,spots_can,etaN,etaV,bd_eta,b1,b2,b3,b4,b6,b7,b8,b9,b10,b11,b12,b13,b14,b15,b16,hb,h_1,h_2,h_3,h_4,h_5,mNon_eq,mB_bx,mbB_some,stepC_mbQ]
  intro c hc0
  rw [← hc0]; rfl
 ·cases hc
theorem aEq27w {a0 b0:Int} {a1 b1:Bool}:aEq Try.prog 27 (.agg [i64 a0,bo a1]) (.agg [i64 b0,bo b1]) = some ((a0 == b0) && ((a1 == b1) && true)):=by kernel_rfl
theorem eq27w {xo yo:Operand} {neg:Bool} {a0 b0:Int} {a1 b1:Bool}:eqE Try.prog neg 27 xo yo (.agg [i64 a0,bo a1]) (.agg [i64 b0,bo b1]) = some ⟨[],.v (.bool (negV neg ((a0 == b0) && ((a1 == b1) && true)))),.none⟩:=eqE_agg aEq27w
attribute [go_sem] eq27w
theorem aEq29w {a0 b0:Int} {a1 b1:Bool} {a2 b2:Int} {a3 b3:Bool}:aEq Try.prog 29 (.agg [i64 a0,bo a1,i64 a2,bo a3]) (.agg [i64 b0,bo b1,i64 b2,bo b3]) = some (((a0 == b0) && ((a1 == b1) && true)) && (((a2 == b2) && ((a3 == b3) && true)) && true)):=by kernel_rfl
theorem eq29w {xo yo:Operand} {neg:Bool} {a0 b0:Int} {a1 b1:Bool} {a2 b2:Int} {a3 b3:Bool}:eqE Try.prog neg 29 xo yo (.agg [i64 a0,bo a1,i64 a2,bo a3]) (.agg [i64 b0,bo b1,i64 b2,bo b3]) = some ⟨[],.v (.bool (negV neg (((a0 == b0) && ((a1 == b1) && true)) && (((a2 == b2) && ((a3 == b3) && true)) && true)))),.none⟩:=eqE_agg aEq29w
attribute [go_sem] eq29w
theorem aEq33w {a0 b0:Int} {a1 b1:Bool} {a2 b2:Int} {a3 b3:Bool} {a4 b4:Int} {a5 b5:Bool} {a6 b6:Int} {a7 b7:Bool}:aEq Try.prog 33 (.agg [i64 a0,bo a1,i64 a2,bo a3,i64 a4,bo a5,i64 a6,bo a7]) (.agg [i64 b0,bo b1,i64 b2,bo b3,i64 b4,bo b5,i64 b6,bo b7]) = some ((((a0 == b0) && ((a1 == b1) && true)) && (((a2 == b2) && ((a3 == b3) && true)) && true)) && ((((a4 == b4) && ((a5 == b5) && true)) && (((a6 == b6) && ((a7 == b7) && true)) && true)) && true)):=by kernel_rfl
theorem eq33w {xo yo:Operand} {neg:Bool} {a0 b0:Int} {a1 b1:Bool} {a2 b2:Int} {a3 b3:Bool} {a4 b4:Int} {a5 b5:Bool} {a6 b6:Int} {a7 b7:Bool}:eqE Try.prog neg 33 xo yo (.agg [i64 a0,bo a1,i64 a2,bo a3,i64 a4,bo a5,i64 a6,bo a7]) (.agg [i64 b0,bo b1,i64 b2,bo b3,i64 b4,bo b5,i64 b6,bo b7]) = some ⟨[],.v (.bool (negV neg ((((a0 == b0) && ((a1 == b1) && true)) && (((a2 == b2) && ((a3 == b3) && true)) && true)) && ((((a4 == b4) && ((a5 == b5) && true)) && (((a6 == b6) && ((a7 == b7) && true)) && true)) && true)))),.none⟩:=eqE_agg aEq33w
attribute [go_sem] eq33w
theorem aEq35w {a0 b0:Int} {a1 b1:Bool} {a2 b2:Int} {a3 b3:Bool}:aEq Try.prog 35 (.agg [i64 a0,bo a1,i64 a2,bo a3]) (.agg [i64 b0,bo b1,i64 b2,bo b3]) = some (((a0 == b0) && ((a1 == b1) && true)) && (((a2 == b2) && ((a3 == b3) && true)) && true)):=by kernel_rfl
theorem eq35w {xo yo:Operand} {neg:Bool} {a0 b0:Int} {a1 b1:Bool} {a2 b2:Int} {a3 b3:Bool}:eqE Try.prog neg 35 xo yo (.agg [i64 a0,bo a1,i64 a2,bo a3]) (.agg [i64 b0,bo b1,i64 b2,bo b3]) = some ⟨[],.v (.bool (negV neg (((a0 == b0) && ((a1 == b1) && true)) && (((a2 == b2) && ((a3 == b3) && true)) && true)))),.none⟩:=eqE_agg aEq35w
attribute [go_sem] eq35w
theorem vc27 (k r w t:Int) (n:Nat) (X Y:Nat → Int) (hn:n ≤ 1000):fnVC Try.prog [] [] Try.f27 [shapeA k r w t n fun i => [i64 (X i),i64 (Y i)],shapeA k r w t n fun i => [i64 (X i),i64 (Y i)]] (· = bo true):=by
 refine fnVC_go (rs:=[.tmp 4]) rfl rfl ?_
 simp only [go_sem]
 have e1:∀ x:Int,(x != x) = false:=fun x => by simp
 refine ⟨fun h => by simp at h,fun _ => ?_⟩
 refine loopC_go (fun (i:Nat) => i ≤ n) (fun i => n - i) (fun i => [(5,i64 (i:Int))]) (fun _ => []) [1,0] [41,42,43,44,45,48,49,50,51,52,53,54,55,56,57,58,4,46,47,5] 0 (by kernel_rfl) ?_ (Nat.zero_le _) ?_ ?_
 ·intro x _; simp [goodNames,asg]
 ·simp only [go_sem]
 intro i hi
 simp only [go_sem]
 exact ⟨fun h => ⟨by omega,h,by omega,h,fun hb => by simp at hb,fun _ z hz => ⟨i + 1,by omega,by omega,by rw [hz,wrap_in (by unfold inR; omega)]; rfl⟩⟩,fun _ => trivial⟩
def kSame:Con
 | [.agg [.v (.int .i64 k),.v (.int .i64 r),.v (.int .i64 w),.v (.int .i64 t),.ro n 2 g],b] => some ([spots n g,n ≤ 1000,b = .agg [i64 k,i64 r,i64 w,i64 t,.ro n 2 g]],bo true)
 | _ => none
theorem konS113:ConOK Try.prog 27 kSame:=ConOK.go (G:=[]) (H:=[]) .nil Try.func27 fun l ob rr hc hob => by
 unfold kSame at hc
 split at hc
 ·rename_i k r w t n g b
  cases hc
  have hs:spots n g:=hob _ (by simp)
  have hn:n ≤ 1000:=hob _ (by simp)
  have hb:b = .agg [i64 k,i64 r,i64 w,i64 t,.ro n 2 g]:=hob _ (by simp)
  subst hb
  exact ⟨[shapeA k r w t n fun i => [i64 (gx g 0 i),i64 (gx g 1 i)],shapeA k r w t n fun i => [i64 (gx g 0 i),i64 (gx g 1 i)]],fun w I vs h => Rs_two (Rs_shape hs) (Rs_shape hs) h,by kernel_rfl,vc27 k r w t n _ _ hn⟩
 ·cases hc
def kb12:Con:=cB fun b rest => match rest with
 | [a] => some ([inB b,b.n ≤ 1000,a = .agg (bodyC b)],bo true)
 | _ => none
theorem konb12:ConOK Try.prog 12 kb12:=ConOK.cB (G:=[(27,kSame)]) (H:=[]) (.cons konS113 .nil) Try.func12 fun b rest ob r hc hob => by
 split at hc
 ·rename_i a
  cases hc
  have h_0:inB b:=hob _ (by simp)
  have h_1:b.n ≤ 1000:=hob _ (by simp)
  have h_2:a = .agg (bodyC b):=hob _ (by simp)
  obtain ⟨b1,b2,b3,b4,b5,b6,b7,b8,b9,b10,b11,b12,b13,b14,b15,b16⟩:=h_0
  have hb:inB b:=hob _ (by simp)
  subst h_2
  refine ⟨by kernel_rfl,fnVC_go (rs:=[.tmp 4]) rfl rfl ?_⟩
  simp only [bodyC,go_sem,kSame,cB_eq,cBR_eq,bodyD_lit,gx_pts0,gx_pts1,spots_can,etaN,etaV,bd_eta,b1,b2,b3,b4,b6,b7,b8,b9,b10,b11,b12,b13,b14,b15,b16,hb,h_1]
  intro z hz
  subst hz
  exact ⟨b5,by simp⟩
 ·cases hc
theorem vc14 (n:Nat) (B:Nat → Bd) (hn:n ≤ 9223372036854775807) (hB:∀ i,i < n → (B i).n ≤ 9223372036854775807):fnVC Try.prog [] [] Try.f4 [.ro n 27 fun i => bodyC (B i)] (· = bo (decide (∀ i,i < n → (B i).n ≤ 12))):=by
 refine fnVC_go (rs:=[.tmp 2]) rfl rfl ?_
 simp only [bodyC,go_sem]
 refine loopC_go (fun (i:Nat) => i ≤ n ∧ ∀ j,j < i → (B j).n ≤ 12) (fun i => n - i) (fun i => [(3,i64 (i:Int))]) (fun _ => []) [] [4,5,6,7,10,11,12,13,14,15,16,17,2,8,9,3] 0 (by kernel_rfl) ?_ ⟨Nat.zero_le _,fun j hj => by omega⟩ ?_ ?_
 ·intro x _; simp [goodNames,asg]
 ·simp only [go_sem]
 intro i hi
 simp only [go_sem]
 refine ⟨fun h => ⟨by omega,h,fun hb => ?_,fun hb z hz => ⟨i + 1,⟨by omega,fun j hj => ?_⟩,by omega,?_⟩⟩,fun h => ?_⟩
 ·refine (decide_eq_false fun hc => ?_).symm
  have:=hc i (by omega); omega
 ·by_cases e:j = i
  ·subst e; omega
  ·exact hi.2 j (by omega)
 ·rw [hz,wrap_in (by unfold inR; omega)]; rfl
 ·exact (decide_eq_true fun j hj => hi.2 j (by omega)).symm
def kLit:Con
 | [.ro n 27 g] => some ([n ≤ 9223372036854775807,∀ i,i < n → g i = bodyC (bodyD (g i)) ∧ (bodyD (g i)).n ≤ 9223372036854775807],bo (decide (∀ i,i < n → (bodyD (g i)).n ≤ 12)))
 | _ => none
theorem kon14L:ConOK Try.prog 4 kLit:=ConOK.go (G:=[]) (H:=[]) .nil Try.func4 fun l ob rr hc hob => by
 unfold kLit at hc
 split at hc
 ·rename_i n g
  cases hc
  have hg:∀ i,i < n → g i = bodyC (bodyD (g i)) ∧ (bodyD (g i)).n ≤ 9223372036854775807:=hob _ (by simp)
  exact ⟨[.ro n 27 fun i => bodyC (bodyD (g i))],fun w I vs h => Rs_one (fun v hv => ro_alike (fun i hi => (hg i hi).1) hv) h,by kernel_rfl,vc14 n (fun i => bodyD (g i)) (hob _ (by simp)) fun i hi => (hg i hi).2⟩
 ·cases hc
def cjS (n:Int) (k a b:Int) (p q:V2) (l:Nb):Int:=
 if k ≠ 1 ∧ k ≠ 2 ∧ k ≠ 3 then 8 else
 if (a < 0 ∨ n ≤ a) ∨ (k ≠ 1 ∧ (b < 0 ∨ n ≤ b ∨ a = b)) then 3 else
 if (withS p.1 32 && withS p.2 32) = false ∨ (if k = 1 then (withS q.1 4096 && withS q.2 4096) = false else (withS q.1 32 && withS q.2 32) = false) then 3 else
 if k = 2 ∧ (withS l 8192 = false ∨ l.1 < 0) then 3 else
 if (k = 1 ∧ b ≠ 0) ∨ (k ≠ 2 ∧ ¬ (l.1 = 0 ∧ l.2 = false)) then 4 else 0
def kj51:Con
 | [.v (.int .i64 n),.agg [.v (.int .i64 k),.v (.int .i64 a),.v (.int .i64 b),.v (.int .i64 x),.v (.bool e),.v (.int .i64 y),.v (.bool f),.v (.int .i64 z),.v (.bool g),.v (.int .i64 u),.v (.bool h),.v (.int .i64 l),.v (.bool m)]] => some ([inR n,inR x,inR y,inR z,inR u,inR l],i64 (cjS n k a b ((x,e),(y,f)) ((z,g),(u,h)) (l,m)))
 | _ => none
theorem konj51:ConOK Try.prog 17 kj51:=ConOK.of (G:=[(30,kw123)]) (H:=[]) (.cons konw123 .nil) Try.func17 fun l ob rr hc hob => by
 unfold kj51 at hc
 split at hc
 ·rename_i n k a b x e y f z g u h l m
  cases hc
  have h_0:inR n:=hob _ (by simp)
  have h_1:inR x:=hob _ (by simp)
  have h_2:inR y:=hob _ (by simp)
  have h_3:inR z:=hob _ (by simp)
  have h_4:inR u:=hob _ (by simp)
  have h_5:inR l:=hob _ (by simp)
  refine ⟨by kernel_rfl,fnVC_go (rs:=[.tmp 4]) rfl rfl ?_⟩
  simp only [go_sem,kw123,iMul,iDiv,iInt,iAdd,iSub,iRat,iDot,iHyp,iSq,iNeg,iPos,iAbs,iMx,iMn,iCl,iWh,iLoc1,iLoc2,iVAdd1,iVAdd2,iVSub1,iVSub2,iScale1,iScale2,iVDot,iVCross,iLen,iOf1,iOf2,iUnit1,iUnit2,h_0,h_1,h_2,h_3,h_4,h_5]
  unfold cjS
  simp only [forall_eq]
  generalize (withS (x,e) 32 && withS (y,f) 32) = w1
  generalize (withS (z,g) 4096 && withS (u,h) 4096) = w3
  generalize (withS (z,g) 32 && withS (u,h) 32) = w5
  generalize withS (l,m) 8192 = w7
  clear hob h_0 h_1 h_2 h_3 h_4 h_5
  repeat' (first | intro _ | apply And.intro)
  all_goals grind
 ·cases hc
section
variable {P:Program} {G:Ctx} {H:Hots} {K0:AEx → St → Prop} {hot:Option Hot} {ops:Array Oper} {d:Option Tmp} {rest:List Oper} {i:Nat} {st:List Fr} {t:Slots} {m:Mem} {nx:Nat} {o:List Prop} {u:Upd} {b:Bd} {c:Bool}
theorem bindC_cboA:bindC P G H K0 hot ops d rest i st t m nx o u (condV c (bnd (boA b))) = (∀ b',b' = b → bindC P G H K0 hot ops d rest i st t m nx o u (condV c (.agg (bodyC b')))):=by
 apply propext
 constructor
 ·rintro h b' rfl; exact h
 ·intro h; exact h b rfl
end
attribute [go_sem] bindC_cboA
def rndB (x:Int) (m i:Nb):Bd:=⟨1,256,0,0,0,fun _ => 0,fun _ => 0,((x,false),(0,false)),((4294967296,false),(0,false)),((0,false),(0,false)),(0,false),m,i,0,false,false,1⟩
theorem alk_body0 {l1:List AV} {X Y:Nat → Int} {c0 c1 c2 c3:AV}:alk (.agg (c0 :: c1 :: c2 :: c3 :: ptsA 0 X Y :: l1)) (.agg (c0 :: c1 :: c2 :: c3 :: .v (.slice none 0 0) :: l1)):=fun w ρ v hR => by
 cases hR with
 | agg hl hh =>
  refine .agg hl fun j x y h3 h4 => ?_
  match j with
  | 4 =>
   simp at h3; subst h3
   exact alk_nil _ _ _ (hh 4 _ y rfl h4)
  | 0 => exact hh 0 x y h3 h4
  | 1 => exact hh 1 x y h3 h4
  | 2 => exact hh 2 x y h3 h4
  | 3 => exact hh 3 x y h3 h4
  | j + 5 => exact hh (j + 5) x y h3 h4
def kw72:Con
 | [.v (.int .i64 x),.agg [.v (.int .i64 m),.v (.bool e),.v (.int .i64 i),.v (.bool f)]] => some ([],boA (rndB x (m,e) (i,f)))
 | _ => none
theorem konw72:ConOK Try.prog 15 kw72:=ConOK.goR (G:=[(16,kw55)]) (H:=[(1,⟨[(9,.slot 4)],[]⟩)]) (.cons konw55 .nil) Try.func15 fun l ob rr hc hob => by
 unfold kw72 at hc
 split at hc
 ·rename_i x m e i f
  cases hc
  refine ⟨_,fun w I vs h => h,by kernel_rfl,fnVC_go (rs:=[.cell 4 37]) rfl rfl ?_⟩
  simp only [go_sem,kw55,forall_eq]
  exact alk_body0
 ·cases hc
def c5:Con
 | [] => some ([],bo true)
 | _ => none
theorem con5:ConOK Try.prog 5 c5:=ConOK.of (G:=[(16,kw55),(15,kw72),(14,kb14),(17,kj51)]) (H:=[]) (.cons konw55 (.cons konw72 (.cons konb14 (.cons konj51 .nil)))) Try.func5 fun l ob rr hc hob => by
 unfold c5 at hc
 split at hc
 ·skip
  cases hc
  refine ⟨by kernel_rfl,fnVC_go (rs:=[.tmp 0]) rfl rfl ?_⟩
  simp only [go_sem,kw55,kw72,kb14,kj51,iMul,iDiv,iInt,iAdd,iSub,iRat,iDot,iHyp,iSq,iNeg,iPos,iAbs,iMx,iMn,iCl,iWh,iLoc1,iLoc2,iVAdd1,iVAdd2,iVSub1,iVSub2,iScale1,iScale2,iVDot,iVCross,iLen,iOf1,iOf2,iUnit1,iUnit2,bodyC,cB_eq,cBR_eq,bodyD_lit,gx_pts0,gx_pts1,spots_can,etaN,etaV,bd_eta]
  simp only [forall_eq]
  have e1:(pshS (rndB 0 (4294967296,false) (4294967296,false)) ((0,false),4294967296,false) ((4294967296,false),0,false)).v = ((4294967296,false),(0,false)):=by kernel_rfl
  have e2:(pshS (rndB 0 (4294967296,false) (4294967296,false)) ((0,false),4294967296,false) ((4294967296,false),0,false)).w = (-4294967296,false):=by kernel_rfl
  have e3:cjS 1 4 0 0 ((0,false),0,false) ((0,false),0,false) (0,false) = 8:=by decide
  rw [e1,e2,e3]
  simp only [beq_self_eq_true,true_and,and_self,implies_true]
  exact ⟨⟨⟨by decide,by decide⟩,⟨by decide,by decide⟩,⟨by decide,by decide⟩,⟨by decide,by decide⟩,fun j hj => absurd hj (Nat.not_lt_zero j),⟨by decide,by decide⟩,⟨by decide,by decide⟩,⟨by decide,by decide⟩,⟨by decide,by decide⟩,⟨by decide,by decide⟩,⟨by decide,by decide⟩,⟨by decide,by decide⟩,⟨by decide,by decide⟩,⟨by decide,by decide⟩,⟨by decide,by decide⟩,⟨by decide,by decide⟩⟩,by decide,by unfold inR; omega,by unfold inR; omega,trivial⟩
 ·cases hc
end Go.Ax
end
section
namespace Go.Ax
section
variable {P:Program} {G:Ctx} {H:Hots} {f:FuncId} {fn:Func} {r s key:Nat}
theorem thL2_0 {th:Nat → Nat → Nat}:∀ f,thL [r,s] key th 0 f = (r,f):=fun f => by simp [thL]
def famCl (fam:Fam):Prop:=∀ f,(fam f).g = none ∧ ∀ j,j < (fam f).n → ∀ c ∈ (fam f).get j,cleanC c = true
theorem famCl_E {fam:Fam} {f i:Nat} {cs:List AV} (h:famCl fam) (hc:∀ c ∈ cs,cleanC c = true):famCl (famE fam f i cs):=fun f' => by
 refine ⟨by rw [famE_g]; exact (h f').1,fun j hj c hcm => ?_⟩
 rw [famE_n] at hj
 by_cases e:f' = f
 ·subst e
  simp only [famE,if_true] at hcm
  split at hcm
  ·exact hc c hcm
  ·exact (h f').2 j hj c hcm
 ·rw [famE_off e] at hcm
  exact (h f').2 j hj c hcm
theorem rowRen_cl {θ:Nat → Nat → Nat × Nat} {g:Nat → Nat → Prop} {B:Nat → Prop} {fam:Fam} (h:famCl fam) (f:Nat):rowRen θ g B (fam f) (fam f):=rowRen_clean' (.refl _) (h f).2
theorem look_two0 {x y:Fam}:look [(1,y),(0,x)] 0 = some x:=by simp [look]
theorem look_two1 {x y:Fam}:look [(1,y),(0,x)] 1 = some y:=by simp [look]
theorem two_okG {fam fam' x0 y0 famB famB':Fam} {m:Mem} {es es0:List AV} {val val0:AV} {ob:List Prop} (hne:r ≠ s) (hl:look m r = some fam) (hl2:look m s = some famB)
  (h1:∀ f,(fam f).g = none ∧ rowRen (thE [r,s]) (lowG 2) (lowB 2) (x0 f) (fam f)) (hB:famCl famB) (hB':famCl famB')
  (h2:∀ th σ f,rowRen (thL [r,s] key th) (newG 2 σ th) (newB 2 σ) (y0 f) (fam' f) ∧ (y0 f).g ≠ some false) (ha:es = es0.map (renA (thE [r,s]) 3)) (hak:∀ a ∈ es0,kg (lowG 2) (lowB 2) 3 a)
  (hfn:funcOK P H fn es0.length = true) (hv:∀ th:Nat → Nat → Nat,∀ σ:Nat → Option (Nat × Nat),val = renA (thL [r,s] key th) 3 val0 ∧ kg (newG 2 σ th) (newB 2 σ) 3 val0)
  (hb:bodyM P G H fn es0 [(1,famB),(0,x0)] 2 fun a m1 => a = val0 ∧ look m1 0 = some y0 ∧ look m1 1 = some famB') :
  ∃ ks m0 as0,Entry ks m m0 es as0 ∧ funcOK P H fn as0.length = true ∧ bodyM P G H fn as0 m0 ks.length fun a m1 => ∃ σ th ys nw,(⟨ob,val,.many [(r,fam'),(s,famB')] none⟩:Eff).u = .many (ks.zip ys) nw ∧ Leave key ks σ th m1 a ys nw val:=by
 refine ⟨[r,s],[(1,famB),(0,x0)],es0,⟨by simp [hne],ha,hak,fun j hj => ?_,fun q x hq => ?_⟩,hfn,hb.mono fun a m1 ⟨q1,q2,q3⟩ => ?_⟩
 ·match j,hj with
  | 0,_ => exact ⟨_,fam,look_two0,hl,h1⟩
  | 1,_ => exact ⟨_,famB,look_two1,hl2,fun f => ⟨(hB f).1,rowRen_cl hB f⟩⟩
  | j + 2,hj => simp at hj; omega
 ·by_cases e:q = 0
  ·subst e; simp
  ·by_cases e1:q = 1
   ·subst e1; simp
   ·simp [look,Ne.symm e,Ne.symm e1] at hq
 ·obtain ⟨v1,v2⟩:=hv (fun _ _ => 0) (fun _ => none)
  refine ⟨fun _ => none,fun _ _ => 0,[fam',famB'],none,rfl,⟨fun f r g h => by simp at h,by rw [q1]; exact v1,by rw [q1]; exact v2,rfl,fun j hj => ?_,fun _ => rfl⟩⟩
  match j,hj with
  | 0,_ => exact ⟨_,_,q2,rfl,h2 _ _⟩
  | 1,_ => exact ⟨_,_,q3,rfl,fun f => ⟨rowRen_cl hB' f,by rw [(hB' f).1]; simp⟩⟩
  | j + 2,hj => simp at hj; omega
theorem tabOK_in2 {K C N sz:Nat} {tp ty:TypeId} {fam:Fam} (h:tabOK K N sz tp ty fam) (f:Nat):(fam f).g = none ∧ rowRen (thE [K,C]) (lowG 2) (lowB 2) (famT 0 N sz tp ty (fun i => (fam (i + 1)).get 0) f) (fam f):=
 ⟨(h.1 f).2.2.2.1.trans famT_g,rowRen_alike (rowRen_T (θ:=thE [K,C]) (g:=lowG 2) (B:=lowB 2) (fun _ => rfl) (fun _ => Nat.zero_lt_two) h.2 f) (h.1 f)⟩
def mcTPp (sz sz2:Nat) (tp ty:TypeId) (F:Nat → (Nat → List AV) → List AV → List AV → Option (List Prop × AV × (Nat → List AV) × List AV)):MCon:=fun key m es => match es with
 | .own K 0 N 1 :: .ptr C f i s2 0 :: rest => match look m K with
  | some fam => match look m C with
   | some famC => match F N (fun i => (fam (i + 1)).get 0) ((famC f).get i) rest with
    | some (ob,val,get',cs') => some ⟨(K ≠ C) :: (s2 = sz2) :: (i < (famC f).n) :: (sz2 = (famC f).sz) :: (cleanCs ((famC f).get i) = true) :: famCl famC :: tabOK K N sz tp ty fam :: ob,val,.many [(K,famT K N sz tp ty get'),(C,famE famC f i cs')] none⟩
    | none => none
   | none => none
  | none => none
 | _ => none
def mcTQ (sz sz2:Nat) (tp ty:TypeId) (F:Nat → (Nat → List AV) → List AV → List AV → Option (List Prop × AV × (Nat → List AV) × List AV)):MCon:=fun key m es => match es with
 | .own K 0 N 1 :: .bx C 0 :: rest => match look m K with
  | some fam => match look m C with
   | some famC => match F N (fun i => (fam (i + 1)).get 0) ((famC 0).get 0) rest with
    | some (ob,val,get',cs') => some ⟨(K ≠ C) :: ((famC 0).n = 1) :: (sz2 = (famC 0).sz) :: (cleanCs ((famC 0).get 0) = true) :: famCl famC :: tabOK K N sz tp ty fam :: ob,val,.many [(K,famT K N sz tp ty get'),(C,wb1 famC cs')] none⟩
    | none => none
   | none => none
  | none => none
 | es => mcTPp sz sz2 tp ty F key m es
def TPOK (P:Program) (G:Ctx) (H:Hots) (fn:Func) (sz sz2:Nat) (tp ty:TypeId) (F:Nat → (Nat → List AV) → List AV → List AV → Option (List Prop × AV × (Nat → List AV) × List AV)):Prop:=
 ∀ N get cells rest ob val get' cs',F N get cells rest = some (ob,val,get',cs') → (∀ p ∈ ob,p) → (∀ i,i < N → cleanCs (get i) = true) → cleanCs cells = true →
  (∀ a ∈ rest,clean 3 a = true) ∧ clean 3 val = true ∧ (∀ i,i < N → cleanCs (get' i) = true) ∧ cleanCs cs' = true ∧ funcOK P H fn (rest.length + 2) = true ∧
  ∀ (fam:Fam) (f i:Nat),i < (fam f).n → sz2 = (fam f).sz → famCl fam → bodyM P G H fn (.own 0 0 N 1 :: .ptr 1 f i sz2 0 :: rest) [(1,famE fam f i cells),(0,famT 0 N sz tp ty get)] 2 fun a m1 =>
   a = val ∧ look m1 0 = some (famT 0 N sz tp ty get') ∧ look m1 1 = some (famE fam f i cs')
theorem MConOK.mcTPp (hG:CtxOK P G) (hf:P.funcs[f]? = some fn) {sz sz2:Nat} {tp ty:TypeId} {F:Nat → (Nat → List AV) → List AV → List AV → Option (List Prop × AV × (Nat → List AV) × List AV)} (h:TPOK P G H fn sz sz2 tp ty F):MConOK P f (mcTPp sz sz2 tp ty F):=by
 refine MConOK.of (H:=H) hG hf fun key m es e hc hob => ?_
 unfold Ax.mcTPp at hc
 split at hc
 ·rename_i K N C f' i s2 rest
  split at hc
  ·rename_i fam hl
   split at hc
   ·rename_i famC hl2
    split at hc
    ·rename_i ob val get' cs' hF
     cases hc
     have hne:K ≠ C:=hob _ (by simp)
     have hs2:s2 = sz2:=hob _ (by simp)
     have hi:i < (famC f').n:=hob _ (by simp)
     have hsz:sz2 = (famC f').sz:=hob _ (by simp)
     have hcl:cleanCs ((famC f').get i) = true:=hob _ (by simp)
     have hC:famCl famC:=hob _ (by simp)
     have hok:tabOK K N sz tp ty fam:=hob _ (by simp)
     subst hs2
     obtain ⟨h1,h2,h3,h3',h4,h5⟩:=h _ _ _ _ _ _ _ _ hF (fun p hp => hob p (by simp [hp])) hok.2 hcl
     obtain ⟨a1,a2⟩:=cleans_ren (θ:=thE [K,C]) (g:=lowG 2) (B:=lowB 2) h1
     refine two_okG hne hl hl2 (tabOK_in2 hok) hC (famCl_E hC (cleanCs_mem h3'))
      (fun th σ f => ⟨rowRen_T thL2_0 (fun _ => .inl Nat.zero_lt_two) h3 f,by rw [famT_g]; simp⟩) (es0:=.own 0 0 N 1 :: .ptr 1 f' i s2 0 :: rest) (val0:=val) ?_ ?_ h4 (fun th σ => ?_) ?_
     ·rw [List.map_cons,List.map_cons,a1]; rfl
     ·intro a ha
      rcases List.mem_cons.1 ha with e | ha
      ·rw [e]; exact Nat.zero_lt_two
      ·rcases List.mem_cons.1 ha with e | ha
       ·rw [e]; exact Nat.one_lt_two
       ·exact a2 a ha
     ·obtain ⟨b1,b2⟩:=clean_ren (θ:=thL [K,C] key th) (g:=newG 2 σ th) (B:=newB 2 σ) 3 val h2
      exact ⟨b1.symm,b2⟩
     ·have:=h5 famC f' i hi hsz hC
      rw [famE_self] at this
      exact this
    ·cases hc
   ·cases hc
  ·cases hc
 ·cases hc
theorem MConOK.mcTQ (hG:CtxOK P G) (hf:P.funcs[f]? = some fn) {sz sz2:Nat} {tp ty:TypeId} {F:Nat → (Nat → List AV) → List AV → List AV → Option (List Prop × AV × (Nat → List AV) × List AV)} (h:TPOK P G H fn sz sz2 tp ty F):MConOK P f (mcTQ sz sz2 tp ty F):=by
 intro w0 ρ m m' D w key es vs e hR hk hm hRs hc hob hmany
 unfold Ax.mcTQ at hc
 split at hc
 ·rename_i K N C rest
  split at hc
  ·rename_i fam hl
   split at hc
   ·rename_i famC hl2
    split at hc
    ·rename_i ob val get' cs' hF
     cases hc
     have hne:K ≠ C:=hob _ (by simp)
     have hn:(famC 0).n = 1:=hob _ (by simp)
     have hsz:sz2 = (famC 0).sz:=hob _ (by simp)
     have hcl:cleanCs ((famC 0).get 0) = true:=hob _ (by simp)
     have hC:famCl famC:=hob _ (by simp)
     have hok:tabOK K N sz tp ty fam:=hob _ (by simp)
     have hRs':Rs w ρ (.own K 0 N 1 :: .ptr C 0 0 sz2 0 :: rest) vs:=by
      obtain ⟨x,xs,rfl,h1,h2⟩:=hRs.inv
      obtain ⟨y,ys,rfl,h3,h4⟩:=h2.inv
      refine .cons h1 (.cons ?_ h4)
      cases h3 with
      | bx hd =>
       have:R w ρ (.ptr C 0 0 sz2 0) (.pointer (some ⟨ρ.blk C 0,0 * sz2 + 0,none⟩)):=.ptr hd
       rw [Nat.zero_mul] at this
       exact this
     have:=MConOK.mcTPp hG hf h w0 ρ m m' D w key _ vs ⟨(K ≠ C) :: (sz2 = sz2) :: (0 < (famC 0).n) :: (sz2 = (famC 0).sz) :: (cleanCs ((famC 0).get 0) = true) :: famCl famC :: tabOK K N sz tp ty fam :: ob,val,.many [(K,famT K N sz tp ty get'),(C,famE famC 0 0 cs')] none⟩ hR hk hm hRs'
      (by simp only [Ax.mcTPp,hl,hl2,hF]) (fun p hp => by
       simp only [List.mem_cons] at hp
       rcases hp with rfl | rfl | rfl | rfl | rfl | rfl | rfl | hp
       ·exact hne
       ·trivial
       ·omega
       ·exact hsz
       ·exact hcl
       ·exact hC
       ·exact hok
       ·exact hob p (by simp [hp])) ⟨_,_,rfl⟩
     refine this.mono fun v w' ⟨ρ',p1,p2,p3,p4⟩ => ⟨ρ',p1,?_,p3,p4⟩
     have p2:Rel w0 ρ' (setRow C (famE famC 0 0 cs') (setRow K (famT K N sz tp ty get') m)) (fun r => D r ∨ r = key) w':=p2
     refine Rel.alike p2 fun f => ?_
     by_cases e:f = 0
     ·subst e
      refine ⟨rfl,rfl,rfl,rfl,fun i hi => ?_⟩
      rw [famE_n,hn] at hi
      have:i = 0:=by omega
      subst this
      rw [famE_get]; rfl
     ·unfold wb1
      rw [if_neg e,famE_off e]
      exact ⟨rfl,rfl,rfl,rfl,fun _ _ => rfl⟩
    ·cases hc
   ·cases hc
  ·cases hc
 ·exact MConOK.mcTPp hG hf h w0 ρ m m' D w key es vs e hR hk hm hRs hc hob hmany
def mc2P (sz:Nat) (tp ty:TypeId):MCon:=fun key m es => match es with
 | [.own K 0 N 1,.v (.int .i64 a),.v (.int .i64 b)] => match look m K with
  | some fam => some ⟨[tabOK K N sz tp ty fam,N ≤ 1000],if 0 ≤ a ∧ a < N ∧ 0 ≤ b ∧ b < N ∧ a ≠ b then .tup [.ptr K (a.toNat + 1) 0 sz 0,.ptr K (b.toNat + 1) 0 sz 0,.v (.bool true)] else .tup [.v (.pointer none),.v (.pointer none),.v (.bool false)],.many [(K,fam)] none⟩
  | none => none
 | _ => none
def TwoPOK (P:Program) (G:Ctx) (H:Hots) (fn:Func) (sz:Nat) (tp ty:TypeId):Prop:=
 ∀ N get,N ≤ 1000 → ∀ a b:Int,funcOK P H fn 3 = true ∧
  bodyM P G H fn [.own 0 0 N 1,.v (.int .i64 a),.v (.int .i64 b)] [(0,famT 0 N sz tp ty get)] 1 fun x m1 => x = (if 0 ≤ a ∧ a < N ∧ 0 ≤ b ∧ b < N ∧ a ≠ b then AV.tup [.ptr 0 (a.toNat + 1) 0 sz 0,.ptr 0 (b.toNat + 1) 0 sz 0,.v (.bool true)] else .tup [.v (.pointer none),.v (.pointer none),.v (.bool false)]) ∧ look m1 0 = some (famT 0 N sz tp ty get)
theorem MConOK.mc2P (hG:CtxOK P G) (hf:P.funcs[f]? = some fn) {sz:Nat} {tp ty:TypeId} (h:TwoPOK P G H fn sz tp ty):MConOK P f (mc2P sz tp ty):=by
 refine MConOK.of (H:=H) hG hf fun key m es e hc hob => ?_
 unfold Ax.mc2P at hc
 split at hc
 ·rename_i K N a b
  split at hc
  ·rename_i fam hl
   cases hc
   have hok:tabOK K N sz tp ty fam:=hob _ (by simp)
   have hN:N ≤ 1000:=hob _ (by simp)
   obtain ⟨h1,h2⟩:=h N (fun i => (fam (i + 1)).get 0) hN a b
   refine one_okG hl (tabOK_in hok) (fun th σ f => ⟨rowRen_alike (rowRen_T thL_0 (newG_0 (by simp)) hok.2 f) (hok.1 f),by rw [famT_g]; simp⟩) (es0:=[.own 0 0 N 1,.v (.int .i64 a),.v (.int .i64 b)]) ?_ ?_ h1 (fun th σ => ?_) h2
   ·rfl
   ·intro x hx
    simp only [List.mem_cons,List.not_mem_nil,or_false] at hx
    rcases hx with e | e | e <;> rw [e]
    ·exact Nat.zero_lt_one
    ·trivial
    ·trivial
   ·split
    ·refine ⟨?_,?_⟩
     ·show AV.tup [.ptr K _ _ _ _,.ptr K _ _ _ _,_] = .tup [.ptr (thL [K] key th 0 _).1 (thL [K] key th 0 _).2 _ _ _,.ptr (thL [K] key th 0 _).1 (thL [K] key th 0 _).2 _ _ _,_]
      rw [thL_0,thL_0]; rfl
     ·intro c hc
      simp only [List.mem_cons,List.not_mem_nil,or_false] at hc
      rcases hc with e | e | e <;> rw [e]
      ·exact newG_0 (by simp) _
      ·exact newG_0 (by simp) _
      ·trivial
    ·refine ⟨rfl,fun c hc => ?_⟩
     simp only [List.mem_cons,List.not_mem_nil,or_false] at hc
     rcases hc with e | e | e <;> rw [e] <;> trivial
  ·cases hc
 ·cases hc
def mcS (sz:Nat) (ty:TypeId) (F:Nat → (Nat → List AV) → List AV → Option (List Prop × AV × (Nat → List AV))):MCon:=fun key m es => match es with
 | .own r 0 N sz' :: rest => match look m r with
  | some fam => match F N (fam 0).get rest with
   | some (ob,val,get') => some ⟨(sz' = sz) :: (fam = famN N sz ty (fam 0).get none) :: (∀ i,i < N → cleanCs ((fam 0).get i) = true) :: ob,val,.many [(r,famN N sz ty get' none)] none⟩
   | none => none
  | none => none
 | _ => none
def SlOK (P:Program) (G:Ctx) (H:Hots) (fn:Func) (sz:Nat) (ty:TypeId) (F:Nat → (Nat → List AV) → List AV → Option (List Prop × AV × (Nat → List AV))):Prop:=
 ∀ N get rest ob val get',F N get rest = some (ob,val,get') → (∀ p ∈ ob,p) → (∀ i,i < N → cleanCs (get i) = true) → (∀ a ∈ rest,clean 3 a = true) ∧ clean 3 val = true ∧ (∀ i,i < N → cleanCs (get' i) = true) ∧ funcOK P H fn (rest.length + 1) = true ∧
  bodyM P G H fn (.own 0 0 N sz :: rest) [(0,famN N sz ty get none)] 1 fun a m1 => a = val ∧ look m1 0 = some (famN N sz ty get' none)
theorem famCl_N {n sz:Nat} {ty:TypeId} {get:Nat → List AV} (h:∀ i,i < n → cleanCs (get i) = true):famCl (famN n sz ty get none):=fun f => by
 unfold famN
 by_cases e:f = 0
 ·subst e
  exact ⟨rfl,fun j hj c hc => cleanCs_mem (h j (by simpa using hj)) c (by simpa using hc)⟩
 ·simp only [e,if_false]
  exact ⟨trivial,fun j hj => by omega⟩
theorem famCl_1 {sz:Nat} {ty:TypeId} {cs:List AV} (h:cleanCs cs = true):famCl (fam1 ty sz cs none):=fun f => by
 unfold fam1
 by_cases e:f = 0
 ·subst e
  exact ⟨rfl,fun j _ c hc => cleanCs_mem h c (by simpa using hc)⟩
 ·simp only [e,if_false]
  exact ⟨trivial,fun j hj => by omega⟩
theorem MConOK.mcS (hG:CtxOK P G) (hf:P.funcs[f]? = some fn) {sz:Nat} {ty:TypeId} {F:Nat → (Nat → List AV) → List AV → Option (List Prop × AV × (Nat → List AV))} (h:SlOK P G H fn sz ty F):MConOK P f (mcS sz ty F):=by
 refine MConOK.of (H:=H) hG hf fun key m es e hc hob => ?_
 unfold Ax.mcS at hc
 split at hc
 ·rename_i K N sz' rest
  split at hc
  ·rename_i fam hl
   split at hc
   ·rename_i ob val get' hF
    cases hc
    have hs:sz' = sz:=hob _ (by simp)
    have he:fam = famN N sz ty (fam 0).get none:=hob _ (by simp)
    have hcl:∀ i,i < N → cleanCs ((fam 0).get i) = true:=hob _ (by simp)
    subst hs
    obtain ⟨h1,h2,h3,h4,h5⟩:=h _ _ _ _ _ _ hF (fun p hp => hob p (by simp [hp])) hcl
    obtain ⟨a1,a2⟩:=cleans_ren (θ:=thE [K]) (g:=lowG 1) (B:=lowB 1) h1
    have hC:famCl fam:=by rw [he]; exact famCl_N hcl
    rw [← he] at h5
    refine one_okG hl (fun f => ⟨(hC f).1,rowRen_cl hC f⟩) (fun th σ f => ⟨rowRen_cl (famCl_N h3) f,by rw [(famCl_N h3 f).1]; simp⟩) (es0:=.own 0 0 N sz' :: rest) (val0:=val) ?_ ?_ h4 (fun th σ => ?_) h5
    ·rw [List.map_cons,a1]; rfl
    ·intro a ha
     rcases List.mem_cons.1 ha with e | ha
     ·rw [e]; exact Nat.zero_lt_one
     ·exact a2 a ha
    ·obtain ⟨b1,b2⟩:=clean_ren (θ:=thL [K] key th) (g:=newG 1 σ th) (B:=newB 1 σ) 3 val h2
     exact ⟨b1.symm,b2⟩
   ·cases hc
  ·cases hc
 ·cases hc
section
variable {sz sz2 K N C:Nat} {tp ty:TypeId} {m:Mem} {rest:List AV} {get get':Nat → List AV} {ob:List Prop} {val:AV} {fam famC:Fam} {cs cs':List AV}
def mcTf (K N sz:Nat) (tp ty:TypeId) (fam:Fam):Option (List Prop × AV × (Nat → List AV)) → Option Eff
 | some (ob,val,get') => some ⟨tabOK K N sz tp ty fam :: ob,val,.many [(K,famT K N sz tp ty get')] none⟩
 | none => none
def mcTe (sz:Nat) (tp ty:TypeId) (F:Nat → (Nat → List AV) → List AV → Option (List Prop × AV × (Nat → List AV))) (K N:Nat) (rest:List AV):Option Fam → Option Eff
 | some fam => mcTf K N sz tp ty fam (F N (fun i => (fam (i + 1)).get 0) rest)
 | none => none
theorem mcT_eq {F:Nat → (Nat → List AV) → List AV → Option (List Prop × AV × (Nat → List AV))}:Ax.mcT sz tp ty F key m (.own K 0 N 1 :: rest) = mcTe sz tp ty F K N rest (look m K):=by
 show (match look m K with
  | some fam => (match F N (fun i => (fam (i + 1)).get 0) rest with
   | some (ob,val,get') => some (⟨tabOK K N sz tp ty fam :: ob,val,.many [(K,famT K N sz tp ty get')] none⟩:Eff)
   | none => none)
  | none => none) = _
 unfold mcTe
 cases look m K with
 | none => rfl
 | some fam =>
  dsimp only
  unfold mcTf
  cases F N (fun i => (fam (i + 1)).get 0) rest <;> rfl
theorem mcTe_T {F:Nat → (Nat → List AV) → List AV → Option (List Prop × AV × (Nat → List AV))}:mcTe sz tp ty F K N rest (some (famT K N sz tp ty get)) = mcTf K N sz tp ty (famT K N sz tp ty get) (F N get rest):=(rfl)
theorem mcTf_some:mcTf K N sz tp ty fam (some (ob,val,get')) = some ⟨tabOK K N sz tp ty fam :: ob,val,.many [(K,famT K N sz tp ty get')] none⟩:=(rfl)
def mcQf (K N C sz sz2:Nat) (tp ty:TypeId) (fam famC:Fam):Option (List Prop × AV × (Nat → List AV) × List AV) → Option Eff
 | some (ob,val,get',cs') => some ⟨(K ≠ C) :: ((famC 0).n = 1) :: (sz2 = (famC 0).sz) :: (cleanCs ((famC 0).get 0) = true) :: famCl famC :: tabOK K N sz tp ty fam :: ob,val,.many [(K,famT K N sz tp ty get'),(C,wb1 famC cs')] none⟩
 | none => none
def mcQe (sz sz2:Nat) (tp ty:TypeId) (F:Nat → (Nat → List AV) → List AV → List AV → Option (List Prop × AV × (Nat → List AV) × List AV)) (K N C:Nat) (rest:List AV):Option Fam → Option Fam → Option Eff
 | some fam,some famC => mcQf K N C sz sz2 tp ty fam famC (F N (fun i => (fam (i + 1)).get 0) ((famC 0).get 0) rest)
 | _,_ => none
theorem mcTQ_bx {F:Nat → (Nat → List AV) → List AV → List AV → Option (List Prop × AV × (Nat → List AV) × List AV)}:Ax.mcTQ sz sz2 tp ty F key m (.own K 0 N 1 :: .bx C 0 :: rest) = mcQe sz sz2 tp ty F K N C rest (look m K) (look m C):=by
 show (match look m K with
  | some fam => (match look m C with
   | some famC => (match F N (fun i => (fam (i + 1)).get 0) ((famC 0).get 0) rest with
    | some (ob,val,get',cs') => some (⟨(K ≠ C) :: ((famC 0).n = 1) :: (sz2 = (famC 0).sz) :: (cleanCs ((famC 0).get 0) = true) :: famCl famC :: tabOK K N sz tp ty fam :: ob,val,.many [(K,famT K N sz tp ty get'),(C,wb1 famC cs')] none⟩:Eff)
    | none => none)
   | none => none)
  | none => none) = _
 unfold mcQe
 cases look m K with
 | none => rfl
 | some fam =>
  dsimp only
  cases look m C with
  | none => rfl
  | some famC =>
   dsimp only
   unfold mcQf
   cases F N (fun i => (fam (i + 1)).get 0) ((famC 0).get 0) rest <;> rfl
theorem mcQe_T {F:Nat → (Nat → List AV) → List AV → List AV → Option (List Prop × AV × (Nat → List AV) × List AV)}:mcQe sz sz2 tp ty F K N C rest (some (famT K N sz tp ty get)) (some famC) = mcQf K N C sz sz2 tp ty (famT K N sz tp ty get) famC (F N get ((famC 0).get 0) rest):=(rfl)
theorem mcQf_some:mcQf K N C sz sz2 tp ty fam famC (some (ob,val,get',cs')) = some ⟨(K ≠ C) :: ((famC 0).n = 1) :: (sz2 = (famC 0).sz) :: (cleanCs ((famC 0).get 0) = true) :: famCl famC :: tabOK K N sz tp ty fam :: ob,val,.many [(K,famT K N sz tp ty get'),(C,wb1 famC cs')] none⟩:=(rfl)
def mcRf (K N C f i s2 sz sz2:Nat) (tp ty:TypeId) (fam famC:Fam):Option (List Prop × AV × (Nat → List AV) × List AV) → Option Eff
 | some (ob,val,get',cs') => some ⟨(K ≠ C) :: (s2 = sz2) :: (i < (famC f).n) :: (sz2 = (famC f).sz) :: (cleanCs ((famC f).get i) = true) :: famCl famC :: tabOK K N sz tp ty fam :: ob,val,.many [(K,famT K N sz tp ty get'),(C,famE famC f i cs')] none⟩
 | none => none
def mcRe (sz sz2:Nat) (tp ty:TypeId) (F:Nat → (Nat → List AV) → List AV → List AV → Option (List Prop × AV × (Nat → List AV) × List AV)) (K N C f i s2:Nat) (rest:List AV):Option Fam → Option Fam → Option Eff
 | some fam,some famC => mcRf K N C f i s2 sz sz2 tp ty fam famC (F N (fun i => (fam (i + 1)).get 0) ((famC f).get i) rest)
 | _,_ => none
theorem mcTQ_ptr {F:Nat → (Nat → List AV) → List AV → List AV → Option (List Prop × AV × (Nat → List AV) × List AV)} {f i s2:Nat}:Ax.mcTQ sz sz2 tp ty F key m (.own K 0 N 1 :: .ptr C f i s2 0 :: rest) = mcRe sz sz2 tp ty F K N C f i s2 rest (look m K) (look m C):=by
 show (match look m K with
  | some fam => (match look m C with
   | some famC => (match F N (fun i => (fam (i + 1)).get 0) ((famC f).get i) rest with
    | some (ob,val,get',cs') => some (⟨(K ≠ C) :: (s2 = sz2) :: (i < (famC f).n) :: (sz2 = (famC f).sz) :: (cleanCs ((famC f).get i) = true) :: famCl famC :: tabOK K N sz tp ty fam :: ob,val,.many [(K,famT K N sz tp ty get'),(C,famE famC f i cs')] none⟩:Eff)
    | none => none)
   | none => none)
  | none => none) = _
 unfold mcRe
 cases look m K with
 | none => rfl
 | some fam =>
  dsimp only
  cases look m C with
  | none => rfl
  | some famC =>
   dsimp only
   unfold mcRf
   cases F N (fun i => (fam (i + 1)).get 0) ((famC f).get i) rest <;> rfl
theorem mcRe_T {F:Nat → (Nat → List AV) → List AV → List AV → Option (List Prop × AV × (Nat → List AV) × List AV)} {f i s2:Nat}:mcRe sz sz2 tp ty F K N C f i s2 rest (some (famT K N sz tp ty get)) (some famC) = mcRf K N C f i s2 sz sz2 tp ty (famT K N sz tp ty get) famC (F N get ((famC f).get i) rest):=(rfl)
theorem mcRf_some {f i s2:Nat}:mcRf K N C f i s2 sz sz2 tp ty fam famC (some (ob,val,get',cs')) = some ⟨(K ≠ C) :: (s2 = sz2) :: (i < (famC f).n) :: (sz2 = (famC f).sz) :: (cleanCs ((famC f).get i) = true) :: famCl famC :: tabOK K N sz tp ty fam :: ob,val,.many [(K,famT K N sz tp ty get'),(C,famE famC f i cs')] none⟩:=(rfl)
def mcPf (r r' f i s1 f' i' s2 sz:Nat) (fam:Fam):Option (List Prop × AV × List AV × List AV) → Option Eff
 | some (ob,val,cs,cs') => some ⟨(r' = r) :: (f ≠ f') :: (i < (fam f).n) :: (i' < (fam f').n) :: (s1 = sz) :: (s2 = sz) :: (sz = (fam f).sz) :: (sz = (fam f').sz) :: (cleanCs ((fam f).get i) = true) :: (cleanCs ((fam f').get i') = true) :: famOK r fam :: ob,val,.many [(r,famE (famE fam f i cs) f' i' cs')] none⟩
 | none => none
def mcPe (sz:Nat) (F:List AV → List AV → List AV → Option (List Prop × AV × List AV × List AV)) (r r' f i s1 f' i' s2:Nat) (rest:List AV):Option Fam → Option Eff
 | some fam => mcPf r r' f i s1 f' i' s2 sz fam (F ((fam f).get i) ((fam f').get i') rest)
 | none => none
theorem mcPP_eq {F:List AV → List AV → List AV → Option (List Prop × AV × List AV × List AV)} {r r' f i s1 f' i' s2:Nat}:Ax.mcPP sz F key m (.ptr r f i s1 0 :: .ptr r' f' i' s2 0 :: rest) = mcPe sz F r r' f i s1 f' i' s2 rest (look m r):=by
 show (match look m r with
  | some fam => (match F ((fam f).get i) ((fam f').get i') rest with
   | some (ob,val,cs,cs') => some (⟨(r' = r) :: (f ≠ f') :: (i < (fam f).n) :: (i' < (fam f').n) :: (s1 = sz) :: (s2 = sz) :: (sz = (fam f).sz) :: (sz = (fam f').sz) :: (cleanCs ((fam f).get i) = true) :: (cleanCs ((fam f').get i') = true) :: famOK r fam :: ob,val,.many [(r,famE (famE fam f i cs) f' i' cs')] none⟩:Eff)
   | none => none)
  | none => none) = _
 unfold mcPe
 cases look m r with
 | none => rfl
 | some fam =>
  dsimp only
  unfold mcPf
  cases F ((fam f).get i) ((fam f').get i') rest <;> rfl
theorem mcPe_some {F:List AV → List AV → List AV → Option (List Prop × AV × List AV × List AV)} {r r' f i s1 f' i' s2:Nat}:mcPe sz F r r' f i s1 f' i' s2 rest (some fam) = mcPf r r' f i s1 f' i' s2 sz fam (F ((fam f).get i) ((fam f').get i') rest):=(rfl)
theorem mcPf_some {r r' f i s1 f' i' s2:Nat}:mcPf r r' f i s1 f' i' s2 sz fam (some (ob,val,cs,cs')) = some ⟨(r' = r) :: (f ≠ f') :: (i < (fam f).n) :: (i' < (fam f').n) :: (s1 = sz) :: (s2 = sz) :: (sz = (fam f).sz) :: (sz = (fam f').sz) :: (cleanCs ((fam f).get i) = true) :: (cleanCs ((fam f').get i') = true) :: famOK r fam :: ob,val,.many [(r,famE (famE fam f i cs) f' i' cs')] none⟩:=(rfl)
def mcSf (r N s sz:Nat) (ty:TypeId) (fam:Fam):Option (List Prop × AV × (Nat → List AV)) → Option Eff
 | some (ob,val,get') => some ⟨(s = sz) :: (fam = famN N sz ty (fam 0).get none) :: (∀ i,i < N → cleanCs ((fam 0).get i) = true) :: ob,val,.many [(r,famN N sz ty get' none)] none⟩
 | none => none
def mcSe (sz:Nat) (ty:TypeId) (F:Nat → (Nat → List AV) → List AV → Option (List Prop × AV × (Nat → List AV))) (r N s:Nat) (rest:List AV):Option Fam → Option Eff
 | some fam => mcSf r N s sz ty fam (F N (fam 0).get rest)
 | none => none
theorem mcS_eq {F:Nat → (Nat → List AV) → List AV → Option (List Prop × AV × (Nat → List AV))} {r s:Nat}:Ax.mcS sz ty F key m (.own r 0 N s :: rest) = mcSe sz ty F r N s rest (look m r):=by
 show (match look m r with
  | some fam => (match F N (fam 0).get rest with
   | some (ob,val,get') => some (⟨(s = sz) :: (fam = famN N sz ty (fam 0).get none) :: (∀ i,i < N → cleanCs ((fam 0).get i) = true) :: ob,val,.many [(r,famN N sz ty get' none)] none⟩:Eff)
   | none => none)
  | none => none) = _
 unfold mcSe
 cases look m r with
 | none => rfl
 | some fam =>
  dsimp only
  unfold mcSf
  cases F N (fam 0).get rest <;> rfl
theorem mcSe_some {F:Nat → (Nat → List AV) → List AV → Option (List Prop × AV × (Nat → List AV))} {r s:Nat}:mcSe sz ty F r N s rest (some (famN N sz ty get none)) = mcSf r N s sz ty (famN N sz ty get none) (F N get rest):=(rfl)
theorem mcSf_some {r s:Nat}:mcSf r N s sz ty (famN N sz ty get none) (some (ob,val,get')) = some ⟨(s = sz) :: (famN N sz ty get none = famN N sz ty get none) :: (∀ i,i < N → cleanCs (get i) = true) :: ob,val,.many [(r,famN N sz ty get' none)] none⟩:=(rfl)
def mc2e (K N sz:Nat) (tp ty:TypeId) (a b:Int):Option Fam → Option Eff
 | some fam => some ⟨[tabOK K N sz tp ty fam,N ≤ 1000],if 0 ≤ a ∧ a < N ∧ 0 ≤ b ∧ b < N ∧ a ≠ b then .tup [.ptr K (a.toNat + 1) 0 sz 0,.ptr K (b.toNat + 1) 0 sz 0,.v (.bool true)] else .tup [.v (.pointer none),.v (.pointer none),.v (.bool false)],.many [(K,fam)] none⟩
 | none => none
theorem mc2P_eq {a b:Int}:Ax.mc2P sz tp ty key m [.own K 0 N 1,.v (.int .i64 a),.v (.int .i64 b)] = mc2e K N sz tp ty a b (look m K):=by
 show (match look m K with
  | some fam => some (⟨[tabOK K N sz tp ty fam,N ≤ 1000],if 0 ≤ a ∧ a < N ∧ 0 ≤ b ∧ b < N ∧ a ≠ b then .tup [.ptr K (a.toNat + 1) 0 sz 0,.ptr K (b.toNat + 1) 0 sz 0,.v (.bool true)] else .tup [.v (.pointer none),.v (.pointer none),.v (.bool false)],.many [(K,fam)] none⟩:Eff)
  | none => none) = _
 unfold mc2e
 cases look m K <;> rfl
theorem mc2e_some {a b:Int}:mc2e K N sz tp ty a b (some fam) = some ⟨[tabOK K N sz tp ty fam,N ≤ 1000],if 0 ≤ a ∧ a < N ∧ 0 ≤ b ∧ b < N ∧ a ≠ b then .tup [.ptr K (a.toNat + 1) 0 sz 0,.ptr K (b.toNat + 1) 0 sz 0,.v (.bool true)] else .tup [.v (.pointer none),.v (.pointer none),.v (.bool false)],.many [(K,fam)] none⟩:=(rfl)
theorem famCl_1t (h:cleanCs cs = true):famCl (fam1 ty sz cs none) = True:=eq_true (famCl_1 h)
theorem famCl_Nt {n:Nat} (h:∀ i,i < n → cleanCs (get i) = true):famCl (famN n sz ty get none) = True:=eq_true (famCl_N h)
end
attribute [go_sem] mcT_eq mcTe_T mcTf_some mcTQ_bx mcTQ_ptr mcQe_T mcQf_some mcRe_T mcRf_some mcPP_eq mcPe_some mcPf_some mcS_eq mcSe_some mcSf_some mc2P_eq mc2e_some famCl_1t famCl_Nt
end
end Go.Ax
end
section
set_option maxHeartbeats 4000000
set_option maxRecDepth 100000
namespace Go.Ax
open Go.Proofs
section
variable {P:Program} {G:Ctx} {H:Hots} {K0:AEx → St → Prop} {hot:Option Hot} {ops:Array Oper} {d:Option Tmp} {rest:List Oper} {i k:Nat} {st:List Fr} {t:Slots} {m:Mem} {nx:Nat} {o:List Prop} {u:Upd} {b:Bd} {c:Bool}
theorem ofC_body:ofC (some (true,27)) (bodyC b) = some (.agg (bodyC b)):=(rfl)
theorem cells_body:cellsOf (.agg (bodyC b)) = some (bodyC b):=(rfl)
theorem drop_body:(bodyC b).drop 27 = []:=(rfl)
theorem drop5_body:(bodyC b).drop 5 = [i64 b.pl.1.1,bo b.pl.1.2,i64 b.pl.2.1,bo b.pl.2.2,i64 b.rot.1.1,bo b.rot.1.2,i64 b.rot.2.1,bo b.rot.2.2,i64 b.v.1.1,bo b.v.1.2,i64 b.v.2.1,bo b.v.2.2,i64 b.w.1,bo b.w.2,i64 b.m.1,bo b.m.2,i64 b.i.1,bo b.i.2,i64 b.st,bo b.sl,bo b.fa,i64 b.ve]:=(rfl)
theorem drop19_body:(bodyC b).drop 19 = [i64 b.m.1,bo b.m.2,i64 b.i.1,bo b.i.2,i64 b.st,bo b.sl,bo b.fa,i64 b.ve]:=(rfl)
theorem drop21_body:(bodyC b).drop 21 = [i64 b.i.1,bo b.i.2,i64 b.st,bo b.sl,bo b.fa,i64 b.ve]:=(rfl)
theorem take_body:(bodyC b).take 27 = bodyC b:=(rfl)
theorem cleanCs_body:cleanCs (bodyC b) = true:=(rfl)
theorem allCells_body:allCells (bodyC b) = true:=(rfl)
theorem purUL_body:purUL 2 m (bodyC b) = bodyC b:=(rfl)
theorem pgsL_body:pgsL 2 m (bodyC b) = []:=(rfl)
theorem purL_body:(bodyC b).map (pur 2 m) = bodyC b:=(rfl)
theorem cleanL_body:cleanL 2 (bodyC b) = true:=(rfl)
theorem purLd_body {d:Nat}:purL d m (bodyC b) = bodyC b:=by cases d <;> rfl
theorem bindL_body:bindL P G H K0 hot ops d rest i st t m nx o u false [] (bodyC b) = bindC P G H K0 hot ops d rest i st t m nx o u (.agg (bodyC b)):=by
 unfold bindL; simp
end
attribute [go_sem] purLd_body drop5_body drop19_body drop21_body cleanL_body ofC_body cells_body drop_body take_body cleanCs_body allCells_body purUL_body pgsL_body purL_body bindL_body len_body clean_body bodyD_C
theorem tmpE_ptr {r f i sz k:Nat}:tmpE (.ptr r f i sz k) = some ⟨[],.ptr r f i sz k,.none⟩:=(rfl)
attribute [go_sem] tmpE_ptr
theorem iHft {b:Bd} {x n:V2}:inR (hftS b x n).1 = True:=iAdd
theorem iSpd1 {b:Bd} {x:V2}:inR (spdS b x).1.1 = True:=iVAdd1
theorem iSpd2 {b:Bd} {x:V2}:inR (spdS b x).2.1 = True:=iVAdd2
attribute [go_sem] iHft iSpd1 iSpd2
def bsC (B:Nat → Bd):Nat → List AV:=fun i => bodyC (B i)
def bsD (g:Nat → List AV):Nat → Bd:=fun i => bodyD (g i)
theorem bsD_C {B:Nat → Bd}:bsD (bsC B) = B:=rfl
theorem bsC_at {B:Nat → Bd} {i:Nat}:bsC B i = bodyC (B i):=(rfl)
def inBs (N:Nat) (B:Nat → Bd):Prop:=∀ i,i < N → inB (B i) ∧ (B i).n ≤ 1000
def cL (F:Nat → (Nat → Bd) → List AV → Option (List Prop × AV)):Con
 | .ro N 27 g :: rest => match F N (bsD g) rest with
  | some (ob,r) => some ((g = bsC (bsD g)) :: ob,r)
  | none => none
 | _ => none
theorem cL_eq {F:Nat → (Nat → Bd) → List AV → Option (List Prop × AV)} {N:Nat} {g:Nat → List AV} {rest:List AV}:cL F (.ro N 27 g :: rest) = (match F N (bsD g) rest with
  | some (ob,r) => some ((g = bsC (bsD g)) :: ob,r)
  | none => none):=(rfl)
theorem ConOK.cL {P:Program} {G:Ctx} {H:Hots} (hG:CtxOK P G) {f:FuncId} {fn:Func} (hf:P.funcs[f]? = some fn) {F:Nat → (Nat → Bd) → List AV → Option (List Prop × AV)}
  (h:∀ N B rest ob r,F N B rest = some (ob,r) → (∀ p ∈ ob,p) → funcOK P H fn (rest.length + 1) = true ∧ fnVC P G H fn (.ro N 27 (bsC B) :: rest) (· = r)):ConOK P f (Ax.cL F):=ConOK.of hG hf fun l ob r hc hob => by
 unfold Ax.cL at hc
 split at hc
 ·rename_i N g rest
  split at hc
  ·rename_i ob' r' hF
   cases hc
   have e:g = bsC (bsD g):=hob _ (by simp)
   obtain ⟨h1,h2⟩:=h _ _ _ _ _ hF fun p hp => hob p (by simp [hp])
   rw [← e] at h2
   exact ⟨h1,h2⟩
  ·cases hc
 ·cases hc
theorem fitL_clean {N M:Nat} {σ:Names}:∀ {l:List AV},cleanCs l = true → fitL N M σ l l
 | [],_ => trivial
 | a :: l,h => by
  simp only [cleanCs,Bool.and_eq_true] at h
  refine ⟨?_,fitL_clean h.2⟩
  have h1:=h.1
  cases a <;> first | exact ⟨rfl,trivial⟩ | trivial | simp [cleanC] at h1
attribute [go_sem] bsC_at bsD_C
def kBs:Con:=cL fun N B rest => match rest with
 | [] => some ([N ≤ 1000,inBs N B],.ro N 27 (bsC B))
 | _ => none
theorem byt37:bytesT Try.prog 37 = 224:=by kernel_rfl
theorem con6:ConOK Try.prog 6 kBs:=ConOK.cL (G:=[(18,kb18)]) (H:=[]) (.cons konb18 .nil) Try.func6 fun N B rest ob r hc hob => by
 split at hc
 ·cases hc
  have hN:N ≤ 1000:=hob _ (by simp)
  have hB:inBs N B:=hob _ (by simp)
  clear hob
  refine ⟨by kernel_rfl,fnVC_go (rs:=[.tmp 2]) rfl rfl ?_⟩
  simp only [go_sem,kb18]
  refine loopN_go (fun (i:Nat) => i ≤ N) (fun i => N - i) (fun i => [(4,i64 (i:Int)),(3,.own 3 0 i 27)]) (fun i => [(3,famN i 27 37 (bsC B) none)]) [] [5,6,7,8,11,12,13,14,15,16,17,18,3,9,10,4] 1 0 (by kernel_rfl) (Nat.zero_le _) ⟨[(3,none)],?_,?_,?_,?_⟩ ?_
  ·simp only [go_sem]
  ·simp only [go_sem]
  ·simp only [go_sem]
  ·simp [goodNames,asg]
  intro i hi
  by_cases hiN:i < N
  ·obtain ⟨i1,i2⟩:=hB i hiN
   simp only [go_sem,kb18,cB_eq,i1,i2,byt37,forall_eq]
   refine ⟨fun h => ⟨by omega,h,by omega,by omega,i + 1,by omega,by omega,[(3,some 15)],?_⟩,fun h => absurd hiN (by omega)⟩
   simp only [go_sem]
   refine ⟨by rw [wrap_in (by unfold inR; omega)]; rfl,fun j hj => ?_,by simp [goodNames,asg]⟩
   by_cases e:j < i
   ·rw [if_pos e]; exact fitL_clean rfl
   ·have e:j = i:=by omega
    subst e
    rw [if_neg (by omega),Nat.sub_self]
    exact fitL_clean rfl
  ·simp only [go_sem,kb18,cB_eq,byt37,forall_eq]
   refine ⟨fun h => absurd h (by omega),fun _ => ?_⟩
   have e:i = N:=by omega
   subst e
   rfl
 ·cases hc
def ptsQ (n:Nat) (X Y:Nat → Int) (m:Nat) (U V:Nat → Int):Bool:=decide (n = m ∧ ∀ j,j < n → X j = U j ∧ Y j = V j)
theorem ptsQ_t {n:Nat} {X Y:Nat → Int} {m:Nat} {U V:Nat → Int} (h:n = m ∧ ∀ j,j < n → X j = U j ∧ Y j = V j):ptsQ n X Y m U V = true:=decide_eq_true h
theorem ptsQ_f {n:Nat} {X Y:Nat → Int} {m:Nat} {U V:Nat → Int} (h:¬ (n = m ∧ ∀ j,j < n → X j = U j ∧ Y j = V j)):ptsQ n X Y m U V = false:=decide_eq_false h
theorem vc41 (n m:Nat) (X Y U V:Nat → Int) (hn:n ≤ 1000):fnVC Try.prog [] [] Try.f41 [.ro n 2 fun i => [i64 (X i),i64 (Y i)],.ro m 2 fun i => [i64 (U i),i64 (V i)]] (· = bo (ptsQ n X Y m U V)):=by
 refine fnVC_go (rs:=[.tmp 4]) rfl rfl ?_
 simp only [go_sem]
 refine ⟨fun h => ?_,fun h => ?_⟩
 ·have hh:¬ n = m:=fun e => by subst e; simp at h
  rw [ptsQ_f fun e => hh e.1]
 have hnm:n = m:=by
  have:((n:Int) == m) = true:=by simpa using h
  have:=eq_of_beq this
  omega
 refine loopC_go (fun (i:Nat) => i ≤ n ∧ ∀ j,j < i → X j = U j ∧ Y j = V j) (fun i => n - i) (fun i => [(13,i64 (i:Int))]) (fun _ => []) [] [14,15,5,16,17,18,19,20,21,22,23,24,4,25,13] 0 (by kernel_rfl) ?_ ⟨Nat.zero_le _,fun j hj => absurd hj (by omega)⟩ ?_ ?_
 ·intro x _; simp [goodNames,asg]
 ·simp only [go_sem]
 intro i hi
 simp only [go_sem,forall_eq]
 refine ⟨fun h1 => ⟨by omega,h1,by omega,by omega,fun h2 => ?_,fun h2 => ⟨i + 1,⟨by omega,fun j hj => ?_⟩,by omega,by rw [wrap_in (by unfold inR; omega)]; rfl⟩⟩,fun h1 => ?_⟩
 ·rw [ptsQ_f fun e => ?_]
  have:=e.2 i (by omega)
  rw [this.1,this.2] at h2
  simp at h2
 ·by_cases q:j = i
  ·subst q; simpa using h2
  ·exact hi.2 j (by omega)
 ·have e:i = n:=by omega
  subst e
  rw [ptsQ_t ⟨hnm,hi.2⟩]
def kEq:Con
 | [.ro n 2 g,.ro m 2 h] => some ([spots n g,spots m h,n ≤ 1000],bo (ptsQ n (gx g 0) (gx g 1) m (gx h 0) (gx h 1)))
 | _ => none
theorem con41:ConOK Try.prog 41 kEq:=ConOK.go (G:=[]) (H:=[]) .nil Try.func41 fun l ob rr hc hob => by
 unfold kEq at hc
 split at hc
 ·rename_i n g m k
  cases hc
  have hs:spots n g:=hob _ (by simp)
  have hk:spots m k:=hob _ (by simp)
  have hn:n ≤ 1000:=hob _ (by simp)
  exact ⟨[.ro n 2 fun i => [i64 (gx g 0 i),i64 (gx g 1 i)],.ro m 2 fun i => [i64 (gx k 0 i),i64 (gx k 1 i)]],fun w I vs h => Rs_two (fun v hv => ro_alike (fun i hi => (hs i hi).1) hv) (fun v hv => ro_alike (fun i hi => (hk i hi).1) hv) h,by kernel_rfl,vc41 n m _ _ _ _ hn⟩
 ·cases hc
theorem aEq78w {a0 b0:Int} {a1 b1:Int} {a2 b2:Int} {a3 b3:Int}:aEq Try.prog 78 (.agg [i64 a0,i64 a1,i64 a2,i64 a3]) (.agg [i64 b0,i64 b1,i64 b2,i64 b3]) = some ((a0 == b0) && ((a1 == b1) && ((a2 == b2) && ((a3 == b3) && true)))):=by kernel_rfl
theorem eq78w {xo yo:Operand} {neg:Bool} {a0 b0:Int} {a1 b1:Int} {a2 b2:Int} {a3 b3:Int}:eqE Try.prog neg 78 xo yo (.agg [i64 a0,i64 a1,i64 a2,i64 a3]) (.agg [i64 b0,i64 b1,i64 b2,i64 b3]) = some ⟨[],.v (.bool (negV neg ((a0 == b0) && ((a1 == b1) && ((a2 == b2) && ((a3 == b3) && true)))))),.none⟩:=eqE_agg aEq78w
attribute [go_sem] eq78w
def shQ (k r w t k' r' w' t':Int) (p:Bool):Bool:=decide (k = k' ∧ r = r' ∧ w = w' ∧ t = t') && p
theorem shQ_eq {k r w t k' r' w' t':Int} {p:Bool}:shQ k r w t k' r' w' t' p = (k == k' && (r == r' && (w == w' && t == t')) && p):=by
 unfold shQ
 rw [Bool.eq_iff_iff]
 simp
theorem vc26 (k r w t k' r' w' t':Int) (n m:Nat) (X Y U V:Nat → Int) (hX:∀ i,i < n → inR (X i) ∧ inR (Y i)) (hU:∀ i,i < m → inR (U i) ∧ inR (V i)) (hn:n ≤ 1000):fnVC Try.prog [(41,kEq)] [] Try.f26 [shapeA k r w t n fun i => [i64 (X i),i64 (Y i)],shapeA k' r' w' t' m fun i => [i64 (U i),i64 (V i)]] (· = bo (shQ k r w t k' r' w' t' (ptsQ n X Y m U V))):=by
 refine fnVC_go (rs:=[.tmp 4]) rfl rfl ?_
 have hg:spots n fun i => [i64 (X i),i64 (Y i)]:=fun i hi => ⟨rfl,hX i hi⟩
 have hh:spots m fun i => [i64 (U i),i64 (V i)]:=fun i hi => ⟨rfl,hU i hi⟩
 simp only [go_sem,kEq,kEq,hg,hh,hn,gx_pts0,gx_pts1]
 rintro z rfl
 exact ⟨fun _ => trivial,fun _ => trivial,fun _ => trivial,(shQ_eq).symm⟩
theorem vc27g (k r w t k' r' w' t':Int) (n m:Nat) (X Y U V:Nat → Int) (hX:∀ i,i < n → inR (X i) ∧ inR (Y i)) (hU:∀ i,i < m → inR (U i) ∧ inR (V i)) (hn:n ≤ 1000):fnVC Try.prog [] [] Try.f27 [shapeA k r w t n fun i => [i64 (X i),i64 (Y i)],shapeA k' r' w' t' m fun i => [i64 (U i),i64 (V i)]] (· = bo (shQ k r w t k' r' w' t' (ptsQ n X Y m U V))):=by
 refine fnVC_go (rs:=[.tmp 4]) rfl rfl ?_
 simp only [go_sem]
 refine ⟨fun h => ?_,fun h => ?_⟩
 ·rw [shQ_eq]
  simp only [bne_iff_ne,ne_eq] at h
  rcases h with (((h | h) | h) | h) | h
  ·rw [beq_false_of_ne h]; rfl
  ·rw [beq_false_of_ne h]; simp
  ·rw [beq_false_of_ne h]; simp
  ·rw [beq_false_of_ne h]; simp
  ·rw [ptsQ_f fun e => h (congrArg _ e.1)]; simp
 have hnm:n = m:=by
  have:=h.2
  simp at this
  omega
 have hkk:k = k' ∧ r = r' ∧ w = w' ∧ t = t':=by
  have:=h.1
  simp at this
  omega
 obtain ⟨rfl,rfl,rfl,rfl⟩:=hkk
 clear h
 have hp:∀ p,shQ k r w t k r w t p = p:=fun p => by rw [shQ_eq]; simp
 rw [hp]
 refine loopC_go (fun (i:Nat) => i ≤ n ∧ ∀ j,j < i → X j = U j ∧ Y j = V j) (fun i => n - i) (fun i => [(5,i64 (i:Int))]) (fun _ => []) [1,0] [41,42,43,44,45,48,49,50,51,52,53,54,55,56,57,58,4,46,47,5] 0 (by kernel_rfl) ?_ ⟨Nat.zero_le _,fun j hj => absurd hj (by omega)⟩ ?_ ?_
 ·intro x _; simp [goodNames,asg]
 ·simp only [go_sem]
 intro i hi
 simp only [go_sem,forall_eq]
 refine ⟨fun h1 => ⟨by omega,h1,by omega,by omega,fun h2 => ?_,fun h2 => ⟨i + 1,⟨by omega,fun j hj => ?_⟩,by omega,by rw [wrap_in (by unfold inR; omega)]; rfl⟩⟩,fun h1 => ?_⟩
 ·rw [ptsQ_f fun e => ?_]
  have:=e.2 i (by omega)
  rw [this.1,this.2] at h2
  simp at h2
 ·by_cases q:j = i
  ·subst q; simpa using h2
  ·exact hi.2 j (by omega)
 ·have e:i = n:=by omega
  subst e
  rw [ptsQ_t ⟨hnm,hi.2⟩]
def kShE:Con
 | [.agg [.v (.int .i64 k),.v (.int .i64 r),.v (.int .i64 w),.v (.int .i64 t),.ro n 2 g],.agg [.v (.int .i64 k'),.v (.int .i64 r'),.v (.int .i64 w'),.v (.int .i64 t'),.ro m 2 h]] => some ([spots n g,spots m h,n ≤ 1000],bo (shQ k r w t k' r' w' t' (ptsQ n (gx g 0) (gx g 1) m (gx h 0) (gx h 1))))
 | _ => none
theorem con26:ConOK Try.prog 26 kShE:=ConOK.go (G:=[(41,kEq)]) (H:=[]) (.cons con41 .nil) Try.func26 fun l ob rr hc hob => by
 unfold kShE at hc
 split at hc
 ·rename_i k r w t n g k' r' w' t' m h
  cases hc
  have hs:spots n g:=hob _ (by simp)
  have hk:spots m h:=hob _ (by simp)
  have hn:n ≤ 1000:=hob _ (by simp)
  exact ⟨[shapeA k r w t n fun i => [i64 (gx g 0 i),i64 (gx g 1 i)],shapeA k' r' w' t' m fun i => [i64 (gx h 0 i),i64 (gx h 1 i)]],fun w I vs h => Rs_two (Rs_shape hs) (Rs_shape hk) h,by kernel_rfl,vc26 k r w t k' r' w' t' n m _ _ _ _ (fun i hi => (hs i hi).2) (fun i hi => (hk i hi).2) hn⟩
 ·cases hc
theorem con27:ConOK Try.prog 27 kShE:=ConOK.go (G:=[]) (H:=[]) .nil Try.func27 fun l ob rr hc hob => by
 unfold kShE at hc
 split at hc
 ·rename_i k r w t n g k' r' w' t' m h
  cases hc
  have hs:spots n g:=hob _ (by simp)
  have hk:spots m h:=hob _ (by simp)
  have hn:n ≤ 1000:=hob _ (by simp)
  exact ⟨[shapeA k r w t n fun i => [i64 (gx g 0 i),i64 (gx g 1 i)],shapeA k' r' w' t' m fun i => [i64 (gx h 0 i),i64 (gx h 1 i)]],fun w I vs h => Rs_two (Rs_shape hs) (Rs_shape hk) h,by kernel_rfl,vc27g k r w t k' r' w' t' n m _ _ _ _ (fun i hi => (hs i hi).2) (fun i hi => (hk i hi).2) hn⟩
 ·cases hc
def samS (a b:Bd):Bool:=shQ a.k a.r a.wd a.ht b.k b.r b.wd b.ht (ptsQ a.n a.X a.Y b.n b.X b.Y) && decide (a.pl = b.pl ∧ a.rot = b.rot ∧ a.v = b.v ∧ a.w = b.w ∧ a.m = b.m ∧ a.i = b.i ∧ a.st = b.st ∧ a.sl = b.sl ∧ a.fa = b.fa ∧ a.ve = b.ve)
theorem sam_eq {b c:Bd}:(b.pl.1.1 == c.pl.1.1 && b.pl.1.2 == c.pl.1.2 && (b.pl.2.1 == c.pl.2.1 && b.pl.2.2 == c.pl.2.2) && (b.rot.1.1 == c.rot.1.1 && b.rot.1.2 == c.rot.1.2 && (b.rot.2.1 == c.rot.2.1 && b.rot.2.2 == c.rot.2.2)) && (b.v.1.1 == c.v.1.1 && b.v.1.2 == c.v.1.2 && (b.v.2.1 == c.v.2.1 && b.v.2.2 == c.v.2.2)) && (b.w.1 == c.w.1 && b.w.2 == c.w.2) && (b.m.1 == c.m.1 && b.m.2 == c.m.2 && (b.i.1 == c.i.1 && b.i.2 == c.i.2)) && b.st == c.st && b.sl == c.sl && b.fa == c.fa && b.ve == c.ve) =
  decide (b.pl = c.pl ∧ b.rot = c.rot ∧ b.v = c.v ∧ b.w = c.w ∧ b.m = c.m ∧ b.i = c.i ∧ b.st = c.st ∧ b.sl = c.sl ∧ b.fa = c.fa ∧ b.ve = c.ve):=by
 rw [Bool.eq_iff_iff]
 simp [Prod.ext_iff,and_assoc]
def kSam:Con:=cB fun b rest => match rest with
 | [.agg l] => some ([inB b,b.n ≤ 1000,l = bodyC (bodyD l),inB (bodyD l)],bo (samS b (bodyD l)))
 | _ => none
theorem con10:ConOK Try.prog 10 kSam:=ConOK.cB (G:=[(26,kShE)]) (H:=[]) (.cons con26 .nil) Try.func10 fun b rest ob r hc hob => by
 split at hc
 ·rename_i l
  cases hc
  have h_0:inB b:=hob _ (by simp)
  have h_1:b.n ≤ 1000:=hob _ (by simp)
  have h_2:l = bodyC (bodyD l):=hob _ (by simp)
  have h_3:inB (bodyD l):=hob _ (by simp)
  generalize bodyD l = c at *
  subst h_2
  clear hob
  have hb:=h_0
  have hc:=h_3
  obtain ⟨b1,b2,b3,b4,b5,b6,b7,b8,b9,b10,b11,b12,b13,b14,b15,b16⟩:=h_0
  obtain ⟨c1,c2,c3,c4,c5,c6,c7,c8,c9,c10,c11,c12,c13,c14,c15,c16⟩:=h_3
  refine ⟨by kernel_rfl,fnVC_go (rs:=[.tmp 4]) rfl rfl ?_⟩
  have hg:spots b.n (fun j => [i64 (b.X j),i64 (b.Y j)]):=fun i hi => ⟨rfl,b5 i hi⟩
  have hh:spots c.n (fun j => [i64 (c.X j),i64 (c.Y j)]):=fun i hi => ⟨rfl,c5 i hi⟩
  simp only [bodyC,go_sem,kShE,kShE,gx_pts0,gx_pts1,hg,hh,h_1]
  rintro z hz
  unfold samS
  rw [← hz]
  exact ⟨fun q => by rw [q]; rfl,fun q => by rw [q,Bool.true_and]; exact sam_eq⟩
 ·cases hc
theorem con11:ConOK Try.prog 11 kSam:=ConOK.cB (G:=[(27,kShE)]) (H:=[]) (.cons con27 .nil) Try.func11 fun b rest ob r hc hob => by
 split at hc
 ·rename_i l
  cases hc
  have h_0:inB b:=hob _ (by simp)
  have h_1:b.n ≤ 1000:=hob _ (by simp)
  have h_2:l = bodyC (bodyD l):=hob _ (by simp)
  have h_3:inB (bodyD l):=hob _ (by simp)
  generalize bodyD l = c at *
  subst h_2
  clear hob
  have hb:=h_0
  have hc:=h_3
  obtain ⟨b1,b2,b3,b4,b5,b6,b7,b8,b9,b10,b11,b12,b13,b14,b15,b16⟩:=h_0
  obtain ⟨c1,c2,c3,c4,c5,c6,c7,c8,c9,c10,c11,c12,c13,c14,c15,c16⟩:=h_3
  refine ⟨by kernel_rfl,fnVC_go (rs:=[.tmp 4]) rfl rfl ?_⟩
  have hg:spots b.n (fun j => [i64 (b.X j),i64 (b.Y j)]):=fun i hi => ⟨rfl,b5 i hi⟩
  have hh:spots c.n (fun j => [i64 (c.X j),i64 (c.Y j)]):=fun i hi => ⟨rfl,c5 i hi⟩
  simp only [bodyC,go_sem,kShE,kShE,gx_pts0,gx_pts1,hg,hh,h_1]
  rintro z hz
  unfold samS
  rw [← hz]
  cases z with
  | false => simp
  | true => rw [Bool.true_and,Bool.true_and]; exact sam_eq
 ·cases hc
theorem sam_self {b:Bd}:samS b b = true:=by
 unfold samS
 rw [shQ_eq,ptsQ_t ⟨rfl,fun _ _ => ⟨rfl,rfl⟩⟩]
 simp
theorem sam_pts {b:Bd} {X Y:Nat → Int} {i:Nat} (hi:i < b.n) (h:b.X i ≠ X i ∨ b.Y i ≠ Y i):samS b { b with X:=X,Y:=Y } = false:=by
 unfold samS
 rw [shQ_eq,ptsQ_f fun e => ?_]
 ·simp
 ·have:=e.2 i hi
  rcases h with h | h
  ·exact h this.1
  ·exact h this.2
section
variable {P:Program} {G:Ctx} {H:Hots} {f:FuncId} {fn:Func}
def mcA (sz:Nat) (ty:TypeId) (F:List AV → Option (List Prop × Nat × (Nat → List AV) × List AV × List AV)):MCon:=fun key m es => match F es with
 | some (ob,N,get,pre,post) => some ⟨ob,.agg (pre ++ .own key 0 N sz :: post),.many [] (some (famN N sz ty get none))⟩
 | none => none
def AggOK (P:Program) (G:Ctx) (H:Hots) (fn:Func) (sz:Nat) (ty:TypeId) (F:List AV → Option (List Prop × Nat × (Nat → List AV) × List AV × List AV)):Prop:=
 ∀ es ob N get pre post,F es = some (ob,N,get,pre,post) → (∀ p ∈ ob,p) → (∀ a ∈ es,clean 3 a = true) ∧ (∀ i,i < N → cleanCs (get i) = true) ∧ cleanCs pre = true ∧ cleanCs post = true ∧ funcOK P H fn es.length = true ∧
  bodyM P G H fn es [] 0 fun a m1 => ∃ L,a = .agg (pre ++ .own L 0 N sz :: post) ∧ look m1 L = some (famN N sz ty get none)
theorem map_cleanCs {θ:Nat → Nat → Nat × Nat} {d:Nat}:∀ {l:List AV},cleanCs l = true → l.map (renA θ d) = l
 | [],_ => rfl
 | a :: l,h => by
  simp only [cleanCs,Bool.and_eq_true] at h
  rw [List.map_cons,map_cleanCs h.2,(cleanC_ren (θ:=θ) (g:=fun _ _ => True) (B:=fun _ => True) h.1 d).1]
theorem MConOK.mcA (hG:CtxOK P G) (hf:P.funcs[f]? = some fn) {sz:Nat} {ty:TypeId} {F:List AV → Option (List Prop × Nat × (Nat → List AV) × List AV × List AV)} (h:AggOK P G H fn sz ty F):MConOK P f (Ax.mcA sz ty F):=by
 refine MConOK.of (H:=H) hG hf fun key m es e hc hob => ?_
 unfold Ax.mcA at hc
 split at hc
 ·rename_i ob N get pre post hF
  cases hc
  obtain ⟨h1,h2,h2a,h2b,h3,h4⟩:=h _ _ _ _ _ _ hF fun p hp => hob p hp
  obtain ⟨a1,a2⟩:=cleans_ren (θ:=thE []) (g:=lowG 0) (B:=lowB 0) h1
  refine ⟨[],[],es,⟨by simp,a1.symm,a2,fun j hj => by simp at hj,fun q x hq => by simp [look] at hq⟩,h3,h4.mono fun a m1 ⟨L,q1,q2⟩ => ?_⟩
  refine ⟨whole L,idTh,[],some _,rfl,⟨fun f r g h => ?_,?_,?_,rfl,fun j hj => by simp at hj,fun f => ?_⟩⟩
  ·cases h; exact ⟨Nat.zero_le _,rfl⟩
  ·rw [q1]
   show AV.agg (pre ++ .own key 0 N sz :: post) = AV.agg ((pre ++ .own L 0 N sz :: post).map (renA _ 2))
   rw [List.map_append,List.map_cons,map_cleanCs h2a,map_cleanCs h2b]
   rfl
  ·rw [q1]
   intro c hc
   rcases List.mem_append.1 hc with hc | hc
   ·exact (cleanC_ren (θ:=fun r f => (r,f)) (cleanCs_mem h2a _ hc) 2).2
   ·rcases List.mem_cons.1 hc with hc | hc
    ·rw [hc]; exact .inr rfl
    ·exact (cleanC_ren (θ:=fun r f => (r,f)) (cleanCs_mem h2b _ hc) 2).2
  ·exact ⟨_,q2,rowRen_cl (famCl_N h2) f,by rw [(famCl_N h2 f).1]; simp⟩
 ·cases hc
end
def cshF:List AV → Option (List Prop × Nat × (Nat → List AV) × List AV × List AV)
 | [.agg [.v (.int .i64 k),.v (.int .i64 r),.v (.int .i64 w),.v (.int .i64 t),.ro n 2 g]] => some ([spots n g,n ≤ 1000],n,g,[i64 k,i64 r,i64 w,i64 t],[])
 | _ => none
def mNcsh:MCon:=mcA 2 46 cshF
theorem conm19:MConOK Try.prog 19 mNcsh:=MConOK.mcA (G:=[]) (H:=[]) .nil Try.func19 fun es ob n get pre post hc hob => by
 unfold cshF at hc
 split at hc
 ·rename_i k r w t n
  cases hc
  have hs:spots n get:=hob _ (by simp)
  have hn:n ≤ 1000:=hob _ (by simp)
  refine ⟨by simp [clean,cleanC],fun i hi => ?_,rfl,rfl,by kernel_rfl,bodyM_go (rs:=[.cell 2 25]) rfl rfl ?_⟩
  ·rw [(hs i hi).1]; rfl
  simp only [go_sem]
  exact ⟨fun i hi => by rw [(hs i hi).1]; rfl,by rw [byt46]; omega,by omega,4,rfl,if_pos rfl⟩
 ·cases hc
theorem mNcsh_eq {key:Nat} {m:Mem} {k r w t:Int} {n:Nat} {g:Nat → List AV}:mNcsh key m [.agg [.v (.int .i64 k),.v (.int .i64 r),.v (.int .i64 w),.v (.int .i64 t),.ro n 2 g]] = some ⟨[spots n g,n ≤ 1000],.agg [i64 k,i64 r,i64 w,i64 t,.own key 0 n 2],.many [] (some (famN n 2 46 g none))⟩:=(rfl)
attribute [go_sem] mNcsh_eq
def copF:List AV → Option (List Prop × Nat × (Nat → List AV) × List AV × List AV)
 | [.agg l] => some ([l = bodyC (bodyD l),inB (bodyD l),(bodyD l).n ≤ 1000],(bodyD l).n,(fun j => [i64 ((bodyD l).X j),i64 ((bodyD l).Y j)]),[i64 (bodyD l).k,i64 (bodyD l).r,i64 (bodyD l).wd,i64 (bodyD l).ht],(bodyC (bodyD l)).drop 5)
 | _ => none
def mNcop:MCon:=mcA 2 46 copF
theorem conm7:MConOK Try.prog 7 mNcop:=MConOK.mcA (G:=[(19,.wr mNcsh)]) (H:=[]) (.mcons conm19 .nil) Try.func7 fun es ob n get pre post hc hob => by
 unfold copF at hc
 split at hc
 ·rename_i l
  cases hc
  have e:l = bodyC (bodyD l):=hob _ (by simp)
  have hb:inB (bodyD l):=hob _ (by simp)
  have hn:(bodyD l).n ≤ 1000:=hob _ (by simp)
  generalize bodyD l = b at *
  subst e
  clear hob
  obtain ⟨b1,b2,b3,b4,b5,b6,b7,b8,b9,b10,b11,b12,b13,b14,b15,b16⟩:=hb
  refine ⟨fun a ha => ?_,fun i hi => rfl,rfl,rfl,by kernel_rfl,bodyM_go (rs:=[.cell 2 37]) rfl rfl ?_⟩
  ·rw [List.mem_singleton.1 ha]; rfl
  simp only [bodyC,go_sem]
  rintro _ rfl _ rfl _ rfl _ rfl
  exact ⟨fun j hj => ⟨rfl,b5 j hj⟩,hn,4,rfl,if_pos rfl⟩
 ·cases hc
theorem mNcop_eq {key:Nat} {m:Mem} {b:Bd}:mNcop key m [.agg (bodyC b)] = some ⟨[bodyC b = bodyC b,inB b,b.n ≤ 1000],.agg [i64 b.k,i64 b.r,i64 b.wd,i64 b.ht,.own key 0 b.n 2,i64 b.pl.1.1,bo b.pl.1.2,i64 b.pl.2.1,bo b.pl.2.2,i64 b.rot.1.1,bo b.rot.1.2,i64 b.rot.2.1,bo b.rot.2.2,i64 b.v.1.1,bo b.v.1.2,i64 b.v.2.1,bo b.v.2.2,i64 b.w.1,bo b.w.2,i64 b.m.1,bo b.m.2,i64 b.i.1,bo b.i.2,i64 b.st,bo b.sl,bo b.fa,i64 b.ve],.many [] (some (famN b.n 2 46 (fun j => [i64 (b.X j),i64 (b.Y j)]) none))⟩:=(rfl)
attribute [go_sem] mNcop_eq
def momS (b:Bd):V2:=(nDiv b.v.1 b.m,nDiv b.v.2 b.m)
def momL (B:Nat → Bd):Nat → Nat × (Nat → V2)
 | 0 => (0,fun _ => ((0,false),(0,false)))
 | i + 1 => if mvS (B i) = true then ((momL B i).1 + 1,fun j => if j < (momL B i).1 then (momL B i).2 j else momS (B i)) else momL B i
theorem momL_le {B:Nat → Bd}:∀ i,(momL B i).1 ≤ i
 | 0 => Nat.le_refl _
 | i + 1 => by
  have:=@momL_le B i
  unfold momL
  split
  ·show (momL B i).1 + 1 ≤ i + 1; omega
  ·omega
def vecC (v:V2):List AV:=[i64 v.1.1,bo v.1.2,i64 v.2.1,bo v.2.2]
def vcsC (V:Nat → V2):Nat → List AV:=fun i => vecC (V i)
theorem momL_in {B:Nat → Bd}:∀ i j,inR ((momL B i).2 j).1.1 ∧ inR ((momL B i).2 j).2.1
 | 0,j => ⟨by show inR 0; unfold inR; decide,by show inR 0; unfold inR; decide⟩
 | i + 1,j => by
  have:=@momL_in B i
  unfold momL
  split
  ·show inR ((if j < (momL B i).1 then (momL B i).2 j else momS (B i)).1.1) ∧ inR ((if j < (momL B i).1 then (momL B i).2 j else momS (B i)).2.1)
   split
   ·exact this j
   ·exact ⟨rg_inR nDiv_rg,rg_inR nDiv_rg⟩
  ·exact this j
theorem purL_vec {V:Nat → V2} {d i:Nat} {m:Mem}:purL d m (vcsC V i) = vcsC V i:=by cases d <;> rfl
theorem vecs_C {n:Nat} {V:Nat → V2} (h:∀ j,inR (V j).1.1 ∧ inR (V j).2.1):vecs n fun i => vcsC V i:=fun i _ => ⟨rfl,h i⟩
theorem byt29:bytesT Try.prog 29 = 32:=by kernel_rfl
def totA (n:Nat) (V:Nat → V2):AV:=ve (su1 n (gx (vcsC V) 0) (gb (vcsC V) 1)) (su1 n (gx (vcsC V) 2) (gb (vcsC V) 3))
def kTot:Con:=cL fun N B rest => match rest with
 | [] => some ([N ≤ 1000,inBs N B],totA (momL B N).1 (momL B N).2)
 | _ => none
theorem con8:ConOK Try.prog 8 kTot:=ConOK.cL (G:=[(20,kw26),(21,k168),(22,c22)]) (H:=[]) (.cons konw26 (.cons kon168 (.cons con22 .nil))) Try.func8 fun N B rest ob r hc hob => by
 split at hc
 ·cases hc
  have hN:N ≤ 1000:=hob _ (by simp)
  have hB:inBs N B:=hob _ (by simp)
  clear hob
  refine ⟨by kernel_rfl,fnVC_go (rs:=[.cell 2 29]) rfl rfl ?_⟩
  simp only [go_sem,kw26,k168,c22]
  refine loopN_go (fun (i:Nat) => i ≤ N) (fun i => N - i) (fun i => [(8,i64 (i:Int)),(3,.own 5 0 (momL B i).1 4)]) (fun i => [(5,famN (momL B i).1 4 29 (vcsC (momL B i).2) none)]) [0] [9,10,11,5,12,13,14,15,16,17,18,19,20,21,22,23,24,25,26,27,28,29,30,31,3,32,8] 1 0 (by kernel_rfl) (Nat.zero_le _) ⟨[(5,none)],?_,?_,?_,?_⟩ ?_
  ·simp only [go_sem,momL]
  ·simp only [go_sem,momL]
  ·simp only [go_sem,momL]
  ·simp [goodNames,asg,momL]
  intro i hi
  have hl:=@momL_le B i
  have hI:=@momL_in B i
  by_cases hiN:i < N
  ·obtain ⟨i1,i2⟩:=hB i hiN
   have hb:=i1
   obtain ⟨b1,b2,b3,b4,b5,b6,b7,b8,b9,b10,b11,b12,b13,b14,b15,b16⟩:=i1
   have e:momL B (i + 1) = if mvS (B i) = true then ((momL B i).1 + 1,fun j => if j < (momL B i).1 then (momL B i).2 j else momS (B i)) else momL B i:=rfl
   have hw:IntKind.i64.wrap ((i:Int) + 1) = ((i + 1:Nat):Int):=by rw [wrap_in (by unfold inR; omega)]; rfl
   simp only [go_sem,kw26,k168,c22,cB_eq,bsC_at,bodyC,bodyD_lit,gx_pts0,gx_pts1,etaN,etaV,bd_eta,b10,b11,b13,b14,byt29]
   refine ⟨fun h => ⟨by omega,h,fun z hz => ⟨fun h2 => ⟨by omega,by omega,fun z2 hz2 => ⟨i + 1,by omega,by omega,[(5,some 30)],?_⟩⟩,fun h2 z2 hz2 => ⟨i + 1,by omega,by omega,[(5,some 5)],?_⟩⟩⟩,fun h => absurd hiN (by omega)⟩
   ·rw [hz] at h2
    rw [if_pos h2] at e
    have e1:(momL B (i + 1)).1 = (momL B i).1 + 1:=by rw [e]
    have e2:(momL B (i + 1)).2 = fun j => if j < (momL B i).1 then (momL B i).2 j else momS (B i):=by rw [e]
    rw [e1,e2]
    simp only [go_sem]
    refine ⟨by rw [hz2,hw],fun j hj => ?_,by simp [goodNames,asg]⟩
    by_cases q:j < (momL B i).1
    ·rw [if_pos q]
     show fitL 5 6 [(5,some 30)] (vecC (if j < (momL B i).1 then (momL B i).2 j else momS (B i))) _
     rw [if_pos q]
     exact fitL_clean rfl
    ·have q2:j = (momL B i).1:=by omega
     rw [if_neg q,q2,Nat.sub_self]
     show fitL 5 6 [(5,some 30)] (vecC (if (momL B i).1 < (momL B i).1 then (momL B i).2 (momL B i).1 else momS (B i))) _
     rw [if_neg (by omega)]
     exact fitL_clean rfl
   ·rw [hz] at h2
    rw [if_neg (by rw [h2]; decide)] at e
    rw [e]
    simp only [go_sem]
    refine ⟨by rw [hz2,hw],fun j hj => fitL_clean rfl,by simp [goodNames,asg]⟩
  ·have hv:=vecs_C (n:=(momL B i).1) hI
   simp only [go_sem,kw26,k168,c22,byt29,purL_vec,hv]
   have e:i = N:=by omega
   subst e
   refine ⟨fun h => absurd h (by omega),fun _ => ?_⟩
   simp only [forall_eq]
   exact ⟨by omega,rfl⟩
 ·cases hc
def c36:Con
 | [.agg [.v (.int .i64 v),.v (.bool e)]] => some ([inR v],.v (.int .i64 (whV v)))
 | _ => none
theorem con36:ConOK Try.prog 36 c36:=ConOK.of (G:=[(57,c57)]) (H:=[]) (.cons con57 .nil) Try.func36 fun l ob rr hc hob => by
 unfold c36 at hc
 split at hc
 ·rename_i v e
  cases hc
  have h_0:inR v:=hob _ (by simp)
  refine ⟨by kernel_rfl,fnVC_go (rs:=[.tmp 2]) rfl rfl ?_⟩
  simp only [go_sem,c57,iMul,iDiv,iInt,iAdd,iSub,iRat,iDot,iHyp,iSq,iNeg,iPos,iAbs,iMx,iMn,iCl,iWh,iLoc1,iLoc2,iVAdd1,iVAdd2,iVSub1,iVSub2,iScale1,iScale2,iVDot,iVCross,iLen,iOf1,iOf2,iUnit1,iUnit2,h_0]
  simp only [forall_eq]
 ·cases hc
theorem con23:ConOK Try.prog 23 kw26:=ConOK.cB (G:=[(36,c36)]) (H:=[]) (.cons con36 .nil) Try.func23 fun b rest ob r hc hob => by
 split at hc
 ·cases hc
  refine ⟨by kernel_rfl,fnVC_go (rs:=[.tmp 2]) rfl rfl ?_⟩
  have h0:inR b.m.1:=hob _ (by simp)
  have h1:inR b.i.1:=hob _ (by simp)
  simp only [bodyC,go_sem,c36,h0,h1]
  simp only [forall_eq,implies_true,true_and]
  unfold mvS
  rw [whV_bne h0,whV_bne h1]
  cases b.m.1 == 0 <;> cases b.i.1 == 0 <;> rfl
 ·cases hc
theorem con9:ConOK Try.prog 9 kTot:=ConOK.cL (G:=[(23,kw26),(24,k144),(25,c25)]) (H:=[]) (.cons con23 (.cons kon144 (.cons con25 .nil))) Try.func9 fun N B rest ob r hc hob => by
 split at hc
 ·cases hc
  have hN:N ≤ 1000:=hob _ (by simp)
  have hB:inBs N B:=hob _ (by simp)
  clear hob
  refine ⟨by kernel_rfl,fnVC_go (rs:=[.cell 2 29]) rfl rfl ?_⟩
  simp only [go_sem,kw26,k144,c25]
  refine loopN_go (fun (i:Nat) => i ≤ N) (fun i => N - i) (fun i => [(4,i64 (i:Int)),(3,.own 3 0 (momL B i).1 4)]) (fun i => [(3,famN (momL B i).1 4 29 (vcsC (momL B i).2) none)]) [0] [5,6,7,8,11,12,13,14,15,16,17,18,19,20,21,22,23,24,25,26,27,28,29,30,31,32,33,34,35,36,37,38,39,40,41,42,43,44,45,3,9,10,4] 1 0 (by kernel_rfl) (Nat.zero_le _) ⟨[(3,none)],?_,?_,?_,?_⟩ ?_
  ·simp only [go_sem,momL]
  ·simp only [go_sem,momL]
  ·simp only [go_sem,momL]
  ·simp [goodNames,asg,momL]
  intro i hi
  have hl:=@momL_le B i
  have hI:=@momL_in B i
  by_cases hiN:i < N
  ·obtain ⟨i1,i2⟩:=hB i hiN
   have hb:=i1
   obtain ⟨b1,b2,b3,b4,b5,b6,b7,b8,b9,b10,b11,b12,b13,b14,b15,b16⟩:=i1
   have e:momL B (i + 1) = if mvS (B i) = true then ((momL B i).1 + 1,fun j => if j < (momL B i).1 then (momL B i).2 j else momS (B i)) else momL B i:=rfl
   have hw:IntKind.i64.wrap ((i:Int) + 1) = ((i + 1:Nat):Int):=by rw [wrap_in (by unfold inR; omega)]; rfl
   simp only [go_sem,kw26,k144,c25,cB_eq,bsC_at,bodyC,bodyD_lit,gx_pts0,gx_pts1,etaN,etaV,bd_eta,b10,b11,b13,b14,byt29]
   refine ⟨fun h => ⟨by omega,h,fun z hz => ⟨fun h2 => ?_,fun h2 z2 hz2 => ⟨i + 1,by omega,by omega,[(3,some 3)],?_⟩⟩⟩,fun h => absurd hiN (by omega)⟩
   ·repeat refine ⟨by omega,?_⟩
    intro z2 hz2
    refine ⟨i + 1,by omega,by omega,[(3,some 42)],?_⟩
    rw [hz] at h2
    rw [if_pos h2] at e
    have e1:(momL B (i + 1)).1 = (momL B i).1 + 1:=by rw [e]
    have e2:(momL B (i + 1)).2 = fun j => if j < (momL B i).1 then (momL B i).2 j else momS (B i):=by rw [e]
    rw [e1,e2]
    simp only [go_sem]
    refine ⟨by rw [hz2,hw],fun j hj => ?_,by simp [goodNames,asg]⟩
    by_cases q:j < (momL B i).1
    ·rw [if_pos q]
     show fitL 3 4 [(3,some 42)] (vecC (if j < (momL B i).1 then (momL B i).2 j else momS (B i))) _
     rw [if_pos q]
     exact fitL_clean rfl
    ·have q2:j = (momL B i).1:=by omega
     rw [if_neg q,q2,Nat.sub_self]
     show fitL 3 4 [(3,some 42)] (vecC (if (momL B i).1 < (momL B i).1 then (momL B i).2 (momL B i).1 else momS (B i))) _
     rw [if_neg (by omega)]
     exact fitL_clean rfl
   ·rw [hz] at h2
    rw [if_neg (by rw [h2]; decide)] at e
    rw [e]
    simp only [go_sem]
    refine ⟨by rw [hz2,hw],fun j hj => fitL_clean rfl,by simp [goodNames,asg]⟩
  ·have hv:=vecs_C (n:=(momL B i).1) hI
   simp only [go_sem,kw26,k144,c25,byt29,purL_vec,hv]
   have e:i = N:=by omega
   subst e
   refine ⟨fun h => absurd h (by omega),fun _ => ?_⟩
   simp only [forall_eq]
   exact ⟨by omega,rfl⟩
 ·cases hc
def kSaB:Con:=cL fun N B rest => match rest with
 | [b] => some ([N ≤ 1000,inBs N B,b = .ro N 27 (bsC B)],bo true)
 | _ => none
theorem con13:ConOK Try.prog 13 kSaB:=ConOK.cL (G:=[(12,kb12)]) (H:=[]) (.cons konb12 .nil) Try.func13 fun N B rest ob r hc hob => by
 split at hc
 ·rename_i b
  cases hc
  have hN:N ≤ 1000:=hob _ (by simp)
  have hB:inBs N B:=hob _ (by simp)
  have hb:b = .ro N 27 (bsC B):=hob _ (by simp)
  clear hob
  subst hb
  refine ⟨by kernel_rfl,fnVC_go (rs:=[.tmp 4]) rfl rfl ?_⟩
  simp only [go_sem,kb12]
  refine ⟨fun h => by simp at h,fun h => ?_⟩
  refine loopC_go (fun (i:Nat) => i ≤ N) (fun i => N - i) (fun i => [(5,i64 (i:Int))]) (fun _ => []) [] [11,12,13,14,17,18,19,20,21,22,23,24,25,26,4,15,16,5] 0 (by kernel_rfl) ?_ (Nat.zero_le _) ?_ ?_
  ·intro x _; simp [goodNames,asg]
  ·simp only [go_sem]
  intro i hi
  by_cases hiN:i < N
  ·obtain ⟨i1,i2⟩:=hB i hiN
   simp only [go_sem,kb12,cB_eq,i1,i2,forall_eq]
   exact ⟨fun h => ⟨by omega,h,by omega,h,by simp,fun _ => ⟨i + 1,by omega,by omega,by rw [wrap_in (by unfold inR; omega)]; rfl⟩⟩,fun _ => trivial⟩
  ·simp only [go_sem,kb12,cB_eq,forall_eq]
   exact ⟨fun h => absurd h (by omega),fun _ => trivial⟩
 ·cases hc
end Go.Ax
end
section
namespace Go.Ax
open Go.ChangeShapes Go.WideShapes Go.ChangeAt Go.RowKit
inductive ShV where
 | int (k:IntKind)
 | bool
 | agg (es:List Sh)
 | slice (sz:Nat) (es:List Sh)
def shV (P:Program) (t:TypeId):Option ShV:=
 match P.underlying t with
 | some .bool => some .bool
 | some (.int k) => some (.int k)
 | some (.slice _) => match shT P 6 t with
  | some [.slice sz es] => some (.slice sz es)
  | _ => none
 | some (.struct _) => (shT P 6 t).map .agg
 | some (.array _ _) => (shT P 6 t).map .agg
 | _ => none
def fitV:ShV → AV → Prop
 | .int k,a => ∃ n,a = .v (.int k n) ∧ (Lit.int k n).wf = true
 | .bool,a => ∃ b,a = .v (.bool b)
 | .agg es,a => ∃ l,a = .agg l ∧ fitS es l
 | .slice sz es,a => ∃ (n:Nat) (get:Nat → List AV),a = .ro n sz get ∧ n ≤ maxLen ∧ ∀ i,fitS es (get i)
def shVs (P:Program):List TypeId → Option (List ShV)
 | [] => some []
 | t :: ts => match shV P t,shVs P ts with
  | some s,some r => some (s :: r)
  | _,_ => none
def fitVs:List ShV → List AV → Prop
 | [],l => l = []
 | s :: ss,l => ∃ a r,l = a :: r ∧ fitV s a ∧ fitVs ss r
section
variable {H:Type} {enc:TypeId × Value → H} {P:Program} {w:World} {spare:Nat → Bool} {held:Bool} {base:Nat}
theorem okWide_agg_struct {t:TypeId} {fs:Array Field} {v:Value} (ht:P.underlying t = some (.struct fs)) (h:Value.okWide P w .any base t v):∃ cs,v = .agg cs:=by
 obtain ⟨cs,h,_⟩:=okWide_struct ht h
 exact ⟨cs,h⟩
theorem trod_agg_array {t e:TypeId} {n:Nat} {v:Value} {x:DataW H} {ps:List MemPlace} (ht:P.underlying t = some (.array n e)) (h:Value.okWide P w .any base t v):∃ cs,v = .agg cs:=by
 cases v <;> simp [Value.okWide,Value.ok,ht] at h <;> exact ⟨_,rfl⟩
theorem arg_read {t:TypeId} {s:ShV} {v:Value} {x:DataW H} {ps:List MemPlace} (hs:shV P t = some s) (ho:Value.okWide P w .any base t v) (h:DataW.Trod enc P w 0 spare held t v x ps):∃ a,fitV s a ∧ R w (.ext (All w)) a v:=by
 unfold shV at hs
 split at hs
 ·rename_i hu
  cases hs
  obtain ⟨b,rfl⟩:=okWide_bool hu ho
  exact ⟨_,⟨b,rfl⟩,.v⟩
 ·rename_i k hu
  cases hs
  obtain ⟨n,rfl,_,_,hw⟩:=open_int hu ho h
  exact ⟨_,⟨n,rfl,hw⟩,.v⟩
 ·rename_i e hu
  split at hs
  ·rename_i sz es he
   cases hs
   obtain ⟨a,len,cap,rfl⟩:=okWide_slice hu ho
   obtain ⟨n,get,h1,h2,h3⟩:=slice_read he h
   exact ⟨_,⟨n,get,rfl,h1,h2⟩,h3⟩
  ·cases hs
 ·rename_i fs hu
  obtain ⟨es,he,rfl⟩:=Option.map_eq_some_iff.1 hs
  obtain ⟨cs,rfl⟩:=okWide_agg_struct hu ho
  obtain ⟨l,h1,h2⟩:=agg_read he h
  exact ⟨_,⟨l,rfl,h1⟩,h2⟩
 ·rename_i n e hu
  obtain ⟨es,he,rfl⟩:=Option.map_eq_some_iff.1 hs
  obtain ⟨cs,rfl⟩:=trod_agg_array (x:=x) (ps:=ps) hu ho
  obtain ⟨l,h1,h2⟩:=agg_read he h
  exact ⟨_,⟨l,rfl,h1⟩,h2⟩
 ·cases hs
theorem args_read:∀ {ts:List TypeId} {ss:List ShV} {vs:List Value} {ds:List (DataW H)} {ps:List MemPlace},shVs P ts = some ss → (∀ (j:Nat) t v,ts[j]? = some t → vs[j]? = some v → Value.okWide P w .any base t v) →
  DataW.TrodAll enc P w 0 spare held ts vs ds ps → ∃ l,fitVs ss l ∧ Rs w (.ext (All w)) l vs
 | [],ss,vs,ds,ps,hs,ho,h => by
  simp only [shVs,Option.some.injEq] at hs
  subst hs
  obtain ⟨rfl,rfl,rfl⟩:=trodAll_nil h
  exact ⟨[],rfl,.nil⟩
 | t :: ts,ss,vs,ds,ps,hs,ho,h => by
  simp only [shVs] at hs
  split at hs
  ·rename_i s r h1 h2
   cases hs
   obtain ⟨v,vs',d,ds',p,q,rfl,rfl,rfl,h3,h4⟩:=trodAll_cons h
   obtain ⟨a,a1,a2⟩:=arg_read h1 (ho 0 t v rfl rfl) h3
   obtain ⟨l,b1,b2⟩:=args_read h2 (fun j t v hj hv => ho (j + 1) t v (by simpa using hj) (by simpa using hv)) h4
   exact ⟨a :: l,⟨a,l,rfl,a1,b1⟩,Rs.cons a2 b2⟩
  ·cases hs
def readOK (P:Program) (ts:List TypeId):Bool:=ts.all fun t => P.readableRec t && decide (t < P.types.size)
theorem args_stay {W W':World} (hl:laidOutB P = true) (hb:Below W.heap.size W W'):∀ {ts:List TypeId} {vs:List Value} {ds:List (DataW H)} {ps:List MemPlace},readOK P ts = true →
  DataW.TrodAll enc P W 0 (fun _ => true) true ts vs ds ps → ∃ ps,DataW.TrodAll enc P W' 0 (fun b => decide (b < W.heap.size)) true ts vs ds ps
 | [],vs,ds,ps,_,h => by
  obtain ⟨rfl,rfl,rfl⟩:=trodAll_nil h
  exact ⟨[],rfl⟩
 | t :: ts,vs,ds,ps,hr,h => by
  obtain ⟨v,vs',d,ds',p,q,rfl,rfl,rfl,h3,h4⟩:=trodAll_cons h
  simp only [readOK,List.all_cons,Bool.and_eq_true,decide_eq_true_eq] at hr
  obtain ⟨q',h5⟩:=args_stay hl hb (by simpa [readOK] using hr.2) h4
  refine ⟨_,trodAll_cons_mk (Below.trod hl hr.1.1 hr.1.2 h3 hb ?_) h5⟩
  obtain ⟨m,hm⟩:=h3
  exact DataW.trod_lt m _ _ _ hm
end
end Go.Ax
end
section
set_option maxHeartbeats 4000000
set_option maxRecDepth 100000
namespace Go.Ax
open Go.Proofs
abbrev shB:List Sh:=[.int .i64,.int .i64,.int .i64,.int .i64,.slice 2 [.int .i64,.int .i64],.int .i64,.bool,.int .i64,.bool,.int .i64,.bool,.int .i64,.bool,.int .i64,.bool,.int .i64,.bool,.int .i64,.bool,.int .i64,.bool,.int .i64,.bool,.int .i64,.bool,.bool,.int .i64]
theorem row2 {l:List AV} (h:fitS [.int .i64,.int .i64] l):l = [i64 (gi l 0),i64 (gi l 1)] ∧ inR (gi l 0) ∧ inR (gi l 1):=by
 obtain ⟨_,_,rfl,⟨x0,rfl,k0⟩,_,_,rfl,⟨x1,rfl,k1⟩,rfl⟩:=h
 exact ⟨rfl,wf_i64 k0,wf_i64 k1⟩
theorem rowB {l:List AV} (h:fitS shB l):l = bodyC (bodyD l) ∧ inB (bodyD l) ∧ (bodyD l).n ≤ 9223372036854775807:=by
 obtain ⟨_,_,rfl,⟨x0,rfl,k0⟩,_,_,rfl,⟨x1,rfl,k1⟩,_,_,rfl,⟨x2,rfl,k2⟩,_,_,rfl,⟨x3,rfl,k3⟩,_,_,rfl,⟨n,get,rfl,hn,hf⟩,_,_,rfl,⟨y0,rfl,m0⟩,_,_,rfl,⟨e0,rfl⟩,_,_,rfl,⟨y1,rfl,m1⟩,_,_,rfl,⟨e1,rfl⟩,_,_,rfl,⟨y2,rfl,m2⟩,_,_,rfl,⟨e2,rfl⟩,_,_,rfl,⟨y3,rfl,m3⟩,_,_,rfl,⟨e3,rfl⟩,_,_,rfl,⟨y4,rfl,m4⟩,_,_,rfl,⟨e4,rfl⟩,_,_,rfl,⟨y5,rfl,m5⟩,_,_,rfl,⟨e5,rfl⟩,_,_,rfl,⟨y6,rfl,m6⟩,_,_,rfl,⟨e6,rfl⟩,_,_,rfl,⟨y7,rfl,m7⟩,_,_,rfl,⟨e7,rfl⟩,_,_,rfl,⟨y8,rfl,m8⟩,_,_,rfl,⟨e8,rfl⟩,_,_,rfl,⟨z0,rfl,w0⟩,_,_,rfl,⟨u0,rfl⟩,_,_,rfl,⟨u1,rfl⟩,_,_,rfl,⟨z1,rfl,w1⟩,rfl⟩:=h
 have hg:get = fun i => [i64 (gx get 0 i),i64 (gx get 1 i)]:=funext fun i => (row2 (hf i)).1
 refine ⟨?_,⟨wf_i64 k0,wf_i64 k1,wf_i64 k2,wf_i64 k3,fun j _ => (row2 (hf j)).2,wf_i64 m0,wf_i64 m1,wf_i64 m2,wf_i64 m3,wf_i64 m4,wf_i64 m5,wf_i64 m6,wf_i64 m7,wf_i64 m8,wf_i64 w0,wf_i64 w1⟩,?_⟩
 rotate_left
 ·show n ≤ 9223372036854775807; unfold maxLen at hn; omega
 rw [bodyD_lit]
 show [i64 x0,i64 x1,i64 x2,i64 x3,AV.ro n 2 get,i64 y0,bo e0,i64 y1,bo e1,i64 y2,bo e2,i64 y3,bo e3,i64 y4,bo e4,i64 y5,bo e5,i64 y6,bo e6,i64 y7,bo e7,i64 y8,bo e8,i64 z0,bo u0,bo u1,i64 z1] = [i64 x0,i64 x1,i64 x2,i64 x3,AV.ro n 2 fun i => [i64 (gx get 0 i),i64 (gx get 1 i)],i64 y0,bo e0,i64 y1,bo e1,i64 y2,bo e2,i64 y3,bo e3,i64 y4,bo e4,i64 y5,bo e5,i64 y6,bo e6,i64 y7,bo e7,i64 y8,bo e8,i64 z0,bo u0,bo u1,i64 z1]
 rw [← hg]
theorem rowsB {get:Nat → List AV} (h:∀ i,fitS shB (get i)):get = bsC (bsD get) ∧ ∀ i,inB (bsD get i) ∧ (bsD get i).n ≤ 9223372036854775807:=
 ⟨funext fun i => (rowB (h i)).1,fun i => (rowB (h i)).2⟩
end Go.Ax
end