/-
  Bodies.
-/
import Derived.Test.YtempjfjppjfciaaGreatCM6
set_option linter.unusedVariables false
set_option linter.unusedSimpArgs false
section
set_option maxHeartbeats 4000000
set_option maxRecDepth 100000
namespace Go.Ax
open Go.Proofs Go.Proofs.Tryz
structure Bd where
 k:Int
 r:Int
 wd:Int
 ht:Int
 n:Nat
 X:Nat → Int
 Y:Nat → Int
 pl:V2
 rot:V2
 v:V2
 w:Nb
 m:Nb
 i:Nb
 st:Int
 sl:Bool
 fa:Bool
 ve:Int
abbrev ptsA (n:Nat) (X Y:Nat → Int):AV:=.ro n 2 fun j => [i64 (X j),i64 (Y j)]
def bodyC (b:Bd):List AV:=[i64 b.k,i64 b.r,i64 b.wd,i64 b.ht,ptsA b.n b.X b.Y,i64 b.pl.1.1,bo b.pl.1.2,i64 b.pl.2.1,bo b.pl.2.2,i64 b.rot.1.1,bo b.rot.1.2,i64 b.rot.2.1,bo b.rot.2.2,
 i64 b.v.1.1,bo b.v.1.2,i64 b.v.2.1,bo b.v.2.2,i64 b.w.1,bo b.w.2,i64 b.m.1,bo b.m.2,i64 b.i.1,bo b.i.2,i64 b.st,bo b.sl,bo b.fa,i64 b.ve]
def roN (cs:List AV) (k:Nat):Nat:=match cs[k]? with
 | some (.ro n _ _) => n
 | _ => 0
def roG (cs:List AV) (k:Nat):Nat → List AV:=match cs[k]? with
 | some (.ro _ _ g) => g
 | _ => fun _ => []
def bodyD (l:List AV):Bd:=
 ⟨gi l 0,gi l 1,gi l 2,gi l 3,roN l 4,gx (roG l 4) 0,gx (roG l 4) 1,((gi l 5,gib l 6),(gi l 7,gib l 8)),((gi l 9,gib l 10),(gi l 11,gib l 12)),((gi l 13,gib l 14),(gi l 15,gib l 16)),(gi l 17,gib l 18),(gi l 19,gib l 20),(gi l 21,gib l 22),gi l 23,gib l 24,gib l 25,gi l 26⟩
theorem bodyD_C (b:Bd):bodyD (bodyC b) = b:=rfl
section
variable {k r wd ht a1 a2 r1 r2 v1 v2 w m i st ve:Int} {n:Nat} {g:Nat → List AV} {f1 f2 s1 s2 u1 u2 fw fm fi sl fa:Bool}
theorem bodyD_lit:bodyD [i64 k,i64 r,i64 wd,i64 ht,.ro n 2 g,i64 a1,bo f1,i64 a2,bo f2,i64 r1,bo s1,i64 r2,bo s2,i64 v1,bo u1,i64 v2,bo u2,i64 w,bo fw,i64 m,bo fm,i64 i,bo fi,i64 st,bo sl,bo fa,i64 ve] =
 ⟨k,r,wd,ht,n,gx g 0,gx g 1,((a1,f1),(a2,f2)),((r1,s1),(r2,s2)),((v1,u1),(v2,u2)),(w,fw),(m,fm),(i,fi),st,sl,fa,ve⟩:=(rfl)
end
theorem gx_pts0 {X Y:Nat → Int}:gx (fun j => [i64 (X j),i64 (Y j)]) 0 = X:=(rfl)
theorem gx_pts1 {X Y:Nat → Int}:gx (fun j => [i64 (X j),i64 (Y j)]) 1 = Y:=(rfl)
theorem bd_eta {b:Bd}:(⟨b.k,b.r,b.wd,b.ht,b.n,b.X,b.Y,b.pl,b.rot,b.v,b.w,b.m,b.i,b.st,b.sl,b.fa,b.ve⟩:Bd) = b:=(rfl)
theorem cleanC_body {b:Bd}:∀ c ∈ bodyC b,cleanC c = true:=fun c hc => by
 simp only [bodyC,List.mem_cons,List.not_mem_nil,or_false] at hc
 rcases hc with h | h | h | h | h | h | h | h | h | h | h | h | h | h | h | h | h | h | h | h | h | h | h | h | h | h | h <;> (rw [h]; rfl)
theorem clean_body {b:Bd}:clean 3 (.agg (bodyC b)) = true:=(rfl)
theorem len_body {b:Bd}:(bodyC b).length = 27:=(rfl)
def inB (b:Bd):Prop:=inR b.k ∧ inR b.r ∧ inR b.wd ∧ inR b.ht ∧ (∀ j,j < b.n → inR (b.X j) ∧ inR (b.Y j)) ∧ inR b.pl.1.1 ∧ inR b.pl.2.1 ∧ inR b.rot.1.1 ∧ inR b.rot.2.1 ∧ inR b.v.1.1 ∧ inR b.v.2.1 ∧ inR b.w.1 ∧ inR b.m.1 ∧ inR b.i.1 ∧ inR b.st ∧ inR b.ve
def cB (F:Bd → List AV → Option (List Prop × AV)):Con
 | .agg l :: rest => match F (bodyD l) rest with
  | some (ob,r) => some ((l = bodyC (bodyD l)) :: ob,r)
  | none => none
 | _ => none
theorem cB_eq {F:Bd → List AV → Option (List Prop × AV)} {l rest:List AV}:cB F (.agg l :: rest) = (match F (bodyD l) rest with
  | some (ob,r) => some ((l = bodyC (bodyD l)) :: ob,r)
  | none => none):=(rfl)
theorem ConOK.cB {P:Program} {G:Ctx} {H:Hots} (hG:CtxOK P G) {f:FuncId} {fn:Func} (hf:P.funcs[f]? = some fn) {F:Bd → List AV → Option (List Prop × AV)}
  (h:∀ b rest ob r,F b rest = some (ob,r) → (∀ p ∈ ob,p) → funcOK P H fn (rest.length + 1) = true ∧ fnVC P G H fn (.agg (bodyC b) :: rest) (· = r)):ConOK P f (Ax.cB F):=ConOK.of hG hf fun l ob r hc hob => by
 unfold Ax.cB at hc
 split at hc
 ·rename_i l rest
  split at hc
  ·rename_i ob' r' hF
   cases hc
   have e:l = bodyC (bodyD l):=hob _ (by simp)
   obtain ⟨h1,h2⟩:=h _ _ _ _ hF fun p hp => hob p (by simp [hp])
   rw [← e] at h2
   exact ⟨h1,h2⟩
  ·cases hc
 ·cases hc
def cBR (F:Bd → List AV → Option (List Prop × AV)):Con
 | .rop l :: rest => match F (bodyD l) rest with
  | some (ob,r) => some ((l = bodyC (bodyD l)) :: ob,r)
  | none => none
 | _ => none
theorem cBR_eq {F:Bd → List AV → Option (List Prop × AV)} {l rest:List AV}:cBR F (.rop l :: rest) = (match F (bodyD l) rest with
  | some (ob,r) => some ((l = bodyC (bodyD l)) :: ob,r)
  | none => none):=(rfl)
theorem ConOK.cBR {P:Program} {G:Ctx} {H:Hots} (hG:CtxOK P G) {f:FuncId} {fn:Func} (hf:P.funcs[f]? = some fn) {F:Bd → List AV → Option (List Prop × AV)}
  (h:∀ b rest ob r,F b rest = some (ob,r) → (∀ p ∈ ob,p) → funcOK P H fn (rest.length + 1) = true ∧ fnVC P G H fn (.rop (bodyC b) :: rest) (· = r)):ConOK P f (Ax.cBR F):=ConOK.of hG hf fun l ob r hc hob => by
 unfold Ax.cBR at hc
 split at hc
 ·rename_i l rest
  split at hc
  ·rename_i ob' r' hF
   cases hc
   have e:l = bodyC (bodyD l):=hob _ (by simp)
   obtain ⟨h1,h2⟩:=h _ _ _ _ hF fun p hp => hob p (by simp [hp])
   rw [← e] at h2
   exact ⟨h1,h2⟩
  ·cases hc
 ·cases hc
def bodyR (b:Bd):List AV:=bodyC b
def mB (F:Bd → List AV → Option (List Prop × Bd)):MCon:=mc1 27 fun l rest => match F (bodyD l) rest with
 | some (ob,b) => some ((l = bodyC (bodyD l)) :: ob,.tup [],bodyC b)
 | none => none
theorem MConOK.mB {P:Program} {G:Ctx} {H:Hots} (hG:CtxOK P G) {f:FuncId} {fn:Func} (hf:P.funcs[f]? = some fn) {F:Bd → List AV → Option (List Prop × Bd)}
  (h:∀ b rest ob b',F b rest = some (ob,b') → (∀ p ∈ ob,p) → (∀ a ∈ rest,clean 3 a = true) ∧ funcOK P H fn (rest.length + 1) = true ∧
   ∀ (fam:Fam) (f i:Nat),i < (fam f).n → 27 = (fam f).sz → (∀ f,(fam f).g = none) → famOK 0 fam → bodyM P G H fn (.ptr 0 f i 27 0 :: rest) [(0,famE fam f i (bodyC b))] 1 fun a m1 => a = .tup [] ∧ look m1 0 = some (famE fam f i (bodyR b'))):MConOK P f (Ax.mB F):=by
 refine MConOK.mc1 (H:=H) hG hf fun cells rest ob val cs hF hob => ?_
 split at hF
 ·rename_i ob' b' hF'
  cases hF
  have e:cells = bodyC (bodyD cells):=hob _ (by simp)
  obtain ⟨h1,h2,h3⟩:=h _ _ _ _ hF' fun p hp => hob p (by simp [hp])
  refine ⟨h1,rfl,cleanC_body,h2,fun fam f i k1 k2 k3 k4 => ?_⟩
  have:=h3 fam f i k1 k2 k3 k4
  rw [← e] at this
  exact this
 ·cases hF
def mbQ (r:Nat) (fam fam':Bd → Fam) (pre:List Prop):Option (List Prop × Bd) → Option Eff
 | some (ob,b) => some ⟨pre ++ ob,.tup [],.many [(r,fam' b)] none⟩
 | none => none
def mbP (F:Bd → List AV → Option (List Prop × Bd)) (r f i sz:Nat) (rest:List AV):Option Fam → Option Eff
 | some fam => mbQ r (fun _ => fam) (fun b => famE fam f i (bodyC b)) [i < (fam f).n,sz = 27,27 = (fam f).sz,cleanCs ((fam f).get i) = true,famOK r fam,(fam f).get i = bodyC (bodyD ((fam f).get i))] (F (bodyD ((fam f).get i)) rest)
 | none => none
def mbB (F:Bd → List AV → Option (List Prop × Bd)) (r:Nat) (rest:List AV):Option Fam → Option Eff
 | some fam => mbQ r (fun _ => fam) (fun b => wb1 fam (bodyC b)) [(fam 0).n = 1,27 = (fam 0).sz,cleanCs ((fam 0).get 0) = true,famOK r fam,(fam 0).get 0 = bodyC (bodyD ((fam 0).get 0))] (F (bodyD ((fam 0).get 0)) rest)
 | none => none
theorem mbP_some {F:Bd → List AV → Option (List Prop × Bd)} {r f i sz:Nat} {rest:List AV} {fam:Fam}:mbP F r f i sz rest (some fam) = mbQ r (fun _ => fam) (fun b => famE fam f i (bodyC b)) [i < (fam f).n,sz = 27,27 = (fam f).sz,cleanCs ((fam f).get i) = true,famOK r fam,(fam f).get i = bodyC (bodyD ((fam f).get i))] (F (bodyD ((fam f).get i)) rest):=(rfl)
theorem mbB_some {F:Bd → List AV → Option (List Prop × Bd)} {r:Nat} {rest:List AV} {fam:Fam}:mbB F r rest (some fam) = mbQ r (fun _ => fam) (fun b => wb1 fam (bodyC b)) [(fam 0).n = 1,27 = (fam 0).sz,cleanCs ((fam 0).get 0) = true,famOK r fam,(fam 0).get 0 = bodyC (bodyD ((fam 0).get 0))] (F (bodyD ((fam 0).get 0)) rest):=(rfl)
theorem mB_ptr {F:Bd → List AV → Option (List Prop × Bd)} {key:Nat} {m:Mem} {r f i sz:Nat} {rest:List AV}:mB F key m (.ptr r f i sz 0 :: rest) = mbP F r f i sz rest (look m r):=by
 show (match look m r with
  | some fam => (match (match F (bodyD ((fam f).get i)) rest with
    | some (ob,b) => some (((fam f).get i = bodyC (bodyD ((fam f).get i))) :: ob,AV.tup [],bodyC b)
    | none => none) with
   | some (ob,val,cs) => some (⟨(i < (fam f).n) :: (sz = 27) :: (27 = (fam f).sz) :: (cleanCs ((fam f).get i) = true) :: famOK r fam :: ob,val,.many [(r,famE fam f i cs)] none⟩:Eff)
   | none => none)
  | none => none) = _
 generalize look m r = x
 cases x with
 | none => rfl
 | some fam =>
  unfold mbP
  dsimp only
  generalize F (bodyD ((fam f).get i)) rest = y
  cases y <;> rfl
theorem mB_bx {F:Bd → List AV → Option (List Prop × Bd)} {key:Nat} {m:Mem} {r:Nat} {rest:List AV}:mB F key m (.bx r 0 :: rest) = mbB F r rest (look m r):=by
 show (match look m r with
  | some fam => (match (match F (bodyD ((fam 0).get 0)) rest with
    | some (ob,b) => some (((fam 0).get 0 = bodyC (bodyD ((fam 0).get 0))) :: ob,AV.tup [],bodyC b)
    | none => none) with
   | some (ob,val,cs) => some (⟨((fam 0).n = 1) :: (27 = (fam 0).sz) :: (cleanCs ((fam 0).get 0) = true) :: famOK r fam :: ob,val,.many [(r,wb1 fam cs)] none⟩:Eff)
   | none => none)
  | none => none) = _
 generalize look m r = x
 cases x with
 | none => rfl
 | some fam =>
  unfold mbB
  dsimp only
  generalize F (bodyD ((fam 0).get 0)) rest = y
  cases y <;> rfl
section
variable {P:Program} {G:Ctx} {H:Hots} {K0:AEx → St → Prop} {hot:Option Hot} {ops:Array Oper} {d:Option Tmp} {rest:List Oper} {i:Nat} {st:List Fr} {t:Slots} {m:Mem} {nx r:Nat} {fam fam':Bd → Fam} {o pre ob:List Prop} {b:Bd}
theorem stepC_mbQ:stepC P G H K0 hot ops d rest i st t m nx (withOb o (bndE (aMut none (mbQ r fam fam' pre (some (ob,b)))))) = (∀ b',b' = b → stepC P G H K0 hot ops d rest i st t m nx (withOb o (some ⟨pre ++ ob,.tup [],.many [(r,fam' b')] none⟩))):=by
 rw [bndE_eq]
 apply propext
 constructor
 ·rintro h b' rfl; exact h
 ·intro h; exact h b rfl
end
theorem iLim {x:Nb} {n:Int} (h:inR x.1):inR (limS x n).1 = True:=by
 refine inR_of ?_
 have h1:=whV_rg h
 have h2:=whV_rg (rg_inR (ftV_rg (-n * 4294967296)))
 have h3:=whV_rg (rg_inR (ftV_rg (n * 4294967296)))
 unfold limS nCl nInt rg at *
 dsimp only
 omega
theorem inB_push {b:Bd} (h:inB b) {v:V2} {w:Nb} (h1:inR v.1.1) (h2:inR v.2.1) (h3:inR w.1):inB { b with v:=v,w:=w }:=by
 obtain ⟨b1,b2,b3,b4,b5,b6,b7,b8,b9,b10,b11,b12,b13,b14,b15,b16⟩:=h
 exact ⟨b1,b2,b3,b4,b5,b6,b7,b8,b9,h1,h2,h3,b13,b14,b15,b16⟩
def boA (b:Bd):AV:=.agg (bodyC b)
theorem plain_boA {b:Bd}:plain 3 (boA b) = false:=(rfl)
section
variable {P:Program} {G:Ctx} {H:Hots} {K0:AEx → St → Prop} {hot:Option Hot} {ops:Array Oper} {d:Option Tmp} {rest:List Oper} {i:Nat} {st:List Fr} {t:Slots} {m:Mem} {nx:Nat} {o:List Prop} {u:Upd} {b:Bd}
theorem bindC_bbx {r k:Nat}:bindC P G H K0 hot ops d rest i st t m nx o u (bnd (.bx r k)) = bindC P G H K0 hot ops d rest i st t m nx o u (.bx r k):=(rfl)
theorem bindC_bptr {r f j sz k:Nat}:bindC P G H K0 hot ops d rest i st t m nx o u (bnd (.ptr r f j sz k)) = bindC P G H K0 hot ops d rest i st t m nx o u (.ptr r f j sz k):=(rfl)
theorem bindC_bown {r f n sz:Nat}:bindC P G H K0 hot ops d rest i st t m nx o u (bnd (.own r f n sz)) = bindC P G H K0 hot ops d rest i st t m nx o u (.own r f n sz):=(rfl)
theorem bindC_bnilP {x:Option Addr}:bindC P G H K0 hot ops d rest i st t m nx o u (bnd (.v (.pointer x))) = bindC P G H K0 hot ops d rest i st t m nx o u (.v (.pointer x)):=(rfl)
theorem bindL_bx {tag:Bool} {l cs:List AV} {r k:Nat}:bindL P G H K0 hot ops d rest i st t m nx o u tag l (.bx r k :: cs) = bindL P G H K0 hot ops d rest i st t m nx o u tag (l ++ [.bx r k]) cs:=bindL_skip
theorem bindL_ptr {tag:Bool} {l cs:List AV} {r f j sz k:Nat}:bindL P G H K0 hot ops d rest i st t m nx o u tag l (.ptr r f j sz k :: cs) = bindL P G H K0 hot ops d rest i st t m nx o u tag (l ++ [.ptr r f j sz k]) cs:=bindL_skip
theorem bindL_own {tag:Bool} {l cs:List AV} {r f n sz:Nat}:bindL P G H K0 hot ops d rest i st t m nx o u tag l (.own r f n sz :: cs) = bindL P G H K0 hot ops d rest i st t m nx o u tag (l ++ [.own r f n sz]) cs:=bindL_skip
theorem bindL_nilP {tag:Bool} {l cs:List AV} {x:Option Addr}:bindL P G H K0 hot ops d rest i st t m nx o u tag l (.v (.pointer x) :: cs) = bindL P G H K0 hot ops d rest i st t m nx o u tag (l ++ [.v (.pointer x)]) cs:=bindL_skip
theorem bindC_boA:bindC P G H K0 hot ops d rest i st t m nx o u (bnd (boA b)) = (∀ b',b' = b → bindC P G H K0 hot ops d rest i st t m nx o u (.agg (bodyC b'))):=by
 apply propext
 constructor
 ·rintro h b' rfl; exact h
 ·intro h; exact h b rfl
end
attribute [go_sem] plain_boA bindC_boA bindC_bbx bindC_bptr bindC_bown bindC_bnilP bindL_bx bindL_ptr bindL_own bindL_nilP
def mvS (b:Bd):Bool:=!(b.m.1 == 0 && b.i.1 == 0)
def idS (b:Bd):Bool:=!mvS b || b.sl || b.fa
def kw26:Con:=cB fun b rest => match rest with
 | [] => some ([inR b.m.1,inR b.i.1],bo (mvS b))
 | _ => none
theorem konw26:ConOK prog 55 kw26:=ConOK.cB (G:=[]) (H:=[]) .nil func55 fun b rest ob r hc hob => by
 split at hc
 ·cases hc
  refine ⟨by kernel_rfl,fnVC_go (rs:=[.tmp 2]) rfl rfl ?_⟩
  simp only [bodyC,go_sem]
  unfold mvS
  cases h1:b.m.1 == 0 <;> cases h2:b.i.1 == 0 <;> simp_all [bne]
 ·cases hc
def kw67:Con:=cB fun b rest => match rest with
 | [] => some ([inR b.m.1,inR b.i.1],bo (idS b))
 | _ => none
theorem konw67:ConOK prog 15 kw67:=ConOK.cB (G:=[(55,kw26)]) (H:=[]) (.cons konw26 .nil) func15 fun b rest ob r hc hob => by
 split at hc
 ·cases hc
  refine ⟨by kernel_rfl,fnVC_go (rs:=[.tmp 2]) rfl rfl ?_⟩
  have h0:inR b.m.1:=hob _ (by simp)
  have h1:inR b.i.1:=hob _ (by simp)
  simp only [bodyC,go_sem,kw26,cB_eq,bodyD_lit,gx_pts0,gx_pts1,etaN,etaV,bd_eta,h0,h1]
  simp only [forall_eq,true_and]
  rfl
 ·cases hc
def kw175:Con:=cBR fun b rest => match rest with
 | [.agg [.v (.int .i64 x),.v (.bool e),.v (.int .i64 y),.v (.bool f)]] => some ([inR b.pl.1.1,inR b.pl.2.1,inR x,inR y],veA (vSub ((x,e),(y,f)) b.pl))
 | _ => none
theorem konw175:ConOK prog 86 kw175:=ConOK.cBR (G:=[(114,k172)]) (H:=[(1,⟨[(8,.slot 4)],[]⟩)]) (.cons kon172 .nil) func86 fun b rest ob r hc hob => by
 split at hc
 ·rename_i x e y f
  cases hc
  have h0:inR b.pl.1.1:=hob _ (by simp)
  have h1:inR b.pl.2.1:=hob _ (by simp)
  have h2:inR x:=hob _ (by simp)
  have h3:inR y:=hob _ (by simp)
  refine ⟨by kernel_rfl,fnVC_go (rs:=[.cell 4 29]) rfl rfl ?_⟩
  simp only [bodyC,go_sem,k172,h0,h1,h2,h3]
  rfl
 ·cases hc
def wakS (b:Bd):Bd:=if mvS b && !b.fa then { b with sl:=false,st:=0 } else b
def kw134:MCon:=mB fun b rest => match rest with
 | [] => some ([inB b],wakS b)
 | _ => none
theorem konw134:MConOK prog 53 kw134:=MConOK.mB (G:=[(55,kw26)]) (H:=[]) (.cons konw26 .nil) func53 fun b rest ob r hc hob => by
 split at hc
 ·cases hc
  refine ⟨by simp,by kernel_rfl,fun fam f i hi hsz hg hk => bodyM_go (rs:=[]) rfl rfl ?_⟩
  have hb:inB b:=hob _ (by simp)
  obtain ⟨b1,b2,b3,b4,b5,b6,b7,b8,b9,b10,b11,b12,b13,b14,b15,b16⟩:=hb
  simp only [bodyC,go_sem,kw26,cB_eq,bodyD_lit,gx_pts0,gx_pts1,etaN,etaV,bd_eta,hi,hg,hk,← hsz,b13,b14]
  simp only [forall_eq,true_and,implies_true]
  refine ⟨fun h => ?_,fun h => ?_⟩
  ·have e:wakS b = { b with sl:=false,st:=0 }:=if_pos (by simp [h])
   rw [e,bodyR]; rfl
  ·have e:wakS b = b:=if_neg (by simp only [h]; simp)
   rw [e,bodyR]; rfl
 ·cases hc
def rstS (b:Bd):Bd:={ b with v:=((0,false),(0,false)),w:=(0,false),sl:=true }
def kw124:MCon:=mB fun b rest => match rest with
 | [] => some ([],rstS b)
 | _ => none
theorem konw124:MConOK prog 46 kw124:=MConOK.mB (G:=[]) (H:=[]) .nil func46 fun b rest ob r hc hob => by
 split at hc
 ·cases hc
  refine ⟨by simp,by kernel_rfl,fun fam f i hi hsz hg hk => bodyM_go (rs:=[]) rfl rfl ?_⟩
  simp only [bodyC,go_sem,cB_eq,bodyD_lit,gx_pts0,gx_pts1,etaN,etaV,bd_eta,hi,hg,hk,← hsz]
  rfl
 ·cases hc
def shfS (b:Bd) (p:V2):Bd:=if !idS b && (withS p.1 4096 && withS p.2 4096) then { b with pl:=p } else b
def kw123:Con
 | [.v (.int .i64 n),.ro 1 2 g] => some ([nums 1 g,0 ≤ n ∧ n ≤ 65536],bo (withS (gx g 0 0,gb g 1 0) n))
 | [.v (.int .i64 n),.ro 2 2 g] => some ([nums 2 g,0 ≤ n ∧ n ≤ 65536],bo (withS (gx g 0 0,gb g 1 0) n && withS (gx g 0 1,gb g 1 1) n))
 | _ => none
theorem vc45 (m:Nat) (hm:m ≤ 1000) (n:Int) (hn:0 ≤ n ∧ n ≤ 65536) (X:Nat → Int) (E:Nat → Bool) (hX:∀ i,i < m → inR (X i)):fnVC prog [(68,kSum)] [] Tryz.f45 [.v (.int .i64 n),.ro m 2 fun i => [i64 (X i),bo (E i)]] (· = bo (decide (∀ i,i < m → withS (X i,E i) n = true))):=by
 refine fnVC_go (rs:=[.tmp 4]) rfl rfl ?_
 simp only [go_sem,kSum]
 refine loopC_go (fun (i:Nat) => i ≤ m ∧ ∀ j,j < i → withS (X j,E j) n = true) (fun i => m - i) (fun i => [(9,i64 (i:Int))]) (fun _ => []) [] [10,11,12,6,13,14,15,16,17,18,19,20,21,22,23,24,25,26,27,28,4,29,9] 0 (by kernel_rfl) ?_ ⟨Nat.zero_le _,fun j hj => by omega⟩ ?_ ?_
 ·intro x _; simp [goodNames,asg]
 ·simp only [go_sem]
 intro i hi
 simp only [go_sem,kSum]
 have hw:IntKind.i64.wrap (n * 4294967296) = n * 4294967296:=wrap_in (inRo (by omega))
 refine ⟨fun h => ⟨by omega,h,hX i (by omega),fun z hz z1 hz1 z2 hz2 => ?_⟩,fun h => ?_⟩
 ·have hi':i < m:=by omega
  have hx:=hX i hi'
  have key:withS (X i,E i) n = true ↔ (nWh (X i,E i)).2 = false ∧ ¬ z2 < z1:=by
   rw [hw] at hz2
   have hwr:=whV_rg hx
   unfold rg at hwr
   have e0:(nWh (X i,E i)).1 = whV (X i):=rfl
   have e1:(nWh (X i,E i)).2 = whF (X i) (E i):=rfl
   rw [e0] at hz hz1
   rw [wrap_in (inRo (by omega))] at hz
   unfold withS
   rw [e1]
   cases hf:whF (X i) (E i) with
   | true => simp
   | false =>
    have hne:¬ X i = -9223372036854775808:=by
     intro e; unfold whF at hf; simp [e] at hf
    have ev:whV (X i) = X i:=by unfold whV; rw [if_neg hne]
    rw [ev] at hz hz1
    simp only [Bool.not_false,Bool.true_and,decide_eq_true_eq,true_and]
    omega
  refine ⟨fun hb => ?_,fun hb z3 hz3 => ⟨i + 1,⟨by omega,fun j hj => ?_⟩,by omega,by rw [hz3,wrap_in (inRo (by omega))]; rfl⟩⟩
  ·refine (decide_eq_false fun hc => ?_).symm
   have:=key.1 (hc i hi')
   rcases hb with hb | hb
   ·rw [this.1] at hb; cases hb
   ·exact this.2 hb
  ·by_cases e:j = i
   ·subst e; exact key.2 hb
   ·exact hi.2 j (by omega)
 ·exact (decide_eq_true fun j hj => hi.2 j (by omega)).symm
theorem dec_lt1 {p:Nat → Bool}:decide (∀ i:Nat,i < 1 → p i = true) = p 0:=by
 cases h:p 0
 ·refine decide_eq_false fun hc => ?_
  rw [hc 0 (by omega)] at h; cases h
 ·refine decide_eq_true fun i hi => ?_
  have:i = 0:=by omega
  subst this; exact h
theorem dec_lt2 {p:Nat → Bool}:decide (∀ i:Nat,i < 2 → p i = true) = (p 0 && p 1):=by
 cases h:p 0
 ·refine decide_eq_false fun hc => ?_
  rw [hc 0 (by omega)] at h; cases h
 ·cases h1:p 1
  ·refine decide_eq_false fun hc => ?_
   rw [hc 1 (by omega)] at h1; cases h1
  ·refine decide_eq_true fun i hi => ?_
   match i with
   | 0 => exact h
   | 1 => exact h1
   | i + 2 => omega
theorem konw123:ConOK prog 45 kw123:=ConOK.go (G:=[(68,kSum)]) (H:=[]) (.cons konS179 .nil) func45 fun l ob rr hc hob => by
 unfold kw123 at hc
 split at hc
 ·rename_i n g
  cases hc
  have hg:nums 1 g:=hob _ (by simp)
  refine ⟨[.v (.int .i64 n),.ro 1 2 fun i => [i64 (gx g 0 i),bo (gb g 1 i)]],fun w I vs h => ?_,by kernel_rfl,?_⟩
  ·exact Rs_two (fun v hv => hv) (fun v hv => ro_alike (fun i hi => (hg i hi).1) hv) h
  ·have:=vc45 1 (by omega) n (hob _ (by simp)) (gx g 0) (gb g 1) fun i hi => (hg i hi).2
   rw [dec_lt1] at this
   exact this
 ·rename_i n g
  cases hc
  have hg:nums 2 g:=hob _ (by simp)
  refine ⟨[.v (.int .i64 n),.ro 2 2 fun i => [i64 (gx g 0 i),bo (gb g 1 i)]],fun w I vs h => ?_,by kernel_rfl,?_⟩
  ·exact Rs_two (fun v hv => hv) (fun v hv => ro_alike (fun i hi => (hg i hi).1) hv) h
  ·have:=vc45 2 (by omega) n (hob _ (by simp)) (gx g 0) (gb g 1) fun i hi => (hg i hi).2
   rw [dec_lt2] at this
   exact this
 ·cases hc
def kw156:MCon:=mB fun b rest => match rest with
 | [.agg [.v (.int .i64 x),.v (.bool e),.v (.int .i64 y),.v (.bool f)]] => some ([inB b,inR x,inR y],shfS b ((x,e),(y,f)))
 | _ => none
theorem konw156:MConOK prog 113 kw156:=MConOK.mB (G:=[(15,kw67),(45,kw123)]) (H:=[]) (.cons konw67 (.cons konw123 .nil)) func113 fun b rest ob r hc hob => by
 split at hc
 ·rename_i x e y f
  cases hc
  refine ⟨by simp [clean],by kernel_rfl,fun fam f' i hi hsz hg hk => bodyM_go (rs:=[]) rfl rfl ?_⟩
  have hb:inB b:=hob _ (by simp)
  have h1:inR x:=hob _ (by simp)
  have h2:inR y:=hob _ (by simp)
  obtain ⟨b1,b2,b3,b4,b5,b6,b7,b8,b9,b10,b11,b12,b13,b14,b15,b16⟩:=hb
  simp only [bodyC,go_sem,kw67,kw123,cB_eq,bodyD_lit,gx_pts0,gx_pts1,etaN,etaV,bd_eta,hi,hg,hk,← hsz,b13,b14,nums_rows,gx_rows1,gx_rows2,gb_rows1,gb_rows2,h1,h2]
  simp only [forall_eq,true_and,implies_true]
  refine ⟨fun h => ?_,fun h => ?_⟩
  ·have e:shfS b ((x,e),(y,f)) = { b with pl:=((x,e),(y,f)) }:=if_pos (by simp [h])
   rw [e,bodyR]; rfl
  ·have e:shfS b ((x,e),(y,f)) = b:=if_neg (by rw [h]; simp)
   rw [e,bodyR]; rfl
 ·cases hc
def pshS (b:Bd) (p j:V2):Bd:=if !mvS b || b.fa then b else
 let c:Bd:={ b with v:=limV (vAdd b.v (vScale j b.m)),w:=limS (nAdd b.w (nMul b.i (vCross (vSub p b.pl) j))) 64 }
 if b.sl then wakS c else c
def kw115:MCon:=mB fun b rest => match rest with
 | [.agg [.v (.int .i64 x),.v (.bool e),.v (.int .i64 y),.v (.bool f)],.agg [.v (.int .i64 z),.v (.bool g),.v (.int .i64 u),.v (.bool h)]] => some ([inB b,inR x,inR y,inR z,inR u],pshS b ((x,e),(y,f)) ((z,g),(u,h)))
 | _ => none
theorem konw115:MConOK prog 42 kw115:=MConOK.mB (G:=[(55,kw26),(86,kw175),(85,k250),(47,k129),(44,k169),(43,k130),(54,kw120),(88,kw153),(87,kw176l),(53,.wr kw134)]) (H:=[(2,⟨[(13,.made 12)],[]⟩),(3,⟨[(20,.slot 0)],[]⟩),(4,⟨[(12,.slot 0)],[]⟩)]) (.cons konw26 (.cons konw175 (.cons kon250 (.cons kon129 (.cons kon169 (.cons kon130 (.cons konw120 (.cons konw153 (.cons konw176l (.mcons konw134 .nil)))))))))) func42 fun b rest ob r hc hob => by
 split at hc
 ·rename_i x e y f z g u h
  cases hc
  refine ⟨by simp [clean],by kernel_rfl,fun fam f' i hi hsz hg hk => bodyM_go (rs:=[]) rfl rfl ?_⟩
  have hb:inB b:=hob _ (by simp)
  have h1:inR x:=hob _ (by simp)
  have h2:inR y:=hob _ (by simp)
  have h3:inR z:=hob _ (by simp)
  have h4:inR u:=hob _ (by simp)
  obtain ⟨b1,b2,b3,b4,b5,b6,b7,b8,b9,b10,b11,b12,b13,b14,b15,b16⟩:=hb
  simp only [bodyC,go_sem,kw26,kw175,k250,k129,k169,k130,kw120,kw153,kw176l,kw134,cB_eq,cBR_eq,bodyD_lit,gx_pts0,gx_pts1,etaN,etaV,bd_eta,mB_ptr,mbP_some,stepC_mbQ,hi,hg,hk,← hsz,b1,b2,b3,b4,b6,b7,b8,b9,b10,b11,b12,b13,b14,b15,b16,vecs_rows,gx4_1,gx4_2,gx4_3,gx4_4,gb4_1,gb4_2,gb4_3,gb4_4,nums_rows,gx_rows1,gx_rows2,gb_rows1,gb_rows2,iMul,iAdd,iDot,iVCross,iVSub1,iVSub2,iVAdd1,iVAdd2,iScale1,iScale2,h1,h2,h3,h4]
  intro z1 hz1
  subst hz1
  simp only [true_and,implies_true]
  have hc0:∀ v:V2,∀ w:Nb,inR v.1.1 → inR v.2.1 → inR w.1 → inB { b with v:=v,w:=w }:=fun v w q1 q2 q3 => inB_push (hob _ (by simp)) q1 q2 q3
  refine ⟨fun hh => ?_,fun hh => ⟨fun hs b' hb' => ⟨hc0 _ _ (of_eq_true (iLim (of_eq_true iVAdd1))) (of_eq_true (iLim (of_eq_true iVAdd2))) (of_eq_true (iLim (of_eq_true iAdd))),?_⟩,fun hs => ?_⟩⟩
  ·have e:pshS b ((x,e),(y,f)) ((z,g),(u,h)) = b:=if_pos (by simpa using hh)
   rw [e,bodyR]; rfl
  ·have e:pshS b ((x,e),(y,f)) ((z,g),(u,h)) = b':=by
    rw [hb']
    unfold pshS
    rw [if_neg (by simp [hh]),if_pos hs]
    rfl
   rw [e,bodyR]; rfl
  ·have e:pshS b ((x,e),(y,f)) ((z,g),(u,h)) = { b with v:=limV (vAdd b.v (vScale ((z,g),(u,h)) b.m)),w:=limS (nAdd b.w (nMul b.i (vCross (vSub ((x,e),(y,f)) b.pl) ((z,g),(u,h))))) 64 }:=by
    unfold pshS
    rw [if_neg (by simp [hh]),if_neg (by simp [hs])]
   rw [e,bodyR]; rfl
 ·cases hc
theorem iTurn1 {k:Nb} {v:V2}:inR (vTurn k v).1.1 = True:=iMul
theorem iTurn2 {k:Nb} {v:V2}:inR (vTurn k v).2.1 = True:=iMul
attribute [go_sem] iTurn1 iTurn2
theorem spots_can {n:Nat} {X Y:Nat → Int}:spots n (fun j => [i64 (X j),i64 (Y j)]) = (∀ j,j < n → inR (X j) ∧ inR (Y j)):=propext ⟨fun h j hj => (h j hj).2,fun h j hj => ⟨rfl,h j hj⟩⟩
theorem tmod_turn {v:Int}:-26986075409 < v.tmod 26986075409 ∧ v.tmod 26986075409 < 26986075409:=by
 have h1:=Int.tmod_lt_of_pos v (show (0:Int) < 26986075409 by decide)
 rcases Int.le_total 0 v with h | h
 ·have:=Int.tmod_nonneg 26986075409 h; omega
 ·have e:v.tmod 26986075409 = -((-v).tmod 26986075409):=by rw [Int.neg_tmod,Int.neg_neg]
  have:=Int.tmod_lt_of_pos (-v) (show (0:Int) < 26986075409 by decide)
  omega
def c244:Con
 | [.agg [.v (.int .i64 v),.v (.bool f)]] => some ([inR v],.agg [i64 (wpV (whV v)),bo (whF v f)])
 | _ => none
theorem con244:ConOK prog 244 c244:=ConOK.of (G:=[(89,c89)]) (H:=[]) (.cons con89 .nil) func244 fun l ob rr hc hob => by
 unfold c244 at hc
 split at hc
 ·rename_i v f
  cases hc
  have h_0:=ob0 hob
  refine ⟨by kernel_rfl,fnVC_go (rs:=[.cell 2 27]) rfl rfl ?_⟩
  simp only [go_sem,c89,iMul,iDiv,iInt,iAdd,iSub,iRat,iDot,iHyp,iSq,iNeg,iPos,iAbs,iMx,iMn,iCl,iWh,iLoc1,iLoc2,iVAdd1,iVAdd2,iVSub1,iVSub2,iScale1,iScale2,iVDot,iVCross,iLen,iOf1,iOf2,iUnit1,iUnit2,h_0]
  intro z hz z1 hz1 z2 hz2
  subst hz hz1
  have hb:-26986075409 < z2 ∧ z2 < 26986075409:=by rw [hz2]; exact tmod_turn
  have e:wpV (whV v) = if 13493037704 < z2 then z2 - 26986075409 else if z2 < -13493037704 then z2 + 26986075409 else z2:=by rw [hz2]; rfl
  rw [e]
  refine ⟨fun h z hz => ?_,fun h => ⟨fun h3 z hz => ?_,fun h3 => ?_⟩⟩
  ·rw [hz,wrap_in (inRo (by omega)),if_pos h]
  ·rw [hz,wrap_in (inRo (by omega)),if_neg h,if_pos h3]
  ·rw [if_neg h,if_neg h3]
 ·cases hc
def c117:Con
 | [.v (.int .i64 v)] => some ([inR v],.agg [i64 (whV v),bo (whF v false)])
 | _ => none
theorem con117:ConOK prog 117 c117:=ConOK.of (G:=[(89,c89)]) (H:=[]) (.cons con89 .nil) func117 fun l ob rr hc hob => by
 unfold c117 at hc
 split at hc
 ·rename_i v
  cases hc
  have h_0:=ob0 hob
  refine ⟨by kernel_rfl,fnVC_go (rs:=[.cell 2 27]) rfl rfl ?_⟩
  simp only [go_sem,c89,iMul,iDiv,iInt,iAdd,iSub,iRat,iDot,iHyp,iSq,iNeg,iPos,iAbs,iMx,iMn,iCl,iWh,iLoc1,iLoc2,iVAdd1,iVAdd2,iVSub1,iVSub2,iScale1,iScale2,iVDot,iVCross,iLen,iOf1,iOf2,iUnit1,iUnit2,h_0]
  simp only [forall_eq]
 ·cases hc
theorem byt116:bytesT prog 116 = 16:=by kernel_rfl
theorem vc63 (k r w t:Int) (n:Nat) (X Y:Nat → Int) (hn:n ≤ 1000):fnVC prog [] [] Tryz.f63 [shapeA k r w t n fun i => [i64 (X i),i64 (Y i)]] (· = shapeA k r w t n fun i => [i64 (X i),i64 (Y i)]):=by
 refine fnVC_go (rs:=[.cell 2 32]) rfl rfl ?_
 simp only [go_sem]
 exact ⟨fun _ _ => rfl,by rw [byt116]; omega,by omega⟩
def c63:Con
 | [.agg [.v (.int .i64 k),.v (.int .i64 r),.v (.int .i64 w),.v (.int .i64 t),.ro n 2 g]] => some ([spots n g,n ≤ 1000],.agg [i64 k,i64 r,i64 w,i64 t,.ro n 2 fun i => [i64 (gx g 0 i),i64 (gx g 1 i)]])
 | _ => none
theorem con63:ConOK prog 63 c63:=ConOK.go (G:=[]) (H:=[]) .nil func63 fun l ob rr hc hob => by
 unfold c63 at hc
 split at hc
 ·rename_i k r w t n g
  cases hc
  have h_0:=ob0 hob
  have h_1:=ob1 hob
  exact ⟨[shapeA k r w t n fun i => [i64 (gx g 0 i),i64 (gx g 1 i)]],fun w I vs h => Rs_one (Rs_shape h_0) h,by kernel_rfl,vc63 k r w t n _ _ h_1⟩
 ·cases hc
theorem vc82 (k r w t:Int) (n:Nat) (X Y:Nat → Int) (hn:n ≤ 1000):fnVC prog [] [] Tryz.f82 [shapeA k r w t n fun i => [i64 (X i),i64 (Y i)]] (· = shapeA k r w t n fun i => [i64 (X i),i64 (Y i)]):=by
 refine fnVC_go (rs:=[.cell 2 32]) rfl rfl ?_
 simp only [go_sem,Nat.zero_add,Nat.not_lt_zero,if_false,Nat.sub_zero]
 exact ⟨fun _ _ => rfl,by rw [byt116]; omega,by omega⟩
def c82:Con
 | [.agg [.v (.int .i64 k),.v (.int .i64 r),.v (.int .i64 w),.v (.int .i64 t),.ro n 2 g]] => some ([spots n g,n ≤ 1000],.agg [i64 k,i64 r,i64 w,i64 t,.ro n 2 fun i => [i64 (gx g 0 i),i64 (gx g 1 i)]])
 | _ => none
theorem con82:ConOK prog 82 c82:=ConOK.go (G:=[]) (H:=[]) .nil func82 fun l ob rr hc hob => by
 unfold c82 at hc
 split at hc
 ·rename_i k r w t n g
  cases hc
  have h_0:=ob0 hob
  have h_1:=ob1 hob
  exact ⟨[shapeA k r w t n fun i => [i64 (gx g 0 i),i64 (gx g 1 i)]],fun w I vs h => Rs_one (Rs_shape h_0) h,by kernel_rfl,vc82 k r w t n _ _ h_1⟩
 ·cases hc
def kb84:Con:=cB fun b rest => match rest with
 | [] => some ([inB b,b.n ≤ 1000],boA b)
 | _ => none
theorem konb84:ConOK prog 84 kb84:=ConOK.cB (G:=[(63,c63)]) (H:=[]) (.cons con63 .nil) func84 fun b rest ob r hc hob => by
 split at hc
 ·skip
  cases hc
  have h_0:=ob0 hob
  have h_1:=ob1 hob
  obtain ⟨b1,b2,b3,b4,b5,b6,b7,b8,b9,b10,b11,b12,b13,b14,b15,b16⟩:=h_0
  have hb:inB b:=hob _ (by simp)
  refine ⟨by kernel_rfl,fnVC_go (rs:=[.cell 2 40]) rfl rfl ?_⟩
  simp only [bodyC,go_sem,c63,cB_eq,cBR_eq,bodyD_lit,gx_pts0,gx_pts1,spots_can,etaN,etaV,bd_eta,b1,b2,b3,b4,b6,b7,b8,b9,b10,b11,b12,b13,b14,b15,b16,hb,h_1]
  simp only [forall_eq]
  exact ⟨b5,rfl⟩
 ·cases hc
def spdS (b:Bd) (p:V2):V2:=vAdd b.v (vTurn b.w (vSub p b.pl))
def hftS (b:Bd) (p n:V2):Nb:=nAdd b.m (nMul b.i (nMul (vCross (vSub p b.pl) n) (vCross (vSub p b.pl) n)))
def kb169:Con:=cBR fun b rest => match rest with
 | [.agg [.v (.int .i64 x),.v (.bool e),.v (.int .i64 y),.v (.bool f)]] => some ([inB b,inR x,inR y],veA (spdS b ((x,e),(y,f))))
 | _ => none
theorem konb169:ConOK prog 169 kb169:=ConOK.cBR (G:=[(86,kw175),(246,kw218),(43,k130)]) (H:=[(1,⟨[(16,.slot 4)],[]⟩)]) (.cons konw175 (.cons konw218 (.cons kon130 .nil))) func169 fun b rest ob r hc hob => by
 split at hc
 ·rename_i x e y f
  cases hc
  have h_0:=ob0 hob
  have h_1:=ob1 hob
  have h_2:=ob2 hob
  obtain ⟨b1,b2,b3,b4,b5,b6,b7,b8,b9,b10,b11,b12,b13,b14,b15,b16⟩:=h_0
  have hb:inB b:=hob _ (by simp)
  refine ⟨by kernel_rfl,fnVC_go (rs:=[.cell 4 29]) rfl rfl ?_⟩
  simp only [bodyC,go_sem,kw175,kw218,k130,cB_eq,cBR_eq,bodyD_lit,gx_pts0,gx_pts1,spots_can,etaN,etaV,bd_eta,b1,b2,b3,b4,b6,b7,b8,b9,b10,b11,b12,b13,b14,b15,b16,hb,h_1,h_2]
  rfl
 ·cases hc
def kb173:Con:=cBR fun b rest => match rest with
 | [.agg [.v (.int .i64 x),.v (.bool e),.v (.int .i64 y),.v (.bool f)],.agg [.v (.int .i64 z),.v (.bool g),.v (.int .i64 u),.v (.bool h)]] => some ([inB b,inR x,inR y,inR z,inR u],nbA (hftS b ((x,e),(y,f)) ((z,g),(u,h))))
 | _ => none
theorem konb173:ConOK prog 173 kb173:=ConOK.cBR (G:=[(86,kw175),(85,k250),(47,k129),(88,kw153)]) (H:=[(1,⟨[(6,.made 5)],[]⟩),(2,⟨[(17,.slot 6)],[]⟩)]) (.cons konw175 (.cons kon250 (.cons kon129 (.cons konw153 .nil)))) func173 fun b rest ob r hc hob => by
 split at hc
 ·rename_i x e y f z g u h
  cases hc
  have h_0:=ob0 hob
  have h_1:=ob1 hob
  have h_2:=ob2 hob
  have h_3:=ob3 hob
  have h_4:=ob4 hob
  obtain ⟨b1,b2,b3,b4,b5,b6,b7,b8,b9,b10,b11,b12,b13,b14,b15,b16⟩:=h_0
  have hb:inB b:=hob _ (by simp)
  refine ⟨by kernel_rfl,fnVC_go (rs:=[.cell 6 27]) rfl rfl ?_⟩
  simp only [bodyC,go_sem,kw175,k250,k129,kw153,cB_eq,cBR_eq,bodyD_lit,gx_pts0,gx_pts1,spots_can,etaN,etaV,bd_eta,b1,b2,b3,b4,b6,b7,b8,b9,b10,b11,b12,b13,b14,b15,b16,hb,h_1,h_2,h_3,h_4]
  rfl
 ·cases hc
def c164:Con
 | [.agg [.v (.int .i64 v),.v (.bool f)]] => some ([inR v],.agg [i64 (snV v f),bo (snF v f)])
 | _ => none
theorem con164:ConOK prog 164 c164:=ConOK.of (G:=[(244,c244),(47,k129),(103,k127),(78,k168),(112,k179),(88,kw153),(102,k171)]) (H:=[(6,⟨[(4,.made 2),(5,.made 3)],[(1,[.made 2])]⟩),(11,⟨[(12,.slot 4)],[]⟩),(14,⟨[(4,.slot 2)],[]⟩)]) (.cons con244 (.cons kon129 (.cons kon127 (.cons kon168 (.cons kon179 (.cons konw153 (.cons kon171 .nil))))))) func164 fun l ob rr hc hob => by
 unfold c164 at hc
 split at hc
 ·rename_i v f
  cases hc
  have h_0:=ob0 hob
  refine ⟨by kernel_rfl,fnVC_go (rs:=[.cell 2 27]) rfl rfl ?_⟩
  simp only [go_sem,c244,k129,k127,k168,k179,kw153,k171,iMul,iDiv,iInt,iAdd,iSub,iRat,iDot,iHyp,iSq,iNeg,iPos,iAbs,iMx,iMn,iCl,iWh,iLoc1,iLoc2,iVAdd1,iVAdd2,iVSub1,iVSub2,iScale1,iScale2,iVDot,iVCross,iLen,iOf1,iOf2,iUnit1,iUnit2,h_0]
  intro z hz z1 hz1
  have hw:=wpV_le (v:=whV v)
  rw [← hz] at hw
  obtain ⟨y,hy⟩:∃ y:Nb,y = snY v f:=⟨_,rfl⟩
  have y2:z1 = y.2:=by rw [hy]; exact hz1
  have yq:y.1 = qtV z:=by rw [hy,hz]; rfl
  have yi:inR y.1:=by rw [yq]; unfold qtV inR; (repeat' split) <;> omega
  have ev:snV v f = max (-4294967296) (min (whV (snS y 8).1) 4294967296):=by rw [hy]; rfl
  have ef:snF v f = whF (snS y 8).1 (snS y 8).2:=by rw [hy]; rfl
  rw [ev,ef]
  clear ev ef hy hz hz1
  refine ⟨fun h z2 hz2 => ?_,fun h => ⟨fun h2 z3 hz3 => ?_,fun h2 => ?_⟩⟩
  ·have e:z2 = y.1:=by rw [hz2,wrap_in (inRo (by omega)),yq]; unfold qtV; rw [if_pos h,if_neg (by omega)]
   subst e
   subst y2
   refine loopC_go (fun (k:Nat) => k ≤ 8) (fun k => 8 - k) (fun k => [(28,i64 (k:Int))]) (fun k => [(18,fam1 27 2 [i64 (snS y k).1,bo (snS y k).2] none),(17,fam1 27 2 [i64 (snT y k).1,bo (snT y k).2] none)]) [4,1,0] [29,30,6,31,32,33,7,34,35,36,37,38,39,40,41,42,43,44,45,46,47,48,49,28] 0 (by kernel_rfl) ?_ (by omega) ?_ ?_
   ·intro x _; simp [goodNames,asg]
   ·simp only [go_sem,snT,snS]
   intro k hk
   simp only [go_sem,c244,k129,k127,k168,k179,kw153,k171]
   refine ⟨fun hk8 => ?_,fun hk8 => ?_⟩
   ·have n1:0 ≤ 2 * ((k:Int) + 1) * (2 * ((k:Int) + 1) + 1):=Int.mul_nonneg (by omega) (by omega)
    have n2:2 * ((k:Int) + 1) * (2 * ((k:Int) + 1) + 1) ≤ 16 * 17:=Int.mul_le_mul (by omega) (by omega) (by omega) (by omega)
    have w0:IntKind.i64.wrap ((k:Int) + 1) = (k:Int) + 1:=wrap_in (inRo (by omega))
    have w1:IntKind.i64.wrap (2 * ((k:Int) + 1)) = 2 * ((k:Int) + 1):=wrap_in (inRo (by omega))
    have w2:IntKind.i64.wrap (2 * ((k:Int) + 1) + 1) = 2 * ((k:Int) + 1) + 1:=wrap_in (inRo (by omega))
    have w3:IntKind.i64.wrap (2 * ((k:Int) + 1) * (2 * ((k:Int) + 1) + 1)) = 2 * ((k:Int) + 1) * (2 * ((k:Int) + 1) + 1):=wrap_in (inRo (by omega))
    simp only [forall_eq,w0,w1,w2,w3]
    exact ⟨snT_in yi k,yi,yi,inRo (by omega),snS_in yi k,k + 1,by omega,by omega,rfl,⟨rfl,rfl⟩,rfl,rfl⟩
   ·have e8:k = 8:=by omega
    subst e8
    refine ⟨snS_in yi 8,agg2 (i64_eq ?_) (bo_eq ?_)⟩
    ·unfold nCl
     have c1:whV (nInt (-1)).1 = -4294967296:=by decide
     have c2:whV (nInt 1).1 = 4294967296:=by decide
     simp only [c1,c2]
    ·unfold nCl
     have c1:whF (nInt (-1)).1 (nInt (-1)).2 = false:=by decide
     have c2:whF (nInt 1).1 (nInt 1).2 = false:=by decide
     simp only [c1,c2,Bool.or_false,Bool.false_or]
  ·have e:z3 = y.1:=by rw [hz3,wrap_in (inRo (by omega)),yq]; unfold qtV; rw [if_neg h,if_pos h2]
   subst e
   subst y2
   refine loopC_go (fun (k:Nat) => k ≤ 8) (fun k => 8 - k) (fun k => [(28,i64 (k:Int))]) (fun k => [(22,fam1 27 2 [i64 (snS y k).1,bo (snS y k).2] none),(21,fam1 27 2 [i64 (snT y k).1,bo (snT y k).2] none)]) [4,1,0] [29,30,6,31,32,33,7,34,35,36,37,38,39,40,41,42,43,44,45,46,47,48,49,28] 0 (by kernel_rfl) ?_ (by omega) ?_ ?_
   ·intro x _; simp [goodNames,asg]
   ·simp only [go_sem,snT,snS]
   intro k hk
   simp only [go_sem,c244,k129,k127,k168,k179,kw153,k171]
   refine ⟨fun hk8 => ?_,fun hk8 => ?_⟩
   ·have n1:0 ≤ 2 * ((k:Int) + 1) * (2 * ((k:Int) + 1) + 1):=Int.mul_nonneg (by omega) (by omega)
    have n2:2 * ((k:Int) + 1) * (2 * ((k:Int) + 1) + 1) ≤ 16 * 17:=Int.mul_le_mul (by omega) (by omega) (by omega) (by omega)
    have w0:IntKind.i64.wrap ((k:Int) + 1) = (k:Int) + 1:=wrap_in (inRo (by omega))
    have w1:IntKind.i64.wrap (2 * ((k:Int) + 1)) = 2 * ((k:Int) + 1):=wrap_in (inRo (by omega))
    have w2:IntKind.i64.wrap (2 * ((k:Int) + 1) + 1) = 2 * ((k:Int) + 1) + 1:=wrap_in (inRo (by omega))
    have w3:IntKind.i64.wrap (2 * ((k:Int) + 1) * (2 * ((k:Int) + 1) + 1)) = 2 * ((k:Int) + 1) * (2 * ((k:Int) + 1) + 1):=wrap_in (inRo (by omega))
    simp only [forall_eq,w0,w1,w2,w3]
    exact ⟨snT_in yi k,yi,yi,inRo (by omega),snS_in yi k,k + 1,by omega,by omega,rfl,⟨rfl,rfl⟩,rfl,rfl⟩
   ·have e8:k = 8:=by omega
    subst e8
    refine ⟨snS_in yi 8,agg2 (i64_eq ?_) (bo_eq ?_)⟩
    ·unfold nCl
     have c1:whV (nInt (-1)).1 = -4294967296:=by decide
     have c2:whV (nInt 1).1 = 4294967296:=by decide
     simp only [c1,c2]
    ·unfold nCl
     have c1:whF (nInt (-1)).1 (nInt (-1)).2 = false:=by decide
     have c2:whF (nInt 1).1 (nInt 1).2 = false:=by decide
     simp only [c1,c2,Bool.or_false,Bool.false_or]
  ·have e:z = y.1:=by rw [yq]; unfold qtV; rw [if_neg h,if_neg h2]
   subst e
   subst y2
   refine loopC_go (fun (k:Nat) => k ≤ 8) (fun k => 8 - k) (fun k => [(28,i64 (k:Int))]) (fun k => [(17,fam1 27 2 [i64 (snS y k).1,bo (snS y k).2] none),(16,fam1 27 2 [i64 (snT y k).1,bo (snT y k).2] none)]) [4,1,0] [29,30,6,31,32,33,7,34,35,36,37,38,39,40,41,42,43,44,45,46,47,48,49,28] 0 (by kernel_rfl) ?_ (by omega) ?_ ?_
   ·intro x _; simp [goodNames,asg]
   ·simp only [go_sem,snT,snS]
   intro k hk
   simp only [go_sem,c244,k129,k127,k168,k179,kw153,k171]
   refine ⟨fun hk8 => ?_,fun hk8 => ?_⟩
   ·have n1:0 ≤ 2 * ((k:Int) + 1) * (2 * ((k:Int) + 1) + 1):=Int.mul_nonneg (by omega) (by omega)
    have n2:2 * ((k:Int) + 1) * (2 * ((k:Int) + 1) + 1) ≤ 16 * 17:=Int.mul_le_mul (by omega) (by omega) (by omega) (by omega)
    have w0:IntKind.i64.wrap ((k:Int) + 1) = (k:Int) + 1:=wrap_in (inRo (by omega))
    have w1:IntKind.i64.wrap (2 * ((k:Int) + 1)) = 2 * ((k:Int) + 1):=wrap_in (inRo (by omega))
    have w2:IntKind.i64.wrap (2 * ((k:Int) + 1) + 1) = 2 * ((k:Int) + 1) + 1:=wrap_in (inRo (by omega))
    have w3:IntKind.i64.wrap (2 * ((k:Int) + 1) * (2 * ((k:Int) + 1) + 1)) = 2 * ((k:Int) + 1) * (2 * ((k:Int) + 1) + 1):=wrap_in (inRo (by omega))
    simp only [forall_eq,w0,w1,w2,w3]
    exact ⟨snT_in yi k,yi,yi,inRo (by omega),snS_in yi k,k + 1,by omega,by omega,rfl,⟨rfl,rfl⟩,rfl,rfl⟩
   ·have e8:k = 8:=by omega
    subst e8
    refine ⟨snS_in yi 8,agg2 (i64_eq ?_) (bo_eq ?_)⟩
    ·unfold nCl
     have c1:whV (nInt (-1)).1 = -4294967296:=by decide
     have c2:whV (nInt 1).1 = 4294967296:=by decide
     simp only [c1,c2]
    ·unfold nCl
     have c1:whF (nInt (-1)).1 (nInt (-1)).2 = false:=by decide
     have c2:whF (nInt 1).1 (nInt 1).2 = false:=by decide
     simp only [c1,c2,Bool.or_false,Bool.false_or]
 ·cases hc
def c163:Con
 | [.agg [.v (.int .i64 v),.v (.bool f)]] => some ([inR v],.agg [i64 (csV v f),bo (csF v f)])
 | _ => none
theorem con163:ConOK prog 163 c163:=ConOK.of (G:=[(244,c244),(117,c117),(88,kw153),(164,c164)]) (H:=[]) (.cons con244 (.cons con117 (.cons konw153 (.cons con164 .nil)))) func163 fun l ob rr hc hob => by
 unfold c163 at hc
 split at hc
 ·rename_i v f
  cases hc
  have h_0:=ob0 hob
  refine ⟨by kernel_rfl,fnVC_go (rs:=[.cell 2 27]) rfl rfl ?_⟩
  simp only [go_sem,c244,c117,kw153,c164,iMul,iDiv,iInt,iAdd,iSub,iRat,iDot,iHyp,iSq,iNeg,iPos,iAbs,iMx,iMn,iCl,iWh,iLoc1,iLoc2,iVAdd1,iVAdd2,iVSub1,iVSub2,iScale1,iScale2,iVDot,iVCross,iLen,iOf1,iOf2,iUnit1,iUnit2,h_0]
  have c1:whV 6746518852 = 6746518852:=by decide
  have c2:whF 6746518852 false = false:=by decide
  have hw:=wpV_le (v:=whV v)
  simp only [forall_eq,c1,c2]
  exact ⟨inRo (by omega),inRo (by omega),inRo (by omega),by first | trivial | rfl⟩
 ·cases hc
def kq186:Con
 | [.agg [.v (.int .i64 v),.v (.bool f)]] => some ([inR v],veA ((csV v f,csF v f),(snV v f,snF v f)))
 | _ => none
theorem konq186:ConOK prog 95 kq186:=ConOK.of (G:=[(163,c163),(164,c164)]) (H:=[(1,⟨[(5,.slot 2)],[]⟩)]) (.cons con163 (.cons con164 .nil)) func95 fun l ob rr hc hob => by
 unfold kq186 at hc
 split at hc
 ·rename_i v f
  cases hc
  have h_0:=ob0 hob
  refine ⟨by kernel_rfl,fnVC_go (rs:=[.cell 2 34]) rfl rfl ?_⟩
  simp only [go_sem,c163,c164,iMul,iDiv,iInt,iAdd,iSub,iRat,iDot,iHyp,iSq,iNeg,iPos,iAbs,iMx,iMn,iCl,iWh,iLoc1,iLoc2,iVAdd1,iVAdd2,iVSub1,iVSub2,iScale1,iScale2,iVDot,iVCross,iLen,iOf1,iOf2,iUnit1,iUnit2,h_0]
  simp only [forall_eq]
  rfl
 ·cases hc
def vCom (r s:V2):V2:=if (nHyp (nDot r.1 s.1 (nNeg r.2) s.2) (nDot r.2 s.1 r.1 s.2)).1 = 0 then (nDot r.1 s.1 (nNeg r.2) s.2,nDot r.2 s.1 r.1 s.2) else (nDiv (nDot r.1 s.1 (nNeg r.2) s.2) (nHyp (nDot r.1 s.1 (nNeg r.2) s.2) (nDot r.2 s.1 r.1 s.2)),nDiv (nDot r.2 s.1 r.1 s.2) (nHyp (nDot r.1 s.1 (nNeg r.2) s.2) (nDot r.2 s.1 r.1 s.2)))
def kq185:Con
 | [.agg [.v (.int .i64 x),.v (.bool e),.v (.int .i64 y),.v (.bool f)],.agg [.v (.int .i64 z),.v (.bool g),.v (.int .i64 u),.v (.bool h)]] => some ([inR x,inR y,inR z,inR u],veA (vCom ((x,e),(y,f)) ((z,g),(u,h))))
 | _ => none
theorem konq185:ConOK prog 94 kq185:=ConOK.of (G:=[(112,k179),(129,k125),(162,k213),(78,k168)]) (H:=[(1,⟨[(21,.made 20)],[]⟩),(4,⟨[(9,.slot 5),(11,.slot 5)],[]⟩)]) (.cons kon179 (.cons kon125 (.cons kon213 (.cons kon168 .nil)))) func94 fun l ob rr hc hob => by
 unfold kq185 at hc
 split at hc
 ·rename_i x e y f z g u h
  cases hc
  have h_0:=ob0 hob
  have h_1:=ob1 hob
  have h_2:=ob2 hob
  have h_3:=ob3 hob
  refine ⟨by kernel_rfl,fnVC_go (rs:=[.cell 4 34]) rfl rfl ?_⟩
  simp only [go_sem,k179,k125,k213,k168,iMul,iDiv,iInt,iAdd,iSub,iRat,iDot,iHyp,iSq,iNeg,iPos,iAbs,iMx,iMn,iCl,iWh,iLoc1,iLoc2,iVAdd1,iVAdd2,iVSub1,iVSub2,iScale1,iScale2,iVDot,iVCross,iLen,iOf1,iOf2,iUnit1,iUnit2,h_0,h_1,h_2,h_3]
  refine ⟨fun h => ?_,fun h => ?_⟩
  ·unfold vCom; rw [if_neg (by simpa using h)]; rfl
  ·unfold vCom; rw [if_pos (by simpa using h)]; rfl
 ·cases hc
theorem iCom1 {r s:V2}:inR (vCom r s).1.1 = True:=by unfold vCom; split <;> first | exact iDot | exact iDiv
theorem iCom2 {r s:V2}:inR (vCom r s).2.1 = True:=by unfold vCom; split <;> first | exact iDot | exact iDiv
def spiS (r:V2) (w:Nb):V2:=vCom ((csV w.1 w.2,csF w.1 w.2),(snV w.1 w.2,snF w.1 w.2)) r
theorem iSpi1 {r:V2} {w:Nb}:inR (spiS r w).1.1 = True:=iCom1
theorem iSpi2 {r:V2} {w:Nb}:inR (spiS r w).2.1 = True:=iCom2
def kq126:Con
 | [.agg [.v (.int .i64 x),.v (.bool e),.v (.int .i64 y),.v (.bool f)],.agg [.v (.int .i64 z),.v (.bool g)]] => some ([inR x,inR y,inR z],veA (spiS ((x,e),(y,f)) (z,g)))
 | _ => none
theorem konq126:ConOK prog 48 kq126:=ConOK.of (G:=[(95,kq186),(94,kq185)]) (H:=[(1,⟨[(4,.slot 4)],[]⟩)]) (.cons konq186 (.cons konq185 .nil)) func48 fun l ob rr hc hob => by
 unfold kq126 at hc
 split at hc
 ·rename_i x e y f z g
  cases hc
  have h_0:=ob0 hob
  have h_1:=ob1 hob
  have h_2:=ob2 hob
  refine ⟨by kernel_rfl,fnVC_go (rs:=[.cell 4 34]) rfl rfl ?_⟩
  simp only [go_sem,kq186,kq185,iMul,iDiv,iInt,iAdd,iSub,iRat,iDot,iHyp,iSq,iNeg,iPos,iAbs,iMx,iMn,iCl,iWh,iLoc1,iLoc2,iVAdd1,iVAdd2,iVSub1,iVSub2,iScale1,iScale2,iVDot,iVCross,iLen,iOf1,iOf2,iUnit1,iUnit2,h_0,h_1,h_2]
  exact ⟨rg_inR snV_rg,rg_inR snV_rg,rfl⟩
 ·cases hc
def onF:List AV → Option (List Prop × List AV)
 | [.agg l] => some ([l = bodyC (bodyD l),inB (bodyD l),(bodyD l).n ≤ 1000],bodyC (bodyD l))
 | _ => none
def mNon:MCon:=mcN 96 onF
theorem mNon_eq {key:Nat} {m:Mem} {l:List AV}:mNon key m [.agg l] = some ⟨[l = bodyC (bodyD l),inB (bodyD l),(bodyD l).n ≤ 1000],.bx key 0,.many [] (some (fam1 96 27 (bodyC (bodyD l)) none))⟩:=(rfl)
theorem con41m:MConOK prog 41 mNon:=MConOK.mcN (G:=[(84,kb84)]) (H:=[]) (.cons konb84 .nil) func41 fun es ob cs hF hob => by
 unfold onF at hF
 split at hF
 ·rename_i l
  cases hF
  have e:l = bodyC (bodyD l):=hob _ (by simp)
  have h:inB (bodyD l):=hob _ (by simp)
  have hn:(bodyD l).n ≤ 1000:=hob _ (by simp)
  generalize bodyD l = b at *
  subst e
  refine ⟨by simp [clean_body],by simp [bodyC,cleanCs,cleanC],by kernel_rfl,bodyM_go (rs:=[.tmp 2]) rfl rfl ?_⟩
  obtain ⟨b1,b2,b3,b4,b5,b6,b7,b8,b9,b10,b11,b12,b13,b14,b15,b16⟩:=id h
  simp only [bodyC,go_sem,kb84,cB_eq,bodyD_lit,gx_pts0,gx_pts1,etaN,etaV,bd_eta,h,hn]
  simp only [forall_eq]
  exact ⟨5,rfl,if_pos rfl⟩
 ·cases hF
def pulS (b:Bd) (g:V2) (t:Nb):Bd:=if idS b then b else { b with v:=limV (vAdd b.v (vScale g t)) }
def goS (b:Bd) (t:Nb):Bd:=if idS b then b else
 if (withS (vAdd b.pl (vScale b.v t)).1 4096 && withS (vAdd b.pl (vScale b.v t)).2 4096) then
  (if (nMul b.w t).1 = 0 then { b with pl:=vAdd b.pl (vScale b.v t) } else { b with pl:=vAdd b.pl (vScale b.v t),rot:=spiS b.rot (nMul b.w t) })
 else { rstS b with fa:=true,st:=0 }
def kb10:Con:=cB fun b rest => match rest with
 | [.agg [.v (.int .i64 x),.v (.bool e),.v (.int .i64 y),.v (.bool f)],.agg [.v (.int .i64 z),.v (.bool g),.v (.int .i64 u),.v (.bool h)]] => some ([inB b,b.n ≤ 1000,inR x,inR y,inR z,inR u],boA (pshS b ((x,e),(y,f)) ((z,g),(u,h))))
 | _ => none
theorem konb10:ConOK prog 10 kb10:=ConOK.cB (G:=[(41,.wr mNon),(42,.wr kw115)]) (H:=[]) (.mcons con41m (.mcons konw115 .nil)) func10 fun b rest ob r hc hob => by
 split at hc
 ·rename_i x e y f z g u h
  cases hc
  have h_0:=ob0 hob
  have h_1:=ob1 hob
  have h_2:=ob2 hob
  have h_3:=ob3 hob
  have h_4:=ob4 hob
  have h_5:=ob5 hob
  obtain ⟨b1,b2,b3,b4,b5,b6,b7,b8,b9,b10,b11,b12,b13,b14,b15,b16⟩:=h_0
  have hb:inB b:=hob _ (by simp)
  refine ⟨by kernel_rfl,fnVC_go (rs:=[.cell 6 40]) rfl rfl ?_⟩
  simp only [bodyC,go_sem,kw115,cB_eq,cBR_eq,bodyD_lit,gx_pts0,gx_pts1,spots_can,etaN,etaV,bd_eta,b1,b2,b3,b4,b6,b7,b8,b9,b10,b11,b12,b13,b14,b15,b16,hb,h_1,h_2,h_3,h_4,h_5,mNon_eq,mB_bx,mbB_some,stepC_mbQ]
  intro c hc0
  rw [← hc0]; rfl
 ·cases hc
def kb14:Con:=cB fun b rest => match rest with
 | [.agg [.v (.int .i64 x),.v (.bool e),.v (.int .i64 y),.v (.bool f)],.agg [.v (.int .i64 z),.v (.bool g)]] => some ([inB b,b.n ≤ 1000,inR x,inR y,inR z],boA (pulS b ((x,e),(y,f)) (z,g)))
 | _ => none
theorem konb14:ConOK prog 14 kb14:=ConOK.cB (G:=[(41,.wr mNon),(15,kw67),(44,k169),(43,k130),(54,kw120)]) (H:=[(3,⟨[(12,.slot 7)],[]⟩)]) (.mcons con41m (.cons konw67 (.cons kon169 (.cons kon130 (.cons konw120 .nil))))) func14 fun b rest ob r hc hob => by
 split at hc
 ·rename_i x e y f z g
  cases hc
  have h_0:=ob0 hob
  have h_1:=ob1 hob
  have h_2:=ob2 hob
  have h_3:=ob3 hob
  have h_4:=ob4 hob
  obtain ⟨b1,b2,b3,b4,b5,b6,b7,b8,b9,b10,b11,b12,b13,b14,b15,b16⟩:=h_0
  have hb:inB b:=hob _ (by simp)
  refine ⟨by kernel_rfl,fnVC_go (rs:=[.cell 6 40]) rfl rfl ?_⟩
  simp only [bodyC,go_sem,kw67,k169,k130,kw120,cB_eq,cBR_eq,bodyD_lit,gx_pts0,gx_pts1,spots_can,etaN,etaV,bd_eta,b1,b2,b3,b4,b6,b7,b8,b9,b10,b11,b12,b13,b14,b15,b16,hb,h_1,h_2,h_3,h_4,mNon_eq,mB_bx,mbB_some,stepC_mbQ]
  simp only [forall_eq]
  refine ⟨fun hh => ?_,fun hh => ?_⟩
  ·unfold pulS; rw [if_neg (by simp [hh])]; rfl
  ·unfold pulS; rw [if_pos hh]; rfl
 ·cases hc
def kb11:Con:=cB fun b rest => match rest with
 | [.agg [.v (.int .i64 z),.v (.bool g)]] => some ([inB b,b.n ≤ 1000,inR z],boA (goS b (z,g)))
 | _ => none
theorem konb11:ConOK prog 11 kb11:=ConOK.cB (G:=[(41,.wr mNon),(15,kw67),(44,k169),(43,k130),(45,kw123),(46,.wr kw124),(47,k129),(48,kq126)]) (H:=[(4,⟨[(10,.made 9)],[]⟩)]) (.mcons con41m (.cons konw67 (.cons kon169 (.cons kon130 (.cons konw123 (.mcons konw124 (.cons kon129 (.cons konq126 .nil)))))))) func11 fun b rest ob r hc hob => by
 split at hc
 ·rename_i z g
  cases hc
  have h_0:=ob0 hob
  have h_1:=ob1 hob
  have h_2:=ob2 hob
  obtain ⟨b1,b2,b3,b4,b5,b6,b7,b8,b9,b10,b11,b12,b13,b14,b15,b16⟩:=h_0
  have hb:inB b:=hob _ (by simp)
  refine ⟨by kernel_rfl,fnVC_go (rs:=[.cell 4 40]) rfl rfl ?_⟩
  simp only [bodyC,go_sem,kw67,k169,k130,kw123,kw124,k129,kq126,cB_eq,cBR_eq,bodyD_lit,gx_pts0,gx_pts1,spots_can,etaN,etaV,bd_eta,b1,b2,b3,b4,b6,b7,b8,b9,b10,b11,b12,b13,b14,b15,b16,hb,h_1,h_2,mNon_eq,mB_bx,mbB_some,stepC_mbQ]
  simp only [forall_eq]
  refine ⟨fun h1 => ?_,fun h1 => ⟨fun h2 => ?_,fun h2 => ⟨fun h3 => ?_,fun h3 => ?_⟩⟩⟩
  ·unfold goS; rw [if_pos h1]; rfl
  ·unfold goS; rw [if_neg (by simp [h1]),if_neg (by rw [h2]; simp)]; rfl
  ·unfold goS; rw [if_neg (by simp [h1]),if_pos h2,if_neg (by simpa using h3)]; rfl
  ·unfold goS; rw [if_neg (by simp [h1]),if_pos h2,if_pos (by simpa using h3)]; rfl
 ·cases hc
def kb13:Con:=cB fun b rest => match rest with
 | [] => some ([inB b,b.n ≤ 1000],boA (wakS b))
 | _ => none
theorem konb13:ConOK prog 13 kb13:=ConOK.cB (G:=[(41,.wr mNon),(53,.wr kw134)]) (H:=[]) (.mcons con41m (.mcons konw134 .nil)) func13 fun b rest ob r hc hob => by
 split at hc
 ·skip
  cases hc
  have h_0:=ob0 hob
  have h_1:=ob1 hob
  obtain ⟨b1,b2,b3,b4,b5,b6,b7,b8,b9,b10,b11,b12,b13,b14,b15,b16⟩:=h_0
  have hb:inB b:=hob _ (by simp)
  refine ⟨by kernel_rfl,fnVC_go (rs:=[.cell 2 40]) rfl rfl ?_⟩
  simp only [bodyC,go_sem,kw134,cB_eq,cBR_eq,bodyD_lit,gx_pts0,gx_pts1,spots_can,etaN,etaV,bd_eta,b1,b2,b3,b4,b6,b7,b8,b9,b10,b11,b12,b13,b14,b15,b16,hb,h_1,mNon_eq,mB_bx,mbB_some,stepC_mbQ]
  intro c hc0
  rw [← hc0]; rfl
 ·cases hc
theorem nums3_rows {a b c:Int} {e f g:Bool}:nums 3 (rowsOf 2 [i64 a,bo e,i64 b,bo f,i64 c,bo g]) = (inR a ∧ inR b ∧ inR c):=by
 apply propext
 constructor
 ·intro h; exact ⟨(h 0 (by omega)).2,(h 1 (by omega)).2,(h 2 (by omega)).2⟩
 ·rintro ⟨h1,h2,h3⟩ i hi
  match i with
  | 0 => exact ⟨rfl,h1⟩
  | 1 => exact ⟨rfl,h2⟩
  | 2 => exact ⟨rfl,h3⟩
  | j + 3 => omega
def kMx3:Con
 | [.ro 3 2 g] => some ([nums 3 g],nbA (moV (-1) 3 g,wfS 3 g))
 | _ => none
theorem konX129:ConOK prog 49 kMx3:=fun l ob r he hob => by
 unfold kMx3 at he
 split at he
 ·rename_i g
  cases he
  exact con49 [.ro 3 2 g] _ _ rfl (owe2 (hob _ (by simp)) (by omega))
 ·cases he
def fstS (b:Bd):Int:=moV (-1) 3 (rowsOf 2 [i64 (nAbs b.v.1).1,bo (nAbs b.v.1).2,i64 (nAbs b.v.2).1,bo (nAbs b.v.2).2,i64 (nAbs b.w).1,bo (nAbs b.w).2])
def resS (b:Bd):Bd:=if idS b then b else if 0 < cmpS (whV (fstS b)) (whV (nRat 1 16).1) then { b with st:=0 } else if min b.st 29 + 1 = 30 then { rstS b with st:=30 } else { b with st:=min b.st 29 + 1 }
def kb12:Con:=cB fun b rest => match rest with
 | [] => some ([inB b,b.n ≤ 1000],boA (resS b))
 | _ => none
theorem konb12:ConOK prog 12 kb12:=ConOK.cB (G:=[(41,.wr mNon),(15,kw67),(50,k126),(49,kMx3),(52,k132),(51,c51),(46,.wr kw124)]) (H:=[(4,⟨[(14,.made 13)],[]⟩)]) (.mcons con41m (.cons konw67 (.cons kon126 (.cons konX129 (.cons kon132 (.cons con51 (.mcons konw124 .nil))))))) func12 fun b rest ob r hc hob => by
 split at hc
 ·skip
  cases hc
  have h_0:=ob0 hob
  have h_1:=ob1 hob
  obtain ⟨b1,b2,b3,b4,b5,b6,b7,b8,b9,b10,b11,b12,b13,b14,b15,b16⟩:=h_0
  have hb:inB b:=hob _ (by simp)
  refine ⟨by kernel_rfl,fnVC_go (rs:=[.cell 2 40]) rfl rfl ?_⟩
  simp only [bodyC,go_sem,kw67,k126,kMx3,k132,c51,kw124,cB_eq,cBR_eq,bodyD_lit,gx_pts0,gx_pts1,spots_can,etaN,etaV,bd_eta,b1,b2,b3,b4,b6,b7,b8,b9,b10,b11,b12,b13,b14,b15,b16,hb,h_1,mNon_eq,mB_bx,mbB_some,stepC_mbQ]
  simp only [forall_eq]
  have hw:IntKind.i64.wrap (min b.st 29 + 1) = min b.st 29 + 1:=wrap_in (by unfold inR at *; omega)
  refine ⟨fun h1 => ?_,fun h1 => ⟨?_,inRo (by omega),fun h2 => ?_,fun h2 => ⟨fun h3 => ?_,fun h3 => ?_⟩⟩⟩
  ·unfold resS; rw [if_pos h1]; rfl
  ·exact of_eq_true (nums3_rows.trans (eq_true ⟨of_eq_true (iAbs b10),of_eq_true (iAbs b11),of_eq_true (iAbs b12)⟩))
  ·have h2:0 < cmpS (whV (fstS b)) (whV (nRat 1 16).1):=h2
   have e1:resS b = { b with st:=0 }:=by unfold resS; rw [if_neg (by simp [h1]),if_pos h2]
   rw [e1]; rfl
  ·rw [hw] at h3
   have h3:min b.st 29 + 1 = 30:=by simpa using h3
   have h2:¬ 0 < cmpS (whV (fstS b)) (whV (nRat 1 16).1):=h2
   have e1:resS b = { rstS b with st:=30 }:=by unfold resS; rw [if_neg (by simp [h1]),if_neg h2,if_pos (by omega)]
   have e2:min b.st 29 + 1 = 30:=by omega
   rw [e1,hw,e2]; rfl
  ·rw [hw] at h3
   have h3:¬ min b.st 29 + 1 = 30:=by simpa using h3
   have h2:¬ 0 < cmpS (whV (fstS b)) (whV (nRat 1 16).1):=h2
   have e1:resS b = { b with st:=min b.st 29 + 1 }:=by unfold resS; rw [if_neg (by simp [h1]),if_neg h2,if_neg (by omega)]
   rw [e1,hw]; rfl
 ·cases hc
theorem aEq27w {a0 b0:Int} {a1 b1:Bool}:aEq prog 27 (.agg [i64 a0,bo a1]) (.agg [i64 b0,bo b1]) = some ((a0 == b0) && ((a1 == b1) && true)):=by kernel_rfl
theorem eq27w {xo yo:Operand} {neg:Bool} {a0 b0:Int} {a1 b1:Bool}:eqE prog neg 27 xo yo (.agg [i64 a0,bo a1]) (.agg [i64 b0,bo b1]) = some ⟨[],.v (.bool (negV neg ((a0 == b0) && ((a1 == b1) && true)))),.none⟩:=eqE_agg aEq27w
attribute [go_sem] eq27w
theorem aEq29w {a0 b0:Int} {a1 b1:Bool} {a2 b2:Int} {a3 b3:Bool}:aEq prog 29 (.agg [i64 a0,bo a1,i64 a2,bo a3]) (.agg [i64 b0,bo b1,i64 b2,bo b3]) = some (((a0 == b0) && ((a1 == b1) && true)) && (((a2 == b2) && ((a3 == b3) && true)) && true)):=by kernel_rfl
theorem eq29w {xo yo:Operand} {neg:Bool} {a0 b0:Int} {a1 b1:Bool} {a2 b2:Int} {a3 b3:Bool}:eqE prog neg 29 xo yo (.agg [i64 a0,bo a1,i64 a2,bo a3]) (.agg [i64 b0,bo b1,i64 b2,bo b3]) = some ⟨[],.v (.bool (negV neg (((a0 == b0) && ((a1 == b1) && true)) && (((a2 == b2) && ((a3 == b3) && true)) && true)))),.none⟩:=eqE_agg aEq29w
attribute [go_sem] eq29w
theorem aEq36w {a0 b0:Int} {a1 b1:Bool} {a2 b2:Int} {a3 b3:Bool} {a4 b4:Int} {a5 b5:Bool} {a6 b6:Int} {a7 b7:Bool}:aEq prog 36 (.agg [i64 a0,bo a1,i64 a2,bo a3,i64 a4,bo a5,i64 a6,bo a7]) (.agg [i64 b0,bo b1,i64 b2,bo b3,i64 b4,bo b5,i64 b6,bo b7]) = some ((((a0 == b0) && ((a1 == b1) && true)) && (((a2 == b2) && ((a3 == b3) && true)) && true)) && ((((a4 == b4) && ((a5 == b5) && true)) && (((a6 == b6) && ((a7 == b7) && true)) && true)) && true)):=by kernel_rfl
theorem eq36w {xo yo:Operand} {neg:Bool} {a0 b0:Int} {a1 b1:Bool} {a2 b2:Int} {a3 b3:Bool} {a4 b4:Int} {a5 b5:Bool} {a6 b6:Int} {a7 b7:Bool}:eqE prog neg 36 xo yo (.agg [i64 a0,bo a1,i64 a2,bo a3,i64 a4,bo a5,i64 a6,bo a7]) (.agg [i64 b0,bo b1,i64 b2,bo b3,i64 b4,bo b5,i64 b6,bo b7]) = some ⟨[],.v (.bool (negV neg ((((a0 == b0) && ((a1 == b1) && true)) && (((a2 == b2) && ((a3 == b3) && true)) && true)) && ((((a4 == b4) && ((a5 == b5) && true)) && (((a6 == b6) && ((a7 == b7) && true)) && true)) && true)))),.none⟩:=eqE_agg aEq36w
attribute [go_sem] eq36w
theorem aEq38w {a0 b0:Int} {a1 b1:Bool} {a2 b2:Int} {a3 b3:Bool}:aEq prog 38 (.agg [i64 a0,bo a1,i64 a2,bo a3]) (.agg [i64 b0,bo b1,i64 b2,bo b3]) = some (((a0 == b0) && ((a1 == b1) && true)) && (((a2 == b2) && ((a3 == b3) && true)) && true)):=by kernel_rfl
theorem eq38w {xo yo:Operand} {neg:Bool} {a0 b0:Int} {a1 b1:Bool} {a2 b2:Int} {a3 b3:Bool}:eqE prog neg 38 xo yo (.agg [i64 a0,bo a1,i64 a2,bo a3]) (.agg [i64 b0,bo b1,i64 b2,bo b3]) = some ⟨[],.v (.bool (negV neg (((a0 == b0) && ((a1 == b1) && true)) && (((a2 == b2) && ((a3 == b3) && true)) && true)))),.none⟩:=eqE_agg aEq38w
attribute [go_sem] eq38w
theorem aEq87w {a0 b0:Int} {a1 b1:Bool} {a2 b2:Int} {a3 b3:Bool} {a4 b4:Int} {a5 b5:Bool}:aEq prog 87 (.agg [i64 a0,bo a1,i64 a2,bo a3,i64 a4,bo a5]) (.agg [i64 b0,bo b1,i64 b2,bo b3,i64 b4,bo b5]) = some ((((a0 == b0) && ((a1 == b1) && true)) && (((a2 == b2) && ((a3 == b3) && true)) && true)) && (((a4 == b4) && ((a5 == b5) && true)) && true)):=by kernel_rfl
theorem eq87w {xo yo:Operand} {neg:Bool} {a0 b0:Int} {a1 b1:Bool} {a2 b2:Int} {a3 b3:Bool} {a4 b4:Int} {a5 b5:Bool}:eqE prog neg 87 xo yo (.agg [i64 a0,bo a1,i64 a2,bo a3,i64 a4,bo a5]) (.agg [i64 b0,bo b1,i64 b2,bo b3,i64 b4,bo b5]) = some ⟨[],.v (.bool (negV neg ((((a0 == b0) && ((a1 == b1) && true)) && (((a2 == b2) && ((a3 == b3) && true)) && true)) && (((a4 == b4) && ((a5 == b5) && true)) && true)))),.none⟩:=eqE_agg aEq87w
attribute [go_sem] eq87w
theorem aEq53w {a0 b0:Int} {a1 b1:Bool} {a2 b2:Int} {a3 b3:Bool}:aEq prog 53 (.agg [i64 a0,bo a1,i64 a2,bo a3]) (.agg [i64 b0,bo b1,i64 b2,bo b3]) = some (((a0 == b0) && ((a1 == b1) && true)) && (((a2 == b2) && ((a3 == b3) && true)) && true)):=by kernel_rfl
theorem eq53w {xo yo:Operand} {neg:Bool} {a0 b0:Int} {a1 b1:Bool} {a2 b2:Int} {a3 b3:Bool}:eqE prog neg 53 xo yo (.agg [i64 a0,bo a1,i64 a2,bo a3]) (.agg [i64 b0,bo b1,i64 b2,bo b3]) = some ⟨[],.v (.bool (negV neg (((a0 == b0) && ((a1 == b1) && true)) && (((a2 == b2) && ((a3 == b3) && true)) && true)))),.none⟩:=eqE_agg aEq53w
attribute [go_sem] eq53w
def cjS (n:Int) (k a b:Int) (p q:V2) (l:Nb):Int:=
 if k ≠ 1 ∧ k ≠ 2 ∧ k ≠ 3 then 8 else
 if (a < 0 ∨ n ≤ a) ∨ (k ≠ 1 ∧ (b < 0 ∨ n ≤ b ∨ a = b)) then 3 else
 if (withS p.1 32 && withS p.2 32) = false ∨ (if k = 1 then (withS q.1 4096 && withS q.2 4096) = false else (withS q.1 32 && withS q.2 32) = false) then 3 else
 if k = 2 ∧ (withS l 8192 = false ∨ l.1 < 0) then 3 else
 if (k = 1 ∧ b ≠ 0) ∨ (k ≠ 2 ∧ ¬ (l.1 = 0 ∧ l.2 = false)) then 4 else 0
def kj51:Con
 | [.v (.int .i64 n),.agg [.v (.int .i64 k),.v (.int .i64 a),.v (.int .i64 b),.v (.int .i64 x),.v (.bool e),.v (.int .i64 y),.v (.bool f),.v (.int .i64 z),.v (.bool g),.v (.int .i64 u),.v (.bool h),.v (.int .i64 l),.v (.bool m)]] => some ([inR n,inR x,inR y,inR z,inR u,inR l],i64 (cjS n k a b ((x,e),(y,f)) ((z,g),(u,h)) (l,m)))
 | _ => none
theorem konj51:ConOK prog 36 kj51:=ConOK.of (G:=[(45,kw123)]) (H:=[]) (.cons konw123 .nil) func36 fun l ob rr hc hob => by
 unfold kj51 at hc
 split at hc
 ·rename_i n k a b x e y f z g u h l m
  cases hc
  have h_0:=ob0 hob
  have h_1:=ob1 hob
  have h_2:=ob2 hob
  have h_3:=ob3 hob
  have h_4:=ob4 hob
  have h_5:=ob5 hob
  refine ⟨by kernel_rfl,fnVC_go (rs:=[.tmp 4]) rfl rfl ?_⟩
  simp only [go_sem,kw123,iMul,iDiv,iInt,iAdd,iSub,iRat,iDot,iHyp,iSq,iNeg,iPos,iAbs,iMx,iMn,iCl,iWh,iLoc1,iLoc2,iVAdd1,iVAdd2,iVSub1,iVSub2,iScale1,iScale2,iVDot,iVCross,iLen,iOf1,iOf2,iUnit1,iUnit2,h_0,h_1,h_2,h_3,h_4,h_5]
  unfold cjS
  simp only [forall_eq]
  generalize (withS (x,e) 32 && withS (y,f) 32) = w1
  generalize (withS (z,g) 4096 && withS (u,h) 4096) = w3
  generalize (withS (z,g) 32 && withS (u,h) 32) = w5
  generalize withS (l,m) 8192 = w7
  clear hob h_0 h_1 h_2 h_3 h_4 h_5
  repeat' (first | intro _ | apply And.intro)
  all_goals grind
 ·cases hc
section
variable {P:Program} {G:Ctx} {H:Hots} {K0:AEx → St → Prop} {hot:Option Hot} {ops:Array Oper} {d:Option Tmp} {rest:List Oper} {i:Nat} {st:List Fr} {t:Slots} {m:Mem} {nx:Nat} {o:List Prop} {u:Upd} {b:Bd} {c:Bool}
theorem bindC_cboA:bindC P G H K0 hot ops d rest i st t m nx o u (condV c (bnd (boA b))) = (∀ b',b' = b → bindC P G H K0 hot ops d rest i st t m nx o u (condV c (.agg (bodyC b')))):=by
 apply propext
 constructor
 ·rintro h b' rfl; exact h
 ·intro h; exact h b rfl
end
attribute [go_sem] bindC_cboA
theorem inB_wak {b:Bd} (h:inB b):inB (wakS b):=by
 unfold wakS
 split
 ·obtain ⟨b1,b2,b3,b4,b5,b6,b7,b8,b9,b10,b11,b12,b13,b14,b15,b16⟩:=h
  exact ⟨b1,b2,b3,b4,b5,b6,b7,b8,b9,b10,b11,b12,b13,b14,of_eq_true inR_0,b16⟩
 ·exact h
theorem inB_rst {b:Bd} (h:inB b):inB (rstS b):=by
 obtain ⟨b1,b2,b3,b4,b5,b6,b7,b8,b9,b10,b11,b12,b13,b14,b15,b16⟩:=h
 exact ⟨b1,b2,b3,b4,b5,b6,b7,b8,b9,of_eq_true inR_0,of_eq_true inR_0,of_eq_true inR_0,b13,b14,b15,b16⟩
theorem inB_st {b:Bd} (h:inB b) {n:Int} {f:Bool} (hn:inR n):inB { b with st:=n,fa:=f }:=by
 obtain ⟨b1,b2,b3,b4,b5,b6,b7,b8,b9,b10,b11,b12,b13,b14,b15,b16⟩:=h
 exact ⟨b1,b2,b3,b4,b5,b6,b7,b8,b9,b10,b11,b12,b13,b14,hn,b16⟩
theorem inB_psh {b:Bd} {p j:V2} (h:inB b):inB (pshS b p j):=by
 unfold pshS
 split
 ·exact h
 ·have:=inB_push h (v:=limV (vAdd b.v (vScale j b.m))) (w:=limS (nAdd b.w (nMul b.i (vCross (vSub p b.pl) j))) 64) (of_eq_true (iLim (of_eq_true iVAdd1))) (of_eq_true (iLim (of_eq_true iVAdd2))) (of_eq_true (iLim (of_eq_true iAdd)))
  dsimp only
  split
  ·exact inB_wak this
  ·exact this
theorem inB_pul {b:Bd} {g:V2} {t:Nb} (h:inB b):inB (pulS b g t):=by
 unfold pulS
 split
 ·exact h
 ·exact inB_push h (of_eq_true (iLim (of_eq_true iVAdd1))) (of_eq_true (iLim (of_eq_true iVAdd2))) h.2.2.2.2.2.2.2.2.2.2.2.1
theorem inB_go {b:Bd} {t:Nb} (h:inB b):inB (goS b t):=by
 unfold goS
 split
 ·exact h
 ·split
  ·obtain ⟨b1,b2,b3,b4,b5,b6,b7,b8,b9,b10,b11,b12,b13,b14,b15,b16⟩:=h
   split
   ·exact ⟨b1,b2,b3,b4,b5,of_eq_true iVAdd1,of_eq_true iVAdd2,b8,b9,b10,b11,b12,b13,b14,b15,b16⟩
   ·exact ⟨b1,b2,b3,b4,b5,of_eq_true iVAdd1,of_eq_true iVAdd2,of_eq_true iSpi1,of_eq_true iSpi2,b10,b11,b12,b13,b14,b15,b16⟩
  ·exact inB_st (inB_rst h) (inRo (by omega))
theorem inB_res {b:Bd} (h:inB b):inB (resS b):=by
 have h15:inR b.st:=by obtain ⟨b1,b2,b3,b4,b5,b6,b7,b8,b9,b10,b11,b12,b13,b14,b15,b16⟩:=h; exact b15
 unfold inR at h15
 unfold resS
 split
 ·exact h
 ·split
  ·exact inB_st (f:=b.fa) h (inRo (by omega))
  ·split
   ·exact inB_st (f:=b.fa) (inB_rst h) (inRo (by omega))
   ·exact inB_st (f:=b.fa) h (inRo (by omega))
theorem wak_n {b:Bd}:(wakS b).n = b.n:=by unfold wakS; split <;> rfl
theorem psh_n {b:Bd} {p j:V2}:(pshS b p j).n = b.n:=by
 unfold pshS
 split
 ·rfl
 ·dsimp only
  split
  ·rw [wak_n]
  ·rfl
theorem pul_n {b:Bd} {g:V2} {t:Nb}:(pulS b g t).n = b.n:=by unfold pulS; split <;> rfl
theorem go_n {b:Bd} {t:Nb}:(goS b t).n = b.n:=by unfold goS; (repeat' split) <;> rfl
theorem res_n {b:Bd}:(resS b).n = b.n:=by unfold resS; (repeat' split) <;> rfl
def rndB (x:Int) (m i:Nb):Bd:=⟨1,256,0,0,0,fun _ => 0,fun _ => 0,((x,false),(0,false)),((4294967296,false),(0,false)),((0,false),(0,false)),(0,false),m,i,0,false,false,1⟩
theorem alk_body0 {l1:List AV} {X Y:Nat → Int} {c0 c1 c2 c3:AV}:alk (.agg (c0 :: c1 :: c2 :: c3 :: ptsA 0 X Y :: l1)) (.agg (c0 :: c1 :: c2 :: c3 :: .v (.slice none 0 0) :: l1)):=fun w ρ v hR => by
 cases hR with
 | agg hl hh =>
  refine .agg hl fun j x y h3 h4 => ?_
  match j with
  | 4 =>
   simp at h3; subst h3
   exact alk_nil _ _ _ (hh 4 _ y rfl h4)
  | 0 => exact hh 0 x y h3 h4
  | 1 => exact hh 1 x y h3 h4
  | 2 => exact hh 2 x y h3 h4
  | 3 => exact hh 3 x y h3 h4
  | j + 5 => exact hh (j + 5) x y h3 h4
def kw72:Con
 | [.v (.int .i64 x),.agg [.v (.int .i64 m),.v (.bool e),.v (.int .i64 i),.v (.bool f)]] => some ([],boA (rndB x (m,e) (i,f)))
 | _ => none
theorem konw72:ConOK prog 34 kw72:=ConOK.goR (G:=[(18,kw55)]) (H:=[(1,⟨[(9,.slot 4)],[]⟩)]) (.cons konw55 .nil) func34 fun l ob rr hc hob => by
 unfold kw72 at hc
 split at hc
 ·rename_i x m e i f
  cases hc
  refine ⟨_,fun w I vs h => h,by kernel_rfl,fnVC_go (rs:=[.cell 4 40]) rfl rfl ?_⟩
  simp only [go_sem,kw55,forall_eq]
  exact alk_body0
 ·cases hc
def c20:Con
 | [] => some ([],bo true)
 | _ => none
theorem con20:ConOK prog 20 c20:=ConOK.of (G:=[(18,kw55),(34,kw72),(10,kb10),(36,kj51)]) (H:=[]) (.cons konw55 (.cons konw72 (.cons konb10 (.cons konj51 .nil)))) func20 fun l ob rr hc hob => by
 unfold c20 at hc
 split at hc
 ·skip
  cases hc
  refine ⟨by kernel_rfl,fnVC_go (rs:=[.tmp 0]) rfl rfl ?_⟩
  simp only [go_sem,kw55,kw72,kb10,kj51,iMul,iDiv,iInt,iAdd,iSub,iRat,iDot,iHyp,iSq,iNeg,iPos,iAbs,iMx,iMn,iCl,iWh,iLoc1,iLoc2,iVAdd1,iVAdd2,iVSub1,iVSub2,iScale1,iScale2,iVDot,iVCross,iLen,iOf1,iOf2,iUnit1,iUnit2,bodyC,cB_eq,cBR_eq,bodyD_lit,gx_pts0,gx_pts1,spots_can,etaN,etaV,bd_eta]
  simp only [forall_eq]
  have e1:(pshS (rndB 0 (4294967296,false) (4294967296,false)) ((0,false),4294967296,false) ((4294967296,false),0,false)).v = ((4294967296,false),(0,false)):=by kernel_rfl
  have e2:(pshS (rndB 0 (4294967296,false) (4294967296,false)) ((0,false),4294967296,false) ((4294967296,false),0,false)).w = (-4294967296,false):=by kernel_rfl
  have e3:cjS 1 4 0 0 ((0,false),0,false) ((0,false),0,false) (0,false) = 8:=by decide
  rw [e1,e2,e3]
  simp only [beq_self_eq_true,true_and,and_self,implies_true]
  exact ⟨⟨⟨by decide,by decide⟩,⟨by decide,by decide⟩,⟨by decide,by decide⟩,⟨by decide,by decide⟩,fun j hj => absurd hj (Nat.not_lt_zero j),⟨by decide,by decide⟩,⟨by decide,by decide⟩,⟨by decide,by decide⟩,⟨by decide,by decide⟩,⟨by decide,by decide⟩,⟨by decide,by decide⟩,⟨by decide,by decide⟩,⟨by decide,by decide⟩,⟨by decide,by decide⟩,⟨by decide,by decide⟩,⟨by decide,by decide⟩⟩,by decide,inRo (by omega),inRo (by omega),trivial⟩
 ·cases hc
theorem alk_shape {a b c d p q:AV} (h:alk p q):alk (.agg [a,b,c,d,p]) (.agg [a,b,c,d,q]):=fun w ρ v hR => by
 cases hR with
 | agg hl' hh' =>
  refine .agg hl' fun j x y h3 h4 => ?_
  match j with
  | 0 => exact hh' 0 x y h3 h4
  | 1 => exact hh' 1 x y h3 h4
  | 2 => exact hh' 2 x y h3 h4
  | 3 => exact hh' 3 x y h3 h4
  | 4 =>
   simp at h3; subst h3
   exact h _ _ _ (hh' 4 _ y rfl h4)
  | m + 5 => simp at h3
def mkW (a b:Int):Int:=if a.tmod 4 ≠ 0 then 16 + (16 + modS b 4081).tmod 600 else 16 + modS b 4081
def mkM (a b:Int):Int:=max 64 (mkW a b)
def mkK (a:Int):Int:=if modS a 5 = 0 then 1 else if modS a 5 = 1 then 2 else 3
def mkR (a b:Int):Int:=if modS a 5 = 0 then mkW b b else 0
def mkH (a b c:Int):Int:=if modS a 5 = 0 then 0 else if modS a 5 = 1 then mkW b c else 0
def mkN (a:Int):Nat:=if modS a 5 = 0 then 0 else if modS a 5 = 1 then 0 else if modS a 5 = 2 then 3 else if modS a 5 = 3 then 5 else 8
def mkP (a w t:Int):List AV:=
 if modS a 5 = 2 then [i64 (-w),i64 (-t),i64 w,i64 (-t),i64 0,i64 t]
 else if modS a 5 = 3 then [i64 ((-w).tdiv 2),i64 (-t),i64 (w.tdiv 2),i64 (-t),i64 w,i64 0,i64 0,i64 t,i64 (-w),i64 0]
 else [i64 w,i64 ((-w).tdiv 2),i64 w,i64 (w.tdiv 2),i64 (w.tdiv 2),i64 w,i64 ((-w).tdiv 2),i64 w,i64 (-w),i64 (w.tdiv 2),i64 (-w),i64 ((-w).tdiv 2),i64 ((-w).tdiv 2),i64 (-w),i64 (w.tdiv 2),i64 (-w)]
def mkX (a b c:Int) (i:Nat):Int:=gx (rowsOf 2 (mkP a (mkM b b) (mkM b c))) 0 i
def mkY (a b c:Int) (i:Nat):Int:=gx (rowsOf 2 (mkP a (mkM b b) (mkM b c))) 1 i
abbrev mkA (a b c:Int):AV:=.agg [i64 (mkK a),i64 (mkR a b),i64 (mkH a b b),i64 (mkH a b c),.ro (mkN a) 2 fun i => [i64 (mkX a b c i),i64 (mkY a b c i)]]
theorem modS_bd {n m:Int} (hm:0 < m):0 ≤ modS n m ∧ modS n m < m:=by
 have h1:n.tmod m < m:=Int.tmod_lt_of_pos n hm
 have h2:-m < n.tmod m:=Int.lt_tmod_of_pos n hm
 unfold modS
 split <;> omega
theorem mkW_bd {a b:Int}:16 ≤ mkW a b ∧ mkW a b ≤ 4096:=by
 have h:=modS_bd (n:=b) (m:=4081) (by omega)
 have h1:(16 + modS b 4081).tmod 600 < 600:=Int.tmod_lt_of_pos _ (by omega)
 have h2:0 ≤ (16 + modS b 4081).tmod 600:=Int.tmod_nonneg _ (by omega)
 unfold mkW
 split <;> omega
theorem mkM_bd {a b:Int}:64 ≤ mkM a b ∧ mkM a b ≤ 4096:=by
 have:=@mkW_bd a b
 unfold mkM
 omega
theorem wrW {b:Int}:IntKind.i64.wrap (16 + modS b 4081) = 16 + modS b 4081:=by
 have h:=modS_bd (n:=b) (m:=4081) (by omega)
 exact wrap_in (inRo (by omega))
theorem wrW2 {b:Int}:IntKind.i64.wrap (16 + (16 + modS b 4081).tmod 600) = 16 + (16 + modS b 4081).tmod 600:=by
 have h:=modS_bd (n:=b) (m:=4081) (by omega)
 have h1:(16 + modS b 4081).tmod 600 < 600:=Int.tmod_lt_of_pos _ (by omega)
 have h2:0 ≤ (16 + modS b 4081).tmod 600:=Int.tmod_nonneg _ (by omega)
 exact wrap_in (inRo (by omega))
theorem wrM {a b:Int}:IntKind.i64.wrap (0 - mkM a b) = -mkM a b:=by
 have:=@mkM_bd a b
 rw [wrap_in (inRo (by omega)),Int.zero_sub]
theorem wrM2 {a b:Int}:IntKind.i64.wrap ((-mkM a b).tdiv 2) = (-mkM a b).tdiv 2:=by
 have:=@mkM_bd a b
 exact wrap_in (by rw [Int.neg_tdiv,Int.tdiv_eq_ediv_of_nonneg (by omega)]; unfold inR; omega)
theorem wrM3 {a b:Int}:IntKind.i64.wrap ((mkM a b).tdiv 2) = (mkM a b).tdiv 2:=by
 have:=@mkM_bd a b
 exact wrap_in (by rw [Int.tdiv_eq_ediv_of_nonneg (by omega)]; unfold inR; omega)
theorem mkM_eq {a b:Int}:max 64 (mkW a b) = mkM a b:=rfl
theorem vc22 (a b c d e f:Int) (ha:inR a) (hb:inR b) (hc:inR c):fnVC prog [(26,c26)] [] Tryz.f22 [.agg [i64 a,i64 b,i64 c,i64 d,i64 e,i64 f]] (alk (mkA a b c)):=by
 refine fnVC_go (rs:=[.cell 2 32]) rfl rfl ?_
 simp only [go_sem,c26]
 simp only [forall_eq]
 simp only [wrW,wrW2]
 refine ⟨hb,inRo (by omega),hc,inRo (by omega),fun h => ?_,fun h => ?_⟩
 ·have e:∀ v,16 + (16 + modS v 4081).tmod 600 = mkW b v:=fun v => by unfold mkW; rw [if_pos (by simpa using h)]
  simp only [e]
  simp only [mkM_eq,wrM,wrM2,wrM3]
  refine ⟨ha,inRo (by omega),fun h0 => ?_,fun h0 => ⟨fun h1 => ?_,fun h1 => ⟨fun h2 => ?_,fun h2 => ⟨fun h3 => ?_,fun h3 => ?_⟩⟩⟩⟩
  ·have k0:modS a 5 = 0:=by simpa using h0
   unfold mkA
   rw [show mkK a = 1 by unfold mkK; rw [if_pos k0],show mkR a b = mkW b b by unfold mkR; rw [if_pos k0],show mkH a b b = 0 by unfold mkH; rw [if_pos k0],show mkH a b c = 0 by unfold mkH; rw [if_pos k0],show mkN a = 0 by unfold mkN; rw [if_pos k0]]
   exact alk_shape alk_nil
  ·have k0:¬ modS a 5 = 0:=by simpa using h0
   have k1:modS a 5 = 1:=by simpa using h1
   unfold mkA
   rw [show mkK a = 2 by unfold mkK; rw [if_neg k0,if_pos k1],show mkR a b = 0 by unfold mkR; rw [if_neg k0],show mkH a b b = mkW b b by unfold mkH; rw [if_neg k0,if_pos k1],show mkH a b c = mkW b c by unfold mkH; rw [if_neg k0,if_pos k1],show mkN a = 0 by unfold mkN; rw [if_neg k0,if_pos k1]]
   exact alk_shape alk_nil
  ·have k0:¬ modS a 5 = 0:=by simpa using h0
   have k1:¬ modS a 5 = 1:=by simpa using h1
   have k2:modS a 5 = 2:=by simpa using h2
   unfold mkA
   rw [show mkK a = 3 by unfold mkK; rw [if_neg k0,if_neg k1],show mkR a b = 0 by unfold mkR; rw [if_neg k0],show mkH a b b = 0 by unfold mkH; rw [if_neg k0,if_neg k1],show mkH a b c = 0 by unfold mkH; rw [if_neg k0,if_neg k1],show mkN a = 3 by unfold mkN; rw [if_neg k0,if_neg k1,if_pos k2]]
   refine alk_shape (alk_ro fun i hi => ?_)
   unfold mkX mkY mkP
   rw [if_pos k2]
   match i with
   | 0 => rfl
   | 1 => rfl
   | 2 => rfl
   | q + 3 => omega
  ·have k0:¬ modS a 5 = 0:=by simpa using h0
   have k1:¬ modS a 5 = 1:=by simpa using h1
   have k2:¬ modS a 5 = 2:=by simpa using h2
   have k3:modS a 5 = 3:=by simpa using h3
   unfold mkA
   rw [show mkK a = 3 by unfold mkK; rw [if_neg k0,if_neg k1],show mkR a b = 0 by unfold mkR; rw [if_neg k0],show mkH a b b = 0 by unfold mkH; rw [if_neg k0,if_neg k1],show mkH a b c = 0 by unfold mkH; rw [if_neg k0,if_neg k1],show mkN a = 5 by unfold mkN; rw [if_neg k0,if_neg k1,if_neg k2,if_pos k3]]
   refine alk_shape (alk_ro fun i hi => ?_)
   unfold mkX mkY mkP
   rw [if_neg k2,if_pos k3]
   match i with
   | 0 => rfl
   | 1 => rfl
   | 2 => rfl
   | 3 => rfl
   | 4 => rfl
   | q + 5 => omega
  ·have k0:¬ modS a 5 = 0:=by simpa using h0
   have k1:¬ modS a 5 = 1:=by simpa using h1
   have k2:¬ modS a 5 = 2:=by simpa using h2
   have k3:¬ modS a 5 = 3:=by simpa using h3
   unfold mkA
   rw [show mkK a = 3 by unfold mkK; rw [if_neg k0,if_neg k1],show mkR a b = 0 by unfold mkR; rw [if_neg k0],show mkH a b b = 0 by unfold mkH; rw [if_neg k0,if_neg k1],show mkH a b c = 0 by unfold mkH; rw [if_neg k0,if_neg k1],show mkN a = 8 by unfold mkN; rw [if_neg k0,if_neg k1,if_neg k2,if_neg k3]]
   refine alk_shape (alk_ro fun i hi => ?_)
   unfold mkX mkY mkP
   rw [if_neg k2,if_neg k3]
   match i with
   | 0 => rfl
   | 1 => rfl
   | 2 => rfl
   | 3 => rfl
   | 4 => rfl
   | 5 => rfl
   | 6 => rfl
   | 7 => rfl
   | q + 8 => omega
 ·have e:∀ v,16 + modS v 4081 = mkW b v:=fun v => by unfold mkW; rw [if_neg (by simpa using h)]
  simp only [e]
  simp only [mkM_eq,wrM,wrM2,wrM3]
  refine ⟨ha,inRo (by omega),fun h0 => ?_,fun h0 => ⟨fun h1 => ?_,fun h1 => ⟨fun h2 => ?_,fun h2 => ⟨fun h3 => ?_,fun h3 => ?_⟩⟩⟩⟩
  ·have k0:modS a 5 = 0:=by simpa using h0
   unfold mkA
   rw [show mkK a = 1 by unfold mkK; rw [if_pos k0],show mkR a b = mkW b b by unfold mkR; rw [if_pos k0],show mkH a b b = 0 by unfold mkH; rw [if_pos k0],show mkH a b c = 0 by unfold mkH; rw [if_pos k0],show mkN a = 0 by unfold mkN; rw [if_pos k0]]
   exact alk_shape alk_nil
  ·have k0:¬ modS a 5 = 0:=by simpa using h0
   have k1:modS a 5 = 1:=by simpa using h1
   unfold mkA
   rw [show mkK a = 2 by unfold mkK; rw [if_neg k0,if_pos k1],show mkR a b = 0 by unfold mkR; rw [if_neg k0],show mkH a b b = mkW b b by unfold mkH; rw [if_neg k0,if_pos k1],show mkH a b c = mkW b c by unfold mkH; rw [if_neg k0,if_pos k1],show mkN a = 0 by unfold mkN; rw [if_neg k0,if_pos k1]]
   exact alk_shape alk_nil
  ·have k0:¬ modS a 5 = 0:=by simpa using h0
   have k1:¬ modS a 5 = 1:=by simpa using h1
   have k2:modS a 5 = 2:=by simpa using h2
   unfold mkA
   rw [show mkK a = 3 by unfold mkK; rw [if_neg k0,if_neg k1],show mkR a b = 0 by unfold mkR; rw [if_neg k0],show mkH a b b = 0 by unfold mkH; rw [if_neg k0,if_neg k1],show mkH a b c = 0 by unfold mkH; rw [if_neg k0,if_neg k1],show mkN a = 3 by unfold mkN; rw [if_neg k0,if_neg k1,if_pos k2]]
   refine alk_shape (alk_ro fun i hi => ?_)
   unfold mkX mkY mkP
   rw [if_pos k2]
   match i with
   | 0 => rfl
   | 1 => rfl
   | 2 => rfl
   | q + 3 => omega
  ·have k0:¬ modS a 5 = 0:=by simpa using h0
   have k1:¬ modS a 5 = 1:=by simpa using h1
   have k2:¬ modS a 5 = 2:=by simpa using h2
   have k3:modS a 5 = 3:=by simpa using h3
   unfold mkA
   rw [show mkK a = 3 by unfold mkK; rw [if_neg k0,if_neg k1],show mkR a b = 0 by unfold mkR; rw [if_neg k0],show mkH a b b = 0 by unfold mkH; rw [if_neg k0,if_neg k1],show mkH a b c = 0 by unfold mkH; rw [if_neg k0,if_neg k1],show mkN a = 5 by unfold mkN; rw [if_neg k0,if_neg k1,if_neg k2,if_pos k3]]
   refine alk_shape (alk_ro fun i hi => ?_)
   unfold mkX mkY mkP
   rw [if_neg k2,if_pos k3]
   match i with
   | 0 => rfl
   | 1 => rfl
   | 2 => rfl
   | 3 => rfl
   | 4 => rfl
   | q + 5 => omega
  ·have k0:¬ modS a 5 = 0:=by simpa using h0
   have k1:¬ modS a 5 = 1:=by simpa using h1
   have k2:¬ modS a 5 = 2:=by simpa using h2
   have k3:¬ modS a 5 = 3:=by simpa using h3
   unfold mkA
   rw [show mkK a = 3 by unfold mkK; rw [if_neg k0,if_neg k1],show mkR a b = 0 by unfold mkR; rw [if_neg k0],show mkH a b b = 0 by unfold mkH; rw [if_neg k0,if_neg k1],show mkH a b c = 0 by unfold mkH; rw [if_neg k0,if_neg k1],show mkN a = 8 by unfold mkN; rw [if_neg k0,if_neg k1,if_neg k2,if_neg k3]]
   refine alk_shape (alk_ro fun i hi => ?_)
   unfold mkX mkY mkP
   rw [if_neg k2,if_neg k3]
   match i with
   | 0 => rfl
   | 1 => rfl
   | 2 => rfl
   | 3 => rfl
   | 4 => rfl
   | 5 => rfl
   | 6 => rfl
   | 7 => rfl
   | q + 8 => omega
def c22:Con
 | [.agg [.v (.int .i64 a),.v (.int .i64 b),.v (.int .i64 c),.v (.int .i64 d),.v (.int .i64 e),.v (.int .i64 f)]] => some ([inR a,inR b,inR c],mkA a b c)
 | _ => none
theorem con22:ConOK prog 22 c22:=ConOK.goR (G:=[(26,c26)]) (H:=[]) (.cons con26 .nil) func22 fun l ob rr hc hob => by
 unfold c22 at hc
 split at hc
 ·rename_i a b c d e f
  cases hc
  exact ⟨_,fun w I vs h => h,by kernel_rfl,vc22 a b c d e f (hob _ (by simp)) (hob _ (by simp)) (hob _ (by simp))⟩
 ·cases hc
def foAt (x y s:Int):V2:=((x.tmod (s * 4294967296),false),(y.tmod (s * 4294967296),false))
def foRot (u:Int):V2:=((csV (u.tmod (8 * 4294967296)) false,csF (u.tmod (8 * 4294967296)) false),(snV (u.tmod (8 * 4294967296)) false,snF (u.tmod (8 * 4294967296)) false))
theorem tmod_inR {x s:Int} (h:1 ≤ s ∧ s ≤ 1000000):inR (x.tmod (s * 4294967296)):=by
 have h1:x.tmod (s * 4294967296) < s * 4294967296:=Int.tmod_lt_of_pos x (by omega)
 have h2:-(s * 4294967296) < x.tmod (s * 4294967296):=Int.lt_tmod_of_pos x (by omega)
 unfold inR
 omega
def c24:Con
 | [.agg [.v (.int .i64 a),.v (.int .i64 b),.v (.int .i64 c),.v (.int .i64 x),.v (.int .i64 y),.v (.int .i64 u)],.v (.int .i64 s)] => some ([inR x,inR y,inR u,1 ≤ s ∧ s ≤ 1000000],poseA (foAt x y s) (foRot u))
 | _ => none
theorem con24:ConOK prog 24 c24:=ConOK.of (G:=[(39,c39),(66,c66)]) (H:=[(1,⟨[(14,.slot 4)],[]⟩)]) (.cons con39 (.cons con66 .nil)) func24 fun l ob r hc hob => by
 unfold c24 at hc
 split at hc
 ·rename_i a b c x y u s
  cases hc
  have h_0:=ob0 hob
  have h_1:=ob1 hob
  have h_2:=ob2 hob
  have h_3:=ob3 hob
  refine ⟨by kernel_rfl,fnVC_go (rs:=[.cell 4 36]) rfl rfl ?_⟩
  simp only [go_sem,c39,c66]
  simp only [forall_eq]
  exact ⟨h_0,h_3,h_1,h_3,h_2,tmod_inR (by omega),rfl⟩
 ·cases hc
theorem mk_inR {a b c:Int} (i:Nat) (hi:i < mkN a):inR (mkX a b c i) ∧ inR (mkY a b c i):=by
 have b1:=@mkM_bd b b
 have b2:=@mkM_bd b c
 have t1:(mkM b b).tdiv 2 = mkM b b / 2:=Int.tdiv_eq_ediv_of_nonneg (by omega)
 have t2:(-mkM b b).tdiv 2 = -(mkM b b / 2):=by rw [Int.neg_tdiv,t1]
 unfold mkX mkY mkP
 unfold mkN at hi
 by_cases k0:modS a 5 = 0
 ·rw [if_pos k0] at hi; omega
 rw [if_neg k0] at hi
 by_cases k1:modS a 5 = 1
 ·rw [if_pos k1] at hi; omega
 rw [if_neg k1] at hi
 rw [t1,t2]
 generalize mkM b b = M at *
 generalize mkM b c = T at *
 by_cases k2:modS a 5 = 2
 ·rw [if_pos k2] at hi
  rw [if_pos k2]
  match i with
  | 0 => show inR (-M) ∧ inR (-T); unfold inR; omega
  | 1 => show inR M ∧ inR (-T); unfold inR; omega
  | 2 => show inR 0 ∧ inR T; unfold inR; omega
  | q + 3 => omega
 rw [if_neg k2] at hi
 rw [if_neg k2]
 by_cases k3:modS a 5 = 3
 ·rw [if_pos k3] at hi
  rw [if_pos k3]
  match i with
  | 0 => show inR (-(M / 2)) ∧ inR (-T); unfold inR; omega
  | 1 => show inR (M / 2) ∧ inR (-T); unfold inR; omega
  | 2 => show inR M ∧ inR 0; unfold inR; omega
  | 3 => show inR 0 ∧ inR T; unfold inR; omega
  | 4 => show inR (-M) ∧ inR 0; unfold inR; omega
  | q + 5 => omega
 rw [if_neg k3] at hi
 rw [if_neg k3]
 match i with
 | 0 => show inR M ∧ inR (-(M / 2)); unfold inR; omega
 | 1 => show inR M ∧ inR (M / 2); unfold inR; omega
 | 2 => show inR (M / 2) ∧ inR M; unfold inR; omega
 | 3 => show inR (-(M / 2)) ∧ inR M; unfold inR; omega
 | 4 => show inR (-M) ∧ inR (M / 2); unfold inR; omega
 | 5 => show inR (-M) ∧ inR (-(M / 2)); unfold inR; omega
 | 6 => show inR (-(M / 2)) ∧ inR (-M); unfold inR; omega
 | 7 => show inR (M / 2) ∧ inR (-M); unfold inR; omega
 | q + 8 => omega
theorem mkN_le {a:Int}:mkN a ≤ 9223372036854775806:=by
 unfold mkN
 (repeat' split) <;> omega
def c154:Con
 | [.agg [.v (.int .i64 a),.v (.int .i64 b)],.agg [.v (.int .i64 c),.v (.int .i64 d)]] => some ([True],i64 (IntKind.i64.wrap (IntKind.i64.wrap (a * c) + IntKind.i64.wrap (b * d))))
 | _ => none
theorem con154:ConOK prog 154 c154:=ConOK.of (G:=[]) (H:=[]) .nil func154 fun l ob rr hc hob => by
 unfold c154 at hc
 split at hc
 ·rename_i a b c d
  cases hc
  have h_0:=ob0 hob
  refine ⟨by kernel_rfl,fnVC_go (rs:=[.tmp 4]) rfl rfl ?_⟩
  simp only [go_sem,iMul,iDiv,iInt,iAdd,iSub,iRat,iDot,iHyp,iSq,iNeg,iPos,iAbs,iMx,iMn,iCl,iWh,iLoc1,iLoc2,iVAdd1,iVAdd2,iVSub1,iVSub2,iScale1,iScale2,iVDot,iVCross,iLen,iOf1,iOf2,iUnit1,iUnit2,h_0]
  simp only [forall_eq]
 ·cases hc
def piN:Nb:=(13493037704,false)
def crI (X Y:Nat → Int) (n i:Nat):Int:=IntKind.i64.wrap (X i * Y ((i + 1) % n) - Y i * X ((i + 1) % n))
def doI (X Y:Nat → Int) (i j:Nat):Int:=IntKind.i64.wrap (IntKind.i64.wrap (X i * X j) + IntKind.i64.wrap (Y i * Y j))
def wgA (X Y:Nat → Int) (n:Nat):Nat → Int
 | 0 => 0
 | i + 1 => IntKind.i64.wrap (wgA X Y n i + crI X Y n i)
def wgB (X Y:Nat → Int) (n:Nat):Nat → Int
 | 0 => 0
 | i + 1 => IntKind.i64.wrap (wgB X Y n i + IntKind.i64.wrap (crI X Y n i * IntKind.i64.wrap (IntKind.i64.wrap (doI X Y i i + doI X Y i ((i + 1) % n)) + doI X Y ((i + 1) % n) ((i + 1) % n))))
def wgM (k r w t:Int) (n:Nat) (X Y:Nat → Int) (d:Int):Nb × Nb:=
 if k = 1 then (nDiv (nDiv (nRat 65536 (IntKind.i64.wrap (r * r))) piN) (nInt d),nDiv (nDiv (nRat 8589934592 (IntKind.i64.wrap (IntKind.i64.wrap (r * r) * IntKind.i64.wrap (r * r)))) piN) (nInt d))
 else (nDiv (nRat 131072 (wgA (corX k w t X) (corY k w t Y) (corN k r w t n X Y) (corN k r w t n X Y))) (nInt d),nDiv (nRat 51539607552 (wgB (corX k w t X) (corY k w t Y) (corN k r w t n X Y) (corN k r w t n X Y))) (nInt d))
def wgE (k r w t:Int) (n:Nat) (X Y:Nat → Int) (d:Int):Int:=if chkS k r w t n X Y ≠ 0 then chkS k r w t n X Y else if d < 1 ∨ 1000 < d then 3 else 0
def wgS (k r w t:Int) (n:Nat) (X Y:Nat → Int) (d:Int):Nb × Nb:=if wgE k r w t n X Y d = 0 then wgM k r w t n X Y d else ((0,false),(0,false))
def wgV (m:Nb × Nb):AV:=.agg [i64 m.1.1,bo m.1.2,i64 m.2.1,bo m.2.2]
theorem vc80 (k r w t:Int) (n:Nat) (X Y:Nat → Int) (d:Int) (hX:∀ i,i < n → inR (X i) ∧ inR (Y i)) (hn:n ≤ 9223372036854775806) (hd:inR d) :
  fnVC prog [(79,c62),(33,k50),(151,k54),(150,k144),(152,c119),(153,c153),(154,c154)] [(9,⟨[(15,.slot 4)],[]⟩),(15,⟨[(14,.made 12),(15,.made 13)],[(11,[.made 12])]⟩),(18,⟨[(9,.slot 4)],[]⟩)] Tryz.f80 [shapeA k r w t n fun i => [i64 (X i),i64 (Y i)],i64 d] (· = .tup [wgV (wgS k r w t n X Y d),i64 (wgE k r w t n X Y d)]):=by
 refine fnVC_go (rs:=[.cell 4 38,.tmp 5]) rfl rfl ?_
 have hg:spots n fun i => [i64 (X i),i64 (Y i)]:=fun i hi => ⟨rfl,hX i hi⟩
 simp only [go_sem,c62,k50,k54,k144,c119,c153,c154,hg,hn,hd,gx_pts0,gx_pts1]
 simp only [forall_eq]
 have eE0:wgE k r w t n X Y d = if chkS k r w t n X Y ≠ 0 then chkS k r w t n X Y else if d < 1 ∨ 1000 < d then 3 else 0:=rfl
 refine ⟨fun h => ?_,fun h => ⟨fun h2 => ?_,fun h2 => ?_⟩⟩
 ·have h:chkS k r w t n X Y ≠ 0:=by simpa using h
  rw [if_pos h] at eE0
  have eS:wgS k r w t n X Y d = ((0,false),(0,false)):=if_neg (by rw [eE0]; exact h)
  rw [eS,eE0]
  rfl
 ·have h:chkS k r w t n X Y = 0:=by simpa using h
  rw [if_neg (by simpa using h),if_pos h2] at eE0
  have eS:wgS k r w t n X Y d = ((0,false),(0,false)):=if_neg (by rw [eE0]; decide)
  rw [eS,eE0]
  rfl
 have h:chkS k r w t n X Y = 0:=by simpa using h
 rw [if_neg (by simpa using h),if_neg (by omega)] at eE0
 have eS:wgS k r w t n X Y d = wgM k r w t n X Y d:=if_pos eE0
 rw [eS,eE0]
 refine ⟨fun hk => ?_,fun hk => ?_⟩
 ·have hk:k = 1:=by simpa using hk
  have e:wgM k r w t n X Y d = _:=if_pos hk
  rw [e]
  exact ⟨inRo (by omega),wrap_inR _,inRo (by omega),inRo (by omega),wrap_inR _,inRo (by omega),rfl⟩
 have hk:¬ k = 1:=by simpa using hk
 have e:wgM k r w t n X Y d = _:=if_neg hk
 rw [e]
 have hN8:1 ≤ corN k r w t n X Y ∧ corN k r w t n X Y ≤ 8:=by
  have:=chk_cases h
  unfold corN
  rw [if_pos h]
  split <;> omega
 generalize corN k r w t n X Y = N at *
 generalize corX k w t X = P at *
 generalize corY k w t Y = Q at *
 refine loopC_go (fun (i:Nat) => i ≤ N) (fun i => N - i) (fun i => [(13,i64 (i:Int)),(10,i64 (wgA P Q N i)),(11,i64 (wgB P Q N i))]) (fun i => []) [18,17,1,0] [57,58,59,60,63,64,65,66,67,68,69,70,71,72,73,74,14,15,75,76,77,78,79,10,80,81,82,83,84,85,86,87,88,89,90,91,92,93,94,95,96,11,61,62,13] 0 (by kernel_rfl) ?_ (Nat.zero_le _) ?_ ?_
 ·intro i _; simp [goodNames,asg]
 ·simp only [go_sem]
  exact ⟨rfl,rfl⟩
 intro i hi
 have hw:IntKind.i64.wrap ((i:Int) + 1) = ((i + 1:Nat):Int):=by rw [wrap_in (inRo (by omega))]; rfl
 have hm:(((i + 1:Nat):Int)).tmod (N:Int) = (((i + 1) % N:Nat):Int):=by rw [Int.tmod_eq_emod_of_nonneg (by omega)]; rfl
 have hl:(i + 1) % N < N:=Nat.mod_lt _ (by omega)
 have wA:∀ i,inR (wgA P Q N i):=fun i => by
  cases i with
  | zero => show inR 0; unfold inR; omega
  | succ i => exact wrap_inR _
 have wB:∀ i,inR (wgB P Q N i):=fun i => by
  cases i with
  | zero => show inR 0; unfold inR; omega
  | succ i => exact wrap_inR _
 simp only [go_sem,c62,k50,k54,k144,c119,c153,c154,forall_eq,hw,hm,Int.toNat_natCast,wA,wB]
 refine ⟨fun hc => ⟨by omega,hc,by omega,by omega,by omega,i + 1,by omega,by omega,rfl,rfl,rfl⟩,fun hc => ⟨inRo (by omega),inRo (by omega),?_⟩⟩
 have e:i = N:=by omega
 subst e
 rfl
def c80:Con
 | [.agg [.v (.int .i64 k),.v (.int .i64 r),.v (.int .i64 w),.v (.int .i64 t),.ro n 2 g],.v (.int .i64 d)] => some ([spots n g,n ≤ 9223372036854775806,inR d],.tup [wgV (wgS k r w t n (gx g 0) (gx g 1) d),i64 (wgE k r w t n (gx g 0) (gx g 1) d)])
 | _ => none
theorem con80:ConOK prog 80 c80:=ConOK.go (G:=[(79,c62),(33,k50),(151,k54),(150,k144),(152,c119),(153,c153),(154,c154)]) (H:=[(9,⟨[(15,.slot 4)],[]⟩),(15,⟨[(14,.made 12),(15,.made 13)],[(11,[.made 12])]⟩),(18,⟨[(9,.slot 4)],[]⟩)]) (.cons con79 (.cons kon50 (.cons kon54 (.cons kon144 (.cons con152 (.cons con153 (.cons con154 .nil))))))) func80 fun l ob rr hc hob => by
 unfold c80 at hc
 split at hc
 ·rename_i k r w t n g d
  cases hc
  have hs:spots n g:=hob _ (by simp)
  refine ⟨[shapeA k r w t n fun i => [i64 (gx g 0 i),i64 (gx g 1 i)],i64 d],fun w I vs h => ?_,by kernel_rfl,vc80 k r w t n _ _ d (fun i hi => (hs i hi).2) (hob _ (by simp)) (hob _ (by simp))⟩
  obtain ⟨x,xs,rfl,h1,h2⟩:=h.inv
  exact .cons (Rs_shape hs _ h1) h2
 ·cases hc
end Go.Ax
end