/-
  Numbers and vectors ars they are computed with: contracts whose results are whole numbers and whole vectors; the reference's vectors.
-/
import Derived.Test.YtafigekkhpepkaaGreatCM4
set_option linter.unusedVariables false
set_option linter.unusedSimpArgs false
section
set_option maxHeartbeats 4000000
set_option maxRecDepth 100000
namespace Go.Ax
open Go.Proofs Go.Proofs.Tryz
abbrev V2:=Nb×Nb
def nbA (a:Nb):AV:=.agg [i64 a.1,bo a.2]
def veA (a:V2):AV:=.agg [i64 a.1.1,bo a.1.2,i64 a.2.1,bo a.2.2]
def unA (u:Bool×V2):AV:=.tup [.agg [i64 u.2.1.1,bo u.2.1.2,i64 u.2.2.1,bo u.2.2.2],bo u.1]
theorem bnd_nb {a:Nb}:bnd (nbA a) = .agg [i64 a.1,bo a.2]:=(rfl)
theorem bnd_ve {a:V2}:bnd (veA a) = .agg [i64 a.1.1,bo a.1.2,i64 a.2.1,bo a.2.2]:=(rfl)
theorem bnd_un {u:Bool×V2}:bnd (unA u) = .tup [.agg [i64 u.2.1.1,bo u.2.1.2,i64 u.2.2.1,bo u.2.2.2],bo u.1]:=(rfl)
theorem plain_nb {a:Nb}:plain 3 (nbA a) = true:=(rfl)
theorem plain_ve {a:V2}:plain 3 (veA a) = true:=(rfl)
theorem plain_un {u:Bool×V2}:plain 3 (unA u) = true:=(rfl)
theorem etaN {a:Nb}:(a.1,a.2) = a:=(rfl)
theorem etaV {a:V2}:(a.1,a.2) = a:=(rfl)
theorem gx_rows1 {a b:Int} {e f:Bool}:gx (rowsOf 2 [i64 a,bo e,i64 b,bo f]) 0 0 = a:=(rfl)
theorem gx_rows2 {a b:Int} {e f:Bool}:gx (rowsOf 2 [i64 a,bo e,i64 b,bo f]) 0 1 = b:=(rfl)
theorem gb_rows1 {a b:Int} {e f:Bool}:gb (rowsOf 2 [i64 a,bo e,i64 b,bo f]) 1 0 = e:=(rfl)
theorem gb_rows2 {a b:Int} {e f:Bool}:gb (rowsOf 2 [i64 a,bo e,i64 b,bo f]) 1 1 = f:=(rfl)
section
variable {a b c d:Int} {e f p q:Bool}
theorem gx4_1:gx (rowsOf 4 [i64 a,bo e,i64 b,bo f,i64 c,bo p,i64 d,bo q]) 0 0 = a:=(rfl)
theorem gx4_2:gx (rowsOf 4 [i64 a,bo e,i64 b,bo f,i64 c,bo p,i64 d,bo q]) 2 0 = b:=(rfl)
theorem gx4_3:gx (rowsOf 4 [i64 a,bo e,i64 b,bo f,i64 c,bo p,i64 d,bo q]) 0 1 = c:=(rfl)
theorem gx4_4:gx (rowsOf 4 [i64 a,bo e,i64 b,bo f,i64 c,bo p,i64 d,bo q]) 2 1 = d:=(rfl)
theorem gb4_1:gb (rowsOf 4 [i64 a,bo e,i64 b,bo f,i64 c,bo p,i64 d,bo q]) 1 0 = e:=(rfl)
theorem gb4_2:gb (rowsOf 4 [i64 a,bo e,i64 b,bo f,i64 c,bo p,i64 d,bo q]) 3 0 = f:=(rfl)
theorem gb4_3:gb (rowsOf 4 [i64 a,bo e,i64 b,bo f,i64 c,bo p,i64 d,bo q]) 1 1 = p:=(rfl)
theorem gb4_4:gb (rowsOf 4 [i64 a,bo e,i64 b,bo f,i64 c,bo p,i64 d,bo q]) 3 1 = q:=(rfl)
theorem vecs_rows:vecs 2 (rowsOf 4 [i64 a,bo e,i64 b,bo f,i64 c,bo p,i64 d,bo q]) = (inR a∧inR b∧inR c∧inR d):=by
 apply propext
 constructor
 ·intro h; exact ⟨(h 0 (by omega)).2.1,(h 0 (by omega)).2.2,(h 1 (by omega)).2.1,(h 1 (by omega)).2.2⟩
 ·rintro ⟨h1,h2,h3,h4⟩; exact vecs2 rfl rfl h1 h2 h3 h4
theorem nums_rows:nums 2 (rowsOf 2 [i64 a,bo e,i64 b,bo f]) = (inR a∧inR b):=by
 apply propext
 constructor
 ·intro h; exact ⟨(h 0 (by omega)).2,(h 1 (by omega)).2⟩
 ·rintro ⟨h1,h2⟩; exact nums2 rfl rfl h1 h2
theorem vecs_row1:vecs 1 (rowsOf 4 [i64 a,bo e,i64 b,bo f]) = (inR a∧inR b):=by
 apply propext
 constructor
 ·intro h; exact ⟨(h 0 (by omega)).2.1,(h 0 (by omega)).2.2⟩
 ·rintro ⟨h1,h2⟩; exact vecs1 rfl h1 h2
theorem nums_row1:nums 1 (rowsOf 2 [i64 a,bo e]) = inR a:=by
 apply propext
 constructor
 ·intro h; exact (h 0 (by omega)).2
 ·intro h; exact nums1 rfl h
end
def nAbs (a:Nb):Nb:=(ab (whV a.1),whF a.1 a.2)
def nMx (a b:Nb):Nb:=(if whV a.1 < whV b.1 then whV b.1 else whV a.1,whF a.1 a.2 || whF b.1 b.2)
def nMn (a b:Nb):Nb:=(if whV b.1 < whV a.1 then whV b.1 else whV a.1,whF a.1 a.2 || whF b.1 b.2)
def vLoc (x y:Int):V2:=(nRat x 256,nRat y 256)
def vAdd (a b:V2):V2:=(nAdd a.1 b.1,nAdd a.2 b.2)
def vSub (a b:V2):V2:=(nSub a.1 b.1,nSub a.2 b.2)
def vScale (v:V2) (k:Nb):V2:=(nMul v.1 k,nMul v.2 k)
def vDot (a b:V2):Nb:=nDot a.1 b.1 a.2 b.2
def vCross (a b:V2):Nb:=nDot a.1 b.2 (nNeg a.2) b.1
def vLen (a:V2):Nb:=nHyp a.1 a.2
def vOf (x y:Int):V2:=(nInt x,nInt y)
def vUnit (v:V2):Bool×V2:=unS v.1.1 v.1.2 v.2.1 v.2.2
def vApply (r v:V2):V2:=(nDot r.1 v.1 (nNeg r.2) v.2,nDot r.2 v.1 r.1 v.2)
def vNorm (a b c d:Int):V2:=(vUnit (vOf (d - b) (-(c - a)))).2
theorem inR_of {x:Int} (h:rg x):inR x = True:=eq_true (rg_inR h)
section
variable {a b c d:Nb} {u v:V2} {x y:Int}
theorem iMul:inR (nMul a b).1 = True:=inR_of nMul_rg
theorem iDiv:inR (nDiv a b).1 = True:=inR_of nDiv_rg
theorem iInt:inR (nInt x).1 = True:=inR_of nInt_rg
theorem iAdd:inR (nAdd a b).1 = True:=inR_of nAdd_rg
theorem iSub:inR (nSub a b).1 = True:=inR_of nSub_rg
theorem iRat:inR (nRat x y).1 = True:=inR_of nRat_rg
theorem iDot:inR (nDot a b c d).1 = True:=inR_of nDot_rg
theorem iHyp:inR (nHyp a b).1 = True:=inR_of nHyp_rg
theorem iSq:inR (nSq a).1 = True:=inR_of sqV_rg
theorem iNeg (h:inR a.1):inR (nNeg a).1 = True:=inR_of (nNeg_rg h)
theorem iPos (h:inR a.1):inR (nPos a).1 = True:=inR_of (nPos_rg h)
theorem iAbs (h:inR a.1):inR (nAbs a).1 = True:=by
 refine inR_of ?_
 have:=whV_rg h
 unfold nAbs ab rg at *; dsimp only; split <;> omega
theorem iMx (h:inR a.1) (k:inR b.1):inR (nMx a b).1 = True:=by
 refine inR_of ?_
 have h1:=whV_rg h
 have h2:=whV_rg k
 unfold nMx rg at *; dsimp only; split <;> omega
theorem iMn (h:inR a.1) (k:inR b.1):inR (nMn a b).1 = True:=by
 refine inR_of ?_
 have h1:=whV_rg h
 have h2:=whV_rg k
 unfold nMn rg at *; dsimp only; split <;> omega
theorem iCl (h:inR a.1) (k:inR b.1) (l:inR c.1):inR (nCl a b c).1 = True:=by
 refine inR_of ?_
 have h1:=whV_rg h
 have h2:=whV_rg k
 have h3:=whV_rg l
 unfold nCl rg at *; dsimp only; omega
theorem iLoc1:inR (vLoc x y).1.1 = True:=iRat
theorem iLoc2:inR (vLoc x y).2.1 = True:=iRat
theorem iVAdd1:inR (vAdd u v).1.1 = True:=iAdd
theorem iVAdd2:inR (vAdd u v).2.1 = True:=iAdd
theorem iVSub1:inR (vSub u v).1.1 = True:=iSub
theorem iVSub2:inR (vSub u v).2.1 = True:=iSub
theorem iScale1:inR (vScale u a).1.1 = True:=iMul
theorem iScale2:inR (vScale u a).2.1 = True:=iMul
theorem iVDot:inR (vDot u v).1 = True:=iDot
theorem iVCross:inR (vCross u v).1 = True:=iDot
theorem iLen:inR (vLen u).1 = True:=iHyp
theorem iOf1:inR (vOf x y).1.1 = True:=iInt
theorem iOf2:inR (vOf x y).2.1 = True:=iInt
theorem iUnit1:inR (vUnit u).2.1.1 = True:=inR_of unS_rg.1
theorem iUnit2:inR (vUnit u).2.2.1 = True:=inR_of unS_rg.2
theorem iApply1:inR (vApply u v).1.1 = True:=iDot
theorem iApply2:inR (vApply u v).2.1 = True:=iDot
theorem iNorm1 {z t:Int}:inR (vNorm x y z t).1.1 = True:=iUnit1
theorem iNorm2 {z t:Int}:inR (vNorm x y z t).2.1 = True:=iUnit2
theorem inR_0:inR 0 = True:=eq_true (inRo (by omega))
theorem inR_1:inR 1 = True:=eq_true (inRo (by omega))
theorem inR_2:inR 2 = True:=eq_true (inRo (by omega))
theorem inR_m1:inR (-1) = True:=eq_true (inRo (by omega))
theorem inR_256:inR 256 = True:=eq_true (inRo (by omega))
theorem inR_one:inR 4294967296 = True:=eq_true (inRo (by omega))
end
attribute [go_sem] bnd_nb bnd_ve bnd_un plain_nb plain_ve plain_un etaN etaV gx_rows1 gx_rows2 gb_rows1 gb_rows2 gx4_1 gx4_2 gx4_3 gx4_4 gb4_1 gb4_2 gb4_3 gb4_4 vecs_rows nums_rows vecs_row1 nums_row1
attribute [go_sem] iMul iDiv iInt iAdd iSub iRat iDot iHyp iSq iNeg iPos iAbs iMx iMn iCl iLoc1 iLoc2 iVAdd1 iVAdd2 iVSub1 iVSub2 iScale1 iScale2 iVDot iVCross iLen iOf1 iOf2 iUnit1 iUnit2 iApply1 iApply2 iNorm1 iNorm2 inR_0 inR_1 inR_2 inR_m1 inR_256 inR_one
def k127:Con
 | [.v (.int .i64 n)] => some ([inR n],nbA (nInt n))
 | _ => none
theorem kon127:ConOK prog 178 k127:=(show c178 = k127 by kernel_rfl) ▸ con178
def k50:Con
 | [.v (.int .i64 n)] => some ([inR n],nbA (nInt n))
 | _ => none
theorem kon50:ConOK prog 143 k50:=(show c143 = k50 by kernel_rfl) ▸ con143
def k179:Con
 | [.agg [.v (.int .i64 v),.v (.bool f)]] => some ([inR v],nbA (nNeg (v,f)))
 | _ => none
theorem kon179:ConOK prog 164 k179:=(show c164 = k179 by kernel_rfl) ▸ con164
def k111:Con
 | [.agg [.v (.int .i64 v),.v (.bool f)]] => some ([inR v],nbA (nNeg (v,f)))
 | _ => none
theorem kon111:ConOK prog 92 k111:=(show c92 = k111 by kernel_rfl) ▸ con92
def k45:Con
 | [.agg [.v (.int .i64 v),.v (.bool f)]] => some ([inR v],nbA (nAbs (v,f)))
 | _ => none
theorem kon45:ConOK prog 30 k45:=(show c30 = k45 by kernel_rfl) ▸ con30
def k129:Con
 | [.agg [.v (.int .i64 v),.v (.bool f)],.agg [.v (.int .i64 u),.v (.bool e)]] => some ([inR v,inR u],nbA (nMul (v,f) (u,e)))
 | _ => none
theorem kon129:ConOK prog 125 k129:=(show c125 = k129 by kernel_rfl) ▸ con125
def k52:Con
 | [.agg [.v (.int .i64 v),.v (.bool f)],.agg [.v (.int .i64 u),.v (.bool e)]] => some ([inR v,inR u],nbA (nMul (v,f) (u,e)))
 | _ => none
theorem kon52:ConOK prog 27 k52:=(show c27 = k52 by kernel_rfl) ▸ con27
def k125:Con
 | [.agg [.v (.int .i64 v),.v (.bool f)],.agg [.v (.int .i64 u),.v (.bool e)],.agg [.v (.int .i64 x),.v (.bool p)],.agg [.v (.int .i64 y),.v (.bool q)]] => some ([inR v,inR u,inR x,inR y],nbA (nDot (v,f) (u,e) (x,p) (y,q)))
 | _ => none
theorem kon125:ConOK prog 238 k125:=(show c238 = k125 by kernel_rfl) ▸ con238
def k136:Con
 | [.agg [.v (.int .i64 v),.v (.bool f)],.agg [.v (.int .i64 u),.v (.bool e)],.agg [.v (.int .i64 x),.v (.bool p)],.agg [.v (.int .i64 y),.v (.bool q)]] => some ([inR v,inR u,inR x,inR y],nbA (nDot (v,f) (u,e) (x,p) (y,q)))
 | _ => none
theorem kon136:ConOK prog 111 k136:=(show c111 = k136 by kernel_rfl) ▸ con111
def k160:Con
 | [.agg [.v (.int .i64 v),.v (.bool f)],.agg [.v (.int .i64 u),.v (.bool e)]] => some ([inR v,inR u],nbA (nSub (v,f) (u,e)))
 | _ => none
theorem kon160:ConOK prog 154 k160:=(show c154 = k160 by kernel_rfl) ▸ con154
def k46:Con
 | [.agg [.v (.int .i64 v),.v (.bool f)],.agg [.v (.int .i64 u),.v (.bool e)]] => some ([inR v,inR u],nbA (nSub (v,f) (u,e)))
 | _ => none
theorem kon46:ConOK prog 81 k46:=(show c81 = k46 by kernel_rfl) ▸ con81
def k132:Con
 | [.v (.int .i64 a),.v (.int .i64 b)] => some ([inR a,inR b],nbA (nRat a b))
 | _ => none
theorem kon132:ConOK prog 132 k132:=(show c132 = k132 by kernel_rfl) ▸ con132
def k54:Con
 | [.v (.int .i64 a),.v (.int .i64 b)] => some ([inR a,inR b],nbA (nRat a b))
 | _ => none
theorem kon54:ConOK prog 28 k54:=(show c28 = k54 by kernel_rfl) ▸ con28
def k168:Con
 | [.agg [.v (.int .i64 v),.v (.bool f)],.agg [.v (.int .i64 u),.v (.bool e)]] => some ([inR v,inR u],nbA (nDiv (v,f) (u,e)))
 | _ => none
theorem kon168:ConOK prog 155 k168:=(show c155 = k168 by kernel_rfl) ▸ con155
def k144:Con
 | [.agg [.v (.int .i64 v),.v (.bool f)],.agg [.v (.int .i64 u),.v (.bool e)]] => some ([inR v,inR u],nbA (nDiv (v,f) (u,e)))
 | _ => none
theorem kon144:ConOK prog 80 k144:=(show c80 = k144 by kernel_rfl) ▸ con80
def k112:Con
 | [.agg [.v (.int .i64 v),.v (.bool f)],.agg [.v (.int .i64 u),.v (.bool e)]] => some ([inR v,inR u],nbA (nHyp (v,f) (u,e)))
 | _ => none
theorem kon112:ConOK prog 200 k112:=(show c200 = k112 by kernel_rfl) ▸ con200
def k171:Con
 | [.agg [.v (.int .i64 x),.v (.bool f)],.agg [.v (.int .i64 l),.v (.bool p)],.agg [.v (.int .i64 h),.v (.bool q)]] => some ([inR x,inR l,inR h],nbA (nCl (x,f) (l,p) (h,q)))
 | _ => none
theorem kon171:ConOK prog 163 k171:=(show c163 = k171 by kernel_rfl) ▸ con163
def k146:Con
 | [.agg [.v (.int .i64 x),.v (.bool f)],.agg [.v (.int .i64 l),.v (.bool p)],.agg [.v (.int .i64 h),.v (.bool q)]] => some ([inR x,inR l,inR h],nbA (nCl (x,f) (l,p) (h,q)))
 | _ => none
theorem kon146:ConOK prog 95 k146:=(show c95 = k146 by kernel_rfl) ▸ con95
def k69:Con
 | [.agg [.v (.int .i64 x),.v (.int .i64 y)]] => some ([inR x,inR y],veA (vLoc x y))
 | _ => none
theorem kon69:ConOK prog 213 k69:=(show c213 = k69 by kernel_rfl) ▸ con213
def k161:Con
 | [.agg [.v (.int .i64 x),.v (.bool e),.v (.int .i64 y),.v (.bool f)]] => some ([inR x,inR y],nbA (vLen ((x,e),(y,f))))
 | _ => none
theorem kon161:ConOK prog 251 k161:=(show c251 = k161 by kernel_rfl) ▸ con251
def k169:Con
 | [.agg [.v (.int .i64 x),.v (.bool e),.v (.int .i64 y),.v (.bool f)],.agg [.v (.int .i64 k),.v (.bool g)]] => some ([inR x,inR y,inR k],veA (vScale ((x,e),(y,f)) (k,g)))
 | _ => none
theorem kon169:ConOK prog 122 k169:=(show c122 = k169 by kernel_rfl) ▸ con122
def k178:Con
 | [.agg [.v (.int .i64 x),.v (.bool e),.v (.int .i64 y),.v (.bool f)],.agg [.v (.int .i64 z),.v (.bool g),.v (.int .i64 t),.v (.bool h)]] => some ([inR x,inR y,inR z,inR t],nbA (vDot ((x,e),(y,f)) ((z,g),(t,h))))
 | _ => none
theorem kon178:ConOK prog 219 k178:=(show c219 = k178 by kernel_rfl) ▸ con219
def k250:Con
 | [.agg [.v (.int .i64 x),.v (.bool e),.v (.int .i64 y),.v (.bool f)],.agg [.v (.int .i64 z),.v (.bool g),.v (.int .i64 t),.v (.bool h)]] => some ([inR x,inR y,inR z,inR t],nbA (vCross ((x,e),(y,f)) ((z,g),(t,h))))
 | _ => none
theorem kon250:ConOK prog 174 k250:=(show c174 = k250 by kernel_rfl) ▸ con174
def k165:Con
 | [.agg [.v (.int .i64 x),.v (.bool e),.v (.int .i64 y),.v (.bool f)]] => some ([inR x,inR y],unA (vUnit ((x,e),(y,f))))
 | _ => none
theorem kon165:ConOK prog 250 k165:=(show c250 = k165 by kernel_rfl) ▸ con250
def k139:Con
 | [.agg [.v (.int .i64 x),.v (.bool e),.v (.int .i64 y),.v (.bool f)],.agg [.v (.int .i64 z),.v (.bool g),.v (.int .i64 t),.v (.bool h)]] => some ([inR x,inR y,inR z,inR t],veA (vApply ((x,e),(y,f)) ((z,g),(t,h))))
 | _ => none
theorem kon139:ConOK prog 198 k139:=(show c198 = k139 by kernel_rfl) ▸ con198
theorem owe2 {p q:Prop} (h1:p) (h2:q):∀ x ∈ [p,q],x:=List.forall_mem_cons.2 ⟨h1,List.forall_mem_cons.2 ⟨h2,fun _ h => (List.not_mem_nil h).elim⟩⟩
def vTwo (g:Nat→List AV):AV:=veA (vAdd ((gx g 0 0,gb g 1 0),(gx g 2 0,gb g 3 0)) ((gx g 0 1,gb g 1 1),(gx g 2 1,gb g 3 1)))
theorem vecs_at {g:Nat→List AV} (h:vecs 2 g):g 0 = [i64 (gx g 0 0),bo (gb g 1 0),i64 (gx g 2 0),bo (gb g 3 0)]∧g 1 = [i64 (gx g 0 1),bo (gb g 1 1),i64 (gx g 2 1),bo (gb g 3 1)]:=⟨(h 0 (by omega)).1,(h 1 (by omega)).1⟩
theorem two_eq {g:Nat→List AV} (h:vecs 2 g):ve (su1 2 (gx g 0) (gb g 1)) (su1 2 (gx g 2) (gb g 3)) = vTwo g:=by
 obtain ⟨h0,h1⟩:=vecs_at h
 rw [su2x h0 h1,su2y h0 h1]; rfl
def k130:Con
 | [.ro 2 4 g] => some ([vecs 2 g],veA (vAdd ((gx g 0 0,gb g 1 0),(gx g 2 0,gb g 3 0)) ((gx g 0 1,gb g 1 1),(gx g 2 1,gb g 3 1))))
 | _ => none
theorem kon130:ConOK prog 121 k130:=fun l ob r hc hob => by
 unfold k130 at hc
 split at hc
 ·rename_i g
  cases hc
  have h:vecs 2 g:=hob _ (by simp)
  have:=con121 [.ro 2 4 g] _ _ rfl (owe2 h (by omega))
  rw [two_eq h] at this
  exact this
 ·cases hc
def k138:Con
 | [.ro 2 4 g] => some ([vecs 2 g],veA (vAdd ((gx g 0 0,gb g 1 0),(gx g 2 0,gb g 3 0)) ((gx g 0 1,gb g 1 1),(gx g 2 1,gb g 3 1))))
 | _ => none
theorem kon138:ConOK prog 86 k138:=fun l ob r hc hob => by
 unfold k138 at hc
 split at hc
 ·rename_i g
  cases hc
  have h:vecs 2 g:=hob _ (by simp)
  have:=con86 [.ro 2 4 g] _ _ rfl (owe2 h (by omega))
  rw [two_eq h] at this
  exact this
 ·cases hc
theorem nums_at {g:Nat→List AV} (h:nums 2 g):g 0 = [i64 (gx g 0 0),bo (gb g 1 0)]∧g 1 = [i64 (gx g 0 1),bo (gb g 1 1)]:=⟨(h 0 (by omega)).1,(h 1 (by omega)).1⟩
theorem mx_eq {g:Nat→List AV} (h:nums 2 g):moS (-1) 2 g = nbA (nMx (gx g 0 0,gb g 1 0) (gx g 0 1,gb g 1 1)):=by
 obtain ⟨h0,h1⟩:=nums_at h
 unfold nbA nMx
 have e:=(sum2 h0 h1).2
 have m:=mo2 (o:=-1) h0 h1
 have e1:((-1:Int) = 1) = False:=by decide
 simp only [e1,false_and,false_or,eq_self,true_and] at m
 show AV.agg [i64 (moV (-1) 2 g),bo (wfS 2 g)] = _
 rw [m,e]
theorem mn_eq {g:Nat→List AV} (h:nums 2 g):moS 1 2 g = nbA (nMn (gx g 0 0,gb g 1 0) (gx g 0 1,gb g 1 1)):=by
 obtain ⟨h0,h1⟩:=nums_at h
 unfold nbA nMn
 have e:=(sum2 h0 h1).2
 have m:=mo2 (o:=1) h0 h1
 have e1:((1:Int) = -1) = False:=by decide
 simp only [e1,false_and,or_false,eq_self,true_and] at m
 show AV.agg [i64 (moV 1 2 g),bo (wfS 2 g)] = _
 rw [m,e]
def k143:Con
 | [.ro 2 2 g] => some ([nums 2 g],nbA (nMx (gx g 0 0,gb g 1 0) (gx g 0 1,gb g 1 1)))
 | _ => none
theorem kon143:ConOK prog 78 k143:=fun l ob r hc hob => by
 unfold k143 at hc
 split at hc
 ·rename_i g
  cases hc
  have h:nums 2 g:=hob _ (by simp)
  have:=con78 [.ro 2 2 g] _ _ rfl (owe2 h (by omega))
  rw [mx_eq h] at this
  exact this
 ·cases hc
def k163:Con
 | [.ro 2 2 g] => some ([nums 2 g],nbA (nMn (gx g 0 0,gb g 1 0) (gx g 0 1,gb g 1 1)))
 | _ => none
theorem kon163:ConOK prog 165 k163:=fun l ob r hc hob => by
 unfold k163 at hc
 split at hc
 ·rename_i g
  cases hc
  have h:nums 2 g:=hob _ (by simp)
  have:=con165 [.ro 2 2 g] _ _ rfl (owe2 h (by omega))
  rw [mn_eq h] at this
  exact this
 ·cases hc
def k214:Con
 | [.ro 2 2 g] => some ([nums 2 g],nbA (nMx (gx g 0 0,gb g 1 0) (gx g 0 1,gb g 1 1)))
 | _ => none
theorem kon214:ConOK prog 129 k214:=fun l ob r hc hob => by
 unfold k214 at hc
 split at hc
 ·rename_i g
  cases hc
  have h:nums 2 g:=hob _ (by simp)
  have:=con129 [.ro 2 2 g] _ _ rfl (owe2 h (by omega))
  rw [mx_eq h] at this
  exact this
 ·cases hc
theorem nPos_eq {a:Nb}:nMx (0,false) a = nPos a:=by
 have c1:whV 0 = 0:=by decide
 have c2:whF 0 false = false:=by decide
 unfold nMx nPos
 dsimp only
 rw [c1,c2,Bool.false_or]
attribute [go_sem] nPos_eq
def k47:Con
 | [.agg [.v (.int .i64 x),.v (.bool e),.v (.int .i64 y),.v (.bool f)]] => some ([inR x,inR y],nbA (vLen ((x,e),(y,f))))
 | _ => none
theorem kon47:ConOK prog 142 k47:=ConOK.of (G:=[(200,k112)]) (H:=[]) (.cons kon112 .nil) func142 fun l ob r hc hob => by
 unfold k47 at hc
 split at hc
 ·rename_i x e y f
  cases hc
  have h_0:=ob0 hob
  have h_1:=ob1 hob
  refine ⟨by kernel_rfl,fnVC_go (rs:=[.cell 2 24]) rfl rfl ?_⟩
  simp only [go_sem,k112,h_0,h_1]
  rfl
 ·cases hc
def k145:Con
 | [.agg [.v (.int .i64 x),.v (.bool e),.v (.int .i64 y),.v (.bool f)],.agg [.v (.int .i64 z),.v (.bool g),.v (.int .i64 t),.v (.bool h)]] => some ([inR x,inR y,inR z,inR t],nbA (vDot ((x,e),(y,f)) ((z,g),(t,h))))
 | _ => none
theorem kon145:ConOK prog 34 k145:=ConOK.of (G:=[(111,k136)]) (H:=[]) (.cons kon136 .nil) func34 fun l ob r hc hob => by
 unfold k145 at hc
 split at hc
 ·rename_i x e y f z g t h
  cases hc
  have h_0:=ob0 hob
  have h_1:=ob1 hob
  have h_2:=ob2 hob
  have h_3:=ob3 hob
  refine ⟨by kernel_rfl,fnVC_go (rs:=[.cell 4 24]) rfl rfl ?_⟩
  simp only [go_sem,k136,h_0,h_1,h_2,h_3]
  rfl
 ·cases hc
def k147:Con
 | [.agg [.v (.int .i64 x),.v (.bool e),.v (.int .i64 y),.v (.bool f)],.agg [.v (.int .i64 k),.v (.bool g)]] => some ([inR x,inR y,inR k],veA (vScale ((x,e),(y,f)) (k,g)))
 | _ => none
theorem kon147:ConOK prog 85 k147:=ConOK.of (G:=[(27,k52)]) (H:=[(1,⟨[(9,.slot 4)],[]⟩)]) (.cons kon52 .nil) func85 fun l ob r hc hob => by
 unfold k147 at hc
 split at hc
 ·rename_i x e y f k g
  cases hc
  have h_0:=ob0 hob
  have h_1:=ob1 hob
  have h_2:=ob2 hob
  refine ⟨by kernel_rfl,fnVC_go (rs:=[.cell 4 26]) rfl rfl ?_⟩
  simp only [go_sem,k52,h_0,h_1,h_2]
  rfl
 ·cases hc
def k149:Con
 | [.agg [.v (.int .i64 x),.v (.int .i64 y)]] => some ([inR x,inR y],veA (vOf x y))
 | _ => none
theorem kon149:ConOK prog 276 k149:=ConOK.of (G:=[(143,k50)]) (H:=[(1,⟨[(7,.slot 2)],[]⟩)]) (.cons kon50 .nil) func276 fun l ob r hc hob => by
 unfold k149 at hc
 split at hc
 ·rename_i x y
  cases hc
  have h_0:=ob0 hob
  have h_1:=ob1 hob
  refine ⟨by kernel_rfl,fnVC_go (rs:=[.cell 2 26]) rfl rfl ?_⟩
  simp only [go_sem,k50,h_0,h_1]
  rfl
 ·cases hc
def k181:Con
 | [.agg [.v (.int .i64 x),.v (.bool e),.v (.int .i64 y),.v (.bool f)],.agg [.v (.int .i64 z),.v (.bool g),.v (.int .i64 t),.v (.bool h)]] => some ([inR x,inR y,inR z,inR t],veA (vSub ((x,e),(y,f)) ((z,g),(t,h))))
 | _ => none
theorem kon181:ConOK prog 32 k181:=ConOK.of (G:=[(81,k46)]) (H:=[(1,⟨[(11,.slot 4)],[]⟩)]) (.cons kon46 .nil) func32 fun l ob r hc hob => by
 unfold k181 at hc
 split at hc
 ·rename_i x e y f z g t h
  cases hc
  have h_0:=ob0 hob
  have h_1:=ob1 hob
  have h_2:=ob2 hob
  have h_3:=ob3 hob
  refine ⟨by kernel_rfl,fnVC_go (rs:=[.cell 4 26]) rfl rfl ?_⟩
  simp only [go_sem,k46,h_0,h_1,h_2,h_3]
  rfl
 ·cases hc
def k172:Con
 | [.agg [.v (.int .i64 x),.v (.bool e),.v (.int .i64 y),.v (.bool f)],.agg [.v (.int .i64 z),.v (.bool g),.v (.int .i64 t),.v (.bool h)]] => some ([inR x,inR y,inR z,inR t],veA (vSub ((x,e),(y,f)) ((z,g),(t,h))))
 | _ => none
theorem kon172:ConOK prog 157 k172:=ConOK.of (G:=[(154,k160)]) (H:=[(1,⟨[(11,.slot 4)],[]⟩)]) (.cons kon160 .nil) func157 fun l ob r hc hob => by
 unfold k172 at hc
 split at hc
 ·rename_i x e y f z g t h
  cases hc
  have h_0:=ob0 hob
  have h_1:=ob1 hob
  have h_2:=ob2 hob
  have h_3:=ob3 hob
  refine ⟨by kernel_rfl,fnVC_go (rs:=[.cell 4 26]) rfl rfl ?_⟩
  simp only [go_sem,k160,h_0,h_1,h_2,h_3]
  rfl
 ·cases hc
def c199:Con
 | [.ro n 4 g] => some ([vecs n g,n≤1000],bo (vfS n g))
 | _ => none
theorem vc199 (n:Nat) (X Y:Nat→Int) (E F:Nat→Bool) (hX:∀ i,i < n→inR (X i)∧inR (Y i)) (hn:n≤1000):fnVC prog [(253,c253)] [] Tryz.f199 [.ro n 4 fun i => [i64 (X i),bo (E i),i64 (Y i),bo (F i)]] (· = bo (anyB (fun i => whF (X i) (E i) || whF (Y i) (F i)) n)):=by
 refine fnVC_go (rs:=[.tmp 2]) rfl rfl ?_
 simp only [go_sem]
 refine loopC_go (fun (i:Nat) => i≤n∧∀ j,j < i→(whF (X j) (E j) || whF (Y j) (F j)) = false) (fun i => n - i) (fun i => [(3,i64 i)]) (fun _ => []) [] [4,5,6,7,10,11,12,13,14,15,16,17,18,19,20,21,22,23,2,8,9,3] 0 (by kernel_rfl) ?_ ⟨Nat.zero_le _,fun j hj => by omega⟩ ?_ ?_
 ·intro x _; simp [goodNames]
 ·simp only [go_sem]
 ·intro i hi
  simp only [go_sem,c253]
  refine ⟨fun h => ⟨by omega,h,fun z hz => ⟨(hX i (by omega)).1,fun _ => by omega,fun _ => h,fun z1 hz1 => ⟨fun _ => (hX i (by omega)).2,fun hb => ?_,fun hb z2 hz2 => ⟨i + 1,⟨by omega,fun j hj => ?_⟩,by omega,?_⟩⟩⟩⟩,fun h => ?_⟩
  ·have:anyB (fun i => whF (X i) (E i) || whF (Y i) (F i)) n = true:=anyB_iff.2 ⟨i,by omega,by rw [← hz,← hz1]; simpa using hb⟩
   rw [this]
  ·by_cases e:j = i
   ·subst e
    rw [← hz,← hz1]
    simpa using hb
   ·simpa using hi.2 j (by omega)
  ·rw [hz2,wrap_in (inRo (by omega))]; rfl
  ·have:anyB (fun i => whF (X i) (E i) || whF (Y i) (F i)) n = false:=by
    rw [Bool.eq_false_iff]
    intro hc
    obtain ⟨j,h1,h2⟩:=anyB_iff.1 hc
    rw [hi.2 j (by omega)] at h2; cases h2
   rw [this]
theorem con199:ConOK prog 199 c199:=ConOK.go (G:=[(253,c253)]) (H:=[]) (.cons con253 .nil) func199 fun l ob r hc hob => by
 unfold c199 at hc
 split at hc
 ·rename_i n g
  cases hc
  have hs:vecs n g:=hob _ (by simp)
  exact ⟨[.ro n 4 fun i => [i64 (gx g 0 i),bo (gb g 1 i),i64 (gx g 2 i),bo (gb g 3 i)]],fun w I vs h => Rs_one (fun v => ro_alike fun i hi => (hs i hi).1) h,by kernel_rfl,vc199 n _ _ _ _ (fun i hi => (hs i hi).2) (hob _ (by simp))⟩
 ·cases hc
def k140:Con
 | [.agg [.v (.int .i64 x),.v (.bool e),.v (.int .i64 y),.v (.bool f)]] => some ([inR x,inR y],unA (vUnit ((x,e),(y,f))))
 | _ => none
theorem kon140:ConOK prog 141 k140:=ConOK.of (G:=[(199,c199),(30,k45),(197,c197),(142,k47),(80,k144)]) (H:=[(5,⟨[(11,.slot 4)],[]⟩),(9,⟨[(9,.slot 2)],[]⟩)]) (.cons con199 (.cons kon45 (.cons con197 (.cons kon47 (.cons kon144 .nil))))) func141 fun l ob r hc hob => by
 unfold k140 at hc
 split at hc
 ·rename_i x e y f
  cases hc
  have h_0:=ob0 hob
  have h_1:=ob1 hob
  refine ⟨by kernel_rfl,fnVC_go (rs:=[.cell 2 26,.tmp 3]) rfl rfl ?_⟩
  simp only [go_sem,c199,k45,c197,k47,k144,h_0,h_1]
  have eU:vUnit ((x,e),y,f) = unS x e y f:=rfl
  have eab:∀ (v:Int) (g:Bool),whF v g = false→(nAbs (v,g)).1 = ab v:=fun v g h => by
   obtain ⟨h1,_⟩:=wh_split h
   show ab (whV v) = _
   unfold whV; rw [if_neg h1]
  rw [eU]
  intro z hz
  rw [vf1 rfl] at hz
  refine ⟨fun ht => ?_,fun ht => ⟨fun _ => trivial,?_,?_⟩⟩
  ·rw [unS_none (by rw [hz] at ht; simpa using ht)]; rfl
  ·intro hs z1 hz1 z2 hz2 z3 hz3 z4 hz4 z5 hz5 z6 hz6
   have ht2:whF x e = false∧whF y f = false:=by rw [hz] at ht; simpa using ht
   have ht:¬ (whF x e = true∨whF y f = true):=by rw [ht2.1,ht2.2]; simp
   rw [eab x e ht2.1,eab y f ht2.2] at hs
   have hxb:-16777216 < x∧x < 16777216:=by unfold ab at hs; have:=hs.1; split at this <;> omega
   have hyb:-16777216 < y∧y < 16777216:=by unfold ab at hs; have:=hs.2; split at this <;> omega
   have hb:unB x y = ((x * 16777216,false),(y * 16777216,false)):=by unfold unB; rw [if_pos hs]
   rw [wrap_in (x:=x * 16777216) (inRo (by omega))] at hz1
   rw [wrap_in (x:=y * 16777216) (inRo (by omega))] at hz4
   have w1:z2 = x * 16777216:=by rw [hz2,hz1]; unfold whV; rw [if_neg (by omega)]
   have w2:z3 = false:=by rw [hz3,hz1]; unfold whF; rw [decide_eq_false (by omega)]; rfl
   have w3:z5 = y * 16777216:=by rw [hz5,hz4]; unfold whV; rw [if_neg (by omega)]
   have w4:z6 = false:=by rw [hz6,hz4]; unfold whF; rw [decide_eq_false (by omega)]; rfl
   rw [w1,w2,w3,w4]
   refine ⟨inRo (by omega),inRo (by omega),fun h => ?_,fun h => ⟨inRo (by omega),inRo (by omega),?_⟩⟩
   ·rw [unS_nul ht hb (by simpa [vLen] using h)]; rfl
   ·rw [unS_some ht hb (by simpa [vLen] using h)]; rfl
  ·intro hs
   have ht2:whF x e = false∧whF y f = false:=by rw [hz] at ht; simpa using ht
   have ht:¬ (whF x e = true∨whF y f = true):=by rw [ht2.1,ht2.2]; simp
   rw [eab x e ht2.1,eab y f ht2.2] at hs
   have hb:unB x y = ((x,false),(y,false)):=by unfold unB; rw [if_neg (by simpa using hs)]
   obtain ⟨_,rfl⟩:=wh_split ht2.1
   obtain ⟨_,rfl⟩:=wh_split ht2.2
   refine ⟨fun h => ?_,fun h => ?_⟩
   ·rw [unS_nul ht hb (by simpa [vLen] using h)]; rfl
   ·rw [unS_some ht hb (by simpa [vLen] using h)]; rfl
 ·cases hc
end Go.Ax
end
section
set_option maxHeartbeats 1000000
set_option maxRecDepth 100000
namespace Go.Ax
open Go.Proofs Go.Proofs.Tryz
theorem okX_iff {x:Int}:okX x = true ↔ -2097152≤x∧x≤2097152:=by unfold okX; simp
theorem validS_iff {x y:Int}:validS x y = true ↔ -2097152≤x∧x≤2097152∧-2097152≤y∧y≤2097152:=by
 unfold validS; rw [Bool.and_eq_true,okX_iff,okX_iff]; omega
theorem false_of {b:Bool} (h:¬ b = true):false = b:=by cases b <;> simp_all
def c262:Con
 | [.agg [.v (.int .i64 x),.v (.int .i64 y)]] => some ([],bo (validS x y))
 | _ => none
theorem con262:ConOK prog 262 c262:=ConOK.of (G:=[]) (H:=[]) .nil func262 fun l ob r hc hob => by
 unfold c262 at hc
 split at hc
 ·rename_i x y
  cases hc
  refine ⟨by kernel_rfl,fnVC_go (rs:=[.tmp 2]) rfl rfl ?_⟩
  simp only [go_sem]
  unfold validS okX
  rw [Bool.eq_iff_iff]
  simp
  omega
 ·cases hc
def checkBoxS (a b c d:Int):Int:=if validS a b = true∧validS c d = true then (if c < a∨d < b then 5 else 0) else 3
def c263:Con
 | [.agg [.v (.int .i64 a),.v (.int .i64 b),.v (.int .i64 c),.v (.int .i64 d)]] => some ([],i64 (checkBoxS a b c d))
 | _ => none
theorem con263:ConOK prog 263 c263:=ConOK.of (G:=[(262,c262)]) (H:=[]) (.cons con262 .nil) func263 fun l ob r hc hob => by
 unfold c263 at hc
 split at hc
 ·rename_i a b c d
  cases hc
  refine ⟨by kernel_rfl,fnVC_go (rs:=[.tmp 2]) rfl rfl ?_⟩
  simp only [go_sem,c262]
  intro z hz z1 hz1
  subst hz hz1
  unfold checkBoxS
  refine ⟨fun h => ?_,fun h => ⟨fun h2 => ?_,fun h2 => ?_⟩⟩
  ·rw [if_neg (by rintro ⟨h1,h2⟩; rcases h with h | h <;> simp_all)]
  ·rw [if_pos h,if_pos h2]
  ·rw [if_pos h,if_neg (by omega)]
 ·cases hc
def c292:Con
 | [.agg [.v (.int .i64 x),.v (.int .i64 y)],.v (.int .i64 r)] => some ([],.agg [i64 (IntKind.i64.wrap (x - r)),i64 (IntKind.i64.wrap (y - r)),i64 (IntKind.i64.wrap (x + r)),i64 (IntKind.i64.wrap (y + r))])
 | _ => none
def boxes (n:Nat) (g:Nat→List AV):Prop:=∀ i,i < n→g i = [i64 (gx g 0 i),i64 (gx g 1 i),i64 (gx g 2 i),i64 (gx g 3 i)]∧inR (gx g 0 i)∧inR (gx g 1 i)∧inR (gx g 2 i)∧inR (gx g 3 i)
def mnS (A:Nat→Int):Nat→Int
 | 0 => 0
 | i + 1 => if i = 0 then A 0 else min (mnS A i) (A i)
def mxS (A:Nat→Int):Nat→Int
 | 0 => 0
 | i + 1 => if i = 0 then A 0 else max (mxS A i) (A i)
def okB (n:Nat) (A B C D:Nat→Int):Prop:=∀ i,i < n→checkBoxS (A i) (B i) (C i) (D i) = 0
instance {n:Nat} {A B C D:Nat→Int}:Decidable (okB n A B C D):=by unfold okB; exact inferInstance
def joinS (n:Nat) (A B C D:Nat→Int) (k:Nat):Int:=if okB n A B C D then (match k with
 | 0 => mnS A n
 | 1 => mnS B n
 | 2 => mxS C n
 | _ => mxS D n) else 0
def modS (n m:Int):Int:=if n.tmod m < 0 then n.tmod m + m else n.tmod m
def c31:Con
 | [.v (.int .i64 n),.v (.int .i64 m)] => some ([0 < m,inR n,inR m],i64 (modS n m))
 | _ => none
theorem con31:ConOK prog 31 c31:=ConOK.of (G:=[]) (H:=[]) .nil func31 fun l ob r hc hob => by
 unfold c31 at hc
 split at hc
 ·rename_i n m
  cases hc
  refine ⟨by kernel_rfl,fnVC_go (rs:=[.tmp 4]) rfl rfl ?_⟩
  have h0:0 < m:=hob _ (by simp)
  have h1:inR n:=hob _ (by simp)
  have h2:inR m:=hob _ (by simp)
  simp only [go_sem]
  refine ⟨by omega,fun z hz => ⟨fun hn z1 k1 => ?_,fun hn => ?_⟩⟩
  ·have hb:-m < z:=by rw [hz]; have:=Int.lt_tmod_of_pos n h0; omega
   unfold inR at h2
   rw [wrap_in (inRo (by omega))] at k1
   unfold modS
   rw [← hz,if_pos hn,k1]
  ·unfold modS
   rw [← hz,if_neg hn]
 ·cases hc
theorem mul_bd {x y A B:Int} (hA:0≤A) (hx:-A≤x∧x≤A) (hy:-B≤y∧y≤B):-(A * B)≤x * y∧x * y≤A * B:=by
 have h1:(x * y).natAbs = x.natAbs * y.natAbs:=Int.natAbs_mul x y
 have h2:x.natAbs * y.natAbs≤A.natAbs * B.natAbs:=Nat.mul_le_mul (by omega) (by omega)
 have h3:(A * B).natAbs = A.natAbs * B.natAbs:=Int.natAbs_mul A B
 have h4:0≤A * B:=Int.mul_nonneg hA (by omega)
 omega
def sm (x:Int):Prop:=-4194304≤x∧x≤4194304
theorem sm_mul {x y:Int} (hx:sm x) (hy:sm y):-17592186044416≤x * y∧x * y≤17592186044416:=by
 have:=mul_bd (A:=4194304) (B:=4194304) (by omega) hx hy
 omega
def c268:Con
 | [.agg [.v (.int .i64 a),.v (.int .i64 b)],.agg [.v (.int .i64 c),.v (.int .i64 d)]] => some ([],.agg [i64 (IntKind.i64.wrap (a - c)),i64 (IntKind.i64.wrap (b - d))])
 | _ => none
theorem con268:ConOK prog 268 c268:=ConOK.of (G:=[]) (H:=[]) .nil func268 fun l ob r hc hob => by
 unfold c268 at hc
 split at hc
 ·cases hc
  refine ⟨by kernel_rfl,fnVC_go (rs:=[.cell 4 101]) rfl rfl ?_⟩
  simp only [go_sem]
  intro z h z1 h1
  subst h h1
  rfl
 ·cases hc
def c306:Con
 | [.agg [.v (.int .i64 a),.v (.int .i64 b)],.agg [.v (.int .i64 c),.v (.int .i64 d)]] => some ([],i64 (IntKind.i64.wrap (IntKind.i64.wrap (a * d) - IntKind.i64.wrap (b * c))))
 | _ => none
theorem con296:ConOK prog 296 c306:=ConOK.of (G:=[]) (H:=[]) .nil func296 fun l ob r hc hob => by
 unfold c306 at hc
 split at hc
 ·cases hc
  refine ⟨by kernel_rfl,fnVC_go (rs:=[.tmp 4]) rfl rfl ?_⟩
  simp only [go_sem]
  intro z h z1 h1 z2 h2
  rw [h2,h1,h]
 ·cases hc
def turnS (ax ay bx byy cx cy:Int):Int:=(bx - ax) * (cy - ay) - (byy - ay) * (cx - ax)
theorem turn_wrap {ax ay bx byy cx cy:Int} (ha:validS ax ay = true) (hb:validS bx byy = true) (hc:validS cx cy = true) :
  IntKind.i64.wrap (IntKind.i64.wrap (IntKind.i64.wrap (bx - ax) * IntKind.i64.wrap (cy - ay)) - IntKind.i64.wrap (IntKind.i64.wrap (byy - ay) * IntKind.i64.wrap (cx - ax))) = turnS ax ay bx byy cx cy:=by
 rw [validS_iff] at ha hb hc
 rw [wrap_in (x:=bx - ax) (inRo (by omega)),wrap_in (x:=cy - ay) (inRo (by omega)),wrap_in (x:=byy - ay) (inRo (by omega)),wrap_in (x:=cx - ax) (inRo (by omega))]
 have h1:=sm_mul (x:=bx - ax) (y:=cy - ay) (by unfold sm; omega) (by unfold sm; omega)
 have h2:=sm_mul (x:=byy - ay) (y:=cx - ax) (by unfold sm; omega) (by unfold sm; omega)
 rw [wrap_in (x:=(bx - ax) * (cy - ay)) (inRo (by omega)),wrap_in (x:=(byy - ay) * (cx - ax)) (inRo (by omega)),wrap_in (inRo (by omega))]
 rfl
def sideS (a b c d e f:Int):Int:=if validS a b = true∧validS c d = true∧validS e f = true then (if 0 < turnS a b c d e f then 1 else if turnS a b c d e f < 0 then -1 else 0) else 0
end Go.Ax
end
section
set_option maxHeartbeats 2000000
set_option maxRecDepth 100000
namespace Go.Ax
open Go.Proofs Go.Proofs.Tryz
def joinT (a b c d e f g h:Int) (k:Nat):Int:=if checkBoxS a b c d = 0∧checkBoxS e f g h = 0 then (match k with
 | 0 => min a e
 | 1 => min b f
 | 2 => max c g
 | _ => max d h) else 0
theorem rows_0 {a b c d:AV} {l:List AV}:rowsOf 4 (a :: b :: c :: d :: l) 0 = [a,b,c,d]:=(rfl)
theorem rows_1 {a b c d e f g h:AV} {l:List AV}:rowsOf 4 (a :: b :: c :: d :: e :: f :: g :: h :: l) 1 = [e,f,g,h]:=(rfl)
theorem boxes_2 {a b c d e f g h:Int}:boxes 2 (rowsOf 4 [i64 a,i64 b,i64 c,i64 d,i64 e,i64 f,i64 g,i64 h]) = ((inR a∧inR b∧inR c∧inR d)∧inR e∧inR f∧inR g∧inR h):=propext ⟨fun H => by
  have h0:=(H 0 (by omega)).2
  have h1:=(H 1 (by omega)).2
  simp only [gx,rows_0,rows_1,gi_0,gi_1,gi_2,gi_3] at h0 h1
  exact ⟨h0,h1⟩,fun ⟨h0,h1⟩ i hi => by
  have:i = 0∨i = 1:=by omega
  rcases this with rfl | rfl
  ·simp only [gx,rows_0,gi_0,gi_1,gi_2,gi_3]; exact ⟨trivial,h0⟩
  ·simp only [gx,rows_1,gi_0,gi_1,gi_2,gi_3]; exact ⟨trivial,h1⟩⟩
theorem okB_2 {A B C D:Nat→Int}:okB 2 A B C D ↔ checkBoxS (A 0) (B 0) (C 0) (D 0) = 0∧checkBoxS (A 1) (B 1) (C 1) (D 1) = 0:=
 ⟨fun h => ⟨h 0 (by omega),h 1 (by omega)⟩,fun ⟨h0,h1⟩ i hi => by
  have:i = 0∨i = 1:=by omega
  rcases this with rfl | rfl <;> assumption⟩
theorem join_2 {a b c d e f g h:Int} {k:Nat} (hk:k < 4):joinS 2 (gx (rowsOf 4 [i64 a,i64 b,i64 c,i64 d,i64 e,i64 f,i64 g,i64 h]) 0) (gx (rowsOf 4 [i64 a,i64 b,i64 c,i64 d,i64 e,i64 f,i64 g,i64 h]) 1) (gx (rowsOf 4 [i64 a,i64 b,i64 c,i64 d,i64 e,i64 f,i64 g,i64 h]) 2) (gx (rowsOf 4 [i64 a,i64 b,i64 c,i64 d,i64 e,i64 f,i64 g,i64 h]) 3) k = joinT a b c d e f g h k:=by
 unfold joinS joinT
 simp only [okB_2,mnS,mxS,gx,rows_0,rows_1,gi_0,gi_1,gi_2,gi_3]
 have:k = 0∨k = 1∨k = 2∨k = 3:=by omega
 rcases this with rfl | rfl | rfl | rfl <;> simp
attribute [go_sem] boxes_2 join_2 Nat.lt_irrefl
def near (a b c d:Int):Prop:=-5000≤a∧a≤c∧c≤5000∧-5000≤b∧b≤d∧d≤5000
end Go.Ax
end
section
set_option maxHeartbeats 1000000
set_option maxRecDepth 100000
namespace Go.Ax
open Go.Proofs Go.Proofs.Tryz
def nxt (n i:Nat):Nat:=if i + 1 < n then i + 1 else 0
theorem nxt_lt {n i:Nat} (h:i < n):nxt n i < n:=by unfold nxt; split <;> omega
structure At305 (I:Nat→Prop) (w:World) (J:Nat→World→Prop) (l n:Nat) (v1 x:Value) (i:Nat) (a:Act) (W:World):Prop where
 sz:a.tmps.size = 38
 de:a.defers = []
 t0:a.tmps.getD 0 undef = .func (.yield l) #[] #[]
 t1:a.tmps.getD 1 undef = v1
 t3:a.tmps.getD 3 undef = .int .i64 (IntKind.i64.wrap (n - 1))
 t12:a.tmps.getD 12 undef = x
 t13:a.tmps.getD 13 undef = .int .i64 n
 t14:a.tmps.getD 14 undef = .int .i64 i
 le:i≤n
 j:J i W
 same:Same I w W
def c294:Con
 | [.agg [.v (.int .i64 a),.v (.int .i64 b)],.agg [.v (.int .i64 c),.v (.int .i64 d)],.agg [.v (.int .i64 e),.v (.int .i64 f)]] => some ([],i64 (sideS a b c d e f))
 | _ => none
theorem turn_wrap' {ax ay bx byy cx cy:Int} (ha:validS ax ay = true) (hb:validS bx byy = true) (hc:validS cx cy = true) :
  IntKind.i64.wrap (IntKind.i64.wrap (IntKind.i64.wrap (bx - ax) * IntKind.i64.wrap (cy - ay)) - IntKind.i64.wrap (IntKind.i64.wrap (byy - ay) * IntKind.i64.wrap (cx - ax))) = turnS ax ay bx byy cx cy:=turn_wrap ha hb hc
theorem con294:ConOK prog 294 c294:=ConOK.of (G:=[(262,c262),(296,c306),(268,c268)]) (H:=[]) (.cons con262 (.cons con296 (.cons con268 .nil))) func294 fun l ob r hc hob => by
 unfold c294 at hc
 split at hc
 ·rename_i a b c d e f
  cases hc
  refine ⟨by kernel_rfl,fnVC_go (rs:=[.tmp 6]) rfl rfl ?_⟩
  simp only [go_sem,c262,c268,c306]
  intro z hz z1 hz1 z2 hz2
  subst hz hz1 hz2
  refine ⟨fun h => ?_,fun h x0 h0 x1 h1 x2 h2 x3 h3 t ht => ?_⟩
  ·unfold sideS; rw [if_neg]; rintro ⟨k1,k2,k3⟩; rw [k1,k2,k3] at h; simp at h
  ·have hv:validS a b = true∧validS c d = true∧validS e f = true:=⟨h.1.1,h.1.2,h.2⟩
   subst h0 h1 h2 h3
   rw [turn_wrap' hv.1 hv.2.1 hv.2.2] at ht
   refine ⟨fun k => ?_,fun k => ⟨fun k2 => ?_,fun k2 => ?_⟩⟩
   ·unfold sideS; rw [if_pos hv,← ht,if_pos k]
   ·unfold sideS; rw [if_pos hv,← ht,if_neg k,if_pos k2]
   ·unfold sideS; rw [if_pos hv,← ht,if_neg k,if_neg k2]
 ·cases hc
theorem tmod_nxt {n i:Nat} (h:i < n):Int.tmod ((i:Int) + 1) n = (nxt n i:Nat):=by
 unfold nxt
 by_cases e:i + 1 < n
 ·rw [if_pos e,Int.tmod_eq_of_lt (by omega) (by omega)]; rfl
 ·have:i + 1 = n:=by omega
  rw [if_neg e,show (i:Int) + 1 = n by omega,Int.tmod_self]; rfl
def convexS (n:Nat) (X Y:Nat→Int):Bool:=decide (3≤n∧(∀ i,i < n→validS (X i) (Y i) = true)∧∀ i,i < n→∀ k,k < n→k≠i→k≠nxt n i→0 < turnS (X i) (Y i) (X (nxt n i)) (Y (nxt n i)) (X k) (Y k))
theorem convexS_iff {n:Nat} {X Y:Nat→Int}:convexS n X Y = true ↔ 3≤n∧(∀ i,i < n→validS (X i) (Y i) = true)∧∀ i,i < n→∀ k,k < n→k≠i→k≠nxt n i→0 < turnS (X i) (Y i) (X (nxt n i)) (Y (nxt n i)) (X k) (Y k):=by unfold convexS; simp
def c293:Con
 | [.ro n 2 g] => some ([spots n g,n≤9223372036854775806],bo (convexS n (gx g 0) (gx g 1)))
 | _ => none
theorem vc264 (n:Nat) (X Y:Nat→Int) (hX:∀ i,i < n→inR (X i)∧inR (Y i)) (hn:n≤9223372036854775806):fnVC prog [(294,c294),(262,c262)] [] Tryz.f264 [.ro n 2 fun i => [i64 (X i),i64 (Y i)]] (· = bo (convexS n X Y)):=by
 refine fnVC_go (rs:=[.tmp 2]) rfl rfl ?_
 simp only [go_sem]
 refine ⟨fun h => false_of fun hc => ?_,fun h => ?_⟩
 ·have:=convexS_iff.1 hc
  omega
 have h3:3≤n:=by omega
 let good:Nat→Prop:=fun i => ∀ k,k < n→k≠i→k≠nxt n i→0 < turnS (X i) (Y i) (X (nxt n i)) (Y (nxt n i)) (X k) (Y k)
 refine loopC_go (fun (i:Nat) => i≤n∧(0 < i→∀ k,k < n→validS (X k) (Y k) = true)∧∀ j,j < i→good j) (fun i => n - i) (fun i => [(3,i64 i)]) (fun _ => []) [] [9,10,11,12,15,16,17,18,19,4,5,20,21,22,23,26,27,28,29,30,31,32,33,34,35,36,37,38,39,40,41,42,43,44,45,46,47,48,49,50,51,52,53,54,55,56,57,2,24,25,5,13,14,3] 0 (by kernel_rfl) ?_ ⟨Nat.zero_le _,fun h => by omega,fun j hj => by omega⟩ ?_ ?_
 ·intro x _; simp [goodNames]
 ·simp only [go_sem]
 ·intro i hi
  have hn0:((n:Int) = 0) = False:=eq_false (by omega)
  simp only [go_sem,hn0]
  refine ⟨fun hin z hz z1 hz1 => ?_,fun hin => (convexS_iff.2 ⟨h3,hi.2.1 (by omega),fun j hj => hi.2.2 j (by omega)⟩).symm⟩
  have hin:i < n:=by omega
  have ei:IntKind.i64.wrap ((i:Int) + 1) = i + 1:=wrap_in (inRo (by omega))
  rw [ei] at hz
  rw [hz,tmod_nxt hin] at hz1
  have hnl:nxt n i < n:=nxt_lt hin
  subst hz1
  refine loopC_go (fun (k:Nat) => k≤n∧∀ q,q < k→validS (X q) (Y q) = true∧(q≠i→q≠nxt n i→0 < turnS (X i) (Y i) (X (nxt n i)) (Y (nxt n i)) (X q) (Y q))) (fun k => n - k) (fun k => [(5,i64 k)]) (fun _ => []) [] [20,21,22,23,26,27,28,29,30,31,32,33,34,35,36,37,38,39,40,41,42,43,44,45,46,47,48,49,50,51,52,53,54,55,56,57,2,24,25,5] 0 (by kernel_rfl) ?_ ⟨Nat.zero_le _,fun j hj => by omega⟩ ?_ ?_
  ·intro x _; simp [goodNames]
  ·simp only [go_sem]
  ·intro k hk
   simp only [go_sem,c294,c262]
   have bn:∀ x y:Nat,((x:Int) != (y:Int)) = true ↔ x≠y:=fun x y => by rw [bne_iff_ne]; omega
   refine ⟨fun hkn => ⟨by omega,hkn,fun z1 hz1 => ⟨fun h1 h2 => ⟨h1,h2⟩,fun _ => by omega,fun _ => by omega,fun _ => by omega,fun _ => by omega,fun _ => by omega,fun _ => by omega,fun t ht => ⟨fun h1 h2 => ⟨h1,h2⟩,fun hb => false_of fun hc => ?_,fun hb z3 hz3 => ⟨k + 1,⟨by omega,fun q hq => ?_⟩,by omega,?_⟩⟩⟩⟩,fun hkn z1 hz1 => ⟨i + 1,⟨by omega,fun _ q hq => (hk.2 q (by omega)).1,fun j hj => ?_⟩,by omega,?_⟩⟩
   ·have hkn':k < n:=by omega
    obtain ⟨_,k2,k3⟩:=convexS_iff.1 hc
    rcases hb with hb | hb
    ·rw [hb,k2 k hkn'] at hz1; cases hz1
    ·have hp:=k3 i hin k hkn' ((bn _ _).1 hb.1.1) ((bn _ _).1 hb.1.2)
     have:t = 1:=by rw [ht]; unfold sideS; rw [if_pos ⟨k2 i hin,k2 _ hnl,k2 k hkn'⟩,if_pos hp]
     omega
   ·by_cases e:q = k
    ·subst e
     rw [← hz1]
     refine ⟨hb.1,fun h1 h2 => ?_⟩
     have hb2:=hb.2
     rw [(bn q i).2 h1,(bn q (nxt n i)).2 h2] at hb2
     simp at hb2
     rw [ht] at hb2
     unfold sideS at hb2
     split at hb2
     ·split at hb2
      ·assumption
      ·split at hb2 <;> omega
     ·omega
    ·exact hk.2 q (by omega)
   ·rw [hz3,wrap_in (inRo (by omega))]; rfl
   ·by_cases e:j = i
    ·subst e
     intro q hq h1 h2
     exact (hk.2 q (by omega)).2 h1 h2
    ·exact hi.2.2 j (by omega)
   ·rw [hz1,ei]; rfl
theorem con264:ConOK prog 264 c293:=ConOK.go (G:=[(294,c294),(262,c262)]) (H:=[]) (.cons con294 (.cons con262 .nil)) func264 fun l ob r hc hob => by
 unfold c293 at hc
 split at hc
 ·rename_i n g
  cases hc
  have hs:spots n g:=hob _ (by simp)
  refine ⟨[.ro n 2 fun i => [i64 (gx g 0 i),i64 (gx g 1 i)]],fun w I vs h => Rs_one (fun v => ro_alike fun i hi => (hs i hi).1) h,by kernel_rfl,vc264 n _ _ (fun i hi => (hs i hi).2) (hob _ (by simp))⟩
 ·cases hc
theorem con216:ConOK prog 216 c292:=ConOK.of (G:=[]) (H:=[]) .nil func216 fun l ob r hc hob => by
 unfold c292 at hc
 split at hc
 ·cases hc
  refine ⟨by kernel_rfl,fnVC_go (rs:=[.cell 4 108]) rfl rfl ?_⟩
  simp only [go_sem]
  intro z h z1 h1 z2 h2 z3 h3
  subst h h1 h2 h3
  rfl
 ·cases hc
theorem wrap_inR (x:Int):inR (IntKind.i64.wrap x):=by rw [wrap_i64]; unfold inR; omega
def checkS (k x y r:Int) (n:Nat) (X Y:Nat→Int):Int:=
 if k≠1∧k≠2 then 8
 else if ¬ (validS x y = true∧∀ i,i < n→validS (X i) (Y i) = true) then 3
 else if k = 1 then (if 1≤r∧(2097152 < r∨checkBoxS (x - r) (y - r) (x + r) (y + r)≠0) then 3 else if r < 1∨0 < n then 5 else 0)
 else if r≠0∨8 < n∨convexS n X Y = false then 5 else 0
instance {n:Nat} {X Y:Nat→Int}:Decidable (∀ i,i < n→validS (X i) (Y i) = true):=inferInstance
def c261:Con
 | [.agg [.v (.int .i64 k),.v (.int .i64 x),.v (.int .i64 y),.v (.int .i64 r),.ro n 2 g]] => some ([spots n g,n≤9223372036854775806,inR x,inR y,inR r],i64 (checkS k x y r n (gx g 0) (gx g 1)))
 | _ => none
theorem vc215 (k x y r:Int) (n:Nat) (X Y:Nat→Int) (hX:∀ i,i < n→inR (X i)∧inR (Y i)) (hn:n≤9223372036854775806) (hx:inR x) (hy:inR y) (hr:inR r):fnVC prog [(263,c263),(264,c293),(262,c262),(216,c292)] [] Tryz.f215 [formA k x y r n fun i => [i64 (X i),i64 (Y i)]] (· = i64 (checkS k x y r n X Y)):=by
 refine fnVC_go (rs:=[.tmp 2]) rfl rfl ?_
 simp only [go_sem,c262]
 refine ⟨fun h => ?_,fun h z hz => ⟨fun h3 => ?_,fun h3 => ?_⟩⟩
 ·have h1:k≠1∧k≠2:=by simpa using h
  unfold checkS; rw [if_pos h1]
 ·have h1:¬ (k≠1∧k≠2):=by simp at h; omega
  unfold checkS; rw [if_neg h1,if_pos]
  rintro ⟨v1,v2⟩
  rw [v1] at hz; rw [hz] at h3; cases h3
 have h1:¬ (k≠1∧k≠2):=by simp at h; omega
 have v1:validS x y = true:=by rw [← hz]; exact h3
 refine loopC_go (fun (i:Nat) => i≤n∧∀ j,j < i→validS (X j) (Y j) = true) (fun i => n - i) (fun i => [(3,i64 i)]) (fun _ => []) [0] [16,17,18,19,20,23,24,25,26,27,28,29,2,21,22,3] 0 (by kernel_rfl) ?_ ⟨Nat.zero_le _,fun j hj => by omega⟩ ?_ ?_
 ·intro x _; simp [goodNames]
 ·simp only [go_sem]
 ·intro i hi
  simp only [go_sem,c263,c293,c262,c292]
  refine ⟨fun hin => ⟨by omega,hin,fun z1 hz1 => ⟨fun h4 => ?_,fun h4 z2 hz2 => ⟨i + 1,⟨by omega,fun j hj => ?_⟩,by omega,?_⟩⟩⟩,fun hin => ?_⟩
  ·unfold checkS; rw [if_neg h1,if_pos]
   rintro ⟨_,v2⟩
   rw [v2 i (by omega)] at hz1; rw [hz1] at h4; cases h4
  ·by_cases e:j = i
   ·subst e; rw [← hz1]; exact h4
   ·exact hi.2 j (by omega)
  ·rw [hz2,wrap_in (inRo (by omega))]; rfl
  have v2:∀ i,i < n→validS (X i) (Y i) = true:=fun j hj => hi.2 j (by omega)
  have v3:=validS_iff.1 v1
  have h2:¬ ¬ (validS x y = true∧∀ i,i < n→validS (X i) (Y i) = true):=fun hn => hn ⟨v1,v2⟩
  have hg:spots n fun i => [i64 (X i),i64 (Y i)]:=fun i hi => ⟨rfl,hX i hi⟩
  have ec:convexS n (gx (fun i => [i64 (X i),i64 (Y i)]) 0) (gx (fun i => [i64 (X i),i64 (Y i)]) 1) = convexS n X Y:=rfl
  rw [ec]
  have e0:checkS k x y r n X Y = if k = 1 then (if 1≤r∧(2097152 < r∨checkBoxS (x - r) (y - r) (x + r) (y + r)≠0) then 3 else if r < 1∨0 < n then 5 else 0)
    else if r≠0∨8 < n∨convexS n X Y = false then 5 else 0:=by unfold checkS; rw [if_neg h1,if_neg h2]
  rw [e0]
  refine ⟨fun hk z2 hz2 => ⟨fun a b => ⟨a,b⟩,fun h4 => ?_,fun h4 => ?_⟩,fun hk z2 hz2 => ⟨fun _ => hg,fun _ => hn,fun h4 => ?_,fun h4 => ?_⟩⟩
  ·have hb:0 < r→¬ 2097152 < r→z2 = checkBoxS (x - r) (y - r) (x + r) (y + r):=fun a b => by
    rw [hz2,wrap_in (x:=x - r) (inRo (by omega)),wrap_in (x:=y - r) (inRo (by omega)),wrap_in (x:=x + r) (inRo (by omega)),wrap_in (x:=y + r) (inRo (by omega))]
   rw [if_pos (by simpa using hk),if_pos]
   refine ⟨h4.1,?_⟩
   by_cases hr2:2097152 < r
   ·exact .inl hr2
   ·rw [← hb (by omega) hr2]; exact .inr (by simpa using h4.2.resolve_left hr2)
  ·have hb:0 < r→¬ 2097152 < r→z2 = checkBoxS (x - r) (y - r) (x + r) (y + r):=fun a b => by
    rw [hz2,wrap_in (x:=x - r) (inRo (by omega)),wrap_in (x:=y - r) (inRo (by omega)),wrap_in (x:=x + r) (inRo (by omega)),wrap_in (x:=y + r) (inRo (by omega))]
   have h4':¬ (1≤r∧(2097152 < r∨checkBoxS (x - r) (y - r) (x + r) (y + r)≠0)):=by
    rintro ⟨a,b⟩
    simp only [a,decide_true,Bool.true_and,Bool.or_eq_false_iff,decide_eq_false_iff_not,bne_eq_false_iff_eq] at h4
    rw [← hb (by omega) h4.1] at b
    rcases b with b | b
    ·exact h4.1 b
    ·exact b h4.2
   rw [if_pos (by simpa using hk),if_neg h4']
   refine ⟨fun h5 => ?_,fun h5 => ?_⟩
   ·rw [if_pos (by omega)]
   ·rw [if_neg (by omega)]
  ·rw [if_neg (by simpa using hk),if_pos]
   rw [← hz2]
   simp only [bne_iff_ne] at h4
   rcases h4 with ((a | a) | a) | a
   ·exact .inl a
   ·refine .inr (.inr (Bool.eq_false_iff.2 fun hc => ?_))
    rw [hz2] at hc
    have:=(convexS_iff.1 hc).1
    omega
   ·exact .inr (.inl (by omega))
   ·exact .inr (.inr a)
  ·rw [if_neg (by simpa using hk),if_neg]
   rw [← hz2]
   simp only [bne_eq_false_iff_eq] at h4
   rintro (a | a | a)
   ·exact a h4.1.1.1
   ·exact h4.1.2 (by omega)
   ·rw [h4.2] at a; cases a
theorem con215:ConOK prog 215 c261:=ConOK.go (G:=[(263,c263),(264,c293),(262,c262),(216,c292)]) (H:=[]) (.cons con263 (.cons con264 (.cons con262 (.cons con216 .nil)))) func215 fun l ob rr hc hob => by
 unfold c261 at hc
 split at hc
 ·rename_i k x y r n g
  cases hc
  have hs:spots n g:=hob _ (by simp)
  exact ⟨[formA k x y r n fun i => [i64 (gx g 0 i),i64 (gx g 1 i)]],fun w I vs h => Rs_one (Rs_form hs) h,by kernel_rfl,vc215 k x y r n _ _ (fun i hi => (hs i hi).2) (hob _ (by simp)) (hob _ (by simp)) (hob _ (by simp)) (hob _ (by simp))⟩
 ·cases hc
theorem sq0 (a:Int):0≤a * a:=by rw [← Int.natAbs_mul_self]; exact Int.natCast_nonneg _
theorem dist2_bd {x y px py:Int} (h1:validS x y = true) (h2:validS px py = true):0≤(px - x) * (px - x)∧(px - x) * (px - x)≤17592186044416∧0≤(py - y) * (py - y)∧(py - y) * (py - y)≤17592186044416∧sm (px - x)∧sm (py - y):=by
 rw [validS_iff] at h1 h2
 have a1:sm (px - x):=by unfold sm; omega
 have a2:sm (py - y):=by unfold sm; omega
 have b1:=sm_mul a1 a1
 have b2:=sm_mul a2 a2
 have c1:0≤(px - x) * (px - x):=sq0 _
 have c2:0≤(py - y) * (py - y):=sq0 _
 exact ⟨c1,b1.2,c2,b2.2,a1,a2⟩
theorem dist2_wrap {x y px py:Int} (h1:validS x y = true) (h2:validS px py = true) :
  IntKind.i64.wrap (IntKind.i64.wrap (IntKind.i64.wrap (px - x) * IntKind.i64.wrap (px - x)) + IntKind.i64.wrap (IntKind.i64.wrap (py - y) * IntKind.i64.wrap (py - y))) = dist2 x y px py:=by
 obtain ⟨c1,b1,c2,b2,a1,a2⟩:=dist2_bd h1 h2
 unfold sm at a1 a2
 rw [wrap_in (x:=px - x) (inRo (by omega)),wrap_in (x:=py - y) (inRo (by omega)),wrap_in (x:=(px - x) * (px - x)) (inRo (by omega)),wrap_in (x:=(py - y) * (py - y)) (inRo (by omega)),wrap_in (inRo (by omega))]
 rfl
theorem sq_wrap {r:Int} (h:sm r):IntKind.i64.wrap (r * r) = r * r:=by
 have:=sm_mul h h
 exact wrap_in (inRo (by omega))
def inS (n:Nat) (X Y:Nat→Int) (px py:Int):Bool:=decide (∀ i,i < n→0≤turnS (X i) (Y i) (X (nxt n i)) (Y (nxt n i)) px py)
theorem inS_iff {n:Nat} {X Y:Nat→Int} {px py:Int}:inS n X Y px py = true ↔ ∀ i,i < n→0≤turnS (X i) (Y i) (X (nxt n i)) (Y (nxt n i)) px py:=by unfold inS; simp
def holdsS (k x y r:Int) (n:Nat) (X Y:Nat→Int) (px py:Int):Bool:=if k = 1 then decide (dist2 x y px py≤r * r) else inS n X Y px py
theorem check_1 {k x y r:Int} {n:Nat} {X Y:Nat→Int} (h:checkS k x y r n X Y = 0):(k = 1∨k = 2)∧validS x y = true∧(∀ i,i < n→validS (X i) (Y i) = true)∧(k = 1→1≤r∧r≤2097152∧checkBoxS (x - r) (y - r) (x + r) (y + r) = 0∧n = 0)∧(k≠1→r = 0∧n≤8∧convexS n X Y = true):=by
 unfold checkS at h
 split at h
 ·omega
 ·split at h
  ·omega
  ·rename_i h1 h2
   have h2:validS x y = true∧∀ i,i < n→validS (X i) (Y i) = true:=Decidable.of_not_not h2
   split at h
   ·rename_i h3
    split at h
    ·omega
    ·rename_i h4
     split at h
     ·omega
     ·rename_i h5
      refine ⟨.inl h3,h2.1,h2.2,fun _ => ⟨by omega,by omega,?_,by omega⟩,fun h => absurd h3 h⟩
      by_cases e:checkBoxS (x - r) (y - r) (x + r) (y + r) = 0
      ·exact e
      ·exact absurd ⟨by omega,.inr e⟩ h4
   ·rename_i h3
    split at h
    ·omega
    ·rename_i h5
     refine ⟨by omega,h2.1,h2.2,fun h => absurd h h3,fun _ => ⟨by omega,by omega,?_⟩⟩
     cases hc:convexS n X Y
     ·exact absurd (.inr (.inr hc)) h5
     ·rfl
def c272:Con
 | [.agg [.v (.int .i64 k),.v (.int .i64 x),.v (.int .i64 y),.v (.int .i64 r),.ro n 2 g],.agg [.v (.int .i64 px),.v (.int .i64 py)]] => some ([spots n g,n≤9223372036854775806,checkS k x y r n (gx g 0) (gx g 1) = 0,validS px py = true],bo (holdsS k x y r n (gx g 0) (gx g 1) px py))
 | _ => none
end Go.Ax
end
section
set_option maxHeartbeats 2000000
set_option maxRecDepth 100000
namespace Go.Ax
open Go.Proofs Go.Proofs.Tryz
def bxS (n:Nat) (X Y:Nat→Int):Nat→Int
 | 0 => mnS X n
 | 1 => mnS Y n
 | 2 => mxS X n
 | _ => mxS Y n
def boxS (k x y r:Int) (n:Nat) (X Y:Nat→Int) (q:Nat):Int:=
 if checkS k x y r n X Y = 0 then (if k = 1 then (match q with
  | 0 => x - r
  | 1 => y - r
  | 2 => x + r
  | _ => y + r) else bxS n X Y q) else 0
theorem boxS_disc {k x y r:Int} {n:Nat} {X Y:Nat→Int} {q:Nat} (hc:checkS k x y r n X Y = 0) (hk:k = 1):boxS k x y r n X Y q = match q with
  | 0 => x - r
  | 1 => y - r
  | 2 => x + r
  | _ => y + r:=by unfold boxS; rw [if_pos hc,if_pos hk]
theorem boxS_poly {k x y r:Int} {n:Nat} {X Y:Nat→Int} {q:Nat} (hc:checkS k x y r n X Y = 0) (hk:k≠1):boxS k x y r n X Y q = bxS n X Y q:=by unfold boxS; rw [if_pos hc,if_neg hk]
end Go.Ax
end
section
set_option maxHeartbeats 4000000
set_option maxRecDepth 100000
namespace Go.Ax
open Go.Proofs Go.Proofs.Tryz Go.RowKit
def nxt2 (n i:Nat):Nat:=nxt n (nxt n i)
theorem nxt2_lt {n i:Nat} (h:i < n):nxt2 n i < n:=nxt_lt (nxt_lt h)
theorem tmod_nxt2 {n i:Nat} (h:i < n):Int.tmod ((i:Int) + 2) n = (nxt2 n i:Nat):=by
 have e:((i:Int) + 2) = ((i + 2:Nat):Int):=rfl
 rw [e,Int.tmod_eq_emod_of_nonneg (by omega),← Int.natCast_emod]
 congr 1
 unfold nxt2 nxt
 by_cases h2:i + 2 < n
 ·rw [Nat.mod_eq_of_lt h2,if_pos (show i + 1 < n by omega),if_pos h2]
 ·by_cases h1:i + 1 < n
  ·have:i + 2 = n:=by omega
   rw [if_pos h1,if_neg (by omega),this,Nat.mod_self]
  ·have:i + 1 = n:=by omega
   rw [if_neg h1,Nat.mod_eq_sub_mod (by omega),show i + 2 - n = 1 by omega]
   by_cases h0:0 + 1 < n
   ·rw [if_pos h0,Nat.mod_eq_of_lt h0]
   ·rw [if_neg h0,show n = 1 by omega]
structure At300 (I:Nat→Prop) (w:World) (J:Nat→World→Prop) (l n:Nat) (v1:Value) (i:Nat) (a:Act) (W:World):Prop where
 sz:a.tmps.size = 35
 de:a.defers = []
 t0:a.tmps.getD 0 undef = .func (.yield l) #[] #[]
 t1:a.tmps.getD 1 undef = v1
 t3:a.tmps.getD 3 undef = .int .i64 n
 t7:a.tmps.getD 7 undef = .int .i64 n
 t8:a.tmps.getD 8 undef = .int .i64 i
 le:i≤n
 j:J i W
 same:Same I w W
end Go.Ax
end
section
set_option maxHeartbeats 4000000
set_option maxRecDepth 100000
namespace Go.Ax
open Go.Proofs Go.Proofs.Tryz
def lo (x:Int):Prop:=-4096≤x∧x≤4096
theorem lo_mul {x y:Int} (hx:lo x) (hy:lo y):-16777216≤x * y∧x * y≤16777216:=by
 have:=mul_bd (A:=4096) (B:=4096) (by omega) hx hy
 omega
def lo2 (x:Int):Prop:=-8192≤x∧x≤8192
theorem lo2_mul {x y:Int} (hx:lo2 x) (hy:lo2 y):-67108864≤x * y∧x * y≤67108864:=by
 have:=mul_bd (A:=8192) (B:=8192) (by omega) hx hy
 omega
def cvxS (n:Nat) (X Y:Nat→Int):Bool:=decide (∀ i,i < n→(0 < X i * Y (nxt n i) - Y i * X (nxt n i)∧4 * (ab (X (nxt n i) - X i) + ab (Y (nxt n i) - Y i) + (ab (X (nxt2 n i) - X (nxt n i)) + ab (Y (nxt2 n i) - Y (nxt n i))))≤(X (nxt n i) - X i) * (Y (nxt2 n i) - Y (nxt n i)) - (Y (nxt n i) - Y i) * (X (nxt2 n i) - X (nxt n i)))∧∀ j,j < n→j≠i→j≠nxt n i→0 < (X (nxt n i) - X i) * (Y j - Y i) - (Y (nxt n i) - Y i) * (X j - X i))
def c256:Con
 | [.ro n 2 g] => some ([spots n g,n≤1000,∀ i,i < n→lo (gx g 0 i)∧lo (gx g 1 i)],bo (cvxS n (gx g 0) (gx g 1)))
 | _ => none
theorem tmod_cast {n k:Nat} (h:0 < n):Int.tmod (k:Int) n = ((k % n:Nat):Int):=by
 rw [Int.tmod_eq_emod_of_nonneg (by omega),← Int.natCast_emod]
theorem ix_all {n i j:Nat} (hi:i < n) (hj:j < n) (h1:j≠i) (h2:j≠nxt n i):∃ k,2≤k∧k < n∧(i + k) % n = j:=by
 unfold nxt at h2
 by_cases h:i < j
 ·refine ⟨j - i,?_,by omega,?_⟩
  ·rw [if_pos (by omega)] at h2; omega
  ·rw [show i + (j - i) = j by omega,Nat.mod_eq_of_lt hj]
 ·refine ⟨n + j - i,?_,by omega,?_⟩
  ·split at h2 <;> omega
  ·rw [show i + (n + j - i) = j + n by omega,Nat.add_mod_right,Nat.mod_eq_of_lt hj]
theorem ix_ne {n i k:Nat} (hi:i < n) (h2:2≤k) (hk:k < n):(i + k) % n < n∧(i + k) % n≠i∧(i + k) % n≠nxt n i:=by
 refine ⟨Nat.mod_lt _ (by omega),?_⟩
 unfold nxt
 by_cases h:i + k < n
 ·rw [Nat.mod_eq_of_lt h]
  refine ⟨by omega,?_⟩
  split <;> omega
 ·rw [Nat.mod_eq_sub_mod (by omega),Nat.mod_eq_of_lt (by omega)]
  refine ⟨by omega,?_⟩
  split <;> omega
theorem vc223 (n:Nat) (X Y:Nat→Int) (hn:n≤1000) (hl:∀ i,i < n→lo (X i)∧lo (Y i)):fnVC prog [(224,c224),(265,c265),(266,c266)] [(5,⟨[(21,.made 18),(22,.made 19),(23,.made 20)],[(10,[.made 18]),(17,[.made 18,.made 19])]⟩)] Tryz.f223 [.ro n 2 fun i => [i64 (X i),i64 (Y i)]] (· = bo (cvxS n X Y)):=by
 refine fnVC_go (rs:=[.tmp 2]) rfl rfl ?_
 simp only [go_sem]
 obtain ⟨A,hA⟩:∃ A:Nat→Prop,A = fun i => 0 < X i * Y (nxt n i) - Y i * X (nxt n i)∧4 * (ab (X (nxt n i) - X i) + ab (Y (nxt n i) - Y i) + (ab (X (nxt2 n i) - X (nxt n i)) + ab (Y (nxt2 n i) - Y (nxt n i))))≤(X (nxt n i) - X i) * (Y (nxt2 n i) - Y (nxt n i)) - (Y (nxt n i) - Y i) * (X (nxt2 n i) - X (nxt n i)):=⟨_,rfl⟩
 obtain ⟨T,hT⟩:∃ T:Nat→Nat→Int,T = fun i j => (X (nxt n i) - X i) * (Y j - Y i) - (Y (nxt n i) - Y i) * (X j - X i):=⟨_,rfl⟩
 have hcv:cvxS n X Y = true ↔ ∀ i,i < n→A i∧∀ j,j < n→j≠i→j≠nxt n i→0 < T i j:=by
  subst hA hT
  unfold cvxS
  rw [decide_eq_true_eq]
 refine loopC_go (fun (i:Nat) => i≤n∧∀ j,j < i→A j∧∀ k,k < n→k≠j→k≠nxt n j→0 < T j k) (fun i => n - i) (fun i => [(4,i64 i)]) (fun _ => []) [] [11,12,13,16,17,18,19,20,21,22,23,24,25,26,27,28,29,30,31,32,33,5,6,7,34,35,36,37,38,39,40,41,42,43,44,45,46,47,48,49,50,51,52,53,54,55,56,57,2,8,58,59,60,63,64,65,66,67,68,69,70,71,72,73,74,75,76,77,2,61,62,8,14,15,4] 0 (by kernel_rfl) ?_ ⟨Nat.zero_le _,fun j hj => by omega⟩ ?_ ?_
 ·intro x _; simp [goodNames]
 ·simp only [go_sem]
 ·intro i hi
  by_cases hlt:i < n
  ·have hn0:((n:Int) = 0) = False:=eq_false (by omega)
   have l1:=nxt_lt hlt
   have l2:=nxt2_lt hlt
   have b1:=hl i hlt
   have b2:=hl _ l1
   have b3:=hl _ l2
   have m1:=lo_mul b1.1 b2.2
   have m2:=lo_mul b1.2 b2.1
   have d1:lo2 (X (nxt n i) - X i):=by unfold lo at b1 b2; unfold lo2; omega
   have d2:lo2 (Y (nxt n i) - Y i):=by unfold lo at b1 b2; unfold lo2; omega
   have d3:lo2 (X (nxt2 n i) - X (nxt n i)):=by unfold lo at b3 b2; unfold lo2; omega
   have d4:lo2 (Y (nxt2 n i) - Y (nxt n i)):=by unfold lo at b3 b2; unfold lo2; omega
   have m3:=lo2_mul d1 d4
   have m4:=lo2_mul d2 d3
   unfold lo2 at d1 d2 d3 d4
   have w1:IntKind.i64.wrap (X (nxt n i) - X i) = X (nxt n i) - X i:=wrap_in (inRo (by omega))
   have w2:IntKind.i64.wrap (Y (nxt n i) - Y i) = Y (nxt n i) - Y i:=wrap_in (inRo (by omega))
   have w3:IntKind.i64.wrap (X (nxt2 n i) - X (nxt n i)) = X (nxt2 n i) - X (nxt n i):=wrap_in (inRo (by omega))
   have w4:IntKind.i64.wrap (Y (nxt2 n i) - Y (nxt n i)) = Y (nxt2 n i) - Y (nxt n i):=wrap_in (inRo (by omega))
   have w5:IntKind.i64.wrap (X i * Y (nxt n i) - Y i * X (nxt n i)) = X i * Y (nxt n i) - Y i * X (nxt n i):=wrap_in (inRo (by omega))
   have w6:IntKind.i64.wrap ((X (nxt n i) - X i) * (Y (nxt2 n i) - Y (nxt n i)) - (Y (nxt n i) - Y i) * (X (nxt2 n i) - X (nxt n i))) = (X (nxt n i) - X i) * (Y (nxt2 n i) - Y (nxt n i)) - (Y (nxt n i) - Y i) * (X (nxt2 n i) - X (nxt n i)):=wrap_in (inRo (by omega))
   have v1:IntKind.i64.wrap ((i:Int) + 1) = i + 1:=wrap_in (inRo (by omega))
   have v2:IntKind.i64.wrap ((i:Int) + 2) = i + 2:=wrap_in (inRo (by omega))
   simp only [go_sem,hn0,c224,c265,c266]
   refine ⟨fun _ => ?_,fun h => absurd (by omega) h⟩
   refine ⟨by omega,by omega,fun z hz z1 hz1 => ?_⟩
   rw [hz,v1,tmod_nxt hlt] at hz1
   subst hz1
   refine ⟨by omega,by omega,fun z2 hz2 z3 hz3 => ?_⟩
   rw [hz2,v2,tmod_nxt2 hlt] at hz3
   subst hz3
   refine ⟨by omega,by omega,?_⟩
   simp only [Int.toNat_natCast,w1,w2,w3,w4,w5,w6]
   intro z4 hz4 z5 hz5 z6 hz6
   have ab1:0≤ab (X (nxt n i) - X i)∧ab (X (nxt n i) - X i)≤8192:=by unfold ab; split <;> omega
   have ab2:0≤ab (Y (nxt n i) - Y i)∧ab (Y (nxt n i) - Y i)≤8192:=by unfold ab; split <;> omega
   have ab3:0≤ab (X (nxt2 n i) - X (nxt n i))∧ab (X (nxt2 n i) - X (nxt n i))≤8192:=by unfold ab; split <;> omega
   have ab4:0≤ab (Y (nxt2 n i) - Y (nxt n i))∧ab (Y (nxt2 n i) - Y (nxt n i))≤8192:=by unfold ab; split <;> omega
   have hAi:A i ↔ 0 < z4∧4 * (ab (X (nxt n i) - X i) + ab (Y (nxt n i) - Y i) + (ab (X (nxt2 n i) - X (nxt n i)) + ab (Y (nxt2 n i) - Y (nxt n i))))≤z5:=by rw [hA,hz4,hz5]
   refine ⟨fun _ => by omega,fun _ => by omega,fun z7 hz7 => ⟨fun _ => by omega,fun _ => by omega,fun z8 hz8 z9 hz9 => ⟨fun h => ?_,fun h => ?_⟩⟩⟩
   ·rw [hz6,hz7,wrap_in (inRo (by omega))] at hz8
    rw [hz8,wrap_in (inRo (by omega))] at hz9
    refine false_of fun hc => ?_
    have:=(hcv.1 hc i hlt).1
    rw [hAi] at this
    omega
   rw [hz6,hz7,wrap_in (inRo (by omega))] at hz8
   rw [hz8,wrap_in (inRo (by omega))] at hz9
   have hAi:A i:=hAi.2 (by omega)
   clear hz4 hz5 hz6 hz7 hz8 hz9 w5 w6 m1 m2 m3 m4
   refine loopC_go (fun (k:Nat) => (2≤k∧k≤max n 2)∧∀ k',2≤k'→k' < k→0 < T i ((i + k') % n)) (fun k => max n 2 - k) (fun k => [(8,i64 k)]) (fun _ => []) [28,27,26] [58,59,60,63,64,65,66,67,68,69,70,71,72,73,74,75,76,77,2,61,62,8] 2 (by kernel_rfl) ?_ ⟨by omega,fun j hj hj2 => by omega⟩ ?_ ?_
   ·intro x _; simp [goodNames]
   ·simp only [go_sem]
   ·intro k hk
    simp only [go_sem,hn0,c224,c265]
    refine ⟨fun hkn => ?_,fun hkn => ?_⟩
    ·have hk2:=hk.1.1
     ·have hkn':k < n:=by omega
      obtain ⟨j1,j2,j3⟩:=ix_ne hlt hk2 hkn'
      have b4:=hl _ j1
      have d5:lo2 (Y ((i + k) % n) - Y i):=by unfold lo at b1 b4; unfold lo2; omega
      have d6:lo2 (X ((i + k) % n) - X i):=by unfold lo at b1 b4; unfold lo2; omega
      have m5:=lo2_mul (show lo2 _ from d1) d5
      have m6:=lo2_mul (show lo2 _ from d2) d6
      unfold lo2 at d5 d6
      intro za hza zb hzb zc hzc zd hzd
      rw [hzc,wrap_in (inRo (by omega)),show (i:Int) + k = ((i + k:Nat):Int) from rfl,tmod_cast (by omega)] at hzd
      subst hzd
      refine ⟨by omega,by omega,fun ze hze zf hzf zg hzg => ?_⟩
      rw [Int.toNat_natCast] at hze hzf
      have ew:zg = T i ((i + k) % n):=by
       rw [hzg,hza,hzb,hze,hzf,w1,w2,wrap_in (x:=Y ((i + k) % n) - Y i) (inRo (by omega)),wrap_in (x:=X ((i + k) % n) - X i) (inRo (by omega)),wrap_in (inRo (by omega)),hT]
      rw [ew]
      refine ⟨fun h => false_of fun hc => ?_,fun h z3 hz3 => ⟨k + 1,⟨by omega,fun k' hk' k1 => ?_⟩,by omega,?_⟩⟩
      ·have:=(hcv.1 hc i hlt).2 _ j1 j2 j3
       omega
      ·by_cases e:k' = k
       ·subst e; omega
       ·exact hk.2 k' hk' (by omega)
      ·rw [hz3,wrap_in (inRo (by omega))]; rfl
    ·have hkn':n≤k:=by omega
     refine fun z hz => ⟨i + 1,⟨by omega,fun j' hj' => ?_⟩,by omega,?_⟩
     ·by_cases e:j' = i
      ·subst e
       refine ⟨hAi,fun k' k1 k2 k3 => ?_⟩
       obtain ⟨q,q1,q2,q3⟩:=ix_all hlt k1 k2 k3
       rw [← q3]
       exact hk.2 q q1 (by omega)
      ·exact hi.2 j' (by omega)
     ·rw [hz,v1]; rfl
  ·simp only [go_sem]
   refine ⟨fun h => absurd (by omega) hlt,fun _ => ?_⟩
   have he:i = n:=by omega
   subst he
   exact (hcv.2 hi.2).symm
theorem con223:ConOK prog 223 c256:=ConOK.go (G:=[(224,c224),(265,c265),(266,c266)]) (H:=[(5,⟨[(21,.made 18),(22,.made 19),(23,.made 20)],[(10,[.made 18]),(17,[.made 18,.made 19])]⟩)]) (.cons con224 (.cons con265 (.cons con266 .nil))) func223 fun l ob r hc hob => by
 unfold c256 at hc
 split at hc
 ·rename_i n g
  cases hc
  have hs:spots n g:=hob _ (by simp)
  exact ⟨[.ro n 2 fun i => [i64 (gx g 0 i),i64 (gx g 1 i)]],fun w I vs h => Rs_one (fun v => ro_alike fun i hi => (hs i hi).1) h,by kernel_rfl,vc223 n _ _ (hob _ (by simp)) (hob _ (by simp))⟩
 ·cases hc
instance {x:Int}:Decidable (lo x):=by unfold lo; infer_instance
def chkS (k r w t:Int) (n:Nat) (X Y:Nat→Int):Int:=
 if k = 1 then (if w≠0∨t≠0∨n≠0 then 4 else if 16≤r∧r≤4096 then 0 else 3)
 else if k = 2 then (if r≠0∨n≠0 then 4 else if (16≤w∧w≤4096)∧(16≤t∧t≤4096) then 0 else 3)
 else if k = 3 then (if r≠0∨w≠0∨t≠0∨n < 3∨8 < n then 4 else if ∀ i,i < n→lo (X i)∧lo (Y i) then (if cvxS n X Y = true then 0 else 5) else 3)
 else 8
def c202:Con
 | [.agg [.v (.int .i64 k),.v (.int .i64 r),.v (.int .i64 w),.v (.int .i64 t),.ro n 2 g]] => some ([spots n g,n≤9223372036854775806],i64 (chkS k r w t n (gx g 0) (gx g 1)))
 | _ => none
theorem vc166 (k r w t:Int) (n:Nat) (X Y:Nat→Int) (hX:∀ i,i < n→inR (X i)∧inR (Y i)) (hn:n≤9223372036854775806):fnVC prog [(221,c221),(222,c222),(223,c256)] [] Tryz.f166 [shapeA k r w t n fun i => [i64 (X i),i64 (Y i)]] (· = i64 (chkS k r w t n X Y)):=by
 refine fnVC_go (rs:=[.tmp 2]) rfl rfl ?_
 have hg:spots n fun i => [i64 (X i),i64 (Y i)]:=fun i hi => ⟨rfl,hX i hi⟩
 have eX:gx (fun i => [i64 (X i),i64 (Y i)]) 0 = X:=rfl
 have eY:gx (fun i => [i64 (X i),i64 (Y i)]) 1 = Y:=rfl
 simp only [go_sem,c221,c222,c256]
 refine ⟨fun hk => ?_,fun hk => ⟨fun hk2 => ?_,fun hk2 => ⟨fun hk3 => ?_,fun hk3 => ?_⟩⟩⟩
 ·have hk:k = 1:=by simpa using hk
  refine ⟨fun h => ?_,fun h z hz => ⟨fun h2 => ?_,fun h2 => ?_⟩⟩
  ·unfold chkS; rw [if_pos hk,if_pos (by simp only [bne_iff_ne] at h; omega)]
  ·unfold chkS; rw [if_pos hk,if_neg (by simp at h; omega),if_neg (by rw [hz] at h2; exact of_decide_eq_false h2)]
  ·unfold chkS; rw [if_pos hk,if_neg (by simp at h; omega),if_pos (by rw [hz] at h2; exact of_decide_eq_true h2)]
 ·have hk:¬ k = 1:=by simpa using hk
  have hk2:k = 2:=by simpa using hk2
  refine ⟨fun h => ?_,fun h z hz z1 hz1 => ⟨fun h2 => ?_,fun h2 => ?_⟩⟩
  ·unfold chkS; rw [if_neg hk,if_pos hk2,if_pos (by simp only [bne_iff_ne] at h; omega)]
  ·unfold chkS; rw [if_neg hk,if_pos hk2,if_neg (by simp at h; omega),if_neg (by
    rintro ⟨p,q⟩
    rw [hz,hz1,decide_eq_true p,decide_eq_true q] at h2
    simp at h2)]
  ·unfold chkS; rw [if_neg hk,if_pos hk2,if_neg (by simp at h; omega),if_pos (by
    rw [hz,hz1] at h2
    exact ⟨of_decide_eq_true h2.1,of_decide_eq_true h2.2⟩)]
 ·have hk:¬ k = 1:=by simpa using hk
  have hk2:¬ k = 2:=by simpa using hk2
  have hk3:k = 3:=by simpa using hk3
  refine ⟨fun h => ?_,fun h => ?_⟩
  ·unfold chkS; rw [if_neg hk,if_neg hk2,if_pos hk3,if_pos (by simp only [bne_iff_ne] at h; omega)]
  have h4:¬ (r≠0∨w≠0∨t≠0∨n < 3∨8 < n):=by simp at h; omega
  have e0:chkS k r w t n X Y = if ∀ i,i < n→lo (X i)∧lo (Y i) then (if cvxS n X Y = true then 0 else 5) else 3:=by unfold chkS; rw [if_neg hk,if_neg hk2,if_pos hk3,if_neg h4]
  rw [e0]
  refine loopC_go (fun (i:Nat) => i≤n∧∀ j,j < i→lo (X j)∧lo (Y j)) (fun i => n - i) (fun i => [(3,i64 i)]) (fun _ => []) [0] [74,75,76,77,78,81,82,83,84,85,86,87,88,89,90,91,92,93,94,95,96,97,98,2,79,80,3] 0 (by kernel_rfl) ?_ ⟨Nat.zero_le _,fun j hj => by omega⟩ ?_ ?_
  ·intro x _; simp [goodNames]
  ·simp only [go_sem]
  ·intro i hi
   simp only [go_sem,c222,c256,eX,eY]
   refine ⟨fun hin => ⟨by omega,hin,fun z hz => ⟨fun _ => by omega,fun _ => hin,fun z1 hz1 => ⟨fun h5 => ?_,fun h5 z2 hz2 => ⟨i + 1,⟨by omega,fun j hj => ?_⟩,by omega,?_⟩⟩⟩⟩,fun hin z hz => ⟨hg,by omega,fun j hj => hi.2 j (by omega),fun h5 => ?_,fun h5 => ?_⟩⟩
   ·rw [if_neg fun hc => ?_]
    have:=hc i (by omega)
    unfold lo at this
    rw [hz,hz1] at h5
    rcases h5 with h5 | h5
    ·exact absurd (of_decide_eq_false h5) (by simp only [Decidable.not_not]; exact this.1)
    ·exact absurd (of_decide_eq_false h5) (by simp only [Decidable.not_not]; exact this.2)
   ·by_cases e:j = i
    ·subst e
     rw [hz,hz1] at h5
     exact ⟨of_decide_eq_true h5.1,of_decide_eq_true h5.2⟩
    ·exact hi.2 j (by omega)
   ·rw [hz2,wrap_in (inRo (by omega))]; rfl
   ·rw [if_pos (fun j hj => hi.2 j (by omega)),if_neg (by rw [← hz,h5]; decide)]
   ·rw [if_pos (fun j hj => hi.2 j (by omega)),if_pos (by rw [← hz,h5])]
 ·have hk:¬ k = 1:=by simpa using hk
  have hk2:¬ k = 2:=by simpa using hk2
  have hk3:¬ k = 3:=by simpa using hk3
  unfold chkS; rw [if_neg hk,if_neg hk2,if_neg hk3]
theorem con166:ConOK prog 166 c202:=ConOK.go (G:=[(221,c221),(222,c222),(223,c256)]) (H:=[]) (.cons con221 (.cons con222 (.cons con223 .nil))) func166 fun l ob rr hc hob => by
 unfold c202 at hc
 split at hc
 ·rename_i k r w t n g
  cases hc
  have hs:spots n g:=hob _ (by simp)
  exact ⟨[shapeA k r w t n fun i => [i64 (gx g 0 i),i64 (gx g 1 i)]],fun w I vs h => Rs_one (Rs_shape hs) h,by kernel_rfl,vc166 k r w t n _ _ (fun i hi => (hs i hi).2) (hob _ (by simp))⟩
 ·cases hc
theorem vfS_one {x y:Int} {e f:Bool}:vfS 1 (rowsOf 4 [i64 x,bo e,i64 y,bo f]) = (whF x e || whF y f):=by
 unfold vfS anyB anyB
 rw [Bool.false_or]; rfl
def k131:Con
 | [.agg [.v (.int .i64 x),.v (.bool e),.v (.int .i64 y),.v (.bool f)],.agg [.v (.int .i64 z),.v (.bool g),.v (.int .i64 t),.v (.bool h)]] => some ([inR x,inR y,inR z,inR t],veA (vApply ((x,e),(y,f)) ((z,g),(t,h))))
 | _ => none
theorem kon131:ConOK prog 259 k131:=ConOK.of (G:=[(238,c238),(164,c164)]) (H:=[(1,⟨[(20,.slot 4)],[]⟩)]) (.cons con238 (.cons con164 .nil)) func259 fun l ob r hc hob => by
 unfold k131 at hc
 split at hc
 ·rename_i x e y f z g t h
  cases hc
  have h_0:=ob0 hob
  have h_1:=ob1 hob
  have h_2:=ob2 hob
  have h_3:=ob3 hob
  refine ⟨by kernel_rfl,fnVC_go (rs:=[.cell 4 26]) rfl rfl ?_⟩
  simp only [go_sem,c238,c164]
  simp only [forall_eq]
  exact ⟨h_1,h_0,h_2,rg_inR (by have:=whV_rg h_1; unfold rg at *; omega),h_3,h_1,h_2,h_0,h_3,rfl⟩
 ·cases hc
def k62:Con
 | [.agg [.v (.int .i64 x),.v (.bool e),.v (.int .i64 y),.v (.bool f),.v (.int .i64 c),.v (.bool o),.v (.int .i64 s),.v (.bool p)],.agg [.v (.int .i64 z),.v (.bool g),.v (.int .i64 t),.v (.bool h)]] => some ([inR x,inR y,inR c,inR s,inR z,inR t],veA (vAdd ((x,e),(y,f)) (vApply ((c,o),(s,p)) ((z,g),(t,h)))))
 | _ => none
theorem kon62:ConOK prog 207 k62:=ConOK.of (G:=[(121,k130),(259,k131)]) (H:=[(1,⟨[(8,.slot 4)],[]⟩)]) (.cons kon130 (.cons kon131 .nil)) func207 fun l ob r hc hob => by
 unfold k62 at hc
 split at hc
 ·rename_i x e y f c o s p z g t h
  cases hc
  have h_0:=ob0 hob
  have h_1:=ob1 hob
  have h_2:=ob2 hob
  have h_3:=ob3 hob
  have h_4:=ob4 hob
  have h_5:=ob5 hob
  refine ⟨by kernel_rfl,fnVC_go (rs:=[.cell 4 26]) rfl rfl ?_⟩
  simp only [go_sem,k130,k131]
  exact ⟨h_2,h_3,h_4,h_5,⟨h_0,h_1⟩,rfl⟩
 ·cases hc
def k68:Con
 | [.agg [.v (.int .i64 x),.v (.bool e),.v (.int .i64 y),.v (.bool f),.v (.int .i64 c),.v (.bool o),.v (.int .i64 s),.v (.bool p)],.agg [.v (.int .i64 z),.v (.bool g),.v (.int .i64 t),.v (.bool h)]] => some ([inR x,inR y,inR c,inR s,inR z,inR t],veA (vAdd ((x,e),(y,f)) (vApply ((c,o),(s,p)) ((z,g),(t,h)))))
 | _ => none
theorem kon68:ConOK prog 138 k68:=ConOK.of (G:=[(86,k138),(198,k139)]) (H:=[(1,⟨[(8,.slot 4)],[]⟩)]) (.cons kon138 (.cons kon139 .nil)) func138 fun l ob r hc hob => by
 unfold k68 at hc
 split at hc
 ·rename_i x e y f c o s p z g t h
  cases hc
  have h_0:=ob0 hob
  have h_1:=ob1 hob
  have h_2:=ob2 hob
  have h_3:=ob3 hob
  have h_4:=ob4 hob
  have h_5:=ob5 hob
  refine ⟨by kernel_rfl,fnVC_go (rs:=[.cell 4 26]) rfl rfl ?_⟩
  simp only [go_sem,k138,k139]
  exact ⟨h_2,h_3,h_4,h_5,⟨h_0,h_1⟩,rfl⟩
 ·cases hc
end Go.Ax
end
section
set_option maxHeartbeats 4000000
set_option maxRecDepth 100000
namespace Go.Ax
open Go.Proofs Go.Proofs.Tryz
end Go.Ax
end
section
set_option maxHeartbeats 4000000
set_option maxRecDepth 100000
namespace Go.Ax
open Go.Proofs Go.Proofs.Tryz
def corN (k r w t:Int) (n:Nat) (X Y:Nat→Int):Nat:=if chkS k r w t n X Y = 0 then (if k = 2 then 4 else n) else 0
def corX (k w t:Int) (X:Nat→Int) (i:Nat):Int:=if k = 2 then (match i with | 0 => -w | 1 => w | 2 => w | _ => -w) else X i
def corY (k w t:Int) (Y:Nat→Int) (i:Nat):Int:=if k = 2 then (match i with | 0 => -t | 1 => -t | 2 => t | _ => t) else Y i
abbrev corA (k r w t:Int) (n:Nat) (X Y:Nat→Int):AV:=.ro (corN k r w t n X Y) 2 fun i => [i64 (corX k w t X i),i64 (corY k w t Y i)]
theorem chk_cases {k r w t:Int} {n:Nat} {X Y:Nat→Int} (h:chkS k r w t n X Y = 0):(k = 1∧n = 0∧16≤r∧r≤4096)∨(k = 2∧n = 0∧16≤w∧w≤4096∧16≤t∧t≤4096)∨(k = 3∧3≤n∧n≤8∧r = 0∧∀ i,i < n→lo (X i)∧lo (Y i)):=by
 unfold chkS at h
 split at h
 ·rename_i h1
  split at h
  ·omega
  ·split at h
   ·exact .inl ⟨h1,by omega⟩
   ·omega
 ·split at h
  ·rename_i h1 h2
   split at h
   ·omega
   ·split at h
    ·exact .inr (.inl ⟨h2,by omega⟩)
    ·omega
  ·split at h
   ·rename_i h1 h2 h3
    split at h
    ·omega
    ·split at h
     ·rename_i h5 h6
      exact .inr (.inr ⟨h3,by omega,by omega,by omega,h6⟩)
     ·omega
   ·omega
theorem vc212 (k r w t:Int) (n:Nat) (X Y:Nat→Int) (hX:∀ i,i < n→inR (X i)∧inR (Y i)) (hn:n≤9223372036854775806):fnVC prog [(166,c202)] [] Tryz.f212 [shapeA k r w t n fun i => [i64 (X i),i64 (Y i)]] (alk (corA k r w t n X Y)):=by
 refine fnVC_go (rs:=[.tmp 2]) rfl rfl ?_
 have hg:spots n fun i => [i64 (X i),i64 (Y i)]:=fun i hi => ⟨rfl,hX i hi⟩
 have eX:gx (fun i => [i64 (X i),i64 (Y i)]) 0 = X:=rfl
 have eY:gx (fun i => [i64 (X i),i64 (Y i)]) 1 = Y:=rfl
 simp only [go_sem,c202,eX,eY]
 have hb:bytesT prog 101 = 16:=by kernel_rfl
 rw [hb]
 simp only [forall_eq]
 refine ⟨hg,hn,fun h => ?_,fun h => ⟨fun h2 => ?_,fun h2 => ?_⟩⟩
 ·have:corN k r w t n X Y = 0:=if_neg (by simpa using h)
  unfold corA
  rw [this]
  exact alk_nil
 ·have hk:k = 2:=by simpa using h2
  have hc:chkS k r w t n X Y = 0:=by simpa using h
  have:corN k r w t n X Y = 4:=by unfold corN; rw [if_pos hc,if_pos hk]
  have hb:=chk_cases hc
  rw [wrap_in (x:=0 - w) (inRo (by omega)),wrap_in (x:=0 - t) (inRo (by omega)),Int.zero_sub,Int.zero_sub]
  unfold corA
  rw [this]
  refine alk_ro fun i hi => ?_
  unfold corX corY
  rw [if_pos hk,if_pos hk]
  match i with
  | 0 => rfl
  | 1 => rfl
  | 2 => rfl
  | 3 => rfl
  | j + 4 => omega
 ·have hk:¬ k = 2:=by simpa using h2
  have hc:chkS k r w t n X Y = 0:=by simpa using h
  have:corN k r w t n X Y = n:=by unfold corN; rw [if_pos hc,if_neg hk]
  have hb:=chk_cases hc
  unfold corA
  rw [this]
  refine ⟨fun i hi => by simp only [go_sem],by omega,by omega,?_⟩
  rw [Nat.zero_add]
  refine alk_ro fun i hi => ?_
  unfold corX corY
  rw [if_neg hk,if_neg hk,if_neg (Nat.not_lt_zero i),Nat.sub_zero]
  simp only [go_sem]
def c206:Con
 | [.agg [.v (.int .i64 k),.v (.int .i64 r),.v (.int .i64 w),.v (.int .i64 t),.ro n 2 g]] => some ([spots n g,n≤9223372036854775806],corA k r w t n (gx g 0) (gx g 1))
 | _ => none
theorem con212:ConOK prog 212 c206:=ConOK.goR (G:=[(166,c202)]) (H:=[]) (.cons con166 .nil) func212 fun l ob rr hc hob => by
 unfold c206 at hc
 split at hc
 ·rename_i k r w t n g
  cases hc
  have hs:spots n g:=hob _ (by simp)
  exact ⟨[shapeA k r w t n fun i => [i64 (gx g 0 i),i64 (gx g 1 i)]],fun w I vs h => Rs_one (Rs_shape hs) h,by kernel_rfl,vc212 k r w t n _ _ (fun i hi => (hs i hi).2) (hob _ (by simp))⟩
 ·cases hc
theorem alk_form {a b c d e p q:AV} (h:alk p q):alk (.tup [.agg [a,b,c,d,p],e]) (.tup [.agg [a,b,c,d,q],e]):=fun w ρ v hR => by
 cases hR with
 | tup hl hh =>
  refine .tup hl fun i x z h1 h2 => ?_
  match i with
  | 0 =>
   simp at h1; subst h1
   have:=hh 0 _ z rfl h2
   cases this with
   | agg hl' hh' =>
    refine .agg hl' fun j x y h3 h4 => ?_
    match j with
    | 0 => exact hh' 0 x y h3 h4
    | 1 => exact hh' 1 x y h3 h4
    | 2 => exact hh' 2 x y h3 h4
    | 3 => exact hh' 3 x y h3 h4
    | 4 =>
     simp at h3; subst h3
     exact h _ _ _ (hh' 4 _ y rfl h4)
    | m + 5 => simp at h3
  | 1 => exact hh 1 x z h1 h2
  | m + 2 => simp at h1
def rotS (x:Int) (e:Bool) (y:Int) (f:Bool):Int:=if (whF x e = true∨whF y f = true)∨(65536 < (nDot (x,e) (x,e) (y,f) (y,f)).1 - 4294967296∨65536 < 4294967296 - (nDot (x,e) (x,e) (y,f) (y,f)).1) then 3 else 0
def farB (a:Nb):Bool:=whF a.1 a.2 || decide (17592186044416 < ab (whV a.1))
def plErr (k r w t:Int) (n:Nat) (X Y:Nat→Int) (at' rot:V2):Int:=
 if chkS k r w t n X Y≠0 then chkS k r w t n X Y else if rotS rot.1.1 rot.1.2 rot.2.1 rot.2.2≠0 then rotS rot.1.1 rot.1.2 rot.2.1 rot.2.2 else if farB at'.1 = true∨farB at'.2 = true then 3 else 0
def plPt (at' rot:V2) (x y:Int):V2:=vAdd at' (vApply rot (vLoc x y))
def plX (k w t:Int) (X Y:Nat→Int) (at' rot:V2) (i:Nat):Int:=spV (plPt at' rot (corX k w t X i) (corY k w t Y i)).1
def plY (k w t:Int) (X Y:Nat→Int) (at' rot:V2) (i:Nat):Int:=spV (plPt at' rot (corX k w t X i) (corY k w t Y i)).2
def plN (k r w t:Int) (n:Nat) (X Y:Nat→Int) (at' rot:V2):Nat:=if plErr k r w t n X Y at' rot = 0 then (if k = 1 then 0 else corN k r w t n X Y) else 0
def plK (k r w t:Int) (n:Nat) (X Y:Nat→Int) (at' rot:V2):Int:=if plErr k r w t n X Y at' rot = 0 then (if k = 1 then 1 else 2) else 0
def plC (k r w t:Int) (n:Nat) (X Y:Nat→Int) (at' rot:V2) (a:Nb):Int:=if plErr k r w t n X Y at' rot = 0 then spV a else 0
def plR (k r w t:Int) (n:Nat) (X Y:Nat→Int) (at' rot:V2):Int:=if plErr k r w t n X Y at' rot = 0 then r else 0
abbrev plA (k r w t:Int) (n:Nat) (X Y:Nat→Int) (at' rot:V2):AV:=
 .tup [formA (plK k r w t n X Y at' rot) (plC k r w t n X Y at' rot at'.1) (plC k r w t n X Y at' rot at'.2) (plR k r w t n X Y at' rot) (plN k r w t n X Y at' rot) fun i => [i64 (plX k w t X Y at' rot i),i64 (plY k w t X Y at' rot i)],i64 (plErr k r w t n X Y at' rot)]
abbrev poseA (at' rot:V2):AV:=.agg [i64 at'.1.1,bo at'.1.2,i64 at'.2.1,bo at'.2.2,i64 rot.1.1,bo rot.1.2,i64 rot.2.1,bo rot.2.2]
def c145:Con
 | [.agg [.v (.int .i64 k),.v (.int .i64 r),.v (.int .i64 w),.v (.int .i64 t),.ro n 2 g],.agg [.v (.int .i64 x),.v (.bool e),.v (.int .i64 y),.v (.bool f),.v (.int .i64 c),.v (.bool o),.v (.int .i64 s),.v (.bool p)]] => some ([spots n g,n≤9223372036854775806,inR x,inR y,inR c,inR s],plA k r w t n (gx g 0) (gx g 1) ((x,e),(y,f)) ((c,o),(s,p)))
 | _ => none
theorem chk_r {k r w t:Int} {n:Nat} {X Y:Nat→Int} (h:chkS k r w t n X Y = 0) (hk:¬ k = 1):r = 0:=by
 unfold chkS at h
 rw [if_neg hk] at h
 split at h
 ·split at h <;> omega
 ·split at h
  ·split at h <;> omega
  ·omega
theorem vc146 (k r w t:Int) (n:Nat) (X Y:Nat→Int) (hX:∀ i,i < n→inR (X i)∧inR (Y i)) (hn:n≤9223372036854775806) (at' rot:V2) (h0:inR at'.1.1) (h1:inR at'.2.1) (h2:inR rot.1.1) (h3:inR rot.2.1) :
  fnVC prog [(212,c206),(166,c202),(209,c209),(210,c210),(211,c211),(138,k68),(213,c213)] [(9,⟨[(6,.slot 4)],[]⟩),(15,⟨[(13,.slot 7)],[]⟩)] Tryz.f146 [shapeA k r w t n fun i => [i64 (X i),i64 (Y i)],poseA at' rot] (alk (plA k r w t n X Y at' rot)):=by
 refine fnVC_go (rs:=[.cell 4 103,.tmp 5]) rfl rfl ?_
 have hg:spots n fun i => [i64 (X i),i64 (Y i)]:=fun i hi => ⟨rfl,hX i hi⟩
 have eX:gx (fun i => [i64 (X i),i64 (Y i)]) 0 = X:=rfl
 have eY:gx (fun i => [i64 (X i),i64 (Y i)]) 1 = Y:=rfl
 simp only [go_sem,c202,c209,c210,c211,c206,eX,eY]
 simp only [forall_eq]
 have pos:∀ e:Int,plErr k r w t n X Y at' rot = e→e≠0→alk (plA k r w t n X Y at' rot) (.tup [.agg [i64 0,i64 0,i64 0,i64 0,.v (.slice none 0 0)],i64 e]):=fun e he hne => by
  subst he
  unfold plA formA
  have q:plN k r w t n X Y at' rot = 0:=if_neg hne
  rw [q,show plK k r w t n X Y at' rot = 0 from if_neg hne,show plC k r w t n X Y at' rot at'.1 = 0 from if_neg hne,show plC k r w t n X Y at' rot at'.2 = 0 from if_neg hne,show plR k r w t n X Y at' rot = 0 from if_neg hne]
  exact alk_form alk_nil
 refine ⟨hg,hn,fun h => ⟨h2,h3,fun h4 => ?_,fun h4 => ⟨h0,fun _ => h1,fun h5 => ?_,fun h5 => ?_⟩⟩,fun h => ⟨fun h4 => ?_,fun h4 => ?_⟩⟩
 ·have hne:rotS rot.1.1 rot.1.2 rot.2.1 rot.2.2≠0:=bne_iff_ne.1 h4
  refine pos _ ?_ hne
  unfold plErr; rw [if_neg (by simpa using h),if_pos hne]; rfl
 ·refine pos _ ?_ (by omega)
  unfold plErr
  rw [if_neg (by simpa using h),if_neg (show ¬ rotS rot.1.1 rot.1.2 rot.2.1 rot.2.2≠0 from not_not_intro (bne_eq_false_iff_eq.1 h4)),if_pos]
  unfold farB
  exact h5
 ·have he:plErr k r w t n X Y at' rot = 0:=by
   unfold plErr
   rw [if_neg (by simpa using h),if_neg (show ¬ rotS rot.1.1 rot.1.2 rot.2.1 rot.2.2≠0 from not_not_intro (bne_eq_false_iff_eq.1 h4)),if_neg]
   unfold farB
   rintro (h7 | h7)
   ·rw [h5.1] at h7; cases h7
   ·rw [h5.2] at h7; cases h7
  have hc:chkS k r w t n X Y = 0:=by simpa using h
  have hcs:=chk_cases hc
  refine ⟨fun h6 => ⟨h0,h1,?_⟩,fun h6 => ⟨h0,h1,hg,hn,?_⟩⟩
  ·have hk:k = 1:=by simpa using h6
   unfold plA formA
   rw [show plN k r w t n X Y at' rot = 0 by unfold plN; rw [if_pos he,if_pos hk],show plK k r w t n X Y at' rot = 1 by unfold plK; rw [if_pos he,if_pos hk],show plC k r w t n X Y at' rot at'.1 = _ from if_pos he,show plC k r w t n X Y at' rot at'.2 = _ from if_pos he,show plR k r w t n X Y at' rot = r from if_pos he,he]
   exact alk_form alk_nil
  ·have hk:¬ k = 1:=by simpa using h6
   have hN:corN k r w t n X Y≤8:=by unfold corN; rw [if_pos hc]; split <;> omega
   have hx:∀ i,i < corN k r w t n X Y→inR (corX k w t X i)∧inR (corY k w t Y i):=fun i hi => by
    unfold corN at hi; rw [if_pos hc] at hi
    unfold corX corY
    split
    ·constructor <;> (split <;> (unfold inR; omega))
    ·rename_i h7
     rw [if_neg h7] at hi
     exact hX i hi
   generalize hM:corN k r w t n X Y = M at *
   refine loopN_go (fun (i:Nat) => i≤M) (fun i => M - i) (fun i => [(9,i64 i)]) (fun i => [(32,fam1 103 5 [i64 2,i64 (spV at'.1),i64 (spV at'.2),i64 0,.own 38 0 i 2] none),(38,famN i 2 101 (fun j => [i64 (plX k w t X Y at' rot j),i64 (plY k w t X Y at' rot j)]) none)]) [2,1,0] [47,48,49,50,53,54,55,56,57,58,59,60,61,62,63,64,65,51,52,9] 1 0 (by kernel_rfl) (Nat.zero_le _) ⟨[(38,none)],?_,?_,?_,?_⟩ ?_
   ·simp only [go_sem]
   ·simp only [go_sem]
   ·simp only [go_sem]
   ·simp [goodNames,asg]
   intro i hi
   simp only [go_sem,c211,c213,k68]
   have hb:bytesT prog 101 = 16:=by kernel_rfl
   rw [hb]
   simp only [forall_eq]
   refine ⟨fun hin => ?_,fun hin => ?_⟩
   ·have hi':i < M:=by omega
    have hxi:=hx i hi'
    refine ⟨by omega,hin,hxi.1,hxi.2,h0,h1,h2,h3,rg_inR nRat_rg,rg_inR nRat_rg,by omega,by omega,i + 1,by omega,by omega,[(38,some 54)],?_⟩
    simp only [go_sem]
    refine ⟨by rw [wrap_in (inRo (by omega))]; rfl,fun j hj => ?_,by simp [goodNames,asg]⟩
    by_cases e:j < i
    ·rw [if_pos e]; simp only [go_sem]
    ·have e:j = i:=by omega
     subst e
     rw [if_neg (by omega),Nat.sub_self]
     simp only [Nat.zero_mul,go_sem]
     exact ⟨rfl,rfl⟩
   ·have e:i = M:=by omega
    subst e
    unfold plA formA
    rw [show plN k r w t n X Y at' rot = i by unfold plN; rw [if_pos he,if_neg hk,hM],show plK k r w t n X Y at' rot = 2 by unfold plK; rw [if_pos he,if_neg hk],show plC k r w t n X Y at' rot at'.1 = _ from if_pos he,show plC k r w t n X Y at' rot at'.2 = _ from if_pos he,show plR k r w t n X Y at' rot = 0 by unfold plR; rw [if_pos he,chk_r hc hk],he]
    exact alk_refl
 ·have hne:chkS k r w t n X Y≠0:=by simpa using h
  exact pos _ (by unfold plErr; rw [if_pos hne]) hne
 ·simp at h h4; omega
theorem con146:ConOK prog 146 c145:=ConOK.goR (G:=[(212,c206),(166,c202),(209,c209),(210,c210),(211,c211),(138,k68),(213,c213)]) (H:=[(9,⟨[(6,.slot 4)],[]⟩),(15,⟨[(13,.slot 7)],[]⟩)]) (.cons con212 (.cons con166 (.cons con209 (.cons con210 (.cons con211 (.cons kon68 (.cons con213 .nil))))))) func146 fun l ob rr hc hob => by
 unfold c145 at hc
 split at hc
 ·rename_i k r w t n g x e y f c o s p
  cases hc
  have hs:spots n g:=hob _ (by simp)
  refine ⟨[shapeA k r w t n fun i => [i64 (gx g 0 i),i64 (gx g 1 i)],poseA ((x,e),(y,f)) ((c,o),(s,p))],fun w I vs h => ?_,by kernel_rfl,vc146 k r w t n _ _ (fun i hi => (hs i hi).2) (hob _ (by simp)) ((x,e),(y,f)) ((c,o),(s,p)) (hob _ (by simp)) (hob _ (by simp)) (hob _ (by simp)) (hob _ (by simp))⟩
  obtain ⟨x,xs,rfl,h1,h2⟩:=h.inv
  exact .cons (Rs_shape hs _ h1) h2
 ·cases hc
end Go.Ax
end