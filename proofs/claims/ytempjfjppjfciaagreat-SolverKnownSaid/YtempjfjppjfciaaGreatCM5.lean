/-
  Forms: the reference's check; which spots a form has.
-/
import Derived.Test.YtempjfjppjfciaaGreatCM4
set_option linter.unusedVariables false
set_option linter.unusedSimpArgs false
section
set_option maxHeartbeats 1000000
set_option maxRecDepth 100000
namespace Go.Ax
open Go.Proofs
def c192:Con
 | [.agg [.v (.int .i64 k),.v (.int .i64 x),.v (.int .i64 y),.v (.int .i64 r),.ro n 2 g]] => some ([spots n g,n ≤ 9223372036854775806,inR x,inR y,inR r],if checkS k x y r n (gx g 0) (gx g 1) = 0 then (if k = 1 then .iface 197 (.agg [i64 x,i64 y,i64 r]) else .iface 202 (.agg [.ro n 2 g])) else .v .nilIface)
 | _ => none
theorem con192:ConOK Tryz.prog 192 c192:=ConOK.of (G:=[(255,c255)]) (H:=[]) (.cons con255 .nil) Tryz.func192 fun l ob rr hc hob => by
 unfold c192 at hc
 split at hc
 ·rename_i k x y r n g
  cases hc
  have hs:spots n g:=hob _ (by simp)
  have hn:n ≤ 9223372036854775806:=hob _ (by simp)
  have hx:inR x:=hob _ (by simp)
  have hy:inR y:=hob _ (by simp)
  have hr:inR r:=hob _ (by simp)
  refine ⟨by kernel_rfl,fnVC_go (rs:=[.tmp 2]) rfl rfl ?_⟩
  simp only [go_sem,c255]
  intro z hz
  refine ⟨hs,hn,hx,hy,hr,fun h => ?_,fun h => ⟨fun h2 => ?_,fun h2 => ?_⟩⟩
  ·rw [if_neg]; rw [← hz]; simpa using h
  ·rw [if_pos (by rw [← hz]; simpa using h),if_pos (by simpa using h2)]
  ·rw [if_pos (by rw [← hz]; simpa using h),if_neg (by simpa using h2)]
 ·cases hc
def inS (n:Nat) (X Y:Nat → Int) (px py:Int):Bool:=decide (∀ i,i < n → 0 ≤ turnS (X i) (Y i) (X (nxt n i)) (Y (nxt n i)) px py)
theorem inS_iff {n:Nat} {X Y:Nat → Int} {px py:Int}:inS n X Y px py = true ↔ ∀ i,i < n → 0 ≤ turnS (X i) (Y i) (X (nxt n i)) (Y (nxt n i)) px py:=by unfold inS; simp
def c195:Con
 | [.agg [.ro n 2 g],.agg [.v (.int .i64 px),.v (.int .i64 py)]] => some ([spots n g,n ≤ 9223372036854775806,∀ i,i < n → validS (gx g 0 i) (gx g 1 i) = true,validS px py = true],bo (inS n (gx g 0) (gx g 1) px py))
 | _ => none
theorem vc195 (n:Nat) (X Y:Nat → Int) (px py:Int) (hX:∀ i,i < n → inR (X i) ∧ inR (Y i)) (hn:n ≤ 9223372036854775806) (hv:∀ i,i < n → validS (X i) (Y i) = true) (hp:validS px py = true):fnVC Tryz.prog [(256,c256),(196,c196),(1000000 + 257,c257)] [] Tryz.f195 [.agg [.ro n 2 fun i => [i64 (X i),i64 (Y i)]],.agg [i64 px,i64 py]] (· = bo (inS n X Y px py)):=by
 refine fnVC_go (rs:=[.cell 4 4]) rfl rfl ?_
 simp only [go_sem,c196]
 have hg:spots n fun i => [i64 (X i),i64 (Y i)]:=fun i hi => ⟨rfl,hX i hi⟩
 refine rangeC_go (fun (i:Nat) => i ≤ n ∧ ∀ j,j < i → 0 ≤ turnS (X j) (Y j) (X (nxt n j)) (Y (nxt n j)) px py) (fun i => i) (fun _ => []) [2,1,0] [9,10,5,6,11,12,13,14,15] 0 0 (N:=n) (sq:=edgeE n fun i => [i64 (X i),i64 (Y i)]) (ob:=[spots n fun i => [i64 (X i),i64 (Y i)],n ≤ 9223372036854775806]) rfl (by simp [hg,hn]) (by kernel_rfl) rfl (fun i _ => ⟨rfl,rfl⟩) ⟨Nat.zero_le _,fun j hj => by omega⟩ rfl ⟨[],?_,?_,?_⟩ ?_ ?_
 ·simp only [go_sem]
 ·simp only [go_sem]
 ·simp [goodNames,asg]
 ·intro i hi hlt
  simp only [go_sem,edgeE,c256]
  refine fun z hz => ⟨hv i hlt,hv _ (nxt_lt hlt),hp,fun h => false_of fun hc => ?_,fun h => ⟨i + 1,⟨by have:i < n:=hlt; omega,fun j hj => ?_⟩,rfl,[],?_⟩⟩
  ·have:=inS_iff.1 hc i hlt; omega
  ·by_cases e:j = i
   ·subst e; omega
   ·exact hi.2 j (by omega)
  ·simp [goodNames]
 ·intro i hi he
  simp only [go_sem]
  exact (inS_iff.2 fun j hj => hi.2 j (by omega)).symm
theorem con195:ConOK Tryz.prog 195 c195:=ConOK.go (G:=[(256,c256),(196,c196),(1000000 + 257,c257)]) (H:=[]) (.cons con256 (.cons con196 (.seq seq257 .nil))) Tryz.func195 fun l ob rr hc hob => by
 unfold c195 at hc
 split at hc
 ·rename_i n g px py
  cases hc
  have hs:spots n g:=hob _ (by simp)
  refine ⟨[.agg [.ro n 2 fun i => [i64 (gx g 0 i),i64 (gx g 1 i)]],.agg [i64 px,i64 py]],fun w I vs h => Rs_two (Rs_poly hs) (fun v h => h) h,by kernel_rfl,vc195 n _ _ px py (fun i hi => (hs i hi).2) (hob _ (by simp)) (hob _ (by simp)) (hob _ (by simp))⟩
 ·cases hc
theorem check_1 {k x y r:Int} {n:Nat} {X Y:Nat → Int} (h:checkS k x y r n X Y = 0):(k = 1 ∨ k = 2) ∧ validS x y = true ∧ (∀ i,i < n → validS (X i) (Y i) = true) ∧ (k = 1 → 1 ≤ r ∧ r ≤ 2097152 ∧ checkBoxS (x - r) (y - r) (x + r) (y + r) = 0 ∧ n = 0) ∧ (k ≠ 1 → r = 0 ∧ n ≤ 8 ∧ convexS n X Y = true):=by
 unfold checkS at h
 split at h
 ·omega
 ·split at h
  ·omega
  ·rename_i h1 h2
   have h2:validS x y = true ∧ ∀ i,i < n → validS (X i) (Y i) = true:=Decidable.of_not_not h2
   split at h
   ·rename_i h3
    split at h
    ·omega
    ·rename_i h4
     split at h
     ·omega
     ·rename_i h5
      refine ⟨.inl h3,h2.1,h2.2,fun _ => ⟨by omega,by omega,?_,by omega⟩,fun h => absurd h3 h⟩
      by_cases e:checkBoxS (x - r) (y - r) (x + r) (y + r) = 0
      ·exact e
      ·exact absurd ⟨by omega,.inr e⟩ h4
   ·rename_i h3
    split at h
    ·omega
    ·rename_i h5
     refine ⟨by omega,h2.1,h2.2,fun h => absurd h h3,fun _ => ⟨by omega,by omega,?_⟩⟩
     cases hc:convexS n X Y
     ·exact absurd (.inr (.inr hc)) h5
     ·rfl
end Go.Ax
end
section
set_option maxHeartbeats 2000000
set_option maxRecDepth 100000
namespace Go.Ax
open Go.Proofs
end Go.Ax
end
section
set_option maxHeartbeats 4000000
set_option maxRecDepth 100000
namespace Go.Ax
open Go.Proofs
section
variable {N M q:Nat} {σ:Names} {m rows:Mem} {x:Fam} {a b:AV} {n sz f k r:Nat} {ty:TypeId} {get:Nat → List AV}
def emptyF (x:Fam):Prop:=∀ f,(x f).n = 0 ∧ (x f).g = none
def fitQ (N M:Nat) (σ:Names) (m:Mem) (x:Fam):Option Nat → Prop
 | some k => fitF N M σ x (look m k)
 | none => emptyF x
theorem fitRows_z:fitRows N M σ m [] = True:=(rfl)
theorem fitRows_c:fitRows N M σ m ((q,x) :: rows) = (fitQ N M σ m x (asg σ q) ∧ fitRows N M σ m rows):=by
 show ((match asg σ q with
  | some k => ∃ y,look m k = some y ∧ ∀ f,fitRow N M σ (x f) (y f)
  | none => ∀ f,(x f).n = 0 ∧ (x f).g = none) ∧ _) = _
 unfold fitQ fitF emptyF
 cases asg σ q with
 | none => rfl
 | some k => cases h:look m k <;> simp [h]
theorem fitQ_some:fitQ N M σ m x (some k) = fitF N M σ x (look m k):=(rfl)
theorem fitQ_none:fitQ N M σ m x none = emptyF x:=(rfl)
theorem emptyF_N:emptyF (famN n sz ty get none) = (n = 0):=by
 unfold emptyF
 apply propext
 constructor
 ·intro h; have:=(h 0).1; simpa [famN] using this
 ·intro h f
  subst h
  unfold famN
  split <;> exact ⟨rfl,rfl⟩
def ownA (f n sz:Nat) (a:AV):Option Nat → Prop
 | some k => a = .own k f n sz
 | none => n = 0 ∧ a = .v (.slice none 0 0)
theorem fit1_ownA:fit1 N M σ (.own q f n sz) a = (q < M ∧ ownA f n sz a (asg σ q)):=by
 simp only [fit1,ownA]
 cases asg σ q <;> rfl
theorem ownA_some:ownA f n sz (.own r f k sz) (some r) = (k = n):=by simp [ownA]
theorem ownA_none:ownA f n sz (.v (.slice none 0 0)) none = (n = 0):=by simp [ownA]
theorem asg_z:asg [] r = some r:=(rfl)
theorem asg_c {y:Option Nat}:asg ((k,y) :: σ) r = if k = r then y else asg σ r:=(rfl)
end
attribute [go_sem] fitRows_z fitRows_c fitQ_some fitQ_none emptyF_N fit1_ownA ownA_some ownA_none asg_z asg_c
def nSq (a:Nb):Nb:=(sqV (whV a.1),sqF (whV a.1) (whF a.1 a.2))
def nCl (x l h:Nb):Nb:=(max (whV l.1) (min (whV x.1) (whV h.1)),whF l.1 l.2 || (whF x.1 x.2 || whF h.1 h.2))
theorem sqV_rg {v:Int}:rg (sqV v):=by
 unfold sqV; split
 ·unfold rg; omega
 ·exact ftV_rg _
theorem nPos_rg {a:Nb} (h:inR a.1):rg (nPos a).1:=by
 have:=whV_rg h
 unfold nPos rg at *; dsimp only; split <;> omega
abbrev V2:=Nb × Nb
def nbA (a:Nb):AV:=.agg [i64 a.1,bo a.2]
def veA (a:V2):AV:=.agg [i64 a.1.1,bo a.1.2,i64 a.2.1,bo a.2.2]
def unA (u:Bool × V2):AV:=.tup [.agg [i64 u.2.1.1,bo u.2.1.2,i64 u.2.2.1,bo u.2.2.2],bo u.1]
theorem bnd_nb {a:Nb}:bnd (nbA a) = .agg [i64 a.1,bo a.2]:=(rfl)
theorem bnd_ve {a:V2}:bnd (veA a) = .agg [i64 a.1.1,bo a.1.2,i64 a.2.1,bo a.2.2]:=(rfl)
theorem bnd_un {u:Bool × V2}:bnd (unA u) = .tup [.agg [i64 u.2.1.1,bo u.2.1.2,i64 u.2.2.1,bo u.2.2.2],bo u.1]:=(rfl)
theorem plain_nb {a:Nb}:plain 3 (nbA a) = true:=(rfl)
theorem plain_ve {a:V2}:plain 3 (veA a) = true:=(rfl)
theorem plain_un {u:Bool × V2}:plain 3 (unA u) = true:=(rfl)
theorem etaN {a:Nb}:(a.1,a.2) = a:=(rfl)
theorem etaV {a:V2}:(a.1,a.2) = a:=(rfl)
theorem gx_rows1 {a b:Int} {e f:Bool}:gx (rowsOf 2 [i64 a,bo e,i64 b,bo f]) 0 0 = a:=(rfl)
theorem gx_rows2 {a b:Int} {e f:Bool}:gx (rowsOf 2 [i64 a,bo e,i64 b,bo f]) 0 1 = b:=(rfl)
theorem gb_rows1 {a b:Int} {e f:Bool}:gb (rowsOf 2 [i64 a,bo e,i64 b,bo f]) 1 0 = e:=(rfl)
theorem gb_rows2 {a b:Int} {e f:Bool}:gb (rowsOf 2 [i64 a,bo e,i64 b,bo f]) 1 1 = f:=(rfl)
section
variable {a b c d:Int} {e f p q:Bool}
theorem gx4_1:gx (rowsOf 4 [i64 a,bo e,i64 b,bo f,i64 c,bo p,i64 d,bo q]) 0 0 = a:=(rfl)
theorem gx4_2:gx (rowsOf 4 [i64 a,bo e,i64 b,bo f,i64 c,bo p,i64 d,bo q]) 2 0 = b:=(rfl)
theorem gx4_3:gx (rowsOf 4 [i64 a,bo e,i64 b,bo f,i64 c,bo p,i64 d,bo q]) 0 1 = c:=(rfl)
theorem gx4_4:gx (rowsOf 4 [i64 a,bo e,i64 b,bo f,i64 c,bo p,i64 d,bo q]) 2 1 = d:=(rfl)
theorem gb4_1:gb (rowsOf 4 [i64 a,bo e,i64 b,bo f,i64 c,bo p,i64 d,bo q]) 1 0 = e:=(rfl)
theorem gb4_2:gb (rowsOf 4 [i64 a,bo e,i64 b,bo f,i64 c,bo p,i64 d,bo q]) 3 0 = f:=(rfl)
theorem gb4_3:gb (rowsOf 4 [i64 a,bo e,i64 b,bo f,i64 c,bo p,i64 d,bo q]) 1 1 = p:=(rfl)
theorem gb4_4:gb (rowsOf 4 [i64 a,bo e,i64 b,bo f,i64 c,bo p,i64 d,bo q]) 3 1 = q:=(rfl)
theorem vecs_rows:vecs 2 (rowsOf 4 [i64 a,bo e,i64 b,bo f,i64 c,bo p,i64 d,bo q]) = (inR a ∧ inR b ∧ inR c ∧ inR d):=by
 apply propext
 constructor
 ·intro h; exact ⟨(h 0 (by omega)).2.1,(h 0 (by omega)).2.2,(h 1 (by omega)).2.1,(h 1 (by omega)).2.2⟩
 ·rintro ⟨h1,h2,h3,h4⟩; exact vecs2 rfl rfl h1 h2 h3 h4
theorem nums_rows:nums 2 (rowsOf 2 [i64 a,bo e,i64 b,bo f]) = (inR a ∧ inR b):=by
 apply propext
 constructor
 ·intro h; exact ⟨(h 0 (by omega)).2,(h 1 (by omega)).2⟩
 ·rintro ⟨h1,h2⟩; exact nums2 rfl rfl h1 h2
theorem vecs_row1:vecs 1 (rowsOf 4 [i64 a,bo e,i64 b,bo f]) = (inR a ∧ inR b):=by
 apply propext
 constructor
 ·intro h; exact ⟨(h 0 (by omega)).2.1,(h 0 (by omega)).2.2⟩
 ·rintro ⟨h1,h2⟩; exact vecs1 rfl h1 h2
theorem nums_row1:nums 1 (rowsOf 2 [i64 a,bo e]) = inR a:=by
 apply propext
 constructor
 ·intro h; exact (h 0 (by omega)).2
 ·intro h; exact nums1 rfl h
end
def nAbs (a:Nb):Nb:=(ab (whV a.1),whF a.1 a.2)
def nMx (a b:Nb):Nb:=(if whV a.1 < whV b.1 then whV b.1 else whV a.1,whF a.1 a.2 || whF b.1 b.2)
def nMn (a b:Nb):Nb:=(if whV b.1 < whV a.1 then whV b.1 else whV a.1,whF a.1 a.2 || whF b.1 b.2)
def vLoc (x y:Int):V2:=(nRat x 256,nRat y 256)
def vAdd (a b:V2):V2:=(nAdd a.1 b.1,nAdd a.2 b.2)
def vSub (a b:V2):V2:=(nSub a.1 b.1,nSub a.2 b.2)
def vScale (v:V2) (k:Nb):V2:=(nMul v.1 k,nMul v.2 k)
def vDot (a b:V2):Nb:=nDot a.1 b.1 a.2 b.2
def vCross (a b:V2):Nb:=nDot a.1 b.2 (nNeg a.2) b.1
def vLen (a:V2):Nb:=nHyp a.1 a.2
def vOf (x y:Int):V2:=(nInt x,nInt y)
def vUnit (v:V2):Bool × V2:=unS v.1.1 v.1.2 v.2.1 v.2.2
def vApply (r v:V2):V2:=(nDot r.1 v.1 (nNeg r.2) v.2,nDot r.2 v.1 r.1 v.2)
def vNorm (a b c d:Int):V2:=(vUnit (vOf (d - b) (-(c - a)))).2
theorem inR_of {x:Int} (h:rg x):inR x = True:=eq_true (rg_inR h)
section
variable {a b c d:Nb} {u v:V2} {x y:Int}
theorem iMul:inR (nMul a b).1 = True:=inR_of nMul_rg
theorem iDiv:inR (nDiv a b).1 = True:=inR_of nDiv_rg
theorem iInt:inR (nInt x).1 = True:=inR_of nInt_rg
theorem iAdd:inR (nAdd a b).1 = True:=inR_of nAdd_rg
theorem iSub:inR (nSub a b).1 = True:=inR_of nSub_rg
theorem iRat:inR (nRat x y).1 = True:=inR_of nRat_rg
theorem iDot:inR (nDot a b c d).1 = True:=inR_of nDot_rg
theorem iHyp:inR (nHyp a b).1 = True:=inR_of nHyp_rg
theorem iSq:inR (nSq a).1 = True:=inR_of sqV_rg
theorem iNeg (h:inR a.1):inR (nNeg a).1 = True:=inR_of (nNeg_rg h)
theorem iPos (h:inR a.1):inR (nPos a).1 = True:=inR_of (nPos_rg h)
theorem iAbs (h:inR a.1):inR (nAbs a).1 = True:=by
 refine inR_of ?_
 have:=whV_rg h
 unfold nAbs ab rg at *; dsimp only; split <;> omega
theorem iMx (h:inR a.1) (k:inR b.1):inR (nMx a b).1 = True:=by
 refine inR_of ?_
 have h1:=whV_rg h
 have h2:=whV_rg k
 unfold nMx rg at *; dsimp only; split <;> omega
theorem iMn (h:inR a.1) (k:inR b.1):inR (nMn a b).1 = True:=by
 refine inR_of ?_
 have h1:=whV_rg h
 have h2:=whV_rg k
 unfold nMn rg at *; dsimp only; split <;> omega
theorem iCl (h:inR a.1) (k:inR b.1) (l:inR c.1):inR (nCl a b c).1 = True:=by
 refine inR_of ?_
 have h1:=whV_rg h
 have h2:=whV_rg k
 have h3:=whV_rg l
 unfold nCl rg at *; dsimp only; omega
theorem iLoc1:inR (vLoc x y).1.1 = True:=iRat
theorem iLoc2:inR (vLoc x y).2.1 = True:=iRat
theorem iVAdd1:inR (vAdd u v).1.1 = True:=iAdd
theorem iVAdd2:inR (vAdd u v).2.1 = True:=iAdd
theorem iVSub1:inR (vSub u v).1.1 = True:=iSub
theorem iVSub2:inR (vSub u v).2.1 = True:=iSub
theorem iScale1:inR (vScale u a).1.1 = True:=iMul
theorem iScale2:inR (vScale u a).2.1 = True:=iMul
theorem iVDot:inR (vDot u v).1 = True:=iDot
theorem iVCross:inR (vCross u v).1 = True:=iDot
theorem iLen:inR (vLen u).1 = True:=iHyp
theorem iOf1:inR (vOf x y).1.1 = True:=iInt
theorem iOf2:inR (vOf x y).2.1 = True:=iInt
theorem iUnit1:inR (vUnit u).2.1.1 = True:=inR_of unS_rg.1
theorem iUnit2:inR (vUnit u).2.2.1 = True:=inR_of unS_rg.2
theorem iApply1:inR (vApply u v).1.1 = True:=iDot
theorem iApply2:inR (vApply u v).2.1 = True:=iDot
theorem iNorm1 {z t:Int}:inR (vNorm x y z t).1.1 = True:=iUnit1
theorem iNorm2 {z t:Int}:inR (vNorm x y z t).2.1 = True:=iUnit2
theorem inR_0:inR 0 = True:=eq_true (by unfold inR; omega)
theorem inR_1:inR 1 = True:=eq_true (by unfold inR; omega)
theorem inR_2:inR 2 = True:=eq_true (by unfold inR; omega)
theorem inR_m1:inR (-1) = True:=eq_true (by unfold inR; omega)
theorem inR_256:inR 256 = True:=eq_true (by unfold inR; omega)
theorem inR_one:inR 4294967296 = True:=eq_true (by unfold inR; omega)
end
attribute [go_sem] bnd_nb bnd_ve bnd_un plain_nb plain_ve plain_un etaN etaV gx_rows1 gx_rows2 gb_rows1 gb_rows2 gx4_1 gx4_2 gx4_3 gx4_4 gb4_1 gb4_2 gb4_3 gb4_4 vecs_rows nums_rows vecs_row1 nums_row1
attribute [go_sem] iMul iDiv iInt iAdd iSub iRat iDot iHyp iSq iNeg iPos iAbs iMx iMn iCl iLoc1 iLoc2 iVAdd1 iVAdd2 iVSub1 iVSub2 iScale1 iScale2 iVDot iVCross iLen iOf1 iOf2 iUnit1 iUnit2 iApply1 iApply2 iNorm1 iNorm2 inR_0 inR_1 inR_2 inR_m1 inR_256 inR_one
def k127:Con
 | [.v (.int .i64 n)] => some ([inR n],nbA (nInt n))
 | _ => none
theorem kon127:ConOK Tryz.prog 103 k127:=(show c103 = k127 by kernel_rfl) ▸ con103
def k50:Con
 | [.v (.int .i64 n)] => some ([inR n],nbA (nInt n))
 | _ => none
theorem kon50:ConOK Tryz.prog 33 k50:=(show c33 = k50 by kernel_rfl) ▸ con33
def k179:Con
 | [.agg [.v (.int .i64 v),.v (.bool f)]] => some ([inR v],nbA (nNeg (v,f)))
 | _ => none
theorem kon179:ConOK Tryz.prog 112 k179:=(show c112 = k179 by kernel_rfl) ▸ con112
def k126:Con
 | [.agg [.v (.int .i64 v),.v (.bool f)]] => some ([inR v],nbA (nAbs (v,f)))
 | _ => none
theorem kon126:ConOK Tryz.prog 50 k126:=(show c50 = k126 by kernel_rfl) ▸ con50
def k129:Con
 | [.agg [.v (.int .i64 v),.v (.bool f)],.agg [.v (.int .i64 u),.v (.bool e)]] => some ([inR v,inR u],nbA (nMul (v,f) (u,e)))
 | _ => none
theorem kon129:ConOK Tryz.prog 47 k129:=(show c47 = k129 by kernel_rfl) ▸ con47
def k125:Con
 | [.agg [.v (.int .i64 v),.v (.bool f)],.agg [.v (.int .i64 u),.v (.bool e)],.agg [.v (.int .i64 x),.v (.bool p)],.agg [.v (.int .i64 y),.v (.bool q)]] => some ([inR v,inR u,inR x,inR y],nbA (nDot (v,f) (u,e) (x,p) (y,q)))
 | _ => none
theorem kon125:ConOK Tryz.prog 129 k125:=(show c129 = k125 by kernel_rfl) ▸ con129
def k160:Con
 | [.agg [.v (.int .i64 v),.v (.bool f)],.agg [.v (.int .i64 u),.v (.bool e)]] => some ([inR v,inR u],nbA (nSub (v,f) (u,e)))
 | _ => none
theorem kon160:ConOK Tryz.prog 111 k160:=(show c111 = k160 by kernel_rfl) ▸ con111
def k132:Con
 | [.v (.int .i64 a),.v (.int .i64 b)] => some ([inR a,inR b],nbA (nRat a b))
 | _ => none
theorem kon132:ConOK Tryz.prog 52 k132:=(show c52 = k132 by kernel_rfl) ▸ con52
def k168:Con
 | [.agg [.v (.int .i64 v),.v (.bool f)],.agg [.v (.int .i64 u),.v (.bool e)]] => some ([inR v,inR u],nbA (nDiv (v,f) (u,e)))
 | _ => none
theorem kon168:ConOK Tryz.prog 78 k168:=(show c78 = k168 by kernel_rfl) ▸ con78
def k213:Con
 | [.agg [.v (.int .i64 v),.v (.bool f)],.agg [.v (.int .i64 u),.v (.bool e)]] => some ([inR v,inR u],nbA (nHyp (v,f) (u,e)))
 | _ => none
theorem kon213:ConOK Tryz.prog 162 k213:=(show c162 = k213 by kernel_rfl) ▸ con162
def k171:Con
 | [.agg [.v (.int .i64 x),.v (.bool f)],.agg [.v (.int .i64 l),.v (.bool p)],.agg [.v (.int .i64 h),.v (.bool q)]] => some ([inR x,inR l,inR h],nbA (nCl (x,f) (l,p) (h,q)))
 | _ => none
theorem kon171:ConOK Tryz.prog 102 k171:=(show c102 = k171 by kernel_rfl) ▸ con102
def k167:Con
 | [.agg [.v (.int .i64 x),.v (.bool f)]] => some ([inR x],nbA (nPos (x,f)))
 | _ => none
theorem kon167:ConOK Tryz.prog 200 k167:=(show c200 = k167 by kernel_rfl) ▸ con200
def k63:Con
 | [.agg [.v (.int .i64 x),.v (.int .i64 y)]] => some ([inR x,inR y],veA (vLoc x y))
 | _ => none
theorem kon63:ConOK Tryz.prog 125 k63:=(show c125 = k63 by kernel_rfl) ▸ con125
def k162:Con
 | [.v (.int .i64 x)] => some ([inR x],nbA (nRat x 256))
 | _ => none
theorem kon162:ConOK Tryz.prog 201 k162:=(show c201 = k162 by kernel_rfl) ▸ con201
def k161:Con
 | [.agg [.v (.int .i64 x),.v (.bool e),.v (.int .i64 y),.v (.bool f)]] => some ([inR x,inR y],nbA (vLen ((x,e),(y,f))))
 | _ => none
theorem kon161:ConOK Tryz.prog 175 k161:=(show c175 = k161 by kernel_rfl) ▸ con175
def k169:Con
 | [.agg [.v (.int .i64 x),.v (.bool e),.v (.int .i64 y),.v (.bool f)],.agg [.v (.int .i64 k),.v (.bool g)]] => some ([inR x,inR y,inR k],veA (vScale ((x,e),(y,f)) (k,g)))
 | _ => none
theorem kon169:ConOK Tryz.prog 44 k169:=(show c44 = k169 by kernel_rfl) ▸ con44
def k178:Con
 | [.agg [.v (.int .i64 x),.v (.bool e),.v (.int .i64 y),.v (.bool f)],.agg [.v (.int .i64 z),.v (.bool g),.v (.int .i64 t),.v (.bool h)]] => some ([inR x,inR y,inR z,inR t],nbA (vDot ((x,e),(y,f)) ((z,g),(t,h))))
 | _ => none
theorem kon178:ConOK Tryz.prog 174 k178:=(show c174 = k178 by kernel_rfl) ▸ con174
def k250:Con
 | [.agg [.v (.int .i64 x),.v (.bool e),.v (.int .i64 y),.v (.bool f)],.agg [.v (.int .i64 z),.v (.bool g),.v (.int .i64 t),.v (.bool h)]] => some ([inR x,inR y,inR z,inR t],nbA (vCross ((x,e),(y,f)) ((z,g),(t,h))))
 | _ => none
theorem kon250:ConOK Tryz.prog 85 k250:=(show c85 = k250 by kernel_rfl) ▸ con85
def k166:Con
 | [.v (.int .i64 x),.v (.int .i64 y)] => some ([inR x,inR y],veA (vOf x y))
 | _ => none
theorem kon166:ConOK Tryz.prog 199 k166:=(show c199 = k166 by kernel_rfl) ▸ con199
def k176:Con
 | [.agg [.v (.int .i64 x),.v (.int .i64 y)]] => some ([inR x,inR y],veA (vOf x y))
 | _ => none
theorem kon176:ConOK Tryz.prog 207 k176:=(show c207 = k176 by kernel_rfl) ▸ con207
def k165:Con
 | [.agg [.v (.int .i64 x),.v (.bool e),.v (.int .i64 y),.v (.bool f)]] => some ([inR x,inR y],unA (vUnit ((x,e),(y,f))))
 | _ => none
theorem kon165:ConOK Tryz.prog 172 k165:=(show c172 = k165 by kernel_rfl) ▸ con172
def k173:Con
 | [.agg [.v (.int .i64 a),.v (.int .i64 b)],.agg [.v (.int .i64 c),.v (.int .i64 d)]] => some ([validS a b = true,validS c d = true],veA (vNorm a b c d))
 | _ => none
theorem kon173:ConOK Tryz.prog 203 k173:=(show c203 = k173 by kernel_rfl) ▸ con203
theorem owe2 {p q:Prop} (h1:p) (h2:q):∀ x ∈ [p,q],x:=List.forall_mem_cons.2 ⟨h1,List.forall_mem_cons.2 ⟨h2,fun _ h => (List.not_mem_nil h).elim⟩⟩
def vTwo (g:Nat → List AV):AV:=veA (vAdd ((gx g 0 0,gb g 1 0),(gx g 2 0,gb g 3 0)) ((gx g 0 1,gb g 1 1),(gx g 2 1,gb g 3 1)))
theorem vecs_at {g:Nat → List AV} (h:vecs 2 g):g 0 = [i64 (gx g 0 0),bo (gb g 1 0),i64 (gx g 2 0),bo (gb g 3 0)] ∧ g 1 = [i64 (gx g 0 1),bo (gb g 1 1),i64 (gx g 2 1),bo (gb g 3 1)]:=⟨(h 0 (by omega)).1,(h 1 (by omega)).1⟩
theorem two_eq {g:Nat → List AV} (h:vecs 2 g):ve (su1 2 (gx g 0) (gb g 1)) (su1 2 (gx g 2) (gb g 3)) = vTwo g:=by
 obtain ⟨h0,h1⟩:=vecs_at h
 rw [su2x h0 h1,su2y h0 h1]; rfl
def k130:Con
 | [.ro 2 4 g] => some ([vecs 2 g],veA (vAdd ((gx g 0 0,gb g 1 0),(gx g 2 0,gb g 3 0)) ((gx g 0 1,gb g 1 1),(gx g 2 1,gb g 3 1))))
 | _ => none
theorem kon130:ConOK Tryz.prog 43 k130:=fun l ob r hc hob => by
 unfold k130 at hc
 split at hc
 ·rename_i g
  cases hc
  have h:vecs 2 g:=hob _ (by simp)
  have:=con43 [.ro 2 4 g] _ _ rfl (owe2 h (by omega))
  rw [two_eq h] at this
  exact this
 ·cases hc
theorem nums_at {g:Nat → List AV} (h:nums 2 g):g 0 = [i64 (gx g 0 0),bo (gb g 1 0)] ∧ g 1 = [i64 (gx g 0 1),bo (gb g 1 1)]:=⟨(h 0 (by omega)).1,(h 1 (by omega)).1⟩
theorem mx_eq {g:Nat → List AV} (h:nums 2 g):moS (-1) 2 g = nbA (nMx (gx g 0 0,gb g 1 0) (gx g 0 1,gb g 1 1)):=by
 obtain ⟨h0,h1⟩:=nums_at h
 unfold nbA nMx
 have e:=(sum2 h0 h1).2
 have m:=mo2 (o:=-1) h0 h1
 have e1:((-1:Int) = 1) = False:=by decide
 simp only [e1,false_and,false_or,eq_self,true_and] at m
 show AV.agg [i64 (moV (-1) 2 g),bo (wfS 2 g)] = _
 rw [m,e]
def k214:Con
 | [.ro 2 2 g] => some ([nums 2 g],nbA (nMx (gx g 0 0,gb g 1 0) (gx g 0 1,gb g 1 1)))
 | _ => none
theorem kon214:ConOK Tryz.prog 49 k214:=fun l ob r hc hob => by
 unfold k214 at hc
 split at hc
 ·rename_i g
  cases hc
  have h:nums 2 g:=hob _ (by simp)
  have:=con49 [.ro 2 2 g] _ _ rfl (owe2 h (by omega))
  rw [mx_eq h] at this
  exact this
 ·cases hc
theorem nPos_eq {a:Nb}:nMx (0,false) a = nPos a:=by
 have c1:whV 0 = 0:=by decide
 have c2:whF 0 false = false:=by decide
 unfold nMx nPos
 dsimp only
 rw [c1,c2,Bool.false_or]
attribute [go_sem] nPos_eq
def k172:Con
 | [.agg [.v (.int .i64 x),.v (.bool e),.v (.int .i64 y),.v (.bool f)],.agg [.v (.int .i64 z),.v (.bool g),.v (.int .i64 t),.v (.bool h)]] => some ([inR x,inR y,inR z,inR t],veA (vSub ((x,e),(y,f)) ((z,g),(t,h))))
 | _ => none
theorem kon172:ConOK Tryz.prog 114 k172:=ConOK.of (G:=[(111,k160)]) (H:=[(1,⟨[(11,.slot 4)],[]⟩)]) (.cons kon160 .nil) Tryz.func114 fun l ob r hc hob => by
 unfold k172 at hc
 split at hc
 ·rename_i x e y f z g t h
  cases hc
  have h_0:inR x:=hob _ (by simp)
  have h_1:inR y:=hob _ (by simp)
  have h_2:inR z:=hob _ (by simp)
  have h_3:inR t:=hob _ (by simp)
  refine ⟨by kernel_rfl,fnVC_go (rs:=[.cell 4 29]) rfl rfl ?_⟩
  simp only [go_sem,k160,h_0,h_1,h_2,h_3]
  rfl
 ·cases hc
end Go.Ax
end
section
set_option maxHeartbeats 4000000
set_option maxRecDepth 100000
namespace Go.Ax
open Go.Proofs
end Go.Ax
end
section
set_option maxHeartbeats 4000000
set_option maxRecDepth 100000
namespace Go.Ax
open Go.Proofs Go.RowKit
def nxt2 (n i:Nat):Nat:=nxt n (nxt n i)
theorem nxt2_lt {n i:Nat} (h:i < n):nxt2 n i < n:=nxt_lt (nxt_lt h)
theorem tmod_nxt2 {n i:Nat} (h:i < n):Int.tmod ((i:Int) + 2) n = (nxt2 n i:Nat):=by
 have e:((i:Int) + 2) = ((i + 2:Nat):Int):=rfl
 rw [e,Int.tmod_eq_emod_of_nonneg (by omega),← Int.natCast_emod]
 congr 1
 unfold nxt2 nxt
 by_cases h2:i + 2 < n
 ·rw [Nat.mod_eq_of_lt h2,if_pos (show i + 1 < n by omega),if_pos h2]
 ·by_cases h1:i + 1 < n
  ·have:i + 2 = n:=by omega
   rw [if_pos h1,if_neg (by omega),this,Nat.mod_self]
  ·have:i + 1 = n:=by omega
   rw [if_neg h1,Nat.mod_eq_sub_mod (by omega),show i + 2 - n = 1 by omega]
   by_cases h0:0 + 1 < n
   ·rw [if_pos h0,Nat.mod_eq_of_lt h0]
   ·rw [if_neg h0,show n = 1 by omega]
def cornerE (n:Nat) (g:Nat → List AV) (i:Nat):List AV:=[.agg [i64 i,i64 (gx g 0 i),i64 (gx g 1 i),i64 (gx g 0 (nxt n i)),i64 (gx g 1 (nxt n i)),i64 (gx g 0 (nxt2 n i)),i64 (gx g 1 (nxt2 n i))]]
def c179:Con
 | [.rop [.ro n 2 g]] => some ([spots n g,n ≤ 9223372036854775800],.ro n 1 (cornerE n g))
 | _ => none
structure At179 (I:Nat → Prop) (w:World) (J:Nat → World → Prop) (l n:Nat) (v1:Value) (i:Nat) (a:Act) (W:World):Prop where
 sz:a.tmps.size = 35
 de:a.defers = []
 t0:a.tmps.getD 0 undef = .func (.yield l) #[] #[]
 t1:a.tmps.getD 1 undef = v1
 t3:a.tmps.getD 3 undef = .int .i64 n
 t7:a.tmps.getD 7 undef = .int .i64 n
 t8:a.tmps.getD 8 undef = .int .i64 i
 le:i ≤ n
 j:J i W
 same:Same I w W
theorem listed_eq {L:Array Bool} {n k:Nat} (hs:L.size = n) (h:∀ i,L.getD i false = decide (i < k)):L = ((List.range n).map fun i => decide (i < k)).toArray:=by
 apply Array.ext
 ·simp [hs]
 ·intro i h1 h2
  have:=h i
  rw [Array.getD_eq_getD_getElem?,Array.getElem?_eq_getElem h1] at this
  simpa using this
theorem wpOps_free' {P:Program} {n:Nat} {Q:Exit → Act → World → Prop} {a:Act} {w:World} {ro:Option Nat} {ops:Array Oper} {i:Nat} {o:Oper} {K:Act → World → Prop} (ho:ops[i]? = some o) (hg:o.guard = none) (h:o.wpIn (Fw ro) n P a w K Q):wpOpIn (Fw ro) n P ops Q i K a w:=by
 unfold wpOpIn
 rw [ho]
 dsimp only
 rw [if_pos (by simp [Region.wanted,hg])]; exact h
theorem no_nil {l:List Nat} {k:Nat} (e:l = [k]) (h:l = []):False:=by rw [e] at h; cases h
theorem mem_one {l:List Nat} {i k:Nat} (h:l = [k]) (hi:i ∈ l):i = k:=by rw [h] at hi; simpa using hi
theorem seq179:SeqOK Tryz.prog 179 c179:=by
 intro es ob N k sq hc hob
 unfold c179 at hc
 split at hc
 case h_2 => cases hc
 rename_i n g
 simp only [Option.some.injEq,Prod.mk.injEq,AV.ro.injEq] at hc
 obtain ⟨rfl,rfl,rfl,rfl⟩:=hc
 have hsp:spots n g:=hob _ (by simp)
 have hn:n ≤ 9223372036854775800:=hob _ (by simp)
 intro I w vs nn l J Jx hI hRs hJ hJx h0 hy
 obtain ⟨v1,rest,rfl,hv1,hrest⟩:=hRs.inv
 have:rest = []:=by have:=hrest.1; simpa using this
 subst this
 cases hv1 with
 | rop b o hib hex hr =>
 obtain ⟨x,hx⟩:=hex 0 (by simp)
 have hx:Has w b o x:=hx
 have hib:I b:=hib
 have hxr:R w (.ext I) (.ro n 2 (sg g)) x:=ro_alike (fun i hi => (hsp i hi).1) (hr 0 _ x rfl hx)
 have hvr:R w (.ext I) (.rop [.ro n 2 (sg g)]) (.pointer (some ⟨b,o,none⟩)):=rop1 hib hx hxr
 refine ⟨callFunc_enter Tryz.func179 (by kernel_rfl) rfl,?_⟩
 refine callsIn_of_wp_marks (F:=Fence.wide) Tryz.func179 rfl trivial ?_
 have hm:Tryz.prog.follows .mixedOrders = true:=by kernel_rfl
 rw [show Tryz.f179.ntmps = 35 from by kernel_rfl]
 generalize hes:(#[Value.func (.yield l) #[] #[]] ++ [Value.pointer (some ⟨b,o,none⟩)].toArray:Array Value) = es
 have hes2:es.size = 2:=by rw [← hes]; rfl
 have hes0:es[0]? = some (.func (.yield l) #[] #[]):=by rw [← hes]; rfl
 have hes1:es[1]? = some (.pointer (some ⟨b,o,none⟩)):=by rw [← hes]; rfl
 generalize ha:(Act.mk (es ++ Array.replicate (35 - es.size) undef) []) = a
 have hsz:a.tmps.size = 35:=by rw [← ha]; exact start_size (by omega)
 have hde:a.defers = []:=by rw [← ha]
 have ht0:a.tmps.getD 0 undef = .func (.yield l) #[] #[]:=by rw [← ha]; exact start_get hes0
 have ht1:a.tmps.getD 1 undef = .pointer (some ⟨b,o,none⟩):=by rw [← ha]; exact start_get hes1
 clear ha hes hes0 hes1 hes2
 have keepR:∀ {av:AV} {v:Value} {W:World},R w (.ext I) av v → Same I w W → R W (.ext I) av v:=fun h hs => h.mono (.refl _) hs
 have ltI:∀ {W:World},Same I w W → ∀ b,I b → b < W.heap.size:=fun {W} hs b hb => by
  have h1:=hs b hb
  have h2:=hI b hb
  rw [Array.getElem?_eq_getElem h2] at h1
  exact (Array.getElem?_eq_some_iff.1 h1).1
 -- region 0
 refine wpIn_seq (pieceI (G:=[]) (H:=[]) .nil hm (l:=[(1,.rop [.ro n 2 (sg g)])]) (W:=[5,6,3]) (K:=fun e s => match e with | .normal => slot s.t 3 = i64 n | _ => False) (by kernel_rfl) (by kernel_rfl) (by kernel_rfl) ?_ hI hsz ?_ ?_)
 ·refine awp_go (K1:=fun e t _ => match e with | .normal => slot t 3 = i64 n | _ => False) ?_
  simp only [go_sem,List.range,List.range.loop]
 ·intro p hp; simp only [List.mem_singleton] at hp; subst hp; dsimp only; rw [ht1]; exact hvr
 intro e s1 ρ1 a1 w1 k1 k2
 cases e with
 | exit j => exact k1.elim
 | ret => exact k1.elim
 | normal =>
 have bel1:RowKit.Below w.heap.size w w1:=k2.rel.below
 have hs1:Same I w w1:=Same.of_below bel1 hI
 have hj1:J 0 w1:=hJ 0 w w1 h0 bel1
 have u0:a1.tmps.getD 0 undef = .func (.yield l) #[] #[]:=(k2.frame 0 (show ¬ (0:Nat) ∈ [5,6,3] by decide)).trans ht0
 have u1:a1.tmps.getD 1 undef = .pointer (some ⟨b,o,none⟩):=(k2.frame 1 (show ¬ (1:Nat) ∈ [5,6,3] by decide)).trans ht1
 have u3:=k2.val k1
 have usz:=k2.size
 have ude:a1.defers = []:=k2.defers.trans hde
 clear k1 k2 s1 ρ1 hsz hde ht0 ht1
 -- region 1
 refine wpIn_seq (pieceI (G:=[]) (H:=[]) .nil hm (l:=[(3,i64 n)]) (W:=[7,8]) (K:=fun e s => match e with | .normal => slot s.t 7 = i64 n ∧ slot s.t 8 = i64 0 | _ => False) (by kernel_rfl) (by kernel_rfl) (by kernel_rfl) ?_ (ltI hs1) usz ?_ ?_)
 ·refine awp_go (K1:=fun e t _ => match e with | .normal => slot t 7 = i64 n ∧ slot t 8 = i64 0 | _ => False) ?_
  simp only [go_sem,List.range,List.range.loop]
 ·intro p hp; simp only [List.mem_singleton] at hp; subst hp; dsimp only; rw [u3]; exact .v
 intro e s3 ρ3 a3 w3 k1 k2
 cases e with
 | exit j => exact k1.elim
 | ret => exact k1.elim
 | normal =>
 have bel3:RowKit.Below w1.heap.size w1 w3:=k2.rel.below
 have hs3:Same I w w3:=hs1.trans (Same.of_below bel3 (ltI hs1))
 have hAt0:At179 I w J l n (.pointer (some ⟨b,o,none⟩)) 0 a3 w3:=
  ⟨k2.size,k2.defers.trans ude,(k2.frame 0 (show ¬ (0:Nat) ∈ [7,8] by decide)).trans u0,(k2.frame 1 (show ¬ (1:Nat) ∈ [7,8] by decide)).trans u1,(k2.frame 3 (show ¬ (3:Nat) ∈ [7,8] by decide)).trans u3,
   k2.val k1.1,k2.val k1.2,Nat.zero_le _,hJ 0 w1 w3 hj1 bel3,hs3⟩
 clear k1 k2 s3 ρ3 bel3 hs3 hj1 hs1 u0 u1 u3 usz ude
 refine wpIn_block (wpIn_loop_rounds (n + 1) ?_)
 obtain ⟨i,hAt,hlt⟩:∃ i,At179 I w J l n (.pointer (some ⟨b,o,none⟩)) i a3 w3 ∧ n - i < n + 1:=⟨0,hAt0,by omega⟩
 clear hAt0
 generalize n + 1 = fuel at hlt ⊢
 induction fuel generalizing i a3 w3 with
 | zero => omega
 | succ fuel ih =>
 rw [roundsIn_succ]
 -- the guard
 refine wpIn_seq (pieceI (G:=[]) (H:=[]) .nil hm (l:=[(7,i64 n),(8,i64 i)]) (W:=[9]) (K:=fun e s => match e with | .normal => slot s.t 9 = bo (decide ((i:Int) < n)) | _ => False) (by kernel_rfl) (by kernel_rfl) (by kernel_rfl) ?_ (ltI hAt.same) hAt.sz ?_ ?_)
 ·refine awp_go (K1:=fun e t _ => match e with | .normal => slot t 9 = bo (decide ((i:Int) < n)) | _ => False) ?_
  simp only [go_sem,List.range,List.range.loop]
 ·intro p hp
  simp only [List.mem_cons,List.mem_singleton,List.not_mem_nil,or_false] at hp
  rcases hp with rfl | rfl
  ·dsimp only; rw [hAt.t7]; exact .v
  ·dsimp only; rw [hAt.t8]; exact .v
 intro e s1 ρ1 a1 w1 k1 k2
 cases e with
 | exit j => exact k1.elim
 | ret => exact k1.elim
 | normal =>
 have bel1:RowKit.Below w3.heap.size w3 w1:=k2.rel.below
 have hs1:Same I w w1:=hAt.same.trans (Same.of_below bel1 (ltI hAt.same))
 have hj1:J i w1:=hJ i w3 w1 hAt.j bel1
 have v9:=k2.val k1
 have d1:a1.defers = []:=k2.defers.trans hAt.de
 have z1:=k2.size
 have f1:∀ j,¬ j ∈ [9] → a1.tmps.getD j undef = a3.tmps.getD j undef:=k2.frame
 clear k1 k2 s1 ρ1
 refine wpIn_seq (wpIn_cond_split (t:=decide ((i:Int) < n)) v9 ?_ ?_)
 case refine_2 =>
  intro hf
  have hin:i = n:=by have:=hAt.le; simp at hf; omega
  subst hin
  refine wpIn_exit ?_
  show LeavesInM Fence.wide nn Tryz.prog Tryz.f179 a1.tmps _ a1.defers .returning w1
  exact leave_nil d1 rfl fun v => ⟨⟨v,rfl⟩,.inl hj1⟩
 intro ht
 have hin:i < n:=by simp at ht; omega
 refine wpIn_skip ?_
 refine wpIn_seq (wpIn_block ?_)
 -- region 3
 refine wpIn_seq (pieceI (G:=[]) (H:=[]) .nil hm (l:=[(8,i64 i)]) (W:=[10,4]) (K:=fun e s => match e with | .normal => slot s.t 4 = i64 i | _ => False) (by kernel_rfl) (by kernel_rfl) (by kernel_rfl) ?_ (ltI hs1) z1 ?_ ?_)
 ·refine awp_go (K1:=fun e t _ => match e with | .normal => slot t 4 = i64 i | _ => False) ?_
  simp only [go_sem,List.range,List.range.loop]
 ·intro p hp; simp only [List.mem_singleton] at hp; subst hp; dsimp only; rw [f1 8 (by decide),hAt.t8]; exact .v
 intro e s4 ρ4 a4 w4 k1 k2
 cases e with
 | exit j => exact k1.elim
 | ret => exact k1.elim
 | normal =>
 have bel4:RowKit.Below w1.heap.size w1 w4:=k2.rel.below
 have hs4:Same I w w4:=hs1.trans (Same.of_below bel4 (ltI hs1))
 have hj4:J i w4:=hJ i w1 w4 hj1 bel4
 have v4:=k2.val k1
 have d4:a4.defers = []:=k2.defers.trans d1
 have z4:=k2.size
 have f4:∀ j,¬ j ∈ [9] → ¬ j ∈ [10,4] → a4.tmps.getD j undef = a3.tmps.getD j undef:=fun j h1 h2 => (k2.frame j h2).trans (f1 j h1)
 clear k1 k2 s4 ρ4 f1 z1 d1 v9 hj1 hs1 bel1 bel4
 -- region 4: all but the yield
 obtain ⟨K1,hK1⟩:∃ K1:Slots → Prop,K1 = fun t => slot t 11 = .v (.func (.yield l) #[] #[]) ∧ [slot t 31] = cornerE n g i:=⟨_,rfl⟩
 refine wpIn_seq (region_splitA (G:=[]) (nt:=35) (hot:=⟨[],[]⟩) (s:=⟨[(0,.v (.func (.yield l) #[] #[])),(1,.rop [.ro n 2 (sg g)]),(3,i64 n),(4,i64 i)] ++ anyS (List.range 35),[],0⟩) (ds:=⟨a4.defers,(· ∈ [11,12,13,14,15,16,17,18,19,20,21,22,23,24,25,26,27,28,29,30,31,32,33]),a4.tmps⟩) .nil hm 21 (by decide) (by decide) (by kernel_rfl) (by kernel_rfl) (K:=fun s => K1 s.t) (by kernel_rfl) (fun j hj => hj) ?_ (SR.anew (ltI hs4) (slots_R z4 ?_) z4 rfl (fun _ _ => rfl)) ?_)
 ·show regC Tryz.prog [] [] (fun _ s => K1 s.t) (some ⟨[],[]⟩) _ _ 0 [] _ [] 0
  have hn0:((n:Int) = 0) = False:=eq_false (by omega)
  simp only [go_sem,List.range,List.range.loop,sg_eq,hn0]
  subst hK1
  have e1:IntKind.i64.wrap ((i:Int) + 1) = i + 1:=wrap_in (by unfold inR; omega)
  have e2:IntKind.i64.wrap ((i:Int) + 2) = i + 2:=wrap_in (by unfold inR; omega)
  have l1:=nxt_lt hin
  have l2:=nxt2_lt hin
  refine ⟨by omega,by omega,fun z hz z1 hz1 => ?_⟩
  rw [hz,e1,tmod_nxt hin] at hz1
  subst hz1
  refine ⟨by omega,by omega,fun z2 hz2 z3 hz3 => ?_⟩
  rw [hz2,e2,tmod_nxt2 hin] at hz3
  subst hz3
  refine ⟨by omega,by omega,?_⟩
  simp only [slot_cons,Nat.reduceEqDiff,if_true,if_false,reduceIte,true_and,cornerE,gx,Int.toNat_natCast]
 ·intro p hp
  simp only [List.mem_cons,List.mem_singleton,List.not_mem_nil,or_false] at hp
  rcases hp with rfl | rfl | rfl | rfl
  ·dsimp only; rw [f4 0 (by decide) (by decide),hAt.t0]; exact .v
  ·dsimp only; rw [f4 1 (by decide) (by decide),hAt.t1]; exact keepR hvr hs4
  ·dsimp only; rw [f4 3 (by decide) (by decide),hAt.t3]; exact .v
  ·dsimp only; rw [v4]; exact .v
 intro s5 L ρ2 a2 w2 k1 hL1 hL2 k2
 subst hK1
 have bel2:RowKit.Below w4.heap.size w4 w2:=k2.rel.below
 have hs2:Same I w w2:=hs4.trans (Same.of_below bel2 (ltI hs4))
 have hj2:J i w2:=hJ i w4 w2 hj4 bel2
 have v11:=k2.val k1.1
 have e31:slot s5.t 31 = .agg [i64 i,i64 (gx g 0 i),i64 (gx g 1 i),i64 (gx g 0 (nxt n i)),i64 (gx g 1 (nxt n i)),i64 (gx g 0 (nxt2 n i)),i64 (gx g 1 (nxt2 n i))]:=by have:=k1.2; unfold cornerE at this; exact (List.cons.inj this).1
 have hargs:Rs w2 (.ext I) (cornerE n g i) [a2.tmps.getD 31 undef]:=by
  have q31:=k2.slots 31
  rw [e31] at q31
  exact .cons (plain_sound 3 rfl q31) .nil
 have d2:a2.defers = []:=k2.defers.trans d4
 have z2:=k2.size
 have f2:=k2.frame
 clear k1 e31
 have hL:L = ((List.range 23).map fun i => decide (i < 21)).toArray:=listed_eq hL1 hL2
 subst hL
 have z32:32 < a2.tmps.size:=by rw [z2]; decide
 refine ⟨fun h => (no_nil (k:=21) (by kernel_rfl) h).elim,fun j hj => ?_⟩
 have hj:j = 21:=mem_one (by kernel_rfl) hj
 subst hj
 refine wpOps_free' rfl rfl (yield_op (l:=l) [a2.tmps.getD 31 undef] rfl v11 (by simp [Act.eval]) (hy i w2 _ hin hj2 hs2 hargs) ?_)
 intro e W hpost
 obtain ⟨r,he,hsm,hjt,hjf⟩:∃ r,e = .returned (.bool r) ∧ Same I w2 W ∧ (r = true → J (i + 1) W) ∧ (r = false → Jx W):=by
  obtain ⟨hsm,⟨rfl,hj⟩ | ⟨rfl,hj⟩⟩:=hpost
  ·exact ⟨true,rfl,hsm,fun _ => hj,fun h => (by cases h)⟩
  ·exact ⟨false,rfl,hsm,fun h => (by cases h),fun _ => hj⟩
 subst he
 refine ⟨_,rfl,?_⟩
 have hs5:Same I w W:=hs2.trans hsm
 refine ⟨fun h => (no_nil (k:=22) (by kernel_rfl) h).elim,fun j hj => ?_⟩
 have hj:j = 22:=mem_one (by kernel_rfl) hj
 subst hj
 have q0:SR ⟨W,I,[],[]⟩ (.ext I) ([(32,bo r)] ++ anyS (List.range 35)) [] (· < 0) 35 ⟨[],(· ∈ [33]),(a2.put (some 32) (.bool r)).tmps⟩ (a2.put (some 32) (.bool r)) W:=SR.anew (ltI hs5) (slots_R ((put_size _ _).trans z2) (fun p hp => by
  simp only [List.mem_singleton] at hp; subst hp; dsimp only; rw [put_at z32]; exact .v)) ((put_size _ _).trans z2) d2 (fun _ _ => rfl)
 refine wpOps_free' rfl rfl ?_
 refine aStep_sound (G:=[]) (key:=0) (g:=none) (m':=[]) (e:=⟨[],bo (!r),.none⟩) (ρ0:=opd ([(32,bo r)] ++ anyS (List.range 35))) .nil q0.rel (by simp) (fun _ _ h => h) (by kernel_rfl) (fun q hq => by simp [owed,isPick,needs,Op.operands,opd,slot] at hq) q0.opd fun v w5 hpost => ?_
 obtain ⟨ρ5,p1,p2,p3,p4⟩:=hpost
 have bel5:RowKit.Below W.heap.size W w5:=p2.below
 have hs6:Same I w w5:=hs5.trans (Same.of_below bel5 (ltI hs5))
 cases p1
 have hput:∀ j,33 ≠ j → 32 ≠ j → (((a2.put (some 32) (.bool r)).put (some 33) (.bool (!r))).tmps.getD j undef) = a2.tmps.getD j undef:=fun j h1 h2 => by
  rw [put_not (by rw [put_size,z2]; decide) h1,put_not z32 h2]
 have z33:33 < (a2.put (some 32) (.bool r)).tmps.size:=by rw [put_size,z2]; decide
 have v33:((a2.put (some 32) (.bool r)).put (some 33) (.bool (!r))).tmps.getD 33 undef = .bool (!r):=put_at z33
 have z5:((a2.put (some 32) (.bool r)).put (some 33) (.bool (!r))).tmps.size = 35:=((put_size _ _).trans (put_size _ _)).trans z2
 have d5:((a2.put (some 32) (.bool r)).put (some 33) (.bool (!r))).defers = []:=d2
 show wpAnyIn (Fw none) nn Tryz.prog .any _ _ 0 _ ((a2.put (some 32) (.bool r)).put (some 33) (.bool (!r))) w5
 generalize (a2.put (some 32) (.bool r)).put (some 33) (.bool (!r)) = a5 at *
 refine ⟨by kernel_rfl,?_⟩
 refine wpIn_cond_split (t:=!r) v33 (fun hb => ?_) (fun hb => ?_)
 ·have hr:r = false:=by simpa using hb
  have hjx:Jx w5:=hJx W w5 (hjf hr) bel5
  refine wpIn_ret ?_
  show LeavesInM Fence.wide nn Tryz.prog Tryz.f179 a5.tmps _ a5.defers .returning w5
  exact leave_nil d5 rfl fun v => ⟨⟨v,rfl⟩,.inr hjx⟩
 ·have hr:r = true:=by simpa using hb
  have hj5:J (i + 1) w5:=hJ (i + 1) W w5 (hjt hr) bel5
  refine wpIn_skip ?_
  show Code.wpIn Fence.wide nn Tryz.prog (Code.region 5 _ false) _ a5 w5
  have g2:∀ j,¬ j ∈ [9] → ¬ j ∈ [10,4] → ¬ j ∈ [11,12,13,14,15,16,17,18,19,20,21,22,23,24,25,26,27,28,29,30,31,32,33] → a5.tmps.getD j undef = a3.tmps.getD j undef:=fun j h1 h2 h3 => by
   rw [hput j (fun h => h3 (by subst h; decide)) (fun h => h3 (by subst h; decide)),f2 j h3,f4 j h1 h2]
  refine pieceI (G:=[]) (H:=[]) .nil hm (l:=[(8,i64 i)]) (W:=[34,8]) (K:=fun e s => match e with | .normal => slot s.t 8 = i64 (i + 1) | _ => False) (by kernel_rfl) (by kernel_rfl) (by kernel_rfl) ?_ (ltI hs6) z5 ?_ ?_
  ·refine awp_go (K1:=fun e t _ => match e with | .normal => slot t 8 = i64 (i + 1) | _ => False) ?_
   simp only [go_sem,List.range,List.range.loop]
   intro z hz
   have e1:IntKind.i64.wrap ((i:Int) + 1) = i + 1:=wrap_in (by unfold inR; omega)
   rw [hz,e1]
  ·intro p hp; simp only [List.mem_singleton] at hp; subst hp; dsimp only; rw [g2 8 (by decide) (by decide) (by decide),hAt.t8]; exact .v
  intro e s6 ρ6 a6 w6 q1 q2
  cases e with
  | exit j => exact q1.elim
  | ret => exact q1.elim
  | normal =>
  have bel6:RowKit.Below w5.heap.size w5 w6:=q2.rel.below
  have f6:∀ j,¬ j ∈ [34,8] → a6.tmps.getD j undef = a5.tmps.getD j undef:=q2.frame
  refine ih a6 w6 (i + 1) ⟨q2.size,q2.defers.trans d5,?_,?_,?_,?_,?_,by omega,hJ (i + 1) w5 w6 hj5 bel6,hs6.trans (Same.of_below bel6 (ltI hs6))⟩ (by omega)
  ·rw [f6 0 (by decide),g2 0 (by decide) (by decide) (by decide),hAt.t0]
  ·rw [f6 1 (by decide),g2 1 (by decide) (by decide) (by decide),hAt.t1]
  ·rw [f6 3 (by decide),g2 3 (by decide) (by decide) (by decide),hAt.t3]
  ·rw [f6 7 (by decide),g2 7 (by decide) (by decide) (by decide),hAt.t7]
  ·have:=q2.val q1; rw [this]; rfl
end Go.Ax
end
section
set_option maxHeartbeats 4000000
set_option maxRecDepth 100000
namespace Go.Ax
open Go.Proofs
def c177:Con
 | [.agg [.v (.int .i64 a),.v (.int .i64 b)],.agg [.v (.int .i64 c),.v (.int .i64 d)]] => some ([],.agg [i64 (IntKind.i64.wrap (a - c)),i64 (IntKind.i64.wrap (b - d))])
 | _ => none
theorem con177:ConOK Tryz.prog 177 c177:=ConOK.of (G:=[]) (H:=[]) .nil Tryz.func177 fun l ob r hc hob => by
 unfold c177 at hc
 split at hc
 ·rename_i a b c d
  cases hc
  refine ⟨by kernel_rfl,fnVC_go (rs:=[.cell 4 177]) rfl rfl ?_⟩
  simp only [go_sem]
  simp only [forall_eq]
 ·cases hc
def c120:Con
 | [.agg [.v (.int .i64 a),.v (.int .i64 b)],.agg [.v (.int .i64 c),.v (.int .i64 d)]] => some ([],i64 (IntKind.i64.wrap (IntKind.i64.wrap (a * d) - IntKind.i64.wrap (b * c))))
 | _ => none
theorem con120:ConOK Tryz.prog 120 c120:=ConOK.of (G:=[]) (H:=[]) .nil Tryz.func120 fun l ob r hc hob => by
 unfold c120 at hc
 split at hc
 ·rename_i a b c d
  cases hc
  refine ⟨by kernel_rfl,fnVC_go (rs:=[.tmp 4]) rfl rfl ?_⟩
  simp only [go_sem]
  simp only [forall_eq]
 ·cases hc
def c178:Con
 | [.agg [.v (.int .i64 a),.v (.int .i64 b)]] => some ([-1000000 ≤ a ∧ a ≤ 1000000,-1000000 ≤ b ∧ b ≤ 1000000],i64 (ab a + ab b))
 | _ => none
theorem con178:ConOK Tryz.prog 178 c178:=ConOK.of (G:=[]) (H:=[]) .nil Tryz.func178 fun l ob r hc hob => by
 unfold c178 at hc
 split at hc
 ·rename_i a b
  cases hc
  have h_0:-1000000 ≤ a ∧ a ≤ 1000000:=hob _ (by simp)
  have h_1:-1000000 ≤ b ∧ b ≤ 1000000:=hob _ (by simp)
  refine ⟨by kernel_rfl,fnVC_go (rs:=[.tmp 2]) rfl rfl ?_⟩
  simp only [go_sem]
  simp only [forall_eq]
  rw [wrap_in (x:=0 - a) (by unfold inR; omega),wrap_in (x:=0 - b) (by unfold inR; omega),wrap_in (by unfold inR; omega)]
  unfold ab
  split <;> split <;> omega
 ·cases hc
def c118:Con
 | [.ro n 2 g] => some ([],.fn 179 [.rop [.ro n 2 g]])
 | _ => none
theorem con118:ConOK Tryz.prog 118 c118:=ConOK.of (G:=[]) (H:=[]) .nil Tryz.func118 fun l ob r hc hob => by
 unfold c118 at hc
 split at hc
 ·rename_i n g
  cases hc
  refine ⟨by kernel_rfl,fnVC_go (rs:=[.tmp 2]) rfl rfl ?_⟩
  simp only [go_sem]
  trace_state
 ·cases hc
def c115:Con
 | [.v (.int .i64 n)] => some ([],bo (decide (16 ≤ n ∧ n ≤ 4096)))
 | _ => none
theorem con115:ConOK Tryz.prog 115 c115:=ConOK.of (G:=[]) (H:=[]) .nil Tryz.func115 fun l ob r hc hob => by
 unfold c115 at hc
 split at hc
 ·rename_i n
  cases hc
  refine ⟨by kernel_rfl,fnVC_go (rs:=[.tmp 2]) rfl rfl ?_⟩
  simp only [go_sem]
  rw [Bool.eq_iff_iff]; simp
 ·cases hc
def lo (x:Int):Prop:=-4096 ≤ x ∧ x ≤ 4096
theorem lo_mul {x y:Int} (hx:lo x) (hy:lo y):-16777216 ≤ x * y ∧ x * y ≤ 16777216:=by
 have:=mul_bd (A:=4096) (B:=4096) (by omega) hx hy
 omega
def lo2 (x:Int):Prop:=-8192 ≤ x ∧ x ≤ 8192
theorem lo2_mul {x y:Int} (hx:lo2 x) (hy:lo2 y):-67108864 ≤ x * y ∧ x * y ≤ 67108864:=by
 have:=mul_bd (A:=8192) (B:=8192) (by omega) hx hy
 omega
def cvxS (n:Nat) (X Y:Nat → Int):Bool:=decide (∀ i,i < n → (0 < X i * Y (nxt n i) - Y i * X (nxt n i) ∧ 4 * (ab (X (nxt n i) - X i) + ab (Y (nxt n i) - Y i) + (ab (X (nxt2 n i) - X (nxt n i)) + ab (Y (nxt2 n i) - Y (nxt n i)))) ≤ (X (nxt n i) - X i) * (Y (nxt2 n i) - Y (nxt n i)) - (Y (nxt n i) - Y i) * (X (nxt2 n i) - X (nxt n i))) ∧ ∀ j,j < n → j ≠ i → j ≠ nxt n i → 0 < (X (nxt n i) - X i) * (Y j - Y i) - (Y (nxt n i) - Y i) * (X j - X i))
def c116:Con
 | [.ro n 2 g] => some ([spots n g,n ≤ 1000,∀ i,i < n → lo (gx g 0 i) ∧ lo (gx g 1 i)],bo (cvxS n (gx g 0) (gx g 1)))
 | _ => none
theorem vc116 (n:Nat) (X Y:Nat → Int) (hn:n ≤ 1000) (hl:∀ i,i < n → lo (X i) ∧ lo (Y i)):fnVC Tryz.prog [(118,c118),(177,c177),(120,c120),(178,c178),(1000000 + 179,c179)] [(3,⟨[(12,.made 10),(13,.made 11)],[]⟩)] Tryz.f116 [.ro n 2 fun i => [i64 (X i),i64 (Y i)]] (· = bo (cvxS n X Y)):=by
 refine fnVC_go (rs:=[.cell 2 4]) rfl rfl ?_
 simp only [go_sem,c118]
 have hg:spots n fun i => [i64 (X i),i64 (Y i)]:=fun i hi => ⟨rfl,by have:=(hl i hi).1; unfold lo at this; show inR (X i); unfold inR; omega,by have:=(hl i hi).2; unfold lo at this; show inR (Y i); unfold inR; omega⟩
 obtain ⟨A,hA⟩:∃ A:Nat → Prop,A = fun i => 0 < X i * Y (nxt n i) - Y i * X (nxt n i) ∧ 4 * (ab (X (nxt n i) - X i) + ab (Y (nxt n i) - Y i) + (ab (X (nxt2 n i) - X (nxt n i)) + ab (Y (nxt2 n i) - Y (nxt n i)))) ≤ (X (nxt n i) - X i) * (Y (nxt2 n i) - Y (nxt n i)) - (Y (nxt n i) - Y i) * (X (nxt2 n i) - X (nxt n i)):=⟨_,rfl⟩
 obtain ⟨T,hT⟩:∃ T:Nat → Nat → Int,T = fun i j => (X (nxt n i) - X i) * (Y j - Y i) - (Y (nxt n i) - Y i) * (X j - X i):=⟨_,rfl⟩
 have hcv:cvxS n X Y = true ↔ ∀ i,i < n → A i ∧ ∀ j,j < n → j ≠ i → j ≠ nxt n i → 0 < T i j:=by
  subst hA hT
  unfold cvxS
  rw [decide_eq_true_eq]
 refine rangeC_go (fun (i:Nat) => i ≤ n ∧ ∀ j,j < i → A j ∧ ∀ k,k < n → k ≠ j → k ≠ nxt n j → 0 < T j k) (fun i => i) (fun _ => []) [1,0] [10,3,11,12,13,14,15,16,17,18,19,20,4,5,21,22,23,24,25,26,27,28,29,30,31,32,33,34,35,36,37,38,39,40,41,42,43,44,45,7,6,46,47,48,49,50,51,52,53,54,55,56,57,58,59,60,61,62,63,64,65,66,67,68,69,41] 0 0 (N:=n) (sq:=cornerE n fun i => [i64 (X i),i64 (Y i)]) (ob:=[spots n fun i => [i64 (X i),i64 (Y i)],n ≤ 9223372036854775800]) rfl (by intro p hp; simp only [List.mem_cons,List.mem_singleton,List.not_mem_nil,or_false] at hp; rcases hp with rfl | rfl; exact hg; omega) (by kernel_rfl) rfl (fun i _ => ⟨rfl,rfl⟩) ⟨Nat.zero_le _,fun j hj => by omega⟩ rfl ⟨[],?_,?_,?_⟩ ?_ ?_
 ·simp only [go_sem]
 ·simp only [go_sem]
 ·simp [goodNames,asg]
 ·intro i hi hlt
  have hlt:i < n:=hlt
  have l1:=nxt_lt hlt
  have l2:=nxt2_lt hlt
  have b1:=hl i hlt
  have b2:=hl _ l1
  have b3:=hl _ l2
  have m1:=lo_mul b1.1 b2.2
  have m2:=lo_mul b1.2 b2.1
  have d1:lo2 (X (nxt n i) - X i):=by unfold lo at b1 b2; unfold lo2; omega
  have d2:lo2 (Y (nxt n i) - Y i):=by unfold lo at b1 b2; unfold lo2; omega
  have d3:lo2 (X (nxt2 n i) - X (nxt n i)):=by unfold lo at b3 b2; unfold lo2; omega
  have d4:lo2 (Y (nxt2 n i) - Y (nxt n i)):=by unfold lo at b3 b2; unfold lo2; omega
  have m3:=lo2_mul d1 d4
  have m4:=lo2_mul d2 d3
  unfold lo2 at d1 d2 d3 d4
  have w1:IntKind.i64.wrap (X (nxt n i) - X i) = X (nxt n i) - X i:=wrap_in (by unfold inR; omega)
  have w2:IntKind.i64.wrap (Y (nxt n i) - Y i) = Y (nxt n i) - Y i:=wrap_in (by unfold inR; omega)
  have w3:IntKind.i64.wrap (X (nxt2 n i) - X (nxt n i)) = X (nxt2 n i) - X (nxt n i):=wrap_in (by unfold inR; omega)
  have w4:IntKind.i64.wrap (Y (nxt2 n i) - Y (nxt n i)) = Y (nxt2 n i) - Y (nxt n i):=wrap_in (by unfold inR; omega)
  have w5:IntKind.i64.wrap (IntKind.i64.wrap (X i * Y (nxt n i)) - IntKind.i64.wrap (Y i * X (nxt n i))) = X i * Y (nxt n i) - Y i * X (nxt n i):=by
   rw [wrap_in (x:=X i * Y (nxt n i)) (by unfold inR; omega),wrap_in (x:=Y i * X (nxt n i)) (by unfold inR; omega),wrap_in (by unfold inR; omega)]
  have w6:IntKind.i64.wrap (IntKind.i64.wrap ((X (nxt n i) - X i) * (Y (nxt2 n i) - Y (nxt n i))) - IntKind.i64.wrap ((Y (nxt n i) - Y i) * (X (nxt2 n i) - X (nxt n i)))) = (X (nxt n i) - X i) * (Y (nxt2 n i) - Y (nxt n i)) - (Y (nxt n i) - Y i) * (X (nxt2 n i) - X (nxt n i)):=by
   rw [wrap_in (x:=(X (nxt n i) - X i) * _) (by unfold inR; omega),wrap_in (x:=(Y (nxt n i) - Y i) * _) (by unfold inR; omega),wrap_in (by unfold inR; omega)]
  simp only [go_sem,cornerE,c177,c120,c178,w1,w2,w3,w4,w5,w6]
  intro z hz z1 hz1 z2 hz2 z3 hz3 z4 hz4 z5 hz5 z6 hz6
  subst hz hz1 hz2 hz3
  rw [w6] at hz5
  have ab1:0 ≤ ab (X (nxt n i) - X i) ∧ ab (X (nxt n i) - X i) ≤ 8192:=by unfold ab; split <;> omega
  have ab2:0 ≤ ab (Y (nxt n i) - Y i) ∧ ab (Y (nxt n i) - Y i) ≤ 8192:=by unfold ab; split <;> omega
  have ab3:0 ≤ ab (X (nxt2 n i) - X (nxt n i)) ∧ ab (X (nxt2 n i) - X (nxt n i)) ≤ 8192:=by unfold ab; split <;> omega
  have ab4:0 ≤ ab (Y (nxt2 n i) - Y (nxt n i)) ∧ ab (Y (nxt2 n i) - Y (nxt n i)) ≤ 8192:=by unfold ab; split <;> omega
  have hAi:A i ↔ 0 < z4 ∧ 4 * (ab (X (nxt n i) - X i) + ab (Y (nxt n i) - Y i) + (ab (X (nxt2 n i) - X (nxt n i)) + ab (Y (nxt2 n i) - Y (nxt n i)))) ≤ z5:=by rw [hA,hz4,hz5]
  refine ⟨fun _ => by omega,fun _ => by omega,fun z7 hz7 => ⟨fun _ => by omega,fun _ => by omega,fun z8 hz8 z9 hz9 => ⟨fun h => ?_,fun h => ?_⟩⟩⟩
  ·rw [hz6,hz7,wrap_in (by unfold inR; omega)] at hz8
   rw [hz8,wrap_in (by unfold inR; omega)] at hz9
   refine false_of fun hc => ?_
   have:=(hcv.1 hc i hlt).1
   rw [hAi] at this
   omega
  rw [hz6,hz7,wrap_in (by unfold inR; omega)] at hz8
  rw [hz8,wrap_in (by unfold inR; omega)] at hz9
  have hAi:A i:=hAi.2 (by omega)
  clear hz4 hz5 hz6 hz7 hz8 hz9 w1 w2 w3 w4 w5 w6 m1 m2 m3 m4
  refine loopC_go (fun (j:Nat) => j ≤ n ∧ ∀ k,k < j → k ≠ i → k ≠ nxt n i → 0 < T i k) (fun j => n - j) (fun j => [(41,i64 j)]) (fun _ => []) [17,16,4,1,0] [42,43,44,45,7,6,46,47,48,49,50,51,52,53,54,55,56,57,58,59,60,61,62,63,64,65,66,67,68,69,41] 0 (by kernel_rfl) ?_ ⟨Nat.zero_le _,fun j hj => by omega⟩ ?_ ?_
  ·intro x _; simp [goodNames]
  ·simp only [go_sem]
  ·intro j hj
   have hn0:((n:Int) = 0) = False:=eq_false (by omega)
   simp only [go_sem,c177,c120,hn0]
   refine ⟨fun hjn => ?_,fun hjn => ?_⟩
   ·have hjn':j < n:=by omega
    have b4:=hl j hjn'
    have d5:lo2 (Y j - Y i):=by unfold lo at b1 b4; unfold lo2; omega
    have d6:lo2 (X j - X i):=by unfold lo at b1 b4; unfold lo2; omega
    have m5:=lo2_mul (show lo2 _ from d1) d5
    have m6:=lo2_mul (show lo2 _ from d2) d6
    unfold lo2 at d5 d6
    have ew:IntKind.i64.wrap (IntKind.i64.wrap ((X (nxt n i) - X i) * IntKind.i64.wrap (Y j - Y i)) - IntKind.i64.wrap ((Y (nxt n i) - Y i) * IntKind.i64.wrap (X j - X i))) = T i j:=by
     rw [wrap_in (x:=Y j - Y i) (by unfold inR; omega),wrap_in (x:=X j - X i) (by unfold inR; omega),wrap_in (x:=_ * (Y j - Y i)) (by unfold inR; omega),wrap_in (x:=_ * (X j - X i)) (by unfold inR; omega),wrap_in (by unfold inR; omega),hT]
    refine ⟨by omega,hjn,fun z hz z1 hz1 z2 hz2 => ?_⟩
    rw [hz,wrap_in (by unfold inR; omega),tmod_nxt hlt] at hz1
    rw [ew] at hz2
    subst hz1 hz2
    refine ⟨fun h => false_of fun hc => ?_,fun h z3 hz3 => ⟨j + 1,⟨by omega,fun k hk k1 k2 => ?_⟩,by omega,?_⟩⟩
    ·have:=(hcv.1 hc i hlt).2 j hjn' (by have:=h.1.1; simp at this; omega) (by have:=h.1.2; simp at this; omega)
     omega
    ·by_cases e:k = j
     ·subst e
      simp only [Bool.and_eq_false_iff,bne_eq_false_iff_eq,decide_eq_false_iff_not] at h
      omega
     ·exact hj.2 k (by omega) k1 k2
    ·rw [hz3,wrap_in (by unfold inR; omega)]; rfl
   ·refine ⟨i + 1,⟨by omega,fun j' hj' => ?_⟩,rfl,[],by simp [goodNames,asg]⟩
    by_cases e:j' = i
    ·subst e; exact ⟨hAi,fun k hk k1 k2 => hj.2 k (by omega) k1 k2⟩
    ·exact hi.2 j' (by omega)
 ·intro i hi he
  have he:i = n:=he
  subst he
  simp only [go_sem]
  exact (hcv.2 hi.2).symm
theorem con116:ConOK Tryz.prog 116 c116:=ConOK.go (G:=[(118,c118),(177,c177),(120,c120),(178,c178),(1000000 + 179,c179)]) (H:=[(3,⟨[(12,.made 10),(13,.made 11)],[]⟩)]) (.cons con118 (.cons con177 (.cons con120 (.cons con178 (.seq seq179 .nil))))) Tryz.func116 fun l ob r hc hob => by
 unfold c116 at hc
 split at hc
 ·rename_i n g
  cases hc
  have hs:spots n g:=hob _ (by simp)
  exact ⟨[.ro n 2 fun i => [i64 (gx g 0 i),i64 (gx g 1 i)]],fun w I vs h => Rs_one (fun v => ro_alike fun i hi => (hs i hi).1) h,by kernel_rfl,vc116 n _ _ (hob _ (by simp)) (hob _ (by simp))⟩
 ·cases hc
instance {x:Int}:Decidable (lo x):=by unfold lo; infer_instance
def chkS (k r w t:Int) (n:Nat) (X Y:Nat → Int):Int:=
 if k = 1 then (if w ≠ 0 ∨ t ≠ 0 ∨ n ≠ 0 then 4 else if 16 ≤ r ∧ r ≤ 4096 then 0 else 3)
 else if k = 2 then (if r ≠ 0 ∨ n ≠ 0 then 4 else if (16 ≤ w ∧ w ≤ 4096) ∧ (16 ≤ t ∧ t ≤ 4096) then 0 else 3)
 else if k = 3 then (if r ≠ 0 ∨ w ≠ 0 ∨ t ≠ 0 ∨ n < 3 ∨ 8 < n then 4 else if ∀ i,i < n → lo (X i) ∧ lo (Y i) then (if cvxS n X Y = true then 0 else 5) else 3)
 else 8
abbrev shapeA (k r w t:Int) (n:Nat) (g:Nat → List AV):AV:=.agg [i64 k,i64 r,i64 w,i64 t,.ro n 2 g]
theorem vc62 (k r w t:Int) (n:Nat) (X Y:Nat → Int) (hX:∀ i,i < n → inR (X i) ∧ inR (Y i)) (hn:n ≤ 9223372036854775806):fnVC Tryz.prog [(115,c115),(116,c116)] [] Tryz.f62 [shapeA k r w t n fun i => [i64 (X i),i64 (Y i)]] (· = i64 (chkS k r w t n X Y)):=by
 refine fnVC_go (rs:=[.tmp 2]) rfl rfl ?_
 have hg:spots n fun i => [i64 (X i),i64 (Y i)]:=fun i hi => ⟨rfl,hX i hi⟩
 have eX:gx (fun i => [i64 (X i),i64 (Y i)]) 0 = X:=rfl
 have eY:gx (fun i => [i64 (X i),i64 (Y i)]) 1 = Y:=rfl
 simp only [go_sem,c115,c116]
 refine ⟨fun hk => ?_,fun hk => ⟨fun hk2 => ?_,fun hk2 => ⟨fun hk3 => ?_,fun hk3 => ?_⟩⟩⟩
 ·have hk:k = 1:=by simpa using hk
  refine ⟨fun h => ?_,fun h z hz => ⟨fun h2 => ?_,fun h2 => ?_⟩⟩
  ·unfold chkS; rw [if_pos hk,if_pos (by simp only [bne_iff_ne] at h; omega)]
  ·unfold chkS; rw [if_pos hk,if_neg (by simp at h; omega),if_neg (by rw [hz] at h2; exact of_decide_eq_false h2)]
  ·unfold chkS; rw [if_pos hk,if_neg (by simp at h; omega),if_pos (by rw [hz] at h2; exact of_decide_eq_true h2)]
 ·have hk:¬ k = 1:=by simpa using hk
  have hk2:k = 2:=by simpa using hk2
  refine ⟨fun h => ?_,fun h z hz z1 hz1 => ⟨fun h2 => ?_,fun h2 => ?_⟩⟩
  ·unfold chkS; rw [if_neg hk,if_pos hk2,if_pos (by simp only [bne_iff_ne] at h; omega)]
  ·unfold chkS; rw [if_neg hk,if_pos hk2,if_neg (by simp at h; omega),if_neg (by
    rintro ⟨p,q⟩
    rw [hz,hz1,decide_eq_true p,decide_eq_true q] at h2
    simp at h2)]
  ·unfold chkS; rw [if_neg hk,if_pos hk2,if_neg (by simp at h; omega),if_pos (by
    rw [hz,hz1] at h2
    exact ⟨of_decide_eq_true h2.1,of_decide_eq_true h2.2⟩)]
 ·have hk:¬ k = 1:=by simpa using hk
  have hk2:¬ k = 2:=by simpa using hk2
  have hk3:k = 3:=by simpa using hk3
  refine ⟨fun h => ?_,fun h => ?_⟩
  ·unfold chkS; rw [if_neg hk,if_neg hk2,if_pos hk3,if_pos (by simp only [bne_iff_ne] at h; omega)]
  have h4:¬ (r ≠ 0 ∨ w ≠ 0 ∨ t ≠ 0 ∨ n < 3 ∨ 8 < n):=by simp at h; omega
  have e0:chkS k r w t n X Y = if ∀ i,i < n → lo (X i) ∧ lo (Y i) then (if cvxS n X Y = true then 0 else 5) else 3:=by unfold chkS; rw [if_neg hk,if_neg hk2,if_pos hk3,if_neg h4]
  rw [e0]
  refine loopC_go (fun (i:Nat) => i ≤ n ∧ ∀ j,j < i → lo (X j) ∧ lo (Y j)) (fun i => n - i) (fun i => [(78,i64 i)]) (fun _ => []) [0] [79,80,81,4,82,83,84,85,86,87,88,89,90,91,92,93,94,95,2,96,78] 0 (by kernel_rfl) ?_ ⟨Nat.zero_le _,fun j hj => by omega⟩ ?_ ?_
  ·intro x _; simp [goodNames]
  ·simp only [go_sem]
  ·intro i hi
   simp only [go_sem,c116,eX,eY]
   refine ⟨fun hin => ⟨by omega,hin,fun z hz z1 hz1 => ⟨fun h5 => ?_,fun h5 z2 hz2 => ⟨i + 1,⟨by omega,fun j hj => ?_⟩,by omega,?_⟩⟩⟩,fun hin z hz => ⟨hg,by omega,fun j hj => hi.2 j (by omega),fun h5 => ?_,fun h5 => ?_⟩⟩
   ·rw [if_neg fun hc => ?_]
    have:=hc i (by omega)
    unfold lo at this
    omega
   ·by_cases e:j = i
    ·subst e; unfold lo; omega
    ·exact hi.2 j (by omega)
   ·rw [hz2,wrap_in (by unfold inR; omega)]; rfl
   ·rw [if_pos (fun j hj => hi.2 j (by omega)),if_neg (by rw [← hz,h5]; decide)]
   ·rw [if_pos (fun j hj => hi.2 j (by omega)),if_pos (by rw [← hz,h5])]
 ·have hk:¬ k = 1:=by simpa using hk
  have hk2:¬ k = 2:=by simpa using hk2
  have hk3:¬ k = 3:=by simpa using hk3
  unfold chkS; rw [if_neg hk,if_neg hk2,if_neg hk3]
theorem Rs_shape {w:World} {ρ:Env} {k x y r:Int} {n:Nat} {g:Nat → List AV} (hs:spots n g) (v:Value) (h:R w ρ (shapeA k x y r n g) v):R w ρ (shapeA k x y r n fun i => [i64 (gx g 0 i),i64 (gx g 1 i)]) v:=Rs_form hs v h
def c62:Con
 | [.agg [.v (.int .i64 k),.v (.int .i64 r),.v (.int .i64 w),.v (.int .i64 t),.ro n 2 g]] => some ([spots n g,n ≤ 9223372036854775806],i64 (chkS k r w t n (gx g 0) (gx g 1)))
 | _ => none
theorem con62:ConOK Tryz.prog 62 c62:=ConOK.go (G:=[(115,c115),(116,c116)]) (H:=[]) (.cons con115 (.cons con116 .nil)) Tryz.func62 fun l ob rr hc hob => by
 unfold c62 at hc
 split at hc
 ·rename_i k r w t n g
  cases hc
  have hs:spots n g:=hob _ (by simp)
  exact ⟨[shapeA k r w t n fun i => [i64 (gx g 0 i),i64 (gx g 1 i)]],fun w I vs h => Rs_one (Rs_shape hs) h,by kernel_rfl,vc62 k r w t n _ _ (fun i hi => (hs i hi).2) (hob _ (by simp))⟩
 ·cases hc
end Go.Ax
end
section
set_option maxHeartbeats 4000000
set_option maxRecDepth 100000
namespace Go.Ax
open Go.Proofs
end Go.Ax
end
section
set_option maxHeartbeats 4000000
set_option maxRecDepth 100000
namespace Go.Ax
open Go.Proofs
def c122:Con
 | [.agg [.v (.int .i64 a),.v (.bool e)]] => some ([inR a],bo (! (whF a e || decide (17592186044416 < ab (whV a)))))
 | _ => none
theorem con122:ConOK Tryz.prog 122 c122:=ConOK.of (G:=[(50,c50),(103,c103),(51,c51)]) (H:=[]) (.cons con50 (.cons con103 (.cons con51 .nil))) Tryz.func122 fun l ob r hc hob => by
 unfold c122 at hc
 split at hc
 ·rename_i a e
  cases hc
  have h_0:inR a:=hob _ (by simp)
  refine ⟨by kernel_rfl,fnVC_go (rs:=[.tmp 2]) rfl rfl ?_⟩
  simp only [go_sem,c50,c103,c51]
  simp only [forall_eq]
  refine ⟨h_0,fun _ => by unfold inR; omega,?_⟩
  have e1:whV (ab (whV a)) = ab (whV a):=whV_of (by have:=whV_rg h_0; unfold rg at *; unfold ab; split <;> omega)
  have e2:whV (ftV (4096 * 4294967296)) = 17592186044416:=by decide
  rw [e1,e2,Bool.eq_iff_iff]
  simp [cmpS]
  intro _
  split
  ·simp; omega
  ·split
   ·simp; omega
   ·simp; omega
 ·cases hc
def c123:Con
 | [.agg [.v (.int .i64 a),.v (.bool e),.v (.int .i64 b),.v (.bool f)]] => some ([inR a,inR b],.agg [i64 (spV (a,e)),i64 (spV (b,f))])
 | _ => none
theorem con123:ConOK Tryz.prog 123 c123:=ConOK.of (G:=[(103,c103),(180,c180),(47,c47)]) (H:=[(2,⟨[(11,.slot 2)],[]⟩)]) (.cons con103 (.cons con180 (.cons con47 .nil))) Tryz.func123 fun l ob r hc hob => by
 unfold c123 at hc
 split at hc
 ·rename_i a e b f
  cases hc
  have h_0:inR a:=hob _ (by simp)
  have h_1:inR b:=hob _ (by simp)
  refine ⟨by kernel_rfl,fnVC_go (rs:=[.cell 2 116]) rfl rfl ?_⟩
  simp only [go_sem,c103,c180,c47]
  simp only [forall_eq]
  exact ⟨h_0,rg_inR (ftV_rg _),rg_inR (ftV_rg _),h_1,rg_inR (ftV_rg _),rg_inR (ftV_rg _),rfl⟩
 ·cases hc
theorem vfS_one {x y:Int} {e f:Bool}:vfS 1 (rowsOf 4 [i64 x,bo e,i64 y,bo f]) = (whF x e || whF y f):=by
 unfold vfS anyB anyB
 rw [Bool.false_or]; rfl
def c67:Con
 | [.agg [.v (.int .i64 x),.v (.bool e),.v (.int .i64 y),.v (.bool f)]] => some ([inR x,inR y],i64 (if (whF x e = true ∨ whF y f = true) ∨ (65536 < (nDot (x,e) (x,e) (y,f) (y,f)).1 - 4294967296 ∨ 65536 < 4294967296 - (nDot (x,e) (x,e) (y,f) (y,f)).1) then 3 else 0))
 | _ => none
theorem con67:ConOK Tryz.prog 67 c67:=ConOK.of (G:=[(128,c128),(129,c129)]) (H:=[]) (.cons con128 (.cons con129 .nil)) Tryz.func67 fun l ob r hc hob => by
 unfold c67 at hc
 split at hc
 ·rename_i x e y f
  cases hc
  have h_0:inR x:=hob _ (by simp)
  have h_1:inR y:=hob _ (by simp)
  refine ⟨by kernel_rfl,fnVC_go (rs:=[.tmp 2]) rfl rfl ?_⟩
  simp only [go_sem,c128,c129]
  simp only [forall_eq,vfS_one]
  have k0:0 ≤ (whV x * whV x + whV y * whV y).tdiv 4294967296:=Int.tdiv_nonneg (by have:=sq_nonneg (a:=whV x); have:=sq_nonneg (a:=whV y); omega) (by omega)
  have k1:0 ≤ ftV ((whV x * whV x + whV y * whV y).tdiv 4294967296) ∧ ftV ((whV x * whV x + whV y * whV y).tdiv 4294967296) ≤ 9223372036854775807:=by unfold ftV; (repeat' split) <;> omega
  have eD:(nDot (x,e) (x,e) (y,f) (y,f)).1 = ftV ((whV x * whV x + whV y * whV y).tdiv 4294967296):=rfl
  rw [eD]
  generalize ftV ((whV x * whV x + whV y * whV y).tdiv 4294967296) = n at *
  rw [wrap_in (x:=n - 4294967296) (by unfold inR; omega)]
  refine ⟨⟨h_0,h_1⟩,fun h => ?_,fun h => ⟨h_0,h_0,h_1,h_1,fun h2 => ?_,fun h2 => ?_⟩⟩
  ·rw [if_pos (.inl (by simpa using h))]
  ·rw [if_pos (.inr (by omega))]
  ·rw [if_neg (by
    rintro (k | k)
    ·have:(whF x e || whF y f) = true:=by simpa using k
     rw [h] at this; cases this
    ·omega)]
 ·cases hc
def k131:Con
 | [.agg [.v (.int .i64 x),.v (.bool e),.v (.int .i64 y),.v (.bool f)],.agg [.v (.int .i64 z),.v (.bool g),.v (.int .i64 t),.v (.bool h)]] => some ([inR x,inR y,inR z,inR t],veA (vApply ((x,e),(y,f)) ((z,g),(t,h))))
 | _ => none
theorem kon131:ConOK Tryz.prog 181 k131:=ConOK.of (G:=[(129,c129),(112,c112)]) (H:=[(1,⟨[(20,.slot 4)],[]⟩)]) (.cons con129 (.cons con112 .nil)) Tryz.func181 fun l ob r hc hob => by
 unfold k131 at hc
 split at hc
 ·rename_i x e y f z g t h
  cases hc
  have h_0:inR x:=hob _ (by simp)
  have h_1:inR y:=hob _ (by simp)
  have h_2:inR z:=hob _ (by simp)
  have h_3:inR t:=hob _ (by simp)
  refine ⟨by kernel_rfl,fnVC_go (rs:=[.cell 4 29]) rfl rfl ?_⟩
  simp only [go_sem,c129,c112]
  simp only [forall_eq]
  exact ⟨h_1,h_0,h_2,rg_inR (by have:=whV_rg h_1; unfold rg at *; omega),h_3,h_1,h_2,h_0,h_3,rfl⟩
 ·cases hc
def k62:Con
 | [.agg [.v (.int .i64 x),.v (.bool e),.v (.int .i64 y),.v (.bool f),.v (.int .i64 c),.v (.bool o),.v (.int .i64 s),.v (.bool p)],.agg [.v (.int .i64 z),.v (.bool g),.v (.int .i64 t),.v (.bool h)]] => some ([inR x,inR y,inR c,inR s,inR z,inR t],veA (vAdd ((x,e),(y,f)) (vApply ((c,o),(s,p)) ((z,g),(t,h)))))
 | _ => none
theorem kon62:ConOK Tryz.prog 124 k62:=ConOK.of (G:=[(43,k130),(181,k131)]) (H:=[(1,⟨[(8,.slot 4)],[]⟩)]) (.cons kon130 (.cons kon131 .nil)) Tryz.func124 fun l ob r hc hob => by
 unfold k62 at hc
 split at hc
 ·rename_i x e y f c o s p z g t h
  cases hc
  have h_0:inR x:=hob _ (by simp)
  have h_1:inR y:=hob _ (by simp)
  have h_2:inR c:=hob _ (by simp)
  have h_3:inR s:=hob _ (by simp)
  have h_4:inR z:=hob _ (by simp)
  have h_5:inR t:=hob _ (by simp)
  refine ⟨by kernel_rfl,fnVC_go (rs:=[.cell 4 29]) rfl rfl ?_⟩
  simp only [go_sem,k130,k131]
  exact ⟨h_2,h_3,h_4,h_5,⟨h_0,h_1⟩,rfl⟩
 ·cases hc
def alk (r r':AV):Prop:=∀ w ρ v,R w ρ r' v → R w ρ r v
theorem ConOK.goR {P:Program} {G:Ctx} {H:Hots} (hG:CtxOK P G) {f:FuncId} {fn:Func} (hf:P.funcs[f]? = some fn) {c:Con}
  (h:∀ es1 ob r,c es1 = some (ob,r) → (∀ p ∈ ob,p) → ∃ es,(∀ w I vs,Rs w (.ext I) es1 vs → Rs w (.ext I) es vs) ∧ funcOK P H fn es.length = true ∧ fnVC P G H fn es (alk r)):ConOK P f c:=by
 intro es0 ob r hc hob I w vs hI hRs
 obtain ⟨es,h0,h1,h2⟩:=h es0 ob r hc hob
 obtain ⟨k1,k2⟩:=fn_sound hG hf h1 h2 I w vs hI (h0 w I vs hRs)
 exact .inr ⟨k1,k2.mono fun e w' ⟨v,he,⟨r',hr,hR⟩,hb⟩ => ⟨v,he,hr _ _ _ hR,hb⟩⟩
theorem alk_refl {r:AV}:alk r r:=fun _ _ _ h => h
theorem alk_ro {n:Nat} {f g:Nat → List AV} (h:∀ i,i < n → g i = f i):alk (.ro n 2 f) (.ro n 2 g):=fun w ρ v hR => ro_alike h hR
theorem alk_nil {f:Nat → List AV}:alk (.ro 0 2 f) (.v (.slice none 0 0)):=fun w ρ v hR => by
 cases hR
 exact .ro 0 0 (Nat.le_refl _) (fun h => absurd h (by omega)) (fun h => absurd h (by omega)) (fun i h => absurd h (by omega)) (fun i k h => absurd h (by omega)) (fun i k c x h => absurd h (by omega))
def corN (k r w t:Int) (n:Nat) (X Y:Nat → Int):Nat:=if chkS k r w t n X Y = 0 then (if k = 2 then 4 else n) else 0
def corX (k w t:Int) (X:Nat → Int) (i:Nat):Int:=if k = 2 then (match i with | 0 => -w | 1 => w | 2 => w | _ => -w) else X i
def corY (k w t:Int) (Y:Nat → Int) (i:Nat):Int:=if k = 2 then (match i with | 0 => -t | 1 => -t | 2 => t | _ => t) else Y i
abbrev corA (k r w t:Int) (n:Nat) (X Y:Nat → Int):AV:=.ro (corN k r w t n X Y) 2 fun i => [i64 (corX k w t X i),i64 (corY k w t Y i)]
theorem chk_cases {k r w t:Int} {n:Nat} {X Y:Nat → Int} (h:chkS k r w t n X Y = 0):(k = 1 ∧ n = 0 ∧ 16 ≤ r ∧ r ≤ 4096) ∨ (k = 2 ∧ n = 0 ∧ 16 ≤ w ∧ w ≤ 4096 ∧ 16 ≤ t ∧ t ≤ 4096) ∨ (k = 3 ∧ 3 ≤ n ∧ n ≤ 8 ∧ r = 0 ∧ ∀ i,i < n → lo (X i) ∧ lo (Y i)):=by
 unfold chkS at h
 split at h
 ·rename_i h1
  split at h
  ·omega
  ·split at h
   ·exact .inl ⟨h1,by omega⟩
   ·omega
 ·split at h
  ·rename_i h1 h2
   split at h
   ·omega
   ·split at h
    ·exact .inr (.inl ⟨h2,by omega⟩)
    ·omega
  ·split at h
   ·rename_i h1 h2 h3
    split at h
    ·omega
    ·split at h
     ·rename_i h5 h6
      exact .inr (.inr ⟨h3,by omega,by omega,by omega,h6⟩)
     ·omega
   ·omega
theorem vc119 (k r w t:Int) (n:Nat) (X Y:Nat → Int) (hX:∀ i,i < n → inR (X i) ∧ inR (Y i)) (hn:n ≤ 9223372036854775806):fnVC Tryz.prog [(62,c62)] [] Tryz.f119 [shapeA k r w t n fun i => [i64 (X i),i64 (Y i)]] (alk (corA k r w t n X Y)):=by
 refine fnVC_go (rs:=[.tmp 2]) rfl rfl ?_
 have hg:spots n fun i => [i64 (X i),i64 (Y i)]:=fun i hi => ⟨rfl,hX i hi⟩
 have eX:gx (fun i => [i64 (X i),i64 (Y i)]) 0 = X:=rfl
 have eY:gx (fun i => [i64 (X i),i64 (Y i)]) 1 = Y:=rfl
 simp only [go_sem,c62,eX,eY]
 have hb:bytesT Tryz.prog 116 = 16:=by kernel_rfl
 rw [hb]
 simp only [forall_eq]
 refine ⟨hg,hn,fun h => ?_,fun h => ⟨fun h2 => ?_,fun h2 => ?_⟩⟩
 ·have:corN k r w t n X Y = 0:=if_neg (by simpa using h)
  unfold corA
  rw [this]
  exact alk_nil
 ·have hk:k = 2:=by simpa using h2
  have hc:chkS k r w t n X Y = 0:=by simpa using h
  have:corN k r w t n X Y = 4:=by unfold corN; rw [if_pos hc,if_pos hk]
  have hb:=chk_cases hc
  rw [wrap_in (x:=0 - w) (by unfold inR; omega),wrap_in (x:=0 - t) (by unfold inR; omega),Int.zero_sub,Int.zero_sub]
  unfold corA
  rw [this]
  refine alk_ro fun i hi => ?_
  unfold corX corY
  rw [if_pos hk,if_pos hk]
  match i with
  | 0 => rfl
  | 1 => rfl
  | 2 => rfl
  | 3 => rfl
  | j + 4 => omega
 ·have hk:¬ k = 2:=by simpa using h2
  have hc:chkS k r w t n X Y = 0:=by simpa using h
  have:corN k r w t n X Y = n:=by unfold corN; rw [if_pos hc,if_neg hk]
  have hb:=chk_cases hc
  unfold corA
  rw [this]
  refine ⟨fun i hi => by simp only [go_sem],by omega,by omega,?_⟩
  refine alk_ro fun i hi => ?_
  unfold corX corY
  rw [if_neg hk,if_neg hk]
def c119:Con
 | [.agg [.v (.int .i64 k),.v (.int .i64 r),.v (.int .i64 w),.v (.int .i64 t),.ro n 2 g]] => some ([spots n g,n ≤ 9223372036854775806],corA k r w t n (gx g 0) (gx g 1))
 | _ => none
theorem con119:ConOK Tryz.prog 119 c119:=ConOK.goR (G:=[(62,c62)]) (H:=[]) (.cons con62 .nil) Tryz.func119 fun l ob rr hc hob => by
 unfold c119 at hc
 split at hc
 ·rename_i k r w t n g
  cases hc
  have hs:spots n g:=hob _ (by simp)
  exact ⟨[shapeA k r w t n fun i => [i64 (gx g 0 i),i64 (gx g 1 i)]],fun w I vs h => Rs_one (Rs_shape hs) h,by kernel_rfl,vc119 k r w t n _ _ (fun i hi => (hs i hi).2) (hob _ (by simp))⟩
 ·cases hc
theorem alk_form {a b c d e p q:AV} (h:alk p q):alk (.tup [.agg [a,b,c,d,p],e]) (.tup [.agg [a,b,c,d,q],e]):=fun w ρ v hR => by
 cases hR with
 | tup hl hh =>
  refine .tup hl fun i x z h1 h2 => ?_
  match i with
  | 0 =>
   simp at h1; subst h1
   have:=hh 0 _ z rfl h2
   cases this with
   | agg hl' hh' =>
    refine .agg hl' fun j x y h3 h4 => ?_
    match j with
    | 0 => exact hh' 0 x y h3 h4
    | 1 => exact hh' 1 x y h3 h4
    | 2 => exact hh' 2 x y h3 h4
    | 3 => exact hh' 3 x y h3 h4
    | 4 =>
     simp at h3; subst h3
     exact h _ _ _ (hh' 4 _ y rfl h4)
    | m + 5 => simp at h3
  | 1 => exact hh 1 x z h1 h2
  | m + 2 => simp at h1
def rotS (x:Int) (e:Bool) (y:Int) (f:Bool):Int:=if (whF x e = true ∨ whF y f = true) ∨ (65536 < (nDot (x,e) (x,e) (y,f) (y,f)).1 - 4294967296 ∨ 65536 < 4294967296 - (nDot (x,e) (x,e) (y,f) (y,f)).1) then 3 else 0
def farB (a:Nb):Bool:=whF a.1 a.2 || decide (17592186044416 < ab (whV a.1))
def plErr (k r w t:Int) (n:Nat) (X Y:Nat → Int) (at' rot:V2):Int:=
 if chkS k r w t n X Y ≠ 0 then chkS k r w t n X Y else if rotS rot.1.1 rot.1.2 rot.2.1 rot.2.2 ≠ 0 then rotS rot.1.1 rot.1.2 rot.2.1 rot.2.2 else if farB at'.1 = true ∨ farB at'.2 = true then 3 else 0
def plPt (at' rot:V2) (x y:Int):V2:=vAdd at' (vApply rot (vLoc x y))
def plX (k w t:Int) (X Y:Nat → Int) (at' rot:V2) (i:Nat):Int:=spV (plPt at' rot (corX k w t X i) (corY k w t Y i)).1
def plY (k w t:Int) (X Y:Nat → Int) (at' rot:V2) (i:Nat):Int:=spV (plPt at' rot (corX k w t X i) (corY k w t Y i)).2
def plN (k r w t:Int) (n:Nat) (X Y:Nat → Int) (at' rot:V2):Nat:=if plErr k r w t n X Y at' rot = 0 then (if k = 1 then 0 else corN k r w t n X Y) else 0
def plK (k r w t:Int) (n:Nat) (X Y:Nat → Int) (at' rot:V2):Int:=if plErr k r w t n X Y at' rot = 0 then (if k = 1 then 1 else 2) else 0
def plC (k r w t:Int) (n:Nat) (X Y:Nat → Int) (at' rot:V2) (a:Nb):Int:=if plErr k r w t n X Y at' rot = 0 then spV a else 0
def plR (k r w t:Int) (n:Nat) (X Y:Nat → Int) (at' rot:V2):Int:=if plErr k r w t n X Y at' rot = 0 then r else 0
abbrev plA (k r w t:Int) (n:Nat) (X Y:Nat → Int) (at' rot:V2):AV:=
 .tup [formA (plK k r w t n X Y at' rot) (plC k r w t n X Y at' rot at'.1) (plC k r w t n X Y at' rot at'.2) (plR k r w t n X Y at' rot) (plN k r w t n X Y at' rot) fun i => [i64 (plX k w t X Y at' rot i),i64 (plY k w t X Y at' rot i)],i64 (plErr k r w t n X Y at' rot)]
abbrev poseA (at' rot:V2):AV:=.agg [i64 at'.1.1,bo at'.1.2,i64 at'.2.1,bo at'.2.2,i64 rot.1.1,bo rot.1.2,i64 rot.2.1,bo rot.2.2]
theorem vc65 (k r w t:Int) (n:Nat) (X Y:Nat → Int) (hX:∀ i,i < n → inR (X i) ∧ inR (Y i)) (hn:n ≤ 9223372036854775806) (at' rot:V2) (h0:inR at'.1.1) (h1:inR at'.2.1) (h2:inR rot.1.1) (h3:inR rot.2.1) :
  fnVC Tryz.prog [(62,c62),(67,c67),(122,c122),(123,c123),(119,c119),(124,k62),(125,c125)] [(9,⟨[(7,.made 6)],[]⟩),(15,⟨[(10,.slot 8)],[]⟩)] Tryz.f65 [shapeA k r w t n fun i => [i64 (X i),i64 (Y i)],poseA at' rot] (alk (plA k r w t n X Y at' rot)):=by
 refine fnVC_go (rs:=[.cell 4 122,.tmp 5]) rfl rfl ?_
 have hg:spots n fun i => [i64 (X i),i64 (Y i)]:=fun i hi => ⟨rfl,hX i hi⟩
 have eX:gx (fun i => [i64 (X i),i64 (Y i)]) 0 = X:=rfl
 have eY:gx (fun i => [i64 (X i),i64 (Y i)]) 1 = Y:=rfl
 simp only [go_sem,c62,c67,c122,c123,c119,eX,eY]
 simp only [forall_eq]
 have pos:∀ e:Int,plErr k r w t n X Y at' rot = e → e ≠ 0 → alk (plA k r w t n X Y at' rot) (.tup [.agg [i64 0,i64 0,i64 0,i64 0,.v (.slice none 0 0)],i64 e]):=fun e he hne => by
  subst he
  unfold plA formA
  have q:plN k r w t n X Y at' rot = 0:=if_neg hne
  rw [q,show plK k r w t n X Y at' rot = 0 from if_neg hne,show plC k r w t n X Y at' rot at'.1 = 0 from if_neg hne,show plC k r w t n X Y at' rot at'.2 = 0 from if_neg hne,show plR k r w t n X Y at' rot = 0 from if_neg hne]
  exact alk_form alk_nil
 refine ⟨hg,hn,fun h => ?_,fun h => ⟨h2,h3,fun h4 => ?_,fun h4 => ⟨h0,fun _ => h1,fun h5 => ?_,fun h5 => ⟨h0,h1,fun h6 => ⟨hg,hn,?_⟩,fun h6 => ?_⟩⟩⟩⟩
 ·have hne:chkS k r w t n X Y ≠ 0:=by simpa using h
  exact pos _ (by unfold plErr; rw [if_pos hne]) hne
 ·have hne:rotS rot.1.1 rot.1.2 rot.2.1 rot.2.2 ≠ 0:=bne_iff_ne.1 h4
  refine pos _ ?_ hne
  unfold plErr; rw [if_neg (by simpa using h),if_pos hne]; rfl
 ·refine pos _ ?_ (by omega)
  unfold plErr
  rw [if_neg (by simpa using h),if_neg (show ¬ rotS rot.1.1 rot.1.2 rot.2.1 rot.2.2 ≠ 0 from not_not_intro (bne_eq_false_iff_eq.1 h4)),if_pos]
  unfold farB
  rcases h5 with h5 | h5
  ·exact .inl (by rw [Bool.not_eq_false'] at h5; exact h5)
  ·exact .inr (by rw [Bool.not_eq_false'] at h5; exact h5)
 ·have he:plErr k r w t n X Y at' rot = 0:=by
   unfold plErr
   rw [if_neg (by simpa using h),if_neg (show ¬ rotS rot.1.1 rot.1.2 rot.2.1 rot.2.2 ≠ 0 from not_not_intro (bne_eq_false_iff_eq.1 h4)),if_neg]
   unfold farB
   rw [Bool.not_eq_true',Bool.not_eq_true'] at h5
   rintro (h7 | h7)
   ·rw [h5.1] at h7; cases h7
   ·rw [h5.2] at h7; cases h7
  have hk:¬ k = 1:=by simpa using h6
  have hc:chkS k r w t n X Y = 0:=by simpa using h
  have hcs:=chk_cases hc
  have hN:corN k r w t n X Y ≤ 8:=by unfold corN; rw [if_pos hc]; split <;> omega
  have hb:bytesT Tryz.prog 116 = 16:=by kernel_rfl
  have hx:∀ i,i < corN k r w t n X Y → inR (corX k w t X i) ∧ inR (corY k w t Y i):=fun i hi => by
   unfold corN at hi; rw [if_pos hc] at hi
   unfold corX corY
   split
   ·constructor <;> (split <;> (unfold inR; omega))
   ·rename_i h7
    rw [if_neg h7] at hi
    exact hX i hi
  generalize hM:corN k r w t n X Y = M at *
  refine loopN_go (fun (i:Nat) => i ≤ M) (fun i => M - i) (fun i => [(50,i64 i)]) (fun i => [(33,fam1 122 5 [i64 2,i64 (spV at'.1),i64 (spV at'.2),i64 r,.own 44 0 i 2] none),(44,famN i 2 116 (fun j => [i64 (plX k w t X Y at' rot j),i64 (plY k w t X Y at' rot j)]) none)]) [2,1,0] [51,52,53,10,54,55,56,57,58,59,60,61,62,63,64,50] 1 0 (by kernel_rfl) (Nat.zero_le _) ⟨[(44,none)],?_,?_,?_,?_⟩ ?_
  ·simp only [go_sem]
  ·simp only [go_sem]
  ·simp only [go_sem]
  ·simp [goodNames,asg]
  intro i hi
  simp only [go_sem,c123,c125,k62]
  have hb:bytesT Tryz.prog 116 = 16:=by kernel_rfl
  rw [hb]
  simp only [forall_eq]
  refine ⟨fun hin => ?_,fun hin => ?_⟩
  ·have hi':i < M:=by omega
   have hxi:=hx i hi'
   refine ⟨by omega,hin,hxi.1,hxi.2,h0,h1,h2,h3,rg_inR nRat_rg,rg_inR nRat_rg,by omega,by omega,i + 1,by omega,by omega,[(44,some 58)],?_⟩
   simp only [go_sem]
   refine ⟨by rw [wrap_in (by unfold inR; omega)]; rfl,fun j hj => ?_,by simp [goodNames,asg]⟩
   by_cases e:j < i
   ·rw [if_pos e]; simp only [go_sem]
   ·have e:j = i:=by omega
    subst e
    rw [if_neg (by omega),Nat.sub_self]
    simp only [Nat.zero_mul,go_sem]
    exact ⟨rfl,rfl⟩
  ·have e:i = M:=by omega
   subst e
   unfold plA formA
   rw [show plN k r w t n X Y at' rot = i by unfold plN; rw [if_pos he,if_neg hk,hM],show plK k r w t n X Y at' rot = 2 by unfold plK; rw [if_pos he,if_neg hk],show plC k r w t n X Y at' rot at'.1 = _ from if_pos he,show plC k r w t n X Y at' rot at'.2 = _ from if_pos he,show plR k r w t n X Y at' rot = r from if_pos he,he]
   exact alk_refl
 ·have he:plErr k r w t n X Y at' rot = 0:=by
   unfold plErr
   rw [if_neg (by simpa using h),if_neg (show ¬ rotS rot.1.1 rot.1.2 rot.2.1 rot.2.2 ≠ 0 from not_not_intro (bne_eq_false_iff_eq.1 h4)),if_neg]
   unfold farB
   rw [Bool.not_eq_true',Bool.not_eq_true'] at h5
   rintro (h7 | h7)
   ·rw [h5.1] at h7; cases h7
   ·rw [h5.2] at h7; cases h7
  have hk:k = 1:=by simpa using h6
  unfold plA formA
  rw [show plN k r w t n X Y at' rot = 0 by unfold plN; rw [if_pos he,if_pos hk],show plK k r w t n X Y at' rot = 1 by unfold plK; rw [if_pos he,if_pos hk],show plC k r w t n X Y at' rot at'.1 = _ from if_pos he,show plC k r w t n X Y at' rot at'.2 = _ from if_pos he,show plR k r w t n X Y at' rot = r from if_pos he,he]
  exact alk_form alk_nil
def c65:Con
 | [.agg [.v (.int .i64 k),.v (.int .i64 r),.v (.int .i64 w),.v (.int .i64 t),.ro n 2 g],.agg [.v (.int .i64 x),.v (.bool e),.v (.int .i64 y),.v (.bool f),.v (.int .i64 c),.v (.bool o),.v (.int .i64 s),.v (.bool p)]] => some ([spots n g,n ≤ 9223372036854775806,inR x,inR y,inR c,inR s],plA k r w t n (gx g 0) (gx g 1) ((x,e),(y,f)) ((c,o),(s,p)))
 | _ => none
theorem con65:ConOK Tryz.prog 65 c65:=ConOK.goR (G:=[(62,c62),(67,c67),(122,c122),(123,c123),(119,c119),(124,k62),(125,c125)]) (H:=[(9,⟨[(7,.made 6)],[]⟩),(15,⟨[(10,.slot 8)],[]⟩)]) (.cons con62 (.cons con67 (.cons con122 (.cons con123 (.cons con119 (.cons kon62 (.cons con125 .nil))))))) Tryz.func65 fun l ob rr hc hob => by
 unfold c65 at hc
 split at hc
 ·rename_i k r w t n g x e y f c o s p
  cases hc
  have hs:spots n g:=hob _ (by simp)
  refine ⟨[shapeA k r w t n fun i => [i64 (gx g 0 i),i64 (gx g 1 i)],poseA ((x,e),(y,f)) ((c,o),(s,p))],fun w I vs h => ?_,by kernel_rfl,vc65 k r w t n _ _ (fun i hi => (hs i hi).2) (hob _ (by simp)) ((x,e),(y,f)) ((c,o),(s,p)) (hob _ (by simp)) (hob _ (by simp)) (hob _ (by simp)) (hob _ (by simp))⟩
  obtain ⟨x,xs,rfl,h1,h2⟩:=h.inv
  exact .cons (Rs_shape hs _ h1) h2
 ·cases hc
theorem aEq27 {a0 b0:Int} {a1 b1:Bool}:aEq Tryz.prog 27 (.agg [i64 a0,bo a1]) (.agg [i64 b0,bo b1]) = some ((a0 == b0) && ((a1 == b1) && true)):=by kernel_rfl
theorem eq27 {xo yo:Operand} {neg:Bool} {a0 b0:Int} {a1 b1:Bool}:eqE Tryz.prog neg 27 xo yo (.agg [i64 a0,bo a1]) (.agg [i64 b0,bo b1]) = some ⟨[],.v (.bool (negV neg ((a0 == b0) && ((a1 == b1) && true)))),.none⟩:=eqE_agg aEq27
attribute [go_sem] eq27
theorem aEq29 {a0 b0:Int} {a1 b1:Bool} {a2 b2:Int} {a3 b3:Bool}:aEq Tryz.prog 29 (.agg [i64 a0,bo a1,i64 a2,bo a3]) (.agg [i64 b0,bo b1,i64 b2,bo b3]) = some (((a0 == b0) && ((a1 == b1) && true)) && (((a2 == b2) && ((a3 == b3) && true)) && true)):=by kernel_rfl
theorem eq29 {xo yo:Operand} {neg:Bool} {a0 b0:Int} {a1 b1:Bool} {a2 b2:Int} {a3 b3:Bool}:eqE Tryz.prog neg 29 xo yo (.agg [i64 a0,bo a1,i64 a2,bo a3]) (.agg [i64 b0,bo b1,i64 b2,bo b3]) = some ⟨[],.v (.bool (negV neg (((a0 == b0) && ((a1 == b1) && true)) && (((a2 == b2) && ((a3 == b3) && true)) && true)))),.none⟩:=eqE_agg aEq29
attribute [go_sem] eq29
theorem aEq310 {a0 b0:Bool} {a1 b1:Int} {a2 b2:Bool} {a3 b3:Int} {a4 b4:Bool} {a5 b5:Int} {a6 b6:Bool}:aEq Tryz.prog 310 (.agg [bo a0,i64 a1,bo a2,i64 a3,bo a4,i64 a5,bo a6]) (.agg [bo b0,i64 b1,bo b2,i64 b3,bo b4,i64 b5,bo b6]) = some ((a0 == b0) && (((a1 == b1) && ((a2 == b2) && true)) && ((((a3 == b3) && ((a4 == b4) && true)) && (((a5 == b5) && ((a6 == b6) && true)) && true)) && true))):=by kernel_rfl
theorem eq310 {xo yo:Operand} {neg:Bool} {a0 b0:Bool} {a1 b1:Int} {a2 b2:Bool} {a3 b3:Int} {a4 b4:Bool} {a5 b5:Int} {a6 b6:Bool}:eqE Tryz.prog neg 310 xo yo (.agg [bo a0,i64 a1,bo a2,i64 a3,bo a4,i64 a5,bo a6]) (.agg [bo b0,i64 b1,bo b2,i64 b3,bo b4,i64 b5,bo b6]) = some ⟨[],.v (.bool (negV neg ((a0 == b0) && (((a1 == b1) && ((a2 == b2) && true)) && ((((a3 == b3) && ((a4 == b4) && true)) && (((a5 == b5) && ((a6 == b6) && true)) && true)) && true))))),.none⟩:=eqE_agg aEq310
attribute [go_sem] eq310
theorem spV_inR {a:Nb}:inR (spV a):=by
 have:rg (whV (nMul a (nInt 256)).1):=whV_rg (rg_inR nMul_rg)
 unfold spV
 unfold rg at this
 unfold inR
 omega
theorem pl_spots {N:Nat} {k w t:Int} {X Y:Nat → Int} {at' rot:V2}:(spots N fun i => [i64 (plX k w t X Y at' rot i),i64 (plY k w t X Y at' rot i)]) = True:=eq_true fun i _ => ⟨rfl,spV_inR,spV_inR⟩
theorem plN_le {k r w t:Int} {n:Nat} {X Y:Nat → Int} {at' rot:V2}:plN k r w t n X Y at' rot ≤ 8:=by
 unfold plN
 split
 ·split
  ·omega
  ·unfold corN
   split
   ·rename_i h
    have:=chk_cases h
    split <;> omega
   ·omega
 ·omega
theorem plN_max {k r w t:Int} {n:Nat} {X Y:Nat → Int} {at' rot:V2}:(plN k r w t n X Y at' rot ≤ 9223372036854775806) = True:=eq_true (Nat.le_trans plN_le (by omega))
end Go.Ax
end