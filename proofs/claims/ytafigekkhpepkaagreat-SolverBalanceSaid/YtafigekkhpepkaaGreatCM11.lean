/-
  Corners with a margin stay convex when they are turned and rounded.
-/
import Derived.Test.YtafigekkhpepkaaGreatCM10
import Derived.ShutString
import Derived.ChangeOld
import Derived.Below
set_option linter.unusedVariables false
set_option linter.unusedSimpArgs false
section
set_option maxHeartbeats 4000000
set_option maxRecDepth 100000
namespace Go.Ax
open Go.Proofs Go.Proofs.Tryz
theorem abs_mul (x y:Int):ab (x * y) = ab x * ab y:=by rw [ab_natAbs,ab_natAbs,ab_natAbs,Int.natAbs_mul]; rfl
theorem rot_sum {c s:Int} (h:c * c + s * s≤18447025548686262272):ab c + ab s≤6442450944:=by
 refine Int.not_lt.1 fun hn => ?_
 have a1:=ab_nonneg c
 have a2:=ab_nonneg s
 have e1:ab c * ab c = c * c:=by rw [← abs_mul]; have:=sq0 c; unfold ab; rw [if_neg (by omega)]
 have e2:ab s * ab s = s * s:=by rw [← abs_mul]; have:=sq0 s; unfold ab; rw [if_neg (by omega)]
 have q:=sq0 (ab c - ab s)
 have w:6442450945 * 6442450945≤(ab c + ab s) * (ab c + ab s):=Int.mul_le_mul hn hn (by omega) (by omega)
 have e3:(ab c - ab s) * (ab c - ab s) = ab c * ab c - 2 * (ab c * ab s) + ab s * ab s:=by grind
 have e4:(ab c + ab s) * (ab c + ab s) = ab c * ab c + 2 * (ab c * ab s) + ab s * ab s:=by grind
 rw [e3] at q
 rw [e4] at w
 omega
theorem foRot_bd (u:Int):(foRot u).1.2 = false∧(foRot u).2.2 = false∧(-4294967296≤(foRot u).1.1∧(foRot u).1.1≤4294967296)∧(-4294967296≤(foRot u).2.1∧(foRot u).2.1≤4294967296) ∧
  18446708889337462784≤(foRot u).1.1 * (foRot u).1.1 + (foRot u).2.1 * (foRot u).2.1∧(foRot u).1.1 * (foRot u).1.1 + (foRot u).2.1 * (foRot u).2.1≤18446779258081640448:=by
 have hv:-1000000000000000≤u.tmod (8 * 4294967296)∧u.tmod (8 * 4294967296)≤1000000000000000:=by
  have h1:u.tmod (8 * 4294967296) < 8 * 4294967296:=Int.tmod_lt_of_pos u (by omega)
  have h2:-(8 * 4294967296) < u.tmod (8 * 4294967296):=Int.lt_tmod_of_pos u (by omega)
  omega
 unfold foRot
 dsimp only
 generalize u.tmod (8 * 4294967296) = v at *
 have hp:=@wpV_le v
 obtain ⟨q,q1,q2,q3,q4,q5⟩:=qt_pair hp
 have hc:=sq_circle q2 q1 q3 q5
 obtain ⟨s1,s2⟩:=snV_q hv
 obtain ⟨c1,c2⟩:=csV_q hv
 rw [s1,s2,c1,c2]
 generalize sq (qtV (wpV v)) 8 = S at *
 generalize sq (qtV (if 13493037704 < wpV v + 6746518852 then wpV v + 6746518852 - 26986075409 else wpV v + 6746518852)) 8 = C at *
 have hk:=cl_circle hc
 exact ⟨rfl,rfl,cl1_bd,cl1_bd,by omega,by omega⟩
theorem nRat_loc {x:Int} (h:lo x):nRat x 256 = (x * 16777216,false):=by
 unfold lo at h
 have e:(x * 4294967296).tdiv 256 = x * 16777216:=by
  rw [show x * 4294967296 = x * 16777216 * 256 by omega]
  exact Int.mul_tdiv_cancel _ (by decide)
 unfold nRat raV raF
 rw [if_neg (by decide),if_neg (by decide),e,ftV_of (by unfold rg; omega),ftF_of (by unfold rg; omega)]
 rfl
theorem nAdd_in {a b:Int} (ha:-4611686018427387903≤a∧a≤4611686018427387903) (hb:-4611686018427387903≤b∧b≤4611686018427387903):nAdd (a,false) (b,false) = (a + b,false):=by
 unfold nAdd
 dsimp only
 rw [whV_of (by unfold rg; omega),whV_of (by unfold rg; omega),whF_of (by unfold rg; omega),whF_of (by unfold rg; omega),ftV_of (by unfold rg; omega),ftF_of (by unfold rg; omega)]
 rfl
theorem nNeg_in {a:Int} (ha:-4611686018427387903≤a∧a≤4611686018427387903):nNeg (a,false) = (-a,false):=by
 unfold nNeg
 dsimp only
 rw [whV_of (by unfold rg; omega),whF_of (by unfold rg; omega)]
theorem nDot_loc {c s x y:Int} (hc:-4294967296≤c∧c≤4294967296) (hs:-4294967296≤s∧s≤4294967296) (hx:lo x) (hy:lo y) :
  ∃ t,nDot (c,false) (x * 16777216,false) (s,false) (y * 16777216,false) = (t,false)∧-256≤256 * t - (c * x + s * y)∧256 * t - (c * x + s * y)≤256∧-35184372088832≤c * x + s * y∧c * x + s * y≤35184372088832:=by
 have m1:=mul_bd (A:=4294967296) (B:=4096) (by omega) hc hx
 have m2:=mul_bd (A:=4294967296) (B:=4096) (by omega) hs hy
 have e:c * (x * 16777216) + s * (y * 16777216) = (c * x + s * y) * 16777216:=by rw [← Int.mul_assoc,← Int.mul_assoc,← Int.add_mul]
 have d:=td_err (x:=(c * x + s * y) * 16777216) (k:=4294967296) (by decide)
 refine ⟨((c * x + s * y) * 16777216).tdiv 4294967296,?_,by omega,by omega,by omega,by omega⟩
 unfold nDot
 dsimp only
 unfold lo at hx hy
 rw [whV_of (by unfold rg; omega),whV_of (by unfold rg; omega),whV_of (by unfold rg; omega),whV_of (by unfold rg; omega),whF_of (by unfold rg; omega),whF_of (by unfold rg; omega),whF_of (by unfold rg; omega),whF_of (by unfold rg; omega),e,
  ftV_of (by unfold rg; omega),ftF_of (by unfold rg; omega)]
 rfl
theorem spV_in {a:Int} (h:-18014398509481984≤a∧a≤18014398509481984):spV (a,false) = (a * 256 + 2147483648) / 4294967296:=by
 have e:nInt 256 = (1099511627776,false):=by decide
 have e2:(a * 1099511627776).tdiv 4294967296 = a * 256:=by
  rw [show a * 1099511627776 = a * 256 * 4294967296 by omega]
  exact Int.mul_tdiv_cancel _ (by decide)
 unfold spV nMul
 rw [e]
 dsimp only
 rw [whV_of (v:=a) (by unfold rg; omega),whV_of (v:=1099511627776) (by unfold rg; omega),e2,ftV_of (by unfold rg; omega),whV_of (by unfold rg; omega)]
theorem pl_err {ax ay c s x y:Int} (ha:-17592186044416≤ax∧ax≤17592186044416) (ha2:-17592186044416≤ay∧ay≤17592186044416) (hc:-4294967296≤c∧c≤4294967296) (hs:-4294967296≤s∧s≤4294967296) (hx:lo x) (hy:lo y) :
  (∃ d,4294967296 * spV (plPt ((ax,false),(ay,false)) ((c,false),(s,false)) x y).1 = 256 * ax + (c * x - s * y) + d∧ab d≤2147483904) ∧
  (∃ d,4294967296 * spV (plPt ((ax,false),(ay,false)) ((c,false),(s,false)) x y).2 = 256 * ay + (s * x + c * y) + d∧ab d≤2147483904):=by
 obtain ⟨t,h1,h2,h3,h4,h5⟩:=nDot_loc hc (s:=-s) (by omega) hx hy
 obtain ⟨t',k1,k2,k3,k4,k5⟩:=nDot_loc hs (s:=c) hc hx hy
 rw [Int.neg_mul] at h2 h3 h4 h5
 have e:plPt ((ax,false),(ay,false)) ((c,false),(s,false)) x y = ((ax + t,false),(ay + t',false)):=by
  unfold plPt vAdd vApply vLoc
  dsimp only
  rw [nRat_loc hx,nRat_loc hy,nNeg_in (by omega),h1,k1,nAdd_in (by omega) (by omega),nAdd_in (by omega) (by omega)]
 rw [e]
 dsimp only
 rw [spV_in (by omega),spV_in (by omega)]
 refine ⟨⟨4294967296 * (((ax + t) * 256 + 2147483648) / 4294967296) - (256 * ax + (c * x - s * y)),by omega,?_⟩,⟨4294967296 * (((ay + t') * 256 + 2147483648) / 4294967296) - (256 * ay + (s * x + c * y)),by omega,?_⟩⟩
 ·have:=Int.emod_nonneg ((ax + t) * 256 + 2147483648) (show (4294967296:Int)≠0 by decide)
  have:=Int.emod_lt_of_pos ((ax + t) * 256 + 2147483648) (show (0:Int) < 4294967296 by decide)
  have:=Int.emod_add_mul_ediv ((ax + t) * 256 + 2147483648) 4294967296
  unfold ab
  split <;> omega
 ·have:=Int.emod_nonneg ((ay + t') * 256 + 2147483648) (show (4294967296:Int)≠0 by decide)
  have:=Int.emod_lt_of_pos ((ay + t') * 256 + 2147483648) (show (0:Int) < 4294967296 by decide)
  have:=Int.emod_add_mul_ediv ((ay + t') * 256 + 2147483648) 4294967296
  unfold ab
  split <;> omega
end Go.Ax
end
section
set_option maxHeartbeats 4000000
set_option maxRecDepth 100000
namespace Go.Ax
open Go.Proofs Go.Proofs.Tryz
end Go.Ax
end
section
set_option maxHeartbeats 4000000
set_option maxRecDepth 100000
namespace Go.Ax
open Go.Proofs Go.Proofs.Tryz
end Go.Ax
end
section
set_option maxHeartbeats 4000000
set_option maxRecDepth 100000
namespace Go.Ax
open Go.Proofs Go.Proofs.Tryz
theorem rot_bd {c s x y B:Int} (h2:c * c + s * s≤18447025548686262272) (hB:0≤B) (hx:-B≤x∧x≤B) (hy:-B≤y∧y≤B):-(6442450944 * B)≤c * x - s * y∧c * x - s * y≤6442450944 * B:=by
 have hr:=rot_sum h2
 have a1:=ab_nonneg c
 have a2:=ab_nonneg s
 have l1:-ab c≤c∧c≤ab c:=by unfold ab; split <;> omega
 have l2:-ab s≤s∧s≤ab s:=by unfold ab; split <;> omega
 have m1:=mul_bd a1 l1 hx
 have m2:=mul_bd a2 l2 hy
 have e:(ab c + ab s) * B≤6442450944 * B:=Int.mul_le_mul_of_nonneg_right hr hB
 rw [Int.add_mul] at e
 omega
theorem rot_bd' {c s x y B:Int} (h2:c * c + s * s≤18447025548686262272) (hB:0≤B) (hx:-B≤x∧x≤B) (hy:-B≤y∧y≤B):-(6442450944 * B)≤s * x + c * y∧s * x + c * y≤6442450944 * B:=by
 have h:=@rot_bd s (-c) x y B (by rw [Int.neg_mul_neg]; omega) hB hx hy
 rw [Int.neg_mul] at h
 omega
theorem pl_near {n:Nat} {X Y:Nat→Int} {ax ay c s:Int} (hl:∀ i,i < n→lo (X i)∧lo (Y i)) (ha:-51539607552≤ax∧ax≤51539607552) (ha2:-51539607552≤ay∧ay≤51539607552)
  (hc:-4294967296≤c∧c≤4294967296) (hs:-4294967296≤s∧s≤4294967296) (h2:c * c + s * s≤18447025548686262272) {Z T:Nat→Int}
  (hZ:∀ i,i < n→Z i = spV (plPt ((ax,false),(ay,false)) ((c,false),(s,false)) (X i) (Y i)).1) (hT:∀ i,i < n→T i = spV (plPt ((ax,false),(ay,false)) ((c,false),(s,false)) (X i) (Y i)).2):sml n Z T∧wid n Z T:=by
 have hE:∀ i,i < n→(∃ d,4294967296 * Z i = 256 * ax + (c * X i - s * Y i) + d∧ab d≤2147483904)∧(∃ d,4294967296 * T i = 256 * ay + (s * X i + c * Y i) + d∧ab d≤2147483904):=fun i hi => by
  rw [hZ i hi,hT i hi]
  exact pl_err (by omega) (by omega) hc hs (hl i hi).1 (hl i hi).2
 have al:∀ d:Int,-ab d≤d∧d≤ab d:=fun d => by unfold ab; split <;> omega
 refine ⟨fun i hi => ?_,fun i hi j hj => ?_⟩
 ·obtain ⟨⟨d,q1,q2⟩,⟨g,q3,q4⟩⟩:=hE i hi
  obtain ⟨hx,hy⟩:=hl i hi
  unfold lo at hx hy
  have r1:=rot_bd (B:=4096) (x:=X i) (y:=Y i) h2 (by omega) (by omega) (by omega)
  have r2:=rot_bd' (B:=4096) (x:=X i) (y:=Y i) h2 (by omega) (by omega) (by omega)
  have a1:=al d
  have a2:=al g
  omega
 ·obtain ⟨⟨d,q1,q2⟩,⟨g,q3,q4⟩⟩:=hE i hi
  obtain ⟨⟨d',q5,q6⟩,⟨g',q7,q8⟩⟩:=hE j hj
  obtain ⟨hx,hy⟩:=hl i hi
  obtain ⟨hx',hy'⟩:=hl j hj
  unfold lo at hx hy hx' hy'
  have r1:=rot_bd (B:=8192) (x:=X j - X i) (y:=Y j - Y i) h2 (by omega) (by omega) (by omega)
  have r2:=rot_bd' (B:=8192) (x:=X j - X i) (y:=Y j - Y i) h2 (by omega) (by omega) (by omega)
  have e1:c * (X j - X i) - s * (Y j - Y i) = (c * X j - s * Y j) - (c * X i - s * Y i):=by grind
  have e2:s * (X j - X i) + c * (Y j - Y i) = (s * X j + c * Y j) - (s * X i + c * Y i):=by grind
  rw [e1] at r1
  rw [e2] at r2
  have a1:=al d
  have a2:=al g
  have a3:=al d'
  have a4:=al g'
  omega
theorem foAt_bd12 {x:Int}:-51539607552≤x.tmod (12 * 4294967296)∧x.tmod (12 * 4294967296)≤51539607552:=by
 have h1:x.tmod (12 * 4294967296) < 12 * 4294967296:=Int.tmod_lt_of_pos x (by omega)
 have h2:-(12 * 4294967296) < x.tmod (12 * 4294967296):=Int.lt_tmod_of_pos x (by omega)
 omega
theorem spV_bd12 {a:Int} (h:-51539607552≤a∧a≤51539607552):-12000≤spV (a,false)∧spV (a,false)≤12000:=by
 rw [spV_in (by omega)]
 omega
theorem mk_near {a b c x y u:Int}:nearF (plK (mkK a) (mkR a b) (mkH a b b) (mkH a b c) (mkN a) (mkX a b c) (mkY a b c) (foAt x y 12) (foRot u)) (plC (mkK a) (mkR a b) (mkH a b b) (mkH a b c) (mkN a) (mkX a b c) (mkY a b c) (foAt x y 12) (foRot u) (foAt x y 12).1) (plC (mkK a) (mkR a b) (mkH a b b) (mkH a b c) (mkN a) (mkX a b c) (mkY a b c) (foAt x y 12) (foRot u) (foAt x y 12).2)
   (plR (mkK a) (mkR a b) (mkH a b b) (mkH a b c) (mkN a) (mkX a b c) (mkY a b c) (foAt x y 12) (foRot u)) (plN (mkK a) (mkR a b) (mkH a b b) (mkH a b c) (mkN a) (mkX a b c) (mkY a b c) (foAt x y 12) (foRot u))
   (plX (mkK a) (mkH a b b) (mkH a b c) (mkX a b c) (mkY a b c) (foAt x y 12) (foRot u)) (plY (mkK a) (mkH a b b) (mkH a b c) (mkX a b c) (mkY a b c) (foAt x y 12) (foRot u)):=by
 have hp:=@mk_place a b c x y u 12 (by omega)
 have h1:=@foAt_bd12 x
 have h2:=@foAt_bd12 y
 have w1:=@mkW_bd b b
 unfold nearF plC plR plN
 rw [if_pos hp,if_pos hp,if_pos hp,if_pos hp]
 refine ⟨spV_bd12 h1,spV_bd12 h2,?_,?_⟩
 ·unfold mkR
  split <;> omega
 ·by_cases hk:mkK a = 1
  ·rw [if_pos hk]
   exact ⟨fun i hi => absurd hi (by omega),fun i hi => absurd hi (by omega)⟩
  ·rw [if_neg hk]
   obtain ⟨f1,f2,f3,f4,f5,f6⟩:=foRot_bd u
   have e:foRot u = (((foRot u).1.1,false),((foRot u).2.1,false)):=Prod.ext (Prod.ext rfl f1) (Prod.ext rfl f2)
   refine pl_near (ax:=x.tmod (12 * 4294967296)) (ay:=y.tmod (12 * 4294967296)) (c:=(foRot u).1.1) (s:=(foRot u).2.1) (fun i hi => cor_lo i hi) h1 h2 f3 f4 (by omega) (fun i hi => ?_) (fun i hi => ?_)
   ·show spV (plPt (foAt x y 12) (foRot u) _ _).1 = _
    rw [← e]; rfl
   ·show spV (plPt (foAt x y 12) (foRot u) _ _).2 = _
    rw [← e]; rfl
theorem hitT_ap {N:Nat} {B:Nat→Bd} {c:Ct} {j:Nat}:hitT N B c j = if apB N c.a c.b then (if j = c.b.toNat then (hitS (B c.a.toNat) (B c.b.toNat) c).b else if j = c.a.toNat then (hitS (B c.a.toNat) (B c.b.toNat) c).a else B j) else B j:=by
 unfold hitT
 split <;> rfl
def dis (c d:Ct):Prop:=c.a.toNat≠d.a.toNat∧c.a.toNat≠d.b.toNat∧c.b.toNat≠d.a.toNat∧c.b.toNat≠d.b.toNat
def thK (t:Th) (k:Int):Th:={ t with k:=k }
def midF (x y r:Int):Prop:=(-6000≤x∧x≤6000)∧(-6000≤y∧y≤6000)∧r≤6000
theorem mk_mid {a b c x y u:Int}:midF (plC (mkK a) (mkR a b) (mkH a b b) (mkH a b c) (mkN a) (mkX a b c) (mkY a b c) (foAt x y 12) (foRot u) (foAt x y 12).1) (plC (mkK a) (mkR a b) (mkH a b b) (mkH a b c) (mkN a) (mkX a b c) (mkY a b c) (foAt x y 12) (foRot u) (foAt x y 12).2)
   (plR (mkK a) (mkR a b) (mkH a b b) (mkH a b c) (mkN a) (mkX a b c) (mkY a b c) (foAt x y 12) (foRot u)):=by
 have hp:=@mk_place a b c x y u 12 (by omega)
 have h1:=@foAt_bd12 x
 have h2:=@foAt_bd12 y
 have w1:=@mkW_bd b b
 have q:∀ a:Int,-51539607552≤a∧a≤51539607552→-6000≤spV (a,false)∧spV (a,false)≤6000:=fun a h => by
  rw [spV_in (by omega)]
  omega
 unfold midF plC plR
 rw [if_pos hp,if_pos hp,if_pos hp]
 refine ⟨q _ h1,q _ h2,?_⟩
 unfold mkR
 split <;> omega
theorem box_lo {k x y r:Int} {n:Nat} {X Y:Nat→Int} (hc:checkS k x y r n X Y = 0) (hn:nearF k x y r n X Y) (hm:midF x y r) (q:Nat):-12000≤boxS k x y r n X Y q∧boxS k x y r n X Y q≤12000:=by
 have c:=check_1 hc
 obtain ⟨h1,h2,h3,h4,h5⟩:=hn
 obtain ⟨g1,g2,g3⟩:=hm
 by_cases hk:k = 1
 ·obtain ⟨r1,_,_,_⟩:=c.2.2.2.1 hk
  rw [boxS_disc hc hk]
  split <;> omega
 ·have g3:=(convexS_iff.1 (c.2.2.2.2 hk).2.2).1
  rw [boxS_poly hc hk]
  obtain ⟨j1,g1,e1⟩:=mnS_at (Z:=X) (n:=n) (by omega)
  obtain ⟨j2,g2,e2⟩:=mnS_at (Z:=Y) (n:=n) (by omega)
  obtain ⟨j3,g3,e3⟩:=mxS_at (Z:=X) (n:=n) (by omega)
  obtain ⟨j4,g4,e4⟩:=mxS_at (Z:=Y) (n:=n) (by omega)
  have b1:=h4 j1 g1
  have b2:=h4 j2 g2
  have b3:=h4 j3 g3
  have b4:=h4 j4 g4
  unfold bxS
  split <;> omega
def kTwoV:Con
 | [.agg [.v (.int .i64 x),.v (.bool e),.v (.int .i64 y),.v (.bool f)],.agg [.v (.int .i64 z),.v (.bool g),.v (.int .i64 u),.v (.bool h)]] => some ([inR x,inR y,inR z,inR u],veA (vAdd ((x,e),(y,f)) ((z,g),(u,h))))
 | _ => none
theorem konTwoV:ConOK prog 54 kTwoV:=ConOK.of (G:=[(86,k138)]) (H:=[]) (.cons kon138 .nil) func54 fun l ob rr hc hob => by
 unfold kTwoV at hc
 split at hc
 ·rename_i x e y f z g u h
  cases hc
  have h_0:=ob0 hob
  have h_1:=ob1 hob
  have h_2:=ob2 hob
  have h_3:=ob3 hob
  refine ⟨by kernel_rfl,fnVC_go (rs:=[.cell 4 26]) rfl rfl ?_⟩
  simp only [go_sem,k138,iMul,iDiv,iInt,iAdd,iSub,iRat,iDot,iHyp,iSq,iNeg,iPos,iAbs,iMx,iMn,iCl,iWh,iLoc1,iLoc2,iVAdd1,iVAdd2,iVSub1,iVSub2,iScale1,iScale2,iVDot,iVCross,iLen,iOf1,iOf2,iUnit1,iUnit2,h_0,h_1,h_2,h_3]
  rfl
 ·cases hc
def slowB (v:V2):Bool:=decide ((nAbs v.1).1 < 1099511627776) && decide ((nAbs v.2).1 < 1099511627776)
def kSlowV:Con
 | [.agg [.v (.int .i64 x),.v (.bool e),.v (.int .i64 y),.v (.bool f)]] => some ([inR x,inR y],bo (slowB ((x,e),(y,f))))
 | _ => none
theorem konSlowV:ConOK prog 56 kSlowV:=ConOK.of (G:=[(30,k45)]) (H:=[]) (.cons kon45 .nil) func56 fun l ob rr hc hob => by
 unfold kSlowV at hc
 split at hc
 ·rename_i x e y f
  cases hc
  have h_0:=ob0 hob
  have h_1:=ob1 hob
  refine ⟨by kernel_rfl,fnVC_go (rs:=[.tmp 2]) rfl rfl ?_⟩
  simp only [go_sem,k45,iMul,iDiv,iInt,iAdd,iSub,iRat,iDot,iHyp,iSq,iNeg,iPos,iAbs,iMx,iMn,iCl,iWh,iLoc1,iLoc2,iVAdd1,iVAdd2,iVSub1,iVSub2,iScale1,iScale2,iVDot,iVCross,iLen,iOf1,iOf2,iUnit1,iUnit2,h_0,h_1]
  exact ⟨fun _ => trivial,rfl⟩
 ·cases hc
def kBndW:Con:=cLw kBnd
theorem con49w:ConOK prog 49 kBndW:=con49.cLw
end Go.Ax
end
section
namespace Go.Ax
open Go.RowKit
section
variable {P:Program} {G:Ctx} {w0:Base} {w:World} {ρ:Env} {m:Mem} {D:Nat→Prop} {t:Slots} {nt:Nat} {ds:Frm} {a:Act} {n:Nat} {Q:Exit→Act→World→Prop} {H:Hots} {K:AEx→St→Prop} {s:St} {c:Code} {I:Nat→Prop}
def unseq:Nat→Code→List Code×Code
 | 0,c => ([],c)
 | k + 1,.seq a b => (a :: (unseq k b).1,(unseq k b).2)
 | _ + 1,c => ([],c)
theorem unseq_zero:unseq 0 c = ([],c):=(rfl)
theorem unseq_seq {k:Nat} {a b:Code}:unseq (k + 1) (.seq a b) = (a :: (unseq k b).1,(unseq k b).2):=(rfl)
def fold (l:List Code) (y:Code):Code:=l.foldr Code.seq y
theorem fold_nil {y:Code}:fold [] y = y:=(rfl)
theorem fold_cons {x:Code} {l:List Code} {y:Code}:fold (x :: l) y = .seq x (fold l y):=(rfl)
theorem unseq_eq:∀ (k:Nat) (c:Code),fold (unseq k c).1 (unseq k c).2 = c
 | 0,_ => rfl
 | k + 1,.seq a b => by
  show Code.seq a (fold (unseq k b).1 (unseq k b).2) = _
  rw [unseq_eq k b]
 | _ + 1,.skip => rfl
 | _ + 1,.region _ _ _ => rfl
 | k + 1,c => by
  cases c <;> first | rfl | (show Code.seq _ (fold (unseq k _).1 (unseq k _).2) = _; rw [unseq_eq k])
theorem cut_seq (hG:CtxOK P G) (hm:P.follows .mixedOrders = true) {y:Code}:∀ (l:List Code) (s:St) (ρ:Env) (a:Act) (w:World),l.all (codeOK H nt) = true→l.any ranges = false→awp P G H (fold l .skip) s K→(∀ x ∈ l,∀ k ∈ writes x,ds.W k) →
  SR w0 ρ s.t s.m (· < s.nx) nt ds a w →
  (∀ s' ρ' a' w',K .normal s'→SR w0 ρ' s'.t s'.m (· < s'.nx) nt ds a' w'→y.wpIn (Fw none) n P Q a' w') →
  (∀ e s' ρ' a' w',e≠.normal→K e s'→SR w0 ρ' s'.t s'.m (· < s'.nx) nt ds a' w'→Q (conc e) a' w')→(fold l y).wpIn (Fw none) n P Q a w
 | [],s,ρ,a,w,_,_,h,_,hs,hy,_ => hy s ρ a w h hs
 | x :: l,s,ρ,a,w,hok,hr,h,hW,hs,hy,hx => by
  simp only [List.all_cons,Bool.and_eq_true] at hok
  simp only [List.any_cons,Bool.or_eq_false_iff] at hr
  have h:awp P G H x s (seqK K fun s' => awp P G H (fold l .skip) s' K):=h
  refine wpIn_seq (pieceS hG hm hok.1 hr.1 h (hW x (by simp)) hs fun e s' ρ' a' w' k1 _ k3 => ?_)
  cases e with
  | normal => exact cut_seq hG hm l s' ρ' a' w' hok.2 hr.2 k1 (fun x hx => hW x (by simp [hx])) k3 hy hx
  | ret => exact hx .ret s' ρ' a' w' (by simp) k1 k3
  | exit j => exact hx (.exit j) s' ρ' a' w' (by simp) k1 k3
def cutK (P:Program) (G:Ctx) (H2:Hots) (rs:List ResultVar) (nt:Nat) (y:Code) (Kf:AV→Prop) (e:AEx) (s:St):Prop:=match e with
 | .normal => ∃ l2:Slots,(∀ p ∈ l2,pur 3 s.m (slot s.t p.1) = p.2)∧goC P G H2 (endR P rs Kf) y [] ⟨l2 ++ anyS (List.range nt),[],0⟩
 | .ret => endR P rs Kf .ret s
 | .exit _ => False
theorem cutK_normal {H2:Hots} {rs:List ResultVar} {y:Code} {Kf:AV→Prop} {nx:Nat}:cutK P G H2 rs nt y Kf .normal ⟨t,m,nx⟩ = (∃ l2:Slots,(∀ p ∈ l2,pur 3 m (slot t p.1) = p.2)∧goC P G H2 (endR P rs Kf) y [] ⟨l2 ++ anyS (List.range nt),[],0⟩):=(rfl)
theorem cutK_ret {H2:Hots} {rs:List ResultVar} {y:Code} {Kf:AV→Prop}:cutK P G H2 rs nt y Kf .ret s = endR P rs Kf .ret s:=(rfl)
def cutOK (P:Program) (H H2:Hots) (fn:Func) (c:Code) (j k:Nat):Bool:=
 P.follows .mixedOrders && !(fn.name == "runtime.NumGoroutine") && decide (k ≤ fn.ntmps) && (unseq j c).1.all (codeOK H fn.ntmps) && !(unseq j c).1.any ranges && codeOK H2 fn.ntmps (unseq j c).2 && !ranges (unseq j c).2
def cutVC (P:Program) (G:Ctx) (H H2:Hots) (fn:Func) (rs:List ResultVar) (j:Nat) (es:List AV) (Kf:AV→Prop):Prop:=match fn.body with
 | some c => cutOK P H H2 fn c j es.length = true∧goC P G H (cutK P G H2 rs fn.ntmps (unseq j c).2 Kf) (fold (unseq j c).1 .skip) [] ⟨argSlots 0 es,[],0⟩
 | none => False
theorem cutVC_go {fn:Func} {c x y:Code} {j k:Nat} {H2:Hots} {rs:List ResultVar} {es:List AV} {Kf:AV→Prop} (hb:fn.body = some c) (hk:fn.ntmps = k) (hok:cutOK P H H2 fn c j es.length = true) (hx:fold (unseq j c).1 .skip = x) (hy:(unseq j c).2 = y)
  (h:goC P G H (cutK P G H2 rs k y Kf) x [] ⟨argSlots 0 es,[],0⟩):cutVC P G H H2 fn rs j es Kf:=by
 subst hx hy hk
 unfold cutVC
 rw [hb]
 exact ⟨hok,h⟩
theorem fn_cut (hG:CtxOK P G) {f:FuncId} {fn:Func} (hf:P.funcs[f]? = some fn) (j:Nat) {H2:Hots} {rs:List ResultVar} (hrs:fn.results.toList = rs) {es:List AV} {Kf:AV→Prop} (hpl:∀ r,Kf r→plain 3 r = true) (h:cutVC P G H H2 fn rs j es Kf)
  (I:Nat→Prop) (w:World) (vs:List Value) (hI:∀ b,I b→b < w.heap.size) (hRs:Rs w (.ext I) es vs) :
  (callFunc f vs.toArray).run P w = .ok (.enter f vs.toArray) w∧Calls P f vs.toArray w fun e w' => ∃ v,e = .returned v∧(∃ r,Kf r∧R w' (.ext (New I w w')) r v)∧Below w.heap.size w w':=by
 unfold cutVC at h
 cases hb:fn.body with
 | none => rw [hb] at h; exact h.elim
 | some c =>
 rw [hb] at h
 dsimp only at h
 obtain ⟨hok,h⟩:=h
 unfold cutOK at hok
 simp only [Bool.and_eq_true,Bool.not_eq_true',decide_eq_true_eq] at hok
 obtain ⟨⟨⟨⟨⟨⟨hm,hname⟩,hsz⟩,hok1⟩,hr1⟩,hok2⟩,hr2⟩:=hok
 refine ⟨callFunc_enter hf hname hb _ _,callsIn_wide.1 (callsIn_of_wp_marks (n:=0) (F:=Fence.wide) hf hb trivial ?_)⟩
 have hlen:vs.length = es.length:=hRs.1
 have hnt:(vs.toArray ++ Array.replicate (fn.ntmps - vs.toArray.size) undef).size = fn.ntmps:=by simp; omega
 have hsl:∀ j,R w (.ext I) (slot (argSlots 0 es) j) ((vs.toArray ++ Array.replicate (fn.ntmps - vs.toArray.size) undef).getD j undef):=fun j => by
  rw [argSlots_get]
  split
  ·rename_i hj
   have hj':j < es.length:=by omega
   have hj2:j < vs.length:=by omega
   refine hRs.2 j _ _ ?_ ?_
   ·simp [List.getD,List.getElem?_eq_getElem hj']
   ·simp [Array.getD_eq_getD_getElem?,Array.getElem?_append,hj2]
  ·rename_i hj
   have hj2:vs.length≤j:=by omega
   have:(vs.toArray ++ Array.replicate (fn.ntmps - vs.toArray.size) undef).getD j undef = undef:=by
    rw [Array.getD_eq_getD_getElem?,Array.getElem?_append_right (by simpa using hj2),Array.getElem?_replicate]
    split <;> rfl
   rw [this]
   exact .v
 have fin:∀ {w1:Base} {ρ':Env} {s':St} {ds':Frm} {a':Act} {w':World} {e:AEx},e = .normal∨e = .ret→endR P rs Kf e s'→SR w1 ρ' s'.t s'.m (· < s'.nx) fn.ntmps ds' a' w'→ds'.ds = []→Below w.heap.size w w' →
   LeavesInM Fence.wide 0 P fn a'.tmps (fun e w' => ∃ v,e = .returned v∧(∃ r,Kf r∧R w' (.ext (New I w w')) r v)∧Below w.heap.size w w') a'.defers .returning w':=by
  intro w1 ρ' s' ds' a' w' e he hend k4 hd hbel
  have hend:=endR_sound hrs hend
  have hend:match resAll P s' fn.results.toList with
    | some (ob,a) => conj ob (Kf (pur 3 s'.m a))
    | none => False:=by
   rcases he with rfl | rfl <;> exact hend
  rw [k4.defers,hd]
  show ∃ v,(results fn a'.tmps).run P w' = .ok v w'∧_
  split at hend
  ·rename_i ob x hx
   obtain ⟨hob,hK⟩:=conj_iff.1 hend
   obtain ⟨v,h1,h2⟩:=resAll_sound k4 hx hob
   have h3:=pur_sound (J:=fun _ => True) k4.rel (fun _ _ => trivial) (fun _ _ _ => trivial) 3 _ _ h2
   exact ⟨v,h1,v,rfl,⟨_,hK,plain_sound 3 (hpl _ hK) h3⟩,hbel⟩
  ·exact hend.elim
 rw [show Code.wpIn _ _ _ c = Code.wpIn _ _ _ (fold (unseq j c).1 (unseq j c).2) from by rw [unseq_eq]]
 refine cut_seq (ds:=⟨[],fun _ => True,#[]⟩) (K:=cutK P G H2 rs fn.ntmps (unseq j c).2 Kf) hG hm (unseq j c).1 ⟨argSlots 0 es,[],0⟩ (.ext I) _ w hok1 hr1 h (fun _ _ _ _ => trivial) (SR.anew hI hsl hnt rfl (fun j hj => absurd trivial hj)) (fun s1 ρ1 a1 w1 k1 k3 => ?_) (fun e s1 ρ1 a1 w1 hne k1 k3 => ?_)
 ·obtain ⟨l2,hl2,h2⟩:=k1
  refine pieceI (I:=All w1) hG hm (l:=l2) (W:=writes (unseq j c).2) hok2 hr2 rfl h2 (fun b hb => hb) k3.size (fun p hp => ?_) fun e s' ρ' a' w' q1 q3 => ?_
  ·rw [← hl2 p hp]
   exact pur_sound k3.rel (fun b hb => (k3.rel.imm2 b hb).1) (fun b hb _ => hb) 3 _ _ (k3.slots p.1)
  ·have hb1:Below w.heap.size w w1:=k3.rel.below
   have hb2:Below w1.heap.size w1 w':=q3.rel.below
   have hd:a1.defers = []:=k3.defers
   cases e with
   | normal => exact fin (.inl rfl) q1 q3 hd (hb1.trans (hb2.mono hb1.size))
   | ret => exact fin (.inr rfl) q1 q3 hd (hb1.trans (hb2.mono hb1.size))
   | exit j => exact q1.elim
 ·cases e with
  | normal => exact absurd rfl hne
  | ret => exact fin (.inr rfl) k1 k3 rfl k3.rel.below
  | exit j => exact k1.elim
end
end Go.Ax
end
section
set_option maxHeartbeats 4000000
set_option maxRecDepth 100000
namespace Go.Ax
open Go.Proofs Go.Proofs.Tryz
def calB (b:Bd):Bd:={ b with v:=((b.v.1.1.tmod 8589934592,false),(b.v.2.1.tmod 8589934592,false)),w:=(b.w.1.tmod 2147483648,b.w.2) }
theorem tmod_bd {x k:Int} (hk:0 < k):-k < x.tmod k∧x.tmod k < k:=⟨Int.lt_tmod_of_pos x hk,Int.tmod_lt_of_pos x hk⟩
def tB (t v:Th):Th:={ v with a:=t.a,b:=t.b,c:=t.c,d:=t.d,k:=1 }
theorem mk_bal {t:Th} (hk:t.k = 1):∃ v1 v2 w p1 p2,Bal (mkWt t.a t.b t.c t.d 1).1.1 (mkWt t.a t.b t.c t.d 1).2.1 8589934592 68719476736 (calB (mkT t 12)) v1 v2 w p1 p2:=by
 have e:mkT t 12 = _:=mkB_eq (a:=t.a) (b:=t.b) (c:=t.c) (x:=t.x) (y:=t.y) (u:=t.u) (p:=t.p) (q:=t.q) (r:=t.r) (d:=t.d) (k:=t.k) (s:=12) (by omega)
 rw [hk] at e
 have h1:modS 1 4 = 1:=by decide
 have e1:mkV t.p t.q 1 = (nuN t.p 200,nuN t.q 200):=if_pos h1
 have e2:mkO t.r 1 = nuN t.r 60:=if_pos h1
 obtain ⟨⟨m1,m2,m3⟩,i1,i2,i3⟩:=@wg_ok t.a t.b t.c t.d 1 (by rw [h1]; decide)
 have hw:=@mk_wts t.a t.b t.c t.d 1 (by rw [h1]; decide)
 rw [e,e1,e2]
 have b1:=@tmod_bd (t.p.tmod (200 * 4294967296)) 8589934592 (by omega)
 have b2:=@tmod_bd (t.q.tmod (200 * 4294967296)) 8589934592 (by omega)
 have b3:=@tmod_bd (t.r.tmod (60 * 4294967296)) 2147483648 (by omega)
 have p1:=@foAt_bd12 t.x
 have p2:=@foAt_bd12 t.y
 refine ⟨(t.p.tmod (200 * 4294967296)).tmod 8589934592,(t.q.tmod (200 * 4294967296)).tmod 8589934592,(t.r.tmod (60 * 4294967296)).tmod 2147483648,t.x.tmod (12 * 4294967296),t.y.tmod (12 * 4294967296),⟨rfl,rfl,rfl,Prod.ext rfl m1,Prod.ext rfl i1,?_,?_,ab_iff.2 (by omega),ab_iff.2 (by omega),ab_iff.2 (by omega),?_,p1,p2⟩⟩
 ·show decide (modS 1 4 = 2∨modS 1 4 = 3) = false
  rw [h1]; rfl
 ·show decide (modS 1 4 = 3) = false
  rw [h1]; rfl
 ·have r1:=hw.r1
  have i0:=hw.i0
  generalize (t.r.tmod (60 * 4294967296)).tmod 2147483648 = w at *
  generalize (mkWt t.a t.b t.c t.d 1).1.1 = m at *
  generalize (mkWt t.a t.b t.c t.d 1).2.1 = i at *
  have s:=mul_bd (A:=2147483648) (B:=2147483648) (x:=w) (y:=w) (by omega) (by omega) (by omega)
  have s0:=sq0 w
  have h:=Int.mul_le_mul r1 s.2 s0 (by omega)
  omega
theorem mk_wt1 {t:Th}:Wts (mkWt t.a t.b t.c t.d 1).1.1 (mkWt t.a t.b t.c t.d 1).2.1:=mk_wts (by decide)
theorem mk_fN {t:Th} {k:Int}:∃ b,b = mkT (thK t k) 12∧nearF (fK b) (fCx b) (fCy b) (fR b) (fN b) (fX b) (fY b)∧midF (fCx b) (fCy b) (fR b):=by
 have e:mkT (thK t k) 12 = _:=mkB_eq (a:=t.a) (b:=t.b) (c:=t.c) (x:=t.x) (y:=t.y) (u:=t.u) (p:=t.p) (q:=t.q) (r:=t.r) (d:=t.d) (k:=k) (s:=12) (by omega)
 exact ⟨_,e.symm,mk_near,mk_mid⟩
theorem hvD {A B:Bd} {t v:Th} {k l:Int} (hA:mkT (thK t k) 12 = A) (hB:mkT (thK v l) 12 = B) (h:touB A B = true):(1≤(cntS A B 0 1).n∧(cntS A B 0 1).n≤2∧uv (cntS A B 0 1).nv)∧∀ i,i < (cntS A B 0 1).n→(((cntS A B 0 1).D i).2 = false∧0≤((cntS A B 0 1).D i).1∧((cntS A B 0 1).D i).1≤70368744177664) ∧
  gd ((cntS A B 0 1).P i).1 201326592000∧gd ((cntS A B 0 1).P i).2 201326592000:=by
 obtain ⟨b,e1,n1,m1⟩:=@mk_fN t k
 obtain ⟨b',e2,n2,m2⟩:=@mk_fN v l
 rw [hA] at e1
 rw [hB] at e2
 subst e1 e2
 obtain ⟨c1,c2,hap⟩:=of_decide_eq_true h
 obtain ⟨⟨T1,T2⟩,T3,T4⟩:=clip_tok c1 c2 hap n1 n2
 have l1:=box_lo c1 n1 m1
 have l2:=box_lo c2 n2 m2
 have o0:=l1 0
 have o1:=l1 1
 have o2:=l1 2
 have o3:=l1 3
 have p0:=l2 0
 have p1:=l2 1
 have p2:=l2 2
 have p3:=l2 3
 refine ⟨⟨T1,T2,T3⟩,fun i hi => ?_⟩
 obtain ⟨T5,T6,T7⟩:=T4 i hi
 exact ⟨T5,bt_gd T6 (by omega) (by omega),bt_gd T7 (by omega) (by omega)⟩
theorem cal_in {A:Bd} (h:inB A):inB (calB A):=by
 obtain ⟨p1,p2,p3,p4,p5,p6,p7,p8,p9,p10,p11,p12,p13,p14,p15,p16⟩:=h
 have b1:=@tmod_bd A.v.1.1 8589934592 (by omega)
 have b2:=@tmod_bd A.v.2.1 8589934592 (by omega)
 have b3:=@tmod_bd A.w.1 2147483648 (by omega)
 refine ⟨p1,p2,p3,p4,p5,p6,p7,p8,p9,?_,?_,?_,p13,p14,p15,p16⟩ <;> unfold inR calB <;> dsimp only <;> omega
def rodB (A B:Bd) (n:Int):Nat→Bd:=bndT 2 (bsD (ros2 A B)) 2 0 1 ((4294967296,false),(0,false)) ((0,false),(0,false)) (4294967296,false) (tiN n,false)
def pinB (A B:Bd) (n:Int):Nat→Bd:=bndT 2 (bsD (ros2 A B)) 3 1 0 ((0,false),(0,false)) ((0,false),(4294967296,false)) (0,false) (tiN n,false)
def sameV (a b c d:V2):Prop:=vAdd a b = vAdd c d
theorem slow_of {v:V2} (h1:rg v.1.1) (h2:rg v.2.1) (h:slowB v = true):slowV v:=by
 unfold slowB nAbs at h
 rw [Bool.and_eq_true,decide_eq_true_iff,decide_eq_true_iff] at h
 dsimp only at h
 rw [whV_of h1,whV_of h2] at h
 exact h
theorem lim_rg {x:Nb}:rg (limS x 256).1:=by
 unfold limS nCl
 rw [int_in (k:=-256) (by omega),int_in (k:=256) (by omega)]
 dsimp only
 rw [whV_of (v:=-256 * 4294967296) (by unfold rg; omega),whV_of (v:=256 * 4294967296) (by unfold rg; omega)]
 unfold rg
 omega
section
variable {m i C U C' U' v1 v2 w p1 p2 u1 u2 w' q1 q2:Int} {A B:Bd}
theorem same_opp (hw:Wts m i) (hC:C≤1099511627776) (hC':C'≤1099511627776) (ha:Bal m i C U A v1 v2 w p1 p2) (hb:Bal m i C' U' B u1 u2 w' q1 q2) {x y J K:V2} (h1:whV K.1.1 = -whV J.1.1) (h2:whV K.2.1 = -whV J.2.1)
  (s1:slowB (pshS A x J).v = true) (s2:slowB (pshS B y K).v = true):sameV (pshS A x J).v (pshS B y K).v A.v B.v:=by
 have r:∀ (D:Bd) (z L:V2),(∃ e f,(pshS D z L).v = (limS e 256,limS f 256))→rg (pshS D z L).v.1.1∧rg (pshS D z L).v.2.1:=fun D z L ⟨e,f,h⟩ => by rw [h]; exact ⟨lim_rg,lim_rg⟩
 have ra:=r A x J ⟨_,_,psh_v hw ha⟩
 have rb:=r B y K ⟨_,_,psh_v hw hb⟩
 have t1:=slow_of ra.1 ra.2 s1
 have t2:=slow_of rb.1 rb.2 s2
 obtain ⟨g1,g2,g3,g4,g5,g6⟩:=opp_bal hw hC hC' ha hb h1 h2 t1 t2
 have c1:=ab_iff.1 ha.c1
 have c2:=ab_iff.1 ha.c2
 have c3:=ab_iff.1 hb.c1
 have c4:=ab_iff.1 hb.c2
 have d1:=ab_iff.1 (Int.le_of_lt t1.1)
 have d2:=ab_iff.1 (Int.le_of_lt t1.2)
 have d3:=ab_iff.1 (Int.le_of_lt t2.1)
 have d4:=ab_iff.1 (Int.le_of_lt t2.2)
 have eA:(pshS A x J).v = (((pshS A x J).v.1.1,false),((pshS A x J).v.2.1,false)):=Prod.ext (Prod.ext rfl g3) (Prod.ext rfl g4)
 have eB:(pshS B y K).v = (((pshS B y K).v.1.1,false),((pshS B y K).v.2.1,false)):=Prod.ext (Prod.ext rfl g5) (Prod.ext rfl g6)
 unfold sameV
 rw [eA,eB,ha.ev,hb.ev]
 unfold vAdd
 dsimp only
 rw [addN_eq (by omega) (by omega),addN_eq (by omega) (by omega),addN_eq (by omega) (by omega),addN_eq (by omega) (by omega),g1,g2]
theorem rod_same (hw:Wts m i) (hC:C≤1099511627776) (hC':C'≤1099511627776) (ha:Bal m i C U A v1 v2 w p1 p2) (hb:Bal m i C' U' B u1 u2 w' q1 q2) {n:Int} (s1:slowB (rodB A B n 0).v = true) (s2:slowB (rodB A B n 1).v = true):sameV (rodB A B n 0).v (rodB A B n 1).v A.v B.v:=by
 unfold rodB bndT at s1 s2 ⊢
 split at s1
 ·rename_i hc
  rw [if_pos hc] at s2 ⊢
  rw [if_neg (by decide),if_pos rfl] at s1 s2 ⊢
  unfold rodT at s1 s2 ⊢
  split at s1
  ·rename_i hd
   rw [if_pos hd] at s2 ⊢
   obtain ⟨d,hdd⟩:∃ d,d = rodD (bsD (ros2 A B) (Int.toNat 0)) (bsD (ros2 A B) (Int.toNat 1)) ((4294967296,false),(0,false)) ((0,false),(0,false)) (4294967296,false) (nDiv (nRat 1 5) (tiN n,false)):=⟨_,rfl⟩
   rw [← hdd] at s1 s2 ⊢
   have rd:rg d.1:=by rw [hdd]; exact raV_rg
   have en:whV (nNeg d).1 = -whV d.1:=whV_neg (by rw [whV_of rd]; exact rd)
   refine same_opp hw hC hC' ha hb ?_ ?_ s1 s2
   ·show whV (nMul _ d).1 = -whV (nMul _ (nNeg d)).1
    rw [whV_of mul_rgN,whV_of mul_rgN,mul_opp' en,Int.neg_neg]
   ·show whV (nMul _ d).1 = -whV (nMul _ (nNeg d)).1
    rw [whV_of mul_rgN,whV_of mul_rgN,mul_opp' en,Int.neg_neg]
  ·rename_i hd
   rw [if_neg hd]
   rfl
 ·rename_i hc
  rw [if_neg hc]
  rfl
theorem mul_m1 {x:Nb} (h:inR x.1):whV (nMul x (nInt (-1))).1 = -whV x.1:=by
 have r:=whV_rg h
 have e:(nMul x (nInt (-1))).1 = -whV x.1:=by
  rw [int_in (k:=-1) (by omega)]
  show ftV ((whV x.1 * whV (-1 * 4294967296)).tdiv 4294967296) = _
  rw [whV_of (v:=-1 * 4294967296) (by unfold rg; omega),show whV x.1 * (-1 * 4294967296) = -(whV x.1) * 4294967296 by grind,Int.mul_tdiv_cancel _ (by decide)]
  exact ftV_of (by unfold rg at r ⊢; omega)
 rw [e]
 exact whV_neg r
theorem pin_same (hw:Wts m i) (hC:C≤1099511627776) (hC':C'≤1099511627776) (ha:Bal m i C U A v1 v2 w p1 p2) (hb:Bal m i C' U' B u1 u2 w' q1 q2) {n:Int} (s1:slowB (pinB A B n 0).v = true) (s2:slowB (pinB A B n 1).v = true):sameV (pinB A B n 0).v (pinB A B n 1).v A.v B.v:=by
 unfold pinB bndT at s1 s2 ⊢
 split at s1
 ·rename_i hc
  rw [if_pos hc] at s2 ⊢
  rw [if_neg (by decide),if_neg (by decide)] at s1 s2 ⊢
  unfold pinT at s1 s2 ⊢
  split at s1
  ·rename_i hd
   rw [if_pos hd] at s2 ⊢
   obtain ⟨J,hJ⟩:∃ J,J = pinI (bsD (ros2 A B) (Int.toNat 1)) (bsD (ros2 A B) (Int.toNat 0)) ((0,false),(0,false)) ((0,false),(4294967296,false)) (nDiv (nRat 1 5) (tiN n,false)):=⟨_,rfl⟩
   rw [← hJ] at s1 s2 ⊢
   have r1:inR J.2.1.1:=by rw [hJ]; exact of_eq_true iSo1
   have r2:inR J.2.2.1:=by rw [hJ]; exact of_eq_true iSo2
   exact same_opp hw hC hC' ha hb (J:=J.2) (K:=vScale J.2 (nInt (-1))) (mul_m1 r1) (mul_m1 r2) s1 s2
  ·rename_i hd
   rw [if_neg hd]
   rfl
 ·rename_i hc
  rw [if_neg hc]
  rfl
theorem hit_same (hw:Wts m i) (ha:Bal m i 8589934592 68719476736 A v1 v2 w p1 p2) (hb:Bal m i 8589934592 68719476736 B u1 u2 w' q1 q2) {c:Ct} (hn:c.n≤2) (hu:uv c.nv) (hP:∀ j,j < c.n→gd (c.P j).1 201326592000∧gd (c.P j).2 201326592000)
  (h0:c.p0.1 = 0∧c.r0.1 = 0∧c.p1.1 = 0∧c.r1.1 = 0) (hab:c.a = 0∧c.b = 1):sameV (hitT 2 (bsD (ros2 A B)) c 0).v (hitT 2 (bsD (ros2 A B)) c 1).v A.v B.v:=by
 obtain ⟨f1,f2,wa,wb,C,U,A',B',hC⟩:=hitS_bal hw ha hb hn hu hP h0
 have hap:apB 2 c.a c.b:=by rw [hab.1,hab.2]; unfold apB; decide
 have e0:hitT 2 (bsD (ros2 A B)) c 0 = (hitS A B c).a:=by rw [hitT_ap,if_pos hap,hab.1,hab.2]; rfl
 have e1:hitT 2 (bsD (ros2 A B)) c 1 = (hitS A B c).b:=by rw [hitT_ap,if_pos hap,hab.1,hab.2]; rfl
 have c1:=ab_iff.1 ha.c1
 have c2:=ab_iff.1 ha.c2
 have c3:=ab_iff.1 hb.c1
 have c4:=ab_iff.1 hb.c2
 have d1:=ab_iff.1 A'.c1
 have d2:=ab_iff.1 A'.c2
 have d3:=ab_iff.1 B'.c1
 have d4:=ab_iff.1 B'.c2
 unfold sameV
 rw [e0,e1,A'.ev,B'.ev,ha.ev,hb.ev]
 unfold vAdd
 dsimp only
 rw [addN_eq (by omega) (by omega),addN_eq (by omega) (by omega),addN_eq (by omega) (by omega),addN_eq (by omega) (by omega)]
 rw [show v1 - f1 + (u1 + f1) = v1 + u1 by omega,show v2 - f2 + (u2 + f2) = v2 + u2 by omega]
theorem par_same (hw:Wts m i) (ha:Bal m i C U A v1 v2 w p1 p2) (hb:Bal m i C' U' B u1 u2 w' q1 q2) {c:Ct} (hn:c.n≠0) (hu:uv c.nv) (hD:∀ j,j < c.n→(c.D j).2 = false∧0≤(c.D j).1∧(c.D j).1≤70368744177664) (hab:c.a = 0∧c.b = 1) :
  sameV (parT 2 (bsD (ros2 A B)) c 0).pl (parT 2 (bsD (ros2 A B)) c 1).pl A.pl B.pl:=by
 have m0:=hw.m0
 have m1:=hw.m1
 have hap:apB 2 c.a c.b:=by rw [hab.1,hab.2]; unfold apB; decide
 have hs:(nAdd A.m B.m).1≠0:=by
  rw [ha.em,hb.em,addN_eq (by omega) (by omega)]
  dsimp only
  omega
 have hc:apB 2 c.a c.b∧c.n≠0∧(nAdd (bsD (ros2 A B) c.a.toNat).m (bsD (ros2 A B) c.b.toNat).m).1≠0:=⟨hap,hn,by rw [hab.1,hab.2]; exact hs⟩
 have e0:parT 2 (bsD (ros2 A B)) c 0 = parA A B c:=by unfold parT; rw [if_pos hc,hab.1,hab.2]; rfl
 have e1:parT 2 (bsD (ros2 A B)) c 1 = parB A B c:=by unfold parT; rw [if_pos hc,hab.1,hab.2]; rfl
 have h1:=ha.q1
 have h2:=ha.q2
 have h3:=hb.q1
 have h4:=hb.q2
 unfold sameV
 rw [e0,e1,par_bal hw ha hb hn hu hD,ha.ep,hb.ep]
 unfold vAdd
 dsimp only
 rw [addN_eq (by omega) (by omega),addN_eq (by omega) (by omega)]
end
theorem body_t13 {b:Bd}:List.take 4 (List.drop 13 (bodyC b)) = [i64 b.v.1.1,bo b.v.1.2,i64 b.v.2.1,bo b.v.2.2]:=(rfl)
theorem body_l13 {b:Bd}:(List.drop 13 (bodyC b)).length = 14:=(rfl)
theorem body_t5 {b:Bd}:List.take 4 (List.drop 5 (bodyC b)) = [i64 b.pl.1.1,bo b.pl.1.2,i64 b.pl.2.1,bo b.pl.2.2]:=(rfl)
theorem body_l5 {b:Bd}:(List.drop 5 (bodyC b)).length = 22:=(rfl)
theorem vb_end {A B:Bd} {n:Int} {Z:Slots} (iA:inB A∧A.n≤1000) (iB:inB B∧B.n≤1000) (hn:inR n)
  (hH:touB A B = true→sameV (hitT 2 (bsD (ros2 A B)) (cntS A B 0 1) 0).v (hitT 2 (bsD (ros2 A B)) (cntS A B 0 1) 1).v A.v B.v)
  (hP:touB A B = true→sameV (parT 2 (bsD (ros2 A B)) (cntS A B 0 1) 0).pl (parT 2 (bsD (ros2 A B)) (cntS A B 0 1) 1).pl A.pl B.pl)
  (hR:slowB (rodB A B n 0).v = true→slowB (rodB A B n 1).v = true→sameV (rodB A B n 0).v (rodB A B n 1).v A.v B.v)
  (hJ:slowB (pinB A B n 0).v = true→slowB (pinB A B n 1).v = true→sameV (pinB A B n 0).v (pinB A B n 1).v A.v B.v) :
  goC prog [(24,kb24),(53,c53),(54,kTwoV),(25,kCntW),(22,kHitW),(19,kParW),(48,kt48),(55,kw55),(49,kBndW),(56,kSlowV),(15,c15)] [(2,⟨[(13,.slot 4),(16,.slot 4),(19,.slot 4),(21,.slot 4)],[(5,[.slot 4]),(8,[.slot 4]),(10,[.slot 4])]⟩),(7,⟨[(23,.slot 7),(27,.slot 7)],[]⟩),(9,⟨[(22,.made 20),(23,.made 21)],[]⟩)] (endR prog [.tmp 6] (· = bo true)) (unseq 5 (Tryz.f10.body.getD .skip)).2 [] ⟨[(7,.ro 2 27 (ros2 A B)),(2,i64 n)] ++ Z,[],0⟩:=by
 simp only [Tryz.f10,Option.getD_some,unseq_seq,unseq_zero]
 have hti:=@tiN_bd n
 have hTi:inR (tiN n):=inRo (by omega)
 have e22:((2:Int) != 2) = false:=by decide
 obtain ⟨q1,q2⟩:=@cnt_in A B 0 1 (by unfold inR; decide) (by unfold inR; decide)
 obtain ⟨c,hc⟩:∃ c,cntS A B 0 1 = c:=⟨_,rfl⟩
 rw [hc] at q1 q2 hH hP
 have q3:c.n≤1000:=by omega
 have iAv:inR A.v.1.1∧inR A.v.2.1∧inR A.pl.1.1∧inR A.pl.2.1:=by
  obtain ⟨⟨p1,p2,p3,p4,p5,p6,p7,p8,p9,p10,p11,p12,p13,p14,p15,p16⟩,_⟩:=id iA
  exact ⟨p10,p11,p6,p7⟩
 have iBv:inR B.v.1.1∧inR B.v.2.1∧inR B.pl.1.1∧inR B.pl.2.1:=by
  obtain ⟨⟨p1,p2,p3,p4,p5,p6,p7,p8,p9,p10,p11,p12,p13,p14,p15,p16⟩,_⟩:=id iB
  exact ⟨p10,p11,p6,p7⟩
 have hB2:inBs 2 (bsD (ros2 A B)):=by rw [inBs_r2]; exact ⟨iA,iB⟩
 have vin:∀ b:Bd,inB b→inR b.v.1.1∧inR b.v.2.1∧inR b.pl.1.1∧inR b.pl.2.1:=fun b h => by
  obtain ⟨p1,p2,p3,p4,p5,p6,p7,p8,p9,p10,p11,p12,p13,p14,p15,p16⟩:=h
  exact ⟨p10,p11,p6,p7⟩
 have k0:inR 0:=by unfold inR; decide
 have k1:inR 4294967296:=by unfold inR; decide
 have h0:=fun j (hj:j < 2) => vin _ ((hitT_in hB2 q1) j hj).1
 have h1:=fun j (hj:j < 2) => vin _ ((par_in (c:=c) hB2) j hj).1
 have h2:=fun j (hj:j < 2) => vin _ ((bnd_in (k:=2) (a:=0) (b:=1) (pa:=((4294967296,false),(0,false))) (pb:=((0,false),(0,false))) (ln:=(4294967296,false)) (dt:=(tiN n,false)) hB2) j hj).1
 have h3:=fun j (hj:j < 2) => vin _ ((bnd_in (k:=3) (a:=1) (b:=0) (pa:=((0,false),(0,false))) (pb:=((0,false),(4294967296,false))) (ln:=(0,false)) (dt:=(tiN n,false)) hB2) j hj).1
 have h00:=h0 0 (by decide)
 have h01:=h0 1 (by decide)
 have h10:=h1 0 (by decide)
 have h11:=h1 1 (by decide)
 have h20:=h2 0 (by decide)
 have h21:=h2 1 (by decide)
 have h30:=h3 0 (by decide)
 have h31:=h3 1 (by decide)
 unfold sameV at hH hP hR hJ
 unfold rodB at hR
 unfold pinB at hJ
 by_cases ht:touB A B = true
 ·have eH:=hH ht
  have eP:=hP ht
  simp only [go_sem,kb24,c53,kTwoV,kCntW,kHitW,kParW,kt48,kw55,kBndW,kSlowV,c15,↓forall_eq,boA,cLw_eq,cL_eq,cB_eq,kCnt,kHit,kPar,kBnd,contD_C,hn,hTi,iA,iB,hc,ht,q1,q3,e22,body_t13,body_l13,body_t5,body_l5,iAv,iBv,eH,eP,h00,h01,h10,h11,h20,h21,h30,h31,k0,k1,beq_self_eq_true,Bool.and_self,Bool.not_true,Bool.not_false,Bool.or_false,Bool.false_or]
  generalize bndT 2 (bsD (ros2 A B)) 2 0 1 ((4294967296,false),0,false) ((0,false),0,false) (4294967296,false) (tiN n,false) = R at hR ⊢
  generalize bndT 2 (bsD (ros2 A B)) 3 1 0 ((0,false),0,false) ((0,false),4294967296,false) (0,false) (tiN n,false) = Q at hJ ⊢
  by_cases r0:slowB (R 0).v = true <;> by_cases r1:slowB (R 1).v = true <;> by_cases p0:slowB (Q 0).v = true <;> by_cases p1:slowB (Q 1).v = true <;>
   first
   | (have eR:=hR r0 r1; have eJ:=hJ p0 p1; simp [r0,r1,p0,p1,eR,eJ])
   | (have eR:=hR r0 r1; simp [r0,r1,p0,p1,eR])
   | (have eJ:=hJ p0 p1; simp [r0,r1,p0,p1,eJ])
   | simp [r0,r1,p0,p1]
 ·have ht':touB A B = false:=by simpa using ht
  simp only [go_sem,kb24,c53,kTwoV,kCntW,kHitW,kParW,kt48,kw55,kBndW,kSlowV,c15,↓forall_eq,boA,cLw_eq,cL_eq,cB_eq,kCnt,kHit,kPar,kBnd,contD_C,hn,hTi,iA,iB,hc,ht',q1,q3,e22,body_t13,body_l13,body_t5,body_l5,iAv,iBv,h00,h01,h10,h11,h20,h21,h30,h31,k0,k1,beq_self_eq_true,Bool.and_self,Bool.not_true,Bool.not_false,Bool.or_false,Bool.false_or]
  generalize bndT 2 (bsD (ros2 A B)) 2 0 1 ((4294967296,false),0,false) ((0,false),0,false) (4294967296,false) (tiN n,false) = R at hR ⊢
  generalize bndT 2 (bsD (ros2 A B)) 3 1 0 ((0,false),0,false) ((0,false),4294967296,false) (0,false) (tiN n,false) = Q at hJ ⊢
  by_cases r0:slowB (R 0).v = true <;> by_cases r1:slowB (R 1).v = true <;> by_cases p0:slowB (Q 0).v = true <;> by_cases p1:slowB (Q 1).v = true <;>
   first
   | (have eR:=hR r0 r1; have eJ:=hJ p0 p1; simp [r0,r1,p0,p1,eR,eJ])
   | (have eR:=hR r0 r1; simp [r0,r1,p0,p1,eR])
   | (have eJ:=hJ p0 p1; simp [r0,r1,p0,p1,eJ])
   | simp [r0,r1,p0,p1]
end Go.Ax
end
section
namespace Go.Ax
open Go.ChangeShapes Go.WideShapes Go.ChangeAt Go.RowKit
inductive ShV where
 | int (k:IntKind)
 | bool
 | agg (es:List Sh)
 | slice (sz:Nat) (es:List Sh)
def shV (P:Program) (t:TypeId):Option ShV:=
 match P.underlying t with
 | some .bool => some .bool
 | some (.int k) => some (.int k)
 | some (.slice _) => match shT P 9 t with
  | some [.slice sz es] => some (.slice sz es)
  | _ => none
 | some (.struct _) => (shT P 9 t).map .agg
 | some (.array _ _) => (shT P 9 t).map .agg
 | _ => none
def fitV:ShV→AV→Prop
 | .int k,a => ∃ n,a = .v (.int k n)∧(Lit.int k n).wf = true
 | .bool,a => ∃ b,a = .v (.bool b)
 | .agg es,a => ∃ l,a = .agg l∧fitS es l
 | .slice sz es,a => ∃ (n:Nat) (get:Nat→List AV),a = .ro n sz get∧n≤maxLen∧∀ i,fitS es (get i)
def shVs (P:Program):List TypeId→Option (List ShV)
 | [] => some []
 | t :: ts => match shV P t,shVs P ts with
  | some s,some r => some (s :: r)
  | _,_ => none
def fitVs:List ShV→List AV→Prop
 | [],l => l = []
 | s :: ss,l => ∃ a r,l = a :: r∧fitV s a∧fitVs ss r
section
variable {H:Type} {enc:TypeId×Value→H} {P:Program} {w:World} {spare:Nat→Bool} {held:Bool} {base:Nat}
theorem okWide_agg_struct {t:TypeId} {fs:Array Field} {v:Value} (ht:P.underlying t = some (.struct fs)) (h:Value.okWide P w .any base t v):∃ cs,v = .agg cs:=by
 obtain ⟨cs,h,_⟩:=okWide_struct ht h
 exact ⟨cs,h⟩
theorem trod_agg_array {t e:TypeId} {n:Nat} {v:Value} {x:DataW H} {ps:List MemPlace} (ht:P.underlying t = some (.array n e)) (h:Value.okWide P w .any base t v):∃ cs,v = .agg cs:=by
 cases v <;> simp [Value.okWide,Value.ok,ht] at h <;> exact ⟨_,rfl⟩
theorem arg_read {t:TypeId} {s:ShV} {v:Value} {x:DataW H} {ps:List MemPlace} (hs:shV P t = some s) (ho:Value.okWide P w .any base t v) (h:DataW.Trod enc P w 0 spare held t v x ps):∃ a,fitV s a∧R w (.ext (All w)) a v:=by
 unfold shV at hs
 split at hs
 ·rename_i hu
  cases hs
  obtain ⟨b,rfl⟩:=okWide_bool hu ho
  exact ⟨_,⟨b,rfl⟩,.v⟩
 ·rename_i k hu
  cases hs
  obtain ⟨n,rfl,_,_,hw⟩:=open_int hu ho h
  exact ⟨_,⟨n,rfl,hw⟩,.v⟩
 ·rename_i e hu
  split at hs
  ·rename_i sz es he
   cases hs
   obtain ⟨a,len,cap,rfl⟩:=okWide_slice hu ho
   obtain ⟨n,get,h1,h2,h3⟩:=slice_read he h
   exact ⟨_,⟨n,get,rfl,h1,h2⟩,h3⟩
  ·cases hs
 ·rename_i fs hu
  obtain ⟨es,he,rfl⟩:=Option.map_eq_some_iff.1 hs
  obtain ⟨cs,rfl⟩:=okWide_agg_struct hu ho
  obtain ⟨l,h1,h2⟩:=agg_read he h
  exact ⟨_,⟨l,rfl,h1⟩,h2⟩
 ·rename_i n e hu
  obtain ⟨es,he,rfl⟩:=Option.map_eq_some_iff.1 hs
  obtain ⟨cs,rfl⟩:=trod_agg_array (x:=x) (ps:=ps) hu ho
  obtain ⟨l,h1,h2⟩:=agg_read he h
  exact ⟨_,⟨l,rfl,h1⟩,h2⟩
 ·cases hs
theorem args_read:∀ {ts:List TypeId} {ss:List ShV} {vs:List Value} {ds:List (DataW H)} {ps:List MemPlace},shVs P ts = some ss→(∀ (j:Nat) t v,ts[j]? = some t→vs[j]? = some v→Value.okWide P w .any base t v) →
  DataW.TrodAll enc P w 0 spare held ts vs ds ps→∃ l,fitVs ss l∧Rs w (.ext (All w)) l vs
 | [],ss,vs,ds,ps,hs,ho,h => by
  simp only [shVs,Option.some.injEq] at hs
  subst hs
  obtain ⟨rfl,rfl,rfl⟩:=trodAll_nil h
  exact ⟨[],rfl,.nil⟩
 | t :: ts,ss,vs,ds,ps,hs,ho,h => by
  simp only [shVs] at hs
  split at hs
  ·rename_i s r h1 h2
   cases hs
   obtain ⟨v,vs',d,ds',p,q,rfl,rfl,rfl,h3,h4⟩:=trodAll_cons h
   obtain ⟨a,a1,a2⟩:=arg_read h1 (ho 0 t v rfl rfl) h3
   obtain ⟨l,b1,b2⟩:=args_read h2 (fun j t v hj hv => ho (j + 1) t v (by simpa using hj) (by simpa using hv)) h4
   exact ⟨a :: l,⟨a,l,rfl,a1,b1⟩,Rs.cons a2 b2⟩
  ·cases hs
def readOK (P:Program) (ts:List TypeId):Bool:=ts.all fun t => P.readableRec t && decide (t < P.types.size)
theorem args_stay {W W':World} (hl:laidOutB P = true) (hb:Below W.heap.size W W'):∀ {ts:List TypeId} {vs:List Value} {ds:List (DataW H)} {ps:List MemPlace},readOK P ts = true →
  DataW.TrodAll enc P W 0 (fun _ => true) true ts vs ds ps→∃ ps,DataW.TrodAll enc P W' 0 (fun b => decide (b < W.heap.size)) true ts vs ds ps
 | [],vs,ds,ps,_,h => by
  obtain ⟨rfl,rfl,rfl⟩:=trodAll_nil h
  exact ⟨[],rfl⟩
 | t :: ts,vs,ds,ps,hr,h => by
  obtain ⟨v,vs',d,ds',p,q,rfl,rfl,rfl,h3,h4⟩:=trodAll_cons h
  simp only [readOK,List.all_cons,Bool.and_eq_true,decide_eq_true_eq] at hr
  obtain ⟨q',h5⟩:=args_stay hl hb (by simpa [readOK] using hr.2) h4
  refine ⟨_,trodAll_cons_mk (Below.trod hl hr.1.1 hr.1.2 h3 hb ?_) h5⟩
  obtain ⟨m,hm⟩:=h3
  exact DataW.trod_lt m _ _ _ hm
end
end Go.Ax
end
section
set_option maxHeartbeats 4000000
set_option maxRecDepth 100000
namespace Go.Ax
open Go.Proofs Go.Proofs.Tryz
end Go.Ax
end