/-
  Rays and forms.
-/
import Derived.Test.YtlpbblcepjlfpaaGreatCM5
set_option linter.unusedVariables false
set_option linter.unusedSimpArgs false
section
set_option maxHeartbeats 4000000
set_option maxRecDepth 100000
namespace Go.Ax
open Go.Proofs
instance {x y r fx fy tx ty:Int}:Decidable (dmB x y r fx fy tx ty):=by unfold dmB; infer_instance
def dmH (x y r fx fy tx ty:Int):HitT:=if dmB x y r fx fy tx ty then hit0 else (true,dmT (fx - x) (fy - y) (tx - fx) (ty - fy) r,dmN (fx - x) (fy - y) (tx - fx) (ty - fy) r)
def k249:Con
 | [.agg [.v (.int .i64 x),.v (.int .i64 y),.v (.int .i64 r)],.agg [.v (.int .i64 a),.v (.int .i64 b)],.agg [.v (.int .i64 c),.v (.int .i64 d)]] => some ([validS x y = true,sm r,validS a b = true,validS c d = true],hitA (dmH x y r a b c d))
 | _ => none
theorem kon249:ConOK Tryz.prog 234 k249:=ConOK.of (G:=[(104,c104),(105,c105),(233,c233),(185,c185),(47,k63),(113,k162),(109,k165),(235,k250),(95,k129),(112,k160),(111,k167),(236,k251),(126,k178),(127,k179),(114,k161),(115,k168),(93,k127),(118,k171),(116,k169),(96,k130)]) (H:=[(1,⟨[(9,.made 7),(10,.made 8)],[]⟩),(8,⟨[(10,.made 7),(11,.made 8),(12,.made 9)],[]⟩),(11,⟨[(10,.made 9)],[]⟩),(12,⟨[(10,.made 9)],[]⟩),(13,⟨[(4,.slot 18)],[]⟩),(14,⟨[(11,.made 10)],[]⟩)]) (.cons con104 (.cons con105 (.cons con233 (.cons con185 (.cons kon63 (.cons kon162 (.cons kon165 (.cons kon250 (.cons kon129 (.cons kon160 (.cons kon167 (.cons kon251 (.cons kon178 (.cons kon179 (.cons kon161 (.cons kon168 (.cons kon127 (.cons kon171 (.cons kon169 (.cons kon130 .nil)))))))))))))))))))) Tryz.func234 fun l ob r hc hob => by
 unfold k249 at hc
 split at hc
 ·rename_i x y r a b c d
  cases hc
  have h_0:validS x y = true:=hob _ (by simp)
  have h_1:sm r:=hob _ (by simp)
  have h_2:validS a b = true:=hob _ (by simp)
  have h_3:validS c d = true:=hob _ (by simp)
  refine ⟨by kernel_rfl,fnVC_go (rs:=[.cell 6 80]) rfl rfl ?_⟩
  simp only [go_sem,c104,c105,c233,c185,k63,k162,k165,k250,k129,k160,k167,k251,k178,k179,k161,k168,k127,k171,k169,k130]
  have v0:=validS_iff.1 h_0
  have v2:=validS_iff.1 h_2
  have v3:=validS_iff.1 h_3
  have hrs:sm r:=h_1
  have s1:sm (a - x):=by unfold sm; omega
  have s2:sm (b - y):=by unfold sm; omega
  have s3:sm (c - a):=by unfold sm; omega
  have s4:sm (d - b):=by unfold sm; omega
  have q1:=sm_mul s1 s3
  have q2:=sm_mul s2 s4
  have q3:=sm_mul s3 s3
  have q4:=sm_mul s4 s4
  have q5:=sm_mul s1 s1
  have q6:=sm_mul s2 s2
  have q7:=sm_mul hrs hrs
  unfold sm at s1 s2 s3 s4 hrs
  have w1:IntKind.i64.wrap (a - x) = a - x:=wrap_in (by unfold inR; omega)
  have w2:IntKind.i64.wrap (b - y) = b - y:=wrap_in (by unfold inR; omega)
  have w3:IntKind.i64.wrap (c - a) = c - a:=wrap_in (by unfold inR; omega)
  have w4:IntKind.i64.wrap (d - b) = d - b:=wrap_in (by unfold inR; omega)
  have t1:IntKind.i64.wrap ((a - x) * (c - a)) = (a - x) * (c - a):=wrap_in (by unfold inR; omega)
  have t2:IntKind.i64.wrap ((b - y) * (d - b)) = (b - y) * (d - b):=wrap_in (by unfold inR; omega)
  have t3:IntKind.i64.wrap ((c - a) * (c - a)) = (c - a) * (c - a):=wrap_in (by unfold inR; omega)
  have t4:IntKind.i64.wrap ((d - b) * (d - b)) = (d - b) * (d - b):=wrap_in (by unfold inR; omega)
  have t5:IntKind.i64.wrap ((a - x) * (a - x)) = (a - x) * (a - x):=wrap_in (by unfold inR; omega)
  have t6:IntKind.i64.wrap ((b - y) * (b - y)) = (b - y) * (b - y):=wrap_in (by unfold inR; omega)
  have t7:IntKind.i64.wrap (r * r) = r * r:=wrap_in (by unfold inR; omega)
  have u1:IntKind.i64.wrap ((a - x) * (c - a) + (b - y) * (d - b)) = (a - x) * (c - a) + (b - y) * (d - b):=wrap_in (by unfold inR; omega)
  have u2:IntKind.i64.wrap ((c - a) * (c - a) + (d - b) * (d - b)) = (c - a) * (c - a) + (d - b) * (d - b):=wrap_in (by unfold inR; omega)
  have u3:IntKind.i64.wrap ((a - x) * (a - x) + (b - y) * (b - y)) = (a - x) * (a - x) + (b - y) * (b - y):=wrap_in (by unfold inR; omega)
  have u4:IntKind.i64.wrap (0 - ((a - x) * (c - a) + (b - y) * (d - b))) = -((a - x) * (c - a) + (b - y) * (d - b)):=by rw [wrap_in (by unfold inR; omega)]; omega
  have u5:IntKind.i64.wrap ((a - x) * (a - x) + (b - y) * (b - y) - r * r) = (a - x) * (a - x) + (b - y) * (b - y) - r * r:=wrap_in (by unfold inR; omega)
  intro z hz z1 hz1 z2 hz2 z3 hz3
  rw [w3] at hz; rw [w4] at hz1; rw [w1] at hz2; rw [w2] at hz3
  subst hz hz1 hz2 hz3
  intro z4 hz4 z5 hz5 z6 hz6
  rw [t3,t4,u2] at hz4
  rw [t1,t2,u1] at hz5
  have hc:∀ p q:Int,cmpS p q < 0 ↔ p < q:=fun p q => by
   unfold cmpS; split
   ·omega
   ·split <;> omega
  have hyes:¬ dmB x y r a b c d → dmH x y r a b c d = (true,dmT (a - x) (b - y) (c - a) (d - b) r,dmN (a - x) (b - y) (c - a) (d - b) r):=fun h => by unfold dmH; rw [if_neg h]
  have hno:dmB x y r a b c d → dmH x y r a b c d = hit0:=fun h => by unfold dmH; rw [if_pos h]
  unfold dmB at hyes hno
  refine ⟨h_0,h_3,h_1,fun h1 z7 hz7 => ⟨fun h2 => ?_,fun h2 z8 hz8 z9 hz9 z10 hz10 z11 hz11 => ?_⟩,fun h1 => ?_⟩
  ·rw [hz5,u4] at hz7
   rw [hz7,hz5,hz4] at h2
   rw [hno ⟨by rw [hz6] at h1; exact of_decide_eq_false h1,.inl h2⟩]; rfl
  ·rw [hz5,u4] at hz7
   rw [t5,t6,u3] at hz8
   rw [t7] at hz9
   rw [hz8,hz9,u5] at hz10
   have i4:inR z4:=by unfold inR; omega
   have i5:inR z5:=by unfold inR; omega
   have i10:inR z10:=by unfold inR; omega
   refine ⟨i5,i5,i4,i10,fun h3 => ?_,fun h3 => ⟨by unfold inR; omega,by unfold inR; omega,by unfold inR; omega,by unfold inR; omega,by unfold inR; omega,?_⟩⟩
   ·rw [hz11,hc,hz10,hz5,hz4] at h3
    rw [hno ⟨by rw [hz6] at h1; exact of_decide_eq_false h1,.inr h3⟩]; rfl
   ·rw [hz11,hc,hz10,hz5,hz4] at h3
    rw [hz7,hz5,hz4] at h2
    rw [hyes (by
     rintro ⟨_,(k | k) | k⟩
     ·exact h2.1 k
     ·exact h2.2 k
     ·exact h3 k)]
    rfl
  ·have hin:dist2 x y c d ≤ r * r:=by rw [hz6] at h1; exact of_decide_eq_true h1
   refine ⟨by unfold inR; omega,by unfold inR; omega,by unfold inR; omega,by unfold inR; omega,by unfold inR; omega,?_⟩
   rw [hyes (fun k => k.1 hin)]
   rfl
 ·cases hc
def castS (k x y r:Int) (n:Nat) (X Y:Nat → Int) (fx fy tx ty:Int):HitT:=
 if checkS k x y r n X Y = 0 ∧ validS fx fy = true ∧ validS tx ty = true then
  (if holdsS k x y r n X Y fx fy = true then (true,(0,false),((0,false),(0,false))) else if k = 1 then dmH x y r fx fy tx ty else plH n X Y fx fy tx ty) else hit0
theorem fair2r {a b c d:Int}:fairS 2 (gx (rowsOf 2 [i64 a,i64 b,i64 c,i64 d]) 0) (gx (rowsOf 2 [i64 a,i64 b,i64 c,i64 d]) 1) = (validS a b && validS c d):=fair2 rfl rfl
def c36:Con
 | [.agg [.v (.int .i64 k),.v (.int .i64 x),.v (.int .i64 y),.v (.int .i64 r),.ro n 2 g],.agg [.v (.int .i64 a),.v (.int .i64 b)],.agg [.v (.int .i64 c),.v (.int .i64 d)]] => some ([spots n g,n ≤ 9223372036854775806,inR x,inR y,inR r,inR a,inR b,inR c,inR d],hitA (castS k x y r n (gx g 0) (gx g 1) a b c d))
 | _ => none
theorem con36:ConOK Tryz.prog 36 c36:=ConOK.of (G:=[(53,c53),(50,c50),(106,c106),(233,c233),(238,c238),(234,k249)]) (H:=[]) (.cons con53 (.cons con50 (.cons con106 (.cons con233 (.cons con238 (.cons kon249 .nil)))))) Tryz.func36 fun l ob r hc hob => by
 unfold c36 at hc
 split at hc
 ·rename_i k x y r n g a b c d
  cases hc
  have h_0:spots n g:=hob _ (by simp)
  have h_1:n ≤ 9223372036854775806:=hob _ (by simp)
  have h_2:inR x:=hob _ (by simp)
  have h_3:inR y:=hob _ (by simp)
  have h_4:inR r:=hob _ (by simp)
  have h_5:inR a:=hob _ (by simp)
  have h_6:inR b:=hob _ (by simp)
  have h_7:inR c:=hob _ (by simp)
  have h_8:inR d:=hob _ (by simp)
  refine ⟨by kernel_rfl,fnVC_go (rs:=[.cell 6 80]) rfl rfl ?_⟩
  simp only [go_sem,c53,c50,c106,c233,c238,k249]
  have hsp:spots 2 (rowsOf 2 [i64 a,i64 b,i64 c,i64 d]):=spots2 rfl rfl h_5 h_6 h_7 h_8
  have hfa:=fair2r (a:=a) (b:=b) (c:=c) (d:=d)
  rw [hfa]
  have cno:¬ (checkS k x y r n (gx g 0) (gx g 1) = 0 ∧ validS a b = true ∧ validS c d = true) → castS k x y r n (gx g 0) (gx g 1) a b c d = hit0:=fun h => by unfold castS; rw [if_neg h]
  have cin:checkS k x y r n (gx g 0) (gx g 1) = 0 ∧ validS a b = true ∧ validS c d = true → holdsS k x y r n (gx g 0) (gx g 1) a b = true → castS k x y r n (gx g 0) (gx g 1) a b c d = (true,(0,false),((0,false),(0,false))):=fun h h2 => by unfold castS; rw [if_pos h,if_pos h2]
  have cout:checkS k x y r n (gx g 0) (gx g 1) = 0 ∧ validS a b = true ∧ validS c d = true → ¬ holdsS k x y r n (gx g 0) (gx g 1) a b = true → castS k x y r n (gx g 0) (gx g 1) a b c d = if k = 1 then dmH x y r a b c d else plH n (gx g 0) (gx g 1) a b c d:=fun h h2 => by unfold castS; rw [if_pos h,if_neg h2]
  refine ⟨fun hc => ?_,fun hc => ?_⟩
  ·obtain ⟨_,v1,v2,h1,h2⟩:=check_1 hc
   refine ⟨fun hk => ⟨h_0,h_1,h_2,h_3,h_4,fun z hz => ⟨fun _ => hsp,fun h => ?_,fun h z1 hz1 => ?_⟩⟩,fun hk => ⟨h_0,h_1,h_2,h_3,h_4,fun z hz => ⟨fun _ => hsp,fun h => ?_,fun h z1 hz1 => ?_⟩⟩⟩
   ·rw [cno (by
     rintro ⟨_,p,q⟩
     rw [p,q] at hz
     rcases h with h | h
     ·exact h
     ·rw [hz] at h; cases h)]; rfl
   ·have hv:validS a b = true ∧ validS c d = true:=by rw [hz] at h; simpa using h
    have hr:=h1 hk
    have eh:holdsS k x y r n (gx g 0) (gx g 1) a b = decide (dist2 x y a b ≤ r * r):=by unfold holdsS; rw [if_pos hk]
    refine ⟨v1,hv.1,by unfold sm; omega,fun hz2 => ?_,fun hz2 => ⟨v1,by unfold sm; omega,hv.1,hv.2,?_⟩⟩
    ·rw [cin ⟨hc,hv⟩ (by rw [eh,← hz1]; exact hz2)]; rfl
    ·rw [cout ⟨hc,hv⟩ (by rw [eh,← hz1,hz2]; simp),if_pos hk]; rfl
   ·rw [cno (by
     rintro ⟨_,p,q⟩
     rw [p,q] at hz
     rcases h with h | h
     ·exact h
     ·rw [hz] at h; cases h)]; rfl
   ·have hv:validS a b = true ∧ validS c d = true:=by rw [hz] at h; simpa using h
    have eh:holdsS k x y r n (gx g 0) (gx g 1) a b = inS n (gx g 0) (gx g 1) a b:=by unfold holdsS; rw [if_neg hk]
    refine ⟨h_0,h_1,v2,hv.1,fun hz2 => ?_,fun hz2 => ⟨h_0,h_1,v2,hv.1,hv.2,?_⟩⟩
    ·rw [cin ⟨hc,hv⟩ (by rw [eh,← hz1]; exact hz2)]; rfl
    ·rw [cout ⟨hc,hv⟩ (by rw [eh,← hz1,hz2]; simp),if_neg hk]; rfl
  ·rw [cno (fun h => hc h.1)]
   exact ⟨h_0,h_1,h_2,h_3,h_4,fun z hz => ⟨fun h => h.elim,fun _ => trivial,fun h => (by cases h),fun _ => rfl,fun h => (by cases h.1)⟩⟩
 ·cases hc
end Go.Ax
end
section
/-
  Rays and forms: the reference.
-/
set_option maxHeartbeats 4000000
set_option maxRecDepth 100000
namespace Go.Ax
open Go.Proofs
end Go.Ax
end
section
/-
  Shapes placed: the small parts.
-/
set_option maxHeartbeats 4000000
set_option maxRecDepth 100000
namespace Go.Ax
open Go.Proofs
def c43:Con
 | [.agg [.v (.int .i64 a),.v (.bool e)]] => some ([inR a],bo (! (whF a e || decide (17592186044416 < ab (whV a)))))
 | _ => none
theorem con43:ConOK Tryz.prog 43 c43:=ConOK.of (G:=[(92,c92),(93,c93),(87,c87)]) (H:=[]) (.cons con92 (.cons con93 (.cons con87 .nil))) Tryz.func43 fun l ob r hc hob => by
 unfold c43 at hc
 split at hc
 ·rename_i a e
  cases hc
  have h_0:inR a:=hob _ (by simp)
  refine ⟨by kernel_rfl,fnVC_go (rs:=[.tmp 2]) rfl rfl ?_⟩
  simp only [go_sem,c92,c93,c87]
  simp only [forall_eq]
  refine ⟨h_0,fun _ => by unfold inR; omega,?_⟩
  have e1:whV (ab (whV a)) = ab (whV a):=whV_of (by have:=whV_rg h_0; unfold rg at *; unfold ab; split <;> omega)
  have e2:whV (ftV (4096 * 4294967296)) = 17592186044416:=by decide
  rw [e1,e2,Bool.eq_iff_iff]
  simp [cmpS]
  intro _
  split
  ·simp; omega
  ·split
   ·simp; omega
   ·simp; omega
 ·cases hc
def c44:Con
 | [.agg [.v (.int .i64 a),.v (.bool e),.v (.int .i64 b),.v (.bool f)]] => some ([inR a,inR b],.agg [i64 (spV (a,e)),i64 (spV (b,f))])
 | _ => none
theorem con44:ConOK Tryz.prog 44 c44:=ConOK.of (G:=[(93,c93),(94,c94),(95,c95)]) (H:=[(2,⟨[(11,.slot 2)],[]⟩)]) (.cons con93 (.cons con94 (.cons con95 .nil))) Tryz.func44 fun l ob r hc hob => by
 unfold c44 at hc
 split at hc
 ·rename_i a e b f
  cases hc
  have h_0:inR a:=hob _ (by simp)
  have h_1:inR b:=hob _ (by simp)
  refine ⟨by kernel_rfl,fnVC_go (rs:=[.cell 2 29]) rfl rfl ?_⟩
  simp only [go_sem,c93,c94,c95]
  simp only [forall_eq]
  exact ⟨h_0,rg_inR (ftV_rg _),rg_inR (ftV_rg _),h_1,rg_inR (ftV_rg _),rg_inR (ftV_rg _),rfl⟩
 ·cases hc
theorem vfS_one {x y:Int} {e f:Bool}:vfS 1 (rowsOf 4 [i64 x,bo e,i64 y,bo f]) = (whF x e || whF y f):=by
 unfold vfS anyB anyB
 rw [Bool.false_or]; rfl
def c42:Con
 | [.agg [.v (.int .i64 x),.v (.bool e),.v (.int .i64 y),.v (.bool f)]] => some ([inR x,inR y],i64 (if (whF x e = true ∨ whF y f = true) ∨ (65536 < (nDot (x,e) (x,e) (y,f) (y,f)).1 - 4294967296 ∨ 65536 < 4294967296 - (nDot (x,e) (x,e) (y,f) (y,f)).1) then 3 else 0))
 | _ => none
theorem con42:ConOK Tryz.prog 42 c42:=ConOK.of (G:=[(90,c90),(91,c91)]) (H:=[]) (.cons con90 (.cons con91 .nil)) Tryz.func42 fun l ob r hc hob => by
 unfold c42 at hc
 split at hc
 ·rename_i x e y f
  cases hc
  have h_0:inR x:=hob _ (by simp)
  have h_1:inR y:=hob _ (by simp)
  refine ⟨by kernel_rfl,fnVC_go (rs:=[.tmp 2]) rfl rfl ?_⟩
  simp only [go_sem,c90,c91]
  simp only [forall_eq,vfS_one]
  have k0:0 ≤ (whV x * whV x + whV y * whV y).tdiv 4294967296:=Int.tdiv_nonneg (by have:=sq_nonneg (a:=whV x); have:=sq_nonneg (a:=whV y); omega) (by omega)
  have k1:0 ≤ ftV ((whV x * whV x + whV y * whV y).tdiv 4294967296) ∧ ftV ((whV x * whV x + whV y * whV y).tdiv 4294967296) ≤ 9223372036854775807:=by unfold ftV; (repeat' split) <;> omega
  have eD:(nDot (x,e) (x,e) (y,f) (y,f)).1 = ftV ((whV x * whV x + whV y * whV y).tdiv 4294967296):=rfl
  rw [eD]
  generalize ftV ((whV x * whV x + whV y * whV y).tdiv 4294967296) = n at *
  rw [wrap_in (x:=n - 4294967296) (by unfold inR; omega)]
  refine ⟨⟨h_0,h_1⟩,fun h => ?_,fun h => ⟨h_0,h_0,h_1,h_1,fun h2 => ?_,fun h2 => ?_⟩⟩
  ·rw [if_pos (.inl (by simpa using h))]
  ·rw [if_pos (.inr (by omega))]
  ·rw [if_neg (by
    rintro (k | k)
    ·have:(whF x e || whF y f) = true:=by simpa using k
     rw [h] at this; cases this
    ·omega)]
 ·cases hc
def k131:Con
 | [.agg [.v (.int .i64 x),.v (.bool e),.v (.int .i64 y),.v (.bool f)],.agg [.v (.int .i64 z),.v (.bool g),.v (.int .i64 t),.v (.bool h)]] => some ([inR x,inR y,inR z,inR t],veA (vApply ((x,e),(y,f)) ((z,g),(t,h))))
 | _ => none
theorem kon131:ConOK Tryz.prog 97 k131:=ConOK.of (G:=[(91,c91),(127,c127)]) (H:=[(1,⟨[(20,.slot 4)],[]⟩)]) (.cons con91 (.cons con127 .nil)) Tryz.func97 fun l ob r hc hob => by
 unfold k131 at hc
 split at hc
 ·rename_i x e y f z g t h
  cases hc
  have h_0:inR x:=hob _ (by simp)
  have h_1:inR y:=hob _ (by simp)
  have h_2:inR z:=hob _ (by simp)
  have h_3:inR t:=hob _ (by simp)
  refine ⟨by kernel_rfl,fnVC_go (rs:=[.cell 4 38]) rfl rfl ?_⟩
  simp only [go_sem,c91,c127]
  simp only [forall_eq]
  exact ⟨h_1,h_0,h_2,rg_inR (by have:=whV_rg h_1; unfold rg at *; omega),h_3,h_1,h_2,h_0,h_3,rfl⟩
 ·cases hc
def k62:Con
 | [.agg [.v (.int .i64 x),.v (.bool e),.v (.int .i64 y),.v (.bool f),.v (.int .i64 c),.v (.bool o),.v (.int .i64 s),.v (.bool p)],.agg [.v (.int .i64 z),.v (.bool g),.v (.int .i64 t),.v (.bool h)]] => some ([inR x,inR y,inR c,inR s,inR z,inR t],veA (vAdd ((x,e),(y,f)) (vApply ((c,o),(s,p)) ((z,g),(t,h)))))
 | _ => none
theorem kon62:ConOK Tryz.prog 46 k62:=ConOK.of (G:=[(96,k130),(97,k131)]) (H:=[(1,⟨[(8,.slot 4)],[]⟩)]) (.cons kon130 (.cons kon131 .nil)) Tryz.func46 fun l ob r hc hob => by
 unfold k62 at hc
 split at hc
 ·rename_i x e y f c o s p z g t h
  cases hc
  have h_0:inR x:=hob _ (by simp)
  have h_1:inR y:=hob _ (by simp)
  have h_2:inR c:=hob _ (by simp)
  have h_3:inR s:=hob _ (by simp)
  have h_4:inR z:=hob _ (by simp)
  have h_5:inR t:=hob _ (by simp)
  refine ⟨by kernel_rfl,fnVC_go (rs:=[.cell 4 38]) rfl rfl ?_⟩
  simp only [go_sem,k130,k131]
  exact ⟨h_2,h_3,h_4,h_5,⟨h_0,h_1⟩,rfl⟩
 ·cases hc
end Go.Ax
end
section
/-
  The corners of a shape.
-/
set_option maxHeartbeats 4000000
set_option maxRecDepth 100000
namespace Go.Ax
open Go.Proofs
def alk (r r':AV):Prop:=∀ w ρ v,R w ρ r' v → R w ρ r v
theorem ConOK.goR {P:Program} {G:Ctx} {H:Hots} (hG:CtxOK P G) {f:FuncId} {fn:Func} (hf:P.funcs[f]? = some fn) {c:Con}
  (h:∀ es1 ob r,c es1 = some (ob,r) → (∀ p ∈ ob,p) → ∃ es,(∀ w I vs,Rs w (.ext I) es1 vs → Rs w (.ext I) es vs) ∧ funcOK P H fn es.length = true ∧ fnVC P G H fn es (alk r)):ConOK P f c:=by
 intro es0 ob r hc hob I w vs hI hRs
 obtain ⟨es,h0,h1,h2⟩:=h es0 ob r hc hob
 obtain ⟨k1,k2⟩:=fn_sound hG hf h1 h2 I w vs hI (h0 w I vs hRs)
 exact .inr ⟨k1,k2.mono fun e w' ⟨v,he,⟨r',hr,hR⟩,hb⟩ => ⟨v,he,hr _ _ _ hR,hb⟩⟩
theorem alk_refl {r:AV}:alk r r:=fun _ _ _ h => h
theorem alk_ro {n:Nat} {f g:Nat → List AV} (h:∀ i,i < n → g i = f i):alk (.ro n 2 f) (.ro n 2 g):=fun w ρ v hR => ro_alike h hR
theorem alk_nil {f:Nat → List AV}:alk (.ro 0 2 f) (.v (.slice none 0 0)):=fun w ρ v hR => by
 cases hR
 exact .ro 0 0 (Nat.le_refl _) (fun h => absurd h (by omega)) (fun h => absurd h (by omega)) (fun i h => absurd h (by omega)) (fun i k h => absurd h (by omega)) (fun i k c x h => absurd h (by omega))
def corN (k r w t:Int) (n:Nat) (X Y:Nat → Int):Nat:=if chkS k r w t n X Y = 0 then (if k = 2 then 4 else n) else 0
def corX (k w t:Int) (X:Nat → Int) (i:Nat):Int:=if k = 2 then (match i with | 0 => -w | 1 => w | 2 => w | _ => -w) else X i
def corY (k w t:Int) (Y:Nat → Int) (i:Nat):Int:=if k = 2 then (match i with | 0 => -t | 1 => -t | 2 => t | _ => t) else Y i
abbrev corA (k r w t:Int) (n:Nat) (X Y:Nat → Int):AV:=.ro (corN k r w t n X Y) 2 fun i => [i64 (corX k w t X i),i64 (corY k w t Y i)]
theorem chk_cases {k r w t:Int} {n:Nat} {X Y:Nat → Int} (h:chkS k r w t n X Y = 0):(k = 1 ∧ n = 0 ∧ 16 ≤ r ∧ r ≤ 4096) ∨ (k = 2 ∧ n = 0 ∧ 16 ≤ w ∧ w ≤ 4096 ∧ 16 ≤ t ∧ t ≤ 4096) ∨ (k = 3 ∧ 3 ≤ n ∧ n ≤ 8 ∧ r = 0 ∧ ∀ i,i < n → lo (X i) ∧ lo (Y i)):=by
 unfold chkS at h
 split at h
 ·rename_i h1
  split at h
  ·omega
  ·split at h
   ·exact .inl ⟨h1,by omega⟩
   ·omega
 ·split at h
  ·rename_i h1 h2
   split at h
   ·omega
   ·split at h
    ·exact .inr (.inl ⟨h2,by omega⟩)
    ·omega
  ·split at h
   ·rename_i h1 h2 h3
    split at h
    ·omega
    ·split at h
     ·rename_i h5 h6
      exact .inr (.inr ⟨h3,by omega,by omega,by omega,h6⟩)
     ·omega
   ·omega
theorem vc45 (k r w t:Int) (n:Nat) (X Y:Nat → Int) (hX:∀ i,i < n → inR (X i) ∧ inR (Y i)) (hn:n ≤ 9223372036854775806):fnVC Tryz.prog [(41,c41)] [] Tryz.f45 [shapeA k r w t n fun i => [i64 (X i),i64 (Y i)]] (alk (corA k r w t n X Y)):=by
 refine fnVC_go (rs:=[.tmp 2]) rfl rfl ?_
 have hg:spots n fun i => [i64 (X i),i64 (Y i)]:=fun i hi => ⟨rfl,hX i hi⟩
 have eX:gx (fun i => [i64 (X i),i64 (Y i)]) 0 = X:=rfl
 have eY:gx (fun i => [i64 (X i),i64 (Y i)]) 1 = Y:=rfl
 simp only [go_sem,c41,eX,eY]
 have hb:bytesT Tryz.prog 29 = 16:=by kernel_rfl
 rw [hb]
 simp only [forall_eq]
 refine ⟨hg,hn,fun h => ?_,fun h => ⟨fun h2 => ?_,fun h2 => ?_⟩⟩
 ·have:corN k r w t n X Y = 0:=if_neg (by simpa using h)
  unfold corA
  rw [this]
  exact alk_nil
 ·have hk:k = 2:=by simpa using h2
  have hc:chkS k r w t n X Y = 0:=by simpa using h
  have:corN k r w t n X Y = 4:=by unfold corN; rw [if_pos hc,if_pos hk]
  have hb:=chk_cases hc
  rw [wrap_in (x:=0 - w) (by unfold inR; omega),wrap_in (x:=0 - t) (by unfold inR; omega),Int.zero_sub,Int.zero_sub]
  unfold corA
  rw [this]
  refine alk_ro fun i hi => ?_
  unfold corX corY
  rw [if_pos hk,if_pos hk]
  match i with
  | 0 => rfl
  | 1 => rfl
  | 2 => rfl
  | 3 => rfl
  | j + 4 => omega
 ·have hk:¬ k = 2:=by simpa using h2
  have hc:chkS k r w t n X Y = 0:=by simpa using h
  have:corN k r w t n X Y = n:=by unfold corN; rw [if_pos hc,if_neg hk]
  have hb:=chk_cases hc
  unfold corA
  rw [this]
  refine ⟨fun i hi => by simp only [go_sem],by omega,by omega,?_⟩
  refine alk_ro fun i hi => ?_
  unfold corX corY
  rw [if_neg hk,if_neg hk]
def c45:Con
 | [.agg [.v (.int .i64 k),.v (.int .i64 r),.v (.int .i64 w),.v (.int .i64 t),.ro n 2 g]] => some ([spots n g,n ≤ 9223372036854775806],corA k r w t n (gx g 0) (gx g 1))
 | _ => none
theorem con45:ConOK Tryz.prog 45 c45:=ConOK.goR (G:=[(41,c41)]) (H:=[]) (.cons con41 .nil) Tryz.func45 fun l ob rr hc hob => by
 unfold c45 at hc
 split at hc
 ·rename_i k r w t n g
  cases hc
  have hs:spots n g:=hob _ (by simp)
  exact ⟨[shapeA k r w t n fun i => [i64 (gx g 0 i),i64 (gx g 1 i)]],fun w I vs h => Rs_one (Rs_shape hs) h,by kernel_rfl,vc45 k r w t n _ _ (fun i hi => (hs i hi).2) (hob _ (by simp))⟩
 ·cases hc
end Go.Ax
end
section
/-
  Shapes placed.
-/
set_option maxHeartbeats 4000000
set_option maxRecDepth 100000
namespace Go.Ax
open Go.Proofs
theorem alk_form {a b c d e p q:AV} (h:alk p q):alk (.tup [.agg [a,b,c,d,p],e]) (.tup [.agg [a,b,c,d,q],e]):=fun w ρ v hR => by
 cases hR with
 | tup hl hh =>
  refine .tup hl fun i x z h1 h2 => ?_
  match i with
  | 0 =>
   simp at h1; subst h1
   have:=hh 0 _ z rfl h2
   cases this with
   | agg hl' hh' =>
    refine .agg hl' fun j x y h3 h4 => ?_
    match j with
    | 0 => exact hh' 0 x y h3 h4
    | 1 => exact hh' 1 x y h3 h4
    | 2 => exact hh' 2 x y h3 h4
    | 3 => exact hh' 3 x y h3 h4
    | 4 =>
     simp at h3; subst h3
     exact h _ _ _ (hh' 4 _ y rfl h4)
    | m + 5 => simp at h3
  | 1 => exact hh 1 x z h1 h2
  | m + 2 => simp at h1
def rotS (x:Int) (e:Bool) (y:Int) (f:Bool):Int:=if (whF x e = true ∨ whF y f = true) ∨ (65536 < (nDot (x,e) (x,e) (y,f) (y,f)).1 - 4294967296 ∨ 65536 < 4294967296 - (nDot (x,e) (x,e) (y,f) (y,f)).1) then 3 else 0
def farB (a:Nb):Bool:=whF a.1 a.2 || decide (17592186044416 < ab (whV a.1))
def plErr (k r w t:Int) (n:Nat) (X Y:Nat → Int) (at' rot:V2):Int:=
 if chkS k r w t n X Y ≠ 0 then chkS k r w t n X Y else if rotS rot.1.1 rot.1.2 rot.2.1 rot.2.2 ≠ 0 then rotS rot.1.1 rot.1.2 rot.2.1 rot.2.2 else if farB at'.1 = true ∨ farB at'.2 = true then 3 else 0
def plPt (at' rot:V2) (x y:Int):V2:=vAdd at' (vApply rot (vLoc x y))
def plX (k w t:Int) (X Y:Nat → Int) (at' rot:V2) (i:Nat):Int:=spV (plPt at' rot (corX k w t X i) (corY k w t Y i)).1
def plY (k w t:Int) (X Y:Nat → Int) (at' rot:V2) (i:Nat):Int:=spV (plPt at' rot (corX k w t X i) (corY k w t Y i)).2
def plN (k r w t:Int) (n:Nat) (X Y:Nat → Int) (at' rot:V2):Nat:=if plErr k r w t n X Y at' rot = 0 then (if k = 1 then 0 else corN k r w t n X Y) else 0
def plK (k r w t:Int) (n:Nat) (X Y:Nat → Int) (at' rot:V2):Int:=if plErr k r w t n X Y at' rot = 0 then (if k = 1 then 1 else 2) else 0
def plC (k r w t:Int) (n:Nat) (X Y:Nat → Int) (at' rot:V2) (a:Nb):Int:=if plErr k r w t n X Y at' rot = 0 then spV a else 0
def plR (k r w t:Int) (n:Nat) (X Y:Nat → Int) (at' rot:V2):Int:=if plErr k r w t n X Y at' rot = 0 then r else 0
abbrev plA (k r w t:Int) (n:Nat) (X Y:Nat → Int) (at' rot:V2):AV:=
 .tup [formA (plK k r w t n X Y at' rot) (plC k r w t n X Y at' rot at'.1) (plC k r w t n X Y at' rot at'.2) (plR k r w t n X Y at' rot) (plN k r w t n X Y at' rot) fun i => [i64 (plX k w t X Y at' rot i),i64 (plY k w t X Y at' rot i)],i64 (plErr k r w t n X Y at' rot)]
abbrev poseA (at' rot:V2):AV:=.agg [i64 at'.1.1,bo at'.1.2,i64 at'.2.1,bo at'.2.2,i64 rot.1.1,bo rot.1.2,i64 rot.2.1,bo rot.2.2]
theorem vc8 (k r w t:Int) (n:Nat) (X Y:Nat → Int) (hX:∀ i,i < n → inR (X i) ∧ inR (Y i)) (hn:n ≤ 9223372036854775806) (at' rot:V2) (h0:inR at'.1.1) (h1:inR at'.2.1) (h2:inR rot.1.1) (h3:inR rot.2.1) :
  fnVC Tryz.prog [(41,c41),(42,c42),(43,c43),(44,c44),(45,c45),(46,k62),(47,c47)] [(9,⟨[(7,.made 6)],[]⟩),(15,⟨[(10,.slot 8)],[]⟩)] Tryz.f8 [shapeA k r w t n fun i => [i64 (X i),i64 (Y i)],poseA at' rot] (alk (plA k r w t n X Y at' rot)):=by
 refine fnVC_go (rs:=[.cell 4 31,.tmp 5]) rfl rfl ?_
 have hg:spots n fun i => [i64 (X i),i64 (Y i)]:=fun i hi => ⟨rfl,hX i hi⟩
 have eX:gx (fun i => [i64 (X i),i64 (Y i)]) 0 = X:=rfl
 have eY:gx (fun i => [i64 (X i),i64 (Y i)]) 1 = Y:=rfl
 simp only [go_sem,c41,c42,c43,c44,c45,eX,eY]
 simp only [forall_eq]
 have pos:∀ e:Int,plErr k r w t n X Y at' rot = e → e ≠ 0 → alk (plA k r w t n X Y at' rot) (.tup [.agg [i64 0,i64 0,i64 0,i64 0,.v (.slice none 0 0)],i64 e]):=fun e he hne => by
  subst he
  unfold plA formA
  have q:plN k r w t n X Y at' rot = 0:=if_neg hne
  rw [q,show plK k r w t n X Y at' rot = 0 from if_neg hne,show plC k r w t n X Y at' rot at'.1 = 0 from if_neg hne,show plC k r w t n X Y at' rot at'.2 = 0 from if_neg hne,show plR k r w t n X Y at' rot = 0 from if_neg hne]
  exact alk_form alk_nil
 refine ⟨hg,hn,fun h => ?_,fun h => ⟨h2,h3,fun h4 => ?_,fun h4 => ⟨h0,fun _ => h1,fun h5 => ?_,fun h5 => ⟨h0,h1,fun h6 => ⟨hg,hn,?_⟩,fun h6 => ?_⟩⟩⟩⟩
 ·have hne:chkS k r w t n X Y ≠ 0:=by simpa using h
  exact pos _ (by unfold plErr; rw [if_pos hne]) hne
 ·have hne:rotS rot.1.1 rot.1.2 rot.2.1 rot.2.2 ≠ 0:=bne_iff_ne.1 h4
  refine pos _ ?_ hne
  unfold plErr; rw [if_neg (by simpa using h),if_pos hne]; rfl
 ·refine pos _ ?_ (by omega)
  unfold plErr
  rw [if_neg (by simpa using h),if_neg (show ¬ rotS rot.1.1 rot.1.2 rot.2.1 rot.2.2 ≠ 0 from not_not_intro (bne_eq_false_iff_eq.1 h4)),if_pos]
  unfold farB
  rcases h5 with h5 | h5
  ·exact .inl (by rw [Bool.not_eq_false'] at h5; exact h5)
  ·exact .inr (by rw [Bool.not_eq_false'] at h5; exact h5)
 ·have he:plErr k r w t n X Y at' rot = 0:=by
   unfold plErr
   rw [if_neg (by simpa using h),if_neg (show ¬ rotS rot.1.1 rot.1.2 rot.2.1 rot.2.2 ≠ 0 from not_not_intro (bne_eq_false_iff_eq.1 h4)),if_neg]
   unfold farB
   rw [Bool.not_eq_true',Bool.not_eq_true'] at h5
   rintro (h7 | h7)
   ·rw [h5.1] at h7; cases h7
   ·rw [h5.2] at h7; cases h7
  have hk:¬ k = 1:=by simpa using h6
  have hc:chkS k r w t n X Y = 0:=by simpa using h
  have hcs:=chk_cases hc
  have hN:corN k r w t n X Y ≤ 8:=by unfold corN; rw [if_pos hc]; split <;> omega
  have hb:bytesT Tryz.prog 29 = 16:=by kernel_rfl
  have hx:∀ i,i < corN k r w t n X Y → inR (corX k w t X i) ∧ inR (corY k w t Y i):=fun i hi => by
   unfold corN at hi; rw [if_pos hc] at hi
   unfold corX corY
   split
   ·constructor <;> (split <;> (unfold inR; omega))
   ·rename_i h7
    rw [if_neg h7] at hi
    exact hX i hi
  generalize hM:corN k r w t n X Y = M at *
  refine loopN_go (fun (i:Nat) => i ≤ M) (fun i => M - i) (fun i => [(50,i64 i)]) (fun i => [(33,fam1 31 5 [i64 2,i64 (spV at'.1),i64 (spV at'.2),i64 r,.own 44 0 i 2] none),(44,famN i 2 29 (fun j => [i64 (plX k w t X Y at' rot j),i64 (plY k w t X Y at' rot j)]) none)]) [2,1,0] [51,52,53,10,54,55,56,57,58,59,60,61,62,63,64,50] 1 0 (by kernel_rfl) (Nat.zero_le _) ⟨[(44,none)],?_,?_,?_,?_⟩ ?_
  ·simp only [go_sem]
  ·simp only [go_sem]
  ·simp only [go_sem]
  ·simp [goodNames,asg]
  intro i hi
  simp only [go_sem,c44,c47,k62]
  have hb:bytesT Tryz.prog 29 = 16:=by kernel_rfl
  rw [hb]
  simp only [forall_eq]
  refine ⟨fun hin => ?_,fun hin => ?_⟩
  ·have hi':i < M:=by omega
   have hxi:=hx i hi'
   refine ⟨by omega,hin,hxi.1,hxi.2,h0,h1,h2,h3,rg_inR nRat_rg,rg_inR nRat_rg,by omega,by omega,i + 1,by omega,by omega,[(44,some 58)],?_⟩
   simp only [go_sem]
   refine ⟨by rw [wrap_in (by unfold inR; omega)]; rfl,fun j hj => ?_,by simp [goodNames,asg]⟩
   by_cases e:j < i
   ·rw [if_pos e]; simp only [go_sem]
   ·have e:j = i:=by omega
    subst e
    rw [if_neg (by omega),Nat.sub_self]
    simp only [Nat.zero_mul,go_sem]
    exact ⟨rfl,rfl⟩
  ·have e:i = M:=by omega
   subst e
   unfold plA formA
   rw [show plN k r w t n X Y at' rot = i by unfold plN; rw [if_pos he,if_neg hk,hM],show plK k r w t n X Y at' rot = 2 by unfold plK; rw [if_pos he,if_neg hk],show plC k r w t n X Y at' rot at'.1 = _ from if_pos he,show plC k r w t n X Y at' rot at'.2 = _ from if_pos he,show plR k r w t n X Y at' rot = r from if_pos he,he]
   exact alk_refl
 ·have he:plErr k r w t n X Y at' rot = 0:=by
   unfold plErr
   rw [if_neg (by simpa using h),if_neg (show ¬ rotS rot.1.1 rot.1.2 rot.2.1 rot.2.2 ≠ 0 from not_not_intro (bne_eq_false_iff_eq.1 h4)),if_neg]
   unfold farB
   rw [Bool.not_eq_true',Bool.not_eq_true'] at h5
   rintro (h7 | h7)
   ·rw [h5.1] at h7; cases h7
   ·rw [h5.2] at h7; cases h7
  have hk:k = 1:=by simpa using h6
  unfold plA formA
  rw [show plN k r w t n X Y at' rot = 0 by unfold plN; rw [if_pos he,if_pos hk],show plK k r w t n X Y at' rot = 1 by unfold plK; rw [if_pos he,if_pos hk],show plC k r w t n X Y at' rot at'.1 = _ from if_pos he,show plC k r w t n X Y at' rot at'.2 = _ from if_pos he,show plR k r w t n X Y at' rot = r from if_pos he,he]
  exact alk_form alk_nil
end Go.Ax
end
section
/-
  What rays meet, the law's body.
-/
set_option maxHeartbeats 4000000
set_option maxRecDepth 100000
namespace Go.Ax
open Go.Proofs
theorem aEq36 {a0 b0:Int} {a1 b1:Bool}:aEq Tryz.prog 36 (.agg [i64 a0,bo a1]) (.agg [i64 b0,bo b1]) = some ((a0 == b0) && ((a1 == b1) && true)):=by kernel_rfl
theorem eq36 {xo yo:Operand} {neg:Bool} {a0 b0:Int} {a1 b1:Bool}:eqE Tryz.prog neg 36 xo yo (.agg [i64 a0,bo a1]) (.agg [i64 b0,bo b1]) = some ⟨[],.v (.bool (negV neg ((a0 == b0) && ((a1 == b1) && true)))),.none⟩:=eqE_agg aEq36
attribute [go_sem] eq36
theorem aEq38 {a0 b0:Int} {a1 b1:Bool} {a2 b2:Int} {a3 b3:Bool}:aEq Tryz.prog 38 (.agg [i64 a0,bo a1,i64 a2,bo a3]) (.agg [i64 b0,bo b1,i64 b2,bo b3]) = some (((a0 == b0) && ((a1 == b1) && true)) && (((a2 == b2) && ((a3 == b3) && true)) && true)):=by kernel_rfl
theorem eq38 {xo yo:Operand} {neg:Bool} {a0 b0:Int} {a1 b1:Bool} {a2 b2:Int} {a3 b3:Bool}:eqE Tryz.prog neg 38 xo yo (.agg [i64 a0,bo a1,i64 a2,bo a3]) (.agg [i64 b0,bo b1,i64 b2,bo b3]) = some ⟨[],.v (.bool (negV neg (((a0 == b0) && ((a1 == b1) && true)) && (((a2 == b2) && ((a3 == b3) && true)) && true)))),.none⟩:=eqE_agg aEq38
attribute [go_sem] eq38
theorem aEq80 {a0 b0:Bool} {a1 b1:Int} {a2 b2:Bool} {a3 b3:Int} {a4 b4:Bool} {a5 b5:Int} {a6 b6:Bool}:aEq Tryz.prog 80 (.agg [bo a0,i64 a1,bo a2,i64 a3,bo a4,i64 a5,bo a6]) (.agg [bo b0,i64 b1,bo b2,i64 b3,bo b4,i64 b5,bo b6]) = some ((a0 == b0) && (((a1 == b1) && ((a2 == b2) && true)) && ((((a3 == b3) && ((a4 == b4) && true)) && (((a5 == b5) && ((a6 == b6) && true)) && true)) && true))):=by kernel_rfl
theorem eq80 {xo yo:Operand} {neg:Bool} {a0 b0:Bool} {a1 b1:Int} {a2 b2:Bool} {a3 b3:Int} {a4 b4:Bool} {a5 b5:Int} {a6 b6:Bool}:eqE Tryz.prog neg 80 xo yo (.agg [bo a0,i64 a1,bo a2,i64 a3,bo a4,i64 a5,bo a6]) (.agg [bo b0,i64 b1,bo b2,i64 b3,bo b4,i64 b5,bo b6]) = some ⟨[],.v (.bool (negV neg ((a0 == b0) && (((a1 == b1) && ((a2 == b2) && true)) && ((((a3 == b3) && ((a4 == b4) && true)) && (((a5 == b5) && ((a6 == b6) && true)) && true)) && true))))),.none⟩:=eqE_agg aEq80
attribute [go_sem] eq80
end Go.Ax
end
section
/-
  Shapes placed, the law's body.
-/
set_option maxHeartbeats 4000000
set_option maxRecDepth 100000
namespace Go.Ax
open Go.Proofs
theorem spV_inR {a:Nb}:inR (spV a):=by
 have:rg (whV (nMul a (nInt 256)).1):=whV_rg (rg_inR nMul_rg)
 unfold spV
 unfold rg at this
 unfold inR
 omega
end Go.Ax
end
section
/-
  What is met first.
-/
set_option maxHeartbeats 4000000
set_option maxRecDepth 100000
namespace Go.Ax
open Go.Proofs
def cn (cs:List AV) (k:Nat):Nat:=match cs[k]? with
 | some (.ro n _ _) => n
 | _ => 0
def cg (cs:List AV) (k:Nat):Nat → List AV:=match cs[k]? with
 | some (.ro _ _ g) => g
 | _ => fun _ => []
def formOK (cs:List AV):Prop:=cs = [i64 (gi cs 0),i64 (gi cs 1),i64 (gi cs 2),i64 (gi cs 3),.ro (cn cs 4) 2 (cg cs 4)] ∧ inR (gi cs 1) ∧ inR (gi cs 2) ∧ inR (gi cs 3) ∧ spots (cn cs 4) (cg cs 4) ∧ cn cs 4 ≤ 9223372036854775806
def forms (m:Nat) (G:Nat → List AV):Prop:=∀ i,i < m → formOK (G i)
def firS (C:Nat → HitT):Nat → Int × HitT
 | 0 => (-1,hit0)
 | i + 1 => if (C i).1 = true ∧ ((firS C i).1 < 0 ∨ cmpS (whV (C i).2.1.1) (whV (firS C i).2.2.1.1) < 0) then ((i:Int),C i) else firS C i
def fiA (s:Int × HitT):AV:=.tup [i64 s.1,.agg (hitC s.2)]
theorem bnd_fi {s:Int × HitT}:bnd (fiA s) = .tup [i64 s.1,.agg [bo s.2.1,i64 s.2.2.1.1,bo s.2.2.1.2,i64 s.2.2.2.1.1,bo s.2.2.2.1.2,i64 s.2.2.2.2.1,bo s.2.2.2.2.2]]:=(rfl)
theorem plain_fi {s:Int × HitT}:plain 3 (fiA s) = true:=(rfl)
attribute [go_sem] bnd_fi plain_fi
def castC (a b c d:Int) (cs:List AV):HitT:=castS (gi cs 0) (gi cs 1) (gi cs 2) (gi cs 3) (cn cs 4) (gx (cg cs 4) 0) (gx (cg cs 4) 1) a b c d
theorem vc39 (m:Nat) (K X Y Z:Nat → Int) (N:Nat → Nat) (P:Nat → Nat → List AV) (a b c d:Int) (hm:m ≤ 1000) (hX:∀ i,i < m → inR (X i) ∧ inR (Y i) ∧ inR (Z i)) (hP:∀ i,i < m → spots (N i) (P i) ∧ N i ≤ 9223372036854775806) (h1:inR a) (h2:inR b) (h3:inR c) (h4:inR d) :
  fnVC Tryz.prog [(36,c36),(87,c87)] [(7,⟨[(3,.slot 9)],[]⟩),(9,⟨[(3,.slot 7)],[]⟩)] Tryz.f39 [.agg [i64 a,i64 b],.agg [i64 c,i64 d],.ro m 5 fun i => [i64 (K i),i64 (X i),i64 (Y i),i64 (Z i),.ro (N i) 2 (P i)]] (· = fiA (firS (fun i => castS (K i) (X i) (Y i) (Z i) (N i) (gx (P i) 0) (gx (P i) 1) a b c d) m)):=by
 refine fnVC_go (rs:=[.tmp 6,.cell 7 80]) rfl rfl ?_
 simp only [go_sem]
 generalize hC:(fun i => castS (K i) (X i) (Y i) (Z i) (N i) (gx (P i) 0) (gx (P i) 1) a b c d) = C
 have hCi:∀ i,castS (K i) (X i) (Y i) (Z i) (N i) (gx (P i) 0) (gx (P i) 1) a b c d = C i:=fun i => by rw [← hC]
 refine loopC_go (fun (i:Nat) => i ≤ m) (fun i => m - i) (fun i => [(16,i64 i),(8,i64 (firS C i).1)]) (fun i => [(5,fam1 80 7 (hitC (firS C i).2) none)]) [3,1,0] [17,18,19,20,11,10,21,22,23,24,12,25,26,27,28,29,30,31,32,33,34,35,36,37,38,39,40,8,41,16] 0 (by kernel_rfl) ?_ (Nat.zero_le _) ?_ ?_
 ·intro x _; simp [goodNames,asg]
 ·simp only [go_sem,firS]
  exact ⟨rfl,rfl,rfl,rfl,rfl,rfl,rfl⟩
 ·intro i hi
  simp only [go_sem,c36,c87,hCi]
  refine ⟨fun hin => ?_,fun hin => ?_⟩
  ·have hin':i < m:=by omega
   have hx:=hX i hin'
   refine ⟨by omega,hin,(hP i hin').1,(hP i hin').2,hx.1,hx.2.1,hx.2.2,h1,h2,h3,h4,fun z hz => ⟨fun a b => ⟨a,b⟩,fun h z1 hz1 => ⟨i + 1,by omega,by omega,?_⟩,fun h z1 hz1 => ⟨i + 1,by omega,by omega,?_⟩⟩⟩
   ·have e:firS C (i + 1) = ((i:Int),C i):=by
     conv => lhs; unfold firS
     rw [if_pos ⟨h.1,h.2.imp id fun h => by rw [← hz]; exact h⟩]
    rw [e,hz1,wrap_in (by unfold inR; omega)]
    exact ⟨⟨rfl,rfl⟩,rfl,rfl,rfl,rfl,rfl,rfl,rfl⟩
   ·have e:firS C (i + 1) = firS C i:=by
     conv => lhs; unfold firS
     rw [if_neg ?_]
     rintro ⟨k1,k2⟩
     rw [← hz] at k2
     simp only [k1,Bool.true_and,Bool.or_eq_false_iff,decide_eq_false_iff_not] at h
     rcases k2 with k | k
     ·exact h.1 k
     ·exact h.2 k
    rw [e,hz1,wrap_in (by unfold inR; omega)]
    exact ⟨⟨rfl,rfl⟩,rfl,rfl,rfl,rfl,rfl,rfl,rfl⟩
  ·have e:i = m:=by omega
   subst e
   rfl
def c39:Con
 | [.agg [.v (.int .i64 a),.v (.int .i64 b)],.agg [.v (.int .i64 c),.v (.int .i64 d)],.ro m 5 G] => some ([m ≤ 1000,forms m G,inR a,inR b,inR c,inR d],fiA (firS (fun i => castC a b c d (G i)) m))
 | _ => none
theorem con39:ConOK Tryz.prog 39 c39:=ConOK.go (G:=[(36,c36),(87,c87)]) (H:=[(7,⟨[(3,.slot 9)],[]⟩),(9,⟨[(3,.slot 7)],[]⟩)]) (.cons con36 (.cons con87 .nil)) Tryz.func39 fun l ob r hc hob => by
 unfold c39 at hc
 split at hc
 ·rename_i a b c d m G
  cases hc
  have hs:forms m G:=hob _ (by simp)
  refine ⟨[.agg [i64 a,i64 b],.agg [i64 c,i64 d],.ro m 5 fun i => [i64 (gi (G i) 0),i64 (gi (G i) 1),i64 (gi (G i) 2),i64 (gi (G i) 3),.ro (cn (G i) 4) 2 (cg (G i) 4)]],fun w I vs h => ?_,by kernel_rfl,
   vc39 m _ _ _ _ _ _ a b c d (hob _ (by simp)) (fun i hi => ⟨(hs i hi).2.1,(hs i hi).2.2.1,(hs i hi).2.2.2.1⟩) (fun i hi => (hs i hi).2.2.2.2) (hob _ (by simp)) (hob _ (by simp)) (hob _ (by simp)) (hob _ (by simp))⟩
  obtain ⟨v,vs',rfl,k1,k2⟩:=h.inv
  obtain ⟨v2,vs2,rfl,k3,k4⟩:=k2.inv
  exact .cons k1 (.cons k3 (Rs_one (fun v => ro_alike fun i hi => (hs i hi).1) k4))
 ·cases hc
end Go.Ax
end
section
/-
  Forms made of numbers.
-/
set_option maxHeartbeats 4000000
set_option maxRecDepth 100000
namespace Go.Ax
open Go.Proofs
theorem alk_shape {a b c d p q:AV} (h:alk p q):alk (.agg [a,b,c,d,p]) (.agg [a,b,c,d,q]):=fun w ρ v hR => by
 cases hR with
 | agg hl' hh' =>
  refine .agg hl' fun j x y h3 h4 => ?_
  match j with
  | 0 => exact hh' 0 x y h3 h4
  | 1 => exact hh' 1 x y h3 h4
  | 2 => exact hh' 2 x y h3 h4
  | 3 => exact hh' 3 x y h3 h4
  | 4 =>
   simp at h3; subst h3
   exact h _ _ _ (hh' 4 _ y rfl h4)
  | m + 5 => simp at h3
end Go.Ax
end
section
/-
  What is met first, the law's body.
-/
set_option maxHeartbeats 4000000
set_option maxRecDepth 100000
namespace Go.Ax
open Go.Proofs
end Go.Ax
end
section
/-
  How far forms are from each other: the small parts.
-/
set_option maxHeartbeats 4000000
set_option maxRecDepth 100000
namespace Go.Ax
open Go.Proofs
def dtW (a b c d:Int):Int:=IntKind.i64.wrap (IntKind.i64.wrap (a * c) + IntKind.i64.wrap (b * d))
def crW (a b c d:Int):Int:=IntKind.i64.wrap (IntKind.i64.wrap (a * d) - IntKind.i64.wrap (b * c))
def mnW (a b:Int):Int:=IntKind.i64.wrap (b - a)
def farS (ax ay bx byy cx cy r:Int):Bool:=
 if dtW (mnW ax cx) (mnW ay cy) (mnW ax bx) (mnW ay byy) ≤ 0 then decide (IntKind.i64.wrap (r * r) < dtW (mnW ax cx) (mnW ay cy) (mnW ax cx) (mnW ay cy))
 else if dtW (mnW ax bx) (mnW ay byy) (mnW ax bx) (mnW ay byy) ≤ dtW (mnW ax cx) (mnW ay cy) (mnW ax bx) (mnW ay byy) then decide (IntKind.i64.wrap (r * r) < dtW (mnW bx cx) (mnW byy cy) (mnW bx cx) (mnW byy cy))
 else decide (0 < cmpS (crW (mnW ax bx) (mnW ay byy) (mnW ax cx) (mnW ay cy) * crW (mnW ax bx) (mnW ay byy) (mnW ax cx) (mnW ay cy)) (IntKind.i64.wrap (r * r) * dtW (mnW ax bx) (mnW ay byy) (mnW ax bx) (mnW ay byy)))
theorem dtW_eq {a b c d:Int}:IntKind.i64.wrap (IntKind.i64.wrap (a * c) + IntKind.i64.wrap (b * d)) = dtW a b c d:=rfl
theorem mnW_eq {a b:Int}:IntKind.i64.wrap (b - a) = mnW a b:=rfl
theorem dtW_inR {a b c d:Int}:inR (dtW a b c d):=wrap_inR _
def c107:Con
 | [.agg [.v (.int .i64 ax),.v (.int .i64 ay)],.agg [.v (.int .i64 bx),.v (.int .i64 byy)],.agg [.v (.int .i64 cx),.v (.int .i64 cy)],.v (.int .i64 r)] => some ([],bo (farS ax ay bx byy cx cy r))
 | _ => none
theorem con107:ConOK Tryz.prog 107 c107:=ConOK.of (G:=[(104,c104),(105,c105),(162,c162),(185,c185)]) (H:=[(1,⟨[(12,.made 9),(13,.made 10),(14,.made 11)],[]⟩)]) (.cons con104 (.cons con105 (.cons con162 (.cons con185 .nil)))) Tryz.func107 fun l ob r hc hob => by
 unfold c107 at hc
 split at hc
 ·rename_i r
  cases hc
  refine ⟨by kernel_rfl,fnVC_go (rs:=[.tmp 8]) rfl rfl ?_⟩
  simp only [go_sem,c104,c105,c162,c185]
  simp only [forall_eq,mnW_eq,dtW_eq]
  refine ⟨fun h => ?_,fun h => ⟨fun h2 => ?_,fun h2 => ⟨wrap_inR _,wrap_inR _,wrap_inR _,dtW_inR,?_⟩⟩⟩
  ·unfold farS; rw [if_pos h]
  ·unfold farS; rw [if_neg h,if_pos h2]
  ·unfold farS; rw [if_neg h,if_neg h2]; rfl
 ·cases hc
def k180:Con
 | [.agg [.v (.int .i64 x),.v (.bool e),.v (.int .i64 y),.v (.bool f)],.agg [.v (.int .i64 a),.v (.int .i64 b)],.agg [.v (.int .i64 c),.v (.int .i64 d)]] => some ([inR x,inR y],nbA (vDot ((x,e),(y,f)) (vLoc (mnW a c) (mnW b d))))
 | _ => none
theorem kon180:ConOK Tryz.prog 128 k180:=ConOK.of (G:=[(104,c104),(47,k63),(126,k178)]) (H:=[(1,⟨[(6,.slot 6)],[]⟩)]) (.cons con104 (.cons kon63 (.cons kon178 .nil))) Tryz.func128 fun l ob r hc hob => by
 unfold k180 at hc
 split at hc
 ·rename_i x e y f a b c d
  cases hc
  have h_0:inR x:=hob _ (by simp)
  have h_1:inR y:=hob _ (by simp)
  refine ⟨by kernel_rfl,fnVC_go (rs:=[.cell 6 36]) rfl rfl ?_⟩
  simp only [go_sem,c104,k63,k178]
  simp only [forall_eq]
  exact ⟨wrap_inR _,wrap_inR _,h_0,h_1,rfl⟩
 ·cases hc
def clrS (n:Nat) (X Y:Nat → Int) (m:Nat) (Z T:Nat → Int):Bool:=decide (∃ i,i < n ∧ ∀ j,j < m → turnS (X i) (Y i) (X (nxt n i)) (Y (nxt n i)) (Z j) (T j) < 0)
def outS (n:Nat) (X Y:Nat → Int) (cx cy r:Int):Bool:=decide (inS n X Y cx cy = false ∧ ∀ i,i < n → farS (X i) (Y i) (X (nxt n i)) (Y (nxt n i)) cx cy r = true)
theorem vc108 (n m:Nat) (X Y Z T:Nat → Int) (hX:∀ i,i < n → inR (X i) ∧ inR (Y i)) (hZ:∀ i,i < m → inR (Z i) ∧ inR (T i)) (hn:n ≤ 9223372036854775806) (hm:m ≤ 9223372036854775806) (vX:∀ i,i < n → validS (X i) (Y i) = true) (vZ:∀ i,i < m → validS (Z i) (T i) = true) :
  fnVC Tryz.prog [(86,c86),(85,c85),(1000000 + 161,c161)] [] Tryz.f108 [.agg [.ro n 2 fun i => [i64 (X i),i64 (Y i)]],.agg [.ro m 2 fun i => [i64 (Z i),i64 (T i)]]] (· = bo (clrS n X Y m Z T)):=by
 refine fnVC_go (rs:=[.cell 4 4]) rfl rfl ?_
 simp only [go_sem,c85]
 have hg:spots n fun i => [i64 (X i),i64 (Y i)]:=fun i hi => ⟨rfl,hX i hi⟩
 refine rangeC_go (fun (i:Nat) => i ≤ n ∧ ∀ j,j < i → ¬ ∀ l,l < m → turnS (X j) (Y j) (X (nxt n j)) (Y (nxt n j)) (Z l) (T l) < 0) (fun i => i) (fun _ => []) [2,1,0] [11,12,5,6,13,14,15,16,17,18,19,8,20,21,22,23,24,25,16] 0 0 (N:=n) (sq:=edgeE n fun i => [i64 (X i),i64 (Y i)]) (ob:=[spots n fun i => [i64 (X i),i64 (Y i)],n ≤ 9223372036854775806]) rfl (by simp [hg,hn]) (by kernel_rfl) rfl (fun i _ => ⟨rfl,rfl⟩) ⟨Nat.zero_le _,fun j hj => by omega⟩ rfl ⟨[],?_,?_,?_⟩ ?_ ?_
 ·simp only [go_sem]
 ·simp only [go_sem]
 ·simp [goodNames,asg]
 ·intro i hi hlt
  simp only [go_sem,edgeE,c86]
  refine loopC_go (fun (j:Nat) => j ≤ m ∧ ∀ l,l < j → turnS (X i) (Y i) (X (nxt n i)) (Y (nxt n i)) (Z l) (T l) < 0) (fun j => m - j) (fun j => [(16,i64 j)]) (fun _ => []) [7,5,2,1,0] [17,18,19,8,20,21,22,23,24,25,16] 0 (by kernel_rfl) ?_ ⟨Nat.zero_le _,fun l hl => by omega⟩ ?_ ?_
  ·intro x _; simp [goodNames]
  ·simp only [go_sem]
  intro j hj
  simp only [go_sem,c86]
  refine ⟨fun hin => ⟨by omega,hin,fun z hz => ⟨vX i hlt,vX _ (nxt_lt hlt),vZ j (by omega),fun h => ⟨i + 1,⟨by have:i < n:=hlt; omega,fun j' hj' => ?_⟩,rfl,[],?_⟩,fun h z1 hz1 => ⟨j + 1,⟨by omega,fun l hl => ?_⟩,by omega,?_⟩⟩⟩,fun hin => ?_⟩
  ·by_cases e:j' = i
   ·subst e
    intro hc
    have:=hc j (by omega)
    omega
   ·exact hi.2 j' (by omega)
  ·simp [goodNames]
  ·by_cases e:l = j
   ·subst e; omega
   ·exact hj.2 l (by omega)
  ·rw [hz1,wrap_in (by unfold inR; omega)]; rfl
  ·exact (decide_eq_true (show ∃ i,_ from ⟨i,hlt,fun l hl => hj.2 l (by omega)⟩)).symm
 ·intro i hi he
  simp only [go_sem]
  refine (decide_eq_false (fun ⟨j,hj,hc⟩ => hi.2 j (by omega) hc)).symm
def c108:Con
 | [.agg [.ro n 2 g],.agg [.ro m 2 g']] => some ([spots n g,spots m g',n ≤ 9223372036854775806,m ≤ 9223372036854775806,∀ i,i < n → validS (gx g 0 i) (gx g 1 i) = true,∀ i,i < m → validS (gx g' 0 i) (gx g' 1 i) = true],bo (clrS n (gx g 0) (gx g 1) m (gx g' 0) (gx g' 1)))
 | _ => none
theorem con108:ConOK Tryz.prog 108 c108:=ConOK.go (G:=[(86,c86),(85,c85),(1000000 + 161,c161)]) (H:=[]) (.cons con86 (.cons con85 (.seq seq161 .nil))) Tryz.func108 fun l ob rr hc hob => by
 unfold c108 at hc
 split at hc
 ·rename_i n g m g'
  cases hc
  have hs:spots n g:=hob _ (by simp)
  have hs':spots m g':=hob _ (by simp)
  exact ⟨[.agg [.ro n 2 fun i => [i64 (gx g 0 i),i64 (gx g 1 i)]],.agg [.ro m 2 fun i => [i64 (gx g' 0 i),i64 (gx g' 1 i)]]],fun w I vs h => Rs_two (Rs_poly hs) (Rs_poly hs') h,by kernel_rfl,vc108 n m _ _ _ _ (fun i hi => (hs i hi).2) (fun i hi => (hs' i hi).2) (hob _ (by simp)) (hob _ (by simp)) (hob _ (by simp)) (hob _ (by simp))⟩
 ·cases hc
end Go.Ax
end
section
/-
  Whether forms are apart.
-/
set_option maxHeartbeats 4000000
set_option maxRecDepth 100000
namespace Go.Ax
open Go.Proofs
def ddS (x y r a b s:Int):Bool:=decide (IntKind.i64.wrap (IntKind.i64.wrap (r + s) * IntKind.i64.wrap (r + s)) < dtW (mnW x a) (mnW y b) (mnW x a) (mnW y b))
theorem Rs_if {w:World} {ρ:Env} {t:TypeId} {a a':AV} (h:∀ v,R w ρ a v → R w ρ a' v) (v:Value) (hR:R w ρ (.iface t a) v):R w ρ (.iface t a') v:=by
 cases hR with
 | iface hh => exact .iface (h _ hh)
def c90a:Con
 | [.iface 112 (.agg [.ro n 2 g]),.iface 107 (.agg [.v (.int .i64 x),.v (.int .i64 y),.v (.int .i64 r)])] => some ([spots n g,n ≤ 9223372036854775806,∀ i,i < n → validS (gx g 0 i) (gx g 1 i) = true,validS x y = true],bo (outS n (gx g 0) (gx g 1) x y r))
 | _ => none
theorem vc90a (n:Nat) (X Y:Nat → Int) (x y r:Int) (hX:∀ i,i < n → inR (X i) ∧ inR (Y i)) (hn:n ≤ 9223372036854775806) (vX:∀ i,i < n → validS (X i) (Y i) = true) (vC:validS x y = true) :
  fnVC Tryz.prog [(85,c85),(1000000 + 161,c161),(106,c106),(107,c107)] [(8,⟨[(15,.slot 4)],[]⟩)] Tryz.f58 [.iface 112 (.agg [.ro n 2 fun i => [i64 (X i),i64 (Y i)]]),.iface 107 (.agg [i64 x,i64 y,i64 r])] (· = bo (outS n X Y x y r)):=by
 refine fnVC_go (rs:=[.cell 4 4]) rfl rfl ?_
 simp only [go_sem,c85,c106]
 simp only [false_imp_iff,true_imp_iff,reduceCtorEq,true_and,and_true,Bool.false_eq_true]
 have hg:spots n fun i => [i64 (X i),i64 (Y i)]:=fun i hi => ⟨rfl,hX i hi⟩
 intro z hz
 refine ⟨hg,hn,vX,vC,fun h => ?_,fun h => ?_⟩
 ·refine (decide_eq_false fun hq => ?_).symm
  have hz:z = inS n X Y x y:=hz
  rw [← hz,h] at hq
  exact absurd hq.1 (by simp)
 refine rangeC_go (fun (i:Nat) => i ≤ n ∧ ∀ j,j < i → farS (X j) (Y j) (X (nxt n j)) (Y (nxt n j)) x y r = true) (fun i => i) (fun _ => []) [14,8,0] [63,64,11,12,65,66,67,68,69,70,71,72] 0 0 (N:=n) (sq:=edgeE n fun i => [i64 (X i),i64 (Y i)]) (ob:=[spots n fun i => [i64 (X i),i64 (Y i)],n ≤ 9223372036854775806]) rfl (by simp [hg,hn]) (by kernel_rfl) rfl (fun i _ => ⟨rfl,rfl⟩) ⟨Nat.zero_le _,fun j hj => by omega⟩ rfl ⟨[],?_,?_,?_⟩ ?_ ?_
 ·simp only [go_sem]
 ·simp only [go_sem]
 ·simp [goodNames,asg]
 ·intro i hi hlt
  simp only [go_sem,edgeE,c107]
  refine fun z1 hz1 => ⟨fun h2 => ?_,fun h2 => ⟨i + 1,⟨by have:i < n:=hlt; omega,fun j hj => ?_⟩,rfl,[],?_⟩⟩
  ·refine (decide_eq_false fun hq => ?_).symm
   have:=hq.2 i hlt
   rw [← hz1,h2] at this; cases this
  ·by_cases e:j = i
   ·subst e; rw [← hz1]; exact h2
   ·exact hi.2 j (by omega)
  ·simp [goodNames]
 ·intro i hi he
  simp only [go_sem]
  have hz:z = inS n X Y x y:=hz
  exact (decide_eq_true ⟨by rw [← hz,h],fun j hj => hi.2 j (by omega)⟩).symm
theorem con90a:ConOK Tryz.prog 58 c90a:=ConOK.go (G:=[(85,c85),(1000000 + 161,c161),(106,c106),(107,c107)]) (H:=[(8,⟨[(15,.slot 4)],[]⟩)]) (.cons con85 (.seq seq161 (.cons con106 (.cons con107 .nil)))) Tryz.func58 fun l ob rr hc hob => by
 unfold c90a at hc
 split at hc
 ·rename_i n g x y r
  cases hc
  have hs:spots n g:=hob _ (by simp)
  refine ⟨[.iface 112 (.agg [.ro n 2 fun i => [i64 (gx g 0 i),i64 (gx g 1 i)]]),.iface 107 (.agg [i64 x,i64 y,i64 r])],fun w I vs h => Rs_two (Rs_if (Rs_poly hs)) (fun v h => h) h,by kernel_rfl,vc90a n _ _ x y r (fun i hi => (hs i hi).2) (hob _ (by simp)) (hob _ (by simp)) (hob _ (by simp))⟩
 ·cases hc
theorem vc90d (x y r a b s:Int) :
  fnVC Tryz.prog [(104,c104),(105,c105)] [(8,⟨[(15,.slot 4)],[]⟩)] Tryz.f58 [.iface 107 (.agg [i64 x,i64 y,i64 r]),.iface 107 (.agg [i64 a,i64 b,i64 s])] (· = bo (ddS x y r a b s)):=by
 refine fnVC_go (rs:=[.cell 4 4]) rfl rfl ?_
 simp only [go_sem,c104,c105]
 simp only [false_imp_iff,true_imp_iff,reduceCtorEq,true_and,and_true,Bool.false_eq_true]
 simp only [forall_eq]
 rfl
theorem vc90e (n:Nat) (g:Nat → List AV) (x y r:Int) (hg:spots n g) (hn:n ≤ 9223372036854775806) (vX:∀ i,i < n → validS (gx g 0 i) (gx g 1 i) = true) (vC:validS x y = true) :
  fnVC Tryz.prog [(58,c90a)] [(8,⟨[(15,.slot 4)],[]⟩)] Tryz.f58 [.iface 107 (.agg [i64 x,i64 y,i64 r]),.iface 112 (.agg [.ro n 2 g])] (· = bo (outS n (gx g 0) (gx g 1) x y r)):=by
 refine fnVC_go (rs:=[.cell 4 4]) rfl rfl ?_
 simp only [go_sem,c90a]
 simp only [false_imp_iff,true_imp_iff,reduceCtorEq,true_and,and_true,Bool.false_eq_true]
 exact fun z hz => ⟨hg,hn,vX,vC,hz⟩
theorem vc90f (n:Nat) (g:Nat → List AV) (m:Nat) (g':Nat → List AV) (hg:spots n g) (hn:n ≤ 9223372036854775806) (vX:∀ i,i < n → validS (gx g 0 i) (gx g 1 i) = true) (hg':spots m g') (hm:m ≤ 9223372036854775806) (vZ:∀ i,i < m → validS (gx g' 0 i) (gx g' 1 i) = true) :
  fnVC Tryz.prog [(108,c108)] [(8,⟨[(15,.slot 4)],[]⟩)] Tryz.f58 [.iface 112 (.agg [.ro n 2 g]),.iface 112 (.agg [.ro m 2 g'])] (· = bo (clrS n (gx g 0) (gx g 1) m (gx g' 0) (gx g' 1) || clrS m (gx g' 0) (gx g' 1) n (gx g 0) (gx g 1))):=by
 refine fnVC_go (rs:=[.cell 4 4]) rfl rfl ?_
 simp only [go_sem,c108]
 simp only [false_imp_iff,true_imp_iff,reduceCtorEq,true_and,and_true,Bool.false_eq_true]
 exact fun z hz => ⟨hg,hg',hn,hm,vX,vZ,fun z1 hz1 => ⟨fun _ => hg',fun _ => hg,fun _ => hm,fun _ => hn,fun _ => vZ,fun _ => vX,by rw [hz,hz1]⟩⟩
def c90d:Con
 | [.iface 107 (.agg [.v (.int .i64 x),.v (.int .i64 y),.v (.int .i64 r)]),.iface 107 (.agg [.v (.int .i64 a),.v (.int .i64 b),.v (.int .i64 s)])] => some ([],bo (ddS x y r a b s))
 | _ => none
theorem con90d:ConOK Tryz.prog 58 c90d:=ConOK.go (G:=[(104,c104),(105,c105)]) (H:=[(8,⟨[(15,.slot 4)],[]⟩)]) (.cons con104 (.cons con105 .nil)) Tryz.func58 fun l ob rr hc hob => by
 unfold c90d at hc
 split at hc
 ·rename_i x y r a b s
  cases hc
  exact ⟨_,fun w I vs h => h,by kernel_rfl,vc90d x y r a b s⟩
 ·cases hc
def c90e:Con
 | [.iface 107 (.agg [.v (.int .i64 x),.v (.int .i64 y),.v (.int .i64 r)]),.iface 112 (.agg [.ro n 2 g])] => some ([spots n g,n ≤ 9223372036854775806,∀ i,i < n → validS (gx g 0 i) (gx g 1 i) = true,validS x y = true],bo (outS n (gx g 0) (gx g 1) x y r))
 | _ => none
theorem con90e:ConOK Tryz.prog 58 c90e:=ConOK.go (G:=[(58,c90a)]) (H:=[(8,⟨[(15,.slot 4)],[]⟩)]) (.cons con90a .nil) Tryz.func58 fun l ob rr hc hob => by
 unfold c90e at hc
 split at hc
 ·rename_i x y r n g
  cases hc
  exact ⟨_,fun w I vs h => h,by kernel_rfl,vc90e n g x y r (hob _ (by simp)) (hob _ (by simp)) (hob _ (by simp)) (hob _ (by simp))⟩
 ·cases hc
def c90f:Con
 | [.iface 112 (.agg [.ro n 2 g]),.iface 112 (.agg [.ro m 2 g'])] => some ([spots n g,n ≤ 9223372036854775806,∀ i,i < n → validS (gx g 0 i) (gx g 1 i) = true,spots m g',m ≤ 9223372036854775806,∀ i,i < m → validS (gx g' 0 i) (gx g' 1 i) = true],bo (clrS n (gx g 0) (gx g 1) m (gx g' 0) (gx g' 1) || clrS m (gx g' 0) (gx g' 1) n (gx g 0) (gx g 1)))
 | _ => none
theorem con90f:ConOK Tryz.prog 58 c90f:=ConOK.go (G:=[(108,c108)]) (H:=[(8,⟨[(15,.slot 4)],[]⟩)]) (.cons con108 .nil) Tryz.func58 fun l ob rr hc hob => by
 unfold c90f at hc
 split at hc
 ·rename_i n g m g'
  cases hc
  exact ⟨_,fun w I vs h => h,by kernel_rfl,vc90f n g m g' (hob _ (by simp)) (hob _ (by simp)) (hob _ (by simp)) (hob _ (by simp)) (hob _ (by simp)) (hob _ (by simp))⟩
 ·cases hc
def c58 (l:List AV):Option (List Prop × AV):=match l with
 | [.iface 112 _,.iface 107 _] => c90a l
 | [.iface 107 _,.iface 112 _] => c90e l
 | [.iface 107 _,.iface 107 _] => c90d l
 | [.iface 112 _,.iface 112 _] => c90f l
 | [.iface 107 _,.v .nilIface] => some ([False],bo false)
 | [.iface 112 _,.v .nilIface] => some ([False],bo false)
 | [.v .nilIface,.iface 107 _] => some ([False],bo false)
 | [.v .nilIface,.iface 112 _] => some ([False],bo false)
 | [.v .nilIface,.v .nilIface] => some ([False],bo false)
 | _ => none
theorem con58:ConOK Tryz.prog 58 c58:=fun l ob rr hc hob => by
 unfold c58 at hc
 split at hc
 ·exact con90a _ _ _ hc hob
 ·exact con90e _ _ _ hc hob
 ·exact con90d _ _ _ hc hob
 ·exact con90f _ _ _ hc hob
 ·cases hc; exact (hob False (by simp)).elim
 ·cases hc; exact (hob False (by simp)).elim
 ·cases hc; exact (hob False (by simp)).elim
 ·cases hc; exact (hob False (by simp)).elim
 ·cases hc; exact (hob False (by simp)).elim
 ·cases hc
end Go.Ax
end
section
/-
  Whether forms are apart: the two.
-/
set_option maxHeartbeats 4000000
set_option maxRecDepth 100000
namespace Go.Ax
open Go.Proofs
def apS (k x y r:Int) (n:Nat) (X Y:Nat → Int) (k' x' y' r':Int) (m:Nat) (Z T:Nat → Int):Bool:=
 if checkS k x y r n X Y = 0 ∧ checkS k' x' y' r' m Z T = 0 then
  (if k = 1 then (if k' = 1 then ddS x y r x' y' r' else outS m Z T x y r) else if k' = 1 then outS n X Y x' y' r' else (clrS n X Y m Z T || clrS m Z T n X Y))
 else false
def bothS (k x y r:Int) (n:Nat) (g:Nat → List AV) (k' x' y' r':Int) (m:Nat) (g':Nat → List AV):AV:=if checkS k x y r n (gx g 0) (gx g 1) = 0 then (if k = 1 then (if checkS k' x' y' r' m (gx g' 0) (gx g' 1) = 0 then (if k' = 1 then .tup [.iface 107 (.agg [i64 x,i64 y,i64 r]),.iface 107 (.agg [i64 x',i64 y',i64 r']),bo true] else .tup [.iface 107 (.agg [i64 x,i64 y,i64 r]),.iface 112 (.agg [.ro m 2 g']),bo true]) else .tup [.iface 107 (.agg [i64 x,i64 y,i64 r]),.v .nilIface,bo false]) else (if checkS k' x' y' r' m (gx g' 0) (gx g' 1) = 0 then (if k' = 1 then .tup [.iface 112 (.agg [.ro n 2 g]),.iface 107 (.agg [i64 x',i64 y',i64 r']),bo true] else .tup [.iface 112 (.agg [.ro n 2 g]),.iface 112 (.agg [.ro m 2 g']),bo true]) else .tup [.iface 112 (.agg [.ro n 2 g]),.v .nilIface,bo false])) else (if checkS k' x' y' r' m (gx g' 0) (gx g' 1) = 0 then (if k' = 1 then .tup [.v .nilIface,.iface 107 (.agg [i64 x',i64 y',i64 r']),bo false] else .tup [.v .nilIface,.iface 112 (.agg [.ro m 2 g']),bo false]) else .tup [.v .nilIface,.v .nilIface,bo false])
def c57:Con
 | [.agg [.v (.int .i64 k),.v (.int .i64 x),.v (.int .i64 y),.v (.int .i64 r),.ro n 2 g],.agg [.v (.int .i64 k'),.v (.int .i64 x'),.v (.int .i64 y'),.v (.int .i64 r'),.ro m 2 g']] => some ([spots n g,spots m g',n ≤ 9223372036854775806,m ≤ 9223372036854775806,inR x,inR y,inR r,inR x',inR y',inR r'],
   bothS k x y r n g k' x' y' r' m g')
 | _ => none
theorem vc57 (k x y r:Int) (n:Nat) (g:Nat → List AV) (k' x' y' r':Int) (m:Nat) (g':Nat → List AV) (hg:spots n g) (hg':spots m g') (hn:n ≤ 9223372036854775806) (hm:m ≤ 9223372036854775806) (h1:inR x) (h2:inR y) (h3:inR r) (h4:inR x') (h5:inR y') (h6:inR r') :
  fnVC Tryz.prog [(53,c53)] [] Tryz.f57 [formA k x y r n g,formA k' x' y' r' m g'] (· = bothS k x y r n g k' x' y' r' m g'):=by
 refine fnVC_go (rs:=[.tmp 4,.tmp 5,.tmp 6]) rfl rfl ?_
 simp only [go_sem,c53]
 exact ⟨fun hA => ⟨fun hk => ⟨hg,hn,h1,h2,h3,fun hB => ⟨fun hk' => ⟨hg',hm,h4,h5,h6,by unfold bothS; rw [if_pos hA,if_pos hk,if_pos hB,if_pos hk']⟩,fun hk' => ⟨hg',hm,h4,h5,h6,by unfold bothS; rw [if_pos hA,if_pos hk,if_pos hB,if_neg hk']⟩⟩,fun hB => ⟨hg',hm,h4,h5,h6,by unfold bothS; rw [if_pos hA,if_pos hk,if_neg hB]⟩⟩,fun hk => ⟨hg,hn,h1,h2,h3,fun hB => ⟨fun hk' => ⟨hg',hm,h4,h5,h6,by unfold bothS; rw [if_pos hA,if_neg hk,if_pos hB,if_pos hk']⟩,fun hk' => ⟨hg',hm,h4,h5,h6,by unfold bothS; rw [if_pos hA,if_neg hk,if_pos hB,if_neg hk']⟩⟩,fun hB => ⟨hg',hm,h4,h5,h6,by unfold bothS; rw [if_pos hA,if_neg hk,if_neg hB]⟩⟩⟩,fun hA => ⟨hg,hn,h1,h2,h3,fun hB => ⟨fun hk' => ⟨hg',hm,h4,h5,h6,by unfold bothS; rw [if_neg hA,if_pos hB,if_pos hk']⟩,fun hk' => ⟨hg',hm,h4,h5,h6,by unfold bothS; rw [if_neg hA,if_pos hB,if_neg hk']⟩⟩,fun hB => ⟨hg',hm,h4,h5,h6,by unfold bothS; rw [if_neg hA,if_neg hB]⟩⟩⟩
theorem con57:ConOK Tryz.prog 57 c57:=ConOK.go (G:=[(53,c53)]) (H:=[]) (.cons con53 .nil) Tryz.func57 fun l ob rr hc hob => by
 unfold c57 at hc
 split at hc
 ·rename_i k x y r n g k' x' y' r' m g'
  cases hc
  exact ⟨_,fun w I vs h => h,by kernel_rfl,vc57 k x y r n g k' x' y' r' m g' (hob _ (by simp)) (hob _ (by simp)) (hob _ (by simp)) (hob _ (by simp)) (hob _ (by simp)) (hob _ (by simp)) (hob _ (by simp)) (hob _ (by simp)) (hob _ (by simp)) (hob _ (by simp))⟩
 ·cases hc
theorem vc24 (k x y r:Int) (n:Nat) (g:Nat → List AV) (k' x' y' r':Int) (m:Nat) (g':Nat → List AV) (hg:spots n g) (hg':spots m g') (hn:n ≤ 9223372036854775806) (hm:m ≤ 9223372036854775806) (h1:inR x) (h2:inR y) (h3:inR r) (h4:inR x') (h5:inR y') (h6:inR r') :
  fnVC Tryz.prog [(57,c57),(58,c58)] [] Tryz.f24 [formA k x y r n g,formA k' x' y' r' m g'] (· = bo (apS k x y r n (gx g 0) (gx g 1) k' x' y' r' m (gx g' 0) (gx g' 1))):=by
 refine fnVC_go (rs:=[.tmp 4]) rfl rfl ?_
 simp only [go_sem,c57,bothS,c58,c90a,c90d,c90e,c90f]
 refine ⟨fun hA => ⟨fun hk => ⟨fun hB => ⟨fun hk' => ?_,fun hk' => ?_⟩,fun hB => ?_⟩,fun hk => ⟨fun hB => ⟨fun hk' => ?_,fun hk' => ?_⟩,fun hB => ?_⟩⟩,fun hA => ⟨fun hB => ⟨fun hk' => ?_,fun hk' => ?_⟩,fun hB => ?_⟩⟩
 ·exact fun z hz => ⟨hg,hg',hn,hm,h1,h2,h3,h4,h5,h6,fun z1 hz1 => by rw [hz,hz1,Bool.true_and]; unfold apS; rw [if_pos ⟨hA,hB⟩,if_pos hk,if_pos hk']⟩
 ·exact fun z hz => ⟨hg,hg',hn,hm,h1,h2,h3,h4,h5,h6,fun z1 hz1 => ⟨fun _ => hg',fun _ => hm,fun _ => (check_1 hB).2.2.1,fun _ => (check_1 hA).2.1,by rw [hz,hz1,Bool.true_and]; unfold apS; rw [if_pos ⟨hA,hB⟩,if_pos hk,if_neg hk']⟩⟩
 ·exact fun z hz => ⟨hg,hg',hn,hm,h1,h2,h3,h4,h5,h6,fun z1 hz1 => ⟨fun h => (by rw [hz] at h; cases h),by rw [hz,Bool.false_and]; unfold apS; rw [if_neg (fun q => hB q.2)]⟩⟩
 ·exact fun z hz => ⟨hg,hg',hn,hm,h1,h2,h3,h4,h5,h6,fun z1 hz1 => ⟨fun _ => hg,fun _ => hn,fun _ => (check_1 hA).2.2.1,fun _ => (check_1 hB).2.1,by rw [hz,hz1,Bool.true_and]; unfold apS; rw [if_pos ⟨hA,hB⟩,if_neg hk,if_pos hk']⟩⟩
 ·exact fun z hz => ⟨hg,hg',hn,hm,h1,h2,h3,h4,h5,h6,fun z1 hz1 => ⟨fun _ => hg,fun _ => hn,fun _ => (check_1 hA).2.2.1,fun _ => hg',fun _ => hm,fun _ => (check_1 hB).2.2.1,by rw [hz,hz1,Bool.true_and]; unfold apS; rw [if_pos ⟨hA,hB⟩,if_neg hk,if_neg hk']⟩⟩
 ·exact fun z hz => ⟨hg,hg',hn,hm,h1,h2,h3,h4,h5,h6,fun z1 hz1 => ⟨fun h => (by rw [hz] at h; cases h),by rw [hz,Bool.false_and]; unfold apS; rw [if_neg (fun q => hB q.2)]⟩⟩
 ·exact fun z hz => ⟨hg,hg',hn,hm,h1,h2,h3,h4,h5,h6,fun z1 hz1 => ⟨fun h => (by rw [hz] at h; cases h),by rw [hz,Bool.false_and]; unfold apS; rw [if_neg (fun q => hA q.1)]⟩⟩
 ·exact fun z hz => ⟨hg,hg',hn,hm,h1,h2,h3,h4,h5,h6,fun z1 hz1 => ⟨fun h => (by rw [hz] at h; cases h),by rw [hz,Bool.false_and]; unfold apS; rw [if_neg (fun q => hA q.1)]⟩⟩
 ·exact fun z hz => ⟨hg,hg',hn,hm,h1,h2,h3,h4,h5,h6,fun z1 hz1 => ⟨fun h => (by rw [hz] at h; cases h),by rw [hz,Bool.false_and]; unfold apS; rw [if_neg (fun q => hA q.1)]⟩⟩
def c24:Con
 | [.agg [.v (.int .i64 k),.v (.int .i64 x),.v (.int .i64 y),.v (.int .i64 r),.ro n 2 g],.agg [.v (.int .i64 k'),.v (.int .i64 x'),.v (.int .i64 y'),.v (.int .i64 r'),.ro m 2 g']] => some ([spots n g,spots m g',n ≤ 9223372036854775806,m ≤ 9223372036854775806,inR x,inR y,inR r,inR x',inR y',inR r'],
   bo (apS k x y r n (gx g 0) (gx g 1) k' x' y' r' m (gx g' 0) (gx g' 1)))
 | _ => none
theorem con24:ConOK Tryz.prog 24 c24:=ConOK.go (G:=[(57,c57),(58,c58)]) (H:=[]) (.cons con57 (.cons con58 .nil)) Tryz.func24 fun l ob rr hc hob => by
 unfold c24 at hc
 split at hc
 ·rename_i k x y r n g k' x' y' r' m g'
  cases hc
  exact ⟨_,fun w I vs h => h,by kernel_rfl,vc24 k x y r n g k' x' y' r' m g' (hob _ (by simp)) (hob _ (by simp)) (hob _ (by simp)) (hob _ (by simp)) (hob _ (by simp)) (hob _ (by simp)) (hob _ (by simp)) (hob _ (by simp)) (hob _ (by simp)) (hob _ (by simp))⟩
 ·cases hc
end Go.Ax
end
section
/-
  The gap between an edge and a form.
-/
set_option maxHeartbeats 4000000
set_option maxRecDepth 100000
namespace Go.Ax
open Go.Proofs
def hgt (a b c d x y:Int):Nb:=vDot (vNorm a b c d) (vLoc (mnW a x) (mnW b y))
def mnN (h:Nat → Nb):Nat → Nb
 | 0 => h 0
 | n + 1 => nMn (mnN h n) (h (n + 1))
theorem hgt_rg {a b c d x y:Int}:rg (hgt a b c d x y).1:=nDot_rg
theorem mnN_step {h:Nat → Nb} {n:Nat} (h1:rg (mnN h n).1) (h2:rg (h (n + 1)).1):mnN h (n + 1) = (if (h (n + 1)).1 < (mnN h n).1 then (h (n + 1)).1 else (mnN h n).1,(mnN h n).2 || (h (n + 1)).2):=by
 show nMn (mnN h n) (h (n + 1)) = _
 unfold nMn
 rw [whV_of h1,whV_of h2,whF_of h1,whF_of h2]
theorem mnN_rg {h:Nat → Nb} (hr:∀ i,rg (h i).1):∀ n,rg (mnN h n).1
 | 0 => hr 0
 | n + 1 => by
  have h1:=mnN_rg hr n
  have h2:=hr (n + 1)
  rw [mnN_step h1 h2]
  dsimp only
  split
  ·exact h2
  ·exact h1
theorem mn_ex {h:Nat → Nb} (hr:∀ i,rg (h i).1):∀ k,exS 1 (h 0).1 (fun i => (h (i + 1)).1) k = (mnN h k).1
 | 0 => rfl
 | k + 1 => by
  rw [mnN_step (mnN_rg hr k) (hr (k + 1))]
  have ih:=mn_ex hr k
  unfold exS
  rw [ih]
  by_cases q:(h (k + 1)).1 < (mnN h k).1
  ·rw [if_pos (.inl ⟨rfl,q⟩)]; dsimp only; rw [if_pos q]
  ·rw [if_neg (by rintro (q1 | q1); exact q q1.2; exact absurd q1.1 (by omega))]; dsimp only; rw [if_neg q]
theorem mn_fl {h:Nat → Nb} (hr:∀ i,rg (h i).1):∀ k,anyB (fun i => (h i).2) (k + 1) = (mnN h k).2
 | 0 => by unfold anyB anyB; rw [Bool.false_or]; rfl
 | k + 1 => by
  rw [mnN_step (mnN_rg hr k) (hr (k + 1)),← mn_fl hr k]
  rfl
theorem vc159d (a b c d x y r:Int) (h1:inR r) (v1:validS a b = true) (v2:validS c d = true) :
  fnVC Tryz.prog [(112,k160),(113,k162),(120,k173),(128,k180)] [(5,⟨[(9,.slot 6)],[]⟩)] Tryz.f121 [.agg [i64 a,i64 b],.agg [i64 c,i64 d],.iface 107 (.agg [i64 x,i64 y,i64 r])] (· = nbA (nSub (hgt a b c d x y) (nRat r 256))):=by
 refine fnVC_go (rs:=[.cell 6 36]) rfl rfl ?_
 simp only [go_sem,k160,k162,k173,k180]
 simp only [false_imp_iff,true_imp_iff,reduceCtorEq,true_and,and_true,Bool.false_eq_true]
 exact ⟨v1,v2,h1,rfl⟩
theorem vc159p (a b c d:Int) (n:Nat) (X Y:Nat → Int) (hX:∀ i,i < n → inR (X i) ∧ inR (Y i)) (hn:n ≤ 1000) (v1:validS a b = true) (v2:validS c d = true) (h0:0 < n) :
  fnVC Tryz.prog [(120,k173),(128,k180),(188,c188)] [(5,⟨[(9,.slot 6)],[]⟩)] Tryz.f121 [.agg [i64 a,i64 b],.agg [i64 c,i64 d],.iface 112 (.agg [.ro n 2 fun i => [i64 (X i),i64 (Y i)]])] (· = nbA (mnN (fun j => hgt a b c d (X j) (Y j)) (n - 1))):=by
 refine fnVC_go (rs:=[.cell 6 36]) rfl rfl ?_
 simp only [go_sem,k160,k162,k173,k180]
 simp only [false_imp_iff,true_imp_iff,reduceCtorEq,true_and,and_true,Bool.false_eq_true]
 have hb:bytesT Tryz.prog 36 = 16:=by kernel_rfl
 rw [hb]
 refine ⟨v1,v2,by omega,by omega,by omega,?_⟩
 refine loopC_go (fun (i:Nat) => i ≤ n) (fun i => n - i) (fun i => [(39,i64 i)]) (fun i => [(20,famN n 2 36 (fun j => [i64 (uptN i (fun l => (hgt a b c d (X l) (Y l)).1) j),bo (decide (j < i) && (hgt a b c d (X j) (Y j)).2)]) none)]) [15,6,2,1,0] [40,41,42,43,12,11,44,45,46,47,48,49,50,51,39] 0 (by kernel_rfl) ?_ (Nat.zero_le _) ?_ ?_
 ·intro x _; simp [goodNames,asg]
 ·simp only [go_sem,uptN_zero,implies_true,true_and]
  intro i hi
  rw [decide_eq_false (by omega),Bool.false_and]
 intro i hi
 simp only [go_sem,k180,c188]
 refine ⟨fun hin => ⟨by omega,hin,by omega,hin,by omega,fun z hz => ⟨i + 1,by omega,by omega,by rw [hz,wrap_in (by unfold inR; omega)]; rfl,fun j hj => ?_⟩⟩,fun hin z hz z1 hz1 => ?_⟩
 ·by_cases e:j = i
  ·subst e
   rw [if_pos rfl]
   simp only [go_sem,uptN_self]
   exact ⟨rfl,by rw [decide_eq_true (by omega),Bool.true_and]; rfl⟩
  ·rw [if_neg e]
   have h1:∀ Z,uptN (i + 1) Z j = uptN i Z j:=fun Z => uptN_ne e
   have h2:decide (j < i + 1) = decide (j < i):=by rw [decide_eq_decide]; omega
   simp only [go_sem,h1,h2]
 ·have e:i = n:=by omega
  subst e
  have hr:∀ j,rg ((fun j => hgt a b c d (X j) (Y j)) j).1:=fun _ => hgt_rg
  have u:∀ j,j < i → uptN i (fun l => (hgt a b c d (X l) (Y l)).1) j = (hgt a b c d (X j) (Y j)).1:=fun j hj => uptN_lt hj
  refine ⟨fun j hj => ⟨rfl,?_⟩,hn,?_⟩
  ·show inR (uptN i (fun l => (hgt a b c d (X l) (Y l)).1) j)
   rw [u j hj]; exact rg_inR hgt_rg
  ·have e1:z = (mnN (fun j => hgt a b c d (X j) (Y j)) (i - 1)).1:=by
    rw [hz,← mn_ex hr (i - 1)]
    unfold moV msS
    rw [if_neg (by omega)]
    have w:∀ j,j < i → wvS (fun l => [AV.v (Value.int IntKind.i64 (uptN i (fun l => (hgt a b c d (X l) (Y l)).1) l)),AV.v (Value.bool (decide (l < i) && (hgt a b c d (X l) (Y l)).2))]) j = (hgt a b c d (X j) (Y j)).1:=fun j hj => by
     show whV (uptN i (fun l => (hgt a b c d (X l) (Y l)).1) j) = _
     rw [u j hj,whV_of hgt_rg]
    rw [w 0 (by omega)]
    exact exS_congr fun j hj => w (j + 1) (by omega)
   have e2:z1 = (mnN (fun j => hgt a b c d (X j) (Y j)) (i - 1)).2:=by
    rw [hz1,← mn_fl hr (i - 1)]
    unfold wfS
    rw [show i - 1 + 1 = i by omega]
    refine anyB_congr fun j hj => ?_
    show whF (uptN i (fun l => (hgt a b c d (X l) (Y l)).1) j) (decide (j < i) && (hgt a b c d (X j) (Y j)).2) = _
    rw [u j hj,whF_of hgt_rg,decide_eq_true hj,Bool.true_and]
   rw [e1,e2]; rfl
def k159d:Con
 | [.agg [.v (.int .i64 a),.v (.int .i64 b)],.agg [.v (.int .i64 c),.v (.int .i64 d)],.iface 107 (.agg [.v (.int .i64 x),.v (.int .i64 y),.v (.int .i64 r)])] => some ([inR r,validS a b = true,validS c d = true],nbA (nSub (hgt a b c d x y) (nRat r 256)))
 | _ => none
theorem kon159d:ConOK Tryz.prog 121 k159d:=ConOK.go (G:=[(112,k160),(113,k162),(120,k173),(128,k180)]) (H:=[(5,⟨[(9,.slot 6)],[]⟩)]) (.cons kon160 (.cons kon162 (.cons kon173 (.cons kon180 .nil)))) Tryz.func121 fun l ob rr hc hob => by
 unfold k159d at hc
 split at hc
 ·rename_i a b c d x y r
  cases hc
  exact ⟨_,fun w I vs h => h,by kernel_rfl,vc159d a b c d x y r (hob _ (by simp)) (hob _ (by simp)) (hob _ (by simp))⟩
 ·cases hc
def k159p:Con
 | [.agg [.v (.int .i64 a),.v (.int .i64 b)],.agg [.v (.int .i64 c),.v (.int .i64 d)],.iface 112 (.agg [.ro n 2 g])] => some ([spots n g,n ≤ 1000,validS a b = true,validS c d = true,0 < n],nbA (mnN (fun j => hgt a b c d (gx g 0 j) (gx g 1 j)) (n - 1)))
 | _ => none
theorem kon159p:ConOK Tryz.prog 121 k159p:=ConOK.go (G:=[(120,k173),(128,k180),(188,c188)]) (H:=[(5,⟨[(9,.slot 6)],[]⟩)]) (.cons kon173 (.cons kon180 (.cons con188 .nil))) Tryz.func121 fun l ob rr hc hob => by
 unfold k159p at hc
 split at hc
 ·rename_i a b c d n g
  cases hc
  have hs:spots n g:=hob _ (by simp)
  refine ⟨[.agg [i64 a,i64 b],.agg [i64 c,i64 d],.iface 112 (.agg [.ro n 2 fun i => [i64 (gx g 0 i),i64 (gx g 1 i)]])],fun w I vs h => ?_,by kernel_rfl,vc159p a b c d n _ _ (fun i hi => (hs i hi).2) (hob _ (by simp)) (hob _ (by simp)) (hob _ (by simp)) (hob _ (by simp))⟩
  obtain ⟨x1,xs,rfl,p1,p2⟩:=h.inv
  obtain ⟨x2,ys,rfl,p3,p4⟩:=p2.inv
  exact .cons p1 (.cons p3 (Rs_one (Rs_if (Rs_poly hs)) p4))
 ·cases hc
def k159 (l:List AV):Option (List Prop × AV):=match l with
 | [_,_,.iface 107 _] => k159d l
 | [_,_,.iface 112 _] => k159p l
 | _ => none
theorem kon159:ConOK Tryz.prog 121 k159:=fun l ob rr hc hob => by
 unfold k159 at hc
 split at hc
 ·exact kon159d _ _ _ hc hob
 ·exact kon159p _ _ _ hc hob
 ·cases hc
end Go.Ax
end
section
/-
  The axis between forms.
-/
set_option maxHeartbeats 4000000
set_option maxRecDepth 100000
namespace Go.Ax
open Go.Proofs
theorem aEq76 {a0 b0:Bool} {a1 b1:Int} {a2 b2:Int} {a3 b3:Int} {a4 b4:Bool}:aEq Tryz.prog 76 (.agg [bo a0,i64 a1,i64 a2,i64 a3,bo a4]) (.agg [bo b0,i64 b1,i64 b2,i64 b3,bo b4]) = some ((a0 == b0) && ((a1 == b1) && ((a2 == b2) && (((a3 == b3) && ((a4 == b4) && true)) && true)))):=by kernel_rfl
theorem eq76 {xo yo:Operand} {neg:Bool} {a0 b0:Bool} {a1 b1:Int} {a2 b2:Int} {a3 b3:Int} {a4 b4:Bool}:eqE Tryz.prog neg 76 xo yo (.agg [bo a0,i64 a1,i64 a2,i64 a3,bo a4]) (.agg [bo b0,i64 b1,i64 b2,i64 b3,bo b4]) = some ⟨[],.v (.bool (negV neg ((a0 == b0) && ((a1 == b1) && ((a2 == b2) && (((a3 == b3) && ((a4 == b4) && true)) && true)))))),.none⟩:=eqE_agg aEq76
attribute [go_sem] eq76
abbrev AxT:=Int × Int × Nb
def axF (o:Int) (G:Nat → Nb) (s:AxT):Nat → AxT
 | 0 => s
 | i + 1 => if (axF o G s i).2.1 < 0 ∨ 0 < cmpS (whV (G i).1) (whV (axF o G s i).2.2.1) then (o,(i:Int),G i) else axF o G s i
def ax0:AxT:=(0,-1,(0,false))
def axOK (s:AxT):Prop:=s = ax0 ∨ 0 ≤ s.2.1
def axC (q:Bool) (s:AxT):List AV:=[bo q,i64 s.1,i64 s.2.1,i64 s.2.2.1,bo s.2.2.2]
theorem axF_ok {o:Int} {G:Nat → Nb} {s:AxT} (h:axOK s):∀ n,axOK (axF o G s n)
 | 0 => h
 | n + 1 => by
  have ih:=axF_ok (o:=o) (G:=G) h n
  unfold axF
  split
  ·exact .inr (Int.natCast_nonneg n)
  ·exact ih
def axSt (n:Nat) (G:Nat → Nb) (m:Nat) (G':Nat → Nb):Nat → AxT
 | 0 => ax0
 | 1 => axF 0 G ax0 n
 | _ => axF 1 G' (axF 0 G ax0 n) m
def gP (n:Nat) (X Y:Nat → Int) (m:Nat) (Z T:Nat → Int) (j:Nat):Nb:=mnN (fun l => hgt (X j) (Y j) (X (nxt n j)) (Y (nxt n j)) (Z l) (T l)) (m - 1)
def gD (n:Nat) (X Y:Nat → Int) (x y r:Int) (j:Nat):Nb:=nSub (hgt (X j) (Y j) (X (nxt n j)) (Y (nxt n j)) x y) (nRat r 256)
theorem gD_rg {n:Nat} {X Y:Nat → Int} {x y r:Int} {j:Nat}:rg (gD n X Y x y r j).1:=nSub_rg
theorem axOK_not {s:AxT} (h:axOK s) (k:(false == false && (s.1 == 0 && (s.2.1 == -1 && (s.2.2.1 == 0 && s.2.2.2 == false)))) = false):¬ s.2.1 < 0:=by
 rcases h with h | h
 ·rw [h] at k; exact absurd k (by decide)
 ·omega
theorem axF_hit {o:Int} {G:Nat → Nb} {s:AxT} {j:Nat} (h:(axF o G s j).2.1 < 0 ∨ 0 < cmpS (whV (G j).1) (whV (axF o G s j).2.2.1)):axF o G s (j + 1) = (o,(j:Int),G j):=by
 conv => lhs; unfold axF
 rw [if_pos h]
theorem axF_not {o:Int} {G:Nat → Nb} {s:AxT} {j:Nat} (h:¬ ((axF o G s j).2.1 < 0 ∨ 0 < cmpS (whV (G j).1) (whV (axF o G s j).2.2.1))):axF o G s (j + 1) = axF o G s j:=by
 conv => lhs; unfold axF
 rw [if_neg h]
theorem vc94pp (n:Nat) (X Y:Nat → Int) (hX:∀ i,i < n → inR (X i) ∧ inR (Y i)) (hn:n ≤ 1000) (n0:0 < n) (vX:∀ i,i < n → validS (X i) (Y i) = true) (m:Nat) (Z T:Nat → Int) (hZ:∀ i,i < m → inR (Z i) ∧ inR (T i)) (hm:m ≤ 1000) (m0:0 < m) (vZ:∀ i,i < m → validS (Z i) (T i) = true) :
  fnVC Tryz.prog [(47,k63),(87,c87),(58,c58),(85,c85),(1000000 + 161,c161),(104,c104),(121,k159),(112,k160),(114,k161),(113,k162)] [(22,⟨[(15,.slot 6)],[]⟩)] Tryz.f62 [.iface 112 (.agg [.ro n 2 fun i => [i64 (X i),i64 (Y i)]]),.iface 112 (.agg [.ro m 2 fun i => [i64 (Z i),i64 (T i)]])] (· = .agg (axC (clrS n X Y m Z T || clrS m Z T n X Y) (axSt n (gP n X Y m Z T) m (gP m Z T n X Y) 2))):=by
 refine fnVC_go (rs:=[.cell 4 76]) rfl rfl ?_
 simp only [go_sem,c85]
 have hg:spots n fun i => [i64 (X i),i64 (Y i)]:=fun i hi => ⟨rfl,hX i hi⟩
 have hg':spots m fun i => [i64 (Z i),i64 (T i)]:=fun i hi => ⟨rfl,hZ i hi⟩
 generalize hS:axSt n (gP n X Y m Z T) m (gP m Z T n X Y) = S
 have s0:S 0 = (0,-1,(0,false)):=by rw [← hS]; rfl
 have s1:S 1 = axF 0 (gP n X Y m Z T) (S 0) n:=by rw [← hS]; rfl
 have s2:S 2 = axF 1 (gP m Z T n X Y) (S 1) m:=by rw [← hS]; rfl
 have k0:axOK (S 0):=.inl s0
 have k1:axOK (S 1):=by rw [s1]; exact axF_ok k0 _
 refine loopC_go (fun (i:Nat) => i ≤ 2) (fun i => 2 - i) (fun i => [(26,i64 i)]) (fun i => [(5,fam1 76 5 (axC false (S i)) none)]) [9,2,0] [27,28,29,30,7,8,32,33,31,34,35,9,10,36,37,38,39,40,41,42,43,11,12,44,45,46,47,13,14,48,49,50,51,15,52,53,54,55,56,57,58,59,60,61,62,63,64,65,66,67,68,26] 0 (by kernel_rfl) ?_ (Nat.zero_le _) ?_ ?_
 ·intro x _; simp [goodNames,asg]
 ·simp only [go_sem,s0,axC]
 intro i hi
 match i with
 | 0 =>
  simp only [go_sem,axC,c85]
  simp only [false_imp_iff,true_imp_iff,reduceCtorEq,true_and,and_true,Bool.false_eq_true]
  refine rangeC_go (fun (j:Nat) => j ≤ n) (fun j => j) (fun j => [(5,fam1 76 5 (axC false (axF 0 (gP n X Y m Z T) (S 0) j)) none),(37,fam1 3 1 [i64 j] none)]) [35,24,16,9,2,0] [46,47,13,14,48,49,50,51,15,52,53,54,55,56,57,58,59,60,61,62,63,64,65,66,67] 0 0 (N:=n) (sq:=edgeE n fun i => [i64 (X i),i64 (Y i)]) (ob:=[spots n fun i => [i64 (X i),i64 (Y i)],n ≤ 9223372036854775806]) rfl (owe2 hg (by omega)) (by kernel_rfl) rfl (fun i _ => ⟨rfl,rfl⟩) (Nat.zero_le _) rfl ⟨[],?_,?_,?_⟩ ?_ ?_
  ·simp only [go_sem,axF,axC]
  ·simp only [go_sem]
  ·simp [goodNames,asg]
  ·intro j hj hlt
   simp only [go_sem,edgeE,k159,k159d,k159p,c87,axC]
   refine ⟨hg',hm,vX j hlt,vX _ (nxt_lt hlt),m0,fun z hz => ⟨fun h z1 hz1 => ⟨j + 1,by have:j < n:=hlt; omega,rfl,[],?_⟩,fun h z1 hz1 => ⟨j + 1,by have:j < n:=hlt; omega,rfl,[],?_⟩⟩⟩
   ·have es:axF 0 (gP n X Y m Z T) (S 0) (j + 1) = (0,(j:Int),mnN (fun l => hgt (X j) (Y j) (X (nxt n j)) (Y (nxt n j)) (Z l) (T l)) (m - 1)):=axF_hit (h.imp (fun q => by have:=q.2.2.1; simp at this; omega) (fun q => by rw [hz] at q; exact q))
    rw [wrap_in (by have:j < n:=hlt; unfold inR; omega)] at hz1
    simp only [go_sem,es,hz1]
    simp [goodNames,asg]
   ·have es:axF 0 (gP n X Y m Z T) (S 0) (j + 1) = axF 0 (gP n X Y m Z T) (S 0) j:=axF_not (by
     rintro (q | q)
     ·exact axOK_not (axF_ok k0 _) h.1 q
     ·exact h.2 (by rw [hz]; exact q))
    rw [wrap_in (by have:j < n:=hlt; unfold inR; omega)] at hz1
    simp only [go_sem,es,hz1]
    simp [goodNames,asg]
  ·intro j hj he
   simp only [go_sem,axC]
   refine fun z hz => ⟨1,by omega,by omega,by rw [hz]; decide,?_⟩
   rw [s1,he]
   exact ⟨rfl,rfl,rfl,rfl⟩
 | 1 =>
  simp only [go_sem,axC,c85]
  simp only [false_imp_iff,true_imp_iff,reduceCtorEq,true_and,and_true,Bool.false_eq_true]
  refine rangeC_go (fun (j:Nat) => j ≤ m) (fun j => j) (fun j => [(5,fam1 76 5 (axC false (axF 1 (gP m Z T n X Y) (S 1) j)) none),(37,fam1 3 1 [i64 j] none)]) [35,24,16,9,2,0] [46,47,13,14,48,49,50,51,15,52,53,54,55,56,57,58,59,60,61,62,63,64,65,66,67] 0 0 (N:=m) (sq:=edgeE m fun i => [i64 (Z i),i64 (T i)]) (ob:=[spots m fun i => [i64 (Z i),i64 (T i)],m ≤ 9223372036854775806]) rfl (owe2 hg' (by omega)) (by kernel_rfl) rfl (fun i _ => ⟨rfl,rfl⟩) (Nat.zero_le _) rfl ⟨[],?_,?_,?_⟩ ?_ ?_
  ·simp only [go_sem,axF,axC]
  ·simp only [go_sem]
  ·simp [goodNames,asg]
  ·intro j hj hlt
   simp only [go_sem,edgeE,k159,k159d,k159p,c87,axC]
   refine ⟨hg,hn,vZ j hlt,vZ _ (nxt_lt hlt),n0,fun z hz => ⟨fun h z1 hz1 => ⟨j + 1,by have:j < m:=hlt; omega,rfl,[],?_⟩,fun h z1 hz1 => ⟨j + 1,by have:j < m:=hlt; omega,rfl,[],?_⟩⟩⟩
   ·have es:axF 1 (gP m Z T n X Y) (S 1) (j + 1) = (1,(j:Int),mnN (fun l => hgt (Z j) (T j) (Z (nxt m j)) (T (nxt m j)) (X l) (Y l)) (n - 1)):=axF_hit (h.imp (fun q => by have:=q.2.2.1; simp at this; omega) (fun q => by rw [hz] at q; exact q))
    rw [wrap_in (by have:j < m:=hlt; unfold inR; omega)] at hz1
    simp only [go_sem,es,hz1]
    simp [goodNames,asg]
   ·have es:axF 1 (gP m Z T n X Y) (S 1) (j + 1) = axF 1 (gP m Z T n X Y) (S 1) j:=axF_not (by
     rintro (q | q)
     ·exact axOK_not (axF_ok k1 _) h.1 q
     ·exact h.2 (by rw [hz]; exact q))
    rw [wrap_in (by have:j < m:=hlt; unfold inR; omega)] at hz1
    simp only [go_sem,es,hz1]
    simp [goodNames,asg]
  ·intro j hj he
   simp only [go_sem,axC]
   refine fun z hz => ⟨2,by omega,by omega,by rw [hz]; decide,?_⟩
   rw [s2,he]
   exact ⟨rfl,rfl,rfl,rfl⟩
 | 2 =>
  simp only [go_sem,axC,c58,c90f]
  simp only [false_imp_iff,true_imp_iff,reduceCtorEq,true_and,and_true,Bool.false_eq_true]
  exact fun z hz => ⟨hg,by omega,vX,hg',by omega,vZ,by rw [hz]; rfl⟩
 | q + 3 => omega
theorem vc94pd (n:Nat) (X Y:Nat → Int) (hX:∀ i,i < n → inR (X i) ∧ inR (Y i)) (hn:n ≤ 1000) (n0:0 < n) (vX:∀ i,i < n → validS (X i) (Y i) = true) (x' y' r':Int) (v2:validS x' y' = true) (h6:inR r') :
  fnVC Tryz.prog [(47,k63),(87,c87),(58,c58),(85,c85),(1000000 + 161,c161),(104,c104),(121,k159),(112,k160),(114,k161),(113,k162)] [(22,⟨[(15,.slot 6)],[]⟩)] Tryz.f62 [.iface 112 (.agg [.ro n 2 fun i => [i64 (X i),i64 (Y i)]]),.iface 107 (.agg [i64 x',i64 y',i64 r'])] (· = .agg (axC (outS n X Y x' y' r') (axSt n (gD n X Y x' y' r') 0 (gD n X Y x' y' r') 2))):=by
 refine fnVC_go (rs:=[.cell 4 76]) rfl rfl ?_
 simp only [go_sem,c85]
 have hg:spots n fun i => [i64 (X i),i64 (Y i)]:=fun i hi => ⟨rfl,hX i hi⟩
 generalize hS:axSt n (gD n X Y x' y' r') 0 (gD n X Y x' y' r') = S
 have s0:S 0 = (0,-1,(0,false)):=by rw [← hS]; rfl
 have s1:S 1 = axF 0 (gD n X Y x' y' r') (S 0) n:=by rw [← hS]; rfl
 have s2:S 2 = S 1:=by rw [← hS]; rfl
 have k0:axOK (S 0):=.inl s0
 have k1:axOK (S 1):=by rw [s1]; exact axF_ok k0 _
 refine loopC_go (fun (i:Nat) => i ≤ 2) (fun i => 2 - i) (fun i => [(26,i64 i)]) (fun i => [(5,fam1 76 5 (axC false (S i)) none)]) [9,2,0] [27,28,29,30,7,8,32,33,31,34,35,9,10,36,37,38,39,40,41,42,43,11,12,44,45,46,47,13,14,48,49,50,51,15,52,53,54,55,56,57,58,59,60,61,62,63,64,65,66,67,68,26] 0 (by kernel_rfl) ?_ (Nat.zero_le _) ?_ ?_
 ·intro x _; simp [goodNames,asg]
 ·simp only [go_sem,s0,axC]
 intro i hi
 match i with
 | 0 =>
  simp only [go_sem,axC,c85]
  simp only [false_imp_iff,true_imp_iff,reduceCtorEq,true_and,and_true,Bool.false_eq_true]
  refine rangeC_go (fun (j:Nat) => j ≤ n) (fun j => j) (fun j => [(5,fam1 76 5 (axC false (axF 0 (gD n X Y x' y' r') (S 0) j)) none),(37,fam1 3 1 [i64 j] none)]) [35,24,16,9,2,0] [46,47,13,14,48,49,50,51,15,52,53,54,55,56,57,58,59,60,61,62,63,64,65,66,67] 0 0 (N:=n) (sq:=edgeE n fun i => [i64 (X i),i64 (Y i)]) (ob:=[spots n fun i => [i64 (X i),i64 (Y i)],n ≤ 9223372036854775806]) rfl (owe2 hg (by omega)) (by kernel_rfl) rfl (fun i _ => ⟨rfl,rfl⟩) (Nat.zero_le _) rfl ⟨[],?_,?_,?_⟩ ?_ ?_
  ·simp only [go_sem,axF,axC]
  ·simp only [go_sem]
  ·simp [goodNames,asg]
  ·intro j hj hlt
   simp only [go_sem,edgeE,k159,k159d,k159p,c87,axC]
   refine ⟨h6,vX j hlt,vX _ (nxt_lt hlt),fun z hz => ⟨fun h z1 hz1 => ⟨j + 1,by have:j < n:=hlt; omega,rfl,[],?_⟩,fun h z1 hz1 => ⟨j + 1,by have:j < n:=hlt; omega,rfl,[],?_⟩⟩⟩
   ·have es:axF 0 (gD n X Y x' y' r') (S 0) (j + 1) = (0,(j:Int),nSub (hgt (X j) (Y j) (X (nxt n j)) (Y (nxt n j)) x' y') (nRat r' 256)):=axF_hit (h.imp (fun q => by have:=q.2.2.1; simp at this; omega) (fun q => by rw [hz] at q; exact q))
    rw [wrap_in (by have:j < n:=hlt; unfold inR; omega)] at hz1
    simp only [go_sem,es,hz1]
    simp [goodNames,asg]
   ·have es:axF 0 (gD n X Y x' y' r') (S 0) (j + 1) = axF 0 (gD n X Y x' y' r') (S 0) j:=axF_not (by
     rintro (q | q)
     ·exact axOK_not (axF_ok k0 _) h.1 q
     ·exact h.2 (by rw [hz]; exact q))
    rw [wrap_in (by have:j < n:=hlt; unfold inR; omega)] at hz1
    simp only [go_sem,es,hz1]
    simp [goodNames,asg]
  ·intro j hj he
   simp only [go_sem,axC]
   refine fun z hz => ⟨1,by omega,by omega,by rw [hz]; decide,?_⟩
   rw [s1,he]
   exact ⟨rfl,rfl,rfl,rfl⟩
 | 1 =>
  simp only [go_sem,axC,c85]
  simp only [false_imp_iff,true_imp_iff,reduceCtorEq,true_and,and_true,Bool.false_eq_true]
  refine fun z hz => ⟨2,by omega,by omega,by rw [hz]; decide,?_⟩
  rw [s2]
  exact ⟨rfl,rfl,rfl,rfl⟩
 | 2 =>
  simp only [go_sem,axC,c58,c90a]
  simp only [false_imp_iff,true_imp_iff,reduceCtorEq,true_and,and_true,Bool.false_eq_true]
  exact fun z hz => ⟨hg,by omega,vX,v2,by rw [hz]; rfl⟩
 | q + 3 => omega
theorem vc94dp (x y r:Int) (v1:validS x y = true) (h3:inR r) (m:Nat) (Z T:Nat → Int) (hZ:∀ i,i < m → inR (Z i) ∧ inR (T i)) (hm:m ≤ 1000) (m0:0 < m) (vZ:∀ i,i < m → validS (Z i) (T i) = true) :
  fnVC Tryz.prog [(47,k63),(87,c87),(58,c58),(85,c85),(1000000 + 161,c161),(104,c104),(121,k159),(112,k160),(114,k161),(113,k162)] [(22,⟨[(15,.slot 6)],[]⟩)] Tryz.f62 [.iface 107 (.agg [i64 x,i64 y,i64 r]),.iface 112 (.agg [.ro m 2 fun i => [i64 (Z i),i64 (T i)]])] (· = .agg (axC (outS m Z T x y r) (axSt 0 (gD m Z T x y r) m (gD m Z T x y r) 2))):=by
 refine fnVC_go (rs:=[.cell 4 76]) rfl rfl ?_
 simp only [go_sem,c85]
 have hg':spots m fun i => [i64 (Z i),i64 (T i)]:=fun i hi => ⟨rfl,hZ i hi⟩
 generalize hS:axSt 0 (gD m Z T x y r) m (gD m Z T x y r) = S
 have s0:S 0 = (0,-1,(0,false)):=by rw [← hS]; rfl
 have s1:S 1 = S 0:=by rw [← hS]; rfl
 have s2:S 2 = axF 1 (gD m Z T x y r) (S 1) m:=by rw [← hS]; rfl
 have k0:axOK (S 0):=.inl s0
 have k1:axOK (S 1):=by rw [s1]; exact k0
 refine loopC_go (fun (i:Nat) => i ≤ 2) (fun i => 2 - i) (fun i => [(26,i64 i)]) (fun i => [(5,fam1 76 5 (axC false (S i)) none)]) [9,2,0] [27,28,29,30,7,8,32,33,31,34,35,9,10,36,37,38,39,40,41,42,43,11,12,44,45,46,47,13,14,48,49,50,51,15,52,53,54,55,56,57,58,59,60,61,62,63,64,65,66,67,68,26] 0 (by kernel_rfl) ?_ (Nat.zero_le _) ?_ ?_
 ·intro x _; simp [goodNames,asg]
 ·simp only [go_sem,s0,axC]
 intro i hi
 match i with
 | 0 =>
  simp only [go_sem,axC,c85]
  simp only [false_imp_iff,true_imp_iff,reduceCtorEq,true_and,and_true,Bool.false_eq_true]
  refine fun z hz => ⟨1,by omega,by omega,by rw [hz]; decide,?_⟩
  rw [s1]
  exact ⟨rfl,rfl,rfl,rfl⟩
 | 1 =>
  simp only [go_sem,axC,c85]
  simp only [false_imp_iff,true_imp_iff,reduceCtorEq,true_and,and_true,Bool.false_eq_true]
  refine rangeC_go (fun (j:Nat) => j ≤ m) (fun j => j) (fun j => [(5,fam1 76 5 (axC false (axF 1 (gD m Z T x y r) (S 1) j)) none),(37,fam1 3 1 [i64 j] none)]) [35,24,16,9,2,0] [46,47,13,14,48,49,50,51,15,52,53,54,55,56,57,58,59,60,61,62,63,64,65,66,67] 0 0 (N:=m) (sq:=edgeE m fun i => [i64 (Z i),i64 (T i)]) (ob:=[spots m fun i => [i64 (Z i),i64 (T i)],m ≤ 9223372036854775806]) rfl (owe2 hg' (by omega)) (by kernel_rfl) rfl (fun i _ => ⟨rfl,rfl⟩) (Nat.zero_le _) rfl ⟨[],?_,?_,?_⟩ ?_ ?_
  ·simp only [go_sem,axF,axC]
  ·simp only [go_sem]
  ·simp [goodNames,asg]
  ·intro j hj hlt
   simp only [go_sem,edgeE,k159,k159d,k159p,c87,axC]
   refine ⟨h3,vZ j hlt,vZ _ (nxt_lt hlt),fun z hz => ⟨fun h z1 hz1 => ⟨j + 1,by have:j < m:=hlt; omega,rfl,[],?_⟩,fun h z1 hz1 => ⟨j + 1,by have:j < m:=hlt; omega,rfl,[],?_⟩⟩⟩
   ·have es:axF 1 (gD m Z T x y r) (S 1) (j + 1) = (1,(j:Int),nSub (hgt (Z j) (T j) (Z (nxt m j)) (T (nxt m j)) x y) (nRat r 256)):=axF_hit (h.imp (fun q => by have:=q.2.2.1; simp at this; omega) (fun q => by rw [hz] at q; exact q))
    rw [wrap_in (by have:j < m:=hlt; unfold inR; omega)] at hz1
    simp only [go_sem,es,hz1]
    simp [goodNames,asg]
   ·have es:axF 1 (gD m Z T x y r) (S 1) (j + 1) = axF 1 (gD m Z T x y r) (S 1) j:=axF_not (by
     rintro (q | q)
     ·exact axOK_not (axF_ok k1 _) h.1 q
     ·exact h.2 (by rw [hz]; exact q))
    rw [wrap_in (by have:j < m:=hlt; unfold inR; omega)] at hz1
    simp only [go_sem,es,hz1]
    simp [goodNames,asg]
  ·intro j hj he
   simp only [go_sem,axC]
   refine fun z hz => ⟨2,by omega,by omega,by rw [hz]; decide,?_⟩
   rw [s2,he]
   exact ⟨rfl,rfl,rfl,rfl⟩
 | 2 =>
  simp only [go_sem,axC,c58,c90e]
  simp only [false_imp_iff,true_imp_iff,reduceCtorEq,true_and,and_true,Bool.false_eq_true]
  exact fun z hz => ⟨hg',by omega,vZ,v1,by rw [hz]; rfl⟩
 | q + 3 => omega
theorem vc94dd (x y r x' y' r':Int) :
  fnVC Tryz.prog [(47,k63),(87,c87),(58,c58),(85,c85),(1000000 + 161,c161),(104,c104),(121,k159),(112,k160),(114,k161),(113,k162)] [(22,⟨[(15,.slot 6)],[]⟩)] Tryz.f62 [.iface 107 (.agg [i64 x,i64 y,i64 r]),.iface 107 (.agg [i64 x',i64 y',i64 r'])] (· = .agg (axC (ddS x y r x' y' r') (0,-1,nSub (vLen (vLoc (mnW x x') (mnW y y'))) (nRat (IntKind.i64.wrap (r + r')) 256)))):=by
 refine fnVC_go (rs:=[.cell 4 76]) rfl rfl ?_
 simp only [go_sem,c85]
 refine loopC_go (fun (i:Nat) => i ≤ 2) (fun i => 2 - i) (fun i => [(26,i64 i)]) (fun i => [(5,fam1 76 5 (axC false ax0) none)]) [9,2,0] [27,28,29,30,7,8,32,33,31,34,35,9,10,36,37,38,39,40,41,42,43,11,12,44,45,46,47,13,14,48,49,50,51,15,52,53,54,55,56,57,58,59,60,61,62,63,64,65,66,67,68,26] 0 (by kernel_rfl) ?_ (Nat.zero_le _) ?_ ?_
 ·intro x _; simp [goodNames,asg]
 ·simp only [go_sem,ax0,axC]
 intro i hi
 match i with
 | 0 =>
  simp only [go_sem,axC,c85]
  simp only [false_imp_iff,true_imp_iff,reduceCtorEq,true_and,and_true,Bool.false_eq_true]
  exact fun z hz => ⟨1,by omega,by omega,by rw [hz]; decide⟩
 | 1 =>
  simp only [go_sem,axC,c85]
  simp only [false_imp_iff,true_imp_iff,reduceCtorEq,true_and,and_true,Bool.false_eq_true]
  exact fun z hz => ⟨2,by omega,by omega,by rw [hz]; decide⟩
 | 2 =>
  simp only [go_sem,axC,c58,c90d,c104,k63,k161,k162,k160,ax0]
  simp only [false_imp_iff,true_imp_iff,reduceCtorEq,true_and,and_true,Bool.false_eq_true]
  exact fun z hz z1 hz1 => ⟨by rw [hz]; exact wrap_inR _,by rw [hz1]; exact wrap_inR _,fun z2 hz2 => ⟨by rw [hz2]; exact wrap_inR _,fun z3 hz3 => by rw [hz,hz1,hz2,hz3]; rfl⟩⟩
 | q + 3 => omega
end Go.Ax
end
section
/-
  The axis between forms: the contracts.
-/
set_option maxHeartbeats 4000000
set_option maxRecDepth 100000
namespace Go.Ax
open Go.Proofs
def axA (q:Bool) (s:AxT):AV:=.agg (axC q s)
theorem bnd_ax {q:Bool} {s:AxT}:bnd (axA q s) = .agg [bo q,i64 s.1,i64 s.2.1,i64 s.2.2.1,bo s.2.2.2]:=(rfl)
theorem plain_ax {q:Bool} {s:AxT}:plain 3 (axA q s) = true:=(rfl)
attribute [go_sem] bnd_ax plain_ax
def k94p:Con
 | [.iface 112 (.agg [.ro n 2 g]),.iface 112 (.agg [.ro m 2 g'])] => some ([spots n g,n ≤ 1000,0 < n,∀ i,i < n → validS (gx g 0 i) (gx g 1 i) = true,spots m g',m ≤ 1000,0 < m,∀ i,i < m → validS (gx g' 0 i) (gx g' 1 i) = true],axA (clrS n (gx g 0) (gx g 1) m (gx g' 0) (gx g' 1) || clrS m (gx g' 0) (gx g' 1) n (gx g 0) (gx g 1)) (axSt n (gP n (gx g 0) (gx g 1) m (gx g' 0) (gx g' 1)) m (gP m (gx g' 0) (gx g' 1) n (gx g 0) (gx g 1)) 2))
 | _ => none
theorem ctx94:CtxOK Tryz.prog [(47,k63),(87,c87),(58,c58),(85,c85),(1000000 + 161,c161),(104,c104),(121,k159),(112,k160),(114,k161),(113,k162)]:=.cons kon63 (.cons con87 (.cons con58 (.cons con85 (.seq seq161 (.cons con104 (.cons kon159 (.cons kon160 (.cons kon161 (.cons kon162 .nil)))))))))
theorem kon94p:ConOK Tryz.prog 62 k94p:=ConOK.go (H:=[(22,⟨[(15,.slot 6)],[]⟩)]) ctx94 Tryz.func62 fun l ob rr hc hob => by
 unfold k94p at hc
 split at hc
 ·rename_i n g m g'
  cases hc
  have hs:spots n g:=hob _ (by simp)
  have hs':spots m g':=hob _ (by simp)
  exact ⟨[.iface 112 (.agg [.ro n 2 fun i => [i64 (gx g 0 i),i64 (gx g 1 i)]]),.iface 112 (.agg [.ro m 2 fun i => [i64 (gx g' 0 i),i64 (gx g' 1 i)]])],fun w I vs h => Rs_two (Rs_if (Rs_poly hs)) (Rs_if (Rs_poly hs')) h,by kernel_rfl,vc94pp n _ _ (fun i hi => (hs i hi).2) (hob _ (by simp)) (hob _ (by simp)) (hob _ (by simp)) m _ _ (fun i hi => (hs' i hi).2) (hob _ (by simp)) (hob _ (by simp)) (hob _ (by simp))⟩
 ·cases hc
def k94q:Con
 | [.iface 112 (.agg [.ro n 2 g]),.iface 107 (.agg [.v (.int .i64 x),.v (.int .i64 y),.v (.int .i64 r)])] => some ([spots n g,n ≤ 1000,0 < n,∀ i,i < n → validS (gx g 0 i) (gx g 1 i) = true,validS x y = true,inR r],axA (outS n (gx g 0) (gx g 1) x y r) (axSt n (gD n (gx g 0) (gx g 1) x y r) 0 (gD n (gx g 0) (gx g 1) x y r) 2))
 | _ => none
theorem kon94q:ConOK Tryz.prog 62 k94q:=ConOK.go (H:=[(22,⟨[(15,.slot 6)],[]⟩)]) ctx94 Tryz.func62 fun l ob rr hc hob => by
 unfold k94q at hc
 split at hc
 ·rename_i n g x y r
  cases hc
  have hs:spots n g:=hob _ (by simp)
  exact ⟨[.iface 112 (.agg [.ro n 2 fun i => [i64 (gx g 0 i),i64 (gx g 1 i)]]),.iface 107 (.agg [i64 x,i64 y,i64 r])],fun w I vs h => Rs_two (Rs_if (Rs_poly hs)) (fun v h => h) h,by kernel_rfl,vc94pd n _ _ (fun i hi => (hs i hi).2) (hob _ (by simp)) (hob _ (by simp)) (hob _ (by simp)) x y r (hob _ (by simp)) (hob _ (by simp))⟩
 ·cases hc
def k94r:Con
 | [.iface 107 (.agg [.v (.int .i64 x),.v (.int .i64 y),.v (.int .i64 r)]),.iface 112 (.agg [.ro n 2 g])] => some ([spots n g,n ≤ 1000,0 < n,∀ i,i < n → validS (gx g 0 i) (gx g 1 i) = true,validS x y = true,inR r],axA (outS n (gx g 0) (gx g 1) x y r) (axSt 0 (gD n (gx g 0) (gx g 1) x y r) n (gD n (gx g 0) (gx g 1) x y r) 2))
 | _ => none
theorem kon94r:ConOK Tryz.prog 62 k94r:=ConOK.go (H:=[(22,⟨[(15,.slot 6)],[]⟩)]) ctx94 Tryz.func62 fun l ob rr hc hob => by
 unfold k94r at hc
 split at hc
 ·rename_i x y r n g
  cases hc
  have hs:spots n g:=hob _ (by simp)
  exact ⟨[.iface 107 (.agg [i64 x,i64 y,i64 r]),.iface 112 (.agg [.ro n 2 fun i => [i64 (gx g 0 i),i64 (gx g 1 i)]])],fun w I vs h => Rs_two (fun v h => h) (Rs_if (Rs_poly hs)) h,by kernel_rfl,vc94dp x y r (hob _ (by simp)) (hob _ (by simp)) n _ _ (fun i hi => (hs i hi).2) (hob _ (by simp)) (hob _ (by simp)) (hob _ (by simp))⟩
 ·cases hc
def k94d:Con
 | [.iface 107 (.agg [.v (.int .i64 x),.v (.int .i64 y),.v (.int .i64 r)]),.iface 107 (.agg [.v (.int .i64 a),.v (.int .i64 b),.v (.int .i64 s)])] => some ([],axA (ddS x y r a b s) (0,-1,nSub (vLen (vLoc (mnW x a) (mnW y b))) (nRat (IntKind.i64.wrap (r + s)) 256)))
 | _ => none
theorem kon94d:ConOK Tryz.prog 62 k94d:=ConOK.go (H:=[(22,⟨[(15,.slot 6)],[]⟩)]) ctx94 Tryz.func62 fun l ob rr hc hob => by
 unfold k94d at hc
 split at hc
 ·rename_i x y r a b s
  cases hc
  exact ⟨_,fun w I vs h => h,by kernel_rfl,vc94dd x y r a b s⟩
 ·cases hc
def k94 (l:List AV):Option (List Prop × AV):=match l with
 | [.iface 112 _,.iface 107 _] => k94q l
 | [.iface 107 _,.iface 112 _] => k94r l
 | [.iface 107 _,.iface 107 _] => k94d l
 | [.iface 112 _,.iface 112 _] => k94p l
 | [.iface 107 _,.v .nilIface] => some ([False],axA false ax0)
 | [.iface 112 _,.v .nilIface] => some ([False],axA false ax0)
 | [.v .nilIface,.iface 107 _] => some ([False],axA false ax0)
 | [.v .nilIface,.iface 112 _] => some ([False],axA false ax0)
 | [.v .nilIface,.v .nilIface] => some ([False],axA false ax0)
 | _ => none
theorem kon94:ConOK Tryz.prog 62 k94:=fun l ob rr hc hob => by
 unfold k94 at hc
 split at hc
 ·exact kon94q _ _ _ hc hob
 ·exact kon94r _ _ _ hc hob
 ·exact kon94d _ _ _ hc hob
 ·exact kon94p _ _ _ hc hob
 ·cases hc; exact (hob False (by simp)).elim
 ·cases hc; exact (hob False (by simp)).elim
 ·cases hc; exact (hob False (by simp)).elim
 ·cases hc; exact (hob False (by simp)).elim
 ·cases hc; exact (hob False (by simp)).elim
 ·cases hc
def axS (k x y r:Int) (n:Nat) (X Y:Nat → Int) (k' x' y' r':Int) (m:Nat) (Z T:Nat → Int):AxT:=
 if checkS k x y r n X Y = 0 ∧ checkS k' x' y' r' m Z T = 0 then
  (if k = 1 then (if k' = 1 then (0,-1,nSub (vLen (vLoc (mnW x x') (mnW y y'))) (nRat (IntKind.i64.wrap (r + r')) 256)) else axSt 0 (gD m Z T x y r) m (gD m Z T x y r) 2)
   else if k' = 1 then axSt n (gD n X Y x' y' r') 0 (gD n X Y x' y' r') 2 else axSt n (gP n X Y m Z T) m (gP m Z T n X Y) 2)
 else (0,0,(0,false))
theorem fig_n {k x y r:Int} {n:Nat} {X Y:Nat → Int} (h:checkS k x y r n X Y = 0) (hk:¬ k = 1):3 ≤ n ∧ n ≤ 8:=by
 have:=(check_1 h).2.2.2.2 hk
 exact ⟨(convexS_iff.1 this.2.2).1,this.2.1⟩
theorem vc34 (k x y r:Int) (n:Nat) (g:Nat → List AV) (k' x' y' r':Int) (m:Nat) (g':Nat → List AV) (hg:spots n g) (hg':spots m g') (hn:n ≤ 9223372036854775806) (hm:m ≤ 9223372036854775806) (h1:inR x) (h2:inR y) (h3:inR r) (h4:inR x') (h5:inR y') (h6:inR r') :
  fnVC Tryz.prog [(57,c57),(62,k94)] [] Tryz.f34 [formA k x y r n g,formA k' x' y' r' m g'] (· = axA (apS k x y r n (gx g 0) (gx g 1) k' x' y' r' m (gx g' 0) (gx g' 1)) (axS k x y r n (gx g 0) (gx g 1) k' x' y' r' m (gx g' 0) (gx g' 1))):=by
 refine fnVC_go (rs:=[.cell 4 76]) rfl rfl ?_
 simp only [go_sem,c57,bothS,k94,k94p,k94q,k94r,k94d]
 refine ⟨fun hA => ⟨fun hk => ⟨fun hB => ⟨fun hk' => ?_,fun hk' => ?_⟩,fun hB => ?_⟩,fun hk => ⟨fun hB => ⟨fun hk' => ?_,fun hk' => ?_⟩,fun hB => ?_⟩⟩,fun hA => ⟨fun hB => ⟨fun hk' => ?_,fun hk' => ?_⟩,fun hB => ?_⟩⟩
 ·exact fun z hz => ⟨hg,hg',hn,hm,h1,h2,h3,h4,h5,h6,fun h => (by rw [hz] at h; cases h),fun h => by have hAB:=And.intro hA hB; simp only [apS,axS,if_pos hAB,if_pos hk,if_pos hk']; rfl⟩
 ·have fB:=fig_n hB
  exact fun z hz => ⟨hg,hg',hn,hm,h1,h2,h3,h4,h5,h6,fun h => (by rw [hz] at h; cases h),fun h => ⟨hg',(by have:=fB hk'; omega),(by have:=fB hk'; omega),(check_1 hB).2.2.1,(check_1 hA).2.1,h3,by have hAB:=And.intro hA hB; simp only [apS,axS,if_pos hAB,if_pos hk,if_neg hk']; rfl⟩⟩
 ·exact fun z hz => ⟨hg,hg',hn,hm,h1,h2,h3,h4,h5,h6,fun h => (by have hN:¬ (checkS k x y r n (gx g 0) (gx g 1) = 0 ∧ checkS k' x' y' r' m (gx g' 0) (gx g' 1) = 0):=fun q => hB q.2; simp only [apS,axS,if_neg hN]; rfl),fun h => (by rw [hz] at h; cases h)⟩
 ·have fA:=fig_n hA
  exact fun z hz => ⟨hg,hg',hn,hm,h1,h2,h3,h4,h5,h6,fun h => (by rw [hz] at h; cases h),fun h => ⟨hg,(by have:=fA hk; omega),(by have:=fA hk; omega),(check_1 hA).2.2.1,(check_1 hB).2.1,h6,by have hAB:=And.intro hA hB; simp only [apS,axS,if_pos hAB,if_neg hk,if_pos hk']; rfl⟩⟩
 ·have fA:=fig_n hA
  have fB:=fig_n hB
  exact fun z hz => ⟨hg,hg',hn,hm,h1,h2,h3,h4,h5,h6,fun h => (by rw [hz] at h; cases h),fun h => ⟨hg,(by have:=fA hk; omega),(by have:=fA hk; omega),(check_1 hA).2.2.1,hg',(by have:=fB hk'; omega),(by have:=fB hk'; omega),(check_1 hB).2.2.1,by have hAB:=And.intro hA hB; simp only [apS,axS,if_pos hAB,if_neg hk,if_neg hk']; rfl⟩⟩
 ·exact fun z hz => ⟨hg,hg',hn,hm,h1,h2,h3,h4,h5,h6,fun h => (by have hN:¬ (checkS k x y r n (gx g 0) (gx g 1) = 0 ∧ checkS k' x' y' r' m (gx g' 0) (gx g' 1) = 0):=fun q => hB q.2; simp only [apS,axS,if_neg hN]; rfl),fun h => (by rw [hz] at h; cases h)⟩
 ·exact fun z hz => ⟨hg,hg',hn,hm,h1,h2,h3,h4,h5,h6,fun h => (by have hN:¬ (checkS k x y r n (gx g 0) (gx g 1) = 0 ∧ checkS k' x' y' r' m (gx g' 0) (gx g' 1) = 0):=fun q => hA q.1; simp only [apS,axS,if_neg hN]; rfl),fun h => (by rw [hz] at h; cases h)⟩
 ·exact fun z hz => ⟨hg,hg',hn,hm,h1,h2,h3,h4,h5,h6,fun h => (by have hN:¬ (checkS k x y r n (gx g 0) (gx g 1) = 0 ∧ checkS k' x' y' r' m (gx g' 0) (gx g' 1) = 0):=fun q => hA q.1; simp only [apS,axS,if_neg hN]; rfl),fun h => (by rw [hz] at h; cases h)⟩
 ·exact fun z hz => ⟨hg,hg',hn,hm,h1,h2,h3,h4,h5,h6,fun h => (by have hN:¬ (checkS k x y r n (gx g 0) (gx g 1) = 0 ∧ checkS k' x' y' r' m (gx g' 0) (gx g' 1) = 0):=fun q => hA q.1; simp only [apS,axS,if_neg hN]; rfl),fun h => (by rw [hz] at h; cases h)⟩
def c34:Con
 | [.agg [.v (.int .i64 k),.v (.int .i64 x),.v (.int .i64 y),.v (.int .i64 r),.ro n 2 g],.agg [.v (.int .i64 k'),.v (.int .i64 x'),.v (.int .i64 y'),.v (.int .i64 r'),.ro m 2 g']] => some ([spots n g,spots m g',n ≤ 9223372036854775806,m ≤ 9223372036854775806,inR x,inR y,inR r,inR x',inR y',inR r'],
   axA (apS k x y r n (gx g 0) (gx g 1) k' x' y' r' m (gx g' 0) (gx g' 1)) (axS k x y r n (gx g 0) (gx g 1) k' x' y' r' m (gx g' 0) (gx g' 1)))
 | _ => none
theorem con34:ConOK Tryz.prog 34 c34:=ConOK.go (G:=[(57,c57),(62,k94)]) (H:=[]) (.cons con57 (.cons kon94 .nil)) Tryz.func34 fun l ob rr hc hob => by
 unfold c34 at hc
 split at hc
 ·rename_i k x y r n g k' x' y' r' m g'
  cases hc
  exact ⟨_,fun w I vs h => h,by kernel_rfl,vc34 k x y r n g k' x' y' r' m g' (hob _ (by simp)) (hob _ (by simp)) (hob _ (by simp)) (hob _ (by simp)) (hob _ (by simp)) (hob _ (by simp)) (hob _ (by simp)) (hob _ (by simp)) (hob _ (by simp)) (hob _ (by simp))⟩
 ·cases hc
end Go.Ax
end
section
/-
  The axis between forms: the reference's.
-/
set_option maxHeartbeats 4000000
set_option maxRecDepth 100000
namespace Go.Ax
open Go.Proofs
end Go.Ax
end