/-
  Shapes: their errors.
-/
import Derived.Test.YtlpbblcepjlfpaaGreatCM5
set_option linter.unusedVariables false
set_option linter.unusedSimpArgs false
section
set_option maxHeartbeats 4000000
set_option maxRecDepth 100000
namespace Go.Ax
open Go.Proofs
instance {x:Int}:Decidable (lo x):=by unfold lo; infer_instance
def chkS (k r w t:Int) (n:Nat) (X Y:Nat → Int):Int:=
 if k = 1 then (if w ≠ 0 ∨ t ≠ 0 ∨ n ≠ 0 then 4 else if 16 ≤ r ∧ r ≤ 4096 then 0 else 3)
 else if k = 2 then (if r ≠ 0 ∨ n ≠ 0 then 4 else if (16 ≤ w ∧ w ≤ 4096) ∧ (16 ≤ t ∧ t ≤ 4096) then 0 else 3)
 else if k = 3 then (if r ≠ 0 ∨ w ≠ 0 ∨ t ≠ 0 ∨ n < 3 ∨ 8 < n then 4 else if ∀ i,i < n → lo (X i) ∧ lo (Y i) then (if cvxS n X Y = true then 0 else 5) else 3)
 else 8
abbrev shapeA (k r w t:Int) (n:Nat) (g:Nat → List AV):AV:=.agg [i64 k,i64 r,i64 w,i64 t,.ro n 2 g]
theorem vc41 (k r w t:Int) (n:Nat) (X Y:Nat → Int) (hX:∀ i,i < n → inR (X i) ∧ inR (Y i)) (hn:n ≤ 9223372036854775806):fnVC Tryz.prog [(88,c88),(89,c89)] [] Tryz.f41 [shapeA k r w t n fun i => [i64 (X i),i64 (Y i)]] (· = i64 (chkS k r w t n X Y)):=by
 refine fnVC_go (rs:=[.tmp 2]) rfl rfl ?_
 have hg:spots n fun i => [i64 (X i),i64 (Y i)]:=fun i hi => ⟨rfl,hX i hi⟩
 have eX:gx (fun i => [i64 (X i),i64 (Y i)]) 0 = X:=rfl
 have eY:gx (fun i => [i64 (X i),i64 (Y i)]) 1 = Y:=rfl
 simp only [go_sem,c88,c89]
 refine ⟨fun hk => ?_,fun hk => ⟨fun hk2 => ?_,fun hk2 => ⟨fun hk3 => ?_,fun hk3 => ?_⟩⟩⟩
 ·have hk:k = 1:=by simpa using hk
  refine ⟨fun h => ?_,fun h z hz => ⟨fun h2 => ?_,fun h2 => ?_⟩⟩
  ·unfold chkS; rw [if_pos hk,if_pos (by simp only [bne_iff_ne] at h; omega)]
  ·unfold chkS; rw [if_pos hk,if_neg (by simp at h; omega),if_neg (by rw [hz] at h2; exact of_decide_eq_false h2)]
  ·unfold chkS; rw [if_pos hk,if_neg (by simp at h; omega),if_pos (by rw [hz] at h2; exact of_decide_eq_true h2)]
 ·have hk:¬ k = 1:=by simpa using hk
  have hk2:k = 2:=by simpa using hk2
  refine ⟨fun h => ?_,fun h z hz z1 hz1 => ⟨fun h2 => ?_,fun h2 => ?_⟩⟩
  ·unfold chkS; rw [if_neg hk,if_pos hk2,if_pos (by simp only [bne_iff_ne] at h; omega)]
  ·unfold chkS; rw [if_neg hk,if_pos hk2,if_neg (by simp at h; omega),if_neg (by
    rintro ⟨p,q⟩
    rw [hz,hz1,decide_eq_true p,decide_eq_true q] at h2
    simp at h2)]
  ·unfold chkS; rw [if_neg hk,if_pos hk2,if_neg (by simp at h; omega),if_pos (by
    rw [hz,hz1] at h2
    exact ⟨of_decide_eq_true h2.1,of_decide_eq_true h2.2⟩)]
 ·have hk:¬ k = 1:=by simpa using hk
  have hk2:¬ k = 2:=by simpa using hk2
  have hk3:k = 3:=by simpa using hk3
  refine ⟨fun h => ?_,fun h => ?_⟩
  ·unfold chkS; rw [if_neg hk,if_neg hk2,if_pos hk3,if_pos (by simp only [bne_iff_ne] at h; omega)]
  have h4:¬ (r ≠ 0 ∨ w ≠ 0 ∨ t ≠ 0 ∨ n < 3 ∨ 8 < n):=by simp at h; omega
  have e0:chkS k r w t n X Y = if ∀ i,i < n → lo (X i) ∧ lo (Y i) then (if cvxS n X Y = true then 0 else 5) else 3:=by unfold chkS; rw [if_neg hk,if_neg hk2,if_pos hk3,if_neg h4]
  rw [e0]
  refine loopC_go (fun (i:Nat) => i ≤ n ∧ ∀ j,j < i → lo (X j) ∧ lo (Y j)) (fun i => n - i) (fun i => [(78,i64 i)]) (fun _ => []) [0] [79,80,81,4,82,83,84,85,86,87,88,89,90,91,92,93,94,95,2,96,78] 0 (by kernel_rfl) ?_ ⟨Nat.zero_le _,fun j hj => by omega⟩ ?_ ?_
  ·intro x _; simp [goodNames]
  ·simp only [go_sem]
  ·intro i hi
   simp only [go_sem,c89,eX,eY]
   refine ⟨fun hin => ⟨by omega,hin,fun z hz z1 hz1 => ⟨fun h5 => ?_,fun h5 z2 hz2 => ⟨i + 1,⟨by omega,fun j hj => ?_⟩,by omega,?_⟩⟩⟩,fun hin z hz => ⟨hg,by omega,fun j hj => hi.2 j (by omega),fun h5 => ?_,fun h5 => ?_⟩⟩
   ·rw [if_neg fun hc => ?_]
    have:=hc i (by omega)
    unfold lo at this
    omega
   ·by_cases e:j = i
    ·subst e; unfold lo; omega
    ·exact hi.2 j (by omega)
   ·rw [hz2,wrap_in (by unfold inR; omega)]; rfl
   ·rw [if_pos (fun j hj => hi.2 j (by omega)),if_neg (by rw [← hz,h5]; decide)]
   ·rw [if_pos (fun j hj => hi.2 j (by omega)),if_pos (by rw [← hz,h5])]
 ·have hk:¬ k = 1:=by simpa using hk
  have hk2:¬ k = 2:=by simpa using hk2
  have hk3:¬ k = 3:=by simpa using hk3
  unfold chkS; rw [if_neg hk,if_neg hk2,if_neg hk3]
theorem Rs_shape {w:World} {ρ:Env} {k x y r:Int} {n:Nat} {g:Nat → List AV} (hs:spots n g) (v:Value) (h:R w ρ (shapeA k x y r n g) v):R w ρ (shapeA k x y r n fun i => [i64 (gx g 0 i),i64 (gx g 1 i)]) v:=Rs_form hs v h
def c41:Con
 | [.agg [.v (.int .i64 k),.v (.int .i64 r),.v (.int .i64 w),.v (.int .i64 t),.ro n 2 g]] => some ([spots n g,n ≤ 9223372036854775806],i64 (chkS k r w t n (gx g 0) (gx g 1)))
 | _ => none
theorem con41:ConOK Tryz.prog 41 c41:=ConOK.go (G:=[(88,c88),(89,c89)]) (H:=[]) (.cons con88 (.cons con89 .nil)) Tryz.func41 fun l ob rr hc hob => by
 unfold c41 at hc
 split at hc
 ·rename_i k r w t n g
  cases hc
  have hs:spots n g:=hob _ (by simp)
  exact ⟨[shapeA k r w t n fun i => [i64 (gx g 0 i),i64 (gx g 1 i)]],fun w I vs h => Rs_one (Rs_shape hs) h,by kernel_rfl,vc41 k r w t n _ _ (fun i hi => (hs i hi).2) (hob _ (by simp))⟩
 ·cases hc
theorem vc52 (k r w t:Int) (n:Nat) (X Y:Nat → Int) (hX:∀ i,i < n → inR (X i) ∧ inR (Y i)) (hn:n ≤ 9223372036854775806):fnVC Tryz.prog [(101,c101),(102,c102),(103,c89)] [] Tryz.f52 [shapeA k r w t n fun i => [i64 (X i),i64 (Y i)]] (· = i64 (chkS k r w t n X Y)):=by
 refine fnVC_go (rs:=[.tmp 2]) rfl rfl ?_
 have hg:spots n fun i => [i64 (X i),i64 (Y i)]:=fun i hi => ⟨rfl,hX i hi⟩
 have eX:gx (fun i => [i64 (X i),i64 (Y i)]) 0 = X:=rfl
 have eY:gx (fun i => [i64 (X i),i64 (Y i)]) 1 = Y:=rfl
 simp only [go_sem,c101,c102,c89]
 refine ⟨fun hk => ?_,fun hk => ⟨fun hk2 => ?_,fun hk2 => ⟨fun hk3 => ?_,fun hk3 => ?_⟩⟩⟩
 ·have hk:k = 1:=by simpa using hk
  refine ⟨fun h => ?_,fun h z hz => ⟨fun h2 => ?_,fun h2 => ?_⟩⟩
  ·unfold chkS; rw [if_pos hk,if_pos (by simp only [bne_iff_ne] at h; omega)]
  ·unfold chkS; rw [if_pos hk,if_neg (by simp at h; omega),if_neg (by rw [hz] at h2; exact of_decide_eq_false h2)]
  ·unfold chkS; rw [if_pos hk,if_neg (by simp at h; omega),if_pos (by rw [hz] at h2; exact of_decide_eq_true h2)]
 ·have hk:¬ k = 1:=by simpa using hk
  have hk2:k = 2:=by simpa using hk2
  refine ⟨fun h => ?_,fun h z hz z1 hz1 => ⟨fun h2 => ?_,fun h2 => ?_⟩⟩
  ·unfold chkS; rw [if_neg hk,if_pos hk2,if_pos (by simp only [bne_iff_ne] at h; omega)]
  ·unfold chkS; rw [if_neg hk,if_pos hk2,if_neg (by simp at h; omega),if_neg (by
    rintro ⟨p,q⟩
    rw [hz,hz1,decide_eq_true p,decide_eq_true q] at h2
    simp at h2)]
  ·unfold chkS; rw [if_neg hk,if_pos hk2,if_neg (by simp at h; omega),if_pos (by
    rw [hz,hz1] at h2
    exact ⟨of_decide_eq_true h2.1,of_decide_eq_true h2.2⟩)]
 ·have hk:¬ k = 1:=by simpa using hk
  have hk2:¬ k = 2:=by simpa using hk2
  have hk3:k = 3:=by simpa using hk3
  refine ⟨fun h => ?_,fun h => ?_⟩
  ·unfold chkS; rw [if_neg hk,if_neg hk2,if_pos hk3,if_pos (by simp only [bne_iff_ne] at h; omega)]
  have h4:¬ (r ≠ 0 ∨ w ≠ 0 ∨ t ≠ 0 ∨ n < 3 ∨ 8 < n):=by simp at h; omega
  have e0:chkS k r w t n X Y = if ∀ i,i < n → lo (X i) ∧ lo (Y i) then (if cvxS n X Y = true then 0 else 5) else 3:=by unfold chkS; rw [if_neg hk,if_neg hk2,if_pos hk3,if_neg h4]
  rw [e0]
  refine loopC_go (fun (i:Nat) => i ≤ n ∧ ∀ j,j < i → lo (X j) ∧ lo (Y j)) (fun i => n - i) (fun i => [(3,i64 i)]) (fun _ => []) [0] [74,75,76,77,78,81,82,83,84,85,86,87,88,89,90,91,92,93,94,95,96,97,98,2,79,80,3] 0 (by kernel_rfl) ?_ ⟨Nat.zero_le _,fun j hj => by omega⟩ ?_ ?_
  ·intro x _; simp [goodNames]
  ·simp only [go_sem]
  ·intro i hi
   simp only [go_sem,c102,c89,eX,eY]
   refine ⟨fun hin => ⟨by omega,hin,fun z hz => ⟨fun _ => by omega,fun _ => hin,fun z1 hz1 => ⟨fun h5 => ?_,fun h5 z2 hz2 => ⟨i + 1,⟨by omega,fun j hj => ?_⟩,by omega,?_⟩⟩⟩⟩,fun hin z hz => ⟨hg,by omega,fun j hj => hi.2 j (by omega),fun h5 => ?_,fun h5 => ?_⟩⟩
   ·rw [if_neg fun hc => ?_]
    have:=hc i (by omega)
    unfold lo at this
    rw [hz,hz1] at h5
    rcases h5 with h5 | h5
    ·exact absurd (of_decide_eq_false h5) (by simp only [Decidable.not_not]; exact this.1)
    ·exact absurd (of_decide_eq_false h5) (by simp only [Decidable.not_not]; exact this.2)
   ·by_cases e:j = i
    ·subst e
     rw [hz,hz1] at h5
     exact ⟨of_decide_eq_true h5.1,of_decide_eq_true h5.2⟩
    ·exact hi.2 j (by omega)
   ·rw [hz2,wrap_in (by unfold inR; omega)]; rfl
   ·rw [if_pos (fun j hj => hi.2 j (by omega)),if_neg (by rw [← hz,h5]; decide)]
   ·rw [if_pos (fun j hj => hi.2 j (by omega)),if_pos (by rw [← hz,h5])]
 ·have hk:¬ k = 1:=by simpa using hk
  have hk2:¬ k = 2:=by simpa using hk2
  have hk3:¬ k = 3:=by simpa using hk3
  unfold chkS; rw [if_neg hk,if_neg hk2,if_neg hk3]
theorem con52:ConOK Tryz.prog 52 c41:=ConOK.go (G:=[(101,c101),(102,c102),(103,c89)]) (H:=[]) (.cons con101 (.cons con102 (.cons con103 .nil))) Tryz.func52 fun l ob rr hc hob => by
 unfold c41 at hc
 split at hc
 ·rename_i k r w t n g
  cases hc
  have hs:spots n g:=hob _ (by simp)
  exact ⟨[shapeA k r w t n fun i => [i64 (gx g 0 i),i64 (gx g 1 i)]],fun w I vs h => Rs_one (Rs_shape hs) h,by kernel_rfl,vc52 k r w t n _ _ (fun i hi => (hs i hi).2) (hob _ (by simp))⟩
 ·cases hc
end Go.Ax
end
section
/-
  Rays and polygons.
-/
set_option maxHeartbeats 4000000
set_option maxRecDepth 100000
namespace Go.Ax
open Go.Proofs
theorem mth107_meets : methT Tryz.prog 107 "bagatelle/solid.meets" = some 234 := by kernel_rfl
theorem mth112_meets : methT Tryz.prog 112 "bagatelle/solid.meets" = some 238 := by kernel_rfl
attribute [go_sem] mth107_meets mth112_meets
abbrev HitT:=Bool × Nb × V2
abbrev hitC (h:HitT):List AV:=[bo h.1,i64 h.2.1.1,bo h.2.1.2,i64 h.2.2.1.1,bo h.2.2.1.2,i64 h.2.2.2.1,bo h.2.2.2.2]
def hitA (h:HitT):AV:=.agg (hitC h)
theorem bnd_hit {h:HitT}:bnd (hitA h) = .agg [bo h.1,i64 h.2.1.1,bo h.2.1.2,i64 h.2.2.1.1,bo h.2.2.1.2,i64 h.2.2.2.1,bo h.2.2.2.2]:=(rfl)
theorem plain_hit {h:HitT}:plain 3 (hitA h) = true:=(rfl)
attribute [go_sem] bnd_hit plain_hit
end Go.Ax
end
section
/-
  Rays and forms.
-/
set_option maxHeartbeats 4000000
set_option maxRecDepth 100000
namespace Go.Ax
open Go.Proofs
instance {x y r fx fy tx ty:Int}:Decidable (dmB x y r fx fy tx ty):=by unfold dmB; infer_instance
end Go.Ax
end
section
/-
  Rays and forms: the reference.
-/
set_option maxHeartbeats 4000000
set_option maxRecDepth 100000
namespace Go.Ax
open Go.Proofs
end Go.Ax
end
section
/-
  Shapes placed: the small parts.
-/
set_option maxHeartbeats 4000000
set_option maxRecDepth 100000
namespace Go.Ax
open Go.Proofs
def c43:Con
 | [.agg [.v (.int .i64 a),.v (.bool e)]] => some ([inR a],bo (! (whF a e || decide (17592186044416 < ab (whV a)))))
 | _ => none
theorem con43:ConOK Tryz.prog 43 c43:=ConOK.of (G:=[(92,c92),(93,c93),(87,c87)]) (H:=[]) (.cons con92 (.cons con93 (.cons con87 .nil))) Tryz.func43 fun l ob r hc hob => by
 unfold c43 at hc
 split at hc
 ·rename_i a e
  cases hc
  have h_0:inR a:=hob _ (by simp)
  refine ⟨by kernel_rfl,fnVC_go (rs:=[.tmp 2]) rfl rfl ?_⟩
  simp only [go_sem,c92,c93,c87]
  simp only [forall_eq]
  refine ⟨h_0,fun _ => by unfold inR; omega,?_⟩
  have e1:whV (ab (whV a)) = ab (whV a):=whV_of (by have:=whV_rg h_0; unfold rg at *; unfold ab; split <;> omega)
  have e2:whV (ftV (4096 * 4294967296)) = 17592186044416:=by decide
  rw [e1,e2,Bool.eq_iff_iff]
  simp [cmpS]
  intro _
  split
  ·simp; omega
  ·split
   ·simp; omega
   ·simp; omega
 ·cases hc
def c44:Con
 | [.agg [.v (.int .i64 a),.v (.bool e),.v (.int .i64 b),.v (.bool f)]] => some ([inR a,inR b],.agg [i64 (spV (a,e)),i64 (spV (b,f))])
 | _ => none
theorem con44:ConOK Tryz.prog 44 c44:=ConOK.of (G:=[(93,c93),(94,c94),(95,c95)]) (H:=[(2,⟨[(11,.slot 2)],[]⟩)]) (.cons con93 (.cons con94 (.cons con95 .nil))) Tryz.func44 fun l ob r hc hob => by
 unfold c44 at hc
 split at hc
 ·rename_i a e b f
  cases hc
  have h_0:inR a:=hob _ (by simp)
  have h_1:inR b:=hob _ (by simp)
  refine ⟨by kernel_rfl,fnVC_go (rs:=[.cell 2 29]) rfl rfl ?_⟩
  simp only [go_sem,c93,c94,c95]
  simp only [forall_eq]
  exact ⟨h_0,rg_inR (ftV_rg _),rg_inR (ftV_rg _),h_1,rg_inR (ftV_rg _),rg_inR (ftV_rg _),rfl⟩
 ·cases hc
theorem vfS_one {x y:Int} {e f:Bool}:vfS 1 (rowsOf 4 [i64 x,bo e,i64 y,bo f]) = (whF x e || whF y f):=by
 unfold vfS anyB anyB
 rw [Bool.false_or]; rfl
def c42:Con
 | [.agg [.v (.int .i64 x),.v (.bool e),.v (.int .i64 y),.v (.bool f)]] => some ([inR x,inR y],i64 (if (whF x e = true ∨ whF y f = true) ∨ (65536 < (nDot (x,e) (x,e) (y,f) (y,f)).1 - 4294967296 ∨ 65536 < 4294967296 - (nDot (x,e) (x,e) (y,f) (y,f)).1) then 3 else 0))
 | _ => none
theorem con42:ConOK Tryz.prog 42 c42:=ConOK.of (G:=[(90,c90),(91,c91)]) (H:=[]) (.cons con90 (.cons con91 .nil)) Tryz.func42 fun l ob r hc hob => by
 unfold c42 at hc
 split at hc
 ·rename_i x e y f
  cases hc
  have h_0:inR x:=hob _ (by simp)
  have h_1:inR y:=hob _ (by simp)
  refine ⟨by kernel_rfl,fnVC_go (rs:=[.tmp 2]) rfl rfl ?_⟩
  simp only [go_sem,c90,c91]
  simp only [forall_eq,vfS_one]
  have k0:0 ≤ (whV x * whV x + whV y * whV y).tdiv 4294967296:=Int.tdiv_nonneg (by have:=sq_nonneg (a:=whV x); have:=sq_nonneg (a:=whV y); omega) (by omega)
  have k1:0 ≤ ftV ((whV x * whV x + whV y * whV y).tdiv 4294967296) ∧ ftV ((whV x * whV x + whV y * whV y).tdiv 4294967296) ≤ 9223372036854775807:=by unfold ftV; (repeat' split) <;> omega
  have eD:(nDot (x,e) (x,e) (y,f) (y,f)).1 = ftV ((whV x * whV x + whV y * whV y).tdiv 4294967296):=rfl
  rw [eD]
  generalize ftV ((whV x * whV x + whV y * whV y).tdiv 4294967296) = n at *
  rw [wrap_in (x:=n - 4294967296) (by unfold inR; omega)]
  refine ⟨⟨h_0,h_1⟩,fun h => ?_,fun h => ⟨h_0,h_0,h_1,h_1,fun h2 => ?_,fun h2 => ?_⟩⟩
  ·rw [if_pos (.inl (by simpa using h))]
  ·rw [if_pos (.inr (by omega))]
  ·rw [if_neg (by
    rintro (k | k)
    ·have:(whF x e || whF y f) = true:=by simpa using k
     rw [h] at this; cases this
    ·omega)]
 ·cases hc
def k131:Con
 | [.agg [.v (.int .i64 x),.v (.bool e),.v (.int .i64 y),.v (.bool f)],.agg [.v (.int .i64 z),.v (.bool g),.v (.int .i64 t),.v (.bool h)]] => some ([inR x,inR y,inR z,inR t],veA (vApply ((x,e),(y,f)) ((z,g),(t,h))))
 | _ => none
theorem kon131:ConOK Tryz.prog 97 k131:=ConOK.of (G:=[(91,c91),(127,c127)]) (H:=[(1,⟨[(20,.slot 4)],[]⟩)]) (.cons con91 (.cons con127 .nil)) Tryz.func97 fun l ob r hc hob => by
 unfold k131 at hc
 split at hc
 ·rename_i x e y f z g t h
  cases hc
  have h_0:inR x:=hob _ (by simp)
  have h_1:inR y:=hob _ (by simp)
  have h_2:inR z:=hob _ (by simp)
  have h_3:inR t:=hob _ (by simp)
  refine ⟨by kernel_rfl,fnVC_go (rs:=[.cell 4 38]) rfl rfl ?_⟩
  simp only [go_sem,c91,c127]
  simp only [forall_eq]
  exact ⟨h_1,h_0,h_2,rg_inR (by have:=whV_rg h_1; unfold rg at *; omega),h_3,h_1,h_2,h_0,h_3,rfl⟩
 ·cases hc
def k62:Con
 | [.agg [.v (.int .i64 x),.v (.bool e),.v (.int .i64 y),.v (.bool f),.v (.int .i64 c),.v (.bool o),.v (.int .i64 s),.v (.bool p)],.agg [.v (.int .i64 z),.v (.bool g),.v (.int .i64 t),.v (.bool h)]] => some ([inR x,inR y,inR c,inR s,inR z,inR t],veA (vAdd ((x,e),(y,f)) (vApply ((c,o),(s,p)) ((z,g),(t,h)))))
 | _ => none
theorem kon62:ConOK Tryz.prog 46 k62:=ConOK.of (G:=[(96,k130),(97,k131)]) (H:=[(1,⟨[(8,.slot 4)],[]⟩)]) (.cons kon130 (.cons kon131 .nil)) Tryz.func46 fun l ob r hc hob => by
 unfold k62 at hc
 split at hc
 ·rename_i x e y f c o s p z g t h
  cases hc
  have h_0:inR x:=hob _ (by simp)
  have h_1:inR y:=hob _ (by simp)
  have h_2:inR c:=hob _ (by simp)
  have h_3:inR s:=hob _ (by simp)
  have h_4:inR z:=hob _ (by simp)
  have h_5:inR t:=hob _ (by simp)
  refine ⟨by kernel_rfl,fnVC_go (rs:=[.cell 4 38]) rfl rfl ?_⟩
  simp only [go_sem,k130,k131]
  exact ⟨h_2,h_3,h_4,h_5,⟨h_0,h_1⟩,rfl⟩
 ·cases hc
end Go.Ax
end
section
/-
  The corners of a shape.
-/
set_option maxHeartbeats 4000000
set_option maxRecDepth 100000
namespace Go.Ax
open Go.Proofs
def alk (r r':AV):Prop:=∀ w ρ v,R w ρ r' v → R w ρ r v
theorem ConOK.goR {P:Program} {G:Ctx} {H:Hots} (hG:CtxOK P G) {f:FuncId} {fn:Func} (hf:P.funcs[f]? = some fn) {c:Con}
  (h:∀ es1 ob r,c es1 = some (ob,r) → (∀ p ∈ ob,p) → ∃ es,(∀ w I vs,Rs w (.ext I) es1 vs → Rs w (.ext I) es vs) ∧ funcOK P H fn es.length = true ∧ fnVC P G H fn es (alk r)):ConOK P f c:=by
 intro es0 ob r hc hob I w vs hI hRs
 obtain ⟨es,h0,h1,h2⟩:=h es0 ob r hc hob
 obtain ⟨k1,k2⟩:=fn_sound hG hf h1 h2 I w vs hI (h0 w I vs hRs)
 exact .inr ⟨k1,k2.mono fun e w' ⟨v,he,⟨r',hr,hR⟩,hb⟩ => ⟨v,he,hr _ _ _ hR,hb⟩⟩
theorem alk_refl {r:AV}:alk r r:=fun _ _ _ h => h
theorem alk_ro {n:Nat} {f g:Nat → List AV} (h:∀ i,i < n → g i = f i):alk (.ro n 2 f) (.ro n 2 g):=fun w ρ v hR => ro_alike h hR
theorem alk_nil {f:Nat → List AV}:alk (.ro 0 2 f) (.v (.slice none 0 0)):=fun w ρ v hR => by
 cases hR
 exact .ro 0 0 (Nat.le_refl _) (fun h => absurd h (by omega)) (fun h => absurd h (by omega)) (fun i h => absurd h (by omega)) (fun i k h => absurd h (by omega)) (fun i k c x h => absurd h (by omega))
def corN (k r w t:Int) (n:Nat) (X Y:Nat → Int):Nat:=if chkS k r w t n X Y = 0 then (if k = 2 then 4 else n) else 0
def corX (k w t:Int) (X:Nat → Int) (i:Nat):Int:=if k = 2 then (match i with | 0 => -w | 1 => w | 2 => w | _ => -w) else X i
def corY (k w t:Int) (Y:Nat → Int) (i:Nat):Int:=if k = 2 then (match i with | 0 => -t | 1 => -t | 2 => t | _ => t) else Y i
abbrev corA (k r w t:Int) (n:Nat) (X Y:Nat → Int):AV:=.ro (corN k r w t n X Y) 2 fun i => [i64 (corX k w t X i),i64 (corY k w t Y i)]
theorem chk_cases {k r w t:Int} {n:Nat} {X Y:Nat → Int} (h:chkS k r w t n X Y = 0):(k = 1 ∧ n = 0 ∧ 16 ≤ r ∧ r ≤ 4096) ∨ (k = 2 ∧ n = 0 ∧ 16 ≤ w ∧ w ≤ 4096 ∧ 16 ≤ t ∧ t ≤ 4096) ∨ (k = 3 ∧ 3 ≤ n ∧ n ≤ 8 ∧ r = 0 ∧ ∀ i,i < n → lo (X i) ∧ lo (Y i)):=by
 unfold chkS at h
 split at h
 ·rename_i h1
  split at h
  ·omega
  ·split at h
   ·exact .inl ⟨h1,by omega⟩
   ·omega
 ·split at h
  ·rename_i h1 h2
   split at h
   ·omega
   ·split at h
    ·exact .inr (.inl ⟨h2,by omega⟩)
    ·omega
  ·split at h
   ·rename_i h1 h2 h3
    split at h
    ·omega
    ·split at h
     ·rename_i h5 h6
      exact .inr (.inr ⟨h3,by omega,by omega,by omega,h6⟩)
     ·omega
   ·omega
theorem vc45 (k r w t:Int) (n:Nat) (X Y:Nat → Int) (hX:∀ i,i < n → inR (X i) ∧ inR (Y i)) (hn:n ≤ 9223372036854775806):fnVC Tryz.prog [(41,c41)] [] Tryz.f45 [shapeA k r w t n fun i => [i64 (X i),i64 (Y i)]] (alk (corA k r w t n X Y)):=by
 refine fnVC_go (rs:=[.tmp 2]) rfl rfl ?_
 have hg:spots n fun i => [i64 (X i),i64 (Y i)]:=fun i hi => ⟨rfl,hX i hi⟩
 have eX:gx (fun i => [i64 (X i),i64 (Y i)]) 0 = X:=rfl
 have eY:gx (fun i => [i64 (X i),i64 (Y i)]) 1 = Y:=rfl
 simp only [go_sem,c41,eX,eY]
 have hb:bytesT Tryz.prog 29 = 16:=by kernel_rfl
 rw [hb]
 simp only [forall_eq]
 refine ⟨hg,hn,fun h => ?_,fun h => ⟨fun h2 => ?_,fun h2 => ?_⟩⟩
 ·have:corN k r w t n X Y = 0:=if_neg (by simpa using h)
  unfold corA
  rw [this]
  exact alk_nil
 ·have hk:k = 2:=by simpa using h2
  have hc:chkS k r w t n X Y = 0:=by simpa using h
  have:corN k r w t n X Y = 4:=by unfold corN; rw [if_pos hc,if_pos hk]
  have hb:=chk_cases hc
  rw [wrap_in (x:=0 - w) (by unfold inR; omega),wrap_in (x:=0 - t) (by unfold inR; omega),Int.zero_sub,Int.zero_sub]
  unfold corA
  rw [this]
  refine alk_ro fun i hi => ?_
  unfold corX corY
  rw [if_pos hk,if_pos hk]
  match i with
  | 0 => rfl
  | 1 => rfl
  | 2 => rfl
  | 3 => rfl
  | j + 4 => omega
 ·have hk:¬ k = 2:=by simpa using h2
  have hc:chkS k r w t n X Y = 0:=by simpa using h
  have:corN k r w t n X Y = n:=by unfold corN; rw [if_pos hc,if_neg hk]
  have hb:=chk_cases hc
  unfold corA
  rw [this]
  refine ⟨fun i hi => by simp only [go_sem],by omega,by omega,?_⟩
  refine alk_ro fun i hi => ?_
  unfold corX corY
  rw [if_neg hk,if_neg hk]
theorem vc11 (k r w t:Int) (n:Nat) (X Y:Nat → Int) (hX:∀ i,i < n → inR (X i) ∧ inR (Y i)) (hn:n ≤ 9223372036854775806):fnVC Tryz.prog [(52,c41)] [] Tryz.f11 [shapeA k r w t n fun i => [i64 (X i),i64 (Y i)]] (alk (corA k r w t n X Y)):=by
 refine fnVC_go (rs:=[.tmp 2]) rfl rfl ?_
 have hg:spots n fun i => [i64 (X i),i64 (Y i)]:=fun i hi => ⟨rfl,hX i hi⟩
 have eX:gx (fun i => [i64 (X i),i64 (Y i)]) 0 = X:=rfl
 have eY:gx (fun i => [i64 (X i),i64 (Y i)]) 1 = Y:=rfl
 simp only [go_sem,c41,eX,eY]
 have hb:bytesT Tryz.prog 29 = 16:=by kernel_rfl
 rw [hb]
 simp only [forall_eq]
 refine ⟨hg,hn,fun h => ?_,fun h => ⟨fun h2 => ?_,fun h2 => ?_⟩⟩
 ·have:corN k r w t n X Y = 0:=if_neg (by simpa using h)
  unfold corA
  rw [this]
  exact alk_nil
 ·have hk:k = 2:=by simpa using h2
  have hc:chkS k r w t n X Y = 0:=by simpa using h
  have:corN k r w t n X Y = 4:=by unfold corN; rw [if_pos hc,if_pos hk]
  have hb:=chk_cases hc
  rw [wrap_in (x:=0 - w) (by unfold inR; omega),wrap_in (x:=0 - t) (by unfold inR; omega),Int.zero_sub,Int.zero_sub]
  unfold corA
  rw [this]
  refine alk_ro fun i hi => ?_
  unfold corX corY
  rw [if_pos hk,if_pos hk]
  match i with
  | 0 => rfl
  | 1 => rfl
  | 2 => rfl
  | 3 => rfl
  | j + 4 => omega
 ·have hk:¬ k = 2:=by simpa using h2
  have hc:chkS k r w t n X Y = 0:=by simpa using h
  have:corN k r w t n X Y = n:=by unfold corN; rw [if_pos hc,if_neg hk]
  have hb:=chk_cases hc
  unfold corA
  rw [this]
  refine ⟨fun i hi => by simp only [go_sem],by omega,by omega,?_⟩
  rw [Nat.zero_add]
  refine alk_ro fun i hi => ?_
  unfold corX corY
  rw [if_neg hk,if_neg hk,if_neg (Nat.not_lt_zero i),Nat.sub_zero]
  simp only [go_sem]
def c45:Con
 | [.agg [.v (.int .i64 k),.v (.int .i64 r),.v (.int .i64 w),.v (.int .i64 t),.ro n 2 g]] => some ([spots n g,n ≤ 9223372036854775806],corA k r w t n (gx g 0) (gx g 1))
 | _ => none
theorem con45:ConOK Tryz.prog 45 c45:=ConOK.goR (G:=[(41,c41)]) (H:=[]) (.cons con41 .nil) Tryz.func45 fun l ob rr hc hob => by
 unfold c45 at hc
 split at hc
 ·rename_i k r w t n g
  cases hc
  have hs:spots n g:=hob _ (by simp)
  exact ⟨[shapeA k r w t n fun i => [i64 (gx g 0 i),i64 (gx g 1 i)]],fun w I vs h => Rs_one (Rs_shape hs) h,by kernel_rfl,vc45 k r w t n _ _ (fun i hi => (hs i hi).2) (hob _ (by simp))⟩
 ·cases hc
theorem con11:ConOK Tryz.prog 11 c45:=ConOK.goR (G:=[(52,c41)]) (H:=[]) (.cons con52 .nil) Tryz.func11 fun l ob rr hc hob => by
 unfold c45 at hc
 split at hc
 ·rename_i k r w t n g
  cases hc
  have hs:spots n g:=hob _ (by simp)
  exact ⟨[shapeA k r w t n fun i => [i64 (gx g 0 i),i64 (gx g 1 i)]],fun w I vs h => Rs_one (Rs_shape hs) h,by kernel_rfl,vc11 k r w t n _ _ (fun i hi => (hs i hi).2) (hob _ (by simp))⟩
 ·cases hc
end Go.Ax
end
section
/-
  Shapes placed.
-/
set_option maxHeartbeats 4000000
set_option maxRecDepth 100000
namespace Go.Ax
open Go.Proofs
theorem alk_form {a b c d e p q:AV} (h:alk p q):alk (.tup [.agg [a,b,c,d,p],e]) (.tup [.agg [a,b,c,d,q],e]):=fun w ρ v hR => by
 cases hR with
 | tup hl hh =>
  refine .tup hl fun i x z h1 h2 => ?_
  match i with
  | 0 =>
   simp at h1; subst h1
   have:=hh 0 _ z rfl h2
   cases this with
   | agg hl' hh' =>
    refine .agg hl' fun j x y h3 h4 => ?_
    match j with
    | 0 => exact hh' 0 x y h3 h4
    | 1 => exact hh' 1 x y h3 h4
    | 2 => exact hh' 2 x y h3 h4
    | 3 => exact hh' 3 x y h3 h4
    | 4 =>
     simp at h3; subst h3
     exact h _ _ _ (hh' 4 _ y rfl h4)
    | m + 5 => simp at h3
  | 1 => exact hh 1 x z h1 h2
  | m + 2 => simp at h1
def rotS (x:Int) (e:Bool) (y:Int) (f:Bool):Int:=if (whF x e = true ∨ whF y f = true) ∨ (65536 < (nDot (x,e) (x,e) (y,f) (y,f)).1 - 4294967296 ∨ 65536 < 4294967296 - (nDot (x,e) (x,e) (y,f) (y,f)).1) then 3 else 0
def farB (a:Nb):Bool:=whF a.1 a.2 || decide (17592186044416 < ab (whV a.1))
def plErr (k r w t:Int) (n:Nat) (X Y:Nat → Int) (at' rot:V2):Int:=
 if chkS k r w t n X Y ≠ 0 then chkS k r w t n X Y else if rotS rot.1.1 rot.1.2 rot.2.1 rot.2.2 ≠ 0 then rotS rot.1.1 rot.1.2 rot.2.1 rot.2.2 else if farB at'.1 = true ∨ farB at'.2 = true then 3 else 0
def plPt (at' rot:V2) (x y:Int):V2:=vAdd at' (vApply rot (vLoc x y))
def plX (k w t:Int) (X Y:Nat → Int) (at' rot:V2) (i:Nat):Int:=spV (plPt at' rot (corX k w t X i) (corY k w t Y i)).1
def plY (k w t:Int) (X Y:Nat → Int) (at' rot:V2) (i:Nat):Int:=spV (plPt at' rot (corX k w t X i) (corY k w t Y i)).2
def plN (k r w t:Int) (n:Nat) (X Y:Nat → Int) (at' rot:V2):Nat:=if plErr k r w t n X Y at' rot = 0 then (if k = 1 then 0 else corN k r w t n X Y) else 0
def plK (k r w t:Int) (n:Nat) (X Y:Nat → Int) (at' rot:V2):Int:=if plErr k r w t n X Y at' rot = 0 then (if k = 1 then 1 else 2) else 0
def plC (k r w t:Int) (n:Nat) (X Y:Nat → Int) (at' rot:V2) (a:Nb):Int:=if plErr k r w t n X Y at' rot = 0 then spV a else 0
def plR (k r w t:Int) (n:Nat) (X Y:Nat → Int) (at' rot:V2):Int:=if plErr k r w t n X Y at' rot = 0 then r else 0
abbrev plA (k r w t:Int) (n:Nat) (X Y:Nat → Int) (at' rot:V2):AV:=
 .tup [formA (plK k r w t n X Y at' rot) (plC k r w t n X Y at' rot at'.1) (plC k r w t n X Y at' rot at'.2) (plR k r w t n X Y at' rot) (plN k r w t n X Y at' rot) fun i => [i64 (plX k w t X Y at' rot i),i64 (plY k w t X Y at' rot i)],i64 (plErr k r w t n X Y at' rot)]
abbrev poseA (at' rot:V2):AV:=.agg [i64 at'.1.1,bo at'.1.2,i64 at'.2.1,bo at'.2.2,i64 rot.1.1,bo rot.1.2,i64 rot.2.1,bo rot.2.2]
theorem vc8 (k r w t:Int) (n:Nat) (X Y:Nat → Int) (hX:∀ i,i < n → inR (X i) ∧ inR (Y i)) (hn:n ≤ 9223372036854775806) (at' rot:V2) (h0:inR at'.1.1) (h1:inR at'.2.1) (h2:inR rot.1.1) (h3:inR rot.2.1) :
  fnVC Tryz.prog [(41,c41),(42,c42),(43,c43),(44,c44),(45,c45),(46,k62),(47,c47)] [(9,⟨[(7,.made 6)],[]⟩),(15,⟨[(10,.slot 8)],[]⟩)] Tryz.f8 [shapeA k r w t n fun i => [i64 (X i),i64 (Y i)],poseA at' rot] (alk (plA k r w t n X Y at' rot)):=by
 refine fnVC_go (rs:=[.cell 4 31,.tmp 5]) rfl rfl ?_
 have hg:spots n fun i => [i64 (X i),i64 (Y i)]:=fun i hi => ⟨rfl,hX i hi⟩
 have eX:gx (fun i => [i64 (X i),i64 (Y i)]) 0 = X:=rfl
 have eY:gx (fun i => [i64 (X i),i64 (Y i)]) 1 = Y:=rfl
 simp only [go_sem,c41,c42,c43,c44,c45,eX,eY]
 simp only [forall_eq]
 have pos:∀ e:Int,plErr k r w t n X Y at' rot = e → e ≠ 0 → alk (plA k r w t n X Y at' rot) (.tup [.agg [i64 0,i64 0,i64 0,i64 0,.v (.slice none 0 0)],i64 e]):=fun e he hne => by
  subst he
  unfold plA formA
  have q:plN k r w t n X Y at' rot = 0:=if_neg hne
  rw [q,show plK k r w t n X Y at' rot = 0 from if_neg hne,show plC k r w t n X Y at' rot at'.1 = 0 from if_neg hne,show plC k r w t n X Y at' rot at'.2 = 0 from if_neg hne,show plR k r w t n X Y at' rot = 0 from if_neg hne]
  exact alk_form alk_nil
 refine ⟨hg,hn,fun h => ?_,fun h => ⟨h2,h3,fun h4 => ?_,fun h4 => ⟨h0,fun _ => h1,fun h5 => ?_,fun h5 => ⟨h0,h1,fun h6 => ⟨hg,hn,?_⟩,fun h6 => ?_⟩⟩⟩⟩
 ·have hne:chkS k r w t n X Y ≠ 0:=by simpa using h
  exact pos _ (by unfold plErr; rw [if_pos hne]) hne
 ·have hne:rotS rot.1.1 rot.1.2 rot.2.1 rot.2.2 ≠ 0:=bne_iff_ne.1 h4
  refine pos _ ?_ hne
  unfold plErr; rw [if_neg (by simpa using h),if_pos hne]; rfl
 ·refine pos _ ?_ (by omega)
  unfold plErr
  rw [if_neg (by simpa using h),if_neg (show ¬ rotS rot.1.1 rot.1.2 rot.2.1 rot.2.2 ≠ 0 from not_not_intro (bne_eq_false_iff_eq.1 h4)),if_pos]
  unfold farB
  rcases h5 with h5 | h5
  ·exact .inl (by rw [Bool.not_eq_false'] at h5; exact h5)
  ·exact .inr (by rw [Bool.not_eq_false'] at h5; exact h5)
 ·have he:plErr k r w t n X Y at' rot = 0:=by
   unfold plErr
   rw [if_neg (by simpa using h),if_neg (show ¬ rotS rot.1.1 rot.1.2 rot.2.1 rot.2.2 ≠ 0 from not_not_intro (bne_eq_false_iff_eq.1 h4)),if_neg]
   unfold farB
   rw [Bool.not_eq_true',Bool.not_eq_true'] at h5
   rintro (h7 | h7)
   ·rw [h5.1] at h7; cases h7
   ·rw [h5.2] at h7; cases h7
  have hk:¬ k = 1:=by simpa using h6
  have hc:chkS k r w t n X Y = 0:=by simpa using h
  have hcs:=chk_cases hc
  have hN:corN k r w t n X Y ≤ 8:=by unfold corN; rw [if_pos hc]; split <;> omega
  have hb:bytesT Tryz.prog 29 = 16:=by kernel_rfl
  have hx:∀ i,i < corN k r w t n X Y → inR (corX k w t X i) ∧ inR (corY k w t Y i):=fun i hi => by
   unfold corN at hi; rw [if_pos hc] at hi
   unfold corX corY
   split
   ·constructor <;> (split <;> (unfold inR; omega))
   ·rename_i h7
    rw [if_neg h7] at hi
    exact hX i hi
  generalize hM:corN k r w t n X Y = M at *
  refine loopN_go (fun (i:Nat) => i ≤ M) (fun i => M - i) (fun i => [(50,i64 i)]) (fun i => [(33,fam1 31 5 [i64 2,i64 (spV at'.1),i64 (spV at'.2),i64 r,.own 44 0 i 2] none),(44,famN i 2 29 (fun j => [i64 (plX k w t X Y at' rot j),i64 (plY k w t X Y at' rot j)]) none)]) [2,1,0] [51,52,53,10,54,55,56,57,58,59,60,61,62,63,64,50] 1 0 (by kernel_rfl) (Nat.zero_le _) ⟨[(44,none)],?_,?_,?_,?_⟩ ?_
  ·simp only [go_sem]
  ·simp only [go_sem]
  ·simp only [go_sem]
  ·simp [goodNames,asg]
  intro i hi
  simp only [go_sem,c44,c47,k62]
  have hb:bytesT Tryz.prog 29 = 16:=by kernel_rfl
  rw [hb]
  simp only [forall_eq]
  refine ⟨fun hin => ?_,fun hin => ?_⟩
  ·have hi':i < M:=by omega
   have hxi:=hx i hi'
   refine ⟨by omega,hin,hxi.1,hxi.2,h0,h1,h2,h3,rg_inR nRat_rg,rg_inR nRat_rg,by omega,by omega,i + 1,by omega,by omega,[(44,some 58)],?_⟩
   simp only [go_sem]
   refine ⟨by rw [wrap_in (by unfold inR; omega)]; rfl,fun j hj => ?_,by simp [goodNames,asg]⟩
   by_cases e:j < i
   ·rw [if_pos e]; simp only [go_sem]
   ·have e:j = i:=by omega
    subst e
    rw [if_neg (by omega),Nat.sub_self]
    simp only [Nat.zero_mul,go_sem]
    exact ⟨rfl,rfl⟩
  ·have e:i = M:=by omega
   subst e
   unfold plA formA
   rw [show plN k r w t n X Y at' rot = i by unfold plN; rw [if_pos he,if_neg hk,hM],show plK k r w t n X Y at' rot = 2 by unfold plK; rw [if_pos he,if_neg hk],show plC k r w t n X Y at' rot at'.1 = _ from if_pos he,show plC k r w t n X Y at' rot at'.2 = _ from if_pos he,show plR k r w t n X Y at' rot = r from if_pos he,he]
   exact alk_refl
 ·have he:plErr k r w t n X Y at' rot = 0:=by
   unfold plErr
   rw [if_neg (by simpa using h),if_neg (show ¬ rotS rot.1.1 rot.1.2 rot.2.1 rot.2.2 ≠ 0 from not_not_intro (bne_eq_false_iff_eq.1 h4)),if_neg]
   unfold farB
   rw [Bool.not_eq_true',Bool.not_eq_true'] at h5
   rintro (h7 | h7)
   ·rw [h5.1] at h7; cases h7
   ·rw [h5.2] at h7; cases h7
  have hk:k = 1:=by simpa using h6
  unfold plA formA
  rw [show plN k r w t n X Y at' rot = 0 by unfold plN; rw [if_pos he,if_pos hk],show plK k r w t n X Y at' rot = 1 by unfold plK; rw [if_pos he,if_pos hk],show plC k r w t n X Y at' rot at'.1 = _ from if_pos he,show plC k r w t n X Y at' rot at'.2 = _ from if_pos he,show plR k r w t n X Y at' rot = r from if_pos he,he]
  exact alk_form alk_nil
def c8:Con
 | [.agg [.v (.int .i64 k),.v (.int .i64 r),.v (.int .i64 w),.v (.int .i64 t),.ro n 2 g],.agg [.v (.int .i64 x),.v (.bool e),.v (.int .i64 y),.v (.bool f),.v (.int .i64 c),.v (.bool o),.v (.int .i64 s),.v (.bool p)]] => some ([spots n g,n ≤ 9223372036854775806,inR x,inR y,inR c,inR s],plA k r w t n (gx g 0) (gx g 1) ((x,e),(y,f)) ((c,o),(s,p)))
 | _ => none
theorem con8:ConOK Tryz.prog 8 c8:=ConOK.goR (G:=[(41,c41),(42,c42),(43,c43),(44,c44),(45,c45),(46,k62),(47,c47)]) (H:=[(9,⟨[(7,.made 6)],[]⟩),(15,⟨[(10,.slot 8)],[]⟩)]) (.cons con41 (.cons con42 (.cons con43 (.cons con44 (.cons con45 (.cons kon62 (.cons con47 .nil))))))) Tryz.func8 fun l ob rr hc hob => by
 unfold c8 at hc
 split at hc
 ·rename_i k r w t n g x e y f c o s p
  cases hc
  have hs:spots n g:=hob _ (by simp)
  refine ⟨[shapeA k r w t n fun i => [i64 (gx g 0 i),i64 (gx g 1 i)],poseA ((x,e),(y,f)) ((c,o),(s,p))],fun w I vs h => ?_,by kernel_rfl,vc8 k r w t n _ _ (fun i hi => (hs i hi).2) (hob _ (by simp)) ((x,e),(y,f)) ((c,o),(s,p)) (hob _ (by simp)) (hob _ (by simp)) (hob _ (by simp)) (hob _ (by simp))⟩
  obtain ⟨x,xs,rfl,h1,h2⟩:=h.inv
  exact .cons (Rs_shape hs _ h1) h2
 ·cases hc
end Go.Ax
end
section
/-
  What rays meet, the law's body.
-/
set_option maxHeartbeats 4000000
set_option maxRecDepth 100000
namespace Go.Ax
open Go.Proofs
theorem aEq36 {a0 b0:Int} {a1 b1:Bool}:aEq Tryz.prog 36 (.agg [i64 a0,bo a1]) (.agg [i64 b0,bo b1]) = some ((a0 == b0) && ((a1 == b1) && true)):=by kernel_rfl
theorem eq36 {xo yo:Operand} {neg:Bool} {a0 b0:Int} {a1 b1:Bool}:eqE Tryz.prog neg 36 xo yo (.agg [i64 a0,bo a1]) (.agg [i64 b0,bo b1]) = some ⟨[],.v (.bool (negV neg ((a0 == b0) && ((a1 == b1) && true)))),.none⟩:=eqE_agg aEq36
attribute [go_sem] eq36
theorem aEq38 {a0 b0:Int} {a1 b1:Bool} {a2 b2:Int} {a3 b3:Bool}:aEq Tryz.prog 38 (.agg [i64 a0,bo a1,i64 a2,bo a3]) (.agg [i64 b0,bo b1,i64 b2,bo b3]) = some (((a0 == b0) && ((a1 == b1) && true)) && (((a2 == b2) && ((a3 == b3) && true)) && true)):=by kernel_rfl
theorem eq38 {xo yo:Operand} {neg:Bool} {a0 b0:Int} {a1 b1:Bool} {a2 b2:Int} {a3 b3:Bool}:eqE Tryz.prog neg 38 xo yo (.agg [i64 a0,bo a1,i64 a2,bo a3]) (.agg [i64 b0,bo b1,i64 b2,bo b3]) = some ⟨[],.v (.bool (negV neg (((a0 == b0) && ((a1 == b1) && true)) && (((a2 == b2) && ((a3 == b3) && true)) && true)))),.none⟩:=eqE_agg aEq38
attribute [go_sem] eq38
theorem aEq80 {a0 b0:Bool} {a1 b1:Int} {a2 b2:Bool} {a3 b3:Int} {a4 b4:Bool} {a5 b5:Int} {a6 b6:Bool}:aEq Tryz.prog 80 (.agg [bo a0,i64 a1,bo a2,i64 a3,bo a4,i64 a5,bo a6]) (.agg [bo b0,i64 b1,bo b2,i64 b3,bo b4,i64 b5,bo b6]) = some ((a0 == b0) && (((a1 == b1) && ((a2 == b2) && true)) && ((((a3 == b3) && ((a4 == b4) && true)) && (((a5 == b5) && ((a6 == b6) && true)) && true)) && true))):=by kernel_rfl
theorem eq80 {xo yo:Operand} {neg:Bool} {a0 b0:Bool} {a1 b1:Int} {a2 b2:Bool} {a3 b3:Int} {a4 b4:Bool} {a5 b5:Int} {a6 b6:Bool}:eqE Tryz.prog neg 80 xo yo (.agg [bo a0,i64 a1,bo a2,i64 a3,bo a4,i64 a5,bo a6]) (.agg [bo b0,i64 b1,bo b2,i64 b3,bo b4,i64 b5,bo b6]) = some ⟨[],.v (.bool (negV neg ((a0 == b0) && (((a1 == b1) && ((a2 == b2) && true)) && ((((a3 == b3) && ((a4 == b4) && true)) && (((a5 == b5) && ((a6 == b6) && true)) && true)) && true))))),.none⟩:=eqE_agg aEq80
attribute [go_sem] eq80
end Go.Ax
end
section
/-
  Shapes placed, the law's body.
-/
set_option maxHeartbeats 4000000
set_option maxRecDepth 100000
namespace Go.Ax
open Go.Proofs
theorem spV_inR {a:Nb}:inR (spV a):=by
 have:rg (whV (nMul a (nInt 256)).1):=whV_rg (rg_inR nMul_rg)
 unfold spV
 unfold rg at this
 unfold inR
 omega
theorem plN_le {k r w t:Int} {n:Nat} {X Y:Nat → Int} {at' rot:V2}:plN k r w t n X Y at' rot ≤ 8:=by
 unfold plN
 split
 ·split
  ·omega
  ·unfold corN
   split
   ·rename_i h
    have:=chk_cases h
    split <;> omega
   ·omega
 ·omega
end Go.Ax
end
section
/-
  What is met first.
-/
set_option maxHeartbeats 4000000
set_option maxRecDepth 100000
namespace Go.Ax
open Go.Proofs
def cn (cs:List AV) (k:Nat):Nat:=match cs[k]? with
 | some (.ro n _ _) => n
 | _ => 0
def cg (cs:List AV) (k:Nat):Nat → List AV:=match cs[k]? with
 | some (.ro _ _ g) => g
 | _ => fun _ => []
def formOK (cs:List AV):Prop:=cs = [i64 (gi cs 0),i64 (gi cs 1),i64 (gi cs 2),i64 (gi cs 3),.ro (cn cs 4) 2 (cg cs 4)] ∧ inR (gi cs 1) ∧ inR (gi cs 2) ∧ inR (gi cs 3) ∧ spots (cn cs 4) (cg cs 4) ∧ cn cs 4 ≤ 9223372036854775806
def forms (m:Nat) (G:Nat → List AV):Prop:=∀ i,i < m → formOK (G i)
def fiA (s:Int × HitT):AV:=.tup [i64 s.1,.agg (hitC s.2)]
theorem bnd_fi {s:Int × HitT}:bnd (fiA s) = .tup [i64 s.1,.agg [bo s.2.1,i64 s.2.2.1.1,bo s.2.2.1.2,i64 s.2.2.2.1.1,bo s.2.2.2.1.2,i64 s.2.2.2.2.1,bo s.2.2.2.2.2]]:=(rfl)
theorem plain_fi {s:Int × HitT}:plain 3 (fiA s) = true:=(rfl)
attribute [go_sem] bnd_fi plain_fi
end Go.Ax
end
section
/-
  Forms made of numbers.
-/
set_option maxHeartbeats 4000000
set_option maxRecDepth 100000
namespace Go.Ax
open Go.Proofs
theorem alk_shape {a b c d p q:AV} (h:alk p q):alk (.agg [a,b,c,d,p]) (.agg [a,b,c,d,q]):=fun w ρ v hR => by
 cases hR with
 | agg hl' hh' =>
  refine .agg hl' fun j x y h3 h4 => ?_
  match j with
  | 0 => exact hh' 0 x y h3 h4
  | 1 => exact hh' 1 x y h3 h4
  | 2 => exact hh' 2 x y h3 h4
  | 3 => exact hh' 3 x y h3 h4
  | 4 =>
   simp at h3; subst h3
   exact h _ _ _ (hh' 4 _ y rfl h4)
  | m + 5 => simp at h3
def mkW (a b:Int):Int:=if a.tmod 4 ≠ 0 then 16 + (16 + modS b 4081).tmod 600 else 16 + modS b 4081
def mkM (a b:Int):Int:=max 64 (mkW a b)
def mkK (a:Int):Int:=if modS a 5 = 0 then 1 else if modS a 5 = 1 then 2 else 3
def mkR (a b:Int):Int:=if modS a 5 = 0 then mkW b b else 0
def mkH (a b c:Int):Int:=if modS a 5 = 0 then 0 else if modS a 5 = 1 then mkW b c else 0
def mkN (a:Int):Nat:=if modS a 5 = 0 then 0 else if modS a 5 = 1 then 0 else if modS a 5 = 2 then 3 else if modS a 5 = 3 then 5 else 8
def mkP (a w t:Int):List AV:=
 if modS a 5 = 2 then [i64 (-w),i64 (-t),i64 w,i64 (-t),i64 0,i64 t]
 else if modS a 5 = 3 then [i64 ((-w).tdiv 2),i64 (-t),i64 (w.tdiv 2),i64 (-t),i64 w,i64 0,i64 0,i64 t,i64 (-w),i64 0]
 else [i64 w,i64 ((-w).tdiv 2),i64 w,i64 (w.tdiv 2),i64 (w.tdiv 2),i64 w,i64 ((-w).tdiv 2),i64 w,i64 (-w),i64 (w.tdiv 2),i64 (-w),i64 ((-w).tdiv 2),i64 ((-w).tdiv 2),i64 (-w),i64 (w.tdiv 2),i64 (-w)]
def mkX (a b c:Int) (i:Nat):Int:=gx (rowsOf 2 (mkP a (mkM b b) (mkM b c))) 0 i
def mkY (a b c:Int) (i:Nat):Int:=gx (rowsOf 2 (mkP a (mkM b b) (mkM b c))) 1 i
abbrev mkA (a b c:Int):AV:=.agg [i64 (mkK a),i64 (mkR a b),i64 (mkH a b b),i64 (mkH a b c),.ro (mkN a) 2 fun i => [i64 (mkX a b c i),i64 (mkY a b c i)]]
theorem modS_bd {n m:Int} (hm:0 < m):0 ≤ modS n m ∧ modS n m < m:=by
 have h1:n.tmod m < m:=Int.tmod_lt_of_pos n hm
 have h2:-m < n.tmod m:=Int.lt_tmod_of_pos n hm
 unfold modS
 split <;> omega
theorem mkW_bd {a b:Int}:16 ≤ mkW a b ∧ mkW a b ≤ 4096:=by
 have h:=modS_bd (n:=b) (m:=4081) (by omega)
 have h1:(16 + modS b 4081).tmod 600 < 600:=Int.tmod_lt_of_pos _ (by omega)
 have h2:0 ≤ (16 + modS b 4081).tmod 600:=Int.tmod_nonneg _ (by omega)
 unfold mkW
 split <;> omega
theorem mkM_bd {a b:Int}:64 ≤ mkM a b ∧ mkM a b ≤ 4096:=by
 have:=@mkW_bd a b
 unfold mkM
 omega
theorem wrW {b:Int}:IntKind.i64.wrap (16 + modS b 4081) = 16 + modS b 4081:=by
 have h:=modS_bd (n:=b) (m:=4081) (by omega)
 exact wrap_in (by unfold inR; omega)
theorem wrW2 {b:Int}:IntKind.i64.wrap (16 + (16 + modS b 4081).tmod 600) = 16 + (16 + modS b 4081).tmod 600:=by
 have h:=modS_bd (n:=b) (m:=4081) (by omega)
 have h1:(16 + modS b 4081).tmod 600 < 600:=Int.tmod_lt_of_pos _ (by omega)
 have h2:0 ≤ (16 + modS b 4081).tmod 600:=Int.tmod_nonneg _ (by omega)
 exact wrap_in (by unfold inR; omega)
theorem wrM {a b:Int}:IntKind.i64.wrap (0 - mkM a b) = -mkM a b:=by
 have:=@mkM_bd a b
 rw [wrap_in (by unfold inR; omega),Int.zero_sub]
theorem wrM2 {a b:Int}:IntKind.i64.wrap ((-mkM a b).tdiv 2) = (-mkM a b).tdiv 2:=by
 have:=@mkM_bd a b
 exact wrap_in (by rw [Int.neg_tdiv,Int.tdiv_eq_ediv_of_nonneg (by omega)]; unfold inR; omega)
theorem wrM3 {a b:Int}:IntKind.i64.wrap ((mkM a b).tdiv 2) = (mkM a b).tdiv 2:=by
 have:=@mkM_bd a b
 exact wrap_in (by rw [Int.tdiv_eq_ediv_of_nonneg (by omega)]; unfold inR; omega)
theorem mkM_eq {a b:Int}:max 64 (mkW a b) = mkM a b:=rfl
theorem vc7 (a b c d e f:Int) (ha:inR a) (hb:inR b) (hc:inR c):fnVC Tryz.prog [(40,c40)] [] Tryz.f7 [.agg [i64 a,i64 b,i64 c,i64 d,i64 e,i64 f]] (alk (mkA a b c)):=by
 refine fnVC_go (rs:=[.cell 2 26]) rfl rfl ?_
 simp only [go_sem,c40]
 simp only [forall_eq]
 simp only [wrW,wrW2]
 refine ⟨hb,by unfold inR; omega,hc,by unfold inR; omega,fun h => ?_,fun h => ?_⟩
 ·have e:∀ v,16 + (16 + modS v 4081).tmod 600 = mkW b v:=fun v => by unfold mkW; rw [if_pos (by simpa using h)]
  simp only [e]
  simp only [mkM_eq,wrM,wrM2,wrM3]
  refine ⟨ha,by unfold inR; omega,fun h0 => ?_,fun h0 => ⟨fun h1 => ?_,fun h1 => ⟨fun h2 => ?_,fun h2 => ⟨fun h3 => ?_,fun h3 => ?_⟩⟩⟩⟩
  ·have k0:modS a 5 = 0:=by simpa using h0
   unfold mkA
   rw [show mkK a = 1 by unfold mkK; rw [if_pos k0],show mkR a b = mkW b b by unfold mkR; rw [if_pos k0],show mkH a b b = 0 by unfold mkH; rw [if_pos k0],show mkH a b c = 0 by unfold mkH; rw [if_pos k0],show mkN a = 0 by unfold mkN; rw [if_pos k0]]
   exact alk_shape alk_nil
  ·have k0:¬ modS a 5 = 0:=by simpa using h0
   have k1:modS a 5 = 1:=by simpa using h1
   unfold mkA
   rw [show mkK a = 2 by unfold mkK; rw [if_neg k0,if_pos k1],show mkR a b = 0 by unfold mkR; rw [if_neg k0],show mkH a b b = mkW b b by unfold mkH; rw [if_neg k0,if_pos k1],show mkH a b c = mkW b c by unfold mkH; rw [if_neg k0,if_pos k1],show mkN a = 0 by unfold mkN; rw [if_neg k0,if_pos k1]]
   exact alk_shape alk_nil
  ·have k0:¬ modS a 5 = 0:=by simpa using h0
   have k1:¬ modS a 5 = 1:=by simpa using h1
   have k2:modS a 5 = 2:=by simpa using h2
   unfold mkA
   rw [show mkK a = 3 by unfold mkK; rw [if_neg k0,if_neg k1],show mkR a b = 0 by unfold mkR; rw [if_neg k0],show mkH a b b = 0 by unfold mkH; rw [if_neg k0,if_neg k1],show mkH a b c = 0 by unfold mkH; rw [if_neg k0,if_neg k1],show mkN a = 3 by unfold mkN; rw [if_neg k0,if_neg k1,if_pos k2]]
   refine alk_shape (alk_ro fun i hi => ?_)
   unfold mkX mkY mkP
   rw [if_pos k2]
   match i with
   | 0 => rfl
   | 1 => rfl
   | 2 => rfl
   | q + 3 => omega
  ·have k0:¬ modS a 5 = 0:=by simpa using h0
   have k1:¬ modS a 5 = 1:=by simpa using h1
   have k2:¬ modS a 5 = 2:=by simpa using h2
   have k3:modS a 5 = 3:=by simpa using h3
   unfold mkA
   rw [show mkK a = 3 by unfold mkK; rw [if_neg k0,if_neg k1],show mkR a b = 0 by unfold mkR; rw [if_neg k0],show mkH a b b = 0 by unfold mkH; rw [if_neg k0,if_neg k1],show mkH a b c = 0 by unfold mkH; rw [if_neg k0,if_neg k1],show mkN a = 5 by unfold mkN; rw [if_neg k0,if_neg k1,if_neg k2,if_pos k3]]
   refine alk_shape (alk_ro fun i hi => ?_)
   unfold mkX mkY mkP
   rw [if_neg k2,if_pos k3]
   match i with
   | 0 => rfl
   | 1 => rfl
   | 2 => rfl
   | 3 => rfl
   | 4 => rfl
   | q + 5 => omega
  ·have k0:¬ modS a 5 = 0:=by simpa using h0
   have k1:¬ modS a 5 = 1:=by simpa using h1
   have k2:¬ modS a 5 = 2:=by simpa using h2
   have k3:¬ modS a 5 = 3:=by simpa using h3
   unfold mkA
   rw [show mkK a = 3 by unfold mkK; rw [if_neg k0,if_neg k1],show mkR a b = 0 by unfold mkR; rw [if_neg k0],show mkH a b b = 0 by unfold mkH; rw [if_neg k0,if_neg k1],show mkH a b c = 0 by unfold mkH; rw [if_neg k0,if_neg k1],show mkN a = 8 by unfold mkN; rw [if_neg k0,if_neg k1,if_neg k2,if_neg k3]]
   refine alk_shape (alk_ro fun i hi => ?_)
   unfold mkX mkY mkP
   rw [if_neg k2,if_neg k3]
   match i with
   | 0 => rfl
   | 1 => rfl
   | 2 => rfl
   | 3 => rfl
   | 4 => rfl
   | 5 => rfl
   | 6 => rfl
   | 7 => rfl
   | q + 8 => omega
 ·have e:∀ v,16 + modS v 4081 = mkW b v:=fun v => by unfold mkW; rw [if_neg (by simpa using h)]
  simp only [e]
  simp only [mkM_eq,wrM,wrM2,wrM3]
  refine ⟨ha,by unfold inR; omega,fun h0 => ?_,fun h0 => ⟨fun h1 => ?_,fun h1 => ⟨fun h2 => ?_,fun h2 => ⟨fun h3 => ?_,fun h3 => ?_⟩⟩⟩⟩
  ·have k0:modS a 5 = 0:=by simpa using h0
   unfold mkA
   rw [show mkK a = 1 by unfold mkK; rw [if_pos k0],show mkR a b = mkW b b by unfold mkR; rw [if_pos k0],show mkH a b b = 0 by unfold mkH; rw [if_pos k0],show mkH a b c = 0 by unfold mkH; rw [if_pos k0],show mkN a = 0 by unfold mkN; rw [if_pos k0]]
   exact alk_shape alk_nil
  ·have k0:¬ modS a 5 = 0:=by simpa using h0
   have k1:modS a 5 = 1:=by simpa using h1
   unfold mkA
   rw [show mkK a = 2 by unfold mkK; rw [if_neg k0,if_pos k1],show mkR a b = 0 by unfold mkR; rw [if_neg k0],show mkH a b b = mkW b b by unfold mkH; rw [if_neg k0,if_pos k1],show mkH a b c = mkW b c by unfold mkH; rw [if_neg k0,if_pos k1],show mkN a = 0 by unfold mkN; rw [if_neg k0,if_pos k1]]
   exact alk_shape alk_nil
  ·have k0:¬ modS a 5 = 0:=by simpa using h0
   have k1:¬ modS a 5 = 1:=by simpa using h1
   have k2:modS a 5 = 2:=by simpa using h2
   unfold mkA
   rw [show mkK a = 3 by unfold mkK; rw [if_neg k0,if_neg k1],show mkR a b = 0 by unfold mkR; rw [if_neg k0],show mkH a b b = 0 by unfold mkH; rw [if_neg k0,if_neg k1],show mkH a b c = 0 by unfold mkH; rw [if_neg k0,if_neg k1],show mkN a = 3 by unfold mkN; rw [if_neg k0,if_neg k1,if_pos k2]]
   refine alk_shape (alk_ro fun i hi => ?_)
   unfold mkX mkY mkP
   rw [if_pos k2]
   match i with
   | 0 => rfl
   | 1 => rfl
   | 2 => rfl
   | q + 3 => omega
  ·have k0:¬ modS a 5 = 0:=by simpa using h0
   have k1:¬ modS a 5 = 1:=by simpa using h1
   have k2:¬ modS a 5 = 2:=by simpa using h2
   have k3:modS a 5 = 3:=by simpa using h3
   unfold mkA
   rw [show mkK a = 3 by unfold mkK; rw [if_neg k0,if_neg k1],show mkR a b = 0 by unfold mkR; rw [if_neg k0],show mkH a b b = 0 by unfold mkH; rw [if_neg k0,if_neg k1],show mkH a b c = 0 by unfold mkH; rw [if_neg k0,if_neg k1],show mkN a = 5 by unfold mkN; rw [if_neg k0,if_neg k1,if_neg k2,if_pos k3]]
   refine alk_shape (alk_ro fun i hi => ?_)
   unfold mkX mkY mkP
   rw [if_neg k2,if_pos k3]
   match i with
   | 0 => rfl
   | 1 => rfl
   | 2 => rfl
   | 3 => rfl
   | 4 => rfl
   | q + 5 => omega
  ·have k0:¬ modS a 5 = 0:=by simpa using h0
   have k1:¬ modS a 5 = 1:=by simpa using h1
   have k2:¬ modS a 5 = 2:=by simpa using h2
   have k3:¬ modS a 5 = 3:=by simpa using h3
   unfold mkA
   rw [show mkK a = 3 by unfold mkK; rw [if_neg k0,if_neg k1],show mkR a b = 0 by unfold mkR; rw [if_neg k0],show mkH a b b = 0 by unfold mkH; rw [if_neg k0,if_neg k1],show mkH a b c = 0 by unfold mkH; rw [if_neg k0,if_neg k1],show mkN a = 8 by unfold mkN; rw [if_neg k0,if_neg k1,if_neg k2,if_neg k3]]
   refine alk_shape (alk_ro fun i hi => ?_)
   unfold mkX mkY mkP
   rw [if_neg k2,if_neg k3]
   match i with
   | 0 => rfl
   | 1 => rfl
   | 2 => rfl
   | 3 => rfl
   | 4 => rfl
   | 5 => rfl
   | 6 => rfl
   | 7 => rfl
   | q + 8 => omega
def c7:Con
 | [.agg [.v (.int .i64 a),.v (.int .i64 b),.v (.int .i64 c),.v (.int .i64 d),.v (.int .i64 e),.v (.int .i64 f)]] => some ([inR a,inR b,inR c],mkA a b c)
 | _ => none
theorem con7:ConOK Tryz.prog 7 c7:=ConOK.goR (G:=[(40,c40)]) (H:=[]) (.cons con40 .nil) Tryz.func7 fun l ob rr hc hob => by
 unfold c7 at hc
 split at hc
 ·rename_i a b c d e f
  cases hc
  exact ⟨_,fun w I vs h => h,by kernel_rfl,vc7 a b c d e f (hob _ (by simp)) (hob _ (by simp)) (hob _ (by simp))⟩
 ·cases hc
def foAt (x y s:Int):V2:=((x.tmod (s * 4294967296),false),(y.tmod (s * 4294967296),false))
def foRot (u:Int):V2:=((csV (u.tmod (8 * 4294967296)) false,csF (u.tmod (8 * 4294967296)) false),(snV (u.tmod (8 * 4294967296)) false,snF (u.tmod (8 * 4294967296)) false))
theorem tmod_inR {x s:Int} (h:1 ≤ s ∧ s ≤ 1000000):inR (x.tmod (s * 4294967296)):=by
 have h1:x.tmod (s * 4294967296) < s * 4294967296:=Int.tmod_lt_of_pos x (by omega)
 have h2:-(s * 4294967296) < x.tmod (s * 4294967296):=Int.lt_tmod_of_pos x (by omega)
 unfold inR
 omega
def c9:Con
 | [.agg [.v (.int .i64 a),.v (.int .i64 b),.v (.int .i64 c),.v (.int .i64 x),.v (.int .i64 y),.v (.int .i64 u)],.v (.int .i64 s)] => some ([inR x,inR y,inR u,1 ≤ s ∧ s ≤ 1000000],poseA (foAt x y s) (foRot u))
 | _ => none
theorem con9:ConOK Tryz.prog 9 c9:=ConOK.of (G:=[(48,c48),(49,c49)]) (H:=[(1,⟨[(14,.slot 4)],[]⟩)]) (.cons con48 (.cons con49 .nil)) Tryz.func9 fun l ob r hc hob => by
 unfold c9 at hc
 split at hc
 ·rename_i a b c x y u s
  cases hc
  have h_0:inR x:=hob _ (by simp)
  have h_1:inR y:=hob _ (by simp)
  have h_2:inR u:=hob _ (by simp)
  have h_3:1 ≤ s ∧ s ≤ 1000000:=hob _ (by simp)
  refine ⟨by kernel_rfl,fnVC_go (rs:=[.cell 4 42]) rfl rfl ?_⟩
  simp only [go_sem,c48,c49]
  simp only [forall_eq]
  exact ⟨h_0,h_3,h_1,h_3,h_2,tmod_inR (by omega),rfl⟩
 ·cases hc
theorem mk_inR {a b c:Int} (i:Nat) (hi:i < mkN a):inR (mkX a b c i) ∧ inR (mkY a b c i):=by
 have b1:=@mkM_bd b b
 have b2:=@mkM_bd b c
 have t1:(mkM b b).tdiv 2 = mkM b b / 2:=Int.tdiv_eq_ediv_of_nonneg (by omega)
 have t2:(-mkM b b).tdiv 2 = -(mkM b b / 2):=by rw [Int.neg_tdiv,t1]
 unfold mkX mkY mkP
 unfold mkN at hi
 by_cases k0:modS a 5 = 0
 ·rw [if_pos k0] at hi; omega
 rw [if_neg k0] at hi
 by_cases k1:modS a 5 = 1
 ·rw [if_pos k1] at hi; omega
 rw [if_neg k1] at hi
 rw [t1,t2]
 generalize mkM b b = M at *
 generalize mkM b c = T at *
 by_cases k2:modS a 5 = 2
 ·rw [if_pos k2] at hi
  rw [if_pos k2]
  match i with
  | 0 => show inR (-M) ∧ inR (-T); unfold inR; omega
  | 1 => show inR M ∧ inR (-T); unfold inR; omega
  | 2 => show inR 0 ∧ inR T; unfold inR; omega
  | q + 3 => omega
 rw [if_neg k2] at hi
 rw [if_neg k2]
 by_cases k3:modS a 5 = 3
 ·rw [if_pos k3] at hi
  rw [if_pos k3]
  match i with
  | 0 => show inR (-(M / 2)) ∧ inR (-T); unfold inR; omega
  | 1 => show inR (M / 2) ∧ inR (-T); unfold inR; omega
  | 2 => show inR M ∧ inR 0; unfold inR; omega
  | 3 => show inR 0 ∧ inR T; unfold inR; omega
  | 4 => show inR (-M) ∧ inR 0; unfold inR; omega
  | q + 5 => omega
 rw [if_neg k3] at hi
 rw [if_neg k3]
 match i with
 | 0 => show inR M ∧ inR (-(M / 2)); unfold inR; omega
 | 1 => show inR M ∧ inR (M / 2); unfold inR; omega
 | 2 => show inR (M / 2) ∧ inR M; unfold inR; omega
 | 3 => show inR (-(M / 2)) ∧ inR M; unfold inR; omega
 | 4 => show inR (-M) ∧ inR (M / 2); unfold inR; omega
 | 5 => show inR (-M) ∧ inR (-(M / 2)); unfold inR; omega
 | 6 => show inR (-(M / 2)) ∧ inR (-M); unfold inR; omega
 | 7 => show inR (M / 2) ∧ inR (-M); unfold inR; omega
 | q + 8 => omega
theorem mkN_le {a:Int}:mkN a ≤ 9223372036854775806:=by
 unfold mkN
 (repeat' split) <;> omega
def foK (a b c x y u s:Int):Int:=plK (mkK a) (mkR a b) (mkH a b b) (mkH a b c) (mkN a) (mkX a b c) (mkY a b c) (foAt x y s) (foRot u)
def foX (a b c x y u s:Int):Int:=plC (mkK a) (mkR a b) (mkH a b b) (mkH a b c) (mkN a) (mkX a b c) (mkY a b c) (foAt x y s) (foRot u) (foAt x y s).1
def foY (a b c x y u s:Int):Int:=plC (mkK a) (mkR a b) (mkH a b b) (mkH a b c) (mkN a) (mkX a b c) (mkY a b c) (foAt x y s) (foRot u) (foAt x y s).2
def foR (a b c x y u s:Int):Int:=plR (mkK a) (mkR a b) (mkH a b b) (mkH a b c) (mkN a) (mkX a b c) (mkY a b c) (foAt x y s) (foRot u)
def foN (a b c x y u s:Int):Nat:=plN (mkK a) (mkR a b) (mkH a b b) (mkH a b c) (mkN a) (mkX a b c) (mkY a b c) (foAt x y s) (foRot u)
def foP (a b c x y u s:Int) (i:Nat):Int:=plX (mkK a) (mkH a b b) (mkH a b c) (mkX a b c) (mkY a b c) (foAt x y s) (foRot u) i
def foQ (a b c x y u s:Int) (i:Nat):Int:=plY (mkK a) (mkH a b b) (mkH a b c) (mkX a b c) (mkY a b c) (foAt x y s) (foRot u) i
end Go.Ax
end
section
/-
  What is met first, the law's body.
-/
set_option maxHeartbeats 4000000
set_option maxRecDepth 100000
namespace Go.Ax
open Go.Proofs
theorem foX_inR {a b c x y u s:Int}:inR (foX a b c x y u s):=by
 unfold foX plC
 split
 ·exact spV_inR
 ·unfold inR; omega
theorem foY_inR {a b c x y u s:Int}:inR (foY a b c x y u s):=by
 unfold foY plC
 split
 ·exact spV_inR
 ·unfold inR; omega
theorem foR_inR {a b c x y u s:Int}:inR (foR a b c x y u s):=by
 have:=@mkW_bd b b
 unfold foR plR mkR
 split
 ·split <;> (unfold inR; omega)
 ·unfold inR; omega
end Go.Ax
end
section
/-
  How far forms are from each other: the small parts.
-/
set_option maxHeartbeats 4000000
set_option maxRecDepth 100000
namespace Go.Ax
open Go.Proofs
def dtW (a b c d:Int):Int:=IntKind.i64.wrap (IntKind.i64.wrap (a * c) + IntKind.i64.wrap (b * d))
def crW (a b c d:Int):Int:=IntKind.i64.wrap (IntKind.i64.wrap (a * d) - IntKind.i64.wrap (b * c))
def mnW (a b:Int):Int:=IntKind.i64.wrap (b - a)
def farS (ax ay bx byy cx cy r:Int):Bool:=
 if dtW (mnW ax cx) (mnW ay cy) (mnW ax bx) (mnW ay byy) ≤ 0 then decide (IntKind.i64.wrap (r * r) < dtW (mnW ax cx) (mnW ay cy) (mnW ax cx) (mnW ay cy))
 else if dtW (mnW ax bx) (mnW ay byy) (mnW ax bx) (mnW ay byy) ≤ dtW (mnW ax cx) (mnW ay cy) (mnW ax bx) (mnW ay byy) then decide (IntKind.i64.wrap (r * r) < dtW (mnW bx cx) (mnW byy cy) (mnW bx cx) (mnW byy cy))
 else decide (0 < cmpS (crW (mnW ax bx) (mnW ay byy) (mnW ax cx) (mnW ay cy) * crW (mnW ax bx) (mnW ay byy) (mnW ax cx) (mnW ay cy)) (IntKind.i64.wrap (r * r) * dtW (mnW ax bx) (mnW ay byy) (mnW ax bx) (mnW ay byy)))
def clrS (n:Nat) (X Y:Nat → Int) (m:Nat) (Z T:Nat → Int):Bool:=decide (∃ i,i < n ∧ ∀ j,j < m → turnS (X i) (Y i) (X (nxt n i)) (Y (nxt n i)) (Z j) (T j) < 0)
def outS (n:Nat) (X Y:Nat → Int) (cx cy r:Int):Bool:=decide (inS n X Y cx cy = false ∧ ∀ i,i < n → farS (X i) (Y i) (X (nxt n i)) (Y (nxt n i)) cx cy r = true)
end Go.Ax
end
section
/-
  Whether forms are apart.
-/
set_option maxHeartbeats 4000000
set_option maxRecDepth 100000
namespace Go.Ax
open Go.Proofs
def ddS (x y r a b s:Int):Bool:=decide (IntKind.i64.wrap (IntKind.i64.wrap (r + s) * IntKind.i64.wrap (r + s)) < dtW (mnW x a) (mnW y b) (mnW x a) (mnW y b))
end Go.Ax
end
section
/-
  Whether forms are apart: the two.
-/
set_option maxHeartbeats 4000000
set_option maxRecDepth 100000
namespace Go.Ax
open Go.Proofs
def apS (k x y r:Int) (n:Nat) (X Y:Nat → Int) (k' x' y' r':Int) (m:Nat) (Z T:Nat → Int):Bool:=
 if checkS k x y r n X Y = 0 ∧ checkS k' x' y' r' m Z T = 0 then
  (if k = 1 then (if k' = 1 then ddS x y r x' y' r' else outS m Z T x y r) else if k' = 1 then outS n X Y x' y' r' else (clrS n X Y m Z T || clrS m Z T n X Y))
 else false
end Go.Ax
end
section
/-
  The gap between an edge and a form.
-/
set_option maxHeartbeats 4000000
set_option maxRecDepth 100000
namespace Go.Ax
open Go.Proofs
def hgt (a b c d x y:Int):Nb:=vDot (vNorm a b c d) (vLoc (mnW a x) (mnW b y))
def mnN (h:Nat → Nb):Nat → Nb
 | 0 => h 0
 | n + 1 => nMn (mnN h n) (h (n + 1))
end Go.Ax
end
section
/-
  The axis between forms.
-/
set_option maxHeartbeats 4000000
set_option maxRecDepth 100000
namespace Go.Ax
open Go.Proofs
theorem aEq76 {a0 b0:Bool} {a1 b1:Int} {a2 b2:Int} {a3 b3:Int} {a4 b4:Bool}:aEq Tryz.prog 76 (.agg [bo a0,i64 a1,i64 a2,i64 a3,bo a4]) (.agg [bo b0,i64 b1,i64 b2,i64 b3,bo b4]) = some ((a0 == b0) && ((a1 == b1) && ((a2 == b2) && (((a3 == b3) && ((a4 == b4) && true)) && true)))):=by kernel_rfl
theorem eq76 {xo yo:Operand} {neg:Bool} {a0 b0:Bool} {a1 b1:Int} {a2 b2:Int} {a3 b3:Int} {a4 b4:Bool}:eqE Tryz.prog neg 76 xo yo (.agg [bo a0,i64 a1,i64 a2,i64 a3,bo a4]) (.agg [bo b0,i64 b1,i64 b2,i64 b3,bo b4]) = some ⟨[],.v (.bool (negV neg ((a0 == b0) && ((a1 == b1) && ((a2 == b2) && (((a3 == b3) && ((a4 == b4) && true)) && true)))))),.none⟩:=eqE_agg aEq76
attribute [go_sem] eq76
abbrev AxT:=Int × Int × Nb
def axF (o:Int) (G:Nat → Nb) (s:AxT):Nat → AxT
 | 0 => s
 | i + 1 => if (axF o G s i).2.1 < 0 ∨ 0 < cmpS (whV (G i).1) (whV (axF o G s i).2.2.1) then (o,(i:Int),G i) else axF o G s i
def ax0:AxT:=(0,-1,(0,false))
def axC (q:Bool) (s:AxT):List AV:=[bo q,i64 s.1,i64 s.2.1,i64 s.2.2.1,bo s.2.2.2]
def axSt (n:Nat) (G:Nat → Nb) (m:Nat) (G':Nat → Nb):Nat → AxT
 | 0 => ax0
 | 1 => axF 0 G ax0 n
 | _ => axF 1 G' (axF 0 G ax0 n) m
def gP (n:Nat) (X Y:Nat → Int) (m:Nat) (Z T:Nat → Int) (j:Nat):Nb:=mnN (fun l => hgt (X j) (Y j) (X (nxt n j)) (Y (nxt n j)) (Z l) (T l)) (m - 1)
def gD (n:Nat) (X Y:Nat → Int) (x y r:Int) (j:Nat):Nb:=nSub (hgt (X j) (Y j) (X (nxt n j)) (Y (nxt n j)) x y) (nRat r 256)
end Go.Ax
end
section
/-
  The axis between forms: the contracts.
-/
set_option maxHeartbeats 4000000
set_option maxRecDepth 100000
namespace Go.Ax
open Go.Proofs
def axA (q:Bool) (s:AxT):AV:=.agg (axC q s)
theorem bnd_ax {q:Bool} {s:AxT}:bnd (axA q s) = .agg [bo q,i64 s.1,i64 s.2.1,i64 s.2.2.1,bo s.2.2.2]:=(rfl)
theorem plain_ax {q:Bool} {s:AxT}:plain 3 (axA q s) = true:=(rfl)
attribute [go_sem] bnd_ax plain_ax
def axS (k x y r:Int) (n:Nat) (X Y:Nat → Int) (k' x' y' r':Int) (m:Nat) (Z T:Nat → Int):AxT:=
 if checkS k x y r n X Y = 0 ∧ checkS k' x' y' r' m Z T = 0 then
  (if k = 1 then (if k' = 1 then (0,-1,nSub (vLen (vLoc (mnW x x') (mnW y y'))) (nRat (IntKind.i64.wrap (r + r')) 256)) else axSt 0 (gD m Z T x y r) m (gD m Z T x y r) 2)
   else if k' = 1 then axSt n (gD n X Y x' y' r') 0 (gD n X Y x' y' r') 2 else axSt n (gP n X Y m Z T) m (gP m Z T n X Y) 2)
 else (0,0,(0,false))
end Go.Ax
end
section
/-
  The axis between forms: the reference's.
-/
set_option maxHeartbeats 4000000
set_option maxRecDepth 100000
namespace Go.Ax
open Go.Proofs
end Go.Ax
end
section
/-
  Contracts of functions that write rows, made to measure: one element that is pointed at; two of them; a table; a table and an element; new rows.
-/
namespace Go.Ax
def cleanC:AV → Bool
 | .v _ => true
 | .any => true
 | .ro _ _ _ => true
 | .rop _ => true
 | _ => false
theorem cleanC_ren {θ:Nat → Nat → Nat × Nat} {g:Nat → Nat → Prop} {B:Nat → Prop} {a:AV} (h:cleanC a = true) (d:Nat):renA θ d a = a ∧ kg g B d a:=by
 cases a <;> simp [cleanC] at h <;> (cases d <;> exact ⟨rfl,trivial⟩)
theorem cleanL_ren {θ:Nat → Nat → Nat × Nat} {g:Nat → Nat → Prop} {B:Nat → Prop}:∀ {l:List AV},(∀ c ∈ l,cleanC c = true) → l.map (renA θ 3) = l ∧ ∀ c ∈ l,kg g B 3 c
 | [],_ => ⟨rfl,by simp⟩
 | a :: l,h => by
  obtain ⟨h1,h2⟩:=cleanC_ren (θ:=θ) (g:=g) (B:=B) (h a (by simp)) 3
  obtain ⟨h3,h4⟩:=cleanL_ren (θ:=θ) (g:=g) (B:=B) (l:=l) (fun c hc => h c (by simp [hc]))
  refine ⟨by rw [List.map_cons,h1,h3],fun c hc => ?_⟩
  rcases List.mem_cons.1 hc with e | hc
  ·rw [e]; exact h2
  ·exact h4 c hc
theorem map_id_of {f:AV → AV}:∀ {l:List AV},(∀ a ∈ l,f a = a) → l.map f = l
 | [],_ => rfl
 | a :: l,h => by rw [List.map_cons,h a (by simp),map_id_of fun b hb => h b (by simp [hb])]
theorem clean_ren {θ:Nat → Nat → Nat × Nat} {g:Nat → Nat → Prop} {B:Nat → Prop}:∀ (d:Nat) (a:AV),clean d a = true → renA θ d a = a ∧ kg g B d a
 | d,.v _,_ => by cases d <;> exact ⟨rfl,trivial⟩
 | d,.any,_ => by cases d <;> exact ⟨rfl,trivial⟩
 | d,.ro _ _ _,_ => by cases d <;> exact ⟨rfl,trivial⟩
 | d,.rop _,_ => by cases d <;> exact ⟨rfl,trivial⟩
 | d + 1,.agg cs,h => by
  simp only [clean,List.all_eq_true] at h
  refine ⟨?_,fun c hc => (clean_ren (θ:=θ) d c (h c hc)).2⟩
  simp only [renA]
  rw [map_id_of fun a ha => (clean_ren (g:=g) (B:=B) d a (h a ha)).1]
 | d + 1,.tup cs,h => by
  simp only [clean,List.all_eq_true] at h
  refine ⟨?_,fun c hc => (clean_ren (θ:=θ) d c (h c hc)).2⟩
  simp only [renA]
  rw [map_id_of fun a ha => (clean_ren (g:=g) (B:=B) d a (h a ha)).1]
 | d + 1,.fn f cs,h => by
  simp only [clean,List.all_eq_true] at h
  refine ⟨?_,fun c hc => (clean_ren (θ:=θ) d c (h c hc)).2⟩
  simp only [renA]
  rw [map_id_of fun a ha => (clean_ren (g:=g) (B:=B) d a (h a ha)).1]
 | d + 1,.iface t x,h => by
  simp only [clean] at h
  obtain ⟨h1,h2⟩:=clean_ren (θ:=θ) (g:=g) (B:=B) d x h
  exact ⟨by simp only [renA]; rw [h1],h2⟩
 | d + 1,.cond b x,h => by
  simp only [clean] at h
  obtain ⟨h1,h2⟩:=clean_ren (θ:=θ) (g:=g) (B:=B) d x h
  exact ⟨by simp only [renA]; rw [h1],h2⟩
 | 0,.agg _,h => by simp [clean] at h
 | 0,.tup _,h => by simp [clean] at h
 | 0,.fn _ _,h => by simp [clean] at h
 | 0,.iface _ _,h => by simp [clean] at h
 | 0,.cond _ _,h => by simp [clean] at h
 | 0,.bx _ _,h => by simp [clean] at h
 | 0,.ptr _ _ _ _ _,h => by simp [clean] at h
 | 0,.own _ _ _ _,h => by simp [clean] at h
 | 0,.vw _ _ _ _ _,h => by simp [clean] at h
 | d + 1,.bx _ _,h => by simp [clean] at h
 | d + 1,.ptr _ _ _ _ _,h => by simp [clean] at h
 | d + 1,.own _ _ _ _,h => by simp [clean] at h
 | d + 1,.vw _ _ _ _ _,h => by simp [clean] at h
theorem cleans_ren {θ:Nat → Nat → Nat × Nat} {g:Nat → Nat → Prop} {B:Nat → Prop} {l:List AV} (h:∀ a ∈ l,clean 3 a = true):l.map (renA θ 3) = l ∧ ∀ a ∈ l,kg g B 3 a:=
 ⟨map_id_of fun a ha => (clean_ren (g:=g) (B:=B) 3 a (h a ha)).1,fun a ha => (clean_ren (θ:=θ) 3 a (h a ha)).2⟩
section
variable {P:Program} {G:Ctx} {H:Hots} {t:Slots} {m:Mem} {nx:Nat} {Q:AV → Mem → Prop} {rs:List ResultVar} {l:List AV} {a:AV}
def tupOf:List AV → AV
 | [a] => a
 | l => .tup l
theorem tupOf_nil:tupOf [] = .tup []:=(rfl)
theorem tupOf_one:tupOf [a] = a:=(rfl)
theorem tupOf_two {b:AV}:tupOf (a :: b :: l) = .tup (a :: b :: l):=(rfl)
def retML (P:Program) (t:Slots) (m:Mem) (Q:AV → Mem → Prop):List ResultVar → List AV → Prop
 | [],l => Q (tupOf l) m
 | r :: rs,l => match resE P t m r with
  | some e => conj e.ob (retML P t m Q rs (l ++ [e.val]))
  | none => False
def retMS (P:Program) (t:Slots) (m:Mem) (Q:AV → Mem → Prop) (rs:List ResultVar) (l:List AV) (x:Option Eff):Prop:=match x with
 | some e => conj e.ob (retML P t m Q rs (l ++ [e.val]))
 | none => False
theorem retML_nil:retML P t m Q [] l = Q (tupOf l) m:=(rfl)
theorem retML_cons {r:ResultVar}:retML P t m Q (r :: rs) l = retMS P t m Q rs l (resE P t m r):=(rfl)
theorem retMS_some {ob:List Prop} {u:Upd}:retMS P t m Q rs l (some ⟨ob,a,u⟩) = conj ob (retML P t m Q rs (l ++ [a])):=(rfl)
def endMR (P:Program) (rs:List ResultVar) (Q:AV → Mem → Prop) (e:AEx) (s:St):Prop:=match e with
 | .exit _ => False
 | _ => retML P s.t s.m Q rs []
theorem endMR_ret:endMR P rs Q .ret ⟨t,m,nx⟩ = retML P t m Q rs []:=(rfl)
theorem endMR_normal:endMR P rs Q .normal ⟨t,m,nx⟩ = retML P t m Q rs []:=(rfl)
def bodyM (P:Program) (G:Ctx) (H:Hots) (fn:Func) (es:List AV) (m:Mem) (nx:Nat) (Q:AV → Mem → Prop):Prop:=∃ cd,fn.body = some cd ∧ awp P G H cd ⟨argSlots 0 es,m,nx⟩ (endM P fn Q)
theorem bodyM.mono {fn:Func} {es:List AV} {Q':AV → Mem → Prop} (h:bodyM P G H fn es m nx Q) (hq:∀ a m,Q a m → Q' a m):bodyM P G H fn es m nx Q':=by
 obtain ⟨cd,h1,h2⟩:=h
 refine ⟨cd,h1,awp_mono (fun e s h => ?_) h2⟩
 cases e with
 | exit j => exact h
 | normal =>
  simp only [endM] at h ⊢
  split at h
  ·rename_i ob x hx; exact conj_mono (hq _ _) h
  ·exact h
 | ret =>
  simp only [endM] at h ⊢
  split at h
  ·rename_i ob x hx; exact conj_mono (hq _ _) h
  ·exact h
end
def alike (x y:Row):Prop:=y.n = x.n ∧ y.sz = x.sz ∧ y.ty = x.ty ∧ y.g = x.g ∧ ∀ i,i < x.n → y.get i = x.get i
theorem alike.refl (x:Row):alike x x:=⟨rfl,rfl,rfl,rfl,fun _ _ => rfl⟩
def cleanCs:List AV → Bool
 | [] => true
 | a :: l => cleanC a && cleanCs l
theorem cleanCs_mem:∀ {l:List AV},cleanCs l = true → ∀ c ∈ l,cleanC c = true
 | [],_,c,h => by cases h
 | a :: l,h,c,hc => by
  simp only [cleanCs,Bool.and_eq_true] at h
  rcases List.mem_cons.1 hc with e | hc
  ·rw [e]; exact h.1
  ·exact cleanCs_mem h.2 c hc
def selfC (r:Nat):AV → Bool
 | .ptr q _ _ _ _ => decide (q = r)
 | a => cleanC a
def bk:AV → AV
 | .ptr _ f i sz k => .ptr 0 f i sz k
 | a => a
def famBk (fam:Fam):Fam:=fun f => { fam f with get:=fun j => ((fam f).get j).map bk }
def famOK (r:Nat) (fam:Fam):Prop:=∀ f,(fam f).g = none ∧ ∀ j,j < (fam f).n → ∀ c ∈ (fam f).get j,selfC r c = true
theorem bk_clean {c:AV} (h:cleanC c = true):bk c = c:=by cases c <;> first | rfl | simp [cleanC] at h
theorem bks_clean:∀ {l:List AV},(∀ c ∈ l,cleanC c = true) → l.map bk = l
 | [],_ => rfl
 | a :: l,h => by rw [List.map_cons,bk_clean (h a (by simp)),bks_clean fun c hc => h c (by simp [hc])]
theorem selfC_ren {r:Nat} {θ:Nat → Nat → Nat × Nat} {g:Nat → Nat → Prop} {B:Nat → Prop} (hθ:∀ f,θ 0 f = (r,f)) (hg:∀ f,g 0 f) {c:AV} (h:selfC r c = true):renA θ 3 (bk c) = c ∧ kg g B 3 (bk c):=by
 cases c with
 | ptr q f i sz k =>
  simp only [selfC,decide_eq_true_eq] at h
  subst h
  refine ⟨?_,hg f⟩
  show AV.ptr (θ 0 f).1 (θ 0 f).2 i sz k = _
  rw [hθ]
 | v x => exact ⟨rfl,trivial⟩
 | any => exact ⟨rfl,trivial⟩
 | ro n sz get => exact ⟨rfl,trivial⟩
 | rop cs => exact ⟨rfl,trivial⟩
 | _ => simp [selfC,cleanC] at h
theorem rowRen_self {r:Nat} {θ:Nat → Nat → Nat × Nat} {g:Nat → Nat → Prop} {B:Nat → Prop} (hθ:∀ f,θ 0 f = (r,f)) (hg:∀ f,g 0 f) {x:Row} (h:∀ j,j < x.n → ∀ c ∈ x.get j,selfC r c = true):rowRen θ g B { x with get:=fun j => (x.get j).map bk } x:=by
 refine ⟨rfl,rfl,rfl,rfl,fun j hj => ?_⟩
 have h1:=h j hj
 refine ⟨?_,fun c hc => ?_⟩
 ·dsimp only
  rw [List.map_map]
  exact (map_id_of fun a ha => (selfC_ren (g:=g) (B:=B) hθ hg (h1 a ha)).1).symm
 ·dsimp only at hc
  obtain ⟨c0,hc0,rfl⟩:=List.mem_map.1 hc
  exact (selfC_ren (θ:=θ) hθ hg (h1 c0 hc0)).2
theorem famBk_E {fam:Fam} {f i:Nat} {cs:List AV} (h:∀ c ∈ cs,cleanC c = true):famBk (famE fam f i cs) = famE (famBk fam) f i cs:=by
 funext f'
 unfold famBk famE
 by_cases e:f' = f
 ·subst e
  simp only [if_true]
  congr 1
  funext j
  by_cases e:j = i
  ·simp only [e,if_true]; exact bks_clean h
  ·simp [e]
 ·simp [e]
theorem famOK_E {r:Nat} {fam:Fam} {f i:Nat} {cs:List AV} (h:famOK r fam) (hc:∀ c ∈ cs,cleanC c = true):famOK r (famE fam f i cs):=fun f' => by
 refine ⟨by rw [famE_g]; exact (h f').1,fun j hj c hcm => ?_⟩
 rw [famE_n] at hj
 by_cases e:f' = f
 ·subst e
  simp only [famE,if_true] at hcm
  split at hcm
  ·have:=hc c hcm
   cases c <;> first | exact this | simp [cleanC] at this
  ·exact (h f').2 j hj c hcm
 ·rw [famE_off e] at hcm
  exact (h f').2 j hj c hcm
theorem famOK_bk {r:Nat} {fam:Fam} (h:famOK r fam):famOK 0 (famBk fam):=fun f => by
 refine ⟨(h f).1,fun j hj c hc => ?_⟩
 obtain ⟨c0,h0,rfl⟩:=List.mem_map.1 hc
 have:=(h f).2 j hj c0 h0
 cases c0 <;> first | rfl | exact this | simp [selfC,cleanC] at this
theorem rowRen_clean' {θ:Nat → Nat → Nat × Nat} {g:Nat → Nat → Prop} {B:Nat → Prop} {x0 x:Row} (h:alike x0 x) (hc:∀ j,j < x0.n → ∀ c ∈ x0.get j,cleanC c = true):rowRen θ g B x0 x:=by
 obtain ⟨h1,h2,h3,h4,h5⟩:=h
 refine ⟨h1,h2,h3,h4,fun j hj => ?_⟩
 obtain ⟨k1,k2⟩:=cleanL_ren (θ:=θ) (g:=g) (B:=B) (hc j hj)
 exact ⟨by rw [k1]; exact h5 j hj,k2⟩
theorem look_one {k:Nat} {x:Fam}:look [(k,x)] k = some x:=by simp [look]
theorem thE_0 {r:Nat}:∀ f,thE [r] 0 f = (r,f):=fun f => rfl
theorem thL_0 {r key:Nat} {l:List Nat} {th:Nat → Nat → Nat}:∀ f,thL (r :: l) key th 0 f = (r,f):=fun f => by simp [thL]
theorem lowG_0:∀ f,lowG 1 0 f:=fun _ => Nat.zero_lt_one
theorem newG_0 {N:Nat} {σ:Nat → Option (Nat × Nat)} {th:Nat → Nat → Nat} (h:0 < N):∀ f,newG N σ th 0 f:=fun _ => .inl h
section
variable {P:Program} {G:Ctx} {H:Hots} {f:FuncId} {fn:Func}
theorem one_okG {r key:Nat} {fam fam' x0 y0:Fam} {m:Mem} {es es0:List AV} {val val0:AV} {ob:List Prop} (hl:look m r = some fam) (h1:∀ f,(fam f).g = none ∧ rowRen (thE [r]) (lowG 1) (lowB 1) (x0 f) (fam f))
  (h2:∀ th σ f,rowRen (thL [r] key th) (newG 1 σ th) (newB 1 σ) (y0 f) (fam' f) ∧ (y0 f).g ≠ some false) (ha:es = es0.map (renA (thE [r]) 3)) (hak:∀ a ∈ es0,kg (lowG 1) (lowB 1) 3 a)
  (hfn:funcOK P H fn es0.length = true) (hv:∀ th:Nat → Nat → Nat,∀ σ:Nat → Option (Nat × Nat),val = renA (thL [r] key th) 3 val0 ∧ kg (newG 1 σ th) (newB 1 σ) 3 val0)
  (hb:bodyM P G H fn es0 [(0,x0)] 1 fun a m1 => a = val0 ∧ look m1 0 = some y0) :
  ∃ ks m0 as0,Entry ks m m0 es as0 ∧ funcOK P H fn as0.length = true ∧ bodyM P G H fn as0 m0 ks.length fun a m1 => ∃ σ th ys nw,(⟨ob,val,.many [(r,fam')] none⟩:Eff).u = .many (ks.zip ys) nw ∧ Leave key ks σ th m1 a ys nw val:=by
 refine ⟨[r],[(0,x0)],es0,⟨by simp,ha,hak,fun j hj => ?_,fun q x hq => ?_⟩,hfn,hb.mono fun a m1 ⟨q1,q2⟩ => ?_⟩
 ·have:j = 0:=by simp at hj; omega
  subst this
  exact ⟨_,fam,look_one,hl,h1⟩
 ·by_cases e:q = 0
  ·subst e; simp
  ·simp [look,Ne.symm e] at hq
 ·obtain ⟨v1,v2⟩:=hv (fun _ _ => 0) (fun _ => none)
  refine ⟨fun _ => none,fun _ _ => 0,[fam'],none,rfl,⟨fun f r g h => by simp at h,by rw [q1]; exact v1,by rw [q1]; exact v2,rfl,fun j hj => ?_,fun _ => rfl⟩⟩
  have:j = 0:=by simp at hj; omega
  subst this
  exact ⟨_,_,q2,rfl,h2 _ _⟩
theorem one_ok {r key:Nat} {fam fam':Fam} {m:Mem} {es es0:List AV} {val val0:AV} {ob:List Prop} (hl:look m r = some fam) (h1:famOK r fam) (h2:famOK r fam') (ha:es = es0.map (renA (thE [r]) 3)) (hak:∀ a ∈ es0,kg (lowG 1) (lowB 1) 3 a)
  (hfn:funcOK P H fn es0.length = true) (hv:∀ th:Nat → Nat → Nat,∀ σ:Nat → Option (Nat × Nat),val = renA (thL [r] key th) 3 val0 ∧ kg (newG 1 σ th) (newB 1 σ) 3 val0)
  (hb:bodyM P G H fn es0 [(0,famBk fam)] 1 fun a m1 => a = val0 ∧ look m1 0 = some (famBk fam')) :
  ∃ ks m0 as0,Entry ks m m0 es as0 ∧ funcOK P H fn as0.length = true ∧ bodyM P G H fn as0 m0 ks.length fun a m1 => ∃ σ th ys nw,(⟨ob,val,.many [(r,fam')] none⟩:Eff).u = .many (ks.zip ys) nw ∧ Leave key ks σ th m1 a ys nw val:=
 one_okG hl (fun f => ⟨(h1 f).1,rowRen_self thE_0 lowG_0 (h1 f).2⟩) (fun th σ f => ⟨rowRen_self thL_0 (newG_0 (by simp)) (h2 f).2,by show (fam' f).g ≠ _; rw [(h2 f).1]; simp⟩) ha hak hfn hv hb
def mcP (sz:Nat) (F:List AV → List AV → Option (List Prop × AV × List AV)):MCon:=fun key m es => match es with
 | .ptr r f i sz' 0 :: rest => match look m r with
  | some fam => match F ((fam f).get i) rest with
   | some (ob,val,cs) => some ⟨(i < (fam f).n) :: (sz' = sz) :: (sz = (fam f).sz) :: (cleanCs ((fam f).get i) = true) :: famOK r fam :: ob,val,.many [(r,famE fam f i cs)] none⟩
   | none => none
  | none => none
 | _ => none
def wb1 (fam:Fam) (cs:List AV):Fam:=fun f => if f = 0 then { fam 0 with get:=fun _ => cs } else fam f
def mc1 (sz:Nat) (F:List AV → List AV → Option (List Prop × AV × List AV)):MCon:=fun key m es => match es with
 | .bx r 0 :: rest => match look m r with
  | some fam => match F ((fam 0).get 0) rest with
   | some (ob,val,cs) => some ⟨((fam 0).n = 1) :: (sz = (fam 0).sz) :: (cleanCs ((fam 0).get 0) = true) :: famOK r fam :: ob,val,.many [(r,wb1 fam cs)] none⟩
   | none => none
  | none => none
 | es => mcP sz F key m es
def OneOK (P:Program) (G:Ctx) (H:Hots) (fn:Func) (sz:Nat) (F:List AV → List AV → Option (List Prop × AV × List AV)):Prop:=
 ∀ cells rest ob val cs,F cells rest = some (ob,val,cs) → (∀ p ∈ ob,p) → (∀ a ∈ rest,clean 3 a = true) ∧ clean 3 val = true ∧ (∀ c ∈ cs,cleanC c = true) ∧ funcOK P H fn (rest.length + 1) = true ∧
  ∀ (fam:Fam) (f i:Nat),i < (fam f).n → sz = (fam f).sz → (∀ f,(fam f).g = none) → famOK 0 fam → bodyM P G H fn (.ptr 0 f i sz 0 :: rest) [(0,famE fam f i cells)] 1 fun a m1 => a = val ∧ look m1 0 = some (famE fam f i cs)
theorem MConOK.mcP (hG:CtxOK P G) (hf:P.funcs[f]? = some fn) {sz:Nat} {F:List AV → List AV → Option (List Prop × AV × List AV)} (h:OneOK P G H fn sz F):MConOK P f (mcP sz F):=by
 refine MConOK.of (H:=H) hG hf fun key m es e hc hob => ?_
 unfold Ax.mcP at hc
 split at hc
 ·rename_i r f' i sz' rest
  split at hc
  ·rename_i fam hl
   split at hc
   ·rename_i ob val cs hF
    cases hc
    have hi:i < (fam f').n:=hob _ (by simp)
    have hsz':sz' = sz:=hob _ (by simp)
    have hsz:sz = (fam f').sz:=hob _ (by simp)
    have hcl:cleanCs ((fam f').get i) = true:=hob _ (by simp)
    have hok:famOK r fam:=hob _ (by simp)
    subst hsz'
    obtain ⟨h1,h2,h3,h4,h5⟩:=h _ _ _ _ _ hF fun p hp => hob p (by simp [hp])
    obtain ⟨a1,a2⟩:=cleans_ren (θ:=thE [r]) (g:=lowG 1) (B:=lowB 1) h1
    refine one_ok hl hok (famOK_E hok h3) (es0:=.ptr 0 f' i sz' 0 :: rest) (val0:=val) ?_ ?_ h4 (fun th σ => ?_) ?_
    ·rw [List.map_cons,a1]; rfl
    ·intro a ha
     rcases List.mem_cons.1 ha with e | ha
     ·rw [e]; exact Nat.zero_lt_one
     ·exact a2 a ha
    ·obtain ⟨b1,b2⟩:=clean_ren (θ:=thL [r] key th) (g:=newG 1 σ th) (B:=newB 1 σ) 3 val h2
     exact ⟨b1.symm,b2⟩
    ·have e1:famBk fam = famE (famBk fam) f' i ((fam f').get i):=by
      have:=famBk_E (fam:=fam) (f:=f') (i:=i) (cleanCs_mem hcl)
      rw [famE_self] at this
      exact this
     rw [e1,famBk_E h3]
     exact h5 (famBk fam) f' i hi hsz (fun f => (hok f).1) (famOK_bk hok)
   ·cases hc
  ·cases hc
 ·cases hc
theorem MConOK.mc1 (hG:CtxOK P G) (hf:P.funcs[f]? = some fn) {sz:Nat} {F:List AV → List AV → Option (List Prop × AV × List AV)} (h:OneOK P G H fn sz F):MConOK P f (mc1 sz F):=by
 intro w0 ρ m m' D w key es vs e hR hk hm hRs hc hob hmany
 unfold Ax.mc1 at hc
 split at hc
 ·rename_i r rest
  split at hc
  ·rename_i fam hl
   split at hc
   ·rename_i ob val cs hF
    cases hc
    have hn:(fam 0).n = 1:=hob _ (by simp)
    have hsz:sz = (fam 0).sz:=hob _ (by simp)
    have hcl:cleanCs ((fam 0).get 0) = true:=hob _ (by simp)
    have hok:famOK r fam:=hob _ (by simp)
    have hRs':Rs w ρ (.ptr r 0 0 sz 0 :: rest) vs:=by
     obtain ⟨x,xs,rfl,h1,h2⟩:=hRs.inv
     refine .cons ?_ h2
     cases h1 with
     | bx hd =>
      have:R w ρ (.ptr r 0 0 sz 0) (.pointer (some ⟨ρ.blk r 0,0 * sz + 0,none⟩)):=.ptr hd
      rw [Nat.zero_mul] at this
      exact this
    have:=MConOK.mcP hG hf h w0 ρ m m' D w key _ vs ⟨(0 < (fam 0).n) :: (sz = sz) :: (sz = (fam 0).sz) :: (cleanCs ((fam 0).get 0) = true) :: famOK r fam :: ob,val,.many [(r,famE fam 0 0 cs)] none⟩ hR hk hm hRs'
     (by simp only [Ax.mcP,hl,hF]) (fun p hp => by
      simp only [List.mem_cons] at hp
      rcases hp with rfl | rfl | rfl | rfl | rfl | hp
      ·omega
      ·trivial
      ·exact hsz
      ·exact hcl
      ·exact hok
      ·exact hob p (by simp [hp])) ⟨_,_,rfl⟩
    refine this.mono fun v w' ⟨ρ',p1,p2,p3,p4⟩ => ⟨ρ',p1,?_,p3,p4⟩
    have p2:Rel w0 ρ' (setRow r (famE fam 0 0 cs) m) (fun r => D r ∨ r = key) w':=p2
    refine Rel.alike p2 fun f => ?_
    by_cases e:f = 0
    ·subst e
     refine ⟨rfl,rfl,rfl,rfl,fun i hi => ?_⟩
     rw [famE_n,hn] at hi
     have:i = 0:=by omega
     subst this
     rw [famE_get]; rfl
    ·unfold wb1
     rw [if_neg e,famE_off e]
     exact ⟨rfl,rfl,rfl,rfl,fun _ _ => rfl⟩
   ·cases hc
  ·cases hc
 ·exact MConOK.mcP hG hf h w0 ρ m m' D w key es vs e hR hk hm hRs hc hob hmany
def mcPP (sz:Nat) (F:List AV → List AV → List AV → Option (List Prop × AV × List AV × List AV)):MCon:=fun key m es => match es with
 | .ptr r f i sz1 0 :: .ptr r' f' i' sz2 0 :: rest => match look m r with
  | some fam => match F ((fam f).get i) ((fam f').get i') rest with
   | some (ob,val,cs,cs') => some ⟨(r' = r) :: (f ≠ f') :: (i < (fam f).n) :: (i' < (fam f').n) :: (sz1 = sz) :: (sz2 = sz) :: (sz = (fam f).sz) :: (sz = (fam f').sz) :: (cleanCs ((fam f).get i) = true) :: (cleanCs ((fam f').get i') = true) :: famOK r fam :: ob,val,.many [(r,famE (famE fam f i cs) f' i' cs')] none⟩
   | none => none
  | none => none
 | _ => none
def TwoOK (P:Program) (G:Ctx) (H:Hots) (fn:Func) (sz:Nat) (F:List AV → List AV → List AV → Option (List Prop × AV × List AV × List AV)):Prop:=
 ∀ c1 c2 rest ob val cs cs',F c1 c2 rest = some (ob,val,cs,cs') → (∀ p ∈ ob,p) → (∀ a ∈ rest,clean 3 a = true) ∧ clean 3 val = true ∧ (∀ c ∈ cs,cleanC c = true) ∧ (∀ c ∈ cs',cleanC c = true) ∧ funcOK P H fn (rest.length + 2) = true ∧
  ∀ (fam:Fam) (f i f' i':Nat),f ≠ f' → i < (fam f).n → i' < (fam f').n → sz = (fam f).sz → sz = (fam f').sz → (∀ f,(fam f).g = none) → famOK 0 fam →
   bodyM P G H fn (.ptr 0 f i sz 0 :: .ptr 0 f' i' sz 0 :: rest) [(0,famE (famE fam f i c1) f' i' c2)] 1 fun a m1 => a = val ∧ look m1 0 = some (famE (famE fam f i cs) f' i' cs')
theorem MConOK.mcPP (hG:CtxOK P G) (hf:P.funcs[f]? = some fn) {sz:Nat} {F:List AV → List AV → List AV → Option (List Prop × AV × List AV × List AV)} (h:TwoOK P G H fn sz F):MConOK P f (mcPP sz F):=by
 refine MConOK.of (H:=H) hG hf fun key m es e hc hob => ?_
 unfold Ax.mcPP at hc
 split at hc
 ·rename_i r f1 i1 s1 r' f2 i2 s2 rest
  split at hc
  ·rename_i fam hl
   split at hc
   ·rename_i ob val cs cs' hF
    cases hc
    have hr:r' = r:=hob _ (by simp)
    have hne:f1 ≠ f2:=hob _ (by simp)
    have hi:i1 < (fam f1).n:=hob _ (by simp)
    have hi':i2 < (fam f2).n:=hob _ (by simp)
    have hs1:s1 = sz:=hob _ (by simp)
    have hs2:s2 = sz:=hob _ (by simp)
    have hz1:sz = (fam f1).sz:=hob _ (by simp)
    have hz2:sz = (fam f2).sz:=hob _ (by simp)
    have hc1:cleanCs ((fam f1).get i1) = true:=hob _ (by simp)
    have hc2:cleanCs ((fam f2).get i2) = true:=hob _ (by simp)
    have hok:famOK r fam:=hob _ (by simp)
    subst hr hs1 hs2
    obtain ⟨h1,h2,h3,h3',h4,h5⟩:=h _ _ _ _ _ _ _ hF fun p hp => hob p (by simp [hp])
    obtain ⟨a1,a2⟩:=cleans_ren (θ:=thE [r']) (g:=lowG 1) (B:=lowB 1) h1
    refine one_ok hl hok (famOK_E (famOK_E hok h3) h3') (es0:=.ptr 0 f1 i1 s2 0 :: .ptr 0 f2 i2 s2 0 :: rest) (val0:=val) ?_ ?_ h4 (fun th σ => ?_) ?_
    ·rw [List.map_cons,List.map_cons,a1]; rfl
    ·intro a ha
     rcases List.mem_cons.1 ha with e | ha
     ·rw [e]; exact Nat.zero_lt_one
     ·rcases List.mem_cons.1 ha with e | ha
      ·rw [e]; exact Nat.zero_lt_one
      ·exact a2 a ha
    ·obtain ⟨b1,b2⟩:=clean_ren (θ:=thL [r'] key th) (g:=newG 1 σ th) (B:=newB 1 σ) 3 val h2
     exact ⟨b1.symm,b2⟩
    ·have e1:famBk fam = famE (famE (famBk fam) f1 i1 ((fam f1).get i1)) f2 i2 ((fam f2).get i2):=by
      have k1:=famBk_E (fam:=fam) (f:=f1) (i:=i1) (cleanCs_mem hc1)
      rw [famE_self] at k1
      have k2:=famBk_E (fam:=fam) (f:=f2) (i:=i2) (cleanCs_mem hc2)
      rw [famE_self] at k2
      rw [← k1,← k2]
     rw [e1,famBk_E h3',famBk_E h3]
     exact h5 (famBk fam) f1 i1 f2 i2 hne hi hi' hz1 hz2 (fun f => (hok f).1) (famOK_bk hok)
   ·cases hc
  ·cases hc
 ·cases hc
def tabOK (K N sz:Nat) (tp ty:TypeId) (fam:Fam):Prop:=(∀ f,alike (famT K N sz tp ty (fun i => (fam (i + 1)).get 0) f) (fam f)) ∧ ∀ i,i < N → cleanCs ((fam (i + 1)).get 0) = true
theorem rowRen_T {θ:Nat → Nat → Nat × Nat} {g:Nat → Nat → Prop} {B:Nat → Prop} {K N sz:Nat} {tp ty:TypeId} {get:Nat → List AV} (hθ:∀ f,θ 0 f = (K,f)) (hg:∀ f,g 0 f) (hc:∀ i,i < N → cleanCs (get i) = true) (f:Nat) :
  rowRen θ g B (famT 0 N sz tp ty get f) (famT K N sz tp ty get f):=by
 cases f with
 | zero =>
  refine ⟨rfl,rfl,rfl,rfl,fun j hj => ⟨?_,fun c hc => ?_⟩⟩
  ·show [AV.ptr K (j + 1) 0 sz 0] = [AV.ptr (θ 0 (j + 1)).1 (θ 0 (j + 1)).2 0 sz 0]
   rw [hθ]
  ·simp only [famT,List.mem_singleton] at hc
   rw [hc]; exact hg _
 | succ f =>
  refine rowRen_clean' ⟨rfl,rfl,rfl,rfl,fun _ _ => rfl⟩ fun j hj c hcm => ?_
  simp only [famT] at hj hcm
  split at hj
  ·rename_i hf
   have:j = 0:=by omega
   subst this
   exact cleanCs_mem (hc f hf) c (by simpa using hcm)
  ·omega
theorem rowRen_alike {θ:Nat → Nat → Nat × Nat} {g:Nat → Nat → Prop} {B:Nat → Prop} {x0 x y:Row} (h:rowRen θ g B x0 x) (k:alike x y):rowRen θ g B x0 y:=by
 obtain ⟨h1,h2,h3,h4,h5⟩:=h
 obtain ⟨k1,k2,k3,k4,k5⟩:=k
 refine ⟨k1.trans h1,k2.trans h2,k3.trans h3,k4.trans h4,fun j hj => ?_⟩
 obtain ⟨a,b⟩:=h5 j hj
 exact ⟨(k5 j (by omega)).trans a,b⟩
theorem famT_g {K N sz:Nat} {tp ty:TypeId} {get:Nat → List AV} {f:Nat}:(famT K N sz tp ty get f).g = none:=by cases f <;> rfl
theorem tabOK_in {K N sz:Nat} {tp ty:TypeId} {fam:Fam} (h:tabOK K N sz tp ty fam) (f:Nat):(fam f).g = none ∧ rowRen (thE [K]) (lowG 1) (lowB 1) (famT 0 N sz tp ty (fun i => (fam (i + 1)).get 0) f) (fam f):=
 ⟨(h.1 f).2.2.2.1.trans famT_g,rowRen_alike (rowRen_T thE_0 lowG_0 h.2 f) (h.1 f)⟩
def mcT (sz:Nat) (tp ty:TypeId) (F:Nat → (Nat → List AV) → List AV → Option (List Prop × AV × (Nat → List AV))):MCon:=fun key m es => match es with
 | .own K 0 N 1 :: rest => match look m K with
  | some fam => match F N (fun i => (fam (i + 1)).get 0) rest with
   | some (ob,val,get') => some ⟨tabOK K N sz tp ty fam :: ob,val,.many [(K,famT K N sz tp ty get')] none⟩
   | none => none
  | none => none
 | _ => none
def TabOK (P:Program) (G:Ctx) (H:Hots) (fn:Func) (sz:Nat) (tp ty:TypeId) (F:Nat → (Nat → List AV) → List AV → Option (List Prop × AV × (Nat → List AV))):Prop:=
 ∀ N get rest ob val get',F N get rest = some (ob,val,get') → (∀ p ∈ ob,p) → (∀ i,i < N → cleanCs (get i) = true) → (∀ a ∈ rest,clean 3 a = true) ∧ clean 3 val = true ∧ (∀ i,i < N → cleanCs (get' i) = true) ∧ funcOK P H fn (rest.length + 1) = true ∧
  bodyM P G H fn (.own 0 0 N 1 :: rest) [(0,famT 0 N sz tp ty get)] 1 fun a m1 => a = val ∧ look m1 0 = some (famT 0 N sz tp ty get')
theorem MConOK.mcT (hG:CtxOK P G) (hf:P.funcs[f]? = some fn) {sz:Nat} {tp ty:TypeId} {F:Nat → (Nat → List AV) → List AV → Option (List Prop × AV × (Nat → List AV))} (h:TabOK P G H fn sz tp ty F):MConOK P f (mcT sz tp ty F):=by
 refine MConOK.of (H:=H) hG hf fun key m es e hc hob => ?_
 unfold Ax.mcT at hc
 split at hc
 ·rename_i K N rest
  split at hc
  ·rename_i fam hl
   split at hc
   ·rename_i ob val get' hF
    cases hc
    have hok:tabOK K N sz tp ty fam:=hob _ (by simp)
    obtain ⟨h1,h2,h3,h4,h5⟩:=h _ _ _ _ _ _ hF (fun p hp => hob p (by simp [hp])) hok.2
    obtain ⟨a1,a2⟩:=cleans_ren (θ:=thE [K]) (g:=lowG 1) (B:=lowB 1) h1
    refine one_okG hl (tabOK_in hok) (fun th σ f => ⟨rowRen_T thL_0 (newG_0 (by simp)) h3 f,by rw [famT_g]; simp⟩) (es0:=.own 0 0 N 1 :: rest) (val0:=val) ?_ ?_ h4 (fun th σ => ?_) h5
    ·rw [List.map_cons,a1]; rfl
    ·intro a ha
     rcases List.mem_cons.1 ha with e | ha
     ·rw [e]; exact Nat.zero_lt_one
     ·exact a2 a ha
    ·obtain ⟨b1,b2⟩:=clean_ren (θ:=thL [K] key th) (g:=newG 1 σ th) (B:=newB 1 σ) 3 val h2
     exact ⟨b1.symm,b2⟩
   ·cases hc
  ·cases hc
 ·cases hc
def whole (K:Nat) (f:Nat):Option (Nat × Nat):=some (K,f)
end
section
variable {K N sz n r f i:Nat} {tp ty:TypeId} {get:Nat → List AV} {cs l:List AV} {g:Option Bool} {a:AV}
theorem cleanCs_nil:cleanCs [] = true:=(rfl)
theorem cleanCs_v {x:Value}:cleanCs (.v x :: l) = cleanCs l:=by simp [cleanCs,cleanC]
theorem cleanCs_any:cleanCs (.any :: l) = cleanCs l:=by simp [cleanCs,cleanC]
theorem cleanCs_ro {q:Nat → List AV}:cleanCs (.ro n sz q :: l) = cleanCs l:=by simp [cleanCs,cleanC]
theorem cleanCs_rop:cleanCs (.rop cs :: l) = cleanCs l:=by simp [cleanCs,cleanC]
theorem self_of_clean {c:AV} (h:cleanC c = true):selfC r c = true:=by cases c <;> first | exact h | simp [cleanC] at h
theorem famOK_1 (h:cleanCs cs = true):famOK r (fam1 ty sz cs none) = True:=eq_true fun f => by
 unfold fam1
 by_cases e:f = 0
 ·subst e
  exact ⟨rfl,fun j _ c hc => self_of_clean (cleanCs_mem h c (by simpa using hc))⟩
 ·simp only [e,if_false]
  exact ⟨trivial,fun j hj => by omega⟩
theorem famOK_N (h:∀ i,i < n → cleanCs (get i) = true):famOK r (famN n sz ty get none) = True:=eq_true fun f => by
 unfold famN
 by_cases e:f = 0
 ·subst e
  exact ⟨rfl,fun j hj c hc => self_of_clean (cleanCs_mem (h j (by simpa using hj)) c (by simpa using hc))⟩
 ·simp only [e,if_false]
  exact ⟨trivial,fun j hj => by omega⟩
theorem famOK_T (h:∀ i,i < N → cleanCs (get i) = true):famOK K (famT K N sz tp ty get) = True:=eq_true fun f => by
 cases f with
 | zero =>
  refine ⟨rfl,fun j _ c hc => ?_⟩
  simp only [famT,List.mem_singleton] at hc
  rw [hc]; simp [selfC]
 | succ f =>
  refine ⟨rfl,fun j hj c hc => ?_⟩
  simp only [famT] at hj hc
  split at hj
  ·rename_i hf
   have:j = 0:=by omega
   subst this
   exact self_of_clean (cleanCs_mem (h f hf) c (by simpa using hc))
  ·omega
theorem tabOK_T (h:∀ i,i < N → cleanCs (get i) = true):tabOK K N sz tp ty (famT K N sz tp ty get) = True:=eq_true ⟨fun f => by
 cases f <;> exact ⟨rfl,rfl,rfl,rfl,fun _ _ => rfl⟩,h⟩
theorem famT_get:(famT K N sz tp ty get (i + 1)).get 0 = get i:=(rfl)
theorem famT_n:(famT K N sz tp ty get (i + 1)).n = if i < N then 1 else 0:=(rfl)
theorem famT_sz:(famT K N sz tp ty get (i + 1)).sz = sz:=(rfl)
theorem fam1_get:(fam1 ty sz cs g 0).get i = cs:=(rfl)
theorem fam1_n:(fam1 ty sz cs g 0).n = 1:=(rfl)
theorem fam1_sz:(fam1 ty sz cs g 0).sz = sz:=(rfl)
theorem famN_get:(famN n sz ty get g 0).get i = get i:=(rfl)
theorem famN_n:(famN n sz ty get g 0).n = n:=(rfl)
theorem famN_sz:(famN n sz ty get g 0).sz = sz:=(rfl)
theorem famOK_Es {fam:Fam} (h:famOK r fam) (hc:cleanCs cs = true):famOK r (famE fam f i cs) = True:=eq_true (famOK_E h (cleanCs_mem hc))
theorem wb1_1:wb1 (fam1 ty sz cs g) l = fam1 ty sz l g:=by
 funext f
 unfold wb1 fam1
 by_cases e:f = 0 <;> simp [e]
theorem wb1_N {get:Nat → List AV}:wb1 (famN 1 sz ty get g) l = famN 1 sz ty (fun _ => l) g:=by
 funext f
 unfold wb1 famN
 by_cases e:f = 0 <;> simp [e]
end
attribute [go_sem] cleanCs_nil cleanCs_v cleanCs_any cleanCs_ro cleanCs_rop famOK_1 famOK_N famOK_T famOK_Es famE_n famE_sz famE_g famE_get famE_twice tabOK_T famT_get famT_n famT_sz fam1_get fam1_n fam1_sz famN_get famN_n famN_sz wb1_1 wb1_N famE_T lt_ite tupOf_nil tupOf_one tupOf_two retML_nil retML_cons retMS_some endMR_ret endMR_normal
end Go.Ax
end
section
/-
  Contracts of functions that write rows: a table and an element of another row; a slice of one's own; two pointers out of a table.
-/
namespace Go.Ax
section
variable {P:Program} {G:Ctx} {H:Hots} {f:FuncId} {fn:Func} {r s key:Nat}
theorem thL2_0 {th:Nat → Nat → Nat}:∀ f,thL [r,s] key th 0 f = (r,f):=fun f => by simp [thL]
def famCl (fam:Fam):Prop:=∀ f,(fam f).g = none ∧ ∀ j,j < (fam f).n → ∀ c ∈ (fam f).get j,cleanC c = true
theorem famCl_E {fam:Fam} {f i:Nat} {cs:List AV} (h:famCl fam) (hc:∀ c ∈ cs,cleanC c = true):famCl (famE fam f i cs):=fun f' => by
 refine ⟨by rw [famE_g]; exact (h f').1,fun j hj c hcm => ?_⟩
 rw [famE_n] at hj
 by_cases e:f' = f
 ·subst e
  simp only [famE,if_true] at hcm
  split at hcm
  ·exact hc c hcm
  ·exact (h f').2 j hj c hcm
 ·rw [famE_off e] at hcm
  exact (h f').2 j hj c hcm
theorem rowRen_cl {θ:Nat → Nat → Nat × Nat} {g:Nat → Nat → Prop} {B:Nat → Prop} {fam:Fam} (h:famCl fam) (f:Nat):rowRen θ g B (fam f) (fam f):=rowRen_clean' (.refl _) (h f).2
theorem look_two0 {x y:Fam}:look [(1,y),(0,x)] 0 = some x:=by simp [look]
theorem look_two1 {x y:Fam}:look [(1,y),(0,x)] 1 = some y:=by simp [look]
theorem two_okG {fam fam' x0 y0 famB famB':Fam} {m:Mem} {es es0:List AV} {val val0:AV} {ob:List Prop} (hne:r ≠ s) (hl:look m r = some fam) (hl2:look m s = some famB)
  (h1:∀ f,(fam f).g = none ∧ rowRen (thE [r,s]) (lowG 2) (lowB 2) (x0 f) (fam f)) (hB:famCl famB) (hB':famCl famB')
  (h2:∀ th σ f,rowRen (thL [r,s] key th) (newG 2 σ th) (newB 2 σ) (y0 f) (fam' f) ∧ (y0 f).g ≠ some false) (ha:es = es0.map (renA (thE [r,s]) 3)) (hak:∀ a ∈ es0,kg (lowG 2) (lowB 2) 3 a)
  (hfn:funcOK P H fn es0.length = true) (hv:∀ th:Nat → Nat → Nat,∀ σ:Nat → Option (Nat × Nat),val = renA (thL [r,s] key th) 3 val0 ∧ kg (newG 2 σ th) (newB 2 σ) 3 val0)
  (hb:bodyM P G H fn es0 [(1,famB),(0,x0)] 2 fun a m1 => a = val0 ∧ look m1 0 = some y0 ∧ look m1 1 = some famB') :
  ∃ ks m0 as0,Entry ks m m0 es as0 ∧ funcOK P H fn as0.length = true ∧ bodyM P G H fn as0 m0 ks.length fun a m1 => ∃ σ th ys nw,(⟨ob,val,.many [(r,fam'),(s,famB')] none⟩:Eff).u = .many (ks.zip ys) nw ∧ Leave key ks σ th m1 a ys nw val:=by
 refine ⟨[r,s],[(1,famB),(0,x0)],es0,⟨by simp [hne],ha,hak,fun j hj => ?_,fun q x hq => ?_⟩,hfn,hb.mono fun a m1 ⟨q1,q2,q3⟩ => ?_⟩
 ·match j,hj with
  | 0,_ => exact ⟨_,fam,look_two0,hl,h1⟩
  | 1,_ => exact ⟨_,famB,look_two1,hl2,fun f => ⟨(hB f).1,rowRen_cl hB f⟩⟩
  | j + 2,hj => simp at hj; omega
 ·by_cases e:q = 0
  ·subst e; simp
  ·by_cases e1:q = 1
   ·subst e1; simp
   ·simp [look,Ne.symm e,Ne.symm e1] at hq
 ·obtain ⟨v1,v2⟩:=hv (fun _ _ => 0) (fun _ => none)
  refine ⟨fun _ => none,fun _ _ => 0,[fam',famB'],none,rfl,⟨fun f r g h => by simp at h,by rw [q1]; exact v1,by rw [q1]; exact v2,rfl,fun j hj => ?_,fun _ => rfl⟩⟩
  match j,hj with
  | 0,_ => exact ⟨_,_,q2,rfl,h2 _ _⟩
  | 1,_ => exact ⟨_,_,q3,rfl,fun f => ⟨rowRen_cl hB' f,by rw [(hB' f).1]; simp⟩⟩
  | j + 2,hj => simp at hj; omega
theorem tabOK_in2 {K C N sz:Nat} {tp ty:TypeId} {fam:Fam} (h:tabOK K N sz tp ty fam) (f:Nat):(fam f).g = none ∧ rowRen (thE [K,C]) (lowG 2) (lowB 2) (famT 0 N sz tp ty (fun i => (fam (i + 1)).get 0) f) (fam f):=
 ⟨(h.1 f).2.2.2.1.trans famT_g,rowRen_alike (rowRen_T (θ:=thE [K,C]) (g:=lowG 2) (B:=lowB 2) (fun _ => rfl) (fun _ => Nat.zero_lt_two) h.2 f) (h.1 f)⟩
def mcTPp (sz sz2:Nat) (tp ty:TypeId) (F:Nat → (Nat → List AV) → List AV → List AV → Option (List Prop × AV × (Nat → List AV) × List AV)):MCon:=fun key m es => match es with
 | .own K 0 N 1 :: .ptr C f i s2 0 :: rest => match look m K with
  | some fam => match look m C with
   | some famC => match F N (fun i => (fam (i + 1)).get 0) ((famC f).get i) rest with
    | some (ob,val,get',cs') => some ⟨(K ≠ C) :: (s2 = sz2) :: (i < (famC f).n) :: (sz2 = (famC f).sz) :: (cleanCs ((famC f).get i) = true) :: famCl famC :: tabOK K N sz tp ty fam :: ob,val,.many [(K,famT K N sz tp ty get'),(C,famE famC f i cs')] none⟩
    | none => none
   | none => none
  | none => none
 | _ => none
def mcTQ (sz sz2:Nat) (tp ty:TypeId) (F:Nat → (Nat → List AV) → List AV → List AV → Option (List Prop × AV × (Nat → List AV) × List AV)):MCon:=fun key m es => match es with
 | .own K 0 N 1 :: .bx C 0 :: rest => match look m K with
  | some fam => match look m C with
   | some famC => match F N (fun i => (fam (i + 1)).get 0) ((famC 0).get 0) rest with
    | some (ob,val,get',cs') => some ⟨(K ≠ C) :: ((famC 0).n = 1) :: (sz2 = (famC 0).sz) :: (cleanCs ((famC 0).get 0) = true) :: famCl famC :: tabOK K N sz tp ty fam :: ob,val,.many [(K,famT K N sz tp ty get'),(C,wb1 famC cs')] none⟩
    | none => none
   | none => none
  | none => none
 | es => mcTPp sz sz2 tp ty F key m es
def TPOK (P:Program) (G:Ctx) (H:Hots) (fn:Func) (sz sz2:Nat) (tp ty:TypeId) (F:Nat → (Nat → List AV) → List AV → List AV → Option (List Prop × AV × (Nat → List AV) × List AV)):Prop:=
 ∀ N get cells rest ob val get' cs',F N get cells rest = some (ob,val,get',cs') → (∀ p ∈ ob,p) → (∀ i,i < N → cleanCs (get i) = true) → cleanCs cells = true →
  (∀ a ∈ rest,clean 3 a = true) ∧ clean 3 val = true ∧ (∀ i,i < N → cleanCs (get' i) = true) ∧ cleanCs cs' = true ∧ funcOK P H fn (rest.length + 2) = true ∧
  ∀ (fam:Fam) (f i:Nat),i < (fam f).n → sz2 = (fam f).sz → famCl fam → bodyM P G H fn (.own 0 0 N 1 :: .ptr 1 f i sz2 0 :: rest) [(1,famE fam f i cells),(0,famT 0 N sz tp ty get)] 2 fun a m1 =>
   a = val ∧ look m1 0 = some (famT 0 N sz tp ty get') ∧ look m1 1 = some (famE fam f i cs')
theorem MConOK.mcTPp (hG:CtxOK P G) (hf:P.funcs[f]? = some fn) {sz sz2:Nat} {tp ty:TypeId} {F:Nat → (Nat → List AV) → List AV → List AV → Option (List Prop × AV × (Nat → List AV) × List AV)} (h:TPOK P G H fn sz sz2 tp ty F):MConOK P f (mcTPp sz sz2 tp ty F):=by
 refine MConOK.of (H:=H) hG hf fun key m es e hc hob => ?_
 unfold Ax.mcTPp at hc
 split at hc
 ·rename_i K N C f' i s2 rest
  split at hc
  ·rename_i fam hl
   split at hc
   ·rename_i famC hl2
    split at hc
    ·rename_i ob val get' cs' hF
     cases hc
     have hne:K ≠ C:=hob _ (by simp)
     have hs2:s2 = sz2:=hob _ (by simp)
     have hi:i < (famC f').n:=hob _ (by simp)
     have hsz:sz2 = (famC f').sz:=hob _ (by simp)
     have hcl:cleanCs ((famC f').get i) = true:=hob _ (by simp)
     have hC:famCl famC:=hob _ (by simp)
     have hok:tabOK K N sz tp ty fam:=hob _ (by simp)
     subst hs2
     obtain ⟨h1,h2,h3,h3',h4,h5⟩:=h _ _ _ _ _ _ _ _ hF (fun p hp => hob p (by simp [hp])) hok.2 hcl
     obtain ⟨a1,a2⟩:=cleans_ren (θ:=thE [K,C]) (g:=lowG 2) (B:=lowB 2) h1
     refine two_okG hne hl hl2 (tabOK_in2 hok) hC (famCl_E hC (cleanCs_mem h3'))
      (fun th σ f => ⟨rowRen_T thL2_0 (fun _ => .inl Nat.zero_lt_two) h3 f,by rw [famT_g]; simp⟩) (es0:=.own 0 0 N 1 :: .ptr 1 f' i s2 0 :: rest) (val0:=val) ?_ ?_ h4 (fun th σ => ?_) ?_
     ·rw [List.map_cons,List.map_cons,a1]; rfl
     ·intro a ha
      rcases List.mem_cons.1 ha with e | ha
      ·rw [e]; exact Nat.zero_lt_two
      ·rcases List.mem_cons.1 ha with e | ha
       ·rw [e]; exact Nat.one_lt_two
       ·exact a2 a ha
     ·obtain ⟨b1,b2⟩:=clean_ren (θ:=thL [K,C] key th) (g:=newG 2 σ th) (B:=newB 2 σ) 3 val h2
      exact ⟨b1.symm,b2⟩
     ·have:=h5 famC f' i hi hsz hC
      rw [famE_self] at this
      exact this
    ·cases hc
   ·cases hc
  ·cases hc
 ·cases hc
theorem MConOK.mcTQ (hG:CtxOK P G) (hf:P.funcs[f]? = some fn) {sz sz2:Nat} {tp ty:TypeId} {F:Nat → (Nat → List AV) → List AV → List AV → Option (List Prop × AV × (Nat → List AV) × List AV)} (h:TPOK P G H fn sz sz2 tp ty F):MConOK P f (mcTQ sz sz2 tp ty F):=by
 intro w0 ρ m m' D w key es vs e hR hk hm hRs hc hob hmany
 unfold Ax.mcTQ at hc
 split at hc
 ·rename_i K N C rest
  split at hc
  ·rename_i fam hl
   split at hc
   ·rename_i famC hl2
    split at hc
    ·rename_i ob val get' cs' hF
     cases hc
     have hne:K ≠ C:=hob _ (by simp)
     have hn:(famC 0).n = 1:=hob _ (by simp)
     have hsz:sz2 = (famC 0).sz:=hob _ (by simp)
     have hcl:cleanCs ((famC 0).get 0) = true:=hob _ (by simp)
     have hC:famCl famC:=hob _ (by simp)
     have hok:tabOK K N sz tp ty fam:=hob _ (by simp)
     have hRs':Rs w ρ (.own K 0 N 1 :: .ptr C 0 0 sz2 0 :: rest) vs:=by
      obtain ⟨x,xs,rfl,h1,h2⟩:=hRs.inv
      obtain ⟨y,ys,rfl,h3,h4⟩:=h2.inv
      refine .cons h1 (.cons ?_ h4)
      cases h3 with
      | bx hd =>
       have:R w ρ (.ptr C 0 0 sz2 0) (.pointer (some ⟨ρ.blk C 0,0 * sz2 + 0,none⟩)):=.ptr hd
       rw [Nat.zero_mul] at this
       exact this
     have:=MConOK.mcTPp hG hf h w0 ρ m m' D w key _ vs ⟨(K ≠ C) :: (sz2 = sz2) :: (0 < (famC 0).n) :: (sz2 = (famC 0).sz) :: (cleanCs ((famC 0).get 0) = true) :: famCl famC :: tabOK K N sz tp ty fam :: ob,val,.many [(K,famT K N sz tp ty get'),(C,famE famC 0 0 cs')] none⟩ hR hk hm hRs'
      (by simp only [Ax.mcTPp,hl,hl2,hF]) (fun p hp => by
       simp only [List.mem_cons] at hp
       rcases hp with rfl | rfl | rfl | rfl | rfl | rfl | rfl | hp
       ·exact hne
       ·trivial
       ·omega
       ·exact hsz
       ·exact hcl
       ·exact hC
       ·exact hok
       ·exact hob p (by simp [hp])) ⟨_,_,rfl⟩
     refine this.mono fun v w' ⟨ρ',p1,p2,p3,p4⟩ => ⟨ρ',p1,?_,p3,p4⟩
     have p2:Rel w0 ρ' (setRow C (famE famC 0 0 cs') (setRow K (famT K N sz tp ty get') m)) (fun r => D r ∨ r = key) w':=p2
     refine Rel.alike p2 fun f => ?_
     by_cases e:f = 0
     ·subst e
      refine ⟨rfl,rfl,rfl,rfl,fun i hi => ?_⟩
      rw [famE_n,hn] at hi
      have:i = 0:=by omega
      subst this
      rw [famE_get]; rfl
     ·unfold wb1
      rw [if_neg e,famE_off e]
      exact ⟨rfl,rfl,rfl,rfl,fun _ _ => rfl⟩
    ·cases hc
   ·cases hc
  ·cases hc
 ·exact MConOK.mcTPp hG hf h w0 ρ m m' D w key es vs e hR hk hm hRs hc hob hmany
def mc2P (sz:Nat) (tp ty:TypeId):MCon:=fun key m es => match es with
 | [.own K 0 N 1,.v (.int .i64 a),.v (.int .i64 b)] => match look m K with
  | some fam => some ⟨[tabOK K N sz tp ty fam,N ≤ 1000],if 0 ≤ a ∧ a < N ∧ 0 ≤ b ∧ b < N ∧ a ≠ b then .tup [.ptr K (a.toNat + 1) 0 sz 0,.ptr K (b.toNat + 1) 0 sz 0,.v (.bool true)] else .tup [.v (.pointer none),.v (.pointer none),.v (.bool false)],.many [(K,fam)] none⟩
  | none => none
 | _ => none
def TwoPOK (P:Program) (G:Ctx) (H:Hots) (fn:Func) (sz:Nat) (tp ty:TypeId):Prop:=
 ∀ N get,N ≤ 1000 → ∀ a b:Int,funcOK P H fn 3 = true ∧
  bodyM P G H fn [.own 0 0 N 1,.v (.int .i64 a),.v (.int .i64 b)] [(0,famT 0 N sz tp ty get)] 1 fun x m1 => x = (if 0 ≤ a ∧ a < N ∧ 0 ≤ b ∧ b < N ∧ a ≠ b then AV.tup [.ptr 0 (a.toNat + 1) 0 sz 0,.ptr 0 (b.toNat + 1) 0 sz 0,.v (.bool true)] else .tup [.v (.pointer none),.v (.pointer none),.v (.bool false)]) ∧ look m1 0 = some (famT 0 N sz tp ty get)
theorem MConOK.mc2P (hG:CtxOK P G) (hf:P.funcs[f]? = some fn) {sz:Nat} {tp ty:TypeId} (h:TwoPOK P G H fn sz tp ty):MConOK P f (mc2P sz tp ty):=by
 refine MConOK.of (H:=H) hG hf fun key m es e hc hob => ?_
 unfold Ax.mc2P at hc
 split at hc
 ·rename_i K N a b
  split at hc
  ·rename_i fam hl
   cases hc
   have hok:tabOK K N sz tp ty fam:=hob _ (by simp)
   have hN:N ≤ 1000:=hob _ (by simp)
   obtain ⟨h1,h2⟩:=h N (fun i => (fam (i + 1)).get 0) hN a b
   refine one_okG hl (tabOK_in hok) (fun th σ f => ⟨rowRen_alike (rowRen_T thL_0 (newG_0 (by simp)) hok.2 f) (hok.1 f),by rw [famT_g]; simp⟩) (es0:=[.own 0 0 N 1,.v (.int .i64 a),.v (.int .i64 b)]) ?_ ?_ h1 (fun th σ => ?_) h2
   ·rfl
   ·intro x hx
    simp only [List.mem_cons,List.not_mem_nil,or_false] at hx
    rcases hx with e | e | e <;> rw [e]
    ·exact Nat.zero_lt_one
    ·trivial
    ·trivial
   ·split
    ·refine ⟨?_,?_⟩
     ·show AV.tup [.ptr K _ _ _ _,.ptr K _ _ _ _,_] = .tup [.ptr (thL [K] key th 0 _).1 (thL [K] key th 0 _).2 _ _ _,.ptr (thL [K] key th 0 _).1 (thL [K] key th 0 _).2 _ _ _,_]
      rw [thL_0,thL_0]; rfl
     ·intro c hc
      simp only [List.mem_cons,List.not_mem_nil,or_false] at hc
      rcases hc with e | e | e <;> rw [e]
      ·exact newG_0 (by simp) _
      ·exact newG_0 (by simp) _
      ·trivial
    ·refine ⟨rfl,fun c hc => ?_⟩
     simp only [List.mem_cons,List.not_mem_nil,or_false] at hc
     rcases hc with e | e | e <;> rw [e] <;> trivial
  ·cases hc
 ·cases hc
def mcS (sz:Nat) (ty:TypeId) (F:Nat → (Nat → List AV) → List AV → Option (List Prop × AV × (Nat → List AV))):MCon:=fun key m es => match es with
 | .own r 0 N sz' :: rest => match look m r with
  | some fam => match F N (fam 0).get rest with
   | some (ob,val,get') => some ⟨(sz' = sz) :: (fam = famN N sz ty (fam 0).get none) :: (∀ i,i < N → cleanCs ((fam 0).get i) = true) :: ob,val,.many [(r,famN N sz ty get' none)] none⟩
   | none => none
  | none => none
 | _ => none
def SlOK (P:Program) (G:Ctx) (H:Hots) (fn:Func) (sz:Nat) (ty:TypeId) (F:Nat → (Nat → List AV) → List AV → Option (List Prop × AV × (Nat → List AV))):Prop:=
 ∀ N get rest ob val get',F N get rest = some (ob,val,get') → (∀ p ∈ ob,p) → (∀ i,i < N → cleanCs (get i) = true) → (∀ a ∈ rest,clean 3 a = true) ∧ clean 3 val = true ∧ (∀ i,i < N → cleanCs (get' i) = true) ∧ funcOK P H fn (rest.length + 1) = true ∧
  bodyM P G H fn (.own 0 0 N sz :: rest) [(0,famN N sz ty get none)] 1 fun a m1 => a = val ∧ look m1 0 = some (famN N sz ty get' none)
theorem famCl_N {n sz:Nat} {ty:TypeId} {get:Nat → List AV} (h:∀ i,i < n → cleanCs (get i) = true):famCl (famN n sz ty get none):=fun f => by
 unfold famN
 by_cases e:f = 0
 ·subst e
  exact ⟨rfl,fun j hj c hc => cleanCs_mem (h j (by simpa using hj)) c (by simpa using hc)⟩
 ·simp only [e,if_false]
  exact ⟨trivial,fun j hj => by omega⟩
theorem famCl_1 {sz:Nat} {ty:TypeId} {cs:List AV} (h:cleanCs cs = true):famCl (fam1 ty sz cs none):=fun f => by
 unfold fam1
 by_cases e:f = 0
 ·subst e
  exact ⟨rfl,fun j _ c hc => cleanCs_mem h c (by simpa using hc)⟩
 ·simp only [e,if_false]
  exact ⟨trivial,fun j hj => by omega⟩
theorem MConOK.mcS (hG:CtxOK P G) (hf:P.funcs[f]? = some fn) {sz:Nat} {ty:TypeId} {F:Nat → (Nat → List AV) → List AV → Option (List Prop × AV × (Nat → List AV))} (h:SlOK P G H fn sz ty F):MConOK P f (mcS sz ty F):=by
 refine MConOK.of (H:=H) hG hf fun key m es e hc hob => ?_
 unfold Ax.mcS at hc
 split at hc
 ·rename_i K N sz' rest
  split at hc
  ·rename_i fam hl
   split at hc
   ·rename_i ob val get' hF
    cases hc
    have hs:sz' = sz:=hob _ (by simp)
    have he:fam = famN N sz ty (fam 0).get none:=hob _ (by simp)
    have hcl:∀ i,i < N → cleanCs ((fam 0).get i) = true:=hob _ (by simp)
    subst hs
    obtain ⟨h1,h2,h3,h4,h5⟩:=h _ _ _ _ _ _ hF (fun p hp => hob p (by simp [hp])) hcl
    obtain ⟨a1,a2⟩:=cleans_ren (θ:=thE [K]) (g:=lowG 1) (B:=lowB 1) h1
    have hC:famCl fam:=by rw [he]; exact famCl_N hcl
    rw [← he] at h5
    refine one_okG hl (fun f => ⟨(hC f).1,rowRen_cl hC f⟩) (fun th σ f => ⟨rowRen_cl (famCl_N h3) f,by rw [(famCl_N h3 f).1]; simp⟩) (es0:=.own 0 0 N sz' :: rest) (val0:=val) ?_ ?_ h4 (fun th σ => ?_) h5
    ·rw [List.map_cons,a1]; rfl
    ·intro a ha
     rcases List.mem_cons.1 ha with e | ha
     ·rw [e]; exact Nat.zero_lt_one
     ·exact a2 a ha
    ·obtain ⟨b1,b2⟩:=clean_ren (θ:=thL [K] key th) (g:=newG 1 σ th) (B:=newB 1 σ) 3 val h2
     exact ⟨b1.symm,b2⟩
   ·cases hc
  ·cases hc
 ·cases hc
section
variable {sz sz2 K N C:Nat} {tp ty:TypeId} {m:Mem} {rest:List AV} {get get':Nat → List AV} {ob:List Prop} {val:AV} {fam famC:Fam} {cs cs':List AV}
def mcTf (K N sz:Nat) (tp ty:TypeId) (fam:Fam):Option (List Prop × AV × (Nat → List AV)) → Option Eff
 | some (ob,val,get') => some ⟨tabOK K N sz tp ty fam :: ob,val,.many [(K,famT K N sz tp ty get')] none⟩
 | none => none
def mcTe (sz:Nat) (tp ty:TypeId) (F:Nat → (Nat → List AV) → List AV → Option (List Prop × AV × (Nat → List AV))) (K N:Nat) (rest:List AV):Option Fam → Option Eff
 | some fam => mcTf K N sz tp ty fam (F N (fun i => (fam (i + 1)).get 0) rest)
 | none => none
theorem mcT_eq {F:Nat → (Nat → List AV) → List AV → Option (List Prop × AV × (Nat → List AV))}:Ax.mcT sz tp ty F key m (.own K 0 N 1 :: rest) = mcTe sz tp ty F K N rest (look m K):=by
 show (match look m K with
  | some fam => (match F N (fun i => (fam (i + 1)).get 0) rest with
   | some (ob,val,get') => some (⟨tabOK K N sz tp ty fam :: ob,val,.many [(K,famT K N sz tp ty get')] none⟩:Eff)
   | none => none)
  | none => none) = _
 unfold mcTe
 cases look m K with
 | none => rfl
 | some fam =>
  dsimp only
  unfold mcTf
  cases F N (fun i => (fam (i + 1)).get 0) rest <;> rfl
theorem mcTe_T {F:Nat → (Nat → List AV) → List AV → Option (List Prop × AV × (Nat → List AV))}:mcTe sz tp ty F K N rest (some (famT K N sz tp ty get)) = mcTf K N sz tp ty (famT K N sz tp ty get) (F N get rest):=(rfl)
theorem mcTf_some:mcTf K N sz tp ty fam (some (ob,val,get')) = some ⟨tabOK K N sz tp ty fam :: ob,val,.many [(K,famT K N sz tp ty get')] none⟩:=(rfl)
def mcQf (K N C sz sz2:Nat) (tp ty:TypeId) (fam famC:Fam):Option (List Prop × AV × (Nat → List AV) × List AV) → Option Eff
 | some (ob,val,get',cs') => some ⟨(K ≠ C) :: ((famC 0).n = 1) :: (sz2 = (famC 0).sz) :: (cleanCs ((famC 0).get 0) = true) :: famCl famC :: tabOK K N sz tp ty fam :: ob,val,.many [(K,famT K N sz tp ty get'),(C,wb1 famC cs')] none⟩
 | none => none
def mcQe (sz sz2:Nat) (tp ty:TypeId) (F:Nat → (Nat → List AV) → List AV → List AV → Option (List Prop × AV × (Nat → List AV) × List AV)) (K N C:Nat) (rest:List AV):Option Fam → Option Fam → Option Eff
 | some fam,some famC => mcQf K N C sz sz2 tp ty fam famC (F N (fun i => (fam (i + 1)).get 0) ((famC 0).get 0) rest)
 | _,_ => none
theorem mcTQ_bx {F:Nat → (Nat → List AV) → List AV → List AV → Option (List Prop × AV × (Nat → List AV) × List AV)}:Ax.mcTQ sz sz2 tp ty F key m (.own K 0 N 1 :: .bx C 0 :: rest) = mcQe sz sz2 tp ty F K N C rest (look m K) (look m C):=by
 show (match look m K with
  | some fam => (match look m C with
   | some famC => (match F N (fun i => (fam (i + 1)).get 0) ((famC 0).get 0) rest with
    | some (ob,val,get',cs') => some (⟨(K ≠ C) :: ((famC 0).n = 1) :: (sz2 = (famC 0).sz) :: (cleanCs ((famC 0).get 0) = true) :: famCl famC :: tabOK K N sz tp ty fam :: ob,val,.many [(K,famT K N sz tp ty get'),(C,wb1 famC cs')] none⟩:Eff)
    | none => none)
   | none => none)
  | none => none) = _
 unfold mcQe
 cases look m K with
 | none => rfl
 | some fam =>
  dsimp only
  cases look m C with
  | none => rfl
  | some famC =>
   dsimp only
   unfold mcQf
   cases F N (fun i => (fam (i + 1)).get 0) ((famC 0).get 0) rest <;> rfl
theorem mcQe_T {F:Nat → (Nat → List AV) → List AV → List AV → Option (List Prop × AV × (Nat → List AV) × List AV)}:mcQe sz sz2 tp ty F K N C rest (some (famT K N sz tp ty get)) (some famC) = mcQf K N C sz sz2 tp ty (famT K N sz tp ty get) famC (F N get ((famC 0).get 0) rest):=(rfl)
theorem mcQf_some:mcQf K N C sz sz2 tp ty fam famC (some (ob,val,get',cs')) = some ⟨(K ≠ C) :: ((famC 0).n = 1) :: (sz2 = (famC 0).sz) :: (cleanCs ((famC 0).get 0) = true) :: famCl famC :: tabOK K N sz tp ty fam :: ob,val,.many [(K,famT K N sz tp ty get'),(C,wb1 famC cs')] none⟩:=(rfl)
def mcRf (K N C f i s2 sz sz2:Nat) (tp ty:TypeId) (fam famC:Fam):Option (List Prop × AV × (Nat → List AV) × List AV) → Option Eff
 | some (ob,val,get',cs') => some ⟨(K ≠ C) :: (s2 = sz2) :: (i < (famC f).n) :: (sz2 = (famC f).sz) :: (cleanCs ((famC f).get i) = true) :: famCl famC :: tabOK K N sz tp ty fam :: ob,val,.many [(K,famT K N sz tp ty get'),(C,famE famC f i cs')] none⟩
 | none => none
def mcRe (sz sz2:Nat) (tp ty:TypeId) (F:Nat → (Nat → List AV) → List AV → List AV → Option (List Prop × AV × (Nat → List AV) × List AV)) (K N C f i s2:Nat) (rest:List AV):Option Fam → Option Fam → Option Eff
 | some fam,some famC => mcRf K N C f i s2 sz sz2 tp ty fam famC (F N (fun i => (fam (i + 1)).get 0) ((famC f).get i) rest)
 | _,_ => none
theorem mcTQ_ptr {F:Nat → (Nat → List AV) → List AV → List AV → Option (List Prop × AV × (Nat → List AV) × List AV)} {f i s2:Nat}:Ax.mcTQ sz sz2 tp ty F key m (.own K 0 N 1 :: .ptr C f i s2 0 :: rest) = mcRe sz sz2 tp ty F K N C f i s2 rest (look m K) (look m C):=by
 show (match look m K with
  | some fam => (match look m C with
   | some famC => (match F N (fun i => (fam (i + 1)).get 0) ((famC f).get i) rest with
    | some (ob,val,get',cs') => some (⟨(K ≠ C) :: (s2 = sz2) :: (i < (famC f).n) :: (sz2 = (famC f).sz) :: (cleanCs ((famC f).get i) = true) :: famCl famC :: tabOK K N sz tp ty fam :: ob,val,.many [(K,famT K N sz tp ty get'),(C,famE famC f i cs')] none⟩:Eff)
    | none => none)
   | none => none)
  | none => none) = _
 unfold mcRe
 cases look m K with
 | none => rfl
 | some fam =>
  dsimp only
  cases look m C with
  | none => rfl
  | some famC =>
   dsimp only
   unfold mcRf
   cases F N (fun i => (fam (i + 1)).get 0) ((famC f).get i) rest <;> rfl
theorem mcRe_T {F:Nat → (Nat → List AV) → List AV → List AV → Option (List Prop × AV × (Nat → List AV) × List AV)} {f i s2:Nat}:mcRe sz sz2 tp ty F K N C f i s2 rest (some (famT K N sz tp ty get)) (some famC) = mcRf K N C f i s2 sz sz2 tp ty (famT K N sz tp ty get) famC (F N get ((famC f).get i) rest):=(rfl)
theorem mcRf_some {f i s2:Nat}:mcRf K N C f i s2 sz sz2 tp ty fam famC (some (ob,val,get',cs')) = some ⟨(K ≠ C) :: (s2 = sz2) :: (i < (famC f).n) :: (sz2 = (famC f).sz) :: (cleanCs ((famC f).get i) = true) :: famCl famC :: tabOK K N sz tp ty fam :: ob,val,.many [(K,famT K N sz tp ty get'),(C,famE famC f i cs')] none⟩:=(rfl)
def mcPf (r r' f i s1 f' i' s2 sz:Nat) (fam:Fam):Option (List Prop × AV × List AV × List AV) → Option Eff
 | some (ob,val,cs,cs') => some ⟨(r' = r) :: (f ≠ f') :: (i < (fam f).n) :: (i' < (fam f').n) :: (s1 = sz) :: (s2 = sz) :: (sz = (fam f).sz) :: (sz = (fam f').sz) :: (cleanCs ((fam f).get i) = true) :: (cleanCs ((fam f').get i') = true) :: famOK r fam :: ob,val,.many [(r,famE (famE fam f i cs) f' i' cs')] none⟩
 | none => none
def mcPe (sz:Nat) (F:List AV → List AV → List AV → Option (List Prop × AV × List AV × List AV)) (r r' f i s1 f' i' s2:Nat) (rest:List AV):Option Fam → Option Eff
 | some fam => mcPf r r' f i s1 f' i' s2 sz fam (F ((fam f).get i) ((fam f').get i') rest)
 | none => none
theorem mcPP_eq {F:List AV → List AV → List AV → Option (List Prop × AV × List AV × List AV)} {r r' f i s1 f' i' s2:Nat}:Ax.mcPP sz F key m (.ptr r f i s1 0 :: .ptr r' f' i' s2 0 :: rest) = mcPe sz F r r' f i s1 f' i' s2 rest (look m r):=by
 show (match look m r with
  | some fam => (match F ((fam f).get i) ((fam f').get i') rest with
   | some (ob,val,cs,cs') => some (⟨(r' = r) :: (f ≠ f') :: (i < (fam f).n) :: (i' < (fam f').n) :: (s1 = sz) :: (s2 = sz) :: (sz = (fam f).sz) :: (sz = (fam f').sz) :: (cleanCs ((fam f).get i) = true) :: (cleanCs ((fam f').get i') = true) :: famOK r fam :: ob,val,.many [(r,famE (famE fam f i cs) f' i' cs')] none⟩:Eff)
   | none => none)
  | none => none) = _
 unfold mcPe
 cases look m r with
 | none => rfl
 | some fam =>
  dsimp only
  unfold mcPf
  cases F ((fam f).get i) ((fam f').get i') rest <;> rfl
theorem mcPe_some {F:List AV → List AV → List AV → Option (List Prop × AV × List AV × List AV)} {r r' f i s1 f' i' s2:Nat}:mcPe sz F r r' f i s1 f' i' s2 rest (some fam) = mcPf r r' f i s1 f' i' s2 sz fam (F ((fam f).get i) ((fam f').get i') rest):=(rfl)
theorem mcPf_some {r r' f i s1 f' i' s2:Nat}:mcPf r r' f i s1 f' i' s2 sz fam (some (ob,val,cs,cs')) = some ⟨(r' = r) :: (f ≠ f') :: (i < (fam f).n) :: (i' < (fam f').n) :: (s1 = sz) :: (s2 = sz) :: (sz = (fam f).sz) :: (sz = (fam f').sz) :: (cleanCs ((fam f).get i) = true) :: (cleanCs ((fam f').get i') = true) :: famOK r fam :: ob,val,.many [(r,famE (famE fam f i cs) f' i' cs')] none⟩:=(rfl)
def mcSf (r N s sz:Nat) (ty:TypeId) (fam:Fam):Option (List Prop × AV × (Nat → List AV)) → Option Eff
 | some (ob,val,get') => some ⟨(s = sz) :: (fam = famN N sz ty (fam 0).get none) :: (∀ i,i < N → cleanCs ((fam 0).get i) = true) :: ob,val,.many [(r,famN N sz ty get' none)] none⟩
 | none => none
def mcSe (sz:Nat) (ty:TypeId) (F:Nat → (Nat → List AV) → List AV → Option (List Prop × AV × (Nat → List AV))) (r N s:Nat) (rest:List AV):Option Fam → Option Eff
 | some fam => mcSf r N s sz ty fam (F N (fam 0).get rest)
 | none => none
theorem mcS_eq {F:Nat → (Nat → List AV) → List AV → Option (List Prop × AV × (Nat → List AV))} {r s:Nat}:Ax.mcS sz ty F key m (.own r 0 N s :: rest) = mcSe sz ty F r N s rest (look m r):=by
 show (match look m r with
  | some fam => (match F N (fam 0).get rest with
   | some (ob,val,get') => some (⟨(s = sz) :: (fam = famN N sz ty (fam 0).get none) :: (∀ i,i < N → cleanCs ((fam 0).get i) = true) :: ob,val,.many [(r,famN N sz ty get' none)] none⟩:Eff)
   | none => none)
  | none => none) = _
 unfold mcSe
 cases look m r with
 | none => rfl
 | some fam =>
  dsimp only
  unfold mcSf
  cases F N (fam 0).get rest <;> rfl
theorem mcSe_some {F:Nat → (Nat → List AV) → List AV → Option (List Prop × AV × (Nat → List AV))} {r s:Nat}:mcSe sz ty F r N s rest (some (famN N sz ty get none)) = mcSf r N s sz ty (famN N sz ty get none) (F N get rest):=(rfl)
theorem mcSf_some {r s:Nat}:mcSf r N s sz ty (famN N sz ty get none) (some (ob,val,get')) = some ⟨(s = sz) :: (famN N sz ty get none = famN N sz ty get none) :: (∀ i,i < N → cleanCs (get i) = true) :: ob,val,.many [(r,famN N sz ty get' none)] none⟩:=(rfl)
def mc2e (K N sz:Nat) (tp ty:TypeId) (a b:Int):Option Fam → Option Eff
 | some fam => some ⟨[tabOK K N sz tp ty fam,N ≤ 1000],if 0 ≤ a ∧ a < N ∧ 0 ≤ b ∧ b < N ∧ a ≠ b then .tup [.ptr K (a.toNat + 1) 0 sz 0,.ptr K (b.toNat + 1) 0 sz 0,.v (.bool true)] else .tup [.v (.pointer none),.v (.pointer none),.v (.bool false)],.many [(K,fam)] none⟩
 | none => none
theorem mc2P_eq {a b:Int}:Ax.mc2P sz tp ty key m [.own K 0 N 1,.v (.int .i64 a),.v (.int .i64 b)] = mc2e K N sz tp ty a b (look m K):=by
 show (match look m K with
  | some fam => some (⟨[tabOK K N sz tp ty fam,N ≤ 1000],if 0 ≤ a ∧ a < N ∧ 0 ≤ b ∧ b < N ∧ a ≠ b then .tup [.ptr K (a.toNat + 1) 0 sz 0,.ptr K (b.toNat + 1) 0 sz 0,.v (.bool true)] else .tup [.v (.pointer none),.v (.pointer none),.v (.bool false)],.many [(K,fam)] none⟩:Eff)
  | none => none) = _
 unfold mc2e
 cases look m K <;> rfl
theorem mc2e_some {a b:Int}:mc2e K N sz tp ty a b (some fam) = some ⟨[tabOK K N sz tp ty fam,N ≤ 1000],if 0 ≤ a ∧ a < N ∧ 0 ≤ b ∧ b < N ∧ a ≠ b then .tup [.ptr K (a.toNat + 1) 0 sz 0,.ptr K (b.toNat + 1) 0 sz 0,.v (.bool true)] else .tup [.v (.pointer none),.v (.pointer none),.v (.bool false)],.many [(K,fam)] none⟩:=(rfl)
theorem famCl_1t (h:cleanCs cs = true):famCl (fam1 ty sz cs none) = True:=eq_true (famCl_1 h)
theorem famCl_Nt {n:Nat} (h:∀ i,i < n → cleanCs (get i) = true):famCl (famN n sz ty get none) = True:=eq_true (famCl_N h)
end
attribute [go_sem] mcT_eq mcTe_T mcTf_some mcTQ_bx mcTQ_ptr mcQe_T mcQf_some mcRe_T mcRf_some mcPP_eq mcPe_some mcPf_some mcS_eq mcSe_some mcSf_some mc2P_eq mc2e_some famCl_1t famCl_Nt
end
end Go.Ax
end