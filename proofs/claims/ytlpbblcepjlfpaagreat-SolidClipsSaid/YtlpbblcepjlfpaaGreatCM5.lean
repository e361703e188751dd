/-
  Boxes: what is valid, what meets, what is within, what grows.
-/
import Derived.Test.YtlpbblcepjlfpaaGreatCM4
set_option linter.unusedVariables false
set_option linter.unusedSimpArgs false
section
set_option maxHeartbeats 1000000
set_option maxRecDepth 100000
namespace Go.Ax
open Go.Proofs
theorem okX_iff {x:Int}:okX x = true ↔ -2097152 ≤ x ∧ x ≤ 2097152:=by unfold okX; simp
theorem validS_iff {x y:Int}:validS x y = true ↔ -2097152 ≤ x ∧ x ≤ 2097152 ∧ -2097152 ≤ y ∧ y ≤ 2097152:=by
 unfold validS; rw [Bool.and_eq_true,okX_iff,okX_iff]; omega
theorem fairS_iff {n:Nat} {X Y:Nat → Int}:fairS n X Y = true ↔ ∀ i,i < n → validS (X i) (Y i) = true:=by unfold fairS; simp
theorem bool_of {a b:Bool} (h:a = true ↔ b = true):a = b:=Bool.eq_iff_iff.2 h
theorem false_of {b:Bool} (h:¬ b = true):false = b:=by cases b <;> simp_all
theorem bo_inj {a b:Bool} (h:a = b):bo a = bo b:=by rw [h]
def c50:Con
 | [.ro n 2 g] => some ([spots n g,n ≤ 9223372036854775807],bo (fairS n (gx g 0) (gx g 1)))
 | _ => none
theorem vc50 (n:Nat) (X Y:Nat → Int) (hX:∀ i,i < n → inR (X i) ∧ inR (Y i)) (hn:n ≤ 9223372036854775807):fnVC Tryz.prog [] [] Tryz.f50 [.ro n 2 fun i => [i64 (X i),i64 (Y i)]] (· = bo (fairS n X Y)):=by
 refine fnVC_go (rs:=[.tmp 2]) rfl rfl ?_
 simp only [go_sem]
 refine loopC_go (fun (i:Nat) => i ≤ n ∧ ∀ k < i,validS (X k) (Y k) = true) (fun i => n - i) (fun i => [(7,i64 i)]) (fun _ => []) [] [8,9,10,4,11,12,13,14,15,16,17,18,19,20,21,22,23,24,25,26,27,28,29,30,31,32,2,33,7] 0 (by kernel_rfl) ?_ ?_ ?_ ?_
 ·intro x _; simp [goodNames]
 ·simp
 ·simp only [go_sem]
 ·intro i hi
  simp only [go_sem]
  obtain ⟨hi1,hi2⟩:=hi
  refine ⟨fun h => ?_,fun h => (fairS_iff.2 fun k hk => hi2 k (by omega)).symm⟩
  have h1:i < n:=by omega
  have hr:=hX i h1
  unfold inR at hr
  refine ⟨by omega,h,fun z hz z1 hz1 z2 hz2 => ?_⟩
  rw [wrap_i64] at hz hz1
  have hv:=validS_iff (x:=X i) (y:=Y i)
  refine ⟨fun hb => false_of fun hf => ?_,fun hg z hz => ⟨i + 1,⟨by omega,fun k hk => ?_⟩,by omega,?_⟩⟩
  ·have:=hv.1 (fairS_iff.1 hf i h1)
   omega
  ·by_cases e:k = i
   ·subst e; exact hv.2 (by omega)
   ·exact hi2 k (by omega)
  ·rw [wrap_i64] at hz; omega
theorem con50:ConOK Tryz.prog 50 c50:=ConOK.go (G:=[]) (H:=[]) .nil Tryz.func50 fun l ob r hc hob => by
 unfold c50 at hc
 split at hc
 ·rename_i n g
  cases hc
  have hs:spots n g:=hob _ (by simp)
  refine ⟨[.ro n 2 fun i => [i64 (gx g 0 i),i64 (gx g 1 i)]],fun w I vs h => Rs_one (fun v => ro_alike fun i hi => (hs i hi).1) h,by kernel_rfl,vc50 n _ _ (fun i hi => (hs i hi).2) (hob _ (by simp))⟩
 ·cases hc
def c129:Con
 | [.agg [.v (.int .i64 x),.v (.int .i64 y)]] => some ([],bo (validS x y))
 | _ => none
theorem con129:ConOK Tryz.prog 129 c129:=ConOK.of (G:=[]) (H:=[]) .nil Tryz.func129 fun l ob r hc hob => by
 unfold c129 at hc
 split at hc
 ·rename_i x y
  cases hc
  refine ⟨by kernel_rfl,fnVC_go (rs:=[.tmp 2]) rfl rfl ?_⟩
  simp only [go_sem]
  unfold validS okX
  rw [Bool.eq_iff_iff]
  simp
  omega
 ·cases hc
def checkBoxS (a b c d:Int):Int:=if validS a b = true ∧ validS c d = true then (if c < a ∨ d < b then 5 else 0) else 3
def c15:Con
 | [.agg [.v (.int .i64 a),.v (.int .i64 b),.v (.int .i64 c),.v (.int .i64 d)]] => some ([inR a,inR b,inR c,inR d],i64 (checkBoxS a b c d))
 | _ => none
theorem fair2 {a b c d:Int} {g:Nat → List AV} (h0:g 0 = [i64 a,i64 b]) (h1:g 1 = [i64 c,i64 d]):fairS 2 (gx g 0) (gx g 1) = (validS a b && validS c d):=by
 rw [Bool.eq_iff_iff,fairS_iff,Bool.and_eq_true]
 constructor
 ·intro h
  have k0:=h 0 (by omega)
  have k1:=h 1 (by omega)
  simp only [gx,h0,h1,gi_0,gi_1] at k0 k1
  exact ⟨k0,k1⟩
 ·intro h i hi
  have:i = 0 ∨ i = 1:=by omega
  rcases this with rfl | rfl
  ·simp only [gx,h0,gi_0,gi_1]; exact h.1
  ·simp only [gx,h1,gi_0,gi_1]; exact h.2
theorem spots2 {a b c d:Int} {g:Nat → List AV} (h0:g 0 = [i64 a,i64 b]) (h1:g 1 = [i64 c,i64 d]) (ha:inR a) (hb:inR b) (hc:inR c) (hd:inR d):spots 2 g:=by
 intro i hi
 have:i = 0 ∨ i = 1:=by omega
 rcases this with rfl | rfl
 ·simp only [gx,h0,gi_0,gi_1]; exact ⟨trivial,ha,hb⟩
 ·simp only [gx,h1,gi_0,gi_1]; exact ⟨trivial,hc,hd⟩
theorem con15:ConOK Tryz.prog 15 c15:=ConOK.of (G:=[(50,c50)]) (H:=[(1,⟨[(12,.made 10),(13,.made 11)],[(6,[.made 10]),(8,[.made 10])]⟩)]) (.cons con50 .nil) Tryz.func15 fun l ob r hc hob => by
 unfold c15 at hc
 split at hc
 ·rename_i a b c d
  cases hc
  refine ⟨by kernel_rfl,fnVC_go (rs:=[.tmp 2]) rfl rfl ?_⟩
  simp only [go_sem,c50]
  have ha:inR a:=hob _ (by simp)
  have hb:inR b:=hob _ (by simp)
  have hc:inR c:=hob _ (by simp)
  have hd:inR d:=hob _ (by simp)
  intro z hz
  refine ⟨spots2 (a:=a) (b:=b) (c:=c) (d:=d) rfl rfl ha hb hc hd,?_⟩
  rw [fair2 (a:=a) (b:=b) (c:=c) (d:=d) rfl rfl] at hz
  subst hz
  simp only [checkBoxS,Bool.and_eq_true,Bool.and_eq_false_iff]
  refine ⟨fun h => ?_,fun h => ⟨fun h2 => ?_,fun h2 => ?_⟩⟩
  ·rw [if_neg (by rintro ⟨h1,h2⟩; rcases h with h | h <;> simp_all)]
  ·rw [if_pos h,if_pos h2]
  ·rw [if_pos h,if_neg (by omega)]
 ·cases hc
def c130:Con
 | [.agg [.v (.int .i64 a),.v (.int .i64 b),.v (.int .i64 c),.v (.int .i64 d)]] => some ([],i64 (checkBoxS a b c d))
 | _ => none
theorem con130:ConOK Tryz.prog 130 c130:=ConOK.of (G:=[(129,c129)]) (H:=[]) (.cons con129 .nil) Tryz.func130 fun l ob r hc hob => by
 unfold c130 at hc
 split at hc
 ·rename_i a b c d
  cases hc
  refine ⟨by kernel_rfl,fnVC_go (rs:=[.tmp 2]) rfl rfl ?_⟩
  simp only [go_sem,c129]
  intro z hz z1 hz1
  subst hz hz1
  unfold checkBoxS
  refine ⟨fun h => ?_,fun h => ⟨fun h2 => ?_,fun h2 => ?_⟩⟩
  ·rw [if_neg (by rintro ⟨h1,h2⟩; rcases h with h | h <;> simp_all)]
  ·rw [if_pos h,if_pos h2]
  ·rw [if_pos h,if_neg (by omega)]
 ·cases hc
theorem checkBoxS_iff {a b c d:Int}:checkBoxS a b c d = 0 ↔ -2097152 ≤ a ∧ a ≤ c ∧ c ≤ 2097152 ∧ -2097152 ≤ b ∧ b ≤ d ∧ d ≤ 2097152:=by
 simp only [checkBoxS,validS_iff]
 split
 ·split <;> omega
 ·omega
def meetsS (a b c d x y z t:Int):Bool:=decide (checkBoxS a b c d = 0 ∧ checkBoxS x y z t = 0 ∧ a ≤ z ∧ x ≤ c ∧ b ≤ t ∧ y ≤ d)
def c54:Con
 | [.agg [.v (.int .i64 a),.v (.int .i64 b),.v (.int .i64 c),.v (.int .i64 d)],.agg [.v (.int .i64 x),.v (.int .i64 y),.v (.int .i64 z),.v (.int .i64 t)]] => some ([inR a,inR b,inR c,inR d,inR x,inR y,inR z,inR t],bo (meetsS a b c d x y z t))
 | _ => none
theorem con54:ConOK Tryz.prog 54 c54:=ConOK.of (G:=[(15,c15)]) (H:=[]) (.cons con15 .nil) Tryz.func54 fun l ob r hc hob => by
 unfold c54 at hc
 split at hc
 ·rename_i a b c d x y z t
  cases hc
  refine ⟨by kernel_rfl,fnVC_go (rs:=[.tmp 4]) rfl rfl ?_⟩
  simp only [go_sem,c15]
  have ha:inR a:=hob _ (by simp)
  have hb:inR b:=hob _ (by simp)
  have hc:inR c:=hob _ (by simp)
  have hd:inR d:=hob _ (by simp)
  have hx:inR x:=hob _ (by simp)
  have hy:inR y:=hob _ (by simp)
  have hz:inR z:=hob _ (by simp)
  have ht:inR t:=hob _ (by simp)
  intro z1 h1
  refine ⟨ha,hb,hc,hd,fun z2 h2 => ⟨fun _ => hx,fun _ => hy,fun _ => hz,fun _ => ht,fun h => ?_,fun h z3 h3 z4 h4 z5 h5 z6 h6 => ?_⟩⟩
  ·refine false_of fun hf => ?_
   simp only [meetsS,decide_eq_true_eq] at hf
   rw [← h1,← h2] at hf
   simp only [bne_iff_ne] at h
   omega
  ·rw [Bool.eq_iff_iff]
   simp only [meetsS,Bool.and_eq_true,decide_eq_true_eq,bne_eq_false_iff_eq] at h ⊢
   have k1:=checkBoxS_iff.1 (h1.symm.trans h.1)
   have k2:=checkBoxS_iff.1 (h2.symm.trans h.2)
   rw [← h1,← h2]
   omega
 ·cases hc
def cz98:Con
 | [.agg [.v (.int .i64 a),.v (.int .i64 b),.v (.int .i64 c),.v (.int .i64 d)],.agg [.v (.int .i64 x),.v (.int .i64 y),.v (.int .i64 z),.v (.int .i64 t)]] => some ([],bo (meetsS a b c d x y z t))
 | _ => none
def c51:Con
 | [.agg [.v (.int .i64 x),.v (.int .i64 y)],.v (.int .i64 r)] => some ([],.agg [i64 (IntKind.i64.wrap (x - r)),i64 (IntKind.i64.wrap (y - r)),i64 (IntKind.i64.wrap (x + r)),i64 (IntKind.i64.wrap (y + r))])
 | _ => none
theorem con51:ConOK Tryz.prog 51 c51:=ConOK.of (G:=[]) (H:=[]) .nil Tryz.func51 fun l ob r hc hob => by
 unfold c51 at hc
 split at hc
 ·cases hc
  refine ⟨by kernel_rfl,fnVC_go (rs:=[.cell 4 47]) rfl rfl ?_⟩
  simp only [go_sem]
  intro z h z1 h1 z2 h2 z3 h3
  subst h h1 h2 h3
  rfl
 ·cases hc
def withinS (a b c d x y:Int):Bool:=decide (checkBoxS a b c d = 0 ∧ a ≤ x ∧ x ≤ c ∧ b ≤ y ∧ y ≤ d)
def c13:Con
 | [.agg [.v (.int .i64 a),.v (.int .i64 b),.v (.int .i64 c),.v (.int .i64 d)],.agg [.v (.int .i64 x),.v (.int .i64 y)]] => some ([inR a,inR b,inR c,inR d,inR x,inR y],bo (withinS a b c d x y))
 | _ => none
theorem con13:ConOK Tryz.prog 13 c13:=ConOK.of (G:=[(54,c54),(51,c51)]) (H:=[]) (.cons con54 (.cons con51 .nil)) Tryz.func13 fun l ob r hc hob => by
 unfold c13 at hc
 split at hc
 ·rename_i a b c d x y
  cases hc
  refine ⟨by kernel_rfl,fnVC_go (rs:=[.tmp 4]) rfl rfl ?_⟩
  simp only [go_sem,c54,c51]
  have ha:inR a:=hob _ (by simp)
  have hb:inR b:=hob _ (by simp)
  have hc:inR c:=hob _ (by simp)
  have hd:inR d:=hob _ (by simp)
  have hx:inR x:=hob _ (by simp)
  have hy:inR y:=hob _ (by simp)
  intro z h z1 h1 z2 h2 z3 h3 z4 h4
  rw [Int.sub_zero,wrap_in hx] at h
  rw [Int.sub_zero,wrap_in hy] at h1
  rw [Int.add_zero,wrap_in hx] at h2
  rw [Int.add_zero,wrap_in hy] at h3
  subst h h1 h2 h3
  refine ⟨ha,hb,hc,hd,hx,hy,hx,hy,?_⟩
  rw [h4,Bool.eq_iff_iff]
  simp only [meetsS,withinS,decide_eq_true_eq,checkBoxS_iff]
  omega
 ·cases hc
def growN (n:Int):Int:=max 0 (min n 4194304)
def growS (a b c d n:Int) (k:Nat):Int:=if checkBoxS a b c d = 0 then (match k with
 | 0 => max (a - growN n) (-2097152)
 | 1 => max (b - growN n) (-2097152)
 | 2 => min (c + growN n) 2097152
 | _ => min (d + growN n) 2097152) else (match k with
 | 0 => a
 | 1 => b
 | 2 => c
 | _ => d)
def c28:Con
 | [.agg [.v (.int .i64 a),.v (.int .i64 b),.v (.int .i64 c),.v (.int .i64 d)],.v (.int .i64 n)] => some ([inR a,inR b,inR c,inR d],.agg [i64 (growS a b c d n 0),i64 (growS a b c d n 1),i64 (growS a b c d n 2),i64 (growS a b c d n 3)])
 | _ => none
theorem agg4 {a b c d x y z t:Int} (h1:a = x) (h2:b = y) (h3:c = z) (h4:d = t):AV.agg [i64 a,i64 b,i64 c,i64 d] = .agg [i64 x,i64 y,i64 z,i64 t]:=by rw [h1,h2,h3,h4]
theorem con28:ConOK Tryz.prog 28 c28:=ConOK.of (G:=[(15,c15)]) (H:=[]) (.cons con15 .nil) Tryz.func28 fun l ob r hc hob => by
 unfold c28 at hc
 split at hc
 ·rename_i a b c d n
  cases hc
  refine ⟨by kernel_rfl,fnVC_go (rs:=[.cell 4 47]) rfl rfl ?_⟩
  simp only [go_sem,c15]
  have ha:inR a:=hob _ (by simp)
  have hb:inR b:=hob _ (by simp)
  have hc:inR c:=hob _ (by simp)
  have hd:inR d:=hob _ (by simp)
  intro z1 h1
  refine ⟨ha,hb,hc,hd,fun h => ?_,fun h z hz z2 h2 z3 h3 z4 h4 z5 h5 z6 h6 z7 h7 z8 h8 z9 h9 z10 h10 => ?_⟩
  ·have h0:¬ checkBoxS a b c d = 0:=by rw [← h1]; simpa using h
   simp only [growS,if_neg h0]
  ·have h0:checkBoxS a b c d = 0:=by rw [← h1]; simpa using h
   have hv:=checkBoxS_iff.1 h0
   have hz2:0 ≤ z2 ∧ z2 ≤ 4194304:=by omega
   rw [wrap_in (by unfold inR; omega)] at h3 h5 h7 h9
   simp only [growS,if_pos h0,growN]
   rw [hz] at h2
   subst h2 h3 h5 h7 h9
   rw [h4,h6,h8,h10]
 ·cases hc
end Go.Ax
end
section
/-
  The box of several boxes.
-/
set_option maxHeartbeats 1000000
set_option maxRecDepth 100000
namespace Go.Ax
open Go.Proofs
def boxes (n:Nat) (g:Nat → List AV):Prop:=∀ i,i < n → g i = [i64 (gx g 0 i),i64 (gx g 1 i),i64 (gx g 2 i),i64 (gx g 3 i)] ∧ inR (gx g 0 i) ∧ inR (gx g 1 i) ∧ inR (gx g 2 i) ∧ inR (gx g 3 i)
def mnS (A:Nat → Int):Nat → Int
 | 0 => 0
 | i + 1 => if i = 0 then A 0 else min (mnS A i) (A i)
def mxS (A:Nat → Int):Nat → Int
 | 0 => 0
 | i + 1 => if i = 0 then A 0 else max (mxS A i) (A i)
def okB (n:Nat) (A B C D:Nat → Int):Prop:=∀ i,i < n → checkBoxS (A i) (B i) (C i) (D i) = 0
instance {n:Nat} {A B C D:Nat → Int}:Decidable (okB n A B C D):=by unfold okB; exact inferInstance
def joinS (n:Nat) (A B C D:Nat → Int) (k:Nat):Int:=if okB n A B C D then (match k with
 | 0 => mnS A n
 | 1 => mnS B n
 | 2 => mxS C n
 | _ => mxS D n) else 0
def c29:Con
 | [.ro n 4 g] => some ([boxes n g,n ≤ 9223372036854775807],.agg [i64 (joinS n (gx g 0) (gx g 1) (gx g 2) (gx g 3) 0),i64 (joinS n (gx g 0) (gx g 1) (gx g 2) (gx g 3) 1),i64 (joinS n (gx g 0) (gx g 1) (gx g 2) (gx g 3) 2),i64 (joinS n (gx g 0) (gx g 1) (gx g 2) (gx g 3) 3)])
 | _ => none
theorem joinS_ok {n:Nat} {A B C D:Nat → Int} (h:okB n A B C D):joinS n A B C D 0 = mnS A n ∧ joinS n A B C D 1 = mnS B n ∧ joinS n A B C D 2 = mxS C n ∧ joinS n A B C D 3 = mxS D n:=by
 unfold joinS; rw [if_pos h,if_pos h,if_pos h,if_pos h]; exact ⟨rfl,rfl,rfl,rfl⟩
theorem joinS_no {n:Nat} {A B C D:Nat → Int} (h:¬ okB n A B C D) {k:Nat}:joinS n A B C D k = 0:=by
 simp only [joinS,if_neg h]
theorem okB_succ {i:Nat} {A B C D:Nat → Int} (h:okB i A B C D) (h0:checkBoxS (A i) (B i) (C i) (D i) = 0):okB (i + 1) A B C D:=fun k hk => by
 by_cases e:k = i
 ·subst e; exact h0
 ·exact h k (by omega)
theorem vc29 (n:Nat) (A B C D:Nat → Int) (hX:∀ i,i < n → inR (A i) ∧ inR (B i) ∧ inR (C i) ∧ inR (D i)) (hn:n ≤ 9223372036854775807):fnVC Tryz.prog [(15,c15)] [(9,⟨[(11,.slot 3),(13,.slot 3)],[(8,[.slot 3])]⟩),(10,⟨[(11,.slot 3),(13,.slot 3)],[(8,[.slot 3])]⟩)] Tryz.f29 [.ro n 4 fun i => [i64 (A i),i64 (B i),i64 (C i),i64 (D i)]] (· = .agg [i64 (joinS n A B C D 0),i64 (joinS n A B C D 1),i64 (joinS n A B C D 2),i64 (joinS n A B C D 3)]):=by
 refine fnVC_go (rs:=[.cell 2 47]) rfl rfl ?_
 simp only [go_sem]
 refine loopC_go (fun (i:Nat) => i ≤ n ∧ okB i A B C D) (fun i => n - i) (fun i => [(8,i64 i)]) (fun i => [(1,fam1 47 4 [i64 (mnS A i),i64 (mnS B i),i64 (mxS C i),i64 (mxS D i)] none)]) [0] [9,10,11,12,5,4,13,14,15,16,17,18,19,20,21,22,23,24,25,26,27,28,29,30,31,32,33,34,35,36,37,38,39,40,41,42,43,44,8] 0 (by kernel_rfl) ?_ ?_ ?_ ?_
 ·intro x _; simp [goodNames,asg]
 ·simp [okB]
 ·simp only [go_sem]; simp [mnS,mxS]
 ·intro i hi
  simp only [go_sem,c15]
  obtain ⟨hi1,hi2⟩:=hi
  refine ⟨fun h => ?_,fun h => ?_⟩
  ·have h1:i < n:=by omega
   obtain ⟨r1,r2,r3,r4⟩:=hX i h1
   refine ⟨by omega,h,fun z hz => ⟨r1,r2,r3,r4,fun hb => ?_,fun hb => ?_⟩⟩
   ·have hno:¬ okB n A B C D:=fun hf => by
     have:=hf i h1
     rw [← hz] at this
     simp [this] at hb
    simp only [joinS_no hno]
   ·have hz0:checkBoxS (A i) (B i) (C i) (D i) = 0:=by rw [← hz]; simpa using hb
    have hok:=okB_succ hi2 hz0
    refine ⟨fun h0 z hz' z1 k1 z2 k2 z3 k3 z4 k4 => ⟨i + 1,⟨by omega,hok⟩,by omega,by rw [wrap_i64] at k4; omega,?_⟩,fun h0 z hz' z1 k1 z2 k2 z3 k3 z4 k4 => ⟨i + 1,⟨by omega,hok⟩,by omega,by rw [wrap_i64] at k4; omega,?_⟩⟩
    ·have e:i = 0:=by simpa using h0
     subst e
     simp only [mnS,mxS,if_true]
     omega
    ·have e:¬ i = 0:=by simpa using h0
     simp only [mnS,mxS,if_neg e]
     exact ⟨hz',k1,k2,k3⟩
  ·have e:i = n:=by omega
   subst e
   obtain ⟨j1,j2,j3,j4⟩:=joinS_ok hi2
   rw [j1,j2,j3,j4]
theorem con29:ConOK Tryz.prog 29 c29:=ConOK.go (G:=[(15,c15)]) (H:=[(9,⟨[(11,.slot 3),(13,.slot 3)],[(8,[.slot 3])]⟩),(10,⟨[(11,.slot 3),(13,.slot 3)],[(8,[.slot 3])]⟩)]) (.cons con15 .nil) Tryz.func29 fun l ob r hc hob => by
 unfold c29 at hc
 split at hc
 ·rename_i n g
  cases hc
  have hs:boxes n g:=hob _ (by simp)
  exact ⟨[.ro n 4 fun i => [i64 (gx g 0 i),i64 (gx g 1 i),i64 (gx g 2 i),i64 (gx g 3 i)]],fun w I vs h => Rs_one (fun v => ro_alike fun i hi => (hs i hi).1) h,by kernel_rfl,vc29 n _ _ _ _ (fun i hi => (hs i hi).2) (hob _ (by simp))⟩
 ·cases hc
def cz99:Con:=c29
def cz32:Con
 | [.v (.int .i64 x),.v (.int .i64 y),.v (.int .i64 s)] => some ([0 ≤ s,s ≤ 4611686018427387904],.agg [i64 (x.tmod (s + 1)),i64 (y.tmod (s + 1))])
 | _ => none
def modS (n m:Int):Int:=if n.tmod m < 0 then n.tmod m + m else n.tmod m
def c40:Con
 | [.v (.int .i64 n),.v (.int .i64 m)] => some ([0 < m,inR n,inR m],i64 (modS n m))
 | _ => none
theorem con40:ConOK Tryz.prog 40 c40:=ConOK.of (G:=[]) (H:=[]) .nil Tryz.func40 fun l ob r hc hob => by
 unfold c40 at hc
 split at hc
 ·rename_i n m
  cases hc
  refine ⟨by kernel_rfl,fnVC_go (rs:=[.tmp 4]) rfl rfl ?_⟩
  have h0:0 < m:=hob _ (by simp)
  have h1:inR n:=hob _ (by simp)
  have h2:inR m:=hob _ (by simp)
  simp only [go_sem]
  refine ⟨by omega,fun z hz => ⟨fun hn z1 k1 => ?_,fun hn => ?_⟩⟩
  ·have hb:-m < z:=by rw [hz]; have:=Int.lt_tmod_of_pos n h0; omega
   unfold inR at h2
   rw [wrap_in (by unfold inR; omega)] at k1
   unfold modS
   rw [← hz,if_pos hn,k1]
  ·unfold modS
   rw [← hz,if_neg hn]
 ·cases hc
theorem mul_bd {x y A B:Int} (hA:0 ≤ A) (hx:-A ≤ x ∧ x ≤ A) (hy:-B ≤ y ∧ y ≤ B):-(A * B) ≤ x * y ∧ x * y ≤ A * B:=by
 have h1:(x * y).natAbs = x.natAbs * y.natAbs:=Int.natAbs_mul x y
 have h2:x.natAbs * y.natAbs ≤ A.natAbs * B.natAbs:=Nat.mul_le_mul (by omega) (by omega)
 have h3:(A * B).natAbs = A.natAbs * B.natAbs:=Int.natAbs_mul A B
 have h4:0 ≤ A * B:=Int.mul_nonneg hA (by omega)
 omega
def sm (x:Int):Prop:=-4194304 ≤ x ∧ x ≤ 4194304
theorem sm_mul {x y:Int} (hx:sm x) (hy:sm y):-17592186044416 ≤ x * y ∧ x * y ≤ 17592186044416:=by
 have:=mul_bd (A:=4194304) (B:=4194304) (by omega) hx hy
 omega
def c104:Con
 | [.agg [.v (.int .i64 a),.v (.int .i64 b)],.agg [.v (.int .i64 c),.v (.int .i64 d)]] => some ([],.agg [i64 (IntKind.i64.wrap (c - a)),i64 (IntKind.i64.wrap (d - b))])
 | _ => none
theorem con104:ConOK Tryz.prog 104 c104:=ConOK.of (G:=[]) (H:=[]) .nil Tryz.func104 fun l ob r hc hob => by
 unfold c104 at hc
 split at hc
 ·cases hc
  refine ⟨by kernel_rfl,fnVC_go (rs:=[.cell 4 29]) rfl rfl ?_⟩
  simp only [go_sem]
  intro z h z1 h1
  subst h h1
  rfl
 ·cases hc
def c133:Con
 | [.agg [.v (.int .i64 a),.v (.int .i64 b)],.agg [.v (.int .i64 c),.v (.int .i64 d)]] => some ([],.agg [i64 (IntKind.i64.wrap (a - c)),i64 (IntKind.i64.wrap (b - d))])
 | _ => none
theorem con133:ConOK Tryz.prog 133 c133:=ConOK.of (G:=[]) (H:=[]) .nil Tryz.func133 fun l ob r hc hob => by
 unfold c133 at hc
 split at hc
 ·cases hc
  refine ⟨by kernel_rfl,fnVC_go (rs:=[.cell 4 29]) rfl rfl ?_⟩
  simp only [go_sem]
  intro z h z1 h1
  subst h h1
  rfl
 ·cases hc
def c162:Con
 | [.agg [.v (.int .i64 a),.v (.int .i64 b)],.agg [.v (.int .i64 c),.v (.int .i64 d)]] => some ([],i64 (IntKind.i64.wrap (IntKind.i64.wrap (a * d) - IntKind.i64.wrap (b * c))))
 | _ => none
theorem con162:ConOK Tryz.prog 162 c162:=ConOK.of (G:=[]) (H:=[]) .nil Tryz.func162 fun l ob r hc hob => by
 unfold c162 at hc
 split at hc
 ·cases hc
  refine ⟨by kernel_rfl,fnVC_go (rs:=[.tmp 4]) rfl rfl ?_⟩
  simp only [go_sem]
  intro z h z1 h1 z2 h2
  rw [h2,h1,h]
 ·cases hc
theorem con192:ConOK Tryz.prog 192 c162:=ConOK.of (G:=[]) (H:=[]) .nil Tryz.func192 fun l ob r hc hob => by
 unfold c162 at hc
 split at hc
 ·cases hc
  refine ⟨by kernel_rfl,fnVC_go (rs:=[.tmp 4]) rfl rfl ?_⟩
  simp only [go_sem]
  intro z h z1 h1 z2 h2
  rw [h2,h1,h]
 ·cases hc
def turnS (ax ay bx byy cx cy:Int):Int:=(bx - ax) * (cy - ay) - (byy - ay) * (cx - ax)
theorem turn_wrap {ax ay bx byy cx cy:Int} (ha:validS ax ay = true) (hb:validS bx byy = true) (hc:validS cx cy = true) :
  IntKind.i64.wrap (IntKind.i64.wrap (IntKind.i64.wrap (bx - ax) * IntKind.i64.wrap (cy - ay)) - IntKind.i64.wrap (IntKind.i64.wrap (byy - ay) * IntKind.i64.wrap (cx - ax))) = turnS ax ay bx byy cx cy:=by
 rw [validS_iff] at ha hb hc
 rw [wrap_in (x:=bx - ax) (by unfold inR; omega),wrap_in (x:=cy - ay) (by unfold inR; omega),wrap_in (x:=byy - ay) (by unfold inR; omega),wrap_in (x:=cx - ax) (by unfold inR; omega)]
 have h1:=sm_mul (x:=bx - ax) (y:=cy - ay) (by unfold sm; omega) (by unfold sm; omega)
 have h2:=sm_mul (x:=byy - ay) (y:=cx - ax) (by unfold sm; omega) (by unfold sm; omega)
 rw [wrap_in (x:=(bx - ax) * (cy - ay)) (by unfold inR; omega),wrap_in (x:=(byy - ay) * (cx - ax)) (by unfold inR; omega),wrap_in (by unfold inR; omega)]
 rfl
def c86:Con
 | [.agg [.v (.int .i64 a),.v (.int .i64 b)],.agg [.v (.int .i64 c),.v (.int .i64 d)],.agg [.v (.int .i64 e),.v (.int .i64 f)]] => some ([validS a b = true,validS c d = true,validS e f = true],i64 (turnS a b c d e f))
 | _ => none
theorem con86:ConOK Tryz.prog 86 c86:=ConOK.of (G:=[(162,c162),(104,c104)]) (H:=[]) (.cons con162 (.cons con104 .nil)) Tryz.func86 fun l ob r hc hob => by
 unfold c86 at hc
 split at hc
 ·rename_i a b c d e f
  cases hc
  have h1:validS a b = true:=hob _ (by simp)
  have h2:validS c d = true:=hob _ (by simp)
  have h3:validS e f = true:=hob _ (by simp)
  refine ⟨by kernel_rfl,fnVC_go (rs:=[.tmp 6]) rfl rfl ?_⟩
  simp only [go_sem,c162,c104]
  intro z k z1 k1 z2 k2 z3 k3 z4 k4
  subst k k1 k2 k3
  rw [k4,turn_wrap h1 h2 h3]
 ·cases hc
def sideS (a b c d e f:Int):Int:=if validS a b = true ∧ validS c d = true ∧ validS e f = true then (if 0 < turnS a b c d e f then 1 else if turnS a b c d e f < 0 then -1 else 0) else 0
def c55:Con
 | [.agg [.v (.int .i64 a),.v (.int .i64 b)],.agg [.v (.int .i64 c),.v (.int .i64 d)],.agg [.v (.int .i64 e),.v (.int .i64 f)]] => some ([inR a,inR b,inR c,inR d,inR e,inR f],i64 (sideS a b c d e f))
 | _ => none
theorem fair3 {a b c d e f:Int} {g:Nat → List AV} (h0:g 0 = [i64 a,i64 b]) (h1:g 1 = [i64 c,i64 d]) (h2:g 2 = [i64 e,i64 f]):fairS 3 (gx g 0) (gx g 1) = true ↔ (validS a b = true ∧ validS c d = true ∧ validS e f = true):=by
 rw [fairS_iff]
 constructor
 ·intro h
  have k0:=h 0 (by omega)
  have k1:=h 1 (by omega)
  have k2:=h 2 (by omega)
  simp only [gx,h0,h1,h2,gi_0,gi_1] at k0 k1 k2
  exact ⟨k0,k1,k2⟩
 ·intro h i hi
  have:i = 0 ∨ i = 1 ∨ i = 2:=by omega
  rcases this with rfl | rfl | rfl
  ·simp only [gx,h0,gi_0,gi_1]; exact h.1
  ·simp only [gx,h1,gi_0,gi_1]; exact h.2.1
  ·simp only [gx,h2,gi_0,gi_1]; exact h.2.2
theorem spots3 {a b c d e f:Int} {g:Nat → List AV} (h0:g 0 = [i64 a,i64 b]) (h1:g 1 = [i64 c,i64 d]) (h2:g 2 = [i64 e,i64 f]) (ha:inR a) (hb:inR b) (hc:inR c) (hd:inR d) (he:inR e) (hf:inR f):spots 3 g:=by
 intro i hi
 have:i = 0 ∨ i = 1 ∨ i = 2:=by omega
 rcases this with rfl | rfl | rfl
 ·simp only [gx,h0,gi_0,gi_1]; exact ⟨trivial,ha,hb⟩
 ·simp only [gx,h1,gi_0,gi_1]; exact ⟨trivial,hc,hd⟩
 ·simp only [gx,h2,gi_0,gi_1]; exact ⟨trivial,he,hf⟩
theorem con55:ConOK Tryz.prog 55 c55:=ConOK.of (G:=[(50,c50),(86,c86)]) (H:=[]) (.cons con50 (.cons con86 .nil)) Tryz.func55 fun l ob r hc hob => by
 unfold c55 at hc
 split at hc
 ·rename_i a b c d e f
  cases hc
  have ha:inR a:=hob _ (by simp)
  have hb:inR b:=hob _ (by simp)
  have hc:inR c:=hob _ (by simp)
  have hd:inR d:=hob _ (by simp)
  have he:inR e:=hob _ (by simp)
  have hf:inR f:=hob _ (by simp)
  refine ⟨by kernel_rfl,fnVC_go (rs:=[.tmp 6]) rfl rfl ?_⟩
  simp only [go_sem,c50,c86]
  intro z hz
  have hfair:=(Bool.eq_iff_iff.1 hz).trans (fair3 (a:=a) (b:=b) (c:=c) (d:=d) (e:=e) (f:=f) rfl rfl rfl)
  refine ⟨spots3 (a:=a) (b:=b) (c:=c) (d:=d) (e:=e) (f:=f) rfl rfl rfl ha hb hc hd he hf,?_⟩
  clear hz
  refine ⟨fun h t ht => ?_,fun h => ⟨fun x => x.elim,fun _ => ⟨fun x => x.elim,fun _ => ?_⟩⟩⟩
  ·have hv:=hfair.1 h
   refine ⟨hv.1,hv.2.1,hv.2.2,fun k => ?_,fun k => ⟨fun k2 => ?_,fun k2 => ?_⟩⟩
   ·unfold sideS; rw [if_pos hv,← ht,if_pos k]
   ·unfold sideS; rw [if_pos hv,← ht,if_neg k,if_pos k2]
   ·unfold sideS; rw [if_pos hv,← ht,if_neg k,if_neg k2]
  ·unfold sideS
   rw [if_neg (fun hv => by rw [hfair.2 hv] at h; cases h)]
 ·cases hc
end Go.Ax
end
section
/-
  Vectors.
-/
set_option maxHeartbeats 4000000
set_option maxRecDepth 100000
namespace Go.Ax
open Go.Proofs
theorem lay243:layT Tryz.prog 243 = some (true,2):=by kernel_rfl
theorem siz243:sizeT Tryz.prog 243 = 2:=by kernel_rfl
theorem inf243:(Tryz.prog.info? 243).isSome = true:=by kernel_rfl
theorem zer243:zeroT Tryz.prog 243 = some (.agg #[.int .i64 0,.int .i64 0]):=by kernel_rfl
theorem cnc243:concreteT Tryz.prog 243 = true:=by kernel_rfl
theorem off243_0:fOff Tryz.prog 243 0 = some 0:=by kernel_rfl
theorem fty243_0:fTy Tryz.prog 243 0 = some 2:=by kernel_rfl
theorem off243_1:fOff Tryz.prog 243 1 = some 1:=by kernel_rfl
theorem fty243_1:fTy Tryz.prog 243 1 = some 2:=by kernel_rfl
theorem plc243:bPlaces Tryz.prog 243 = some [(0,1),(1,1)]:=by kernel_rfl
attribute [go_sem] lay243 siz243 inf243 zer243 cnc243 off243_0 fty243_0 off243_1 fty243_1 plc243
abbrev nb (a:Nb):AV:=.agg [i64 a.1,bo a.2]
abbrev ve (a b:Nb):AV:=.agg [i64 a.1,bo a.2,i64 b.1,bo b.2]
def nRat (a b:Int):Nb:=(raV a b,raF a b || false)
def nDot (a b c d:Nb):Nb:=(ftV ((whV a.1 * whV b.1 + whV c.1 * whV d.1).tdiv 4294967296),ftF ((whV a.1 * whV b.1 + whV c.1 * whV d.1).tdiv 4294967296) || (whF a.1 a.2 || whF b.1 b.2 || whF c.1 c.2 || whF d.1 d.2))
def nHyp (a b:Nb):Nb:=(ftV (isq (whV a.1 * whV a.1 + whV b.1 * whV b.1).toNat),ftF (isq (whV a.1 * whV a.1 + whV b.1 * whV b.1).toNat) || (whF a.1 a.2 || whF b.1 b.2))
def nSub (a b:Nb):Nb:=(ftV (whV a.1 - whV b.1),ftF (whV a.1 - whV b.1) || (whF a.1 a.2 || whF b.1 b.2))
def nPos (a:Nb):Nb:=(if 0 < whV a.1 then whV a.1 else 0,whF a.1 a.2)
theorem nRat_rg {a b:Int}:rg (nRat a b).1:=raV_rg
theorem nDot_rg {a b c d:Nb}:rg (nDot a b c d).1:=ftV_rg _
theorem nHyp_rg {a b:Nb}:rg (nHyp a b).1:=ftV_rg _
theorem nSub_rg {a b:Nb}:rg (nSub a b).1:=ftV_rg _
def c47:Con
 | [.agg [.v (.int .i64 x),.v (.int .i64 y)]] => some ([inR x,inR y],ve (nRat x 256) (nRat y 256))
 | _ => none
theorem con47:ConOK Tryz.prog 47 c47:=ConOK.of (G:=[(98,c98)]) (H:=[(1,⟨[(7,.slot 2)],[]⟩)]) (.cons con98 .nil) Tryz.func47 fun l ob r hc hob => by
 unfold c47 at hc
 split at hc
 ·rename_i x y
  cases hc
  have h_0:inR x:=hob _ (by simp)
  have h_1:inR y:=hob _ (by simp)
  refine ⟨by kernel_rfl,fnVC_go (rs:=[.cell 2 38]) rfl rfl ?_⟩
  simp only [go_sem,c98]
  simp only [forall_eq]
  exact ⟨h_0,by unfold inR; omega,h_1,by unfold inR; omega,rfl⟩
 ·cases hc
def c113:Con
 | [.v (.int .i64 x)] => some ([inR x],nb (nRat x 256))
 | _ => none
theorem con113:ConOK Tryz.prog 113 c113:=ConOK.of (G:=[(98,c98)]) (H:=[]) (.cons con98 .nil) Tryz.func113 fun l ob r hc hob => by
 unfold c113 at hc
 split at hc
 ·rename_i x
  cases hc
  have h_0:inR x:=hob _ (by simp)
  refine ⟨by kernel_rfl,fnVC_go (rs:=[.cell 2 36]) rfl rfl ?_⟩
  simp only [go_sem,c98]
  simp only [forall_eq]
  exact ⟨h_0,by unfold inR; omega,rfl⟩
 ·cases hc
def c114:Con
 | [.agg [.v (.int .i64 x),.v (.bool e),.v (.int .i64 y),.v (.bool f)]] => some ([inR x,inR y],nb (nHyp (x,e) (y,f)))
 | _ => none
theorem con114:ConOK Tryz.prog 114 c114:=ConOK.of (G:=[(187,c187)]) (H:=[]) (.cons con187 .nil) Tryz.func114 fun l ob r hc hob => by
 unfold c114 at hc
 split at hc
 ·rename_i x e y f
  cases hc
  have h_0:inR x:=hob _ (by simp)
  have h_1:inR y:=hob _ (by simp)
  refine ⟨by kernel_rfl,fnVC_go (rs:=[.cell 2 36]) rfl rfl ?_⟩
  simp only [go_sem,c187]
  simp only [forall_eq]
  exact ⟨h_0,h_1,rfl⟩
 ·cases hc
def c116:Con
 | [.agg [.v (.int .i64 x),.v (.bool e),.v (.int .i64 y),.v (.bool f)],.agg [.v (.int .i64 k),.v (.bool g)]] => some ([inR x,inR y,inR k],ve (nMul (x,e) (k,g)) (nMul (y,f) (k,g)))
 | _ => none
theorem con116:ConOK Tryz.prog 116 c116:=ConOK.of (G:=[(95,c95)]) (H:=[(1,⟨[(9,.slot 4)],[]⟩)]) (.cons con95 .nil) Tryz.func116 fun l ob r hc hob => by
 unfold c116 at hc
 split at hc
 ·rename_i x e y f k g
  cases hc
  have h_0:inR x:=hob _ (by simp)
  have h_1:inR y:=hob _ (by simp)
  have h_2:inR k:=hob _ (by simp)
  refine ⟨by kernel_rfl,fnVC_go (rs:=[.cell 4 38]) rfl rfl ?_⟩
  simp only [go_sem,c95]
  simp only [forall_eq]
  exact ⟨h_0,h_2,h_1,h_2,rfl⟩
 ·cases hc
def c126:Con
 | [.agg [.v (.int .i64 x),.v (.bool e),.v (.int .i64 y),.v (.bool f)],.agg [.v (.int .i64 z),.v (.bool g),.v (.int .i64 t),.v (.bool h)]] => some ([inR x,inR y,inR z,inR t],nb (nDot (x,e) (z,g) (y,f) (t,h)))
 | _ => none
theorem con126:ConOK Tryz.prog 126 c126:=ConOK.of (G:=[(91,c91)]) (H:=[]) (.cons con91 .nil) Tryz.func126 fun l ob r hc hob => by
 unfold c126 at hc
 split at hc
 ·rename_i x e y f z g t h
  cases hc
  have h_0:inR x:=hob _ (by simp)
  have h_1:inR y:=hob _ (by simp)
  have h_2:inR z:=hob _ (by simp)
  have h_3:inR t:=hob _ (by simp)
  refine ⟨by kernel_rfl,fnVC_go (rs:=[.cell 4 36]) rfl rfl ?_⟩
  simp only [go_sem,c91]
  simp only [forall_eq]
  exact ⟨h_0,h_2,h_1,h_3,rfl⟩
 ·cases hc
def c235:Con
 | [.agg [.v (.int .i64 x),.v (.bool e),.v (.int .i64 y),.v (.bool f)],.agg [.v (.int .i64 z),.v (.bool g),.v (.int .i64 t),.v (.bool h)]] => some ([inR x,inR y,inR z,inR t],nb (nDot (x,e) (t,h) (nNeg (y,f)) (z,g)))
 | _ => none
theorem con235:ConOK Tryz.prog 235 c235:=ConOK.of (G:=[(91,c91),(127,c127)]) (H:=[(1,⟨[(10,.slot 4)],[]⟩)]) (.cons con91 (.cons con127 .nil)) Tryz.func235 fun l ob r hc hob => by
 unfold c235 at hc
 split at hc
 ·rename_i x e y f z g t h
  cases hc
  have h_0:inR x:=hob _ (by simp)
  have h_1:inR y:=hob _ (by simp)
  have h_2:inR z:=hob _ (by simp)
  have h_3:inR t:=hob _ (by simp)
  refine ⟨by kernel_rfl,fnVC_go (rs:=[.cell 4 36]) rfl rfl ?_⟩
  simp only [go_sem,c91,c127]
  simp only [forall_eq]
  exact ⟨h_1,h_0,h_3,rg_inR (nNeg_rg (a:=(y,f)) h_1),h_2,rfl⟩
 ·cases hc
def c110:Con
 | [.v (.int .i64 x),.v (.int .i64 y)] => some ([inR x,inR y],ve (nInt x) (nInt y))
 | _ => none
theorem con110:ConOK Tryz.prog 110 c110:=ConOK.of (G:=[(93,c93)]) (H:=[]) (.cons con93 .nil) Tryz.func110 fun l ob r hc hob => by
 unfold c110 at hc
 split at hc
 ·rename_i x y
  cases hc
  have h_0:inR x:=hob _ (by simp)
  have h_1:inR y:=hob _ (by simp)
  refine ⟨by kernel_rfl,fnVC_go (rs:=[.cell 4 38]) rfl rfl ?_⟩
  simp only [go_sem,c93]
  simp only [forall_eq]
  exact ⟨h_0,h_1,rfl⟩
 ·cases hc
def c124:Con
 | [.agg [.v (.int .i64 x),.v (.int .i64 y)]] => some ([inR x,inR y],ve (nInt x) (nInt y))
 | _ => none
theorem con124:ConOK Tryz.prog 124 c124:=ConOK.of (G:=[(110,c110)]) (H:=[]) (.cons con110 .nil) Tryz.func124 fun l ob r hc hob => by
 unfold c124 at hc
 split at hc
 ·rename_i x y
  cases hc
  have h_0:inR x:=hob _ (by simp)
  have h_1:inR y:=hob _ (by simp)
  refine ⟨by kernel_rfl,fnVC_go (rs:=[.cell 2 38]) rfl rfl ?_⟩
  simp only [go_sem,c110]
  simp only [forall_eq]
  exact ⟨h_0,h_1,trivial⟩
 ·cases hc
def c111:Con
 | [.agg [.v (.int .i64 x),.v (.bool f)]] => some ([inR x],nb (nPos (x,f)))
 | _ => none
theorem con111:ConOK Tryz.prog 111 c111:=ConOK.of (G:=[(186,c186)]) (H:=[]) (.cons con186 .nil) Tryz.func111 fun l ob r hc hob => by
 unfold c111 at hc
 split at hc
 ·rename_i x f
  cases hc
  have h_0:inR x:=hob _ (by simp)
  refine ⟨by kernel_rfl,fnVC_go (rs:=[.cell 2 36]) rfl rfl ?_⟩
  simp only [go_sem,c186]
  simp only [forall_eq]
  refine ⟨nums2 rfl rfl (by unfold inR; omega) h_0,?_⟩
  rw [mo2 rfl rfl,(sum2 (a:=0) (b:=x) (e:=false) (f:=f) rfl rfl).2]
  have c1:whV 0 = 0:=by decide
  have c2:whF 0 false = false:=by decide
  have e1:((-1:Int) = 1) = False:=by decide
  simp only [c1,c2,e1,false_and,false_or,eq_self,true_and,Bool.false_or]
  rfl
 ·cases hc
def c239:Con
 | [.agg [.v (.int .i64 a),.v (.int .i64 b)],.agg [.v (.int .i64 c),.v (.int .i64 d)]] => some ([inR a,inR b,inR c,inR d],bo (decide (c * b < a * d)))
 | _ => none
theorem con239:ConOK Tryz.prog 239 c239:=ConOK.of (G:=[(185,c185)]) (H:=[]) (.cons con185 .nil) Tryz.func239 fun l ob r hc hob => by
 unfold c239 at hc
 split at hc
 ·rename_i a b c d
  cases hc
  have h_0:inR a:=hob _ (by simp)
  have h_1:inR b:=hob _ (by simp)
  have h_2:inR c:=hob _ (by simp)
  have h_3:inR d:=hob _ (by simp)
  refine ⟨by kernel_rfl,fnVC_go (rs:=[.tmp 4]) rfl rfl ?_⟩
  simp only [go_sem,c185]
  simp only [forall_eq]
  refine ⟨h_0,h_3,h_2,h_1,?_⟩
  rw [decide_eq_decide]
  unfold cmpS
  split
  ·omega
  ·split <;> omega
 ·cases hc
def c137:Con
 | [.agg [.v (.int .i64 x),.v (.int .i64 y)]] => some ([inR x,inR y],ve (nRat x 256) (nRat y 256))
 | _ => none
theorem con137:ConOK Tryz.prog 137 c137:=ConOK.of (G:=[(35,c35)]) (H:=[(1,⟨[(7,.slot 2)],[]⟩)]) (.cons con35 .nil) Tryz.func137 fun l ob r hc hob => by
 unfold c137 at hc
 split at hc
 ·rename_i x y
  cases hc
  have h_0:inR x:=hob _ (by simp)
  have h_1:inR y:=hob _ (by simp)
  refine ⟨by kernel_rfl,fnVC_go (rs:=[.cell 2 38]) rfl rfl ?_⟩
  simp only [go_sem,c35]
  simp only [forall_eq]
  exact ⟨h_0,by unfold inR; omega,h_1,by unfold inR; omega,rfl⟩
 ·cases hc
def c49:Con
 | [.agg [.v (.int .i64 v),.v (.bool f)]] => some ([inR v],ve (csV v f,csF v f) (snV v f,snF v f))
 | _ => none
theorem con49:ConOK Tryz.prog 49 c49:=ConOK.of (G:=[(99,c99),(100,c100)]) (H:=[(1,⟨[(5,.slot 2)],[]⟩)]) (.cons con99 (.cons con100 .nil)) Tryz.func49 fun l ob r hc hob => by
 unfold c49 at hc
 split at hc
 ·rename_i v f
  cases hc
  have h_0:inR v:=hob _ (by simp)
  refine ⟨by kernel_rfl,fnVC_go (rs:=[.cell 2 40]) rfl rfl ?_⟩
  simp only [go_sem,c99,c100]
  simp only [forall_eq]
  exact ⟨h_0,h_0,trivial⟩
 ·cases hc
def c199:Con
 | [.agg [.v (.int .i64 x),.v (.bool e),.v (.int .i64 y),.v (.bool f)],.agg [.v (.int .i64 z),.v (.bool g),.v (.int .i64 t),.v (.bool h)]] => some ([inR x,inR y,inR z,inR t],ve (nDot (x,e) (z,g) (nNeg (y,f)) (t,h)) (nDot (y,f) (z,g) (x,e) (t,h)))
 | _ => none
theorem con199:ConOK Tryz.prog 199 c199:=ConOK.of (G:=[(75,c75),(196,c196)]) (H:=[(1,⟨[(20,.slot 4)],[]⟩)]) (.cons con75 (.cons con196 .nil)) Tryz.func199 fun l ob r hc hob => by
 unfold c199 at hc
 split at hc
 ·rename_i x e y f z g t h
  cases hc
  have h_0:inR x:=hob _ (by simp)
  have h_1:inR y:=hob _ (by simp)
  have h_2:inR z:=hob _ (by simp)
  have h_3:inR t:=hob _ (by simp)
  refine ⟨by kernel_rfl,fnVC_go (rs:=[.cell 4 38]) rfl rfl ?_⟩
  simp only [go_sem,c75,c196]
  simp only [forall_eq]
  exact ⟨h_1,h_0,h_2,rg_inR (nNeg_rg (a:=(y,f)) h_1),h_3,h_1,h_2,h_0,h_3,rfl⟩
 ·cases hc
theorem nums1 {a:Int} {e:Bool} {g:Nat → List AV} (h0:g 0 = [i64 a,bo e]) (ha:inR a):nums 1 g:=by
 intro i hi
 have:i = 0:=by omega
 subst this
 simp only [gx,gb,h0,gi_0,gib_1]; exact ⟨trivial,ha⟩
def c198:Con
 | [.agg [.v (.int .i64 x),.v (.bool f)]] => some ([inR x],bo (whF x f))
 | _ => none
theorem con198:ConOK Tryz.prog 198 c198:=ConOK.of (G:=[(74,c74)]) (H:=[]) (.cons con74 .nil) Tryz.func198 fun l ob r hc hob => by
 unfold c198 at hc
 split at hc
 ·rename_i x f
  cases hc
  have h_0:inR x:=hob _ (by simp)
  refine ⟨by kernel_rfl,fnVC_go (rs:=[.tmp 2]) rfl rfl ?_⟩
  simp only [go_sem,c74]
  simp only [forall_eq]
  have e:suS (wvS (rowsOf 2 [i64 x,bo f])) 1 = whV x:=by
   show 0 + whV (gx (rowsOf 2 [i64 x,bo f]) 0 0) = _
   rw [Int.zero_add]; rfl
  have e2:wfS 1 (rowsOf 2 [i64 x,bo f]) = whF x f:=by
   show (false || whF (gx (rowsOf 2 [i64 x,bo f]) 0 0) (gb (rowsOf 2 [i64 x,bo f]) 1 0)) = _
   rfl
  rw [e,e2,ftF_of (whV_rg h_0)]
  exact ⟨nums1 rfl h_0,rfl⟩
 ·cases hc
def c153:Con
 | [.agg [.v (.int .i64 x),.v (.bool e),.v (.int .i64 y),.v (.bool f)]] => some ([inR x,inR y],i64 (if (whF x e = true ∨ whF y f = true) ∨ (65536 < (nDot (x,e) (x,e) (y,f) (y,f)).1 - 4294967296 ∨ 65536 < 4294967296 - (nDot (x,e) (x,e) (y,f) (y,f)).1) then 3 else 0))
 | _ => none
theorem con153:ConOK Tryz.prog 153 c153:=ConOK.of (G:=[(196,c196),(198,c198)]) (H:=[]) (.cons con196 (.cons con198 .nil)) Tryz.func153 fun l ob r hc hob => by
 unfold c153 at hc
 split at hc
 ·rename_i x e y f
  cases hc
  have h_0:inR x:=hob _ (by simp)
  have h_1:inR y:=hob _ (by simp)
  refine ⟨by kernel_rfl,fnVC_go (rs:=[.tmp 2]) rfl rfl ?_⟩
  simp only [go_sem,c196,c198]
  simp only [forall_eq]
  have k0:0 ≤ (whV x * whV x + whV y * whV y).tdiv 4294967296:=Int.tdiv_nonneg (by have:=sq_nonneg (a:=whV x); have:=sq_nonneg (a:=whV y); omega) (by omega)
  have k1:0 ≤ ftV ((whV x * whV x + whV y * whV y).tdiv 4294967296) ∧ ftV ((whV x * whV x + whV y * whV y).tdiv 4294967296) ≤ 9223372036854775807:=by unfold ftV; (repeat' split) <;> omega
  have e:(nDot (x,e) (x,e) (y,f) (y,f)).1 = ftV ((whV x * whV x + whV y * whV y).tdiv 4294967296):=rfl
  rw [e]
  generalize ftV ((whV x * whV x + whV y * whV y).tdiv 4294967296) = n at *
  rw [wrap_in (x:=n - 4294967296) (by unfold inR; omega),wrap_in (x:=4294967296 - n) (by unfold inR; omega)]
  refine ⟨h_0,h_0,h_1,h_1,h_0,fun _ => h_1,fun h => ?_,fun h => ?_⟩
  ·rw [if_pos (by rcases h with (h | h) | h
                  ·exact .inl h
                  ·exact .inr (.inl h)
                  ·exact .inr (.inr h))]
  ·rw [if_neg (by
    rintro ((k | k) | (k | k))
    ·rw [h.1.1.1] at k; cases k
    ·rw [h.1.1.2] at k; cases k
    ·exact h.1.2 k
    ·exact h.2 k)]
 ·cases hc
def c48:Con
 | [.v (.int .i64 n),.v (.int .i64 s)] => some ([inR n,1 ≤ s ∧ s ≤ 1000000],.agg [i64 (n.tmod (s * 4294967296)),bo false])
 | _ => none
theorem con48:ConOK Tryz.prog 48 c48:=ConOK.of (G:=[]) (H:=[]) .nil Tryz.func48 fun l ob r hc hob => by
 unfold c48 at hc
 split at hc
 ·rename_i n s
  cases hc
  have h_0:inR n:=hob _ (by simp)
  have h_1:1 ≤ s ∧ s ≤ 1000000:=hob _ (by simp)
  refine ⟨by kernel_rfl,fnVC_go (rs:=[.cell 4 36]) rfl rfl ?_⟩
  simp only [go_sem]
  intro z hz
  rw [wrap_in (by unfold inR; omega)] at hz
  rw [hz]
  exact ⟨by omega,fun z1 hz1 => by rw [hz1]⟩
 ·cases hc
def c101:Con
 | [.v (.int .i64 n)] => some ([],bo (decide (16 ≤ n ∧ n ≤ 4096)))
 | _ => none
theorem con101:ConOK Tryz.prog 101 c101:=ConOK.of (G:=[]) (H:=[]) .nil Tryz.func101 fun l ob r hc hob => by
 unfold c101 at hc
 split at hc
 ·rename_i n
  cases hc
  refine ⟨by kernel_rfl,fnVC_go (rs:=[.tmp 2]) rfl rfl ?_⟩
  simp only [go_sem]
  rw [Bool.eq_iff_iff]; simp
 ·cases hc
def c102:Con
 | [.v (.int .i64 n)] => some ([],bo (decide (-4096 ≤ n ∧ n ≤ 4096)))
 | _ => none
theorem con102:ConOK Tryz.prog 102 c102:=ConOK.of (G:=[]) (H:=[]) .nil Tryz.func102 fun l ob r hc hob => by
 unfold c102 at hc
 split at hc
 ·rename_i n
  cases hc
  refine ⟨by kernel_rfl,fnVC_go (rs:=[.tmp 2]) rfl rfl ?_⟩
  simp only [go_sem]
  rw [Bool.eq_iff_iff]; simp
 ·cases hc
def c182:Con
 | [.agg [.v (.int .i64 a),.v (.int .i64 b)],.agg [.v (.int .i64 c),.v (.int .i64 d)]] => some ([],i64 (IntKind.i64.wrap (a * d - b * c)))
 | _ => none
theorem con182:ConOK Tryz.prog 182 c182:=ConOK.of (G:=[]) (H:=[]) .nil Tryz.func182 fun l ob r hc hob => by
 unfold c182 at hc
 split at hc
 ·rename_i a b c d
  cases hc
  refine ⟨by kernel_rfl,fnVC_go (rs:=[.tmp 4]) rfl rfl ?_⟩
  simp only [go_sem]
  simp only [forall_eq]
  rw [wrap_i64,wrap_i64,wrap_i64,wrap_i64]
  generalize a * d = p
  generalize b * c = q
  omega
 ·cases hc
def c183:Con
 | [.agg [.v (.int .i64 a),.v (.int .i64 b)],.agg [.v (.int .i64 c),.v (.int .i64 d)]] => some ([],.agg [i64 (IntKind.i64.wrap (a - c)),i64 (IntKind.i64.wrap (b - d))])
 | _ => none
theorem con183:ConOK Tryz.prog 183 c183:=ConOK.of (G:=[]) (H:=[]) .nil Tryz.func183 fun l ob r hc hob => by
 unfold c183 at hc
 split at hc
 ·rename_i a b c d
  cases hc
  refine ⟨by kernel_rfl,fnVC_go (rs:=[.cell 4 29]) rfl rfl ?_⟩
  simp only [go_sem]
  simp only [forall_eq]
 ·cases hc
def c184:Con
 | [.agg [.v (.int .i64 a),.v (.int .i64 b)]] => some ([-1000000 ≤ a ∧ a ≤ 1000000,-1000000 ≤ b ∧ b ≤ 1000000],i64 (ab a + ab b))
 | _ => none
theorem con184:ConOK Tryz.prog 184 c184:=ConOK.of (G:=[]) (H:=[]) .nil Tryz.func184 fun l ob r hc hob => by
 unfold c184 at hc
 split at hc
 ·rename_i a b
  cases hc
  have h_0:-1000000 ≤ a ∧ a ≤ 1000000:=hob _ (by simp)
  have h_1:-1000000 ≤ b ∧ b ≤ 1000000:=hob _ (by simp)
  refine ⟨by kernel_rfl,fnVC_go (rs:=[.tmp 2]) rfl rfl ?_⟩
  simp only [go_sem]
  simp only [forall_eq]
  rw [wrap_in (x:=0 - a) (by unfold inR; omega),wrap_in (x:=0 - b) (by unfold inR; omega),wrap_in (by unfold inR; omega)]
  unfold ab
  split <;> split <;> omega
 ·cases hc
def c154:Con
 | [.agg [.v (.int .i64 a),.v (.bool e)]] => some ([inR a],bo (whF a e || decide (17592186044416 < ab (whV a))))
 | _ => none
theorem con154:ConOK Tryz.prog 154 c154:=ConOK.of (G:=[(25,c25)]) (H:=[]) (.cons con25 .nil) Tryz.func154 fun l ob r hc hob => by
 unfold c154 at hc
 split at hc
 ·rename_i a e
  cases hc
  have h_0:inR a:=hob _ (by simp)
  refine ⟨by kernel_rfl,fnVC_go (rs:=[.tmp 2]) rfl rfl ?_⟩
  simp only [go_sem,c25]
  simp only [forall_eq]
  exact ⟨h_0,trivial⟩
 ·cases hc
def spV (a:Nb):Int:=(whV (nMul a (nInt 256)).1 + 2147483648) / 4294967296
def c155:Con
 | [.agg [.v (.int .i64 a),.v (.bool e),.v (.int .i64 b),.v (.bool f)]] => some ([inR a,inR b],.agg [i64 (spV (a,e)),i64 (spV (b,f))])
 | _ => none
theorem con155:ConOK Tryz.prog 155 c155:=ConOK.of (G:=[(30,c30),(31,c31),(32,c32)]) (H:=[(2,⟨[(11,.slot 2)],[]⟩)]) (.cons con30 (.cons con31 (.cons con32 .nil))) Tryz.func155 fun l ob r hc hob => by
 unfold c155 at hc
 split at hc
 ·rename_i a e b f
  cases hc
  have h_0:inR a:=hob _ (by simp)
  have h_1:inR b:=hob _ (by simp)
  refine ⟨by kernel_rfl,fnVC_go (rs:=[.cell 2 29]) rfl rfl ?_⟩
  simp only [go_sem,c30,c31,c32]
  simp only [forall_eq]
  exact ⟨by unfold inR; omega,h_0,rg_inR (ftV_rg _),rg_inR (ftV_rg _),h_1,rg_inR (ftV_rg _),rg_inR (ftV_rg _),rfl⟩
 ·cases hc
def vfS (n:Nat) (g:Nat → List AV):Bool:=anyB (fun i => whF (gx g 0 i) (gb g 1 i) || whF (gx g 2 i) (gb g 3 i)) n
theorem gib_3 {a b c:AV} {x:Bool} {l:List AV}:gib (a :: b :: c :: .v (.bool x) :: l) 3 = x:=(rfl)
attribute [go_sem] gib_3
def vecs (n:Nat) (g:Nat → List AV):Prop:=∀ i,i < n → g i = [i64 (gx g 0 i),bo (gb g 1 i),i64 (gx g 2 i),bo (gb g 3 i)] ∧ inR (gx g 0 i) ∧ inR (gx g 2 i)
def c170:Con
 | [.agg [.v (.int .i64 x),.v (.bool e),.v (.int .i64 y),.v (.bool f)]] => some ([inR x,inR y],bo (whF x e || whF y f))
 | _ => none
theorem con170:ConOK Tryz.prog 170 c170:=ConOK.of (G:=[(127,c127)]) (H:=[]) (.cons con127 .nil) Tryz.func170 fun l ob r hc hob => by
 unfold c170 at hc
 split at hc
 ·rename_i x e y f
  cases hc
  have h_0:inR x:=hob _ (by simp)
  have h_1:inR y:=hob _ (by simp)
  refine ⟨by kernel_rfl,fnVC_go (rs:=[.tmp 2]) rfl rfl ?_⟩
  simp only [go_sem,c127]
  simp only [forall_eq]
  exact ⟨h_0,fun _ => h_1,trivial⟩
 ·cases hc
def ixS (G:Nat → Bool):Nat → Nat → Int
 | _,0 => -1
 | i,k + 1 => if G i = true then i else ixS G (i + 1) k
theorem ixS_any {G:Nat → Bool} {n:Nat}:∀ (k i:Nat),i + k = n → (∀ j,j < i → G j = false) → decide (0 ≤ ixS G i k) = anyB G n
 | 0,i,h,hj => by
  have:anyB G n = false:=by
   rw [Bool.eq_false_iff]
   intro hc
   obtain ⟨j,h1,h2⟩:=anyB_iff.1 hc
   rw [hj j (by omega)] at h2; cases h2
  rw [this]; rfl
 | k + 1,i,h,hj => by
  unfold ixS
  by_cases hg:G i = true
  ·rw [if_pos hg,decide_eq_true (by omega)]
   exact (anyB_iff.2 ⟨i,by omega,hg⟩).symm
  ·rw [if_neg hg]
   exact ixS_any k (i + 1) (by omega) fun j hj2 => by
    by_cases e:j = i
    ·subst e; exact Bool.eq_false_iff.2 hg
    ·exact hj j (by omega)
def vflS (g:Nat → List AV) (i:Nat):Bool:=whF (gx g 0 i) (gb g 1 i) || whF (gx g 2 i) (gb g 3 i)
def c205:Con
 | [.ro n 4 g,.fn 170 []] => some ([vecs n g,n ≤ 1000],i64 (ixS (vflS g) 0 n))
 | _ => none
theorem vc205 (n:Nat) (X Y:Nat → Int) (E F:Nat → Bool) (hX:∀ i,i < n → inR (X i) ∧ inR (Y i)) (hn:n ≤ 1000):fnVC Tryz.prog [(170,c170)] [] Tryz.f205 [.ro n 4 fun i => [i64 (X i),bo (E i),i64 (Y i),bo (F i)],.fn 170 []] (· = i64 (ixS (fun i => whF (X i) (E i) || whF (Y i) (F i)) 0 n)):=by
 refine fnVC_go (rs:=[.tmp 4]) rfl rfl ?_
 simp only [go_sem]
 refine loopC_go (fun (i:Nat) => i ≤ n ∧ ixS (fun i => whF (X i) (E i) || whF (Y i) (F i)) 0 n = ixS (fun i => whF (X i) (E i) || whF (Y i) (F i)) i (n - i)) (fun i => n - i) (fun i => [(8,i64 i)]) (fun _ => []) [] [9,10,5,11,12,13,14,15,16,17,4,18,8] 0 (by kernel_rfl) ?_ ⟨Nat.zero_le _,rfl⟩ ?_ ?_
 ·intro x _; simp [goodNames]
 ·simp only [go_sem]
 ·intro i hi
  simp only [go_sem,c170]
  generalize hG:(fun i => whF (X i) (E i) || whF (Y i) (F i)) = G at *
  have hGi:G i = (whF (X i) (E i) || whF (Y i) (F i)):=by rw [← hG]
  rw [← hGi]
  refine ⟨fun h => ⟨by omega,h,fun z hz => ⟨(hX i (by omega)).1,(hX i (by omega)).2,fun hz1 => ?_,fun hz1 z2 hz2 => ⟨i + 1,⟨by omega,?_⟩,by omega,?_⟩⟩⟩,fun h => ?_⟩
  ·rw [hi.2,show n - i = (n - i - 1) + 1 by omega]
   unfold ixS
   rw [if_pos (by rw [← hz]; exact hz1)]
  ·rw [hi.2,show n - i = (n - i - 1) + 1 by omega]
   conv => lhs; unfold ixS
   rw [if_neg (by rw [← hz,hz1]; decide),show n - (i + 1) = n - i - 1 by omega]
  ·rw [hz2,wrap_in (by unfold inR; omega)]; rfl
  ·rw [hi.2,show n - i = 0 by omega]; rfl
theorem con205:ConOK Tryz.prog 205 c205:=ConOK.go (G:=[(170,c170)]) (H:=[]) (.cons con170 .nil) Tryz.func205 fun l ob r hc hob => by
 unfold c205 at hc
 split at hc
 ·rename_i n g
  cases hc
  have hs:vecs n g:=hob _ (by simp)
  refine ⟨[.ro n 4 fun i => [i64 (gx g 0 i),bo (gb g 1 i),i64 (gx g 2 i),bo (gb g 3 i)],.fn 170 []],fun w I vs h => ?_,by kernel_rfl,vc205 n _ _ _ _ (fun i hi => (hs i hi).2) (hob _ (by simp))⟩
  obtain ⟨x,xs,rfl,h1,h2⟩:=h.inv
  exact .cons (ro_alike (fun i hi => (hs i hi).1) h1) h2
 ·cases hc
def c169:Con
 | [.ro n 4 g,.fn 170 []] => some ([vecs n g,n ≤ 1000],bo (vfS n g))
 | _ => none
theorem con169:ConOK Tryz.prog 169 c169:=ConOK.of (G:=[(205,c205)]) (H:=[]) (.cons con205 .nil) Tryz.func169 fun l ob r hc hob => by
 unfold c169 at hc
 split at hc
 ·rename_i n g
  cases hc
  have h_0:vecs n g:=hob _ (by simp)
  have h_1:n ≤ 1000:=hob _ (by simp)
  refine ⟨by kernel_rfl,fnVC_go (rs:=[.tmp 4]) rfl rfl ?_⟩
  simp only [go_sem,c205]
  simp only [forall_eq]
  exact ⟨h_0,h_1,ixS_any n 0 (by omega) fun j hj => by omega⟩
 ·cases hc
def c90:Con
 | [.ro n 4 g] => some ([vecs n g,n ≤ 1000],bo (vfS n g))
 | _ => none
theorem con90:ConOK Tryz.prog 90 c90:=ConOK.of (G:=[(169,c169)]) (H:=[]) (.cons con169 .nil) Tryz.func90 fun l ob r hc hob => by
 unfold c90 at hc
 split at hc
 ·rename_i n g
  cases hc
  have h_0:vecs n g:=hob _ (by simp)
  have h_1:n ≤ 1000:=hob _ (by simp)
  refine ⟨by kernel_rfl,fnVC_go (rs:=[.tmp 2]) rfl rfl ?_⟩
  simp only [go_sem,c169]
  simp only [forall_eq]
  exact ⟨h_0,h_1,trivial⟩
 ·cases hc
theorem vecs1 {a b:Int} {e f:Bool} {g:Nat → List AV} (h0:g 0 = [i64 a,bo e,i64 b,bo f]) (ha:inR a) (hb:inR b):vecs 1 g:=by
 intro i hi
 have:i = 0:=by omega
 subst this
 simp only [gx,gb,h0,gi_0,gib_1,gi_2,gib_3]; exact ⟨trivial,ha,hb⟩
theorem vf1 {a b:Int} {e f:Bool} {g:Nat → List AV} (h0:g 0 = [i64 a,bo e,i64 b,bo f]):vfS 1 g = (whF a e || whF b f):=by
 simp only [vfS,anyB,gx,gb,h0,gi_0,gib_1,gi_2,gib_3,Bool.false_or]
def unB (x y:Int):Nb × Nb:=if ab x < 16777216 ∧ ab y < 16777216 then ((x * 16777216,false),(y * 16777216,false)) else ((x,false),(y,false))
def unS (x:Int) (e:Bool) (y:Int) (f:Bool):Bool × Nb × Nb:=
 if whF x e = true ∨ whF y f = true then (false,(0,false),(0,false))
 else if (nHyp (unB x y).1 (unB x y).2).2 = true ∨ (nHyp (unB x y).1 (unB x y).2).1 = 0 then (false,(0,false),(0,false))
 else (true,nDiv (unB x y).1 (nHyp (unB x y).1 (unB x y).2),nDiv (unB x y).2 (nHyp (unB x y).1 (unB x y).2))
theorem wh_split {v:Int} {f:Bool} (h:whF v f = false):v ≠ -9223372036854775808 ∧ f = false:=by
 unfold whF at h
 rw [Bool.or_eq_false_iff] at h
 exact ⟨of_decide_eq_false h.1,h.2⟩
theorem tupv {a b c d a' b' c' d':AV} {p p':Bool} (h1:a = a') (h2:b = b') (h3:c = c') (h4:d = d') (h5:p = p'):AV.tup [.agg [a,b,c,d],bo p] = .tup [.agg [a',b',c',d'],bo p']:=by rw [h1,h2,h3,h4,h5]
theorem unS_none {x y:Int} {e f:Bool} (h:whF x e = true ∨ whF y f = true):unS x e y f = (false,(0,false),(0,false)):=by unfold unS; rw [if_pos h]
theorem unS_nul {x y:Int} {e f:Bool} {a b:Nb} (h:¬ (whF x e = true ∨ whF y f = true)) (hb:unB x y = (a,b)) (h2:(nHyp a b).2 = true ∨ (nHyp a b).1 = 0):unS x e y f = (false,(0,false),(0,false)):=by unfold unS; rw [if_neg h,hb,if_pos h2]
theorem unS_some {x y:Int} {e f:Bool} {a b:Nb} (h:¬ (whF x e = true ∨ whF y f = true)) (hb:unB x y = (a,b)) (h2:¬ ((nHyp a b).2 = true ∨ (nHyp a b).1 = 0)):unS x e y f = (true,nDiv a (nHyp a b),nDiv b (nHyp a b)):=by unfold unS; rw [if_neg h,hb,if_neg h2]
def c109:Con
 | [.agg [.v (.int .i64 x),.v (.bool e),.v (.int .i64 y),.v (.bool f)]] => some ([inR x,inR y],.tup [ve (unS x e y f).2.1 (unS x e y f).2.2,bo (unS x e y f).1])
 | _ => none
theorem con109:ConOK Tryz.prog 109 c109:=ConOK.of (G:=[(90,c90),(114,c114),(115,c115)]) (H:=[(8,⟨[(9,.slot 2)],[]⟩)]) (.cons con90 (.cons con114 (.cons con115 .nil))) Tryz.func109 fun l ob r hc hob => by
 unfold c109 at hc
 split at hc
 ·rename_i x e y f
  cases hc
  have h_0:inR x:=hob _ (by simp)
  have h_1:inR y:=hob _ (by simp)
  refine ⟨by kernel_rfl,fnVC_go (rs:=[.cell 2 38,.tmp 3]) rfl rfl ?_⟩
  simp only [go_sem,c90,c114,c115]
  intro z hz
  refine ⟨vecs1 rfl h_0 h_1,fun ht => ?_,fun ht z1 hz1 z2 hz2 z3 hz3 => ?_⟩
  ·rw [hz,vf1 rfl] at ht
   have ht:whF x e = true ∨ whF y f = true:=by simpa using ht
   rw [unS_none ht]
  ·rw [hz,vf1 rfl] at ht
   have ht2:whF x e = false ∧ whF y f = false:=by simpa using ht
   have ht:¬ (whF x e = true ∨ whF y f = true):=by rw [ht2.1,ht2.2]; simp
   obtain ⟨hx,rfl⟩:=wh_split ht2.1
   obtain ⟨hy,rfl⟩:=wh_split ht2.2
   have hm:z3 < 16777216 ↔ ab x < 16777216 ∧ ab y < 16777216:=by
    rw [hz3,hz1,hz2,wrap_in (by unfold inR at *; omega),wrap_in (by unfold inR at *; omega)]
    unfold ab
    split <;> split <;> omega
   refine ⟨fun hs => ?_,fun hs => ?_⟩
   ·have hs:=hm.1 hs
    have hxb:-16777216 < x ∧ x < 16777216:=by unfold ab at hs; have:=hs.1; split at this <;> omega
    have hyb:-16777216 < y ∧ y < 16777216:=by unfold ab at hs; have:=hs.2; split at this <;> omega
    have hb:unB x y = ((x * 16777216,false),(y * 16777216,false)):=by unfold unB; rw [if_pos hs]
    rw [wrap_in (x:=x * 16777216) (by unfold inR; omega),wrap_in (x:=y * 16777216) (by unfold inR; omega)]
    simp only [forall_eq]
    refine ⟨by unfold inR; omega,by unfold inR; omega,fun h => ?_,fun h => ⟨by unfold inR; omega,rg_inR nHyp_rg,by unfold inR; omega,rg_inR nHyp_rg,?_⟩⟩
    ·rw [unS_nul ht hb (by simpa using h)]
    ·rw [unS_some ht hb (by simpa using h)]
     rfl
   ·have hs:¬ (ab x < 16777216 ∧ ab y < 16777216):=fun h => hs (hm.2 h)
    have hb:unB x y = ((x,false),(y,false)):=by unfold unB; rw [if_neg hs]
    simp only [forall_eq]
    refine ⟨h_0,h_1,fun h => ?_,fun h => ⟨h_0,rg_inR nHyp_rg,h_1,rg_inR nHyp_rg,?_⟩⟩
    ·rw [unS_nul ht hb (by simpa using h)]
    ·rw [unS_some ht hb (by simpa using h)]
     rfl
 ·cases hc
theorem unS_rg {x y:Int} {e f:Bool}:rg (unS x e y f).2.1.1 ∧ rg (unS x e y f).2.2.1:=by
 have z:rg 0:=by unfold rg; omega
 unfold unS
 split
 ·exact ⟨z,z⟩
 ·split
  ·exact ⟨z,z⟩
  ·exact ⟨nDiv_rg,nDiv_rg⟩
def noS (a b c d:Int):Bool × Nb × Nb:=unS (nInt (d - b)).1 (nInt (d - b)).2 (nInt (-(c - a))).1 (nInt (-(c - a))).2
def c120:Con
 | [.agg [.v (.int .i64 a),.v (.int .i64 b)],.agg [.v (.int .i64 c),.v (.int .i64 d)]] => some ([validS a b = true,validS c d = true],ve (noS a b c d).2.1 (noS a b c d).2.2)
 | _ => none
theorem con120:ConOK Tryz.prog 120 c120:=ConOK.of (G:=[(104,c104),(124,c124),(109,c109)]) (H:=[]) (.cons con104 (.cons con124 (.cons con109 .nil))) Tryz.func120 fun l ob r hc hob => by
 unfold c120 at hc
 split at hc
 ·rename_i a b c d
  cases hc
  have h_0:validS a b = true:=hob _ (by simp)
  have h_1:validS c d = true:=hob _ (by simp)
  refine ⟨by kernel_rfl,fnVC_go (rs:=[.cell 4 38]) rfl rfl ?_⟩
  simp only [go_sem,c104,c124,c109]
  have v1:=validS_iff.1 h_0
  have v2:=validS_iff.1 h_1
  simp only [forall_eq]
  rw [wrap_in (x:=c - a) (by unfold inR; omega),wrap_in (x:=d - b) (by unfold inR; omega),wrap_in (x:=0 - (c - a)) (by unfold inR; omega),show (0:Int) - (c - a) = -(c - a) by omega]
  exact ⟨by unfold inR; omega,by unfold inR; omega,rg_inR nInt_rg,rg_inR nInt_rg,rfl⟩
 ·cases hc
def suV (n:Nat) (g:Nat → List AV) (k:Nat):Nb:=(ftV (suS (fun i => whV (gx g k i)) n),ftF (suS (fun i => whV (gx g k i)) n) || anyB (fun i => whF (gx g k i) (gb g (k + 1) i)) n)
theorem suS_congr {X Y:Nat → Int}:∀ {n:Nat},(∀ i,i < n → X i = Y i) → suS X n = suS Y n
 | 0,_ => rfl
 | n + 1,h => by unfold suS; rw [suS_congr (n:=n) fun i hi => h i (by omega),h n (by omega)]
theorem anyB_congr {X Y:Nat → Bool}:∀ {n:Nat},(∀ i,i < n → X i = Y i) → anyB X n = anyB Y n
 | 0,_ => rfl
 | n + 1,h => by unfold anyB; rw [anyB_congr (n:=n) fun i hi => h i (by omega),h n (by omega)]
def upB (i:Nat) (Z:Nat → Bool) (j:Nat):Bool:=if j < i then Z j else false
theorem upB_zero {Z:Nat → Bool} {j:Nat}:upB 0 Z j = false:=by unfold upB; rw [if_neg (by omega)]
theorem upB_self {i:Nat} {Z:Nat → Bool}:upB (i + 1) Z i = Z i:=by unfold upB; rw [if_pos (by omega)]
theorem upB_lt {i j:Nat} {Z:Nat → Bool} (h:j < i):upB i Z j = Z j:=by unfold upB; rw [if_pos h]
theorem upB_ne {i j:Nat} {Z:Nat → Bool} (h:j ≠ i):upB (i + 1) Z j = upB i Z j:=by
 unfold upB
 by_cases e:j < i
 ·rw [if_pos e,if_pos (by omega)]
 ·rw [if_neg e,if_neg (by omega)]
def su1 (n:Nat) (X:Nat → Int) (E:Nat → Bool):Nb:=(ftV (suS (fun i => whV (X i)) n),ftF (suS (fun i => whV (X i)) n) || anyB (fun i => whF (X i) (E i)) n)
theorem su1_rg {n:Nat} {X:Nat → Int} {E:Nat → Bool}:rg (su1 n X E).1:=ftV_rg _
theorem wvS_up {n:Nat} {X:Nat → Int} {E:Nat → Bool} {g:Nat → List AV} (h:∀ j,j < n → g j = [i64 (X j),bo (E j)]):suS (wvS g) n = suS (fun i => whV (X i)) n ∧ wfS n g = anyB (fun i => whF (X i) (E i)) n:=
 ⟨suS_congr fun i hi => by simp only [wvS,gx,h i hi,gi_0],anyB_congr fun i hi => by simp only [gx,gb,h i hi,gi_0,gib_1]⟩
theorem nums_up {n:Nat} {X:Nat → Int} {E:Nat → Bool} {g:Nat → List AV} (h:∀ j,j < n → g j = [i64 (X j),bo (E j)]) (hX:∀ j,j < n → inR (X j)):nums n g:=fun i hi => by
 simp only [gx,gb,h i hi,gi_0,gib_1]; exact ⟨trivial,hX i hi⟩
def c96:Con
 | [.ro n 4 g] => some ([vecs n g,n ≤ 1000],ve (su1 n (gx g 0) (gb g 1)) (su1 n (gx g 2) (gb g 3)))
 | _ => none
theorem vc96 (n:Nat) (X Y:Nat → Int) (E F:Nat → Bool) (hX:∀ i,i < n → inR (X i) ∧ inR (Y i)) (hn:n ≤ 1000):fnVC Tryz.prog [(178,c178)] [(5,⟨[(9,.slot 3),(11,.slot 4)],[(7,[.slot 3])]⟩)] Tryz.f96 [.ro n 4 fun i => [i64 (X i),bo (E i),i64 (Y i),bo (F i)]] (· = ve (su1 n X E) (su1 n Y F)):=by
 refine fnVC_go (rs:=[.cell 2 38]) rfl rfl ?_
 simp only [go_sem]
 have hb:((bytesT Tryz.prog 36:Nat):Int) * (n:Int) ≤ 281474976710656:=by rw [show bytesT Tryz.prog 36 = 16 by kernel_rfl]; omega
 refine ⟨by omega,by omega,hb,by omega,by omega,hb,?_⟩
 refine loopC_go (fun (i:Nat) => i ≤ n) (fun i => n - i) (fun i => [(15,i64 i)]) (fun i => [(6,famN n 2 36 (fun j => [i64 (uptN i Y j),bo (upB i F j)]) none),(3,famN n 2 36 (fun j => [i64 (uptN i X j),bo (upB i E j)]) none)]) [0] [16,17,18,19,6,5,20,21,22,23,24,25,26,27,28,29,30,15] 0 (by kernel_rfl) ?_ (Nat.zero_le _) ?_ ?_
 ·intro x _; simp [goodNames,asg]
 ·simp only [go_sem,uptN_zero,upB_zero,implies_true]
 ·intro i hi
  simp only [go_sem,c178]
  have hw:IntKind.i64.wrap ((i:Int) + 1) = ((i + 1:Nat):Int):=by rw [wrap_in (by unfold inR; omega)]; rfl
  refine ⟨fun hin => ⟨by omega,hin,by omega,hin,by omega,by omega,hin,by omega,fun z hz => ⟨i + 1,by omega,by omega,by rw [hz,hw],fun j hj => ?_,fun j hj => ?_⟩⟩,fun hin => ?_⟩
  ·by_cases e:j = i
   ·subst e
    rw [if_pos rfl]
    simp only [go_sem,uptN_self,upB_self]
   ·rw [if_neg e]
    have h1:∀ Z,uptN (i + 1) Z j = uptN i Z j:=fun Z => uptN_ne e
    have h2:∀ Z,upB (i + 1) Z j = upB i Z j:=fun Z => upB_ne e
    simp only [go_sem,h1,h2]
  ·by_cases e:j = i
   ·subst e
    rw [if_pos rfl]
    simp only [go_sem,uptN_self,upB_self]
   ·rw [if_neg e]
    have h1:∀ Z,uptN (i + 1) Z j = uptN i Z j:=fun Z => uptN_ne e
    have h2:∀ Z,upB (i + 1) Z j = upB i Z j:=fun Z => upB_ne e
    simp only [go_sem,h1,h2]
  ·have e:i = n:=by omega
   subst e
   have hx:∀ j,j < i → (fun j => [i64 (uptN i X j),bo (upB i E j)]) j = [i64 (X j),bo (E j)]:=fun j hj => by dsimp only; rw [uptN_lt hj,upB_lt hj]
   have hy:∀ j,j < i → (fun j => [i64 (uptN i Y j),bo (upB i F j)]) j = [i64 (Y j),bo (F j)]:=fun j hj => by dsimp only; rw [uptN_lt hj,upB_lt hj]
   obtain ⟨e1,e2⟩:=wvS_up hx
   obtain ⟨e3,e4⟩:=wvS_up hy
   simp only [forall_eq,e1,e2,e3,e4]
   exact ⟨nums_up hx fun j hj => (hX j hj).1,hn,nums_up hy fun j hj => (hX j hj).2,hn,rfl⟩
theorem con96:ConOK Tryz.prog 96 c96:=ConOK.go (G:=[(178,c178)]) (H:=[(5,⟨[(9,.slot 3),(11,.slot 4)],[(7,[.slot 3])]⟩)]) (.cons con178 .nil) Tryz.func96 fun l ob r hc hob => by
 unfold c96 at hc
 split at hc
 ·rename_i n g
  cases hc
  have hs:vecs n g:=hob _ (by simp)
  exact ⟨[.ro n 4 fun i => [i64 (gx g 0 i),bo (gb g 1 i),i64 (gx g 2 i),bo (gb g 3 i)]],fun w I vs h => Rs_one (fun v => ro_alike fun i hi => (hs i hi).1) h,by kernel_rfl,vc96 n _ _ _ _ (fun i hi => (hs i hi).2) (hob _ (by simp))⟩
 ·cases hc
theorem vecs2 {a b c d:Int} {e f p q:Bool} {g:Nat → List AV} (h0:g 0 = [i64 a,bo e,i64 b,bo f]) (h1:g 1 = [i64 c,bo p,i64 d,bo q]) (ha:inR a) (hb:inR b) (hc:inR c) (hd:inR d):vecs 2 g:=by
 intro i hi
 have:i = 0 ∨ i = 1:=by omega
 rcases this with rfl | rfl
 ·simp only [gx,gb,h0,gi_0,gib_1,gi_2,gib_3]; exact ⟨trivial,ha,hb⟩
 ·simp only [gx,gb,h1,gi_0,gib_1,gi_2,gib_3]; exact ⟨trivial,hc,hd⟩
theorem nb_eq {a b:Nb} (h1:a.1 = b.1) (h2:a.2 = b.2):a = b:=Prod.ext h1 h2
theorem su2x {a b c d:Int} {e f p q:Bool} {g:Nat → List AV} (h0:g 0 = [i64 a,bo e,i64 b,bo f]) (h1:g 1 = [i64 c,bo p,i64 d,bo q]):su1 2 (gx g 0) (gb g 1) = nAdd (a,e) (c,p):=by
 unfold su1 nAdd
 simp only [suS,anyB,gx,gb,h0,h1,gi_0,gib_1,Bool.false_or,Int.zero_add]
theorem su2y {a b c d:Int} {e f p q:Bool} {g:Nat → List AV} (h0:g 0 = [i64 a,bo e,i64 b,bo f]) (h1:g 1 = [i64 c,bo p,i64 d,bo q]):su1 2 (gx g 2) (gb g 3) = nAdd (b,f) (d,q):=by
 unfold su1 nAdd
 simp only [suS,anyB,gx,gb,h0,h1,gi_2,gib_3,Bool.false_or,Int.zero_add]
end Go.Ax
end
section
/-
  The laws of boxes: what the functions hand back.
-/
set_option maxHeartbeats 2000000
set_option maxRecDepth 100000
namespace Go.Ax
open Go.Proofs
def joinT (a b c d e f g h:Int) (k:Nat):Int:=if checkBoxS a b c d = 0 ∧ checkBoxS e f g h = 0 then (match k with
 | 0 => min a e
 | 1 => min b f
 | 2 => max c g
 | _ => max d h) else 0
theorem rows_0 {a b c d:AV} {l:List AV}:rowsOf 4 (a :: b :: c :: d :: l) 0 = [a,b,c,d]:=(rfl)
theorem rows_1 {a b c d e f g h:AV} {l:List AV}:rowsOf 4 (a :: b :: c :: d :: e :: f :: g :: h :: l) 1 = [e,f,g,h]:=(rfl)
theorem boxes_2 {a b c d e f g h:Int}:boxes 2 (rowsOf 4 [i64 a,i64 b,i64 c,i64 d,i64 e,i64 f,i64 g,i64 h]) = ((inR a ∧ inR b ∧ inR c ∧ inR d) ∧ inR e ∧ inR f ∧ inR g ∧ inR h):=propext ⟨fun H => by
  have h0:=(H 0 (by omega)).2
  have h1:=(H 1 (by omega)).2
  simp only [gx,rows_0,rows_1,gi_0,gi_1,gi_2,gi_3] at h0 h1
  exact ⟨h0,h1⟩,fun ⟨h0,h1⟩ i hi => by
  have:i = 0 ∨ i = 1:=by omega
  rcases this with rfl | rfl
  ·simp only [gx,rows_0,gi_0,gi_1,gi_2,gi_3]; exact ⟨trivial,h0⟩
  ·simp only [gx,rows_1,gi_0,gi_1,gi_2,gi_3]; exact ⟨trivial,h1⟩⟩
theorem okB_2 {A B C D:Nat → Int}:okB 2 A B C D ↔ checkBoxS (A 0) (B 0) (C 0) (D 0) = 0 ∧ checkBoxS (A 1) (B 1) (C 1) (D 1) = 0:=
 ⟨fun h => ⟨h 0 (by omega),h 1 (by omega)⟩,fun ⟨h0,h1⟩ i hi => by
  have:i = 0 ∨ i = 1:=by omega
  rcases this with rfl | rfl <;> assumption⟩
theorem join_2 {a b c d e f g h:Int} {k:Nat} (hk:k < 4):joinS 2 (gx (rowsOf 4 [i64 a,i64 b,i64 c,i64 d,i64 e,i64 f,i64 g,i64 h]) 0) (gx (rowsOf 4 [i64 a,i64 b,i64 c,i64 d,i64 e,i64 f,i64 g,i64 h]) 1) (gx (rowsOf 4 [i64 a,i64 b,i64 c,i64 d,i64 e,i64 f,i64 g,i64 h]) 2) (gx (rowsOf 4 [i64 a,i64 b,i64 c,i64 d,i64 e,i64 f,i64 g,i64 h]) 3) k = joinT a b c d e f g h k:=by
 unfold joinS joinT
 simp only [okB_2,mnS,mxS,gx,rows_0,rows_1,gi_0,gi_1,gi_2,gi_3]
 have:k = 0 ∨ k = 1 ∨ k = 2 ∨ k = 3:=by omega
 rcases this with rfl | rfl | rfl | rfl <;> simp
attribute [go_sem] boxes_2 join_2 Nat.lt_irrefl
def c16:Con
 | [] => some ([],bo true)
 | _ => none
theorem con16:ConOK Tryz.prog 16 c16:=ConOK.of (G:=[(28,c28),(55,c55)]) (H:=[]) (.cons con28 (.cons con55 .nil)) Tryz.func16 fun l ob r hc hob => by
 unfold c16 at hc
 split at hc
 ·cases hc
  refine ⟨by kernel_rfl,fnVC_go (rs:=[.tmp 0]) rfl rfl ?_⟩
  simp only [go_sem,c28,c55]
  intro z hz
  have e:z = 1:=by rw [hz]; decide
  subst e
  refine ⟨?_,?_,?_,?_,?_,?_,fun _ => ?_,fun _ => ?_,fun _ => ?_,fun _ => ?_,?_,?_,?_,?_,?_⟩ <;> first | (unfold inR; omega) | decide
 ·cases hc
theorem tmod_5001 (x:Int):-5000 ≤ x.tmod 5001 ∧ x.tmod 5001 ≤ 5000:=by
 have h1:=Int.tmod_lt_of_pos x (b:=5001) (by omega)
 have h2:=Int.tmod_lt_of_pos (-x) (b:=5001) (by omega)
 rw [Int.neg_tmod] at h2
 omega
def near (a b c d:Int):Prop:=-5000 ≤ a ∧ a ≤ c ∧ c ≤ 5000 ∧ -5000 ≤ b ∧ b ≤ d ∧ d ≤ 5000
theorem near_box {x0 x1 x2 x3 a b c d:Int} (ha:a = min (x0.tmod 5001) (x2.tmod 5001)) (hb:b = min (x1.tmod 5001) (x3.tmod 5001)) (hc:c = max (x0.tmod 5001) (x2.tmod 5001)) (hd:d = max (x1.tmod 5001) (x3.tmod 5001)):near a b c d:=by
 have h0:=tmod_5001 x0
 have h1:=tmod_5001 x1
 have h2:=tmod_5001 x2
 have h3:=tmod_5001 x3
 unfold near
 omega
theorem near_check {a b c d:Int} (h:near a b c d):checkBoxS a b c d = 0:=checkBoxS_iff.2 (by unfold near at h; omega)
theorem near_inR {a b c d:Int} (h:near a b c d):inR a ∧ inR b ∧ inR c ∧ inR d:=by unfold near at h; unfold inR; omega
theorem joinT_0 {a b c d e f g h:Int} (h1:checkBoxS a b c d = 0) (h2:checkBoxS e f g h = 0):joinT a b c d e f g h 0 = min a e:=by
 simp only [joinT,h1,h2,and_self,if_true]
theorem joinT_1 {a b c d e f g h:Int} (h1:checkBoxS a b c d = 0) (h2:checkBoxS e f g h = 0):joinT a b c d e f g h 1 = min b f:=by
 simp only [joinT,h1,h2,and_self,if_true]
theorem joinT_2 {a b c d e f g h:Int} (h1:checkBoxS a b c d = 0) (h2:checkBoxS e f g h = 0):joinT a b c d e f g h 2 = max c g:=by
 simp only [joinT,h1,h2,and_self,if_true]
theorem joinT_3 {a b c d e f g h:Int} (h1:checkBoxS a b c d = 0) (h2:checkBoxS e f g h = 0):joinT a b c d e f g h 3 = max d h:=by
 simp only [joinT,h1,h2,and_self,if_true]
theorem modS_in {x:Int}:0 ≤ modS x 100001 ∧ modS x 100001 ≤ 100000:=by
 have h1:=Int.tmod_lt_of_pos x (b:=100001) (by omega)
 have h2:=Int.tmod_lt_of_pos (-x) (b:=100001) (by omega)
 rw [Int.neg_tmod] at h2
 unfold modS
 split <;> omega
theorem grow_in {a b c d n:Int} (h:checkBoxS a b c d = 0) (hn:0 ≤ n) (ha:-2097152 ≤ a - n) (hb:-2097152 ≤ b - n) (hc:c + n ≤ 2097152) (hd:d + n ≤ 2097152):growS a b c d n 0 = a - n ∧ growS a b c d n 1 = b - n ∧ growS a b c d n 2 = c + n ∧ growS a b c d n 3 = d + n:=by
 have h':=checkBoxS_iff.1 h
 have hg:growN n = n:=by unfold growN; omega
 simp only [growS,h,if_true,hg]
 omega
end Go.Ax
end
section
/-
  The iterator over a polygon's edges.
-/
set_option maxHeartbeats 1000000
set_option maxRecDepth 100000
namespace Go.Ax
open Go.Proofs
def nxt (n i:Nat):Nat:=if i + 1 < n then i + 1 else 0
theorem nxt_lt {n i:Nat} (h:i < n):nxt n i < n:=by unfold nxt; split <;> omega
def edgeE (n:Nat) (g:Nat → List AV) (i:Nat):List AV:=[.agg [i64 (gx g 0 i),i64 (gx g 1 i)],.agg [i64 (gx g 0 (nxt n i)),i64 (gx g 1 (nxt n i))]]
def c161:Con
 | [.rop [.ro n 2 g]] => some ([spots n g,n ≤ 9223372036854775806],.ro n 2 (edgeE n g))
 | _ => none
structure At161 (I:Nat → Prop) (w:World) (J:Nat → World → Prop) (l n:Nat) (v1 x:Value) (i:Nat) (a:Act) (W:World):Prop where
 sz:a.tmps.size = 38
 de:a.defers = []
 t0:a.tmps.getD 0 undef = .func (.yield l) #[] #[]
 t1:a.tmps.getD 1 undef = v1
 t3:a.tmps.getD 3 undef = .int .i64 (IntKind.i64.wrap (n - 1))
 t12:a.tmps.getD 12 undef = x
 t13:a.tmps.getD 13 undef = .int .i64 n
 t14:a.tmps.getD 14 undef = .int .i64 i
 le:i ≤ n
 j:J i W
 same:Same I w W
def sg (g:Nat → List AV):Nat → List AV:=fun i => [i64 (gx g 0 i),i64 (gx g 1 i)]
theorem sg_eq {g:Nat → List AV}:sg g = fun i => [i64 (gx g 0 i),i64 (gx g 1 i)]:=(rfl)
theorem seq161:SeqOK Tryz.prog 161 c161:=by
 intro es ob N k sq hc hob
 unfold c161 at hc
 split at hc
 case h_2 => cases hc
 rename_i n g
 simp only [Option.some.injEq,Prod.mk.injEq,AV.ro.injEq] at hc
 obtain ⟨rfl,rfl,rfl,rfl⟩:=hc
 have hsp:spots n g:=hob _ (by simp)
 have hn:n ≤ 9223372036854775806:=hob _ (by simp)
 intro I w vs nn l J Jx hI hRs hJ hJx h0 hy
 obtain ⟨v1,rest,rfl,hv1,hrest⟩:=hRs.inv
 have:rest = []:=by have:=hrest.1; simpa using this
 subst this
 cases hv1 with
 | rop b o hib hex hr =>
 obtain ⟨x,hx⟩:=hex 0 (by simp)
 have hx:Has w b o x:=hx
 have hib:I b:=hib
 have hxr:R w (.ext I) (.ro n 2 (sg g)) x:=ro_alike (fun i hi => (hsp i hi).1) (hr 0 _ x rfl hx)
 have hvx:R w (.ext I) (.rop [.v x]) (.pointer (some ⟨b,o,none⟩)):=rop1 hib hx .v
 have hvr:R w (.ext I) (.rop [.ro n 2 (sg g)]) (.pointer (some ⟨b,o,none⟩)):=rop1 hib hx hxr
 refine ⟨callFunc_enter Tryz.func161 (by kernel_rfl) rfl,?_⟩
 refine callsIn_of_wp_marks (F:=Fence.wide) Tryz.func161 rfl trivial ?_
 have hm:Tryz.prog.follows .mixedOrders = true:=by kernel_rfl
 rw [show Tryz.f161.ntmps = 38 from by kernel_rfl]
 generalize hes:(#[Value.func (.yield l) #[] #[]] ++ [Value.pointer (some ⟨b,o,none⟩)].toArray:Array Value) = es
 have hes2:es.size = 2:=by rw [← hes]; rfl
 have hes0:es[0]? = some (.func (.yield l) #[] #[]):=by rw [← hes]; rfl
 have hes1:es[1]? = some (.pointer (some ⟨b,o,none⟩)):=by rw [← hes]; rfl
 generalize ha:(Act.mk (es ++ Array.replicate (38 - es.size) undef) []) = a
 have hsz:a.tmps.size = 38:=by rw [← ha]; exact start_size (by omega)
 have hde:a.defers = []:=by rw [← ha]
 have ht0:a.tmps.getD 0 undef = .func (.yield l) #[] #[]:=by rw [← ha]; exact start_get hes0
 have ht1:a.tmps.getD 1 undef = .pointer (some ⟨b,o,none⟩):=by rw [← ha]; exact start_get hes1
 clear ha hes hes0 hes1 hes2
 have keepR:∀ {av:AV} {v:Value} {W:World},R w (.ext I) av v → Same I w W → R W (.ext I) av v:=fun h hs => h.mono (.refl _) hs
 have ltI:∀ {W:World},Same I w W → ∀ b,I b → b < W.heap.size:=fun {W} hs b hb => by
  have h1:=hs b hb
  have h2:=hI b hb
  rw [Array.getElem?_eq_getElem h2] at h1
  exact (Array.getElem?_eq_some_iff.1 h1).1
 -- region 0
 refine wpIn_seq (pieceI (G:=[]) (H:=[]) .nil hm (l:=[(1,.rop [.ro n 2 (sg g)])]) (W:=[7,8,9,10,3]) (K:=fun e s => match e with | .normal => slot s.t 3 = i64 (IntKind.i64.wrap (n - 1)) | _ => False) (by kernel_rfl) (by kernel_rfl) (by kernel_rfl) ?_ hI hsz ?_ ?_)
 ·refine awp_go (K1:=fun e t _ => match e with | .normal => slot t 3 = i64 (IntKind.i64.wrap (n - 1)) | _ => False) ?_
  simp only [go_sem,List.range,List.range.loop]
  exact fun _ => trivial
 ·intro p hp; simp only [List.mem_singleton] at hp; subst hp; dsimp only; rw [ht1]; exact hvr
 intro e s1 ρ1 a1 w1 k1 k2
 cases e with
 | exit j => exact k1.elim
 | ret => exact k1.elim
 | normal =>
 have bel1:RowKit.Below w.heap.size w w1:=k2.rel.below
 have hs1:Same I w w1:=Same.of_below bel1 hI
 have hj1:J 0 w1:=hJ 0 w w1 h0 bel1
 have u0:a1.tmps.getD 0 undef = .func (.yield l) #[] #[]:=(k2.frame 0 (show ¬ (0:Nat) ∈ [7,8,9,10,3] by decide)).trans ht0
 have u1:a1.tmps.getD 1 undef = .pointer (some ⟨b,o,none⟩):=(k2.frame 1 (show ¬ (1:Nat) ∈ [7,8,9,10,3] by decide)).trans ht1
 have u3:=k2.val k1
 have usz:=k2.size
 have ude:a1.defers = []:=k2.defers.trans hde
 clear k1 k2 s1 ρ1 hsz hde ht0 ht1
 -- region 1
 refine wpIn_seq (region_split (G:=[]) (nt:=38) (s:=⟨[(1,.rop [.v x])] ++ anyS (List.range 38),[],0⟩) (ds:=⟨[],(· ∈ [11,12,13,14]),a1.tmps⟩) .nil 2 (by decide) (K:=fun s => slot s.t 12 = .v x) (by kernel_rfl) (fun j hj => hj) ?_ (SR.anew (ltI hs1) (slots_R usz ?_) usz ude (fun _ _ => rfl)) ?_)
 ·refine regP_go (K1:=fun t _ => slot t 12 = .v x) ?_
  simp only [go_sem,List.range,List.range.loop]
 ·intro p hp; simp only [List.mem_singleton] at hp; subst hp; dsimp only; rw [u1]; exact keepR hvx hs1
 intro s2 ρ2 a2 w2 k1 k2
 have bel2:RowKit.Below w1.heap.size w1 w2:=k2.rel.below
 have hs2:Same I w w2:=hs1.trans (Same.of_below bel2 (ltI hs1))
 have hj2:J 0 w2:=hJ 0 w1 w2 hj1 bel2
 have v0:=(k2.frame 0 (show ¬ (0:Nat) ∈ [11,12,13,14] by decide)).trans u0
 have v1:=(k2.frame 1 (show ¬ (1:Nat) ∈ [11,12,13,14] by decide)).trans u1
 have v3:=(k2.frame 3 (show ¬ (3:Nat) ∈ [11,12,13,14] by decide)).trans u3
 have v12:=k2.val k1
 have vsz:=k2.size
 have vde:a2.defers = []:=k2.defers
 clear k1 k2 s2 ρ2 usz ude u0 u1 u3 bel1 bel2 hj1 hs1
 refine region_rest (G:=[]) (nt:=38) (s:=⟨[(12,.ro n 2 (sg g))] ++ anyS (List.range 38),[],0⟩) (ds:=⟨[],(· ∈ [13,14]),a2.tmps⟩) .nil 2 (by decide) (K:=fun s => slot s.t 13 = i64 n ∧ slot s.t 14 = i64 0) (by kernel_rfl) (fun j hj => hj) ?_ (SR.anew (ltI hs2) (slots_R vsz ?_) vsz vde (fun _ _ => rfl)) ?_
 ·refine regP_go (K1:=fun t _ => slot t 13 = i64 n ∧ slot t 14 = i64 0) ?_
  simp only [go_sem,List.range,List.range.loop]
 ·intro p hp; simp only [List.mem_singleton] at hp; subst hp; dsimp only; rw [v12]; exact keepR hxr hs2
 intro s3 ρ3 a3 w3 k1 k2
 have bel3:RowKit.Below w2.heap.size w2 w3:=k2.rel.below
 have hs3:Same I w w3:=hs2.trans (Same.of_below bel3 (ltI hs2))
 have hAt0:At161 I w J l n (.pointer (some ⟨b,o,none⟩)) x 0 a3 w3:=
  ⟨k2.size,k2.defers,(k2.frame 0 (show ¬ (0:Nat) ∈ [13,14] by decide)).trans v0,(k2.frame 1 (show ¬ (1:Nat) ∈ [13,14] by decide)).trans v1,(k2.frame 3 (show ¬ (3:Nat) ∈ [13,14] by decide)).trans v3,
   (k2.frame 12 (show ¬ (12:Nat) ∈ [13,14] by decide)).trans v12,k2.val k1.1,k2.val k1.2,Nat.zero_le _,hJ 0 w2 w3 hj2 bel3,hs3⟩
 clear k1 k2 s3 ρ3 bel3 hs3 hj2 hs2 v0 v1 v3 v12 vsz vde
 refine wpIn_block (wpIn_loop_rounds (n + 1) ?_)
 obtain ⟨i,hAt,hlt⟩:∃ i,At161 I w J l n (.pointer (some ⟨b,o,none⟩)) x i a3 w3 ∧ n - i < n + 1:=⟨0,hAt0,by omega⟩
 clear hAt0
 generalize n + 1 = fuel at hlt ⊢
 induction fuel generalizing i a3 w3 with
 | zero => omega
 | succ fuel ih =>
 rw [roundsIn_succ]
 -- the guard
 refine wpIn_seq (pieceI (G:=[]) (H:=[]) .nil hm (l:=[(13,i64 n),(14,i64 i)]) (W:=[15]) (K:=fun e s => match e with | .normal => slot s.t 15 = bo (decide ((i:Int) < n)) | _ => False) (by kernel_rfl) (by kernel_rfl) (by kernel_rfl) ?_ (ltI hAt.same) hAt.sz ?_ ?_)
 ·refine awp_go (K1:=fun e t _ => match e with | .normal => slot t 15 = bo (decide ((i:Int) < n)) | _ => False) ?_
  simp only [go_sem,List.range,List.range.loop]
 ·intro p hp
  simp only [List.mem_cons,List.mem_singleton,List.not_mem_nil,or_false] at hp
  rcases hp with rfl | rfl
  ·dsimp only; rw [hAt.t13]; exact .v
  ·dsimp only; rw [hAt.t14]; exact .v
 intro e s1 ρ1 a1 w1 k1 k2
 cases e with
 | exit j => exact k1.elim
 | ret => exact k1.elim
 | normal =>
 have bel1:RowKit.Below w3.heap.size w3 w1:=k2.rel.below
 have hs1:Same I w w1:=hAt.same.trans (Same.of_below bel1 (ltI hAt.same))
 have hj1:J i w1:=hJ i w3 w1 hAt.j bel1
 have v15:=k2.val k1
 have d1:a1.defers = []:=k2.defers.trans hAt.de
 have z1:=k2.size
 have f1:∀ j,¬ j ∈ [15] → a1.tmps.getD j undef = a3.tmps.getD j undef:=k2.frame
 clear k1 k2 s1 ρ1
 refine wpIn_seq (wpIn_cond_split (t:=decide ((i:Int) < n)) v15 ?_ ?_)
 case refine_2 =>
  intro hf
  have hin:i = n:=by have:=hAt.le; simp at hf; omega
  subst hin
  refine wpIn_exit ?_
  show LeavesInM Fence.wide nn Tryz.prog Tryz.f161 a1.tmps _ a1.defers .returning w1
  exact leave_nil d1 rfl fun v => ⟨⟨v,rfl⟩,.inl hj1⟩
 intro ht
 have hin:i < n:=by simp at ht; omega
 refine wpIn_skip ?_
 have r0:gx (sg g) 0 i = gx g 0 i:=rfl
 obtain ⟨K1,hK1⟩:∃ K1:Slots → Prop,K1 = fun t => slot t 32 = .v (.func (.yield l) #[] #[]) ∧ [slot t 33,slot t 34] = edgeE n g i:=⟨_,rfl⟩
 refine wpIn_seq (wpIn_block (piece3 (G:=[]) (H:=[]) .nil hm (k:=3) (K1:=K1) (l:=[(0,.v (.func (.yield l) #[] #[])),(1,.rop [.ro n 2 (sg g)]),(3,i64 (IntKind.i64.wrap (n - 1))),(12,.ro n 2 (sg g)),(14,i64 i)]) (by decide) (by kernel_rfl) (by kernel_rfl) rfl ?_ (ltI hs1) z1 ?_ ?_))
 ·show goC Tryz.prog [] [] (preK Tryz.prog [] _ 3 K1) _ [] _
  simp only [go_sem,List.range,List.range.loop,preK_normal,sg_eq]
  have hw:IntKind.i64.wrap ((n:Int) - 1) = n - 1:=wrap_in (by unfold inR; omega)
  subst hK1
  refine ⟨by omega,by omega,by omega,fun h z hz => ?_,fun h => ?_⟩
  ·rw [hw] at h
   have e1:IntKind.i64.wrap ((i:Int) + 1) = i + 1:=wrap_in (by unfold inR; omega)
   rw [e1] at hz
   have e2:z.toNat = i + 1:=by omega
   have e3:nxt n i = i + 1:=by unfold nxt; rw [if_pos (by omega)]
   refine ⟨by omega,by omega,?_⟩
   simp only [slot_cons,Nat.reduceEqDiff,if_true,if_false,reduceIte,true_and,edgeE,e3,e2,gx]
  ·rw [hw] at h
   have e3:nxt n i = 0:=by unfold nxt; rw [if_neg (by omega)]
   simp only [slot_cons,Nat.reduceEqDiff,if_true,if_false,reduceIte,true_and,edgeE,e3,gx]
 ·intro p hp
  simp only [List.mem_cons,List.mem_singleton,List.not_mem_nil,or_false] at hp
  rcases hp with rfl | rfl | rfl | rfl | rfl
  ·dsimp only; rw [f1 0 (by decide),hAt.t0]; exact .v
  ·dsimp only; rw [f1 1 (by decide),hAt.t1]; exact keepR hvr hs1
  ·dsimp only; rw [f1 3 (by decide),hAt.t3]; exact .v
  ·dsimp only; rw [f1 12 (by decide),hAt.t12]; exact keepR hxr hs1
  ·dsimp only; rw [f1 14 (by decide),hAt.t14]; exact .v
 intro t' m' D' ρ' a2 w2 k1 k2
 subst hK1
 have bel2:RowKit.Below w1.heap.size w1 w2:=k2.rel.below
 have hs2:Same I w w2:=hs1.trans (Same.of_below bel2 (ltI hs1))
 have hj2:J i w2:=hJ i w1 w2 hj1 bel2
 have v32:=k2.val k1.1
 have e33:slot t' 33 = .agg [i64 (gx g 0 i),i64 (gx g 1 i)]:=by have:=k1.2; unfold edgeE at this; simpa using (List.cons.inj this).1
 have e34:slot t' 34 = .agg [i64 (gx g 0 (nxt n i)),i64 (gx g 1 (nxt n i))]:=by have:=k1.2; unfold edgeE at this; simpa using (List.cons.inj (List.cons.inj this).2).1
 have hargs:Rs w2 (.ext I) (edgeE n g i) [a2.tmps.getD 33 undef,a2.tmps.getD 34 undef]:=by
  have q33:=k2.slots 33
  have q34:=k2.slots 34
  rw [e33] at q33
  rw [e34] at q34
  exact .cons (plain_sound 3 rfl q33) (.cons (plain_sound 3 rfl q34) .nil)
 have d2:a2.defers = []:=k2.defers.trans d1
 have z2:=k2.size
 have f2:=k2.frame
 clear k1 e33 e34
 rw [show List.range' 3 (Array.size _ - 3) = [3,4] from rfl]
 have z35:35 < a2.tmps.size:=by rw [z2]; decide
 refine wpOps_free rfl rfl (yield_op (l:=l) [a2.tmps.getD 33 undef,a2.tmps.getD 34 undef] rfl v32 (by simp [Act.eval]) (hy i w2 _ hin hj2 hs2 hargs) ?_)
 intro e W hpost
 obtain ⟨r,he,hsm,hjt,hjf⟩:∃ r,e = .returned (.bool r) ∧ Same I w2 W ∧ (r = true → J (i + 1) W) ∧ (r = false → Jx W):=by
  obtain ⟨hsm,⟨rfl,hj⟩ | ⟨rfl,hj⟩⟩:=hpost
  ·exact ⟨true,rfl,hsm,fun _ => hj,fun h => (by cases h)⟩
  ·exact ⟨false,rfl,hsm,fun h => (by cases h),fun _ => hj⟩
 subst he
 refine ⟨_,rfl,?_⟩
 show wpOpsIn (Fw none) nn Tryz.prog _ _ [4] (a2.put (some 35) (.bool r)) W
 have hs4:Same I w W:=hs2.trans hsm
 refine region_rest (G:=[]) (nt:=38) (s:=⟨[(35,bo r)] ++ anyS (List.range 38),[],0⟩) (ds:=⟨[],(· ∈ [36]),(a2.put (some 35) (.bool r)).tmps⟩) .nil 4 (by decide) (K:=fun s => slot s.t 36 = bo (!r)) (by kernel_rfl) (fun j hj => hj) ?_ (SR.anew (ltI hs4) (slots_R ((put_size _ _).trans z2) ?_) ((put_size _ _).trans z2) d2 (fun _ _ => rfl)) ?_
 ·refine regP_go (K1:=fun t _ => slot t 36 = bo (!r)) ?_
  simp only [go_sem,List.range,List.range.loop]
 ·intro p hp; simp only [List.mem_singleton] at hp; subst hp; dsimp only; rw [put_at z35]; exact .v
 intro s5 ρ5 a5 w5 q1 q2
 have bel5:RowKit.Below W.heap.size W w5:=q2.rel.below
 have hs5:Same I w w5:=hs4.trans (Same.of_below bel5 (ltI hs4))
 have d5:a5.defers = []:=q2.defers
 have z5:=q2.size
 have f5:∀ j,¬ j ∈ [36] → 35 ≠ j → a5.tmps.getD j undef = a2.tmps.getD j undef:=fun j h1 h2 => (q2.frame j h1).trans (put_not z35 h2)
 have v36:=q2.val q1
 clear q1 q2
 refine wpIn_cond_split v36 (fun hb => ?_) (fun hb => ?_)
 ·have hr:r = false:=by simpa using hb
  have hjx:Jx w5:=hJx W w5 (hjf hr) bel5
  refine wpIn_ret ?_
  show LeavesInM Fence.wide nn Tryz.prog Tryz.f161 a5.tmps _ a5.defers .returning w5
  exact leave_nil d5 rfl fun v => ⟨⟨v,rfl⟩,.inr hjx⟩
 ·have hr:r = true:=by simpa using hb
  have hj5:J (i + 1) w5:=hJ (i + 1) W w5 (hjt hr) bel5
  refine wpIn_skip ?_
  show Code.wpIn Fence.wide nn Tryz.prog (Code.region 8 _ false) _ a5 w5
  have g2:∀ j,¬ j ∈ [15] → ¬ j ∈ [16,17,18,5,4,19,20,21,22,6,23,24,25,26,27,28,29,30,31,32,33,34,35,36] → a5.tmps.getD j undef = a3.tmps.getD j undef:=fun j h1 h2 => by
   rw [f5 j (fun h => h2 (by simp at h; subst h; decide)) (fun h => h2 (by subst h; decide)),f2 j h2,f1 j h1]
  refine pieceI (G:=[]) (H:=[]) .nil hm (l:=[(14,i64 i)]) (W:=[37,14]) (K:=fun e s => match e with | .normal => slot s.t 14 = i64 (i + 1) | _ => False) (by kernel_rfl) (by kernel_rfl) (by kernel_rfl) ?_ (ltI hs5) z5 ?_ ?_
  ·refine awp_go (K1:=fun e t _ => match e with | .normal => slot t 14 = i64 (i + 1) | _ => False) ?_
   simp only [go_sem,List.range,List.range.loop]
   intro z hz
   have e1:IntKind.i64.wrap ((i:Int) + 1) = i + 1:=wrap_in (by unfold inR; omega)
   rw [hz,e1]
  ·intro p hp; simp only [List.mem_singleton] at hp; subst hp; dsimp only; rw [g2 14 (by decide) (by decide),hAt.t14]; exact .v
  intro e s6 ρ6 a6 w6 q1 q2
  cases e with
  | exit j => exact q1.elim
  | ret => exact q1.elim
  | normal =>
  have bel6:RowKit.Below w5.heap.size w5 w6:=q2.rel.below
  have f6:∀ j,¬ j ∈ [37,14] → a6.tmps.getD j undef = a5.tmps.getD j undef:=q2.frame
  refine ih a6 w6 (i + 1) ⟨q2.size,q2.defers.trans d5,?_,?_,?_,?_,?_,?_,by omega,hJ (i + 1) w5 w6 hj5 bel6,hs5.trans (Same.of_below bel6 (ltI hs5))⟩ (by omega)
  ·rw [f6 0 (by decide),g2 0 (by decide) (by decide),hAt.t0]
  ·rw [f6 1 (by decide),g2 1 (by decide) (by decide),hAt.t1]
  ·rw [f6 3 (by decide),g2 3 (by decide) (by decide),hAt.t3]
  ·rw [f6 12 (by decide),g2 12 (by decide) (by decide),hAt.t12]
  ·rw [f6 13 (by decide),g2 13 (by decide) (by decide),hAt.t13]
  ·have:=q2.val q1; rw [this]; rfl
end Go.Ax
end
section
/-
  Spots: sides, convex spots.
-/
set_option maxHeartbeats 1000000
set_option maxRecDepth 100000
namespace Go.Ax
open Go.Proofs
def c190:Con
 | [.agg [.v (.int .i64 a),.v (.int .i64 b)],.agg [.v (.int .i64 c),.v (.int .i64 d)],.agg [.v (.int .i64 e),.v (.int .i64 f)]] => some ([],i64 (sideS a b c d e f))
 | _ => none
theorem turn_wrap' {ax ay bx byy cx cy:Int} (ha:validS ax ay = true) (hb:validS bx byy = true) (hc:validS cx cy = true) :
  IntKind.i64.wrap (IntKind.i64.wrap (IntKind.i64.wrap (bx - ax) * IntKind.i64.wrap (cy - ay)) - IntKind.i64.wrap (IntKind.i64.wrap (byy - ay) * IntKind.i64.wrap (cx - ax))) = turnS ax ay bx byy cx cy:=turn_wrap ha hb hc
theorem con190:ConOK Tryz.prog 190 c190:=ConOK.of (G:=[(129,c129),(192,c162),(133,c133)]) (H:=[]) (.cons con129 (.cons con192 (.cons con133 .nil))) Tryz.func190 fun l ob r hc hob => by
 unfold c190 at hc
 split at hc
 ·rename_i a b c d e f
  cases hc
  refine ⟨by kernel_rfl,fnVC_go (rs:=[.tmp 6]) rfl rfl ?_⟩
  simp only [go_sem,c129,c133,c162]
  intro z hz z1 hz1 z2 hz2
  subst hz hz1 hz2
  refine ⟨fun h => ?_,fun h x0 h0 x1 h1 x2 h2 x3 h3 t ht => ?_⟩
  ·unfold sideS; rw [if_neg]; rintro ⟨k1,k2,k3⟩; rw [k1,k2,k3] at h; simp at h
  ·have hv:validS a b = true ∧ validS c d = true ∧ validS e f = true:=⟨h.1.1,h.1.2,h.2⟩
   subst h0 h1 h2 h3
   rw [turn_wrap' hv.1 hv.2.1 hv.2.2] at ht
   refine ⟨fun k => ?_,fun k => ⟨fun k2 => ?_,fun k2 => ?_⟩⟩
   ·unfold sideS; rw [if_pos hv,← ht,if_pos k]
   ·unfold sideS; rw [if_pos hv,← ht,if_neg k,if_pos k2]
   ·unfold sideS; rw [if_pos hv,← ht,if_neg k,if_neg k2]
 ·cases hc
def c85:Con
 | [.agg [.ro n 2 g]] => some ([],.fn 161 [.rop [.ro n 2 g]])
 | _ => none
theorem con85:ConOK Tryz.prog 85 c85:=ConOK.of (G:=[]) (H:=[]) .nil Tryz.func85 fun l ob r hc hob => by
 unfold c85 at hc
 split at hc
 ·rename_i n g
  cases hc
  refine ⟨by kernel_rfl,fnVC_go (rs:=[.tmp 2]) rfl rfl ?_⟩
  simp only [go_sem]
 ·cases hc
theorem tmod_nxt {n i:Nat} (h:i < n):Int.tmod ((i:Int) + 1) n = (nxt n i:Nat):=by
 unfold nxt
 by_cases e:i + 1 < n
 ·rw [if_pos e,Int.tmod_eq_of_lt (by omega) (by omega)]; rfl
 ·have:i + 1 = n:=by omega
  rw [if_neg e,show (i:Int) + 1 = n by omega,Int.tmod_self]; rfl
def convexS (n:Nat) (X Y:Nat → Int):Bool:=decide (3 ≤ n ∧ (∀ i,i < n → validS (X i) (Y i) = true) ∧ ∀ i,i < n → ∀ k,k < n → k ≠ i → k ≠ nxt n i → 0 < turnS (X i) (Y i) (X (nxt n i)) (Y (nxt n i)) (X k) (Y k))
theorem convexS_iff {n:Nat} {X Y:Nat → Int}:convexS n X Y = true ↔ 3 ≤ n ∧ (∀ i,i < n → validS (X i) (Y i) = true) ∧ ∀ i,i < n → ∀ k,k < n → k ≠ i → k ≠ nxt n i → 0 < turnS (X i) (Y i) (X (nxt n i)) (Y (nxt n i)) (X k) (Y k):=by unfold convexS; simp
def c37:Con
 | [.ro n 2 g] => some ([spots n g,n ≤ 9223372036854775806],bo (convexS n (gx g 0) (gx g 1)))
 | _ => none
theorem vc37 (n:Nat) (X Y:Nat → Int) (hX:∀ i,i < n → inR (X i) ∧ inR (Y i)) (hn:n ≤ 9223372036854775806):fnVC Tryz.prog [(50,c50),(86,c86),(85,c85),(1000000 + 161,c161)] [] Tryz.f37 [.ro n 2 fun i => [i64 (X i),i64 (Y i)]] (· = bo (convexS n X Y)):=by
 refine fnVC_go (rs:=[.cell 2 4]) rfl rfl ?_
 simp only [go_sem,c50,c85]
 intro z hz
 have hg:spots n fun i => [i64 (X i),i64 (Y i)]:=fun i hi => ⟨rfl,hX i hi⟩
 have hzz:z = true ↔ ∀ i,i < n → validS (X i) (Y i) = true:=by rw [hz]; exact fairS_iff
 refine ⟨fun _ => hg,fun _ => by omega,fun h => false_of fun hc => ?_,fun h => ?_⟩
 ·have:=convexS_iff.1 hc
  rcases h with h | h
  ·omega
  ·rw [hzz.2 this.2.1] at h; cases h
 have hv:=hzz.1 h.2
 have h3:3 ≤ n:=by omega
 let good:Nat → Prop:=fun i => ∀ k,k < n → k ≠ i → k ≠ nxt n i → 0 < turnS (X i) (Y i) (X (nxt n i)) (Y (nxt n i)) (X k) (Y k)
 refine rangeC_go (fun (i:Nat) => i ≤ n ∧ ∀ j,j < i → good j) (fun i => i) (fun i => [(10,fam1 3 1 [i64 i] none)]) [1,0] [19,20,4,5,21,22,23,24,25,26,27,7,6,28,29,30,31,32,33,34,35,36,37,38,39,40,41,42,43,44,45,46,47,23,48,49] 0 0 (N:=n) (sq:=edgeE n fun i => [i64 (X i),i64 (Y i)]) (ob:=[spots n fun i => [i64 (X i),i64 (Y i)],n ≤ 9223372036854775806]) rfl (by simp [hg,hn]) (by kernel_rfl) rfl (fun i _ => ⟨rfl,rfl⟩) ⟨Nat.zero_le _,fun j hj => by omega⟩ rfl ⟨[],?_,?_,?_⟩ ?_ ?_
 ·simp only [go_sem]
 ·simp only [go_sem]
 ·simp [goodNames,asg]
 ·intro i hi hlt
  simp only [go_sem,edgeE]
  have hnl:nxt n i < n:=nxt_lt hlt
  have hin:i < n:=hlt
  refine loopC_go (fun (k:Nat) => k ≤ n ∧ ∀ q,q < k → q ≠ i → q ≠ nxt n i → 0 < turnS (X i) (Y i) (X (nxt n i)) (Y (nxt n i)) (X q) (Y q)) (fun k => n - k) (fun k => [(23,i64 k)]) (fun _ => []) [17,15,10,1,0] [24,25,26,27,7,6,28,29,30,31,32,33,34,35,36,37,38,39,40,41,42,43,44,45,46,47,23] 0 (by kernel_rfl) ?_ ⟨Nat.zero_le _,fun j hj => by omega⟩ ?_ ?_
  ·intro x _; simp [goodNames]
  ·simp only [go_sem]
  ·intro k hk
   have hn0:((n:Int) = 0) = False:=eq_false (by omega)
   simp only [go_sem,c86,hn0]
   have ei:IntKind.i64.wrap ((i:Int) + 1) = i + 1:=wrap_in (by unfold inR; omega)
   have ek:k < n → IntKind.i64.wrap ((k:Int) + 1) = k + 1:=fun h => wrap_in (by unfold inR; omega)
   have bn:∀ x y:Nat,((x:Int) != (y:Int)) = true ↔ x ≠ y:=fun x y => by rw [bne_iff_ne]; omega
   refine ⟨fun hkn => ⟨by omega,hkn,fun z1 hz1 z2 hz2 t ht => ?_⟩,fun hkn z1 hz1 => ⟨i + 1,⟨by omega,fun j hj => ?_⟩,rfl,[],?_,?_⟩⟩
   ·rw [ei] at hz1
    rw [hz1,tmod_nxt hin] at hz2
    subst hz2
    have hkn':k < n:=by omega
    refine ⟨fun _ => hv i hin,fun _ => hv _ hnl,fun _ => hv k hkn',fun hb => false_of fun hc => ?_,fun hb z3 hz3 => ⟨k + 1,⟨by omega,fun q hq h1 h2 => ?_⟩,by omega,?_⟩⟩
    ·have:=(convexS_iff.1 hc).2.2 i hin k hkn' ((bn _ _).1 hb.1.1) ((bn _ _).1 hb.1.2)
     omega
    ·by_cases e:q = k
     ·subst e
      rw [(bn q i).2 h1,(bn q (nxt n i)).2 h2] at hb
      simp at hb
      omega
     ·exact hk.2 q (by omega) h1 h2
    ·rw [hz3,ek hkn']; omega
   ·by_cases e:j = i
    ·subst e
     intro q hq h1 h2
     exact hk.2 q (by omega) h1 h2
    ·exact hi.2 j (by omega)
   ·simp only [go_sem]
    rw [hz1,ei]; rfl
   ·simp [goodNames,asg]
 ·intro i hi he
  simp only [go_sem]
  refine (convexS_iff.2 ⟨h3,hv,fun j hj => ?_⟩).symm ▸ rfl
  exact hi.2 j (by omega)
theorem con37:ConOK Tryz.prog 37 c37:=ConOK.go (G:=[(50,c50),(86,c86),(85,c85),(1000000 + 161,c161)]) (H:=[]) (.cons con50 (.cons con86 (.cons con85 (.seq seq161 .nil)))) Tryz.func37 fun l ob r hc hob => by
 unfold c37 at hc
 split at hc
 ·rename_i n g
  cases hc
  have hs:spots n g:=hob _ (by simp)
  refine ⟨[.ro n 2 fun i => [i64 (gx g 0 i),i64 (gx g 1 i)]],fun w I vs h => Rs_one (fun v => ro_alike fun i hi => (hs i hi).1) h,by kernel_rfl,vc37 n _ _ (fun i hi => (hs i hi).2) (hob _ (by simp))⟩
 ·cases hc
end Go.Ax
end
section
/-
  Spots: what the reference says; copies of spots.
-/
set_option maxHeartbeats 1000000
set_option maxRecDepth 100000
namespace Go.Ax
open Go.Proofs
theorem vc132 (n:Nat) (X Y:Nat → Int) (hX:∀ i,i < n → inR (X i) ∧ inR (Y i)) (hn:n ≤ 9223372036854775806):fnVC Tryz.prog [(190,c190),(129,c129)] [] Tryz.f132 [.ro n 2 fun i => [i64 (X i),i64 (Y i)]] (· = bo (convexS n X Y)):=by
 refine fnVC_go (rs:=[.tmp 2]) rfl rfl ?_
 simp only [go_sem]
 refine ⟨fun h => false_of fun hc => ?_,fun h => ?_⟩
 ·have:=convexS_iff.1 hc
  omega
 have h3:3 ≤ n:=by omega
 let good:Nat → Prop:=fun i => ∀ k,k < n → k ≠ i → k ≠ nxt n i → 0 < turnS (X i) (Y i) (X (nxt n i)) (Y (nxt n i)) (X k) (Y k)
 refine loopC_go (fun (i:Nat) => i ≤ n ∧ (0 < i → ∀ k,k < n → validS (X k) (Y k) = true) ∧ ∀ j,j < i → good j) (fun i => n - i) (fun i => [(3,i64 i)]) (fun _ => []) [] [9,10,11,12,15,16,17,18,19,4,5,20,21,22,23,26,27,28,29,30,31,32,33,34,35,36,37,38,39,40,41,42,43,44,45,46,47,48,49,50,51,52,53,54,55,56,57,2,24,25,5,13,14,3] 0 (by kernel_rfl) ?_ ⟨Nat.zero_le _,fun h => by omega,fun j hj => by omega⟩ ?_ ?_
 ·intro x _; simp [goodNames]
 ·simp only [go_sem]
 ·intro i hi
  have hn0:((n:Int) = 0) = False:=eq_false (by omega)
  simp only [go_sem,hn0]
  refine ⟨fun hin z hz z1 hz1 => ?_,fun hin => (convexS_iff.2 ⟨h3,hi.2.1 (by omega),fun j hj => hi.2.2 j (by omega)⟩).symm⟩
  have hin:i < n:=by omega
  have ei:IntKind.i64.wrap ((i:Int) + 1) = i + 1:=wrap_in (by unfold inR; omega)
  rw [ei] at hz
  rw [hz,tmod_nxt hin] at hz1
  have hnl:nxt n i < n:=nxt_lt hin
  subst hz1
  refine loopC_go (fun (k:Nat) => k ≤ n ∧ ∀ q,q < k → validS (X q) (Y q) = true ∧ (q ≠ i → q ≠ nxt n i → 0 < turnS (X i) (Y i) (X (nxt n i)) (Y (nxt n i)) (X q) (Y q))) (fun k => n - k) (fun k => [(5,i64 k)]) (fun _ => []) [] [20,21,22,23,26,27,28,29,30,31,32,33,34,35,36,37,38,39,40,41,42,43,44,45,46,47,48,49,50,51,52,53,54,55,56,57,2,24,25,5] 0 (by kernel_rfl) ?_ ⟨Nat.zero_le _,fun j hj => by omega⟩ ?_ ?_
  ·intro x _; simp [goodNames]
  ·simp only [go_sem]
  ·intro k hk
   simp only [go_sem,c190,c129]
   have bn:∀ x y:Nat,((x:Int) != (y:Int)) = true ↔ x ≠ y:=fun x y => by rw [bne_iff_ne]; omega
   refine ⟨fun hkn => ⟨by omega,hkn,fun z1 hz1 => ⟨fun h1 h2 => ⟨h1,h2⟩,fun _ => by omega,fun _ => by omega,fun _ => by omega,fun _ => by omega,fun _ => by omega,fun _ => by omega,fun t ht => ⟨fun h1 h2 => ⟨h1,h2⟩,fun hb => false_of fun hc => ?_,fun hb z3 hz3 => ⟨k + 1,⟨by omega,fun q hq => ?_⟩,by omega,?_⟩⟩⟩⟩,fun hkn z1 hz1 => ⟨i + 1,⟨by omega,fun _ q hq => (hk.2 q (by omega)).1,fun j hj => ?_⟩,by omega,?_⟩⟩
   ·have hkn':k < n:=by omega
    obtain ⟨_,k2,k3⟩:=convexS_iff.1 hc
    rcases hb with hb | hb
    ·rw [hb,k2 k hkn'] at hz1; cases hz1
    ·have hp:=k3 i hin k hkn' ((bn _ _).1 hb.1.1) ((bn _ _).1 hb.1.2)
     have:t = 1:=by rw [ht]; unfold sideS; rw [if_pos ⟨k2 i hin,k2 _ hnl,k2 k hkn'⟩,if_pos hp]
     omega
   ·by_cases e:q = k
    ·subst e
     rw [← hz1]
     refine ⟨hb.1,fun h1 h2 => ?_⟩
     have hb2:=hb.2
     rw [(bn q i).2 h1,(bn q (nxt n i)).2 h2] at hb2
     simp at hb2
     rw [ht] at hb2
     unfold sideS at hb2
     split at hb2
     ·split at hb2
      ·assumption
      ·split at hb2 <;> omega
     ·omega
    ·exact hk.2 q (by omega)
   ·rw [hz3,wrap_in (by unfold inR; omega)]; rfl
   ·by_cases e:j = i
    ·subst e
     intro q hq h1 h2
     exact (hk.2 q (by omega)).2 h1 h2
    ·exact hi.2.2 j (by omega)
   ·rw [hz1,ei]; rfl
theorem con132:ConOK Tryz.prog 132 c37:=ConOK.go (G:=[(190,c190),(129,c129)]) (H:=[]) (.cons con190 (.cons con129 .nil)) Tryz.func132 fun l ob r hc hob => by
 unfold c37 at hc
 split at hc
 ·rename_i n g
  cases hc
  have hs:spots n g:=hob _ (by simp)
  refine ⟨[.ro n 2 fun i => [i64 (gx g 0 i),i64 (gx g 1 i)]],fun w I vs h => Rs_one (fun v => ro_alike fun i hi => (hs i hi).1) h,by kernel_rfl,vc132 n _ _ (fun i hi => (hs i hi).2) (hob _ (by simp))⟩
 ·cases hc
def c56:Con
 | [.ro n 2 g] => some ([spots n g,n ≤ 1000],.ro n 2 fun i => [i64 (gx g 0 i),i64 (gx g 1 i)])
 | _ => none
theorem vc56 (n:Nat) (X Y:Nat → Int) (hn:n ≤ 1000):fnVC Tryz.prog [] [] Tryz.f56 [.ro n 2 fun i => [i64 (X i),i64 (Y i)]] (· = .ro n 2 fun i => [i64 (X i),i64 (Y i)]):=by
 refine fnVC_go (rs:=[.tmp 2]) rfl rfl ?_
 simp only [go_sem]
 refine loopN_go (fun (i:Nat) => i ≤ n) (fun i => n - i) (fun i => [(4,i64 i),(3,.own 3 0 i 2)]) (fun i => [(3,famN i 2 29 (fun k => [i64 (X k),i64 (Y k)]) none)]) [] [5,6,7,8,11,12,13,14,15,16,17,3,9,10,4] 1 0 (by kernel_rfl) (Nat.zero_le _) ⟨[(3,none)],?_,?_,?_,?_⟩ ?_
 ·simp only [go_sem]
 ·simp only [go_sem]
 ·simp only [go_sem]
 ·exact goodNames_one (k:=0) (by decide) (fun z h => by cases h)
 intro i hi
 simp only [go_sem]
 refine ⟨fun hlt => ⟨by omega,hlt,?_,by omega,fun z hz => ⟨i + 1,by omega,by omega,[(3,some 14)],⟨?_,by rw [fit1_named (r:=0)]; exact ⟨by omega,rfl⟩⟩,?_,goodNames_one (k:=0) (by decide) (fun z h => by cases h; decide)⟩⟩,fun hge => ?_⟩
 ·rw [show bytesT Tryz.prog 29 = 16 by kernel_rfl]; omega
 ·rw [wrap_i64] at hz; omega
 ·rw [fitRows_some]
  simp only [go_sem]
  intro k hk
  by_cases e:k < i
  ·rw [if_pos e]; simp only [go_sem]
  ·have e:k = i:=by omega
   subst e
   rw [if_neg (by omega),Nat.sub_self]
   simp only [Nat.zero_mul,go_sem]
 ·have e:i = n:=by omega
  subst e; rfl
theorem con56:ConOK Tryz.prog 56 c56:=ConOK.go (G:=[]) (H:=[]) .nil Tryz.func56 fun l ob r hc hob => by
 unfold c56 at hc
 split at hc
 ·rename_i n g
  cases hc
  have hs:spots n g:=hob _ (by simp)
  refine ⟨[.ro n 2 fun i => [i64 (gx g 0 i),i64 (gx g 1 i)]],fun w I vs h => Rs_one (fun v => ro_alike fun i hi => (hs i hi).1) h,by kernel_rfl,vc56 n _ _ (hob _ (by simp))⟩
 ·cases hc
def c71:Con
 | [.ro n 2 g,.ro m 2 g'] => some ([spots n g,spots m g',n ≤ 9223372036854775806,m ≤ 9223372036854775806],bo (decide (n = m ∧ ∀ i,i < n → gx g 0 i = gx g' 0 i ∧ gx g 1 i = gx g' 1 i)))
 | _ => none
theorem vc71 (n m:Nat) (X Y Z T:Nat → Int) (hn:n ≤ 9223372036854775806):fnVC Tryz.prog [] [] Tryz.f71 [.ro n 2 fun i => [i64 (X i),i64 (Y i)],.ro m 2 fun i => [i64 (Z i),i64 (T i)]] (· = bo (decide (n = m ∧ ∀ i,i < n → X i = Z i ∧ Y i = T i))):=by
 refine fnVC_go (rs:=[.tmp 4]) rfl rfl ?_
 simp only [go_sem]
 refine ⟨fun h => ?_,fun h => ?_⟩
 ·refine (decide_eq_false fun hc => ?_).symm
  rw [bne_iff_ne] at h; omega
 refine loopC_go (fun (i:Nat) => i ≤ n ∧ ∀ j,j < i → X j = Z j ∧ Y j = T j) (fun i => n - i) (fun i => [(5,i64 i)]) (fun _ => []) [] [11,12,13,14,17,18,19,20,21,22,23,24,25,4,15,16,5] 0 (by kernel_rfl) ?_ ⟨Nat.zero_le _,fun j hj => by omega⟩ ?_ ?_
 ·intro x _; simp [goodNames]
 ·simp only [go_sem]
 ·intro i hi
  simp only [go_sem]
  have hnm:n = m:=by
   have:¬ ((n:Int) != m) = true:=by rw [h]; simp
   rw [bne_iff_ne] at this; omega
  subst hnm
  refine ⟨fun hin => ⟨by omega,hin,by omega,hin,fun hb => ?_,fun hb z hz => ⟨i + 1,⟨by omega,fun j hj => ?_⟩,by omega,?_⟩⟩,fun hin => ?_⟩
  ·refine (decide_eq_false fun hc => ?_).symm
   have:=hc.2 i (by omega)
   rw [this.1,this.2] at hb
   simp at hb
  ·by_cases e:j = i
   ·subst e; exact ⟨by simpa using hb.1,by simpa using hb.2⟩
   ·exact hi.2 j (by omega)
  ·rw [hz,wrap_in (by unfold inR; omega)]; rfl
  ·exact (decide_eq_true ⟨rfl,fun j hj => hi.2 j (by omega)⟩).symm
theorem con71:ConOK Tryz.prog 71 c71:=ConOK.go (G:=[]) (H:=[]) .nil Tryz.func71 fun l ob r hc hob => by
 unfold c71 at hc
 split at hc
 ·rename_i n g m g'
  cases hc
  have hs:spots n g:=hob _ (by simp)
  have hs':spots m g':=hob _ (by simp)
  refine ⟨[.ro n 2 fun i => [i64 (gx g 0 i),i64 (gx g 1 i)],.ro m 2 fun i => [i64 (gx g' 0 i),i64 (gx g' 1 i)]],fun w I vs h => ?_,by kernel_rfl,vc71 n m _ _ _ _ (hob _ (by simp))⟩
  obtain ⟨x,xs,rfl,h1,h2⟩:=h.inv
  exact .cons (ro_alike (fun i hi => (hs i hi).1) h1) (Rs_one (fun v => ro_alike fun i hi => (hs' i hi).1) h2)
 ·cases hc
end Go.Ax
end
section
/-
  Forms: what is valid; copies; which spots a form has.
-/
set_option maxHeartbeats 1000000
set_option maxRecDepth 100000
namespace Go.Ax
open Go.Proofs
abbrev formA (k x y r:Int) (n:Nat) (g:Nat → List AV):AV:=.agg [i64 k,i64 x,i64 y,i64 r,.ro n 2 g]
theorem Rs_form {w:World} {ρ:Env} {k x y r:Int} {n:Nat} {g:Nat → List AV} (hs:spots n g) (v:Value) (h:R w ρ (formA k x y r n g) v):R w ρ (formA k x y r n fun i => [i64 (gx g 0 i),i64 (gx g 1 i)]) v:=by
 cases h with
 | agg hl hh =>
  refine .agg hl fun i a z h1 h2 => ?_
  match i with
  | 0 => exact hh 0 a z h1 h2
  | 1 => exact hh 1 a z h1 h2
  | 2 => exact hh 2 a z h1 h2
  | 3 => exact hh 3 a z h1 h2
  | 4 =>
   simp at h1; subst h1
   exact ro_alike (fun i hi => (hs i hi).1) (hh 4 _ z rfl h2)
  | j + 5 => simp at h1
theorem Rs_poly {w:World} {ρ:Env} {n:Nat} {g:Nat → List AV} (hs:spots n g) (v:Value) (h:R w ρ (.agg [.ro n 2 g]) v):R w ρ (.agg [.ro n 2 fun i => [i64 (gx g 0 i),i64 (gx g 1 i)]]) v:=by
 cases h with
 | agg hl hh =>
  refine .agg hl fun i a z h1 h2 => ?_
  match i with
  | 0 =>
   simp at h1; subst h1
   exact ro_alike (fun i hi => (hs i hi).1) (hh 0 _ z rfl h2)
  | j + 1 => simp at h1
theorem Rs_two {w:World} {ρ:Env} {a a' b b':AV} {vs:List Value} (h:∀ v,R w ρ a v → R w ρ a' v) (k:∀ v,R w ρ b v → R w ρ b' v) (hR:Rs w ρ [a,b] vs):Rs w ρ [a',b'] vs:=by
 obtain ⟨x,xs,rfl,h1,h2⟩:=hR.inv
 exact .cons (h x h1) (Rs_one k h2)
def c17:Con
 | [.agg [.v (.int .i64 k),.v (.int .i64 x),.v (.int .i64 y),.v (.int .i64 r),.ro n 2 g]] => some ([],bo (decide ((n:Int) ≤ 12)))
 | _ => none
theorem con17:ConOK Tryz.prog 17 c17:=ConOK.of (G:=[]) (H:=[]) .nil Tryz.func17 fun l ob r hc hob => by
 unfold c17 at hc
 split at hc
 ·cases hc
  refine ⟨by kernel_rfl,fnVC_go (rs:=[.tmp 2]) rfl rfl ?_⟩
  simp only [go_sem]
 ·cases hc
def c18:Con
 | [.agg [.v (.int .i64 k),.v (.int .i64 x),.v (.int .i64 y),.v (.int .i64 r),.ro n 2 g]] => some ([spots n g,n ≤ 1000],formA k x y r n fun i => [i64 (gx g 0 i),i64 (gx g 1 i)])
 | _ => none
theorem con18:ConOK Tryz.prog 18 c18:=ConOK.of (G:=[(56,c56)]) (H:=[]) (.cons con56 .nil) Tryz.func18 fun l ob r hc hob => by
 unfold c18 at hc
 split at hc
 ·rename_i k x y r n g
  cases hc
  have hs:spots n g:=hob _ (by simp)
  have hn:n ≤ 1000:=hob _ (by simp)
  refine ⟨by kernel_rfl,fnVC_go (rs:=[.cell 2 31]) rfl rfl ?_⟩
  simp only [go_sem,c56]
  exact ⟨hs,hn⟩
 ·cases hc
def sameF (k x y r:Int) (n:Nat) (g:Nat → List AV) (k' x' y' r':Int) (n':Nat) (g':Nat → List AV):Bool:=
 (k == k') && (x == x' && y == y') && (r == r') && decide (n = n' ∧ ∀ i,i < n → gx g 0 i = gx g' 0 i ∧ gx g 1 i = gx g' 1 i)
def c22:Con
 | [.agg [.v (.int .i64 k),.v (.int .i64 x),.v (.int .i64 y),.v (.int .i64 r),.ro n 2 g],.agg [.v (.int .i64 k'),.v (.int .i64 x'),.v (.int .i64 y'),.v (.int .i64 r'),.ro n' 2 g']] => some ([spots n g,spots n' g',n ≤ 9223372036854775806,n' ≤ 9223372036854775806],bo (sameF k x y r n g k' x' y' r' n' g'))
 | _ => none
theorem con22:ConOK Tryz.prog 22 c22:=ConOK.of (G:=[(71,c71)]) (H:=[]) (.cons con71 .nil) Tryz.func22 fun l ob r hc hob => by
 unfold c22 at hc
 split at hc
 ·rename_i k x y r n g k' x' y' r' n' g'
  cases hc
  have hs:spots n g:=hob _ (by simp)
  have hs':spots n' g':=hob _ (by simp)
  have hn:n ≤ 9223372036854775806:=hob _ (by simp)
  have hn':n' ≤ 9223372036854775806:=hob _ (by simp)
  refine ⟨by kernel_rfl,fnVC_go (rs:=[.tmp 4]) rfl rfl ?_⟩
  simp only [go_sem,c71]
  intro z hz
  refine ⟨fun _ => hs,fun _ => hs',fun _ => hn,fun _ => hn',?_⟩
  rw [hz]; rfl
 ·cases hc
def c105:Con
 | [.agg [.v (.int .i64 a),.v (.int .i64 b)],.agg [.v (.int .i64 c),.v (.int .i64 d)]] => some ([],i64 (IntKind.i64.wrap (IntKind.i64.wrap (a * c) + IntKind.i64.wrap (b * d))))
 | _ => none
theorem con105:ConOK Tryz.prog 105 c105:=ConOK.of (G:=[]) (H:=[]) .nil Tryz.func105 fun l ob r hc hob => by
 unfold c105 at hc
 split at hc
 ·cases hc
  refine ⟨by kernel_rfl,fnVC_go (rs:=[.tmp 4]) rfl rfl ?_⟩
  simp only [go_sem]
  intro z h z1 h1 z2 h2
  rw [h2,h1,h]
 ·cases hc
theorem con134:ConOK Tryz.prog 134 c105:=ConOK.of (G:=[]) (H:=[]) .nil Tryz.func134 fun l ob r hc hob => by
 unfold c105 at hc
 split at hc
 ·cases hc
  refine ⟨by kernel_rfl,fnVC_go (rs:=[.tmp 4]) rfl rfl ?_⟩
  simp only [go_sem]
  intro z h z1 h1 z2 h2
  rw [h2,h1,h]
 ·cases hc
theorem con131:ConOK Tryz.prog 131 c51:=ConOK.of (G:=[]) (H:=[]) .nil Tryz.func131 fun l ob r hc hob => by
 unfold c51 at hc
 split at hc
 ·cases hc
  refine ⟨by kernel_rfl,fnVC_go (rs:=[.cell 4 47]) rfl rfl ?_⟩
  simp only [go_sem]
  intro z h z1 h1 z2 h2 z3 h3
  subst h h1 h2 h3
  rfl
 ·cases hc
theorem wrap_inR (x:Int):inR (IntKind.i64.wrap x):=by rw [wrap_i64]; unfold inR; omega
theorem fair1 {a b:Int} {g:Nat → List AV} (h0:g 0 = [i64 a,i64 b]):fairS 1 (gx g 0) (gx g 1) = validS a b:=by
 rw [Bool.eq_iff_iff,fairS_iff]
 constructor
 ·intro h
  have k0:=h 0 (by omega)
  simp only [gx,h0,gi_0,gi_1] at k0
  exact k0
 ·intro h i hi
  have:i = 0:=by omega
  subst this
  simp only [gx,h0,gi_0,gi_1]; exact h
theorem spots1 {a b:Int} {g:Nat → List AV} (h0:g 0 = [i64 a,i64 b]) (ha:inR a) (hb:inR b):spots 1 g:=by
 intro i hi
 have:i = 0:=by omega
 subst this
 simp only [gx,h0,gi_0,gi_1]; exact ⟨trivial,ha,hb⟩
def checkS (k x y r:Int) (n:Nat) (X Y:Nat → Int):Int:=
 if k ≠ 1 ∧ k ≠ 2 then 8
 else if ¬ (validS x y = true ∧ ∀ i,i < n → validS (X i) (Y i) = true) then 3
 else if k = 1 then (if 1 ≤ r ∧ (2097152 < r ∨ checkBoxS (x - r) (y - r) (x + r) (y + r) ≠ 0) then 3 else if r < 1 ∨ 0 < n then 5 else 0)
 else if r ≠ 0 ∨ 8 < n ∨ convexS n X Y = false then 5 else 0
instance {n:Nat} {X Y:Nat → Int}:Decidable (∀ i,i < n → validS (X i) (Y i) = true):=inferInstance
def c10:Con
 | [.agg [.v (.int .i64 k),.v (.int .i64 x),.v (.int .i64 y),.v (.int .i64 r),.ro n 2 g]] => some ([spots n g,n ≤ 9223372036854775806,inR x,inR y,inR r],i64 (checkS k x y r n (gx g 0) (gx g 1)))
 | _ => none
theorem con10:ConOK Tryz.prog 10 c10:=ConOK.of (G:=[(15,c15),(37,c37),(50,c50),(51,c51)]) (H:=[]) (.cons con15 (.cons con37 (.cons con50 (.cons con51 .nil)))) Tryz.func10 fun l ob r hc hob => by
 unfold c10 at hc
 split at hc
 ·rename_i k x y r n g
  cases hc
  have hs:spots n g:=hob _ (by simp)
  have hn:n ≤ 9223372036854775806:=hob _ (by simp)
  have hx:inR x:=hob _ (by simp)
  have hy:inR y:=hob _ (by simp)
  have hr:inR r:=hob _ (by simp)
  refine ⟨by kernel_rfl,fnVC_go (rs:=[.tmp 2]) rfl rfl ?_⟩
  simp only [go_sem,c15,c37,c50,c51]
  have hfa:fairS 1 (gx (rowsOf 2 [AV.v (Value.int IntKind.i64 x),AV.v (Value.int IntKind.i64 y)]) 0) (gx (rowsOf 2 [AV.v (Value.int IntKind.i64 x),AV.v (Value.int IntKind.i64 y)]) 1) = validS x y:=fair1 rfl
  have hsp:spots 1 (rowsOf 2 [AV.v (Value.int IntKind.i64 x),AV.v (Value.int IntKind.i64 y)]):=spots1 rfl hx hy
  rw [hfa]
  refine ⟨fun h => ?_,fun h z hz => ⟨hsp,fun z1 hz1 => ⟨fun _ => hs,fun _ => by omega,fun h3 => ?_,fun h3 z2 hz2 => ⟨fun _ => wrap_inR _,fun _ => wrap_inR _,fun _ => wrap_inR _,fun _ => wrap_inR _,fun a b => ⟨a,b⟩,fun h4 => ?_,fun h4 => ⟨fun a b => ⟨a,b⟩,fun h5 => ?_,fun h5 => ⟨fun a b => ⟨a,b⟩,fun z3 hz3 => ⟨fun _ => hs,fun _ => hn,fun a b => ⟨a,b⟩,fun h6 => ?_,fun h6 => ?_⟩⟩⟩⟩⟩⟩⟩
  ·have h1:k ≠ 1 ∧ k ≠ 2:=by simpa using h
   unfold checkS; rw [if_pos h1]
  ·have h1:¬ (k ≠ 1 ∧ k ≠ 2):=by simp at h; omega
   have h2:¬ (validS x y = true ∧ ∀ i,i < n → validS (gx g 0 i) (gx g 1 i) = true):=by
    rintro ⟨v1,v2⟩
    rw [← fairS_iff] at v2
    rw [v1] at hz; rw [v2] at hz1
    simp [hz,hz1] at h3
   unfold checkS; rw [if_neg h1,if_pos h2]
  all_goals
   have h1:¬ (k ≠ 1 ∧ k ≠ 2):=by simp at h; omega
   have v1:validS x y = true:=by rw [← hz]; exact h3.1
   have v2:∀ i,i < n → validS (gx g 0 i) (gx g 1 i) = true:=by rw [← fairS_iff,← hz1]; exact h3.2
   have v3:=validS_iff.1 v1
   have h2:¬ ¬ (validS x y = true ∧ ∀ i,i < n → validS (gx g 0 i) (gx g 1 i) = true):=fun hn => hn ⟨v1,v2⟩
   have hb:0 < r → ¬ 2097152 < r → z2 = checkBoxS (x - r) (y - r) (x + r) (y + r):=fun a b => by
    rw [hz2,wrap_in (x:=x - r) (by unfold inR; omega),wrap_in (x:=y - r) (by unfold inR; omega),wrap_in (x:=x + r) (by unfold inR; omega),wrap_in (x:=y + r) (by unfold inR; omega)]
   unfold checkS
   rw [if_neg h1,if_neg h2]
  ·simp only [beq_iff_eq,bne_iff_ne,ne_eq] at h4
   rw [if_pos h4.1.1,if_pos]
   refine ⟨by omega,?_⟩
   by_cases hr2:2097152 < r
   ·exact .inl hr2
   ·rw [← hb h4.1.2 hr2]; exact .inr (h4.2.resolve_left hr2)
  all_goals
   have h4':k = 1 → ¬ (1 ≤ r ∧ (2097152 < r ∨ checkBoxS (x - r) (y - r) (x + r) (y + r) ≠ 0)):=by
    rintro hk ⟨a,b⟩
    have a':0 < r:=by omega
    simp only [hk,beq_self_eq_true,Bool.true_and,a',decide_true,Bool.or_eq_false_iff,decide_eq_false_iff_not,bne_eq_false_iff_eq] at h4
    rw [← hb a' h4.1] at b
    rcases b with b | b
    ·exact h4.1 b
    ·exact b h4.2
  ·have hk:k = 1:=by simpa using h5.1
   rw [if_pos hk,if_neg (h4' hk),if_pos (by have:=h5.2; omega)]
  ·have hk:k ≠ 1:=by simpa using h6.1
   rw [if_neg hk,if_pos]
   rw [← hz3]
   have:=h6.2
   simp only [bne_iff_ne] at this
   rcases this with (a | a) | a
   ·exact .inl a
   ·exact .inr (.inl (by omega))
   ·exact .inr (.inr a)
  ·by_cases hk:k = 1
   ·simp only [hk,beq_self_eq_true,Bool.true_and,Bool.or_eq_false_iff,decide_eq_false_iff_not] at h5
    rw [if_pos hk,if_neg (h4' hk),if_neg (by omega)]
   ·have hk':(k == 1) = false:=by simpa using hk
    rw [if_neg hk,if_neg]
    rw [← hz3]
    simp only [hk',Bool.not_false,Bool.true_and,Bool.or_eq_false_iff,bne_eq_false_iff_eq,decide_eq_false_iff_not,Bool.not_eq_false'] at h6
    rintro (a | a | a)
    ·exact a h6.1.1
    ·exact h6.1.2 (by omega)
    ·rw [h6.2] at a; cases a
 ·cases hc
end Go.Ax
end