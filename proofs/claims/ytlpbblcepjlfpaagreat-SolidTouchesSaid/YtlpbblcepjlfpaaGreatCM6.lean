/-
  Shapes: which are sound.
-/
import Derived.Test.YtlpbblcepjlfpaaGreatCM5
set_option linter.unusedVariables false
set_option linter.unusedSimpArgs false
section
set_option maxHeartbeats 4000000
set_option maxRecDepth 100000
namespace Go.Ax
open Go.Proofs
def lo (x:Int):Prop:=-4096 ≤ x ∧ x ≤ 4096
theorem lo_mul {x y:Int} (hx:lo x) (hy:lo y):-16777216 ≤ x * y ∧ x * y ≤ 16777216:=by
 have:=mul_bd (A:=4096) (B:=4096) (by omega) hx hy
 omega
def lo2 (x:Int):Prop:=-8192 ≤ x ∧ x ≤ 8192
theorem lo2_mul {x y:Int} (hx:lo2 x) (hy:lo2 y):-67108864 ≤ x * y ∧ x * y ≤ 67108864:=by
 have:=mul_bd (A:=8192) (B:=8192) (by omega) hx hy
 omega
def cvxS (n:Nat) (X Y:Nat → Int):Bool:=decide (∀ i,i < n → (0 < X i * Y (nxt n i) - Y i * X (nxt n i) ∧ 4 * (ab (X (nxt n i) - X i) + ab (Y (nxt n i) - Y i) + (ab (X (nxt2 n i) - X (nxt n i)) + ab (Y (nxt2 n i) - Y (nxt n i)))) ≤ (X (nxt n i) - X i) * (Y (nxt2 n i) - Y (nxt n i)) - (Y (nxt n i) - Y i) * (X (nxt2 n i) - X (nxt n i))) ∧ ∀ j,j < n → j ≠ i → j ≠ nxt n i → 0 < (X (nxt n i) - X i) * (Y j - Y i) - (Y (nxt n i) - Y i) * (X j - X i))
def c89:Con
 | [.ro n 2 g] => some ([spots n g,n ≤ 1000,∀ i,i < n → lo (gx g 0 i) ∧ lo (gx g 1 i)],bo (cvxS n (gx g 0) (gx g 1)))
 | _ => none
theorem tmod_cast {n k:Nat} (h:0 < n):Int.tmod (k:Int) n = ((k % n:Nat):Int):=by
 rw [Int.tmod_eq_emod_of_nonneg (by omega),← Int.natCast_emod]
theorem ix_all {n i j:Nat} (hi:i < n) (hj:j < n) (h1:j ≠ i) (h2:j ≠ nxt n i):∃ k,2 ≤ k ∧ k < n ∧ (i + k) % n = j:=by
 unfold nxt at h2
 by_cases h:i < j
 ·refine ⟨j - i,?_,by omega,?_⟩
  ·rw [if_pos (by omega)] at h2; omega
  ·rw [show i + (j - i) = j by omega,Nat.mod_eq_of_lt hj]
 ·refine ⟨n + j - i,?_,by omega,?_⟩
  ·split at h2 <;> omega
  ·rw [show i + (n + j - i) = j + n by omega,Nat.add_mod_right,Nat.mod_eq_of_lt hj]
theorem ix_ne {n i k:Nat} (hi:i < n) (h2:2 ≤ k) (hk:k < n):(i + k) % n < n ∧ (i + k) % n ≠ i ∧ (i + k) % n ≠ nxt n i:=by
 refine ⟨Nat.mod_lt _ (by omega),?_⟩
 unfold nxt
 by_cases h:i + k < n
 ·rw [Nat.mod_eq_of_lt h]
  refine ⟨by omega,?_⟩
  split <;> omega
 ·rw [Nat.mod_eq_sub_mod (by omega),Nat.mod_eq_of_lt (by omega)]
  refine ⟨by omega,?_⟩
  split <;> omega
theorem vc103 (n:Nat) (X Y:Nat → Int) (hn:n ≤ 1000) (hl:∀ i,i < n → lo (X i) ∧ lo (Y i)):fnVC Tryz.prog [(182,c182),(183,c183),(184,c184)] [(5,⟨[(21,.made 18),(22,.made 19),(23,.made 20)],[(10,[.made 18]),(17,[.made 18,.made 19])]⟩)] Tryz.f103 [.ro n 2 fun i => [i64 (X i),i64 (Y i)]] (· = bo (cvxS n X Y)):=by
 refine fnVC_go (rs:=[.tmp 2]) rfl rfl ?_
 simp only [go_sem]
 obtain ⟨A,hA⟩:∃ A:Nat → Prop,A = fun i => 0 < X i * Y (nxt n i) - Y i * X (nxt n i) ∧ 4 * (ab (X (nxt n i) - X i) + ab (Y (nxt n i) - Y i) + (ab (X (nxt2 n i) - X (nxt n i)) + ab (Y (nxt2 n i) - Y (nxt n i)))) ≤ (X (nxt n i) - X i) * (Y (nxt2 n i) - Y (nxt n i)) - (Y (nxt n i) - Y i) * (X (nxt2 n i) - X (nxt n i)):=⟨_,rfl⟩
 obtain ⟨T,hT⟩:∃ T:Nat → Nat → Int,T = fun i j => (X (nxt n i) - X i) * (Y j - Y i) - (Y (nxt n i) - Y i) * (X j - X i):=⟨_,rfl⟩
 have hcv:cvxS n X Y = true ↔ ∀ i,i < n → A i ∧ ∀ j,j < n → j ≠ i → j ≠ nxt n i → 0 < T i j:=by
  subst hA hT
  unfold cvxS
  rw [decide_eq_true_eq]
 refine loopC_go (fun (i:Nat) => i ≤ n ∧ ∀ j,j < i → A j ∧ ∀ k,k < n → k ≠ j → k ≠ nxt n j → 0 < T j k) (fun i => n - i) (fun i => [(4,i64 i)]) (fun _ => []) [] [11,12,13,16,17,18,19,20,21,22,23,24,25,26,27,28,29,30,31,32,33,5,6,7,34,35,36,37,38,39,40,41,42,43,44,45,46,47,48,49,50,51,52,53,54,55,56,57,2,8,58,59,60,63,64,65,66,67,68,69,70,71,72,73,74,75,76,77,2,61,62,8,14,15,4] 0 (by kernel_rfl) ?_ ⟨Nat.zero_le _,fun j hj => by omega⟩ ?_ ?_
 ·intro x _; simp [goodNames]
 ·simp only [go_sem]
 ·intro i hi
  by_cases hlt:i < n
  ·have hn0:((n:Int) = 0) = False:=eq_false (by omega)
   have l1:=nxt_lt hlt
   have l2:=nxt2_lt hlt
   have b1:=hl i hlt
   have b2:=hl _ l1
   have b3:=hl _ l2
   have m1:=lo_mul b1.1 b2.2
   have m2:=lo_mul b1.2 b2.1
   have d1:lo2 (X (nxt n i) - X i):=by unfold lo at b1 b2; unfold lo2; omega
   have d2:lo2 (Y (nxt n i) - Y i):=by unfold lo at b1 b2; unfold lo2; omega
   have d3:lo2 (X (nxt2 n i) - X (nxt n i)):=by unfold lo at b3 b2; unfold lo2; omega
   have d4:lo2 (Y (nxt2 n i) - Y (nxt n i)):=by unfold lo at b3 b2; unfold lo2; omega
   have m3:=lo2_mul d1 d4
   have m4:=lo2_mul d2 d3
   unfold lo2 at d1 d2 d3 d4
   have w1:IntKind.i64.wrap (X (nxt n i) - X i) = X (nxt n i) - X i:=wrap_in (by unfold inR; omega)
   have w2:IntKind.i64.wrap (Y (nxt n i) - Y i) = Y (nxt n i) - Y i:=wrap_in (by unfold inR; omega)
   have w3:IntKind.i64.wrap (X (nxt2 n i) - X (nxt n i)) = X (nxt2 n i) - X (nxt n i):=wrap_in (by unfold inR; omega)
   have w4:IntKind.i64.wrap (Y (nxt2 n i) - Y (nxt n i)) = Y (nxt2 n i) - Y (nxt n i):=wrap_in (by unfold inR; omega)
   have w5:IntKind.i64.wrap (X i * Y (nxt n i) - Y i * X (nxt n i)) = X i * Y (nxt n i) - Y i * X (nxt n i):=wrap_in (by unfold inR; omega)
   have w6:IntKind.i64.wrap ((X (nxt n i) - X i) * (Y (nxt2 n i) - Y (nxt n i)) - (Y (nxt n i) - Y i) * (X (nxt2 n i) - X (nxt n i))) = (X (nxt n i) - X i) * (Y (nxt2 n i) - Y (nxt n i)) - (Y (nxt n i) - Y i) * (X (nxt2 n i) - X (nxt n i)):=wrap_in (by unfold inR; omega)
   have v1:IntKind.i64.wrap ((i:Int) + 1) = i + 1:=wrap_in (by unfold inR; omega)
   have v2:IntKind.i64.wrap ((i:Int) + 2) = i + 2:=wrap_in (by unfold inR; omega)
   simp only [go_sem,hn0,c182,c183,c184]
   refine ⟨fun _ => ?_,fun h => absurd (by omega) h⟩
   refine ⟨by omega,by omega,fun z hz z1 hz1 => ?_⟩
   rw [hz,v1,tmod_nxt hlt] at hz1
   subst hz1
   refine ⟨by omega,by omega,fun z2 hz2 z3 hz3 => ?_⟩
   rw [hz2,v2,tmod_nxt2 hlt] at hz3
   subst hz3
   refine ⟨by omega,by omega,?_⟩
   simp only [Int.toNat_natCast,w1,w2,w3,w4,w5,w6]
   intro z4 hz4 z5 hz5 z6 hz6
   have ab1:0 ≤ ab (X (nxt n i) - X i) ∧ ab (X (nxt n i) - X i) ≤ 8192:=by unfold ab; split <;> omega
   have ab2:0 ≤ ab (Y (nxt n i) - Y i) ∧ ab (Y (nxt n i) - Y i) ≤ 8192:=by unfold ab; split <;> omega
   have ab3:0 ≤ ab (X (nxt2 n i) - X (nxt n i)) ∧ ab (X (nxt2 n i) - X (nxt n i)) ≤ 8192:=by unfold ab; split <;> omega
   have ab4:0 ≤ ab (Y (nxt2 n i) - Y (nxt n i)) ∧ ab (Y (nxt2 n i) - Y (nxt n i)) ≤ 8192:=by unfold ab; split <;> omega
   have hAi:A i ↔ 0 < z4 ∧ 4 * (ab (X (nxt n i) - X i) + ab (Y (nxt n i) - Y i) + (ab (X (nxt2 n i) - X (nxt n i)) + ab (Y (nxt2 n i) - Y (nxt n i)))) ≤ z5:=by rw [hA,hz4,hz5]
   refine ⟨fun _ => by omega,fun _ => by omega,fun z7 hz7 => ⟨fun _ => by omega,fun _ => by omega,fun z8 hz8 z9 hz9 => ⟨fun h => ?_,fun h => ?_⟩⟩⟩
   ·rw [hz6,hz7,wrap_in (by unfold inR; omega)] at hz8
    rw [hz8,wrap_in (by unfold inR; omega)] at hz9
    refine false_of fun hc => ?_
    have:=(hcv.1 hc i hlt).1
    rw [hAi] at this
    omega
   rw [hz6,hz7,wrap_in (by unfold inR; omega)] at hz8
   rw [hz8,wrap_in (by unfold inR; omega)] at hz9
   have hAi:A i:=hAi.2 (by omega)
   clear hz4 hz5 hz6 hz7 hz8 hz9 w5 w6 m1 m2 m3 m4
   refine loopC_go (fun (k:Nat) => (2 ≤ k ∧ k ≤ max n 2) ∧ ∀ k',2 ≤ k' → k' < k → 0 < T i ((i + k') % n)) (fun k => max n 2 - k) (fun k => [(8,i64 k)]) (fun _ => []) [28,27,26] [58,59,60,63,64,65,66,67,68,69,70,71,72,73,74,75,76,77,2,61,62,8] 2 (by kernel_rfl) ?_ ⟨by omega,fun j hj hj2 => by omega⟩ ?_ ?_
   ·intro x _; simp [goodNames]
   ·simp only [go_sem]
   ·intro k hk
    simp only [go_sem,hn0,c182,c183]
    refine ⟨fun hkn => ?_,fun hkn => ?_⟩
    ·have hk2:=hk.1.1
     ·have hkn':k < n:=by omega
      obtain ⟨j1,j2,j3⟩:=ix_ne hlt hk2 hkn'
      have b4:=hl _ j1
      have d5:lo2 (Y ((i + k) % n) - Y i):=by unfold lo at b1 b4; unfold lo2; omega
      have d6:lo2 (X ((i + k) % n) - X i):=by unfold lo at b1 b4; unfold lo2; omega
      have m5:=lo2_mul (show lo2 _ from d1) d5
      have m6:=lo2_mul (show lo2 _ from d2) d6
      unfold lo2 at d5 d6
      intro za hza zb hzb zc hzc zd hzd
      rw [hzc,wrap_in (by unfold inR; omega),show (i:Int) + k = ((i + k:Nat):Int) from rfl,tmod_cast (by omega)] at hzd
      subst hzd
      refine ⟨by omega,by omega,fun ze hze zf hzf zg hzg => ?_⟩
      rw [Int.toNat_natCast] at hze hzf
      have ew:zg = T i ((i + k) % n):=by
       rw [hzg,hza,hzb,hze,hzf,w1,w2,wrap_in (x:=Y ((i + k) % n) - Y i) (by unfold inR; omega),wrap_in (x:=X ((i + k) % n) - X i) (by unfold inR; omega),wrap_in (by unfold inR; omega),hT]
      rw [ew]
      refine ⟨fun h => false_of fun hc => ?_,fun h z3 hz3 => ⟨k + 1,⟨by omega,fun k' hk' k1 => ?_⟩,by omega,?_⟩⟩
      ·have:=(hcv.1 hc i hlt).2 _ j1 j2 j3
       omega
      ·by_cases e:k' = k
       ·subst e; omega
       ·exact hk.2 k' hk' (by omega)
      ·rw [hz3,wrap_in (by unfold inR; omega)]; rfl
    ·have hkn':n ≤ k:=by omega
     refine fun z hz => ⟨i + 1,⟨by omega,fun j' hj' => ?_⟩,by omega,?_⟩
     ·by_cases e:j' = i
      ·subst e
       refine ⟨hAi,fun k' k1 k2 k3 => ?_⟩
       obtain ⟨q,q1,q2,q3⟩:=ix_all hlt k1 k2 k3
       rw [← q3]
       exact hk.2 q q1 (by omega)
      ·exact hi.2 j' (by omega)
     ·rw [hz,v1]; rfl
  ·simp only [go_sem]
   refine ⟨fun h => absurd (by omega) hlt,fun _ => ?_⟩
   have he:i = n:=by omega
   subst he
   exact (hcv.2 hi.2).symm
theorem con103:ConOK Tryz.prog 103 c89:=ConOK.go (G:=[(182,c182),(183,c183),(184,c184)]) (H:=[(5,⟨[(21,.made 18),(22,.made 19),(23,.made 20)],[(10,[.made 18]),(17,[.made 18,.made 19])]⟩)]) (.cons con182 (.cons con183 (.cons con184 .nil))) Tryz.func103 fun l ob r hc hob => by
 unfold c89 at hc
 split at hc
 ·rename_i n g
  cases hc
  have hs:spots n g:=hob _ (by simp)
  exact ⟨[.ro n 2 fun i => [i64 (gx g 0 i),i64 (gx g 1 i)]],fun w I vs h => Rs_one (fun v => ro_alike fun i hi => (hs i hi).1) h,by kernel_rfl,vc103 n _ _ (hob _ (by simp)) (hob _ (by simp))⟩
 ·cases hc
end Go.Ax
end
section
/-
  Shapes: their errors.
-/
set_option maxHeartbeats 4000000
set_option maxRecDepth 100000
namespace Go.Ax
open Go.Proofs
instance {x:Int}:Decidable (lo x):=by unfold lo; infer_instance
def chkS (k r w t:Int) (n:Nat) (X Y:Nat → Int):Int:=
 if k = 1 then (if w ≠ 0 ∨ t ≠ 0 ∨ n ≠ 0 then 4 else if 16 ≤ r ∧ r ≤ 4096 then 0 else 3)
 else if k = 2 then (if r ≠ 0 ∨ n ≠ 0 then 4 else if (16 ≤ w ∧ w ≤ 4096) ∧ (16 ≤ t ∧ t ≤ 4096) then 0 else 3)
 else if k = 3 then (if r ≠ 0 ∨ w ≠ 0 ∨ t ≠ 0 ∨ n < 3 ∨ 8 < n then 4 else if ∀ i,i < n → lo (X i) ∧ lo (Y i) then (if cvxS n X Y = true then 0 else 5) else 3)
 else 8
abbrev shapeA (k r w t:Int) (n:Nat) (g:Nat → List AV):AV:=.agg [i64 k,i64 r,i64 w,i64 t,.ro n 2 g]
theorem Rs_shape {w:World} {ρ:Env} {k x y r:Int} {n:Nat} {g:Nat → List AV} (hs:spots n g) (v:Value) (h:R w ρ (shapeA k x y r n g) v):R w ρ (shapeA k x y r n fun i => [i64 (gx g 0 i),i64 (gx g 1 i)]) v:=Rs_form hs v h
def c41:Con
 | [.agg [.v (.int .i64 k),.v (.int .i64 r),.v (.int .i64 w),.v (.int .i64 t),.ro n 2 g]] => some ([spots n g,n ≤ 9223372036854775806],i64 (chkS k r w t n (gx g 0) (gx g 1)))
 | _ => none
theorem vc52 (k r w t:Int) (n:Nat) (X Y:Nat → Int) (hX:∀ i,i < n → inR (X i) ∧ inR (Y i)) (hn:n ≤ 9223372036854775806):fnVC Tryz.prog [(101,c101),(102,c102),(103,c89)] [] Tryz.f52 [shapeA k r w t n fun i => [i64 (X i),i64 (Y i)]] (· = i64 (chkS k r w t n X Y)):=by
 refine fnVC_go (rs:=[.tmp 2]) rfl rfl ?_
 have hg:spots n fun i => [i64 (X i),i64 (Y i)]:=fun i hi => ⟨rfl,hX i hi⟩
 have eX:gx (fun i => [i64 (X i),i64 (Y i)]) 0 = X:=rfl
 have eY:gx (fun i => [i64 (X i),i64 (Y i)]) 1 = Y:=rfl
 simp only [go_sem,c101,c102,c89]
 refine ⟨fun hk => ?_,fun hk => ⟨fun hk2 => ?_,fun hk2 => ⟨fun hk3 => ?_,fun hk3 => ?_⟩⟩⟩
 ·have hk:k = 1:=by simpa using hk
  refine ⟨fun h => ?_,fun h z hz => ⟨fun h2 => ?_,fun h2 => ?_⟩⟩
  ·unfold chkS; rw [if_pos hk,if_pos (by simp only [bne_iff_ne] at h; omega)]
  ·unfold chkS; rw [if_pos hk,if_neg (by simp at h; omega),if_neg (by rw [hz] at h2; exact of_decide_eq_false h2)]
  ·unfold chkS; rw [if_pos hk,if_neg (by simp at h; omega),if_pos (by rw [hz] at h2; exact of_decide_eq_true h2)]
 ·have hk:¬ k = 1:=by simpa using hk
  have hk2:k = 2:=by simpa using hk2
  refine ⟨fun h => ?_,fun h z hz z1 hz1 => ⟨fun h2 => ?_,fun h2 => ?_⟩⟩
  ·unfold chkS; rw [if_neg hk,if_pos hk2,if_pos (by simp only [bne_iff_ne] at h; omega)]
  ·unfold chkS; rw [if_neg hk,if_pos hk2,if_neg (by simp at h; omega),if_neg (by
    rintro ⟨p,q⟩
    rw [hz,hz1,decide_eq_true p,decide_eq_true q] at h2
    simp at h2)]
  ·unfold chkS; rw [if_neg hk,if_pos hk2,if_neg (by simp at h; omega),if_pos (by
    rw [hz,hz1] at h2
    exact ⟨of_decide_eq_true h2.1,of_decide_eq_true h2.2⟩)]
 ·have hk:¬ k = 1:=by simpa using hk
  have hk2:¬ k = 2:=by simpa using hk2
  have hk3:k = 3:=by simpa using hk3
  refine ⟨fun h => ?_,fun h => ?_⟩
  ·unfold chkS; rw [if_neg hk,if_neg hk2,if_pos hk3,if_pos (by simp only [bne_iff_ne] at h; omega)]
  have h4:¬ (r ≠ 0 ∨ w ≠ 0 ∨ t ≠ 0 ∨ n < 3 ∨ 8 < n):=by simp at h; omega
  have e0:chkS k r w t n X Y = if ∀ i,i < n → lo (X i) ∧ lo (Y i) then (if cvxS n X Y = true then 0 else 5) else 3:=by unfold chkS; rw [if_neg hk,if_neg hk2,if_pos hk3,if_neg h4]
  rw [e0]
  refine loopC_go (fun (i:Nat) => i ≤ n ∧ ∀ j,j < i → lo (X j) ∧ lo (Y j)) (fun i => n - i) (fun i => [(3,i64 i)]) (fun _ => []) [0] [74,75,76,77,78,81,82,83,84,85,86,87,88,89,90,91,92,93,94,95,96,97,98,2,79,80,3] 0 (by kernel_rfl) ?_ ⟨Nat.zero_le _,fun j hj => by omega⟩ ?_ ?_
  ·intro x _; simp [goodNames]
  ·simp only [go_sem]
  ·intro i hi
   simp only [go_sem,c102,c89,eX,eY]
   refine ⟨fun hin => ⟨by omega,hin,fun z hz => ⟨fun _ => by omega,fun _ => hin,fun z1 hz1 => ⟨fun h5 => ?_,fun h5 z2 hz2 => ⟨i + 1,⟨by omega,fun j hj => ?_⟩,by omega,?_⟩⟩⟩⟩,fun hin z hz => ⟨hg,by omega,fun j hj => hi.2 j (by omega),fun h5 => ?_,fun h5 => ?_⟩⟩
   ·rw [if_neg fun hc => ?_]
    have:=hc i (by omega)
    unfold lo at this
    rw [hz,hz1] at h5
    rcases h5 with h5 | h5
    ·exact absurd (of_decide_eq_false h5) (by simp only [Decidable.not_not]; exact this.1)
    ·exact absurd (of_decide_eq_false h5) (by simp only [Decidable.not_not]; exact this.2)
   ·by_cases e:j = i
    ·subst e
     rw [hz,hz1] at h5
     exact ⟨of_decide_eq_true h5.1,of_decide_eq_true h5.2⟩
    ·exact hi.2 j (by omega)
   ·rw [hz2,wrap_in (by unfold inR; omega)]; rfl
   ·rw [if_pos (fun j hj => hi.2 j (by omega)),if_neg (by rw [← hz,h5]; decide)]
   ·rw [if_pos (fun j hj => hi.2 j (by omega)),if_pos (by rw [← hz,h5])]
 ·have hk:¬ k = 1:=by simpa using hk
  have hk2:¬ k = 2:=by simpa using hk2
  have hk3:¬ k = 3:=by simpa using hk3
  unfold chkS; rw [if_neg hk,if_neg hk2,if_neg hk3]
theorem con52:ConOK Tryz.prog 52 c41:=ConOK.go (G:=[(101,c101),(102,c102),(103,c89)]) (H:=[]) (.cons con101 (.cons con102 (.cons con103 .nil))) Tryz.func52 fun l ob rr hc hob => by
 unfold c41 at hc
 split at hc
 ·rename_i k r w t n g
  cases hc
  have hs:spots n g:=hob _ (by simp)
  exact ⟨[shapeA k r w t n fun i => [i64 (gx g 0 i),i64 (gx g 1 i)]],fun w I vs h => Rs_one (Rs_shape hs) h,by kernel_rfl,vc52 k r w t n _ _ (fun i hi => (hs i hi).2) (hob _ (by simp))⟩
 ·cases hc
end Go.Ax
end
section
/-
  Rays and polygons.
-/
set_option maxHeartbeats 4000000
set_option maxRecDepth 100000
namespace Go.Ax
open Go.Proofs
theorem mth107_meets : methT Tryz.prog 107 "bagatelle/solid.meets" = some 234 := by kernel_rfl
theorem mth112_meets : methT Tryz.prog 112 "bagatelle/solid.meets" = some 238 := by kernel_rfl
attribute [go_sem] mth107_meets mth112_meets
abbrev HitT:=Bool × Nb × V2
abbrev hitC (h:HitT):List AV:=[bo h.1,i64 h.2.1.1,bo h.2.1.2,i64 h.2.2.1.1,bo h.2.2.1.2,i64 h.2.2.2.1,bo h.2.2.2.2]
def hitA (h:HitT):AV:=.agg (hitC h)
theorem bnd_hit {h:HitT}:bnd (hitA h) = .agg [bo h.1,i64 h.2.1.1,bo h.2.1.2,i64 h.2.2.1.1,bo h.2.2.1.2,i64 h.2.2.2.1,bo h.2.2.2.2]:=(rfl)
theorem plain_hit {h:HitT}:plain 3 (hitA h) = true:=(rfl)
attribute [go_sem] bnd_hit plain_hit
end Go.Ax
end
section
/-
  Rays and forms.
-/
set_option maxHeartbeats 4000000
set_option maxRecDepth 100000
namespace Go.Ax
open Go.Proofs
instance {x y r fx fy tx ty:Int}:Decidable (dmB x y r fx fy tx ty):=by unfold dmB; infer_instance
end Go.Ax
end
section
/-
  Rays and forms: the reference.
-/
set_option maxHeartbeats 4000000
set_option maxRecDepth 100000
namespace Go.Ax
open Go.Proofs
end Go.Ax
end
section
/-
  Shapes placed: the small parts.
-/
set_option maxHeartbeats 4000000
set_option maxRecDepth 100000
namespace Go.Ax
open Go.Proofs
def k68:Con
 | [.agg [.v (.int .i64 x),.v (.bool e),.v (.int .i64 y),.v (.bool f),.v (.int .i64 c),.v (.bool o),.v (.int .i64 s),.v (.bool p)],.agg [.v (.int .i64 z),.v (.bool g),.v (.int .i64 t),.v (.bool h)]] => some ([inR x,inR y,inR c,inR s,inR z,inR t],veA (vAdd ((x,e),(y,f)) (vApply ((c,o),(s,p)) ((z,g),(t,h)))))
 | _ => none
theorem kon68:ConOK Tryz.prog 156 k68:=ConOK.of (G:=[(141,k138),(199,k139)]) (H:=[(1,⟨[(8,.slot 4)],[]⟩)]) (.cons kon138 (.cons kon139 .nil)) Tryz.func156 fun l ob r hc hob => by
 unfold k68 at hc
 split at hc
 ·rename_i x e y f c o s p z g t h
  cases hc
  have h_0:inR x:=hob _ (by simp)
  have h_1:inR y:=hob _ (by simp)
  have h_2:inR c:=hob _ (by simp)
  have h_3:inR s:=hob _ (by simp)
  have h_4:inR z:=hob _ (by simp)
  have h_5:inR t:=hob _ (by simp)
  refine ⟨by kernel_rfl,fnVC_go (rs:=[.cell 4 38]) rfl rfl ?_⟩
  simp only [go_sem,k138,k139]
  exact ⟨h_2,h_3,h_4,h_5,⟨h_0,h_1⟩,rfl⟩
 ·cases hc
end Go.Ax
end
section
/-
  The corners of a shape.
-/
set_option maxHeartbeats 4000000
set_option maxRecDepth 100000
namespace Go.Ax
open Go.Proofs
def alk (r r':AV):Prop:=∀ w ρ v,R w ρ r' v → R w ρ r v
theorem ConOK.goR {P:Program} {G:Ctx} {H:Hots} (hG:CtxOK P G) {f:FuncId} {fn:Func} (hf:P.funcs[f]? = some fn) {c:Con}
  (h:∀ es1 ob r,c es1 = some (ob,r) → (∀ p ∈ ob,p) → ∃ es,(∀ w I vs,Rs w (.ext I) es1 vs → Rs w (.ext I) es vs) ∧ funcOK P H fn es.length = true ∧ fnVC P G H fn es (alk r)):ConOK P f c:=by
 intro es0 ob r hc hob I w vs hI hRs
 obtain ⟨es,h0,h1,h2⟩:=h es0 ob r hc hob
 obtain ⟨k1,k2⟩:=fn_sound hG hf h1 h2 I w vs hI (h0 w I vs hRs)
 exact .inr ⟨k1,k2.mono fun e w' ⟨v,he,⟨r',hr,hR⟩,hb⟩ => ⟨v,he,hr _ _ _ hR,hb⟩⟩
theorem alk_refl {r:AV}:alk r r:=fun _ _ _ h => h
theorem alk_ro {n:Nat} {f g:Nat → List AV} (h:∀ i,i < n → g i = f i):alk (.ro n 2 f) (.ro n 2 g):=fun w ρ v hR => ro_alike h hR
theorem alk_nil {f:Nat → List AV}:alk (.ro 0 2 f) (.v (.slice none 0 0)):=fun w ρ v hR => by
 cases hR
 exact .ro 0 0 (Nat.le_refl _) (fun h => absurd h (by omega)) (fun h => absurd h (by omega)) (fun i h => absurd h (by omega)) (fun i k h => absurd h (by omega)) (fun i k c x h => absurd h (by omega))
def corN (k r w t:Int) (n:Nat) (X Y:Nat → Int):Nat:=if chkS k r w t n X Y = 0 then (if k = 2 then 4 else n) else 0
def corX (k w t:Int) (X:Nat → Int) (i:Nat):Int:=if k = 2 then (match i with | 0 => -w | 1 => w | 2 => w | _ => -w) else X i
def corY (k w t:Int) (Y:Nat → Int) (i:Nat):Int:=if k = 2 then (match i with | 0 => -t | 1 => -t | 2 => t | _ => t) else Y i
abbrev corA (k r w t:Int) (n:Nat) (X Y:Nat → Int):AV:=.ro (corN k r w t n X Y) 2 fun i => [i64 (corX k w t X i),i64 (corY k w t Y i)]
theorem chk_cases {k r w t:Int} {n:Nat} {X Y:Nat → Int} (h:chkS k r w t n X Y = 0):(k = 1 ∧ n = 0 ∧ 16 ≤ r ∧ r ≤ 4096) ∨ (k = 2 ∧ n = 0 ∧ 16 ≤ w ∧ w ≤ 4096 ∧ 16 ≤ t ∧ t ≤ 4096) ∨ (k = 3 ∧ 3 ≤ n ∧ n ≤ 8 ∧ r = 0 ∧ ∀ i,i < n → lo (X i) ∧ lo (Y i)):=by
 unfold chkS at h
 split at h
 ·rename_i h1
  split at h
  ·omega
  ·split at h
   ·exact .inl ⟨h1,by omega⟩
   ·omega
 ·split at h
  ·rename_i h1 h2
   split at h
   ·omega
   ·split at h
    ·exact .inr (.inl ⟨h2,by omega⟩)
    ·omega
  ·split at h
   ·rename_i h1 h2 h3
    split at h
    ·omega
    ·split at h
     ·rename_i h5 h6
      exact .inr (.inr ⟨h3,by omega,by omega,by omega,h6⟩)
     ·omega
   ·omega
theorem vc11 (k r w t:Int) (n:Nat) (X Y:Nat → Int) (hX:∀ i,i < n → inR (X i) ∧ inR (Y i)) (hn:n ≤ 9223372036854775806):fnVC Tryz.prog [(52,c41)] [] Tryz.f11 [shapeA k r w t n fun i => [i64 (X i),i64 (Y i)]] (alk (corA k r w t n X Y)):=by
 refine fnVC_go (rs:=[.tmp 2]) rfl rfl ?_
 have hg:spots n fun i => [i64 (X i),i64 (Y i)]:=fun i hi => ⟨rfl,hX i hi⟩
 have eX:gx (fun i => [i64 (X i),i64 (Y i)]) 0 = X:=rfl
 have eY:gx (fun i => [i64 (X i),i64 (Y i)]) 1 = Y:=rfl
 simp only [go_sem,c41,eX,eY]
 have hb:bytesT Tryz.prog 29 = 16:=by kernel_rfl
 rw [hb]
 simp only [forall_eq]
 refine ⟨hg,hn,fun h => ?_,fun h => ⟨fun h2 => ?_,fun h2 => ?_⟩⟩
 ·have:corN k r w t n X Y = 0:=if_neg (by simpa using h)
  unfold corA
  rw [this]
  exact alk_nil
 ·have hk:k = 2:=by simpa using h2
  have hc:chkS k r w t n X Y = 0:=by simpa using h
  have:corN k r w t n X Y = 4:=by unfold corN; rw [if_pos hc,if_pos hk]
  have hb:=chk_cases hc
  rw [wrap_in (x:=0 - w) (by unfold inR; omega),wrap_in (x:=0 - t) (by unfold inR; omega),Int.zero_sub,Int.zero_sub]
  unfold corA
  rw [this]
  refine alk_ro fun i hi => ?_
  unfold corX corY
  rw [if_pos hk,if_pos hk]
  match i with
  | 0 => rfl
  | 1 => rfl
  | 2 => rfl
  | 3 => rfl
  | j + 4 => omega
 ·have hk:¬ k = 2:=by simpa using h2
  have hc:chkS k r w t n X Y = 0:=by simpa using h
  have:corN k r w t n X Y = n:=by unfold corN; rw [if_pos hc,if_neg hk]
  have hb:=chk_cases hc
  unfold corA
  rw [this]
  refine ⟨fun i hi => by simp only [go_sem],by omega,by omega,?_⟩
  rw [Nat.zero_add]
  refine alk_ro fun i hi => ?_
  unfold corX corY
  rw [if_neg hk,if_neg hk,if_neg (Nat.not_lt_zero i),Nat.sub_zero]
  simp only [go_sem]
def c45:Con
 | [.agg [.v (.int .i64 k),.v (.int .i64 r),.v (.int .i64 w),.v (.int .i64 t),.ro n 2 g]] => some ([spots n g,n ≤ 9223372036854775806],corA k r w t n (gx g 0) (gx g 1))
 | _ => none
theorem con11:ConOK Tryz.prog 11 c45:=ConOK.goR (G:=[(52,c41)]) (H:=[]) (.cons con52 .nil) Tryz.func11 fun l ob rr hc hob => by
 unfold c45 at hc
 split at hc
 ·rename_i k r w t n g
  cases hc
  have hs:spots n g:=hob _ (by simp)
  exact ⟨[shapeA k r w t n fun i => [i64 (gx g 0 i),i64 (gx g 1 i)]],fun w I vs h => Rs_one (Rs_shape hs) h,by kernel_rfl,vc11 k r w t n _ _ (fun i hi => (hs i hi).2) (hob _ (by simp))⟩
 ·cases hc
end Go.Ax
end
section
/-
  Shapes placed.
-/
set_option maxHeartbeats 4000000
set_option maxRecDepth 100000
namespace Go.Ax
open Go.Proofs
theorem alk_form {a b c d e p q:AV} (h:alk p q):alk (.tup [.agg [a,b,c,d,p],e]) (.tup [.agg [a,b,c,d,q],e]):=fun w ρ v hR => by
 cases hR with
 | tup hl hh =>
  refine .tup hl fun i x z h1 h2 => ?_
  match i with
  | 0 =>
   simp at h1; subst h1
   have:=hh 0 _ z rfl h2
   cases this with
   | agg hl' hh' =>
    refine .agg hl' fun j x y h3 h4 => ?_
    match j with
    | 0 => exact hh' 0 x y h3 h4
    | 1 => exact hh' 1 x y h3 h4
    | 2 => exact hh' 2 x y h3 h4
    | 3 => exact hh' 3 x y h3 h4
    | 4 =>
     simp at h3; subst h3
     exact h _ _ _ (hh' 4 _ y rfl h4)
    | m + 5 => simp at h3
  | 1 => exact hh 1 x z h1 h2
  | m + 2 => simp at h1
def rotS (x:Int) (e:Bool) (y:Int) (f:Bool):Int:=if (whF x e = true ∨ whF y f = true) ∨ (65536 < (nDot (x,e) (x,e) (y,f) (y,f)).1 - 4294967296 ∨ 65536 < 4294967296 - (nDot (x,e) (x,e) (y,f) (y,f)).1) then 3 else 0
def farB (a:Nb):Bool:=whF a.1 a.2 || decide (17592186044416 < ab (whV a.1))
def plErr (k r w t:Int) (n:Nat) (X Y:Nat → Int) (at' rot:V2):Int:=
 if chkS k r w t n X Y ≠ 0 then chkS k r w t n X Y else if rotS rot.1.1 rot.1.2 rot.2.1 rot.2.2 ≠ 0 then rotS rot.1.1 rot.1.2 rot.2.1 rot.2.2 else if farB at'.1 = true ∨ farB at'.2 = true then 3 else 0
def plPt (at' rot:V2) (x y:Int):V2:=vAdd at' (vApply rot (vLoc x y))
def plX (k w t:Int) (X Y:Nat → Int) (at' rot:V2) (i:Nat):Int:=spV (plPt at' rot (corX k w t X i) (corY k w t Y i)).1
def plY (k w t:Int) (X Y:Nat → Int) (at' rot:V2) (i:Nat):Int:=spV (plPt at' rot (corX k w t X i) (corY k w t Y i)).2
def plN (k r w t:Int) (n:Nat) (X Y:Nat → Int) (at' rot:V2):Nat:=if plErr k r w t n X Y at' rot = 0 then (if k = 1 then 0 else corN k r w t n X Y) else 0
def plK (k r w t:Int) (n:Nat) (X Y:Nat → Int) (at' rot:V2):Int:=if plErr k r w t n X Y at' rot = 0 then (if k = 1 then 1 else 2) else 0
def plC (k r w t:Int) (n:Nat) (X Y:Nat → Int) (at' rot:V2) (a:Nb):Int:=if plErr k r w t n X Y at' rot = 0 then spV a else 0
def plR (k r w t:Int) (n:Nat) (X Y:Nat → Int) (at' rot:V2):Int:=if plErr k r w t n X Y at' rot = 0 then r else 0
abbrev plA (k r w t:Int) (n:Nat) (X Y:Nat → Int) (at' rot:V2):AV:=
 .tup [formA (plK k r w t n X Y at' rot) (plC k r w t n X Y at' rot at'.1) (plC k r w t n X Y at' rot at'.2) (plR k r w t n X Y at' rot) (plN k r w t n X Y at' rot) fun i => [i64 (plX k w t X Y at' rot i),i64 (plY k w t X Y at' rot i)],i64 (plErr k r w t n X Y at' rot)]
abbrev poseA (at' rot:V2):AV:=.agg [i64 at'.1.1,bo at'.1.2,i64 at'.2.1,bo at'.2.2,i64 rot.1.1,bo rot.1.2,i64 rot.2.1,bo rot.2.2]
def c8:Con
 | [.agg [.v (.int .i64 k),.v (.int .i64 r),.v (.int .i64 w),.v (.int .i64 t),.ro n 2 g],.agg [.v (.int .i64 x),.v (.bool e),.v (.int .i64 y),.v (.bool f),.v (.int .i64 c),.v (.bool o),.v (.int .i64 s),.v (.bool p)]] => some ([spots n g,n ≤ 9223372036854775806,inR x,inR y,inR c,inR s],plA k r w t n (gx g 0) (gx g 1) ((x,e),(y,f)) ((c,o),(s,p)))
 | _ => none
theorem chk_r {k r w t:Int} {n:Nat} {X Y:Nat → Int} (h:chkS k r w t n X Y = 0) (hk:¬ k = 1):r = 0:=by
 unfold chkS at h
 rw [if_neg hk] at h
 split at h
 ·split at h <;> omega
 ·split at h
  ·split at h <;> omega
  ·omega
theorem vc72 (k r w t:Int) (n:Nat) (X Y:Nat → Int) (hX:∀ i,i < n → inR (X i) ∧ inR (Y i)) (hn:n ≤ 9223372036854775806) (at' rot:V2) (h0:inR at'.1.1) (h1:inR at'.2.1) (h2:inR rot.1.1) (h3:inR rot.2.1) :
  fnVC Tryz.prog [(11,c45),(52,c41),(153,c153),(154,c154),(155,c155),(156,k68),(137,c137)] [(9,⟨[(6,.slot 4)],[]⟩),(15,⟨[(13,.slot 7)],[]⟩)] Tryz.f72 [shapeA k r w t n fun i => [i64 (X i),i64 (Y i)],poseA at' rot] (alk (plA k r w t n X Y at' rot)):=by
 refine fnVC_go (rs:=[.cell 4 31,.tmp 5]) rfl rfl ?_
 have hg:spots n fun i => [i64 (X i),i64 (Y i)]:=fun i hi => ⟨rfl,hX i hi⟩
 have eX:gx (fun i => [i64 (X i),i64 (Y i)]) 0 = X:=rfl
 have eY:gx (fun i => [i64 (X i),i64 (Y i)]) 1 = Y:=rfl
 simp only [go_sem,c41,c153,c154,c155,c45,eX,eY]
 simp only [forall_eq]
 have pos:∀ e:Int,plErr k r w t n X Y at' rot = e → e ≠ 0 → alk (plA k r w t n X Y at' rot) (.tup [.agg [i64 0,i64 0,i64 0,i64 0,.v (.slice none 0 0)],i64 e]):=fun e he hne => by
  subst he
  unfold plA formA
  have q:plN k r w t n X Y at' rot = 0:=if_neg hne
  rw [q,show plK k r w t n X Y at' rot = 0 from if_neg hne,show plC k r w t n X Y at' rot at'.1 = 0 from if_neg hne,show plC k r w t n X Y at' rot at'.2 = 0 from if_neg hne,show plR k r w t n X Y at' rot = 0 from if_neg hne]
  exact alk_form alk_nil
 refine ⟨hg,hn,fun h => ⟨h2,h3,fun h4 => ?_,fun h4 => ⟨h0,fun _ => h1,fun h5 => ?_,fun h5 => ?_⟩⟩,fun h => ⟨fun h4 => ?_,fun h4 => ?_⟩⟩
 ·have hne:rotS rot.1.1 rot.1.2 rot.2.1 rot.2.2 ≠ 0:=bne_iff_ne.1 h4
  refine pos _ ?_ hne
  unfold plErr; rw [if_neg (by simpa using h),if_pos hne]; rfl
 ·refine pos _ ?_ (by omega)
  unfold plErr
  rw [if_neg (by simpa using h),if_neg (show ¬ rotS rot.1.1 rot.1.2 rot.2.1 rot.2.2 ≠ 0 from not_not_intro (bne_eq_false_iff_eq.1 h4)),if_pos]
  unfold farB
  exact h5
 ·have he:plErr k r w t n X Y at' rot = 0:=by
   unfold plErr
   rw [if_neg (by simpa using h),if_neg (show ¬ rotS rot.1.1 rot.1.2 rot.2.1 rot.2.2 ≠ 0 from not_not_intro (bne_eq_false_iff_eq.1 h4)),if_neg]
   unfold farB
   rintro (h7 | h7)
   ·rw [h5.1] at h7; cases h7
   ·rw [h5.2] at h7; cases h7
  have hc:chkS k r w t n X Y = 0:=by simpa using h
  have hcs:=chk_cases hc
  refine ⟨fun h6 => ⟨h0,h1,?_⟩,fun h6 => ⟨h0,h1,hg,hn,?_⟩⟩
  ·have hk:k = 1:=by simpa using h6
   unfold plA formA
   rw [show plN k r w t n X Y at' rot = 0 by unfold plN; rw [if_pos he,if_pos hk],show plK k r w t n X Y at' rot = 1 by unfold plK; rw [if_pos he,if_pos hk],show plC k r w t n X Y at' rot at'.1 = _ from if_pos he,show plC k r w t n X Y at' rot at'.2 = _ from if_pos he,show plR k r w t n X Y at' rot = r from if_pos he,he]
   exact alk_form alk_nil
  ·have hk:¬ k = 1:=by simpa using h6
   have hN:corN k r w t n X Y ≤ 8:=by unfold corN; rw [if_pos hc]; split <;> omega
   have hx:∀ i,i < corN k r w t n X Y → inR (corX k w t X i) ∧ inR (corY k w t Y i):=fun i hi => by
    unfold corN at hi; rw [if_pos hc] at hi
    unfold corX corY
    split
    ·constructor <;> (split <;> (unfold inR; omega))
    ·rename_i h7
     rw [if_neg h7] at hi
     exact hX i hi
   generalize hM:corN k r w t n X Y = M at *
   refine loopN_go (fun (i:Nat) => i ≤ M) (fun i => M - i) (fun i => [(9,i64 i)]) (fun i => [(32,fam1 31 5 [i64 2,i64 (spV at'.1),i64 (spV at'.2),i64 0,.own 38 0 i 2] none),(38,famN i 2 29 (fun j => [i64 (plX k w t X Y at' rot j),i64 (plY k w t X Y at' rot j)]) none)]) [2,1,0] [47,48,49,50,53,54,55,56,57,58,59,60,61,62,63,64,65,51,52,9] 1 0 (by kernel_rfl) (Nat.zero_le _) ⟨[(38,none)],?_,?_,?_,?_⟩ ?_
   ·simp only [go_sem]
   ·simp only [go_sem]
   ·simp only [go_sem]
   ·simp [goodNames,asg]
   intro i hi
   simp only [go_sem,c155,c137,k68]
   have hb:bytesT Tryz.prog 29 = 16:=by kernel_rfl
   rw [hb]
   simp only [forall_eq]
   refine ⟨fun hin => ?_,fun hin => ?_⟩
   ·have hi':i < M:=by omega
    have hxi:=hx i hi'
    refine ⟨by omega,hin,hxi.1,hxi.2,h0,h1,h2,h3,rg_inR nRat_rg,rg_inR nRat_rg,by omega,by omega,i + 1,by omega,by omega,[(38,some 54)],?_⟩
    simp only [go_sem]
    refine ⟨by rw [wrap_in (by unfold inR; omega)]; rfl,fun j hj => ?_,by simp [goodNames,asg]⟩
    by_cases e:j < i
    ·rw [if_pos e]; simp only [go_sem]
    ·have e:j = i:=by omega
     subst e
     rw [if_neg (by omega),Nat.sub_self]
     simp only [Nat.zero_mul,go_sem]
     exact ⟨rfl,rfl⟩
   ·have e:i = M:=by omega
    subst e
    unfold plA formA
    rw [show plN k r w t n X Y at' rot = i by unfold plN; rw [if_pos he,if_neg hk,hM],show plK k r w t n X Y at' rot = 2 by unfold plK; rw [if_pos he,if_neg hk],show plC k r w t n X Y at' rot at'.1 = _ from if_pos he,show plC k r w t n X Y at' rot at'.2 = _ from if_pos he,show plR k r w t n X Y at' rot = 0 by unfold plR; rw [if_pos he,chk_r hc hk],he]
    exact alk_refl
 ·have hne:chkS k r w t n X Y ≠ 0:=by simpa using h
  exact pos _ (by unfold plErr; rw [if_pos hne]) hne
 ·simp at h h4; omega
theorem con72:ConOK Tryz.prog 72 c8:=ConOK.goR (G:=[(11,c45),(52,c41),(153,c153),(154,c154),(155,c155),(156,k68),(137,c137)]) (H:=[(9,⟨[(6,.slot 4)],[]⟩),(15,⟨[(13,.slot 7)],[]⟩)]) (.cons con11 (.cons con52 (.cons con153 (.cons con154 (.cons con155 (.cons kon68 (.cons con137 .nil))))))) Tryz.func72 fun l ob rr hc hob => by
 unfold c8 at hc
 split at hc
 ·rename_i k r w t n g x e y f c o s p
  cases hc
  have hs:spots n g:=hob _ (by simp)
  refine ⟨[shapeA k r w t n fun i => [i64 (gx g 0 i),i64 (gx g 1 i)],poseA ((x,e),(y,f)) ((c,o),(s,p))],fun w I vs h => ?_,by kernel_rfl,vc72 k r w t n _ _ (fun i hi => (hs i hi).2) (hob _ (by simp)) ((x,e),(y,f)) ((c,o),(s,p)) (hob _ (by simp)) (hob _ (by simp)) (hob _ (by simp)) (hob _ (by simp))⟩
  obtain ⟨x,xs,rfl,h1,h2⟩:=h.inv
  exact .cons (Rs_shape hs _ h1) h2
 ·cases hc
end Go.Ax
end
section
/-
  What rays meet, the law's body.
-/
set_option maxHeartbeats 4000000
set_option maxRecDepth 100000
namespace Go.Ax
open Go.Proofs
theorem aEq36 {a0 b0:Int} {a1 b1:Bool}:aEq Tryz.prog 36 (.agg [i64 a0,bo a1]) (.agg [i64 b0,bo b1]) = some ((a0 == b0) && ((a1 == b1) && true)):=by kernel_rfl
theorem eq36 {xo yo:Operand} {neg:Bool} {a0 b0:Int} {a1 b1:Bool}:eqE Tryz.prog neg 36 xo yo (.agg [i64 a0,bo a1]) (.agg [i64 b0,bo b1]) = some ⟨[],.v (.bool (negV neg ((a0 == b0) && ((a1 == b1) && true)))),.none⟩:=eqE_agg aEq36
attribute [go_sem] eq36
theorem aEq38 {a0 b0:Int} {a1 b1:Bool} {a2 b2:Int} {a3 b3:Bool}:aEq Tryz.prog 38 (.agg [i64 a0,bo a1,i64 a2,bo a3]) (.agg [i64 b0,bo b1,i64 b2,bo b3]) = some (((a0 == b0) && ((a1 == b1) && true)) && (((a2 == b2) && ((a3 == b3) && true)) && true)):=by kernel_rfl
theorem eq38 {xo yo:Operand} {neg:Bool} {a0 b0:Int} {a1 b1:Bool} {a2 b2:Int} {a3 b3:Bool}:eqE Tryz.prog neg 38 xo yo (.agg [i64 a0,bo a1,i64 a2,bo a3]) (.agg [i64 b0,bo b1,i64 b2,bo b3]) = some ⟨[],.v (.bool (negV neg (((a0 == b0) && ((a1 == b1) && true)) && (((a2 == b2) && ((a3 == b3) && true)) && true)))),.none⟩:=eqE_agg aEq38
attribute [go_sem] eq38
theorem aEq80 {a0 b0:Bool} {a1 b1:Int} {a2 b2:Bool} {a3 b3:Int} {a4 b4:Bool} {a5 b5:Int} {a6 b6:Bool}:aEq Tryz.prog 80 (.agg [bo a0,i64 a1,bo a2,i64 a3,bo a4,i64 a5,bo a6]) (.agg [bo b0,i64 b1,bo b2,i64 b3,bo b4,i64 b5,bo b6]) = some ((a0 == b0) && (((a1 == b1) && ((a2 == b2) && true)) && ((((a3 == b3) && ((a4 == b4) && true)) && (((a5 == b5) && ((a6 == b6) && true)) && true)) && true))):=by kernel_rfl
theorem eq80 {xo yo:Operand} {neg:Bool} {a0 b0:Bool} {a1 b1:Int} {a2 b2:Bool} {a3 b3:Int} {a4 b4:Bool} {a5 b5:Int} {a6 b6:Bool}:eqE Tryz.prog neg 80 xo yo (.agg [bo a0,i64 a1,bo a2,i64 a3,bo a4,i64 a5,bo a6]) (.agg [bo b0,i64 b1,bo b2,i64 b3,bo b4,i64 b5,bo b6]) = some ⟨[],.v (.bool (negV neg ((a0 == b0) && (((a1 == b1) && ((a2 == b2) && true)) && ((((a3 == b3) && ((a4 == b4) && true)) && (((a5 == b5) && ((a6 == b6) && true)) && true)) && true))))),.none⟩:=eqE_agg aEq80
attribute [go_sem] eq80
end Go.Ax
end
section
/-
  Shapes placed, the law's body.
-/
set_option maxHeartbeats 4000000
set_option maxRecDepth 100000
namespace Go.Ax
open Go.Proofs
theorem spV_inR {a:Nb}:inR (spV a):=by
 have:rg (whV (nMul a (nInt 256)).1):=whV_rg (rg_inR nMul_rg)
 unfold spV
 unfold rg at this
 unfold inR
 omega
theorem plN_le {k r w t:Int} {n:Nat} {X Y:Nat → Int} {at' rot:V2}:plN k r w t n X Y at' rot ≤ 8:=by
 unfold plN
 split
 ·split
  ·omega
  ·unfold corN
   split
   ·rename_i h
    have:=chk_cases h
    split <;> omega
   ·omega
 ·omega
end Go.Ax
end
section
/-
  What is met first.
-/
set_option maxHeartbeats 4000000
set_option maxRecDepth 100000
namespace Go.Ax
open Go.Proofs
def cn (cs:List AV) (k:Nat):Nat:=match cs[k]? with
 | some (.ro n _ _) => n
 | _ => 0
def cg (cs:List AV) (k:Nat):Nat → List AV:=match cs[k]? with
 | some (.ro _ _ g) => g
 | _ => fun _ => []
def formOK (cs:List AV):Prop:=cs = [i64 (gi cs 0),i64 (gi cs 1),i64 (gi cs 2),i64 (gi cs 3),.ro (cn cs 4) 2 (cg cs 4)] ∧ inR (gi cs 1) ∧ inR (gi cs 2) ∧ inR (gi cs 3) ∧ spots (cn cs 4) (cg cs 4) ∧ cn cs 4 ≤ 9223372036854775806
def forms (m:Nat) (G:Nat → List AV):Prop:=∀ i,i < m → formOK (G i)
def fiA (s:Int × HitT):AV:=.tup [i64 s.1,.agg (hitC s.2)]
theorem bnd_fi {s:Int × HitT}:bnd (fiA s) = .tup [i64 s.1,.agg [bo s.2.1,i64 s.2.2.1.1,bo s.2.2.1.2,i64 s.2.2.2.1.1,bo s.2.2.2.1.2,i64 s.2.2.2.2.1,bo s.2.2.2.2.2]]:=(rfl)
theorem plain_fi {s:Int × HitT}:plain 3 (fiA s) = true:=(rfl)
attribute [go_sem] bnd_fi plain_fi
end Go.Ax
end
section
/-
  Forms made of numbers.
-/
set_option maxHeartbeats 4000000
set_option maxRecDepth 100000
namespace Go.Ax
open Go.Proofs
theorem alk_shape {a b c d p q:AV} (h:alk p q):alk (.agg [a,b,c,d,p]) (.agg [a,b,c,d,q]):=fun w ρ v hR => by
 cases hR with
 | agg hl' hh' =>
  refine .agg hl' fun j x y h3 h4 => ?_
  match j with
  | 0 => exact hh' 0 x y h3 h4
  | 1 => exact hh' 1 x y h3 h4
  | 2 => exact hh' 2 x y h3 h4
  | 3 => exact hh' 3 x y h3 h4
  | 4 =>
   simp at h3; subst h3
   exact h _ _ _ (hh' 4 _ y rfl h4)
  | m + 5 => simp at h3
def mkW (a b:Int):Int:=if a.tmod 4 ≠ 0 then 16 + (16 + modS b 4081).tmod 600 else 16 + modS b 4081
def mkM (a b:Int):Int:=max 64 (mkW a b)
def mkK (a:Int):Int:=if modS a 5 = 0 then 1 else if modS a 5 = 1 then 2 else 3
def mkR (a b:Int):Int:=if modS a 5 = 0 then mkW b b else 0
def mkH (a b c:Int):Int:=if modS a 5 = 0 then 0 else if modS a 5 = 1 then mkW b c else 0
def mkN (a:Int):Nat:=if modS a 5 = 0 then 0 else if modS a 5 = 1 then 0 else if modS a 5 = 2 then 3 else if modS a 5 = 3 then 5 else 8
def mkP (a w t:Int):List AV:=
 if modS a 5 = 2 then [i64 (-w),i64 (-t),i64 w,i64 (-t),i64 0,i64 t]
 else if modS a 5 = 3 then [i64 ((-w).tdiv 2),i64 (-t),i64 (w.tdiv 2),i64 (-t),i64 w,i64 0,i64 0,i64 t,i64 (-w),i64 0]
 else [i64 w,i64 ((-w).tdiv 2),i64 w,i64 (w.tdiv 2),i64 (w.tdiv 2),i64 w,i64 ((-w).tdiv 2),i64 w,i64 (-w),i64 (w.tdiv 2),i64 (-w),i64 ((-w).tdiv 2),i64 ((-w).tdiv 2),i64 (-w),i64 (w.tdiv 2),i64 (-w)]
def mkX (a b c:Int) (i:Nat):Int:=gx (rowsOf 2 (mkP a (mkM b b) (mkM b c))) 0 i
def mkY (a b c:Int) (i:Nat):Int:=gx (rowsOf 2 (mkP a (mkM b b) (mkM b c))) 1 i
abbrev mkA (a b c:Int):AV:=.agg [i64 (mkK a),i64 (mkR a b),i64 (mkH a b b),i64 (mkH a b c),.ro (mkN a) 2 fun i => [i64 (mkX a b c i),i64 (mkY a b c i)]]
theorem modS_bd {n m:Int} (hm:0 < m):0 ≤ modS n m ∧ modS n m < m:=by
 have h1:n.tmod m < m:=Int.tmod_lt_of_pos n hm
 have h2:-m < n.tmod m:=Int.lt_tmod_of_pos n hm
 unfold modS
 split <;> omega
theorem mkW_bd {a b:Int}:16 ≤ mkW a b ∧ mkW a b ≤ 4096:=by
 have h:=modS_bd (n:=b) (m:=4081) (by omega)
 have h1:(16 + modS b 4081).tmod 600 < 600:=Int.tmod_lt_of_pos _ (by omega)
 have h2:0 ≤ (16 + modS b 4081).tmod 600:=Int.tmod_nonneg _ (by omega)
 unfold mkW
 split <;> omega
theorem mkM_bd {a b:Int}:64 ≤ mkM a b ∧ mkM a b ≤ 4096:=by
 have:=@mkW_bd a b
 unfold mkM
 omega
theorem wrW {b:Int}:IntKind.i64.wrap (16 + modS b 4081) = 16 + modS b 4081:=by
 have h:=modS_bd (n:=b) (m:=4081) (by omega)
 exact wrap_in (by unfold inR; omega)
theorem wrW2 {b:Int}:IntKind.i64.wrap (16 + (16 + modS b 4081).tmod 600) = 16 + (16 + modS b 4081).tmod 600:=by
 have h:=modS_bd (n:=b) (m:=4081) (by omega)
 have h1:(16 + modS b 4081).tmod 600 < 600:=Int.tmod_lt_of_pos _ (by omega)
 have h2:0 ≤ (16 + modS b 4081).tmod 600:=Int.tmod_nonneg _ (by omega)
 exact wrap_in (by unfold inR; omega)
theorem wrM {a b:Int}:IntKind.i64.wrap (0 - mkM a b) = -mkM a b:=by
 have:=@mkM_bd a b
 rw [wrap_in (by unfold inR; omega),Int.zero_sub]
theorem wrM2 {a b:Int}:IntKind.i64.wrap ((-mkM a b).tdiv 2) = (-mkM a b).tdiv 2:=by
 have:=@mkM_bd a b
 exact wrap_in (by rw [Int.neg_tdiv,Int.tdiv_eq_ediv_of_nonneg (by omega)]; unfold inR; omega)
theorem wrM3 {a b:Int}:IntKind.i64.wrap ((mkM a b).tdiv 2) = (mkM a b).tdiv 2:=by
 have:=@mkM_bd a b
 exact wrap_in (by rw [Int.tdiv_eq_ediv_of_nonneg (by omega)]; unfold inR; omega)
theorem mkM_eq {a b:Int}:max 64 (mkW a b) = mkM a b:=rfl
theorem vc7 (a b c d e f:Int) (ha:inR a) (hb:inR b) (hc:inR c):fnVC Tryz.prog [(40,c40)] [] Tryz.f7 [.agg [i64 a,i64 b,i64 c,i64 d,i64 e,i64 f]] (alk (mkA a b c)):=by
 refine fnVC_go (rs:=[.cell 2 26]) rfl rfl ?_
 simp only [go_sem,c40]
 simp only [forall_eq]
 simp only [wrW,wrW2]
 refine ⟨hb,by unfold inR; omega,hc,by unfold inR; omega,fun h => ?_,fun h => ?_⟩
 ·have e:∀ v,16 + (16 + modS v 4081).tmod 600 = mkW b v:=fun v => by unfold mkW; rw [if_pos (by simpa using h)]
  simp only [e]
  simp only [mkM_eq,wrM,wrM2,wrM3]
  refine ⟨ha,by unfold inR; omega,fun h0 => ?_,fun h0 => ⟨fun h1 => ?_,fun h1 => ⟨fun h2 => ?_,fun h2 => ⟨fun h3 => ?_,fun h3 => ?_⟩⟩⟩⟩
  ·have k0:modS a 5 = 0:=by simpa using h0
   unfold mkA
   rw [show mkK a = 1 by unfold mkK; rw [if_pos k0],show mkR a b = mkW b b by unfold mkR; rw [if_pos k0],show mkH a b b = 0 by unfold mkH; rw [if_pos k0],show mkH a b c = 0 by unfold mkH; rw [if_pos k0],show mkN a = 0 by unfold mkN; rw [if_pos k0]]
   exact alk_shape alk_nil
  ·have k0:¬ modS a 5 = 0:=by simpa using h0
   have k1:modS a 5 = 1:=by simpa using h1
   unfold mkA
   rw [show mkK a = 2 by unfold mkK; rw [if_neg k0,if_pos k1],show mkR a b = 0 by unfold mkR; rw [if_neg k0],show mkH a b b = mkW b b by unfold mkH; rw [if_neg k0,if_pos k1],show mkH a b c = mkW b c by unfold mkH; rw [if_neg k0,if_pos k1],show mkN a = 0 by unfold mkN; rw [if_neg k0,if_pos k1]]
   exact alk_shape alk_nil
  ·have k0:¬ modS a 5 = 0:=by simpa using h0
   have k1:¬ modS a 5 = 1:=by simpa using h1
   have k2:modS a 5 = 2:=by simpa using h2
   unfold mkA
   rw [show mkK a = 3 by unfold mkK; rw [if_neg k0,if_neg k1],show mkR a b = 0 by unfold mkR; rw [if_neg k0],show mkH a b b = 0 by unfold mkH; rw [if_neg k0,if_neg k1],show mkH a b c = 0 by unfold mkH; rw [if_neg k0,if_neg k1],show mkN a = 3 by unfold mkN; rw [if_neg k0,if_neg k1,if_pos k2]]
   refine alk_shape (alk_ro fun i hi => ?_)
   unfold mkX mkY mkP
   rw [if_pos k2]
   match i with
   | 0 => rfl
   | 1 => rfl
   | 2 => rfl
   | q + 3 => omega
  ·have k0:¬ modS a 5 = 0:=by simpa using h0
   have k1:¬ modS a 5 = 1:=by simpa using h1
   have k2:¬ modS a 5 = 2:=by simpa using h2
   have k3:modS a 5 = 3:=by simpa using h3
   unfold mkA
   rw [show mkK a = 3 by unfold mkK; rw [if_neg k0,if_neg k1],show mkR a b = 0 by unfold mkR; rw [if_neg k0],show mkH a b b = 0 by unfold mkH; rw [if_neg k0,if_neg k1],show mkH a b c = 0 by unfold mkH; rw [if_neg k0,if_neg k1],show mkN a = 5 by unfold mkN; rw [if_neg k0,if_neg k1,if_neg k2,if_pos k3]]
   refine alk_shape (alk_ro fun i hi => ?_)
   unfold mkX mkY mkP
   rw [if_neg k2,if_pos k3]
   match i with
   | 0 => rfl
   | 1 => rfl
   | 2 => rfl
   | 3 => rfl
   | 4 => rfl
   | q + 5 => omega
  ·have k0:¬ modS a 5 = 0:=by simpa using h0
   have k1:¬ modS a 5 = 1:=by simpa using h1
   have k2:¬ modS a 5 = 2:=by simpa using h2
   have k3:¬ modS a 5 = 3:=by simpa using h3
   unfold mkA
   rw [show mkK a = 3 by unfold mkK; rw [if_neg k0,if_neg k1],show mkR a b = 0 by unfold mkR; rw [if_neg k0],show mkH a b b = 0 by unfold mkH; rw [if_neg k0,if_neg k1],show mkH a b c = 0 by unfold mkH; rw [if_neg k0,if_neg k1],show mkN a = 8 by unfold mkN; rw [if_neg k0,if_neg k1,if_neg k2,if_neg k3]]
   refine alk_shape (alk_ro fun i hi => ?_)
   unfold mkX mkY mkP
   rw [if_neg k2,if_neg k3]
   match i with
   | 0 => rfl
   | 1 => rfl
   | 2 => rfl
   | 3 => rfl
   | 4 => rfl
   | 5 => rfl
   | 6 => rfl
   | 7 => rfl
   | q + 8 => omega
 ·have e:∀ v,16 + modS v 4081 = mkW b v:=fun v => by unfold mkW; rw [if_neg (by simpa using h)]
  simp only [e]
  simp only [mkM_eq,wrM,wrM2,wrM3]
  refine ⟨ha,by unfold inR; omega,fun h0 => ?_,fun h0 => ⟨fun h1 => ?_,fun h1 => ⟨fun h2 => ?_,fun h2 => ⟨fun h3 => ?_,fun h3 => ?_⟩⟩⟩⟩
  ·have k0:modS a 5 = 0:=by simpa using h0
   unfold mkA
   rw [show mkK a = 1 by unfold mkK; rw [if_pos k0],show mkR a b = mkW b b by unfold mkR; rw [if_pos k0],show mkH a b b = 0 by unfold mkH; rw [if_pos k0],show mkH a b c = 0 by unfold mkH; rw [if_pos k0],show mkN a = 0 by unfold mkN; rw [if_pos k0]]
   exact alk_shape alk_nil
  ·have k0:¬ modS a 5 = 0:=by simpa using h0
   have k1:modS a 5 = 1:=by simpa using h1
   unfold mkA
   rw [show mkK a = 2 by unfold mkK; rw [if_neg k0,if_pos k1],show mkR a b = 0 by unfold mkR; rw [if_neg k0],show mkH a b b = mkW b b by unfold mkH; rw [if_neg k0,if_pos k1],show mkH a b c = mkW b c by unfold mkH; rw [if_neg k0,if_pos k1],show mkN a = 0 by unfold mkN; rw [if_neg k0,if_pos k1]]
   exact alk_shape alk_nil
  ·have k0:¬ modS a 5 = 0:=by simpa using h0
   have k1:¬ modS a 5 = 1:=by simpa using h1
   have k2:modS a 5 = 2:=by simpa using h2
   unfold mkA
   rw [show mkK a = 3 by unfold mkK; rw [if_neg k0,if_neg k1],show mkR a b = 0 by unfold mkR; rw [if_neg k0],show mkH a b b = 0 by unfold mkH; rw [if_neg k0,if_neg k1],show mkH a b c = 0 by unfold mkH; rw [if_neg k0,if_neg k1],show mkN a = 3 by unfold mkN; rw [if_neg k0,if_neg k1,if_pos k2]]
   refine alk_shape (alk_ro fun i hi => ?_)
   unfold mkX mkY mkP
   rw [if_pos k2]
   match i with
   | 0 => rfl
   | 1 => rfl
   | 2 => rfl
   | q + 3 => omega
  ·have k0:¬ modS a 5 = 0:=by simpa using h0
   have k1:¬ modS a 5 = 1:=by simpa using h1
   have k2:¬ modS a 5 = 2:=by simpa using h2
   have k3:modS a 5 = 3:=by simpa using h3
   unfold mkA
   rw [show mkK a = 3 by unfold mkK; rw [if_neg k0,if_neg k1],show mkR a b = 0 by unfold mkR; rw [if_neg k0],show mkH a b b = 0 by unfold mkH; rw [if_neg k0,if_neg k1],show mkH a b c = 0 by unfold mkH; rw [if_neg k0,if_neg k1],show mkN a = 5 by unfold mkN; rw [if_neg k0,if_neg k1,if_neg k2,if_pos k3]]
   refine alk_shape (alk_ro fun i hi => ?_)
   unfold mkX mkY mkP
   rw [if_neg k2,if_pos k3]
   match i with
   | 0 => rfl
   | 1 => rfl
   | 2 => rfl
   | 3 => rfl
   | 4 => rfl
   | q + 5 => omega
  ·have k0:¬ modS a 5 = 0:=by simpa using h0
   have k1:¬ modS a 5 = 1:=by simpa using h1
   have k2:¬ modS a 5 = 2:=by simpa using h2
   have k3:¬ modS a 5 = 3:=by simpa using h3
   unfold mkA
   rw [show mkK a = 3 by unfold mkK; rw [if_neg k0,if_neg k1],show mkR a b = 0 by unfold mkR; rw [if_neg k0],show mkH a b b = 0 by unfold mkH; rw [if_neg k0,if_neg k1],show mkH a b c = 0 by unfold mkH; rw [if_neg k0,if_neg k1],show mkN a = 8 by unfold mkN; rw [if_neg k0,if_neg k1,if_neg k2,if_neg k3]]
   refine alk_shape (alk_ro fun i hi => ?_)
   unfold mkX mkY mkP
   rw [if_neg k2,if_neg k3]
   match i with
   | 0 => rfl
   | 1 => rfl
   | 2 => rfl
   | 3 => rfl
   | 4 => rfl
   | 5 => rfl
   | 6 => rfl
   | 7 => rfl
   | q + 8 => omega
def c7:Con
 | [.agg [.v (.int .i64 a),.v (.int .i64 b),.v (.int .i64 c),.v (.int .i64 d),.v (.int .i64 e),.v (.int .i64 f)]] => some ([inR a,inR b,inR c],mkA a b c)
 | _ => none
theorem con7:ConOK Tryz.prog 7 c7:=ConOK.goR (G:=[(40,c40)]) (H:=[]) (.cons con40 .nil) Tryz.func7 fun l ob rr hc hob => by
 unfold c7 at hc
 split at hc
 ·rename_i a b c d e f
  cases hc
  exact ⟨_,fun w I vs h => h,by kernel_rfl,vc7 a b c d e f (hob _ (by simp)) (hob _ (by simp)) (hob _ (by simp))⟩
 ·cases hc
def foAt (x y s:Int):V2:=((x.tmod (s * 4294967296),false),(y.tmod (s * 4294967296),false))
def foRot (u:Int):V2:=((csV (u.tmod (8 * 4294967296)) false,csF (u.tmod (8 * 4294967296)) false),(snV (u.tmod (8 * 4294967296)) false,snF (u.tmod (8 * 4294967296)) false))
theorem tmod_inR {x s:Int} (h:1 ≤ s ∧ s ≤ 1000000):inR (x.tmod (s * 4294967296)):=by
 have h1:x.tmod (s * 4294967296) < s * 4294967296:=Int.tmod_lt_of_pos x (by omega)
 have h2:-(s * 4294967296) < x.tmod (s * 4294967296):=Int.lt_tmod_of_pos x (by omega)
 unfold inR
 omega
def c9:Con
 | [.agg [.v (.int .i64 a),.v (.int .i64 b),.v (.int .i64 c),.v (.int .i64 x),.v (.int .i64 y),.v (.int .i64 u)],.v (.int .i64 s)] => some ([inR x,inR y,inR u,1 ≤ s ∧ s ≤ 1000000],poseA (foAt x y s) (foRot u))
 | _ => none
theorem con9:ConOK Tryz.prog 9 c9:=ConOK.of (G:=[(48,c48),(49,c49)]) (H:=[(1,⟨[(14,.slot 4)],[]⟩)]) (.cons con48 (.cons con49 .nil)) Tryz.func9 fun l ob r hc hob => by
 unfold c9 at hc
 split at hc
 ·rename_i a b c x y u s
  cases hc
  have h_0:inR x:=hob _ (by simp)
  have h_1:inR y:=hob _ (by simp)
  have h_2:inR u:=hob _ (by simp)
  have h_3:1 ≤ s ∧ s ≤ 1000000:=hob _ (by simp)
  refine ⟨by kernel_rfl,fnVC_go (rs:=[.cell 4 42]) rfl rfl ?_⟩
  simp only [go_sem,c48,c49]
  simp only [forall_eq]
  exact ⟨h_0,h_3,h_1,h_3,h_2,tmod_inR (by omega),rfl⟩
 ·cases hc
theorem mk_inR {a b c:Int} (i:Nat) (hi:i < mkN a):inR (mkX a b c i) ∧ inR (mkY a b c i):=by
 have b1:=@mkM_bd b b
 have b2:=@mkM_bd b c
 have t1:(mkM b b).tdiv 2 = mkM b b / 2:=Int.tdiv_eq_ediv_of_nonneg (by omega)
 have t2:(-mkM b b).tdiv 2 = -(mkM b b / 2):=by rw [Int.neg_tdiv,t1]
 unfold mkX mkY mkP
 unfold mkN at hi
 by_cases k0:modS a 5 = 0
 ·rw [if_pos k0] at hi; omega
 rw [if_neg k0] at hi
 by_cases k1:modS a 5 = 1
 ·rw [if_pos k1] at hi; omega
 rw [if_neg k1] at hi
 rw [t1,t2]
 generalize mkM b b = M at *
 generalize mkM b c = T at *
 by_cases k2:modS a 5 = 2
 ·rw [if_pos k2] at hi
  rw [if_pos k2]
  match i with
  | 0 => show inR (-M) ∧ inR (-T); unfold inR; omega
  | 1 => show inR M ∧ inR (-T); unfold inR; omega
  | 2 => show inR 0 ∧ inR T; unfold inR; omega
  | q + 3 => omega
 rw [if_neg k2] at hi
 rw [if_neg k2]
 by_cases k3:modS a 5 = 3
 ·rw [if_pos k3] at hi
  rw [if_pos k3]
  match i with
  | 0 => show inR (-(M / 2)) ∧ inR (-T); unfold inR; omega
  | 1 => show inR (M / 2) ∧ inR (-T); unfold inR; omega
  | 2 => show inR M ∧ inR 0; unfold inR; omega
  | 3 => show inR 0 ∧ inR T; unfold inR; omega
  | 4 => show inR (-M) ∧ inR 0; unfold inR; omega
  | q + 5 => omega
 rw [if_neg k3] at hi
 rw [if_neg k3]
 match i with
 | 0 => show inR M ∧ inR (-(M / 2)); unfold inR; omega
 | 1 => show inR M ∧ inR (M / 2); unfold inR; omega
 | 2 => show inR (M / 2) ∧ inR M; unfold inR; omega
 | 3 => show inR (-(M / 2)) ∧ inR M; unfold inR; omega
 | 4 => show inR (-M) ∧ inR (M / 2); unfold inR; omega
 | 5 => show inR (-M) ∧ inR (-(M / 2)); unfold inR; omega
 | 6 => show inR (-(M / 2)) ∧ inR (-M); unfold inR; omega
 | 7 => show inR (M / 2) ∧ inR (-M); unfold inR; omega
 | q + 8 => omega
theorem mkN_le {a:Int}:mkN a ≤ 9223372036854775806:=by
 unfold mkN
 (repeat' split) <;> omega
def foK (a b c x y u s:Int):Int:=plK (mkK a) (mkR a b) (mkH a b b) (mkH a b c) (mkN a) (mkX a b c) (mkY a b c) (foAt x y s) (foRot u)
def foX (a b c x y u s:Int):Int:=plC (mkK a) (mkR a b) (mkH a b b) (mkH a b c) (mkN a) (mkX a b c) (mkY a b c) (foAt x y s) (foRot u) (foAt x y s).1
def foY (a b c x y u s:Int):Int:=plC (mkK a) (mkR a b) (mkH a b b) (mkH a b c) (mkN a) (mkX a b c) (mkY a b c) (foAt x y s) (foRot u) (foAt x y s).2
def foR (a b c x y u s:Int):Int:=plR (mkK a) (mkR a b) (mkH a b b) (mkH a b c) (mkN a) (mkX a b c) (mkY a b c) (foAt x y s) (foRot u)
def foN (a b c x y u s:Int):Nat:=plN (mkK a) (mkR a b) (mkH a b b) (mkH a b c) (mkN a) (mkX a b c) (mkY a b c) (foAt x y s) (foRot u)
def foP (a b c x y u s:Int) (i:Nat):Int:=plX (mkK a) (mkH a b b) (mkH a b c) (mkX a b c) (mkY a b c) (foAt x y s) (foRot u) i
def foQ (a b c x y u s:Int) (i:Nat):Int:=plY (mkK a) (mkH a b b) (mkH a b c) (mkX a b c) (mkY a b c) (foAt x y s) (foRot u) i
def c23:Con
 | [.agg [.v (.int .i64 a),.v (.int .i64 b),.v (.int .i64 c),.v (.int .i64 x),.v (.int .i64 y),.v (.int .i64 u)],.v (.int .i64 s)] => some ([inR a,inR b,inR c,inR x,inR y,inR u,1 ≤ s ∧ s ≤ 1000000],formA (foK a b c x y u s) (foX a b c x y u s) (foY a b c x y u s) (foR a b c x y u s) (foN a b c x y u s) fun i => [i64 (foP a b c x y u s i),i64 (foQ a b c x y u s i)])
 | _ => none
theorem con23:ConOK Tryz.prog 23 c23:=ConOK.of (G:=[(7,c7),(9,c9),(72,c8)]) (H:=[(1,⟨[(10,.made 9)],[]⟩)]) (.cons con7 (.cons con9 (.cons con72 .nil))) Tryz.func23 fun l ob r hc hob => by
 unfold c23 at hc
 split at hc
 ·rename_i a b c x y u s
  cases hc
  have h_0:inR a:=hob _ (by simp)
  have h_1:inR b:=hob _ (by simp)
  have h_2:inR c:=hob _ (by simp)
  have h_3:inR x:=hob _ (by simp)
  have h_4:inR y:=hob _ (by simp)
  have h_5:inR u:=hob _ (by simp)
  have h_6:1 ≤ s ∧ s ≤ 1000000:=hob _ (by simp)
  refine ⟨by kernel_rfl,fnVC_go (rs:=[.cell 4 31]) rfl rfl ?_⟩
  simp only [go_sem,c7,c9,c8,c8]
  simp only [forall_eq]
  exact ⟨h_0,h_1,h_2,h_3,h_4,h_5,h_6,fun i hi => ⟨rfl,mk_inR i hi⟩,mkN_le,tmod_inR h_6,tmod_inR h_6,rg_inR (show rg (csV _ _) from snV_rg),rg_inR snV_rg,rfl⟩
 ·cases hc
end Go.Ax
end
section
/-
  What is met first, the law's body.
-/
set_option maxHeartbeats 4000000
set_option maxRecDepth 100000
namespace Go.Ax
open Go.Proofs
theorem foX_inR {a b c x y u s:Int}:inR (foX a b c x y u s):=by
 unfold foX plC
 split
 ·exact spV_inR
 ·unfold inR; omega
theorem foY_inR {a b c x y u s:Int}:inR (foY a b c x y u s):=by
 unfold foY plC
 split
 ·exact spV_inR
 ·unfold inR; omega
theorem foR_inR {a b c x y u s:Int}:inR (foR a b c x y u s):=by
 have:=@mkW_bd b b
 unfold foR plR mkR
 split
 ·split <;> (unfold inR; omega)
 ·unfold inR; omega
end Go.Ax
end
section
/-
  How far forms are from each other: the small parts.
-/
set_option maxHeartbeats 4000000
set_option maxRecDepth 100000
namespace Go.Ax
open Go.Proofs
def dtW (a b c d:Int):Int:=IntKind.i64.wrap (IntKind.i64.wrap (a * c) + IntKind.i64.wrap (b * d))
def crW (a b c d:Int):Int:=IntKind.i64.wrap (IntKind.i64.wrap (a * d) - IntKind.i64.wrap (b * c))
def mnW (a b:Int):Int:=IntKind.i64.wrap (b - a)
def farS (ax ay bx byy cx cy r:Int):Bool:=
 if dtW (mnW ax cx) (mnW ay cy) (mnW ax bx) (mnW ay byy) ≤ 0 then decide (IntKind.i64.wrap (r * r) < dtW (mnW ax cx) (mnW ay cy) (mnW ax cx) (mnW ay cy))
 else if dtW (mnW ax bx) (mnW ay byy) (mnW ax bx) (mnW ay byy) ≤ dtW (mnW ax cx) (mnW ay cy) (mnW ax bx) (mnW ay byy) then decide (IntKind.i64.wrap (r * r) < dtW (mnW bx cx) (mnW byy cy) (mnW bx cx) (mnW byy cy))
 else decide (0 < cmpS (crW (mnW ax bx) (mnW ay byy) (mnW ax cx) (mnW ay cy) * crW (mnW ax bx) (mnW ay byy) (mnW ax cx) (mnW ay cy)) (IntKind.i64.wrap (r * r) * dtW (mnW ax bx) (mnW ay byy) (mnW ax bx) (mnW ay byy)))
theorem dtW_eq {a b c d:Int}:IntKind.i64.wrap (IntKind.i64.wrap (a * c) + IntKind.i64.wrap (b * d)) = dtW a b c d:=rfl
theorem mnW_eq {a b:Int}:IntKind.i64.wrap (b - a) = mnW a b:=rfl
theorem dtW_inR {a b c d:Int}:inR (dtW a b c d):=wrap_inR _
def c107:Con
 | [.agg [.v (.int .i64 ax),.v (.int .i64 ay)],.agg [.v (.int .i64 bx),.v (.int .i64 byy)],.agg [.v (.int .i64 cx),.v (.int .i64 cy)],.v (.int .i64 r)] => some ([],bo (farS ax ay bx byy cx cy r))
 | _ => none
theorem con107:ConOK Tryz.prog 107 c107:=ConOK.of (G:=[(104,c104),(105,c105),(162,c162),(185,c185)]) (H:=[(1,⟨[(12,.made 9),(13,.made 10),(14,.made 11)],[]⟩)]) (.cons con104 (.cons con105 (.cons con162 (.cons con185 .nil)))) Tryz.func107 fun l ob r hc hob => by
 unfold c107 at hc
 split at hc
 ·rename_i r
  cases hc
  refine ⟨by kernel_rfl,fnVC_go (rs:=[.tmp 8]) rfl rfl ?_⟩
  simp only [go_sem,c104,c105,c162,c185]
  simp only [forall_eq,mnW_eq,dtW_eq]
  refine ⟨fun h => ?_,fun h => ⟨fun h2 => ?_,fun h2 => ⟨wrap_inR _,wrap_inR _,wrap_inR _,dtW_inR,?_⟩⟩⟩
  ·unfold farS; rw [if_pos h]
  ·unfold farS; rw [if_neg h,if_pos h2]
  ·unfold farS; rw [if_neg h,if_neg h2]; rfl
 ·cases hc
def k180:Con
 | [.agg [.v (.int .i64 x),.v (.bool e),.v (.int .i64 y),.v (.bool f)],.agg [.v (.int .i64 a),.v (.int .i64 b)],.agg [.v (.int .i64 c),.v (.int .i64 d)]] => some ([inR x,inR y],nbA (vDot ((x,e),(y,f)) (vLoc (mnW a c) (mnW b d))))
 | _ => none
theorem kon180:ConOK Tryz.prog 128 k180:=ConOK.of (G:=[(104,c104),(47,k63),(126,k178)]) (H:=[(1,⟨[(6,.slot 6)],[]⟩)]) (.cons con104 (.cons kon63 (.cons kon178 .nil))) Tryz.func128 fun l ob r hc hob => by
 unfold k180 at hc
 split at hc
 ·rename_i x e y f a b c d
  cases hc
  have h_0:inR x:=hob _ (by simp)
  have h_1:inR y:=hob _ (by simp)
  refine ⟨by kernel_rfl,fnVC_go (rs:=[.cell 6 36]) rfl rfl ?_⟩
  simp only [go_sem,c104,k63,k178]
  simp only [forall_eq]
  exact ⟨wrap_inR _,wrap_inR _,h_0,h_1,rfl⟩
 ·cases hc
def clrS (n:Nat) (X Y:Nat → Int) (m:Nat) (Z T:Nat → Int):Bool:=decide (∃ i,i < n ∧ ∀ j,j < m → turnS (X i) (Y i) (X (nxt n i)) (Y (nxt n i)) (Z j) (T j) < 0)
def outS (n:Nat) (X Y:Nat → Int) (cx cy r:Int):Bool:=decide (inS n X Y cx cy = false ∧ ∀ i,i < n → farS (X i) (Y i) (X (nxt n i)) (Y (nxt n i)) cx cy r = true)
theorem vc108 (n m:Nat) (X Y Z T:Nat → Int) (hX:∀ i,i < n → inR (X i) ∧ inR (Y i)) (hZ:∀ i,i < m → inR (Z i) ∧ inR (T i)) (hn:n ≤ 9223372036854775806) (hm:m ≤ 9223372036854775806) (vX:∀ i,i < n → validS (X i) (Y i) = true) (vZ:∀ i,i < m → validS (Z i) (T i) = true) :
  fnVC Tryz.prog [(86,c86),(85,c85),(1000000 + 161,c161)] [] Tryz.f108 [.agg [.ro n 2 fun i => [i64 (X i),i64 (Y i)]],.agg [.ro m 2 fun i => [i64 (Z i),i64 (T i)]]] (· = bo (clrS n X Y m Z T)):=by
 refine fnVC_go (rs:=[.cell 4 4]) rfl rfl ?_
 simp only [go_sem,c85]
 have hg:spots n fun i => [i64 (X i),i64 (Y i)]:=fun i hi => ⟨rfl,hX i hi⟩
 refine rangeC_go (fun (i:Nat) => i ≤ n ∧ ∀ j,j < i → ¬ ∀ l,l < m → turnS (X j) (Y j) (X (nxt n j)) (Y (nxt n j)) (Z l) (T l) < 0) (fun i => i) (fun _ => []) [2,1,0] [11,12,5,6,13,14,15,16,17,18,19,8,20,21,22,23,24,25,16] 0 0 (N:=n) (sq:=edgeE n fun i => [i64 (X i),i64 (Y i)]) (ob:=[spots n fun i => [i64 (X i),i64 (Y i)],n ≤ 9223372036854775806]) rfl (by simp [hg,hn]) (by kernel_rfl) rfl (fun i _ => ⟨rfl,rfl⟩) ⟨Nat.zero_le _,fun j hj => by omega⟩ rfl ⟨[],?_,?_,?_⟩ ?_ ?_
 ·simp only [go_sem]
 ·simp only [go_sem]
 ·simp [goodNames,asg]
 ·intro i hi hlt
  simp only [go_sem,edgeE,c86]
  refine loopC_go (fun (j:Nat) => j ≤ m ∧ ∀ l,l < j → turnS (X i) (Y i) (X (nxt n i)) (Y (nxt n i)) (Z l) (T l) < 0) (fun j => m - j) (fun j => [(16,i64 j)]) (fun _ => []) [7,5,2,1,0] [17,18,19,8,20,21,22,23,24,25,16] 0 (by kernel_rfl) ?_ ⟨Nat.zero_le _,fun l hl => by omega⟩ ?_ ?_
  ·intro x _; simp [goodNames]
  ·simp only [go_sem]
  intro j hj
  simp only [go_sem,c86]
  refine ⟨fun hin => ⟨by omega,hin,fun z hz => ⟨vX i hlt,vX _ (nxt_lt hlt),vZ j (by omega),fun h => ⟨i + 1,⟨by have:i < n:=hlt; omega,fun j' hj' => ?_⟩,rfl,[],?_⟩,fun h z1 hz1 => ⟨j + 1,⟨by omega,fun l hl => ?_⟩,by omega,?_⟩⟩⟩,fun hin => ?_⟩
  ·by_cases e:j' = i
   ·subst e
    intro hc
    have:=hc j (by omega)
    omega
   ·exact hi.2 j' (by omega)
  ·simp [goodNames]
  ·by_cases e:l = j
   ·subst e; omega
   ·exact hj.2 l (by omega)
  ·rw [hz1,wrap_in (by unfold inR; omega)]; rfl
  ·exact (decide_eq_true (show ∃ i,_ from ⟨i,hlt,fun l hl => hj.2 l (by omega)⟩)).symm
 ·intro i hi he
  simp only [go_sem]
  refine (decide_eq_false (fun ⟨j,hj,hc⟩ => hi.2 j (by omega) hc)).symm
def c108:Con
 | [.agg [.ro n 2 g],.agg [.ro m 2 g']] => some ([spots n g,spots m g',n ≤ 9223372036854775806,m ≤ 9223372036854775806,∀ i,i < n → validS (gx g 0 i) (gx g 1 i) = true,∀ i,i < m → validS (gx g' 0 i) (gx g' 1 i) = true],bo (clrS n (gx g 0) (gx g 1) m (gx g' 0) (gx g' 1)))
 | _ => none
theorem con108:ConOK Tryz.prog 108 c108:=ConOK.go (G:=[(86,c86),(85,c85),(1000000 + 161,c161)]) (H:=[]) (.cons con86 (.cons con85 (.seq seq161 .nil))) Tryz.func108 fun l ob rr hc hob => by
 unfold c108 at hc
 split at hc
 ·rename_i n g m g'
  cases hc
  have hs:spots n g:=hob _ (by simp)
  have hs':spots m g':=hob _ (by simp)
  exact ⟨[.agg [.ro n 2 fun i => [i64 (gx g 0 i),i64 (gx g 1 i)]],.agg [.ro m 2 fun i => [i64 (gx g' 0 i),i64 (gx g' 1 i)]]],fun w I vs h => Rs_two (Rs_poly hs) (Rs_poly hs') h,by kernel_rfl,vc108 n m _ _ _ _ (fun i hi => (hs i hi).2) (fun i hi => (hs' i hi).2) (hob _ (by simp)) (hob _ (by simp)) (hob _ (by simp)) (hob _ (by simp))⟩
 ·cases hc
end Go.Ax
end
section
/-
  Whether forms are apart.
-/
set_option maxHeartbeats 4000000
set_option maxRecDepth 100000
namespace Go.Ax
open Go.Proofs
def ddS (x y r a b s:Int):Bool:=decide (IntKind.i64.wrap (IntKind.i64.wrap (r + s) * IntKind.i64.wrap (r + s)) < dtW (mnW x a) (mnW y b) (mnW x a) (mnW y b))
theorem Rs_if {w:World} {ρ:Env} {t:TypeId} {a a':AV} (h:∀ v,R w ρ a v → R w ρ a' v) (v:Value) (hR:R w ρ (.iface t a) v):R w ρ (.iface t a') v:=by
 cases hR with
 | iface hh => exact .iface (h _ hh)
def c90a:Con
 | [.iface 112 (.agg [.ro n 2 g]),.iface 107 (.agg [.v (.int .i64 x),.v (.int .i64 y),.v (.int .i64 r)])] => some ([spots n g,n ≤ 9223372036854775806,∀ i,i < n → validS (gx g 0 i) (gx g 1 i) = true,validS x y = true],bo (outS n (gx g 0) (gx g 1) x y r))
 | _ => none
theorem vc90a (n:Nat) (X Y:Nat → Int) (x y r:Int) (hX:∀ i,i < n → inR (X i) ∧ inR (Y i)) (hn:n ≤ 9223372036854775806) (vX:∀ i,i < n → validS (X i) (Y i) = true) (vC:validS x y = true) :
  fnVC Tryz.prog [(85,c85),(1000000 + 161,c161),(106,c106),(107,c107)] [(8,⟨[(15,.slot 4)],[]⟩)] Tryz.f58 [.iface 112 (.agg [.ro n 2 fun i => [i64 (X i),i64 (Y i)]]),.iface 107 (.agg [i64 x,i64 y,i64 r])] (· = bo (outS n X Y x y r)):=by
 refine fnVC_go (rs:=[.cell 4 4]) rfl rfl ?_
 simp only [go_sem,c85,c106]
 simp only [false_imp_iff,true_imp_iff,reduceCtorEq,true_and,and_true,Bool.false_eq_true]
 have hg:spots n fun i => [i64 (X i),i64 (Y i)]:=fun i hi => ⟨rfl,hX i hi⟩
 intro z hz
 refine ⟨hg,hn,vX,vC,fun h => ?_,fun h => ?_⟩
 ·refine (decide_eq_false fun hq => ?_).symm
  have hz:z = inS n X Y x y:=hz
  rw [← hz,h] at hq
  exact absurd hq.1 (by simp)
 refine rangeC_go (fun (i:Nat) => i ≤ n ∧ ∀ j,j < i → farS (X j) (Y j) (X (nxt n j)) (Y (nxt n j)) x y r = true) (fun i => i) (fun _ => []) [14,8,0] [63,64,11,12,65,66,67,68,69,70,71,72] 0 0 (N:=n) (sq:=edgeE n fun i => [i64 (X i),i64 (Y i)]) (ob:=[spots n fun i => [i64 (X i),i64 (Y i)],n ≤ 9223372036854775806]) rfl (by simp [hg,hn]) (by kernel_rfl) rfl (fun i _ => ⟨rfl,rfl⟩) ⟨Nat.zero_le _,fun j hj => by omega⟩ rfl ⟨[],?_,?_,?_⟩ ?_ ?_
 ·simp only [go_sem]
 ·simp only [go_sem]
 ·simp [goodNames,asg]
 ·intro i hi hlt
  simp only [go_sem,edgeE,c107]
  refine fun z1 hz1 => ⟨fun h2 => ?_,fun h2 => ⟨i + 1,⟨by have:i < n:=hlt; omega,fun j hj => ?_⟩,rfl,[],?_⟩⟩
  ·refine (decide_eq_false fun hq => ?_).symm
   have:=hq.2 i hlt
   rw [← hz1,h2] at this; cases this
  ·by_cases e:j = i
   ·subst e; rw [← hz1]; exact h2
   ·exact hi.2 j (by omega)
  ·simp [goodNames]
 ·intro i hi he
  simp only [go_sem]
  have hz:z = inS n X Y x y:=hz
  exact (decide_eq_true ⟨by rw [← hz,h],fun j hj => hi.2 j (by omega)⟩).symm
theorem con90a:ConOK Tryz.prog 58 c90a:=ConOK.go (G:=[(85,c85),(1000000 + 161,c161),(106,c106),(107,c107)]) (H:=[(8,⟨[(15,.slot 4)],[]⟩)]) (.cons con85 (.seq seq161 (.cons con106 (.cons con107 .nil)))) Tryz.func58 fun l ob rr hc hob => by
 unfold c90a at hc
 split at hc
 ·rename_i n g x y r
  cases hc
  have hs:spots n g:=hob _ (by simp)
  refine ⟨[.iface 112 (.agg [.ro n 2 fun i => [i64 (gx g 0 i),i64 (gx g 1 i)]]),.iface 107 (.agg [i64 x,i64 y,i64 r])],fun w I vs h => Rs_two (Rs_if (Rs_poly hs)) (fun v h => h) h,by kernel_rfl,vc90a n _ _ x y r (fun i hi => (hs i hi).2) (hob _ (by simp)) (hob _ (by simp)) (hob _ (by simp))⟩
 ·cases hc
theorem vc90d (x y r a b s:Int) :
  fnVC Tryz.prog [(104,c104),(105,c105)] [(8,⟨[(15,.slot 4)],[]⟩)] Tryz.f58 [.iface 107 (.agg [i64 x,i64 y,i64 r]),.iface 107 (.agg [i64 a,i64 b,i64 s])] (· = bo (ddS x y r a b s)):=by
 refine fnVC_go (rs:=[.cell 4 4]) rfl rfl ?_
 simp only [go_sem,c104,c105]
 simp only [false_imp_iff,true_imp_iff,reduceCtorEq,true_and,and_true,Bool.false_eq_true]
 simp only [forall_eq]
 rfl
theorem vc90e (n:Nat) (g:Nat → List AV) (x y r:Int) (hg:spots n g) (hn:n ≤ 9223372036854775806) (vX:∀ i,i < n → validS (gx g 0 i) (gx g 1 i) = true) (vC:validS x y = true) :
  fnVC Tryz.prog [(58,c90a)] [(8,⟨[(15,.slot 4)],[]⟩)] Tryz.f58 [.iface 107 (.agg [i64 x,i64 y,i64 r]),.iface 112 (.agg [.ro n 2 g])] (· = bo (outS n (gx g 0) (gx g 1) x y r)):=by
 refine fnVC_go (rs:=[.cell 4 4]) rfl rfl ?_
 simp only [go_sem,c90a]
 simp only [false_imp_iff,true_imp_iff,reduceCtorEq,true_and,and_true,Bool.false_eq_true]
 exact fun z hz => ⟨hg,hn,vX,vC,hz⟩
theorem vc90f (n:Nat) (g:Nat → List AV) (m:Nat) (g':Nat → List AV) (hg:spots n g) (hn:n ≤ 9223372036854775806) (vX:∀ i,i < n → validS (gx g 0 i) (gx g 1 i) = true) (hg':spots m g') (hm:m ≤ 9223372036854775806) (vZ:∀ i,i < m → validS (gx g' 0 i) (gx g' 1 i) = true) :
  fnVC Tryz.prog [(108,c108)] [(8,⟨[(15,.slot 4)],[]⟩)] Tryz.f58 [.iface 112 (.agg [.ro n 2 g]),.iface 112 (.agg [.ro m 2 g'])] (· = bo (clrS n (gx g 0) (gx g 1) m (gx g' 0) (gx g' 1) || clrS m (gx g' 0) (gx g' 1) n (gx g 0) (gx g 1))):=by
 refine fnVC_go (rs:=[.cell 4 4]) rfl rfl ?_
 simp only [go_sem,c108]
 simp only [false_imp_iff,true_imp_iff,reduceCtorEq,true_and,and_true,Bool.false_eq_true]
 exact fun z hz => ⟨hg,hg',hn,hm,vX,vZ,fun z1 hz1 => ⟨fun _ => hg',fun _ => hg,fun _ => hm,fun _ => hn,fun _ => vZ,fun _ => vX,by rw [hz,hz1]⟩⟩
def c90d:Con
 | [.iface 107 (.agg [.v (.int .i64 x),.v (.int .i64 y),.v (.int .i64 r)]),.iface 107 (.agg [.v (.int .i64 a),.v (.int .i64 b),.v (.int .i64 s)])] => some ([],bo (ddS x y r a b s))
 | _ => none
theorem con90d:ConOK Tryz.prog 58 c90d:=ConOK.go (G:=[(104,c104),(105,c105)]) (H:=[(8,⟨[(15,.slot 4)],[]⟩)]) (.cons con104 (.cons con105 .nil)) Tryz.func58 fun l ob rr hc hob => by
 unfold c90d at hc
 split at hc
 ·rename_i x y r a b s
  cases hc
  exact ⟨_,fun w I vs h => h,by kernel_rfl,vc90d x y r a b s⟩
 ·cases hc
def c90e:Con
 | [.iface 107 (.agg [.v (.int .i64 x),.v (.int .i64 y),.v (.int .i64 r)]),.iface 112 (.agg [.ro n 2 g])] => some ([spots n g,n ≤ 9223372036854775806,∀ i,i < n → validS (gx g 0 i) (gx g 1 i) = true,validS x y = true],bo (outS n (gx g 0) (gx g 1) x y r))
 | _ => none
theorem con90e:ConOK Tryz.prog 58 c90e:=ConOK.go (G:=[(58,c90a)]) (H:=[(8,⟨[(15,.slot 4)],[]⟩)]) (.cons con90a .nil) Tryz.func58 fun l ob rr hc hob => by
 unfold c90e at hc
 split at hc
 ·rename_i x y r n g
  cases hc
  exact ⟨_,fun w I vs h => h,by kernel_rfl,vc90e n g x y r (hob _ (by simp)) (hob _ (by simp)) (hob _ (by simp)) (hob _ (by simp))⟩
 ·cases hc
def c90f:Con
 | [.iface 112 (.agg [.ro n 2 g]),.iface 112 (.agg [.ro m 2 g'])] => some ([spots n g,n ≤ 9223372036854775806,∀ i,i < n → validS (gx g 0 i) (gx g 1 i) = true,spots m g',m ≤ 9223372036854775806,∀ i,i < m → validS (gx g' 0 i) (gx g' 1 i) = true],bo (clrS n (gx g 0) (gx g 1) m (gx g' 0) (gx g' 1) || clrS m (gx g' 0) (gx g' 1) n (gx g 0) (gx g 1)))
 | _ => none
theorem con90f:ConOK Tryz.prog 58 c90f:=ConOK.go (G:=[(108,c108)]) (H:=[(8,⟨[(15,.slot 4)],[]⟩)]) (.cons con108 .nil) Tryz.func58 fun l ob rr hc hob => by
 unfold c90f at hc
 split at hc
 ·rename_i n g m g'
  cases hc
  exact ⟨_,fun w I vs h => h,by kernel_rfl,vc90f n g m g' (hob _ (by simp)) (hob _ (by simp)) (hob _ (by simp)) (hob _ (by simp)) (hob _ (by simp)) (hob _ (by simp))⟩
 ·cases hc
def c58 (l:List AV):Option (List Prop × AV):=match l with
 | [.iface 112 _,.iface 107 _] => c90a l
 | [.iface 107 _,.iface 112 _] => c90e l
 | [.iface 107 _,.iface 107 _] => c90d l
 | [.iface 112 _,.iface 112 _] => c90f l
 | [.iface 107 _,.v .nilIface] => some ([False],bo false)
 | [.iface 112 _,.v .nilIface] => some ([False],bo false)
 | [.v .nilIface,.iface 107 _] => some ([False],bo false)
 | [.v .nilIface,.iface 112 _] => some ([False],bo false)
 | [.v .nilIface,.v .nilIface] => some ([False],bo false)
 | _ => none
theorem con58:ConOK Tryz.prog 58 c58:=fun l ob rr hc hob => by
 unfold c58 at hc
 split at hc
 ·exact con90a _ _ _ hc hob
 ·exact con90e _ _ _ hc hob
 ·exact con90d _ _ _ hc hob
 ·exact con90f _ _ _ hc hob
 ·cases hc; exact (hob False (by simp)).elim
 ·cases hc; exact (hob False (by simp)).elim
 ·cases hc; exact (hob False (by simp)).elim
 ·cases hc; exact (hob False (by simp)).elim
 ·cases hc; exact (hob False (by simp)).elim
 ·cases hc
end Go.Ax
end
section
/-
  Whether forms are apart: the two.
-/
set_option maxHeartbeats 4000000
set_option maxRecDepth 100000
namespace Go.Ax
open Go.Proofs
def apS (k x y r:Int) (n:Nat) (X Y:Nat → Int) (k' x' y' r':Int) (m:Nat) (Z T:Nat → Int):Bool:=
 if checkS k x y r n X Y = 0 ∧ checkS k' x' y' r' m Z T = 0 then
  (if k = 1 then (if k' = 1 then ddS x y r x' y' r' else outS m Z T x y r) else if k' = 1 then outS n X Y x' y' r' else (clrS n X Y m Z T || clrS m Z T n X Y))
 else false
def bothS (k x y r:Int) (n:Nat) (g:Nat → List AV) (k' x' y' r':Int) (m:Nat) (g':Nat → List AV):AV:=if checkS k x y r n (gx g 0) (gx g 1) = 0 then (if k = 1 then (if checkS k' x' y' r' m (gx g' 0) (gx g' 1) = 0 then (if k' = 1 then .tup [.iface 107 (.agg [i64 x,i64 y,i64 r]),.iface 107 (.agg [i64 x',i64 y',i64 r']),bo true] else .tup [.iface 107 (.agg [i64 x,i64 y,i64 r]),.iface 112 (.agg [.ro m 2 g']),bo true]) else .tup [.iface 107 (.agg [i64 x,i64 y,i64 r]),.v .nilIface,bo false]) else (if checkS k' x' y' r' m (gx g' 0) (gx g' 1) = 0 then (if k' = 1 then .tup [.iface 112 (.agg [.ro n 2 g]),.iface 107 (.agg [i64 x',i64 y',i64 r']),bo true] else .tup [.iface 112 (.agg [.ro n 2 g]),.iface 112 (.agg [.ro m 2 g']),bo true]) else .tup [.iface 112 (.agg [.ro n 2 g]),.v .nilIface,bo false])) else (if checkS k' x' y' r' m (gx g' 0) (gx g' 1) = 0 then (if k' = 1 then .tup [.v .nilIface,.iface 107 (.agg [i64 x',i64 y',i64 r']),bo false] else .tup [.v .nilIface,.iface 112 (.agg [.ro m 2 g']),bo false]) else .tup [.v .nilIface,.v .nilIface,bo false])
def c57:Con
 | [.agg [.v (.int .i64 k),.v (.int .i64 x),.v (.int .i64 y),.v (.int .i64 r),.ro n 2 g],.agg [.v (.int .i64 k'),.v (.int .i64 x'),.v (.int .i64 y'),.v (.int .i64 r'),.ro m 2 g']] => some ([spots n g,spots m g',n ≤ 9223372036854775806,m ≤ 9223372036854775806,inR x,inR y,inR r,inR x',inR y',inR r'],
   bothS k x y r n g k' x' y' r' m g')
 | _ => none
theorem vc57 (k x y r:Int) (n:Nat) (g:Nat → List AV) (k' x' y' r':Int) (m:Nat) (g':Nat → List AV) (hg:spots n g) (hg':spots m g') (hn:n ≤ 9223372036854775806) (hm:m ≤ 9223372036854775806) (h1:inR x) (h2:inR y) (h3:inR r) (h4:inR x') (h5:inR y') (h6:inR r') :
  fnVC Tryz.prog [(53,c53)] [] Tryz.f57 [formA k x y r n g,formA k' x' y' r' m g'] (· = bothS k x y r n g k' x' y' r' m g'):=by
 refine fnVC_go (rs:=[.tmp 4,.tmp 5,.tmp 6]) rfl rfl ?_
 simp only [go_sem,c53]
 exact ⟨fun hA => ⟨fun hk => ⟨hg,hn,h1,h2,h3,fun hB => ⟨fun hk' => ⟨hg',hm,h4,h5,h6,by unfold bothS; rw [if_pos hA,if_pos hk,if_pos hB,if_pos hk']⟩,fun hk' => ⟨hg',hm,h4,h5,h6,by unfold bothS; rw [if_pos hA,if_pos hk,if_pos hB,if_neg hk']⟩⟩,fun hB => ⟨hg',hm,h4,h5,h6,by unfold bothS; rw [if_pos hA,if_pos hk,if_neg hB]⟩⟩,fun hk => ⟨hg,hn,h1,h2,h3,fun hB => ⟨fun hk' => ⟨hg',hm,h4,h5,h6,by unfold bothS; rw [if_pos hA,if_neg hk,if_pos hB,if_pos hk']⟩,fun hk' => ⟨hg',hm,h4,h5,h6,by unfold bothS; rw [if_pos hA,if_neg hk,if_pos hB,if_neg hk']⟩⟩,fun hB => ⟨hg',hm,h4,h5,h6,by unfold bothS; rw [if_pos hA,if_neg hk,if_neg hB]⟩⟩⟩,fun hA => ⟨hg,hn,h1,h2,h3,fun hB => ⟨fun hk' => ⟨hg',hm,h4,h5,h6,by unfold bothS; rw [if_neg hA,if_pos hB,if_pos hk']⟩,fun hk' => ⟨hg',hm,h4,h5,h6,by unfold bothS; rw [if_neg hA,if_pos hB,if_neg hk']⟩⟩,fun hB => ⟨hg',hm,h4,h5,h6,by unfold bothS; rw [if_neg hA,if_neg hB]⟩⟩⟩
theorem con57:ConOK Tryz.prog 57 c57:=ConOK.go (G:=[(53,c53)]) (H:=[]) (.cons con53 .nil) Tryz.func57 fun l ob rr hc hob => by
 unfold c57 at hc
 split at hc
 ·rename_i k x y r n g k' x' y' r' m g'
  cases hc
  exact ⟨_,fun w I vs h => h,by kernel_rfl,vc57 k x y r n g k' x' y' r' m g' (hob _ (by simp)) (hob _ (by simp)) (hob _ (by simp)) (hob _ (by simp)) (hob _ (by simp)) (hob _ (by simp)) (hob _ (by simp)) (hob _ (by simp)) (hob _ (by simp)) (hob _ (by simp))⟩
 ·cases hc
theorem vc24 (k x y r:Int) (n:Nat) (g:Nat → List AV) (k' x' y' r':Int) (m:Nat) (g':Nat → List AV) (hg:spots n g) (hg':spots m g') (hn:n ≤ 9223372036854775806) (hm:m ≤ 9223372036854775806) (h1:inR x) (h2:inR y) (h3:inR r) (h4:inR x') (h5:inR y') (h6:inR r') :
  fnVC Tryz.prog [(57,c57),(58,c58)] [] Tryz.f24 [formA k x y r n g,formA k' x' y' r' m g'] (· = bo (apS k x y r n (gx g 0) (gx g 1) k' x' y' r' m (gx g' 0) (gx g' 1))):=by
 refine fnVC_go (rs:=[.tmp 4]) rfl rfl ?_
 simp only [go_sem,c57,bothS,c58,c90a,c90d,c90e,c90f]
 refine ⟨fun hA => ⟨fun hk => ⟨fun hB => ⟨fun hk' => ?_,fun hk' => ?_⟩,fun hB => ?_⟩,fun hk => ⟨fun hB => ⟨fun hk' => ?_,fun hk' => ?_⟩,fun hB => ?_⟩⟩,fun hA => ⟨fun hB => ⟨fun hk' => ?_,fun hk' => ?_⟩,fun hB => ?_⟩⟩
 ·exact fun z hz => ⟨hg,hg',hn,hm,h1,h2,h3,h4,h5,h6,fun z1 hz1 => by rw [hz,hz1,Bool.true_and]; unfold apS; rw [if_pos ⟨hA,hB⟩,if_pos hk,if_pos hk']⟩
 ·exact fun z hz => ⟨hg,hg',hn,hm,h1,h2,h3,h4,h5,h6,fun z1 hz1 => ⟨fun _ => hg',fun _ => hm,fun _ => (check_1 hB).2.2.1,fun _ => (check_1 hA).2.1,by rw [hz,hz1,Bool.true_and]; unfold apS; rw [if_pos ⟨hA,hB⟩,if_pos hk,if_neg hk']⟩⟩
 ·exact fun z hz => ⟨hg,hg',hn,hm,h1,h2,h3,h4,h5,h6,fun z1 hz1 => ⟨fun h => (by rw [hz] at h; cases h),by rw [hz,Bool.false_and]; unfold apS; rw [if_neg (fun q => hB q.2)]⟩⟩
 ·exact fun z hz => ⟨hg,hg',hn,hm,h1,h2,h3,h4,h5,h6,fun z1 hz1 => ⟨fun _ => hg,fun _ => hn,fun _ => (check_1 hA).2.2.1,fun _ => (check_1 hB).2.1,by rw [hz,hz1,Bool.true_and]; unfold apS; rw [if_pos ⟨hA,hB⟩,if_neg hk,if_pos hk']⟩⟩
 ·exact fun z hz => ⟨hg,hg',hn,hm,h1,h2,h3,h4,h5,h6,fun z1 hz1 => ⟨fun _ => hg,fun _ => hn,fun _ => (check_1 hA).2.2.1,fun _ => hg',fun _ => hm,fun _ => (check_1 hB).2.2.1,by rw [hz,hz1,Bool.true_and]; unfold apS; rw [if_pos ⟨hA,hB⟩,if_neg hk,if_neg hk']⟩⟩
 ·exact fun z hz => ⟨hg,hg',hn,hm,h1,h2,h3,h4,h5,h6,fun z1 hz1 => ⟨fun h => (by rw [hz] at h; cases h),by rw [hz,Bool.false_and]; unfold apS; rw [if_neg (fun q => hB q.2)]⟩⟩
 ·exact fun z hz => ⟨hg,hg',hn,hm,h1,h2,h3,h4,h5,h6,fun z1 hz1 => ⟨fun h => (by rw [hz] at h; cases h),by rw [hz,Bool.false_and]; unfold apS; rw [if_neg (fun q => hA q.1)]⟩⟩
 ·exact fun z hz => ⟨hg,hg',hn,hm,h1,h2,h3,h4,h5,h6,fun z1 hz1 => ⟨fun h => (by rw [hz] at h; cases h),by rw [hz,Bool.false_and]; unfold apS; rw [if_neg (fun q => hA q.1)]⟩⟩
 ·exact fun z hz => ⟨hg,hg',hn,hm,h1,h2,h3,h4,h5,h6,fun z1 hz1 => ⟨fun h => (by rw [hz] at h; cases h),by rw [hz,Bool.false_and]; unfold apS; rw [if_neg (fun q => hA q.1)]⟩⟩
def c24:Con
 | [.agg [.v (.int .i64 k),.v (.int .i64 x),.v (.int .i64 y),.v (.int .i64 r),.ro n 2 g],.agg [.v (.int .i64 k'),.v (.int .i64 x'),.v (.int .i64 y'),.v (.int .i64 r'),.ro m 2 g']] => some ([spots n g,spots m g',n ≤ 9223372036854775806,m ≤ 9223372036854775806,inR x,inR y,inR r,inR x',inR y',inR r'],
   bo (apS k x y r n (gx g 0) (gx g 1) k' x' y' r' m (gx g' 0) (gx g' 1)))
 | _ => none
theorem con24:ConOK Tryz.prog 24 c24:=ConOK.go (G:=[(57,c57),(58,c58)]) (H:=[]) (.cons con57 (.cons con58 .nil)) Tryz.func24 fun l ob rr hc hob => by
 unfold c24 at hc
 split at hc
 ·rename_i k x y r n g k' x' y' r' m g'
  cases hc
  exact ⟨_,fun w I vs h => h,by kernel_rfl,vc24 k x y r n g k' x' y' r' m g' (hob _ (by simp)) (hob _ (by simp)) (hob _ (by simp)) (hob _ (by simp)) (hob _ (by simp)) (hob _ (by simp)) (hob _ (by simp)) (hob _ (by simp)) (hob _ (by simp)) (hob _ (by simp))⟩
 ·cases hc
end Go.Ax
end
section
/-
  The gap between an edge and a form.
-/
set_option maxHeartbeats 4000000
set_option maxRecDepth 100000
namespace Go.Ax
open Go.Proofs
def hgt (a b c d x y:Int):Nb:=vDot (vNorm a b c d) (vLoc (mnW a x) (mnW b y))
def mnN (h:Nat → Nb):Nat → Nb
 | 0 => h 0
 | n + 1 => nMn (mnN h n) (h (n + 1))
theorem hgt_rg {a b c d x y:Int}:rg (hgt a b c d x y).1:=nDot_rg
theorem mnN_step {h:Nat → Nb} {n:Nat} (h1:rg (mnN h n).1) (h2:rg (h (n + 1)).1):mnN h (n + 1) = (if (h (n + 1)).1 < (mnN h n).1 then (h (n + 1)).1 else (mnN h n).1,(mnN h n).2 || (h (n + 1)).2):=by
 show nMn (mnN h n) (h (n + 1)) = _
 unfold nMn
 rw [whV_of h1,whV_of h2,whF_of h1,whF_of h2]
theorem mnN_rg {h:Nat → Nb} (hr:∀ i,rg (h i).1):∀ n,rg (mnN h n).1
 | 0 => hr 0
 | n + 1 => by
  have h1:=mnN_rg hr n
  have h2:=hr (n + 1)
  rw [mnN_step h1 h2]
  dsimp only
  split
  ·exact h2
  ·exact h1
theorem mn_ex {h:Nat → Nb} (hr:∀ i,rg (h i).1):∀ k,exS 1 (h 0).1 (fun i => (h (i + 1)).1) k = (mnN h k).1
 | 0 => rfl
 | k + 1 => by
  rw [mnN_step (mnN_rg hr k) (hr (k + 1))]
  have ih:=mn_ex hr k
  unfold exS
  rw [ih]
  by_cases q:(h (k + 1)).1 < (mnN h k).1
  ·rw [if_pos (.inl ⟨rfl,q⟩)]; dsimp only; rw [if_pos q]
  ·rw [if_neg (by rintro (q1 | q1); exact q q1.2; exact absurd q1.1 (by omega))]; dsimp only; rw [if_neg q]
theorem mn_fl {h:Nat → Nb} (hr:∀ i,rg (h i).1):∀ k,anyB (fun i => (h i).2) (k + 1) = (mnN h k).2
 | 0 => by unfold anyB anyB; rw [Bool.false_or]; rfl
 | k + 1 => by
  rw [mnN_step (mnN_rg hr k) (hr (k + 1)),← mn_fl hr k]
  rfl
theorem vc159d (a b c d x y r:Int) (h1:inR r) (v1:validS a b = true) (v2:validS c d = true) :
  fnVC Tryz.prog [(112,k160),(113,k162),(120,k173),(128,k180)] [(5,⟨[(9,.slot 6)],[]⟩)] Tryz.f121 [.agg [i64 a,i64 b],.agg [i64 c,i64 d],.iface 107 (.agg [i64 x,i64 y,i64 r])] (· = nbA (nSub (hgt a b c d x y) (nRat r 256))):=by
 refine fnVC_go (rs:=[.cell 6 36]) rfl rfl ?_
 simp only [go_sem,k160,k162,k173,k180]
 simp only [false_imp_iff,true_imp_iff,reduceCtorEq,true_and,and_true,Bool.false_eq_true]
 exact ⟨v1,v2,h1,rfl⟩
theorem vc159p (a b c d:Int) (n:Nat) (X Y:Nat → Int) (hX:∀ i,i < n → inR (X i) ∧ inR (Y i)) (hn:n ≤ 1000) (v1:validS a b = true) (v2:validS c d = true) (h0:0 < n) :
  fnVC Tryz.prog [(120,k173),(128,k180),(188,c188)] [(5,⟨[(9,.slot 6)],[]⟩)] Tryz.f121 [.agg [i64 a,i64 b],.agg [i64 c,i64 d],.iface 112 (.agg [.ro n 2 fun i => [i64 (X i),i64 (Y i)]])] (· = nbA (mnN (fun j => hgt a b c d (X j) (Y j)) (n - 1))):=by
 refine fnVC_go (rs:=[.cell 6 36]) rfl rfl ?_
 simp only [go_sem,k160,k162,k173,k180]
 simp only [false_imp_iff,true_imp_iff,reduceCtorEq,true_and,and_true,Bool.false_eq_true]
 have hb:bytesT Tryz.prog 36 = 16:=by kernel_rfl
 rw [hb]
 refine ⟨v1,v2,by omega,by omega,by omega,?_⟩
 refine loopC_go (fun (i:Nat) => i ≤ n) (fun i => n - i) (fun i => [(39,i64 i)]) (fun i => [(20,famN n 2 36 (fun j => [i64 (uptN i (fun l => (hgt a b c d (X l) (Y l)).1) j),bo (decide (j < i) && (hgt a b c d (X j) (Y j)).2)]) none)]) [15,6,2,1,0] [40,41,42,43,12,11,44,45,46,47,48,49,50,51,39] 0 (by kernel_rfl) ?_ (Nat.zero_le _) ?_ ?_
 ·intro x _; simp [goodNames,asg]
 ·simp only [go_sem,uptN_zero,implies_true,true_and]
  intro i hi
  rw [decide_eq_false (by omega),Bool.false_and]
 intro i hi
 simp only [go_sem,k180,c188]
 refine ⟨fun hin => ⟨by omega,hin,by omega,hin,by omega,fun z hz => ⟨i + 1,by omega,by omega,by rw [hz,wrap_in (by unfold inR; omega)]; rfl,fun j hj => ?_⟩⟩,fun hin z hz z1 hz1 => ?_⟩
 ·by_cases e:j = i
  ·subst e
   rw [if_pos rfl]
   simp only [go_sem,uptN_self]
   exact ⟨rfl,by rw [decide_eq_true (by omega),Bool.true_and]; rfl⟩
  ·rw [if_neg e]
   have h1:∀ Z,uptN (i + 1) Z j = uptN i Z j:=fun Z => uptN_ne e
   have h2:decide (j < i + 1) = decide (j < i):=by rw [decide_eq_decide]; omega
   simp only [go_sem,h1,h2]
 ·have e:i = n:=by omega
  subst e
  have hr:∀ j,rg ((fun j => hgt a b c d (X j) (Y j)) j).1:=fun _ => hgt_rg
  have u:∀ j,j < i → uptN i (fun l => (hgt a b c d (X l) (Y l)).1) j = (hgt a b c d (X j) (Y j)).1:=fun j hj => uptN_lt hj
  refine ⟨fun j hj => ⟨rfl,?_⟩,hn,?_⟩
  ·show inR (uptN i (fun l => (hgt a b c d (X l) (Y l)).1) j)
   rw [u j hj]; exact rg_inR hgt_rg
  ·have e1:z = (mnN (fun j => hgt a b c d (X j) (Y j)) (i - 1)).1:=by
    rw [hz,← mn_ex hr (i - 1)]
    unfold moV msS
    rw [if_neg (by omega)]
    have w:∀ j,j < i → wvS (fun l => [AV.v (Value.int IntKind.i64 (uptN i (fun l => (hgt a b c d (X l) (Y l)).1) l)),AV.v (Value.bool (decide (l < i) && (hgt a b c d (X l) (Y l)).2))]) j = (hgt a b c d (X j) (Y j)).1:=fun j hj => by
     show whV (uptN i (fun l => (hgt a b c d (X l) (Y l)).1) j) = _
     rw [u j hj,whV_of hgt_rg]
    rw [w 0 (by omega)]
    exact exS_congr fun j hj => w (j + 1) (by omega)
   have e2:z1 = (mnN (fun j => hgt a b c d (X j) (Y j)) (i - 1)).2:=by
    rw [hz1,← mn_fl hr (i - 1)]
    unfold wfS
    rw [show i - 1 + 1 = i by omega]
    refine anyB_congr fun j hj => ?_
    show whF (uptN i (fun l => (hgt a b c d (X l) (Y l)).1) j) (decide (j < i) && (hgt a b c d (X j) (Y j)).2) = _
    rw [u j hj,whF_of hgt_rg,decide_eq_true hj,Bool.true_and]
   rw [e1,e2]; rfl
def k159d:Con
 | [.agg [.v (.int .i64 a),.v (.int .i64 b)],.agg [.v (.int .i64 c),.v (.int .i64 d)],.iface 107 (.agg [.v (.int .i64 x),.v (.int .i64 y),.v (.int .i64 r)])] => some ([inR r,validS a b = true,validS c d = true],nbA (nSub (hgt a b c d x y) (nRat r 256)))
 | _ => none
theorem kon159d:ConOK Tryz.prog 121 k159d:=ConOK.go (G:=[(112,k160),(113,k162),(120,k173),(128,k180)]) (H:=[(5,⟨[(9,.slot 6)],[]⟩)]) (.cons kon160 (.cons kon162 (.cons kon173 (.cons kon180 .nil)))) Tryz.func121 fun l ob rr hc hob => by
 unfold k159d at hc
 split at hc
 ·rename_i a b c d x y r
  cases hc
  exact ⟨_,fun w I vs h => h,by kernel_rfl,vc159d a b c d x y r (hob _ (by simp)) (hob _ (by simp)) (hob _ (by simp))⟩
 ·cases hc
def k159p:Con
 | [.agg [.v (.int .i64 a),.v (.int .i64 b)],.agg [.v (.int .i64 c),.v (.int .i64 d)],.iface 112 (.agg [.ro n 2 g])] => some ([spots n g,n ≤ 1000,validS a b = true,validS c d = true,0 < n],nbA (mnN (fun j => hgt a b c d (gx g 0 j) (gx g 1 j)) (n - 1)))
 | _ => none
theorem kon159p:ConOK Tryz.prog 121 k159p:=ConOK.go (G:=[(120,k173),(128,k180),(188,c188)]) (H:=[(5,⟨[(9,.slot 6)],[]⟩)]) (.cons kon173 (.cons kon180 (.cons con188 .nil))) Tryz.func121 fun l ob rr hc hob => by
 unfold k159p at hc
 split at hc
 ·rename_i a b c d n g
  cases hc
  have hs:spots n g:=hob _ (by simp)
  refine ⟨[.agg [i64 a,i64 b],.agg [i64 c,i64 d],.iface 112 (.agg [.ro n 2 fun i => [i64 (gx g 0 i),i64 (gx g 1 i)]])],fun w I vs h => ?_,by kernel_rfl,vc159p a b c d n _ _ (fun i hi => (hs i hi).2) (hob _ (by simp)) (hob _ (by simp)) (hob _ (by simp)) (hob _ (by simp))⟩
  obtain ⟨x1,xs,rfl,p1,p2⟩:=h.inv
  obtain ⟨x2,ys,rfl,p3,p4⟩:=p2.inv
  exact .cons p1 (.cons p3 (Rs_one (Rs_if (Rs_poly hs)) p4))
 ·cases hc
def k159 (l:List AV):Option (List Prop × AV):=match l with
 | [_,_,.iface 107 _] => k159d l
 | [_,_,.iface 112 _] => k159p l
 | _ => none
theorem kon159:ConOK Tryz.prog 121 k159:=fun l ob rr hc hob => by
 unfold k159 at hc
 split at hc
 ·exact kon159d _ _ _ hc hob
 ·exact kon159p _ _ _ hc hob
 ·cases hc
end Go.Ax
end
section
/-
  The axis between forms.
-/
set_option maxHeartbeats 4000000
set_option maxRecDepth 100000
namespace Go.Ax
open Go.Proofs
theorem aEq76 {a0 b0:Bool} {a1 b1:Int} {a2 b2:Int} {a3 b3:Int} {a4 b4:Bool}:aEq Tryz.prog 76 (.agg [bo a0,i64 a1,i64 a2,i64 a3,bo a4]) (.agg [bo b0,i64 b1,i64 b2,i64 b3,bo b4]) = some ((a0 == b0) && ((a1 == b1) && ((a2 == b2) && (((a3 == b3) && ((a4 == b4) && true)) && true)))):=by kernel_rfl
theorem eq76 {xo yo:Operand} {neg:Bool} {a0 b0:Bool} {a1 b1:Int} {a2 b2:Int} {a3 b3:Int} {a4 b4:Bool}:eqE Tryz.prog neg 76 xo yo (.agg [bo a0,i64 a1,i64 a2,i64 a3,bo a4]) (.agg [bo b0,i64 b1,i64 b2,i64 b3,bo b4]) = some ⟨[],.v (.bool (negV neg ((a0 == b0) && ((a1 == b1) && ((a2 == b2) && (((a3 == b3) && ((a4 == b4) && true)) && true)))))),.none⟩:=eqE_agg aEq76
attribute [go_sem] eq76
abbrev AxT:=Int × Int × Nb
def axF (o:Int) (G:Nat → Nb) (s:AxT):Nat → AxT
 | 0 => s
 | i + 1 => if (axF o G s i).2.1 < 0 ∨ 0 < cmpS (whV (G i).1) (whV (axF o G s i).2.2.1) then (o,(i:Int),G i) else axF o G s i
def ax0:AxT:=(0,-1,(0,false))
def axOK (s:AxT):Prop:=s = ax0 ∨ 0 ≤ s.2.1
def axC (q:Bool) (s:AxT):List AV:=[bo q,i64 s.1,i64 s.2.1,i64 s.2.2.1,bo s.2.2.2]
theorem axF_ok {o:Int} {G:Nat → Nb} {s:AxT} (h:axOK s):∀ n,axOK (axF o G s n)
 | 0 => h
 | n + 1 => by
  have ih:=axF_ok (o:=o) (G:=G) h n
  unfold axF
  split
  ·exact .inr (Int.natCast_nonneg n)
  ·exact ih
def axSt (n:Nat) (G:Nat → Nb) (m:Nat) (G':Nat → Nb):Nat → AxT
 | 0 => ax0
 | 1 => axF 0 G ax0 n
 | _ => axF 1 G' (axF 0 G ax0 n) m
def gP (n:Nat) (X Y:Nat → Int) (m:Nat) (Z T:Nat → Int) (j:Nat):Nb:=mnN (fun l => hgt (X j) (Y j) (X (nxt n j)) (Y (nxt n j)) (Z l) (T l)) (m - 1)
def gD (n:Nat) (X Y:Nat → Int) (x y r:Int) (j:Nat):Nb:=nSub (hgt (X j) (Y j) (X (nxt n j)) (Y (nxt n j)) x y) (nRat r 256)
theorem gD_rg {n:Nat} {X Y:Nat → Int} {x y r:Int} {j:Nat}:rg (gD n X Y x y r j).1:=nSub_rg
theorem axOK_not {s:AxT} (h:axOK s) (k:(false == false && (s.1 == 0 && (s.2.1 == -1 && (s.2.2.1 == 0 && s.2.2.2 == false)))) = false):¬ s.2.1 < 0:=by
 rcases h with h | h
 ·rw [h] at k; exact absurd k (by decide)
 ·omega
theorem axF_hit {o:Int} {G:Nat → Nb} {s:AxT} {j:Nat} (h:(axF o G s j).2.1 < 0 ∨ 0 < cmpS (whV (G j).1) (whV (axF o G s j).2.2.1)):axF o G s (j + 1) = (o,(j:Int),G j):=by
 conv => lhs; unfold axF
 rw [if_pos h]
theorem axF_not {o:Int} {G:Nat → Nb} {s:AxT} {j:Nat} (h:¬ ((axF o G s j).2.1 < 0 ∨ 0 < cmpS (whV (G j).1) (whV (axF o G s j).2.2.1))):axF o G s (j + 1) = axF o G s j:=by
 conv => lhs; unfold axF
 rw [if_neg h]
theorem vc94pp (n:Nat) (X Y:Nat → Int) (hX:∀ i,i < n → inR (X i) ∧ inR (Y i)) (hn:n ≤ 1000) (n0:0 < n) (vX:∀ i,i < n → validS (X i) (Y i) = true) (m:Nat) (Z T:Nat → Int) (hZ:∀ i,i < m → inR (Z i) ∧ inR (T i)) (hm:m ≤ 1000) (m0:0 < m) (vZ:∀ i,i < m → validS (Z i) (T i) = true) :
  fnVC Tryz.prog [(47,k63),(87,c87),(58,c58),(85,c85),(1000000 + 161,c161),(104,c104),(121,k159),(112,k160),(114,k161),(113,k162)] [(22,⟨[(15,.slot 6)],[]⟩)] Tryz.f62 [.iface 112 (.agg [.ro n 2 fun i => [i64 (X i),i64 (Y i)]]),.iface 112 (.agg [.ro m 2 fun i => [i64 (Z i),i64 (T i)]])] (· = .agg (axC (clrS n X Y m Z T || clrS m Z T n X Y) (axSt n (gP n X Y m Z T) m (gP m Z T n X Y) 2))):=by
 refine fnVC_go (rs:=[.cell 4 76]) rfl rfl ?_
 simp only [go_sem,c85]
 have hg:spots n fun i => [i64 (X i),i64 (Y i)]:=fun i hi => ⟨rfl,hX i hi⟩
 have hg':spots m fun i => [i64 (Z i),i64 (T i)]:=fun i hi => ⟨rfl,hZ i hi⟩
 generalize hS:axSt n (gP n X Y m Z T) m (gP m Z T n X Y) = S
 have s0:S 0 = (0,-1,(0,false)):=by rw [← hS]; rfl
 have s1:S 1 = axF 0 (gP n X Y m Z T) (S 0) n:=by rw [← hS]; rfl
 have s2:S 2 = axF 1 (gP m Z T n X Y) (S 1) m:=by rw [← hS]; rfl
 have k0:axOK (S 0):=.inl s0
 have k1:axOK (S 1):=by rw [s1]; exact axF_ok k0 _
 refine loopC_go (fun (i:Nat) => i ≤ 2) (fun i => 2 - i) (fun i => [(26,i64 i)]) (fun i => [(5,fam1 76 5 (axC false (S i)) none)]) [9,2,0] [27,28,29,30,7,8,32,33,31,34,35,9,10,36,37,38,39,40,41,42,43,11,12,44,45,46,47,13,14,48,49,50,51,15,52,53,54,55,56,57,58,59,60,61,62,63,64,65,66,67,68,26] 0 (by kernel_rfl) ?_ (Nat.zero_le _) ?_ ?_
 ·intro x _; simp [goodNames,asg]
 ·simp only [go_sem,s0,axC]
 intro i hi
 match i with
 | 0 =>
  simp only [go_sem,axC,c85]
  simp only [false_imp_iff,true_imp_iff,reduceCtorEq,true_and,and_true,Bool.false_eq_true]
  refine rangeC_go (fun (j:Nat) => j ≤ n) (fun j => j) (fun j => [(5,fam1 76 5 (axC false (axF 0 (gP n X Y m Z T) (S 0) j)) none),(37,fam1 3 1 [i64 j] none)]) [35,24,16,9,2,0] [46,47,13,14,48,49,50,51,15,52,53,54,55,56,57,58,59,60,61,62,63,64,65,66,67] 0 0 (N:=n) (sq:=edgeE n fun i => [i64 (X i),i64 (Y i)]) (ob:=[spots n fun i => [i64 (X i),i64 (Y i)],n ≤ 9223372036854775806]) rfl (owe2 hg (by omega)) (by kernel_rfl) rfl (fun i _ => ⟨rfl,rfl⟩) (Nat.zero_le _) rfl ⟨[],?_,?_,?_⟩ ?_ ?_
  ·simp only [go_sem,axF,axC]
  ·simp only [go_sem]
  ·simp [goodNames,asg]
  ·intro j hj hlt
   simp only [go_sem,edgeE,k159,k159d,k159p,c87,axC]
   refine ⟨hg',hm,vX j hlt,vX _ (nxt_lt hlt),m0,fun z hz => ⟨fun h z1 hz1 => ⟨j + 1,by have:j < n:=hlt; omega,rfl,[],?_⟩,fun h z1 hz1 => ⟨j + 1,by have:j < n:=hlt; omega,rfl,[],?_⟩⟩⟩
   ·have es:axF 0 (gP n X Y m Z T) (S 0) (j + 1) = (0,(j:Int),mnN (fun l => hgt (X j) (Y j) (X (nxt n j)) (Y (nxt n j)) (Z l) (T l)) (m - 1)):=axF_hit (h.imp (fun q => by have:=q.2.2.1; simp at this; omega) (fun q => by rw [hz] at q; exact q))
    rw [wrap_in (by have:j < n:=hlt; unfold inR; omega)] at hz1
    simp only [go_sem,es,hz1]
    simp [goodNames,asg]
   ·have es:axF 0 (gP n X Y m Z T) (S 0) (j + 1) = axF 0 (gP n X Y m Z T) (S 0) j:=axF_not (by
     rintro (q | q)
     ·exact axOK_not (axF_ok k0 _) h.1 q
     ·exact h.2 (by rw [hz]; exact q))
    rw [wrap_in (by have:j < n:=hlt; unfold inR; omega)] at hz1
    simp only [go_sem,es,hz1]
    simp [goodNames,asg]
  ·intro j hj he
   simp only [go_sem,axC]
   refine fun z hz => ⟨1,by omega,by omega,by rw [hz]; decide,?_⟩
   rw [s1,he]
   exact ⟨rfl,rfl,rfl,rfl⟩
 | 1 =>
  simp only [go_sem,axC,c85]
  simp only [false_imp_iff,true_imp_iff,reduceCtorEq,true_and,and_true,Bool.false_eq_true]
  refine rangeC_go (fun (j:Nat) => j ≤ m) (fun j => j) (fun j => [(5,fam1 76 5 (axC false (axF 1 (gP m Z T n X Y) (S 1) j)) none),(37,fam1 3 1 [i64 j] none)]) [35,24,16,9,2,0] [46,47,13,14,48,49,50,51,15,52,53,54,55,56,57,58,59,60,61,62,63,64,65,66,67] 0 0 (N:=m) (sq:=edgeE m fun i => [i64 (Z i),i64 (T i)]) (ob:=[spots m fun i => [i64 (Z i),i64 (T i)],m ≤ 9223372036854775806]) rfl (owe2 hg' (by omega)) (by kernel_rfl) rfl (fun i _ => ⟨rfl,rfl⟩) (Nat.zero_le _) rfl ⟨[],?_,?_,?_⟩ ?_ ?_
  ·simp only [go_sem,axF,axC]
  ·simp only [go_sem]
  ·simp [goodNames,asg]
  ·intro j hj hlt
   simp only [go_sem,edgeE,k159,k159d,k159p,c87,axC]
   refine ⟨hg,hn,vZ j hlt,vZ _ (nxt_lt hlt),n0,fun z hz => ⟨fun h z1 hz1 => ⟨j + 1,by have:j < m:=hlt; omega,rfl,[],?_⟩,fun h z1 hz1 => ⟨j + 1,by have:j < m:=hlt; omega,rfl,[],?_⟩⟩⟩
   ·have es:axF 1 (gP m Z T n X Y) (S 1) (j + 1) = (1,(j:Int),mnN (fun l => hgt (Z j) (T j) (Z (nxt m j)) (T (nxt m j)) (X l) (Y l)) (n - 1)):=axF_hit (h.imp (fun q => by have:=q.2.2.1; simp at this; omega) (fun q => by rw [hz] at q; exact q))
    rw [wrap_in (by have:j < m:=hlt; unfold inR; omega)] at hz1
    simp only [go_sem,es,hz1]
    simp [goodNames,asg]
   ·have es:axF 1 (gP m Z T n X Y) (S 1) (j + 1) = axF 1 (gP m Z T n X Y) (S 1) j:=axF_not (by
     rintro (q | q)
     ·exact axOK_not (axF_ok k1 _) h.1 q
     ·exact h.2 (by rw [hz]; exact q))
    rw [wrap_in (by have:j < m:=hlt; unfold inR; omega)] at hz1
    simp only [go_sem,es,hz1]
    simp [goodNames,asg]
  ·intro j hj he
   simp only [go_sem,axC]
   refine fun z hz => ⟨2,by omega,by omega,by rw [hz]; decide,?_⟩
   rw [s2,he]
   exact ⟨rfl,rfl,rfl,rfl⟩
 | 2 =>
  simp only [go_sem,axC,c58,c90f]
  simp only [false_imp_iff,true_imp_iff,reduceCtorEq,true_and,and_true,Bool.false_eq_true]
  exact fun z hz => ⟨hg,by omega,vX,hg',by omega,vZ,by rw [hz]; rfl⟩
 | q + 3 => omega
theorem vc94pd (n:Nat) (X Y:Nat → Int) (hX:∀ i,i < n → inR (X i) ∧ inR (Y i)) (hn:n ≤ 1000) (n0:0 < n) (vX:∀ i,i < n → validS (X i) (Y i) = true) (x' y' r':Int) (v2:validS x' y' = true) (h6:inR r') :
  fnVC Tryz.prog [(47,k63),(87,c87),(58,c58),(85,c85),(1000000 + 161,c161),(104,c104),(121,k159),(112,k160),(114,k161),(113,k162)] [(22,⟨[(15,.slot 6)],[]⟩)] Tryz.f62 [.iface 112 (.agg [.ro n 2 fun i => [i64 (X i),i64 (Y i)]]),.iface 107 (.agg [i64 x',i64 y',i64 r'])] (· = .agg (axC (outS n X Y x' y' r') (axSt n (gD n X Y x' y' r') 0 (gD n X Y x' y' r') 2))):=by
 refine fnVC_go (rs:=[.cell 4 76]) rfl rfl ?_
 simp only [go_sem,c85]
 have hg:spots n fun i => [i64 (X i),i64 (Y i)]:=fun i hi => ⟨rfl,hX i hi⟩
 generalize hS:axSt n (gD n X Y x' y' r') 0 (gD n X Y x' y' r') = S
 have s0:S 0 = (0,-1,(0,false)):=by rw [← hS]; rfl
 have s1:S 1 = axF 0 (gD n X Y x' y' r') (S 0) n:=by rw [← hS]; rfl
 have s2:S 2 = S 1:=by rw [← hS]; rfl
 have k0:axOK (S 0):=.inl s0
 have k1:axOK (S 1):=by rw [s1]; exact axF_ok k0 _
 refine loopC_go (fun (i:Nat) => i ≤ 2) (fun i => 2 - i) (fun i => [(26,i64 i)]) (fun i => [(5,fam1 76 5 (axC false (S i)) none)]) [9,2,0] [27,28,29,30,7,8,32,33,31,34,35,9,10,36,37,38,39,40,41,42,43,11,12,44,45,46,47,13,14,48,49,50,51,15,52,53,54,55,56,57,58,59,60,61,62,63,64,65,66,67,68,26] 0 (by kernel_rfl) ?_ (Nat.zero_le _) ?_ ?_
 ·intro x _; simp [goodNames,asg]
 ·simp only [go_sem,s0,axC]
 intro i hi
 match i with
 | 0 =>
  simp only [go_sem,axC,c85]
  simp only [false_imp_iff,true_imp_iff,reduceCtorEq,true_and,and_true,Bool.false_eq_true]
  refine rangeC_go (fun (j:Nat) => j ≤ n) (fun j => j) (fun j => [(5,fam1 76 5 (axC false (axF 0 (gD n X Y x' y' r') (S 0) j)) none),(37,fam1 3 1 [i64 j] none)]) [35,24,16,9,2,0] [46,47,13,14,48,49,50,51,15,52,53,54,55,56,57,58,59,60,61,62,63,64,65,66,67] 0 0 (N:=n) (sq:=edgeE n fun i => [i64 (X i),i64 (Y i)]) (ob:=[spots n fun i => [i64 (X i),i64 (Y i)],n ≤ 9223372036854775806]) rfl (owe2 hg (by omega)) (by kernel_rfl) rfl (fun i _ => ⟨rfl,rfl⟩) (Nat.zero_le _) rfl ⟨[],?_,?_,?_⟩ ?_ ?_
  ·simp only [go_sem,axF,axC]
  ·simp only [go_sem]
  ·simp [goodNames,asg]
  ·intro j hj hlt
   simp only [go_sem,edgeE,k159,k159d,k159p,c87,axC]
   refine ⟨h6,vX j hlt,vX _ (nxt_lt hlt),fun z hz => ⟨fun h z1 hz1 => ⟨j + 1,by have:j < n:=hlt; omega,rfl,[],?_⟩,fun h z1 hz1 => ⟨j + 1,by have:j < n:=hlt; omega,rfl,[],?_⟩⟩⟩
   ·have es:axF 0 (gD n X Y x' y' r') (S 0) (j + 1) = (0,(j:Int),nSub (hgt (X j) (Y j) (X (nxt n j)) (Y (nxt n j)) x' y') (nRat r' 256)):=axF_hit (h.imp (fun q => by have:=q.2.2.1; simp at this; omega) (fun q => by rw [hz] at q; exact q))
    rw [wrap_in (by have:j < n:=hlt; unfold inR; omega)] at hz1
    simp only [go_sem,es,hz1]
    simp [goodNames,asg]
   ·have es:axF 0 (gD n X Y x' y' r') (S 0) (j + 1) = axF 0 (gD n X Y x' y' r') (S 0) j:=axF_not (by
     rintro (q | q)
     ·exact axOK_not (axF_ok k0 _) h.1 q
     ·exact h.2 (by rw [hz]; exact q))
    rw [wrap_in (by have:j < n:=hlt; unfold inR; omega)] at hz1
    simp only [go_sem,es,hz1]
    simp [goodNames,asg]
  ·intro j hj he
   simp only [go_sem,axC]
   refine fun z hz => ⟨1,by omega,by omega,by rw [hz]; decide,?_⟩
   rw [s1,he]
   exact ⟨rfl,rfl,rfl,rfl⟩
 | 1 =>
  simp only [go_sem,axC,c85]
  simp only [false_imp_iff,true_imp_iff,reduceCtorEq,true_and,and_true,Bool.false_eq_true]
  refine fun z hz => ⟨2,by omega,by omega,by rw [hz]; decide,?_⟩
  rw [s2]
  exact ⟨rfl,rfl,rfl,rfl⟩
 | 2 =>
  simp only [go_sem,axC,c58,c90a]
  simp only [false_imp_iff,true_imp_iff,reduceCtorEq,true_and,and_true,Bool.false_eq_true]
  exact fun z hz => ⟨hg,by omega,vX,v2,by rw [hz]; rfl⟩
 | q + 3 => omega
theorem vc94dp (x y r:Int) (v1:validS x y = true) (h3:inR r) (m:Nat) (Z T:Nat → Int) (hZ:∀ i,i < m → inR (Z i) ∧ inR (T i)) (hm:m ≤ 1000) (m0:0 < m) (vZ:∀ i,i < m → validS (Z i) (T i) = true) :
  fnVC Tryz.prog [(47,k63),(87,c87),(58,c58),(85,c85),(1000000 + 161,c161),(104,c104),(121,k159),(112,k160),(114,k161),(113,k162)] [(22,⟨[(15,.slot 6)],[]⟩)] Tryz.f62 [.iface 107 (.agg [i64 x,i64 y,i64 r]),.iface 112 (.agg [.ro m 2 fun i => [i64 (Z i),i64 (T i)]])] (· = .agg (axC (outS m Z T x y r) (axSt 0 (gD m Z T x y r) m (gD m Z T x y r) 2))):=by
 refine fnVC_go (rs:=[.cell 4 76]) rfl rfl ?_
 simp only [go_sem,c85]
 have hg':spots m fun i => [i64 (Z i),i64 (T i)]:=fun i hi => ⟨rfl,hZ i hi⟩
 generalize hS:axSt 0 (gD m Z T x y r) m (gD m Z T x y r) = S
 have s0:S 0 = (0,-1,(0,false)):=by rw [← hS]; rfl
 have s1:S 1 = S 0:=by rw [← hS]; rfl
 have s2:S 2 = axF 1 (gD m Z T x y r) (S 1) m:=by rw [← hS]; rfl
 have k0:axOK (S 0):=.inl s0
 have k1:axOK (S 1):=by rw [s1]; exact k0
 refine loopC_go (fun (i:Nat) => i ≤ 2) (fun i => 2 - i) (fun i => [(26,i64 i)]) (fun i => [(5,fam1 76 5 (axC false (S i)) none)]) [9,2,0] [27,28,29,30,7,8,32,33,31,34,35,9,10,36,37,38,39,40,41,42,43,11,12,44,45,46,47,13,14,48,49,50,51,15,52,53,54,55,56,57,58,59,60,61,62,63,64,65,66,67,68,26] 0 (by kernel_rfl) ?_ (Nat.zero_le _) ?_ ?_
 ·intro x _; simp [goodNames,asg]
 ·simp only [go_sem,s0,axC]
 intro i hi
 match i with
 | 0 =>
  simp only [go_sem,axC,c85]
  simp only [false_imp_iff,true_imp_iff,reduceCtorEq,true_and,and_true,Bool.false_eq_true]
  refine fun z hz => ⟨1,by omega,by omega,by rw [hz]; decide,?_⟩
  rw [s1]
  exact ⟨rfl,rfl,rfl,rfl⟩
 | 1 =>
  simp only [go_sem,axC,c85]
  simp only [false_imp_iff,true_imp_iff,reduceCtorEq,true_and,and_true,Bool.false_eq_true]
  refine rangeC_go (fun (j:Nat) => j ≤ m) (fun j => j) (fun j => [(5,fam1 76 5 (axC false (axF 1 (gD m Z T x y r) (S 1) j)) none),(37,fam1 3 1 [i64 j] none)]) [35,24,16,9,2,0] [46,47,13,14,48,49,50,51,15,52,53,54,55,56,57,58,59,60,61,62,63,64,65,66,67] 0 0 (N:=m) (sq:=edgeE m fun i => [i64 (Z i),i64 (T i)]) (ob:=[spots m fun i => [i64 (Z i),i64 (T i)],m ≤ 9223372036854775806]) rfl (owe2 hg' (by omega)) (by kernel_rfl) rfl (fun i _ => ⟨rfl,rfl⟩) (Nat.zero_le _) rfl ⟨[],?_,?_,?_⟩ ?_ ?_
  ·simp only [go_sem,axF,axC]
  ·simp only [go_sem]
  ·simp [goodNames,asg]
  ·intro j hj hlt
   simp only [go_sem,edgeE,k159,k159d,k159p,c87,axC]
   refine ⟨h3,vZ j hlt,vZ _ (nxt_lt hlt),fun z hz => ⟨fun h z1 hz1 => ⟨j + 1,by have:j < m:=hlt; omega,rfl,[],?_⟩,fun h z1 hz1 => ⟨j + 1,by have:j < m:=hlt; omega,rfl,[],?_⟩⟩⟩
   ·have es:axF 1 (gD m Z T x y r) (S 1) (j + 1) = (1,(j:Int),nSub (hgt (Z j) (T j) (Z (nxt m j)) (T (nxt m j)) x y) (nRat r 256)):=axF_hit (h.imp (fun q => by have:=q.2.2.1; simp at this; omega) (fun q => by rw [hz] at q; exact q))
    rw [wrap_in (by have:j < m:=hlt; unfold inR; omega)] at hz1
    simp only [go_sem,es,hz1]
    simp [goodNames,asg]
   ·have es:axF 1 (gD m Z T x y r) (S 1) (j + 1) = axF 1 (gD m Z T x y r) (S 1) j:=axF_not (by
     rintro (q | q)
     ·exact axOK_not (axF_ok k1 _) h.1 q
     ·exact h.2 (by rw [hz]; exact q))
    rw [wrap_in (by have:j < m:=hlt; unfold inR; omega)] at hz1
    simp only [go_sem,es,hz1]
    simp [goodNames,asg]
  ·intro j hj he
   simp only [go_sem,axC]
   refine fun z hz => ⟨2,by omega,by omega,by rw [hz]; decide,?_⟩
   rw [s2,he]
   exact ⟨rfl,rfl,rfl,rfl⟩
 | 2 =>
  simp only [go_sem,axC,c58,c90e]
  simp only [false_imp_iff,true_imp_iff,reduceCtorEq,true_and,and_true,Bool.false_eq_true]
  exact fun z hz => ⟨hg',by omega,vZ,v1,by rw [hz]; rfl⟩
 | q + 3 => omega
theorem vc94dd (x y r x' y' r':Int) :
  fnVC Tryz.prog [(47,k63),(87,c87),(58,c58),(85,c85),(1000000 + 161,c161),(104,c104),(121,k159),(112,k160),(114,k161),(113,k162)] [(22,⟨[(15,.slot 6)],[]⟩)] Tryz.f62 [.iface 107 (.agg [i64 x,i64 y,i64 r]),.iface 107 (.agg [i64 x',i64 y',i64 r'])] (· = .agg (axC (ddS x y r x' y' r') (0,-1,nSub (vLen (vLoc (mnW x x') (mnW y y'))) (nRat (IntKind.i64.wrap (r + r')) 256)))):=by
 refine fnVC_go (rs:=[.cell 4 76]) rfl rfl ?_
 simp only [go_sem,c85]
 refine loopC_go (fun (i:Nat) => i ≤ 2) (fun i => 2 - i) (fun i => [(26,i64 i)]) (fun i => [(5,fam1 76 5 (axC false ax0) none)]) [9,2,0] [27,28,29,30,7,8,32,33,31,34,35,9,10,36,37,38,39,40,41,42,43,11,12,44,45,46,47,13,14,48,49,50,51,15,52,53,54,55,56,57,58,59,60,61,62,63,64,65,66,67,68,26] 0 (by kernel_rfl) ?_ (Nat.zero_le _) ?_ ?_
 ·intro x _; simp [goodNames,asg]
 ·simp only [go_sem,ax0,axC]
 intro i hi
 match i with
 | 0 =>
  simp only [go_sem,axC,c85]
  simp only [false_imp_iff,true_imp_iff,reduceCtorEq,true_and,and_true,Bool.false_eq_true]
  exact fun z hz => ⟨1,by omega,by omega,by rw [hz]; decide⟩
 | 1 =>
  simp only [go_sem,axC,c85]
  simp only [false_imp_iff,true_imp_iff,reduceCtorEq,true_and,and_true,Bool.false_eq_true]
  exact fun z hz => ⟨2,by omega,by omega,by rw [hz]; decide⟩
 | 2 =>
  simp only [go_sem,axC,c58,c90d,c104,k63,k161,k162,k160,ax0]
  simp only [false_imp_iff,true_imp_iff,reduceCtorEq,true_and,and_true,Bool.false_eq_true]
  exact fun z hz z1 hz1 => ⟨by rw [hz]; exact wrap_inR _,by rw [hz1]; exact wrap_inR _,fun z2 hz2 => ⟨by rw [hz2]; exact wrap_inR _,fun z3 hz3 => by rw [hz,hz1,hz2,hz3]; rfl⟩⟩
 | q + 3 => omega
end Go.Ax
end
section
/-
  The axis between forms: the contracts.
-/
set_option maxHeartbeats 4000000
set_option maxRecDepth 100000
namespace Go.Ax
open Go.Proofs
def axA (q:Bool) (s:AxT):AV:=.agg (axC q s)
theorem bnd_ax {q:Bool} {s:AxT}:bnd (axA q s) = .agg [bo q,i64 s.1,i64 s.2.1,i64 s.2.2.1,bo s.2.2.2]:=(rfl)
theorem plain_ax {q:Bool} {s:AxT}:plain 3 (axA q s) = true:=(rfl)
attribute [go_sem] bnd_ax plain_ax
def k94p:Con
 | [.iface 112 (.agg [.ro n 2 g]),.iface 112 (.agg [.ro m 2 g'])] => some ([spots n g,n ≤ 1000,0 < n,∀ i,i < n → validS (gx g 0 i) (gx g 1 i) = true,spots m g',m ≤ 1000,0 < m,∀ i,i < m → validS (gx g' 0 i) (gx g' 1 i) = true],axA (clrS n (gx g 0) (gx g 1) m (gx g' 0) (gx g' 1) || clrS m (gx g' 0) (gx g' 1) n (gx g 0) (gx g 1)) (axSt n (gP n (gx g 0) (gx g 1) m (gx g' 0) (gx g' 1)) m (gP m (gx g' 0) (gx g' 1) n (gx g 0) (gx g 1)) 2))
 | _ => none
theorem ctx94:CtxOK Tryz.prog [(47,k63),(87,c87),(58,c58),(85,c85),(1000000 + 161,c161),(104,c104),(121,k159),(112,k160),(114,k161),(113,k162)]:=.cons kon63 (.cons con87 (.cons con58 (.cons con85 (.seq seq161 (.cons con104 (.cons kon159 (.cons kon160 (.cons kon161 (.cons kon162 .nil)))))))))
theorem kon94p:ConOK Tryz.prog 62 k94p:=ConOK.go (H:=[(22,⟨[(15,.slot 6)],[]⟩)]) ctx94 Tryz.func62 fun l ob rr hc hob => by
 unfold k94p at hc
 split at hc
 ·rename_i n g m g'
  cases hc
  have hs:spots n g:=hob _ (by simp)
  have hs':spots m g':=hob _ (by simp)
  exact ⟨[.iface 112 (.agg [.ro n 2 fun i => [i64 (gx g 0 i),i64 (gx g 1 i)]]),.iface 112 (.agg [.ro m 2 fun i => [i64 (gx g' 0 i),i64 (gx g' 1 i)]])],fun w I vs h => Rs_two (Rs_if (Rs_poly hs)) (Rs_if (Rs_poly hs')) h,by kernel_rfl,vc94pp n _ _ (fun i hi => (hs i hi).2) (hob _ (by simp)) (hob _ (by simp)) (hob _ (by simp)) m _ _ (fun i hi => (hs' i hi).2) (hob _ (by simp)) (hob _ (by simp)) (hob _ (by simp))⟩
 ·cases hc
def k94q:Con
 | [.iface 112 (.agg [.ro n 2 g]),.iface 107 (.agg [.v (.int .i64 x),.v (.int .i64 y),.v (.int .i64 r)])] => some ([spots n g,n ≤ 1000,0 < n,∀ i,i < n → validS (gx g 0 i) (gx g 1 i) = true,validS x y = true,inR r],axA (outS n (gx g 0) (gx g 1) x y r) (axSt n (gD n (gx g 0) (gx g 1) x y r) 0 (gD n (gx g 0) (gx g 1) x y r) 2))
 | _ => none
theorem kon94q:ConOK Tryz.prog 62 k94q:=ConOK.go (H:=[(22,⟨[(15,.slot 6)],[]⟩)]) ctx94 Tryz.func62 fun l ob rr hc hob => by
 unfold k94q at hc
 split at hc
 ·rename_i n g x y r
  cases hc
  have hs:spots n g:=hob _ (by simp)
  exact ⟨[.iface 112 (.agg [.ro n 2 fun i => [i64 (gx g 0 i),i64 (gx g 1 i)]]),.iface 107 (.agg [i64 x,i64 y,i64 r])],fun w I vs h => Rs_two (Rs_if (Rs_poly hs)) (fun v h => h) h,by kernel_rfl,vc94pd n _ _ (fun i hi => (hs i hi).2) (hob _ (by simp)) (hob _ (by simp)) (hob _ (by simp)) x y r (hob _ (by simp)) (hob _ (by simp))⟩
 ·cases hc
def k94r:Con
 | [.iface 107 (.agg [.v (.int .i64 x),.v (.int .i64 y),.v (.int .i64 r)]),.iface 112 (.agg [.ro n 2 g])] => some ([spots n g,n ≤ 1000,0 < n,∀ i,i < n → validS (gx g 0 i) (gx g 1 i) = true,validS x y = true,inR r],axA (outS n (gx g 0) (gx g 1) x y r) (axSt 0 (gD n (gx g 0) (gx g 1) x y r) n (gD n (gx g 0) (gx g 1) x y r) 2))
 | _ => none
theorem kon94r:ConOK Tryz.prog 62 k94r:=ConOK.go (H:=[(22,⟨[(15,.slot 6)],[]⟩)]) ctx94 Tryz.func62 fun l ob rr hc hob => by
 unfold k94r at hc
 split at hc
 ·rename_i x y r n g
  cases hc
  have hs:spots n g:=hob _ (by simp)
  exact ⟨[.iface 107 (.agg [i64 x,i64 y,i64 r]),.iface 112 (.agg [.ro n 2 fun i => [i64 (gx g 0 i),i64 (gx g 1 i)]])],fun w I vs h => Rs_two (fun v h => h) (Rs_if (Rs_poly hs)) h,by kernel_rfl,vc94dp x y r (hob _ (by simp)) (hob _ (by simp)) n _ _ (fun i hi => (hs i hi).2) (hob _ (by simp)) (hob _ (by simp)) (hob _ (by simp))⟩
 ·cases hc
def k94d:Con
 | [.iface 107 (.agg [.v (.int .i64 x),.v (.int .i64 y),.v (.int .i64 r)]),.iface 107 (.agg [.v (.int .i64 a),.v (.int .i64 b),.v (.int .i64 s)])] => some ([],axA (ddS x y r a b s) (0,-1,nSub (vLen (vLoc (mnW x a) (mnW y b))) (nRat (IntKind.i64.wrap (r + s)) 256)))
 | _ => none
theorem kon94d:ConOK Tryz.prog 62 k94d:=ConOK.go (H:=[(22,⟨[(15,.slot 6)],[]⟩)]) ctx94 Tryz.func62 fun l ob rr hc hob => by
 unfold k94d at hc
 split at hc
 ·rename_i x y r a b s
  cases hc
  exact ⟨_,fun w I vs h => h,by kernel_rfl,vc94dd x y r a b s⟩
 ·cases hc
def k94 (l:List AV):Option (List Prop × AV):=match l with
 | [.iface 112 _,.iface 107 _] => k94q l
 | [.iface 107 _,.iface 112 _] => k94r l
 | [.iface 107 _,.iface 107 _] => k94d l
 | [.iface 112 _,.iface 112 _] => k94p l
 | [.iface 107 _,.v .nilIface] => some ([False],axA false ax0)
 | [.iface 112 _,.v .nilIface] => some ([False],axA false ax0)
 | [.v .nilIface,.iface 107 _] => some ([False],axA false ax0)
 | [.v .nilIface,.iface 112 _] => some ([False],axA false ax0)
 | [.v .nilIface,.v .nilIface] => some ([False],axA false ax0)
 | _ => none
theorem kon94:ConOK Tryz.prog 62 k94:=fun l ob rr hc hob => by
 unfold k94 at hc
 split at hc
 ·exact kon94q _ _ _ hc hob
 ·exact kon94r _ _ _ hc hob
 ·exact kon94d _ _ _ hc hob
 ·exact kon94p _ _ _ hc hob
 ·cases hc; exact (hob False (by simp)).elim
 ·cases hc; exact (hob False (by simp)).elim
 ·cases hc; exact (hob False (by simp)).elim
 ·cases hc; exact (hob False (by simp)).elim
 ·cases hc; exact (hob False (by simp)).elim
 ·cases hc
def axS (k x y r:Int) (n:Nat) (X Y:Nat → Int) (k' x' y' r':Int) (m:Nat) (Z T:Nat → Int):AxT:=
 if checkS k x y r n X Y = 0 ∧ checkS k' x' y' r' m Z T = 0 then
  (if k = 1 then (if k' = 1 then (0,-1,nSub (vLen (vLoc (mnW x x') (mnW y y'))) (nRat (IntKind.i64.wrap (r + r')) 256)) else axSt 0 (gD m Z T x y r) m (gD m Z T x y r) 2)
   else if k' = 1 then axSt n (gD n X Y x' y' r') 0 (gD n X Y x' y' r') 2 else axSt n (gP n X Y m Z T) m (gP m Z T n X Y) 2)
 else (0,0,(0,false))
theorem fig_n {k x y r:Int} {n:Nat} {X Y:Nat → Int} (h:checkS k x y r n X Y = 0) (hk:¬ k = 1):3 ≤ n ∧ n ≤ 8:=by
 have:=(check_1 h).2.2.2.2 hk
 exact ⟨(convexS_iff.1 this.2.2).1,this.2.1⟩
end Go.Ax
end
section
/-
  The axis between forms: the reference's.
-/
set_option maxHeartbeats 4000000
set_option maxRecDepth 100000
namespace Go.Ax
open Go.Proofs
end Go.Ax
end