/-
  Shapes: which are sound.
-/
import Derived.Test.YtempjfjppjfciaaGreatCM5
set_option linter.unusedVariables false
set_option linter.unusedSimpArgs false
section
set_option maxHeartbeats 4000000
set_option maxRecDepth 100000
namespace Go.Ax
open Go.Proofs Go.Proofs.Tryz
def c177:Con
 | [.agg [.v (.int .i64 a),.v (.int .i64 b)],.agg [.v (.int .i64 c),.v (.int .i64 d)]] => some ([],.agg [i64 (IntKind.i64.wrap (a - c)),i64 (IntKind.i64.wrap (b - d))])
 | _ => none
theorem con177:ConOK prog 177 c177:=ConOK.of (G:=[]) (H:=[]) .nil func177 fun l ob r hc hob => by
 unfold c177 at hc
 split at hc
 ·rename_i a b c d
  cases hc
  refine ⟨by kernel_rfl,fnVC_go (rs:=[.cell 4 177]) rfl rfl ?_⟩
  simp only [go_sem]
  simp only [forall_eq]
 ·cases hc
def c120:Con
 | [.agg [.v (.int .i64 a),.v (.int .i64 b)],.agg [.v (.int .i64 c),.v (.int .i64 d)]] => some ([],i64 (IntKind.i64.wrap (IntKind.i64.wrap (a * d) - IntKind.i64.wrap (b * c))))
 | _ => none
theorem con120:ConOK prog 120 c120:=ConOK.of (G:=[]) (H:=[]) .nil func120 fun l ob r hc hob => by
 unfold c120 at hc
 split at hc
 ·rename_i a b c d
  cases hc
  refine ⟨by kernel_rfl,fnVC_go (rs:=[.tmp 4]) rfl rfl ?_⟩
  simp only [go_sem]
  simp only [forall_eq]
 ·cases hc
def c178:Con
 | [.agg [.v (.int .i64 a),.v (.int .i64 b)]] => some ([-1000000 ≤ a ∧ a ≤ 1000000,-1000000 ≤ b ∧ b ≤ 1000000],i64 (ab a + ab b))
 | _ => none
theorem con178:ConOK prog 178 c178:=ConOK.of (G:=[]) (H:=[]) .nil func178 fun l ob r hc hob => by
 unfold c178 at hc
 split at hc
 ·rename_i a b
  cases hc
  have h_0:=ob0 hob
  have h_1:=ob1 hob
  refine ⟨by kernel_rfl,fnVC_go (rs:=[.tmp 2]) rfl rfl ?_⟩
  simp only [go_sem]
  simp only [forall_eq]
  rw [wrap_in (x:=0 - a) (inRo (by omega)),wrap_in (x:=0 - b) (inRo (by omega)),wrap_in (inRo (by omega))]
  unfold ab
  split <;> split <;> omega
 ·cases hc
def c118:Con
 | [.ro n 2 g] => some ([],.fn 179 [.rop [.ro n 2 g]])
 | _ => none
theorem con118:ConOK prog 118 c118:=ConOK.of (G:=[]) (H:=[]) .nil func118 fun l ob r hc hob => by
 unfold c118 at hc
 split at hc
 ·rename_i n g
  cases hc
  refine ⟨by kernel_rfl,fnVC_go (rs:=[.tmp 2]) rfl rfl ?_⟩
  simp only [go_sem]
  trace_state
 ·cases hc
def c115:Con
 | [.v (.int .i64 n)] => some ([],bo (decide (16 ≤ n ∧ n ≤ 4096)))
 | _ => none
theorem con115:ConOK prog 115 c115:=ConOK.of (G:=[]) (H:=[]) .nil func115 fun l ob r hc hob => by
 unfold c115 at hc
 split at hc
 ·rename_i n
  cases hc
  refine ⟨by kernel_rfl,fnVC_go (rs:=[.tmp 2]) rfl rfl ?_⟩
  simp only [go_sem]
  rw [Bool.eq_iff_iff]; simp
 ·cases hc
def lo (x:Int):Prop:=-4096 ≤ x ∧ x ≤ 4096
theorem lo_mul {x y:Int} (hx:lo x) (hy:lo y):-16777216 ≤ x * y ∧ x * y ≤ 16777216:=by
 have:=mul_bd (A:=4096) (B:=4096) (by omega) hx hy
 omega
def lo2 (x:Int):Prop:=-8192 ≤ x ∧ x ≤ 8192
theorem lo2_mul {x y:Int} (hx:lo2 x) (hy:lo2 y):-67108864 ≤ x * y ∧ x * y ≤ 67108864:=by
 have:=mul_bd (A:=8192) (B:=8192) (by omega) hx hy
 omega
def cvxS (n:Nat) (X Y:Nat → Int):Bool:=decide (∀ i,i < n → (0 < X i * Y (nxt n i) - Y i * X (nxt n i) ∧ 4 * (ab (X (nxt n i) - X i) + ab (Y (nxt n i) - Y i) + (ab (X (nxt2 n i) - X (nxt n i)) + ab (Y (nxt2 n i) - Y (nxt n i)))) ≤ (X (nxt n i) - X i) * (Y (nxt2 n i) - Y (nxt n i)) - (Y (nxt n i) - Y i) * (X (nxt2 n i) - X (nxt n i))) ∧ ∀ j,j < n → j ≠ i → j ≠ nxt n i → 0 < (X (nxt n i) - X i) * (Y j - Y i) - (Y (nxt n i) - Y i) * (X j - X i))
def c116:Con
 | [.ro n 2 g] => some ([spots n g,n ≤ 1000,∀ i,i < n → lo (gx g 0 i) ∧ lo (gx g 1 i)],bo (cvxS n (gx g 0) (gx g 1)))
 | _ => none
theorem vc116 (n:Nat) (X Y:Nat → Int) (hn:n ≤ 1000) (hl:∀ i,i < n → lo (X i) ∧ lo (Y i)):fnVC prog [(118,c118),(177,c177),(120,c120),(178,c178),(1000000 + 179,c179)] [(3,⟨[(12,.made 10),(13,.made 11)],[]⟩)] Tryz.f116 [.ro n 2 fun i => [i64 (X i),i64 (Y i)]] (· = bo (cvxS n X Y)):=by
 refine fnVC_go (rs:=[.cell 2 4]) rfl rfl ?_
 simp only [go_sem,c118]
 have hg:spots n fun i => [i64 (X i),i64 (Y i)]:=fun i hi => ⟨rfl,by have:=(hl i hi).1; unfold lo at this; show inR (X i); unfold inR; omega,by have:=(hl i hi).2; unfold lo at this; show inR (Y i); unfold inR; omega⟩
 obtain ⟨A,hA⟩:∃ A:Nat → Prop,A = fun i => 0 < X i * Y (nxt n i) - Y i * X (nxt n i) ∧ 4 * (ab (X (nxt n i) - X i) + ab (Y (nxt n i) - Y i) + (ab (X (nxt2 n i) - X (nxt n i)) + ab (Y (nxt2 n i) - Y (nxt n i)))) ≤ (X (nxt n i) - X i) * (Y (nxt2 n i) - Y (nxt n i)) - (Y (nxt n i) - Y i) * (X (nxt2 n i) - X (nxt n i)):=⟨_,rfl⟩
 obtain ⟨T,hT⟩:∃ T:Nat → Nat → Int,T = fun i j => (X (nxt n i) - X i) * (Y j - Y i) - (Y (nxt n i) - Y i) * (X j - X i):=⟨_,rfl⟩
 have hcv:cvxS n X Y = true ↔ ∀ i,i < n → A i ∧ ∀ j,j < n → j ≠ i → j ≠ nxt n i → 0 < T i j:=by
  subst hA hT
  unfold cvxS
  rw [decide_eq_true_eq]
 refine rangeC_go (fun (i:Nat) => i ≤ n ∧ ∀ j,j < i → A j ∧ ∀ k,k < n → k ≠ j → k ≠ nxt n j → 0 < T j k) (fun i => i) (fun _ => []) [1,0] [10,3,11,12,13,14,15,16,17,18,19,20,4,5,21,22,23,24,25,26,27,28,29,30,31,32,33,34,35,36,37,38,39,40,41,42,43,44,45,7,6,46,47,48,49,50,51,52,53,54,55,56,57,58,59,60,61,62,63,64,65,66,67,68,69,41] 0 0 (N:=n) (sq:=cornerE n fun i => [i64 (X i),i64 (Y i)]) (ob:=[spots n fun i => [i64 (X i),i64 (Y i)],n ≤ 9223372036854775800]) rfl (by intro p hp; simp only [List.mem_cons,List.mem_singleton,List.not_mem_nil,or_false] at hp; rcases hp with rfl | rfl; exact hg; omega) (by kernel_rfl) rfl (fun i _ => ⟨rfl,rfl⟩) ⟨Nat.zero_le _,fun j hj => by omega⟩ rfl ⟨[],?_,?_,?_⟩ ?_ ?_
 ·simp only [go_sem]
 ·simp only [go_sem]
 ·simp [goodNames,asg]
 ·intro i hi hlt
  have hlt:i < n:=hlt
  have l1:=nxt_lt hlt
  have l2:=nxt2_lt hlt
  have b1:=hl i hlt
  have b2:=hl _ l1
  have b3:=hl _ l2
  have m1:=lo_mul b1.1 b2.2
  have m2:=lo_mul b1.2 b2.1
  have d1:lo2 (X (nxt n i) - X i):=by unfold lo at b1 b2; unfold lo2; omega
  have d2:lo2 (Y (nxt n i) - Y i):=by unfold lo at b1 b2; unfold lo2; omega
  have d3:lo2 (X (nxt2 n i) - X (nxt n i)):=by unfold lo at b3 b2; unfold lo2; omega
  have d4:lo2 (Y (nxt2 n i) - Y (nxt n i)):=by unfold lo at b3 b2; unfold lo2; omega
  have m3:=lo2_mul d1 d4
  have m4:=lo2_mul d2 d3
  unfold lo2 at d1 d2 d3 d4
  have w1:IntKind.i64.wrap (X (nxt n i) - X i) = X (nxt n i) - X i:=wrap_in (inRo (by omega))
  have w2:IntKind.i64.wrap (Y (nxt n i) - Y i) = Y (nxt n i) - Y i:=wrap_in (inRo (by omega))
  have w3:IntKind.i64.wrap (X (nxt2 n i) - X (nxt n i)) = X (nxt2 n i) - X (nxt n i):=wrap_in (inRo (by omega))
  have w4:IntKind.i64.wrap (Y (nxt2 n i) - Y (nxt n i)) = Y (nxt2 n i) - Y (nxt n i):=wrap_in (inRo (by omega))
  have w5:IntKind.i64.wrap (IntKind.i64.wrap (X i * Y (nxt n i)) - IntKind.i64.wrap (Y i * X (nxt n i))) = X i * Y (nxt n i) - Y i * X (nxt n i):=by
   rw [wrap_in (x:=X i * Y (nxt n i)) (inRo (by omega)),wrap_in (x:=Y i * X (nxt n i)) (inRo (by omega)),wrap_in (inRo (by omega))]
  have w6:IntKind.i64.wrap (IntKind.i64.wrap ((X (nxt n i) - X i) * (Y (nxt2 n i) - Y (nxt n i))) - IntKind.i64.wrap ((Y (nxt n i) - Y i) * (X (nxt2 n i) - X (nxt n i)))) = (X (nxt n i) - X i) * (Y (nxt2 n i) - Y (nxt n i)) - (Y (nxt n i) - Y i) * (X (nxt2 n i) - X (nxt n i)):=by
   rw [wrap_in (x:=(X (nxt n i) - X i) * _) (inRo (by omega)),wrap_in (x:=(Y (nxt n i) - Y i) * _) (inRo (by omega)),wrap_in (inRo (by omega))]
  simp only [go_sem,cornerE,c177,c120,c178,w1,w2,w3,w4,w5,w6]
  intro z hz z1 hz1 z2 hz2 z3 hz3 z4 hz4 z5 hz5 z6 hz6
  subst hz hz1 hz2 hz3
  rw [w6] at hz5
  have ab1:0 ≤ ab (X (nxt n i) - X i) ∧ ab (X (nxt n i) - X i) ≤ 8192:=by unfold ab; split <;> omega
  have ab2:0 ≤ ab (Y (nxt n i) - Y i) ∧ ab (Y (nxt n i) - Y i) ≤ 8192:=by unfold ab; split <;> omega
  have ab3:0 ≤ ab (X (nxt2 n i) - X (nxt n i)) ∧ ab (X (nxt2 n i) - X (nxt n i)) ≤ 8192:=by unfold ab; split <;> omega
  have ab4:0 ≤ ab (Y (nxt2 n i) - Y (nxt n i)) ∧ ab (Y (nxt2 n i) - Y (nxt n i)) ≤ 8192:=by unfold ab; split <;> omega
  have hAi:A i ↔ 0 < z4 ∧ 4 * (ab (X (nxt n i) - X i) + ab (Y (nxt n i) - Y i) + (ab (X (nxt2 n i) - X (nxt n i)) + ab (Y (nxt2 n i) - Y (nxt n i)))) ≤ z5:=by rw [hA,hz4,hz5]
  refine ⟨fun _ => by omega,fun _ => by omega,fun z7 hz7 => ⟨fun _ => by omega,fun _ => by omega,fun z8 hz8 z9 hz9 => ⟨fun h => ?_,fun h => ?_⟩⟩⟩
  ·rw [hz6,hz7,wrap_in (inRo (by omega))] at hz8
   rw [hz8,wrap_in (inRo (by omega))] at hz9
   refine false_of fun hc => ?_
   have:=(hcv.1 hc i hlt).1
   rw [hAi] at this
   omega
  rw [hz6,hz7,wrap_in (inRo (by omega))] at hz8
  rw [hz8,wrap_in (inRo (by omega))] at hz9
  have hAi:A i:=hAi.2 (by omega)
  clear hz4 hz5 hz6 hz7 hz8 hz9 w1 w2 w3 w4 w5 w6 m1 m2 m3 m4
  refine loopC_go (fun (j:Nat) => j ≤ n ∧ ∀ k,k < j → k ≠ i → k ≠ nxt n i → 0 < T i k) (fun j => n - j) (fun j => [(41,i64 j)]) (fun _ => []) [17,16,4,1,0] [42,43,44,45,7,6,46,47,48,49,50,51,52,53,54,55,56,57,58,59,60,61,62,63,64,65,66,67,68,69,41] 0 (by kernel_rfl) ?_ ⟨Nat.zero_le _,fun j hj => by omega⟩ ?_ ?_
  ·intro x _; simp [goodNames]
  ·simp only [go_sem]
  ·intro j hj
   have hn0:((n:Int) = 0) = False:=eq_false (by omega)
   simp only [go_sem,c177,c120,hn0]
   refine ⟨fun hjn => ?_,fun hjn => ?_⟩
   ·have hjn':j < n:=by omega
    have b4:=hl j hjn'
    have d5:lo2 (Y j - Y i):=by unfold lo at b1 b4; unfold lo2; omega
    have d6:lo2 (X j - X i):=by unfold lo at b1 b4; unfold lo2; omega
    have m5:=lo2_mul (show lo2 _ from d1) d5
    have m6:=lo2_mul (show lo2 _ from d2) d6
    unfold lo2 at d5 d6
    have ew:IntKind.i64.wrap (IntKind.i64.wrap ((X (nxt n i) - X i) * IntKind.i64.wrap (Y j - Y i)) - IntKind.i64.wrap ((Y (nxt n i) - Y i) * IntKind.i64.wrap (X j - X i))) = T i j:=by
     rw [wrap_in (x:=Y j - Y i) (inRo (by omega)),wrap_in (x:=X j - X i) (inRo (by omega)),wrap_in (x:=_ * (Y j - Y i)) (inRo (by omega)),wrap_in (x:=_ * (X j - X i)) (inRo (by omega)),wrap_in (inRo (by omega)),hT]
    refine ⟨by omega,hjn,fun z hz z1 hz1 z2 hz2 => ?_⟩
    rw [hz,wrap_in (inRo (by omega)),tmod_nxt hlt] at hz1
    rw [ew] at hz2
    subst hz1 hz2
    refine ⟨fun h => false_of fun hc => ?_,fun h z3 hz3 => ⟨j + 1,⟨by omega,fun k hk k1 k2 => ?_⟩,by omega,?_⟩⟩
    ·have:=(hcv.1 hc i hlt).2 j hjn' (by have:=h.1.1; simp at this; omega) (by have:=h.1.2; simp at this; omega)
     omega
    ·by_cases e:k = j
     ·subst e
      simp only [Bool.and_eq_false_iff,bne_eq_false_iff_eq,decide_eq_false_iff_not] at h
      omega
     ·exact hj.2 k (by omega) k1 k2
    ·rw [hz3,wrap_in (inRo (by omega))]; rfl
   ·refine ⟨i + 1,⟨by omega,fun j' hj' => ?_⟩,rfl,[],by simp [goodNames,asg]⟩
    by_cases e:j' = i
    ·subst e; exact ⟨hAi,fun k hk k1 k2 => hj.2 k (by omega) k1 k2⟩
    ·exact hi.2 j' (by omega)
 ·intro i hi he
  have he:i = n:=he
  subst he
  simp only [go_sem]
  exact (hcv.2 hi.2).symm
theorem con116:ConOK prog 116 c116:=ConOK.go (G:=[(118,c118),(177,c177),(120,c120),(178,c178),(1000000 + 179,c179)]) (H:=[(3,⟨[(12,.made 10),(13,.made 11)],[]⟩)]) (.cons con118 (.cons con177 (.cons con120 (.cons con178 (.seq seq179 .nil))))) func116 fun l ob r hc hob => by
 unfold c116 at hc
 split at hc
 ·rename_i n g
  cases hc
  have hs:spots n g:=hob _ (by simp)
  exact ⟨[.ro n 2 fun i => [i64 (gx g 0 i),i64 (gx g 1 i)]],fun w I vs h => Rs_one (fun v => ro_alike fun i hi => (hs i hi).1) h,by kernel_rfl,vc116 n _ _ (hob _ (by simp)) (hob _ (by simp))⟩
 ·cases hc
theorem tmod_cast {n k:Nat} (h:0 < n):Int.tmod (k:Int) n = ((k % n:Nat):Int):=by
 rw [Int.tmod_eq_emod_of_nonneg (by omega),← Int.natCast_emod]
theorem ix_all {n i j:Nat} (hi:i < n) (hj:j < n) (h1:j ≠ i) (h2:j ≠ nxt n i):∃ k,2 ≤ k ∧ k < n ∧ (i + k) % n = j:=by
 unfold nxt at h2
 by_cases h:i < j
 ·refine ⟨j - i,?_,by omega,?_⟩
  ·rw [if_pos (by omega)] at h2; omega
  ·rw [show i + (j - i) = j by omega,Nat.mod_eq_of_lt hj]
 ·refine ⟨n + j - i,?_,by omega,?_⟩
  ·split at h2 <;> omega
  ·rw [show i + (n + j - i) = j + n by omega,Nat.add_mod_right,Nat.mod_eq_of_lt hj]
theorem ix_ne {n i k:Nat} (hi:i < n) (h2:2 ≤ k) (hk:k < n):(i + k) % n < n ∧ (i + k) % n ≠ i ∧ (i + k) % n ≠ nxt n i:=by
 refine ⟨Nat.mod_lt _ (by omega),?_⟩
 unfold nxt
 by_cases h:i + k < n
 ·rw [Nat.mod_eq_of_lt h]
  refine ⟨by omega,?_⟩
  split <;> omega
 ·rw [Nat.mod_eq_sub_mod (by omega),Nat.mod_eq_of_lt (by omega)]
  refine ⟨by omega,?_⟩
  split <;> omega
theorem vc149 (n:Nat) (X Y:Nat → Int) (hn:n ≤ 1000) (hl:∀ i,i < n → lo (X i) ∧ lo (Y i)):fnVC prog [(153,c153),(233,c233),(234,c234)] [(5,⟨[(21,.made 18),(22,.made 19),(23,.made 20)],[(10,[.made 18]),(17,[.made 18,.made 19])]⟩)] Tryz.f149 [.ro n 2 fun i => [i64 (X i),i64 (Y i)]] (· = bo (cvxS n X Y)):=by
 refine fnVC_go (rs:=[.tmp 2]) rfl rfl ?_
 simp only [go_sem]
 obtain ⟨A,hA⟩:∃ A:Nat → Prop,A = fun i => 0 < X i * Y (nxt n i) - Y i * X (nxt n i) ∧ 4 * (ab (X (nxt n i) - X i) + ab (Y (nxt n i) - Y i) + (ab (X (nxt2 n i) - X (nxt n i)) + ab (Y (nxt2 n i) - Y (nxt n i)))) ≤ (X (nxt n i) - X i) * (Y (nxt2 n i) - Y (nxt n i)) - (Y (nxt n i) - Y i) * (X (nxt2 n i) - X (nxt n i)):=⟨_,rfl⟩
 obtain ⟨T,hT⟩:∃ T:Nat → Nat → Int,T = fun i j => (X (nxt n i) - X i) * (Y j - Y i) - (Y (nxt n i) - Y i) * (X j - X i):=⟨_,rfl⟩
 have hcv:cvxS n X Y = true ↔ ∀ i,i < n → A i ∧ ∀ j,j < n → j ≠ i → j ≠ nxt n i → 0 < T i j:=by
  subst hA hT
  unfold cvxS
  rw [decide_eq_true_eq]
 refine loopC_go (fun (i:Nat) => i ≤ n ∧ ∀ j,j < i → A j ∧ ∀ k,k < n → k ≠ j → k ≠ nxt n j → 0 < T j k) (fun i => n - i) (fun i => [(4,i64 i)]) (fun _ => []) [] [11,12,13,16,17,18,19,20,21,22,23,24,25,26,27,28,29,30,31,32,33,5,6,7,34,35,36,37,38,39,40,41,42,43,44,45,46,47,48,49,50,51,52,53,54,55,56,57,2,8,58,59,60,63,64,65,66,67,68,69,70,71,72,73,74,75,76,77,2,61,62,8,14,15,4] 0 (by kernel_rfl) ?_ ⟨Nat.zero_le _,fun j hj => by omega⟩ ?_ ?_
 ·intro x _; simp [goodNames]
 ·simp only [go_sem]
 ·intro i hi
  by_cases hlt:i < n
  ·have hn0:((n:Int) = 0) = False:=eq_false (by omega)
   have l1:=nxt_lt hlt
   have l2:=nxt2_lt hlt
   have b1:=hl i hlt
   have b2:=hl _ l1
   have b3:=hl _ l2
   have m1:=lo_mul b1.1 b2.2
   have m2:=lo_mul b1.2 b2.1
   have d1:lo2 (X (nxt n i) - X i):=by unfold lo at b1 b2; unfold lo2; omega
   have d2:lo2 (Y (nxt n i) - Y i):=by unfold lo at b1 b2; unfold lo2; omega
   have d3:lo2 (X (nxt2 n i) - X (nxt n i)):=by unfold lo at b3 b2; unfold lo2; omega
   have d4:lo2 (Y (nxt2 n i) - Y (nxt n i)):=by unfold lo at b3 b2; unfold lo2; omega
   have m3:=lo2_mul d1 d4
   have m4:=lo2_mul d2 d3
   unfold lo2 at d1 d2 d3 d4
   have w1:IntKind.i64.wrap (X (nxt n i) - X i) = X (nxt n i) - X i:=wrap_in (inRo (by omega))
   have w2:IntKind.i64.wrap (Y (nxt n i) - Y i) = Y (nxt n i) - Y i:=wrap_in (inRo (by omega))
   have w3:IntKind.i64.wrap (X (nxt2 n i) - X (nxt n i)) = X (nxt2 n i) - X (nxt n i):=wrap_in (inRo (by omega))
   have w4:IntKind.i64.wrap (Y (nxt2 n i) - Y (nxt n i)) = Y (nxt2 n i) - Y (nxt n i):=wrap_in (inRo (by omega))
   have w5:IntKind.i64.wrap (X i * Y (nxt n i) - Y i * X (nxt n i)) = X i * Y (nxt n i) - Y i * X (nxt n i):=wrap_in (inRo (by omega))
   have w6:IntKind.i64.wrap ((X (nxt n i) - X i) * (Y (nxt2 n i) - Y (nxt n i)) - (Y (nxt n i) - Y i) * (X (nxt2 n i) - X (nxt n i))) = (X (nxt n i) - X i) * (Y (nxt2 n i) - Y (nxt n i)) - (Y (nxt n i) - Y i) * (X (nxt2 n i) - X (nxt n i)):=wrap_in (inRo (by omega))
   have v1:IntKind.i64.wrap ((i:Int) + 1) = i + 1:=wrap_in (inRo (by omega))
   have v2:IntKind.i64.wrap ((i:Int) + 2) = i + 2:=wrap_in (inRo (by omega))
   simp only [go_sem,hn0,c153,c233,c234]
   refine ⟨fun _ => ?_,fun h => absurd (by omega) h⟩
   refine ⟨by omega,by omega,fun z hz z1 hz1 => ?_⟩
   rw [hz,v1,tmod_nxt hlt] at hz1
   subst hz1
   refine ⟨by omega,by omega,fun z2 hz2 z3 hz3 => ?_⟩
   rw [hz2,v2,tmod_nxt2 hlt] at hz3
   subst hz3
   refine ⟨by omega,by omega,?_⟩
   simp only [Int.toNat_natCast,w1,w2,w3,w4,w5,w6]
   intro z4 hz4 z5 hz5 z6 hz6
   have ab1:0 ≤ ab (X (nxt n i) - X i) ∧ ab (X (nxt n i) - X i) ≤ 8192:=by unfold ab; split <;> omega
   have ab2:0 ≤ ab (Y (nxt n i) - Y i) ∧ ab (Y (nxt n i) - Y i) ≤ 8192:=by unfold ab; split <;> omega
   have ab3:0 ≤ ab (X (nxt2 n i) - X (nxt n i)) ∧ ab (X (nxt2 n i) - X (nxt n i)) ≤ 8192:=by unfold ab; split <;> omega
   have ab4:0 ≤ ab (Y (nxt2 n i) - Y (nxt n i)) ∧ ab (Y (nxt2 n i) - Y (nxt n i)) ≤ 8192:=by unfold ab; split <;> omega
   have hAi:A i ↔ 0 < z4 ∧ 4 * (ab (X (nxt n i) - X i) + ab (Y (nxt n i) - Y i) + (ab (X (nxt2 n i) - X (nxt n i)) + ab (Y (nxt2 n i) - Y (nxt n i)))) ≤ z5:=by rw [hA,hz4,hz5]
   refine ⟨fun _ => by omega,fun _ => by omega,fun z7 hz7 => ⟨fun _ => by omega,fun _ => by omega,fun z8 hz8 z9 hz9 => ⟨fun h => ?_,fun h => ?_⟩⟩⟩
   ·rw [hz6,hz7,wrap_in (inRo (by omega))] at hz8
    rw [hz8,wrap_in (inRo (by omega))] at hz9
    refine false_of fun hc => ?_
    have:=(hcv.1 hc i hlt).1
    rw [hAi] at this
    omega
   rw [hz6,hz7,wrap_in (inRo (by omega))] at hz8
   rw [hz8,wrap_in (inRo (by omega))] at hz9
   have hAi:A i:=hAi.2 (by omega)
   clear hz4 hz5 hz6 hz7 hz8 hz9 w5 w6 m1 m2 m3 m4
   refine loopC_go (fun (k:Nat) => (2 ≤ k ∧ k ≤ max n 2) ∧ ∀ k',2 ≤ k' → k' < k → 0 < T i ((i + k') % n)) (fun k => max n 2 - k) (fun k => [(8,i64 k)]) (fun _ => []) [28,27,26] [58,59,60,63,64,65,66,67,68,69,70,71,72,73,74,75,76,77,2,61,62,8] 2 (by kernel_rfl) ?_ ⟨by omega,fun j hj hj2 => by omega⟩ ?_ ?_
   ·intro x _; simp [goodNames]
   ·simp only [go_sem]
   ·intro k hk
    simp only [go_sem,hn0,c153,c233]
    refine ⟨fun hkn => ?_,fun hkn => ?_⟩
    ·have hk2:=hk.1.1
     ·have hkn':k < n:=by omega
      obtain ⟨j1,j2,j3⟩:=ix_ne hlt hk2 hkn'
      have b4:=hl _ j1
      have d5:lo2 (Y ((i + k) % n) - Y i):=by unfold lo at b1 b4; unfold lo2; omega
      have d6:lo2 (X ((i + k) % n) - X i):=by unfold lo at b1 b4; unfold lo2; omega
      have m5:=lo2_mul (show lo2 _ from d1) d5
      have m6:=lo2_mul (show lo2 _ from d2) d6
      unfold lo2 at d5 d6
      intro za hza zb hzb zc hzc zd hzd
      rw [hzc,wrap_in (inRo (by omega)),show (i:Int) + k = ((i + k:Nat):Int) from rfl,tmod_cast (by omega)] at hzd
      subst hzd
      refine ⟨by omega,by omega,fun ze hze zf hzf zg hzg => ?_⟩
      rw [Int.toNat_natCast] at hze hzf
      have ew:zg = T i ((i + k) % n):=by
       rw [hzg,hza,hzb,hze,hzf,w1,w2,wrap_in (x:=Y ((i + k) % n) - Y i) (inRo (by omega)),wrap_in (x:=X ((i + k) % n) - X i) (inRo (by omega)),wrap_in (inRo (by omega)),hT]
      rw [ew]
      refine ⟨fun h => false_of fun hc => ?_,fun h z3 hz3 => ⟨k + 1,⟨by omega,fun k' hk' k1 => ?_⟩,by omega,?_⟩⟩
      ·have:=(hcv.1 hc i hlt).2 _ j1 j2 j3
       omega
      ·by_cases e:k' = k
       ·subst e; omega
       ·exact hk.2 k' hk' (by omega)
      ·rw [hz3,wrap_in (inRo (by omega))]; rfl
    ·have hkn':n ≤ k:=by omega
     refine fun z hz => ⟨i + 1,⟨by omega,fun j' hj' => ?_⟩,by omega,?_⟩
     ·by_cases e:j' = i
      ·subst e
       refine ⟨hAi,fun k' k1 k2 k3 => ?_⟩
       obtain ⟨q,q1,q2,q3⟩:=ix_all hlt k1 k2 k3
       rw [← q3]
       exact hk.2 q q1 (by omega)
      ·exact hi.2 j' (by omega)
     ·rw [hz,v1]; rfl
  ·simp only [go_sem]
   refine ⟨fun h => absurd (by omega) hlt,fun _ => ?_⟩
   have he:i = n:=by omega
   subst he
   exact (hcv.2 hi.2).symm
theorem con149:ConOK prog 149 c116:=ConOK.go (G:=[(153,c153),(233,c233),(234,c234)]) (H:=[(5,⟨[(21,.made 18),(22,.made 19),(23,.made 20)],[(10,[.made 18]),(17,[.made 18,.made 19])]⟩)]) (.cons con153 (.cons con233 (.cons con234 .nil))) func149 fun l ob r hc hob => by
 unfold c116 at hc
 split at hc
 ·rename_i n g
  cases hc
  have hs:spots n g:=hob _ (by simp)
  exact ⟨[.ro n 2 fun i => [i64 (gx g 0 i),i64 (gx g 1 i)]],fun w I vs h => Rs_one (fun v => ro_alike fun i hi => (hs i hi).1) h,by kernel_rfl,vc149 n _ _ (hob _ (by simp)) (hob _ (by simp))⟩
 ·cases hc
instance {x:Int}:Decidable (lo x):=by unfold lo; infer_instance
def chkS (k r w t:Int) (n:Nat) (X Y:Nat → Int):Int:=
 if k = 1 then (if w ≠ 0 ∨ t ≠ 0 ∨ n ≠ 0 then 4 else if 16 ≤ r ∧ r ≤ 4096 then 0 else 3)
 else if k = 2 then (if r ≠ 0 ∨ n ≠ 0 then 4 else if (16 ≤ w ∧ w ≤ 4096) ∧ (16 ≤ t ∧ t ≤ 4096) then 0 else 3)
 else if k = 3 then (if r ≠ 0 ∨ w ≠ 0 ∨ t ≠ 0 ∨ n < 3 ∨ 8 < n then 4 else if ∀ i,i < n → lo (X i) ∧ lo (Y i) then (if cvxS n X Y = true then 0 else 5) else 3)
 else 8
abbrev shapeA (k r w t:Int) (n:Nat) (g:Nat → List AV):AV:=.agg [i64 k,i64 r,i64 w,i64 t,.ro n 2 g]
theorem vc62 (k r w t:Int) (n:Nat) (X Y:Nat → Int) (hX:∀ i,i < n → inR (X i) ∧ inR (Y i)) (hn:n ≤ 9223372036854775806):fnVC prog [(115,c115),(116,c116)] [] Tryz.f62 [shapeA k r w t n fun i => [i64 (X i),i64 (Y i)]] (· = i64 (chkS k r w t n X Y)):=by
 refine fnVC_go (rs:=[.tmp 2]) rfl rfl ?_
 have hg:spots n fun i => [i64 (X i),i64 (Y i)]:=fun i hi => ⟨rfl,hX i hi⟩
 have eX:gx (fun i => [i64 (X i),i64 (Y i)]) 0 = X:=rfl
 have eY:gx (fun i => [i64 (X i),i64 (Y i)]) 1 = Y:=rfl
 simp only [go_sem,c115,c116]
 refine ⟨fun hk => ?_,fun hk => ⟨fun hk2 => ?_,fun hk2 => ⟨fun hk3 => ?_,fun hk3 => ?_⟩⟩⟩
 ·have hk:k = 1:=by simpa using hk
  refine ⟨fun h => ?_,fun h z hz => ⟨fun h2 => ?_,fun h2 => ?_⟩⟩
  ·unfold chkS; rw [if_pos hk,if_pos (by simp only [bne_iff_ne] at h; omega)]
  ·unfold chkS; rw [if_pos hk,if_neg (by simp at h; omega),if_neg (by rw [hz] at h2; exact of_decide_eq_false h2)]
  ·unfold chkS; rw [if_pos hk,if_neg (by simp at h; omega),if_pos (by rw [hz] at h2; exact of_decide_eq_true h2)]
 ·have hk:¬ k = 1:=by simpa using hk
  have hk2:k = 2:=by simpa using hk2
  refine ⟨fun h => ?_,fun h z hz z1 hz1 => ⟨fun h2 => ?_,fun h2 => ?_⟩⟩
  ·unfold chkS; rw [if_neg hk,if_pos hk2,if_pos (by simp only [bne_iff_ne] at h; omega)]
  ·unfold chkS; rw [if_neg hk,if_pos hk2,if_neg (by simp at h; omega),if_neg (by
    rintro ⟨p,q⟩
    rw [hz,hz1,decide_eq_true p,decide_eq_true q] at h2
    simp at h2)]
  ·unfold chkS; rw [if_neg hk,if_pos hk2,if_neg (by simp at h; omega),if_pos (by
    rw [hz,hz1] at h2
    exact ⟨of_decide_eq_true h2.1,of_decide_eq_true h2.2⟩)]
 ·have hk:¬ k = 1:=by simpa using hk
  have hk2:¬ k = 2:=by simpa using hk2
  have hk3:k = 3:=by simpa using hk3
  refine ⟨fun h => ?_,fun h => ?_⟩
  ·unfold chkS; rw [if_neg hk,if_neg hk2,if_pos hk3,if_pos (by simp only [bne_iff_ne] at h; omega)]
  have h4:¬ (r ≠ 0 ∨ w ≠ 0 ∨ t ≠ 0 ∨ n < 3 ∨ 8 < n):=by simp at h; omega
  have e0:chkS k r w t n X Y = if ∀ i,i < n → lo (X i) ∧ lo (Y i) then (if cvxS n X Y = true then 0 else 5) else 3:=by unfold chkS; rw [if_neg hk,if_neg hk2,if_pos hk3,if_neg h4]
  rw [e0]
  refine loopC_go (fun (i:Nat) => i ≤ n ∧ ∀ j,j < i → lo (X j) ∧ lo (Y j)) (fun i => n - i) (fun i => [(78,i64 i)]) (fun _ => []) [0] [79,80,81,4,82,83,84,85,86,87,88,89,90,91,92,93,94,95,2,96,78] 0 (by kernel_rfl) ?_ ⟨Nat.zero_le _,fun j hj => by omega⟩ ?_ ?_
  ·intro x _; simp [goodNames]
  ·simp only [go_sem]
  ·intro i hi
   simp only [go_sem,c116,eX,eY]
   refine ⟨fun hin => ⟨by omega,hin,fun z hz z1 hz1 => ⟨fun h5 => ?_,fun h5 z2 hz2 => ⟨i + 1,⟨by omega,fun j hj => ?_⟩,by omega,?_⟩⟩⟩,fun hin z hz => ⟨hg,by omega,fun j hj => hi.2 j (by omega),fun h5 => ?_,fun h5 => ?_⟩⟩
   ·rw [if_neg fun hc => ?_]
    have:=hc i (by omega)
    unfold lo at this
    omega
   ·by_cases e:j = i
    ·subst e; unfold lo; omega
    ·exact hi.2 j (by omega)
   ·rw [hz2,wrap_in (inRo (by omega))]; rfl
   ·rw [if_pos (fun j hj => hi.2 j (by omega)),if_neg (by rw [← hz,h5]; decide)]
   ·rw [if_pos (fun j hj => hi.2 j (by omega)),if_pos (by rw [← hz,h5])]
 ·have hk:¬ k = 1:=by simpa using hk
  have hk2:¬ k = 2:=by simpa using hk2
  have hk3:¬ k = 3:=by simpa using hk3
  unfold chkS; rw [if_neg hk,if_neg hk2,if_neg hk3]
theorem Rs_shape {w:World} {ρ:Env} {k x y r:Int} {n:Nat} {g:Nat → List AV} (hs:spots n g) (v:Value) (h:R w ρ (shapeA k x y r n g) v):R w ρ (shapeA k x y r n fun i => [i64 (gx g 0 i),i64 (gx g 1 i)]) v:=Rs_form hs v h
def c62:Con
 | [.agg [.v (.int .i64 k),.v (.int .i64 r),.v (.int .i64 w),.v (.int .i64 t),.ro n 2 g]] => some ([spots n g,n ≤ 9223372036854775806],i64 (chkS k r w t n (gx g 0) (gx g 1)))
 | _ => none
theorem con62:ConOK prog 62 c62:=ConOK.go (G:=[(115,c115),(116,c116)]) (H:=[]) (.cons con115 (.cons con116 .nil)) func62 fun l ob rr hc hob => by
 unfold c62 at hc
 split at hc
 ·rename_i k r w t n g
  cases hc
  have hs:spots n g:=hob _ (by simp)
  exact ⟨[shapeA k r w t n fun i => [i64 (gx g 0 i),i64 (gx g 1 i)]],fun w I vs h => Rs_one (Rs_shape hs) h,by kernel_rfl,vc62 k r w t n _ _ (fun i hi => (hs i hi).2) (hob _ (by simp))⟩
 ·cases hc
theorem vc79 (k r w t:Int) (n:Nat) (X Y:Nat → Int) (hX:∀ i,i < n → inR (X i) ∧ inR (Y i)) (hn:n ≤ 9223372036854775806):fnVC prog [(147,c147),(148,c148),(149,c116)] [] Tryz.f79 [shapeA k r w t n fun i => [i64 (X i),i64 (Y i)]] (· = i64 (chkS k r w t n X Y)):=by
 refine fnVC_go (rs:=[.tmp 2]) rfl rfl ?_
 have hg:spots n fun i => [i64 (X i),i64 (Y i)]:=fun i hi => ⟨rfl,hX i hi⟩
 have eX:gx (fun i => [i64 (X i),i64 (Y i)]) 0 = X:=rfl
 have eY:gx (fun i => [i64 (X i),i64 (Y i)]) 1 = Y:=rfl
 simp only [go_sem,c147,c148,c116]
 refine ⟨fun hk => ?_,fun hk => ⟨fun hk2 => ?_,fun hk2 => ⟨fun hk3 => ?_,fun hk3 => ?_⟩⟩⟩
 ·have hk:k = 1:=by simpa using hk
  refine ⟨fun h => ?_,fun h z hz => ⟨fun h2 => ?_,fun h2 => ?_⟩⟩
  ·unfold chkS; rw [if_pos hk,if_pos (by simp only [bne_iff_ne] at h; omega)]
  ·unfold chkS; rw [if_pos hk,if_neg (by simp at h; omega),if_neg (by rw [hz] at h2; exact of_decide_eq_false h2)]
  ·unfold chkS; rw [if_pos hk,if_neg (by simp at h; omega),if_pos (by rw [hz] at h2; exact of_decide_eq_true h2)]
 ·have hk:¬ k = 1:=by simpa using hk
  have hk2:k = 2:=by simpa using hk2
  refine ⟨fun h => ?_,fun h z hz z1 hz1 => ⟨fun h2 => ?_,fun h2 => ?_⟩⟩
  ·unfold chkS; rw [if_neg hk,if_pos hk2,if_pos (by simp only [bne_iff_ne] at h; omega)]
  ·unfold chkS; rw [if_neg hk,if_pos hk2,if_neg (by simp at h; omega),if_neg (by
    rintro ⟨p,q⟩
    rw [hz,hz1,decide_eq_true p,decide_eq_true q] at h2
    simp at h2)]
  ·unfold chkS; rw [if_neg hk,if_pos hk2,if_neg (by simp at h; omega),if_pos (by
    rw [hz,hz1] at h2
    exact ⟨of_decide_eq_true h2.1,of_decide_eq_true h2.2⟩)]
 ·have hk:¬ k = 1:=by simpa using hk
  have hk2:¬ k = 2:=by simpa using hk2
  have hk3:k = 3:=by simpa using hk3
  refine ⟨fun h => ?_,fun h => ?_⟩
  ·unfold chkS; rw [if_neg hk,if_neg hk2,if_pos hk3,if_pos (by simp only [bne_iff_ne] at h; omega)]
  have h4:¬ (r ≠ 0 ∨ w ≠ 0 ∨ t ≠ 0 ∨ n < 3 ∨ 8 < n):=by simp at h; omega
  have e0:chkS k r w t n X Y = if ∀ i,i < n → lo (X i) ∧ lo (Y i) then (if cvxS n X Y = true then 0 else 5) else 3:=by unfold chkS; rw [if_neg hk,if_neg hk2,if_pos hk3,if_neg h4]
  rw [e0]
  refine loopC_go (fun (i:Nat) => i ≤ n ∧ ∀ j,j < i → lo (X j) ∧ lo (Y j)) (fun i => n - i) (fun i => [(3,i64 i)]) (fun _ => []) [0] [74,75,76,77,78,81,82,83,84,85,86,87,88,89,90,91,92,93,94,95,96,97,98,2,79,80,3] 0 (by kernel_rfl) ?_ ⟨Nat.zero_le _,fun j hj => by omega⟩ ?_ ?_
  ·intro x _; simp [goodNames]
  ·simp only [go_sem]
  ·intro i hi
   simp only [go_sem,c148,c116,eX,eY]
   refine ⟨fun hin => ⟨by omega,hin,fun z hz => ⟨fun _ => by omega,fun _ => hin,fun z1 hz1 => ⟨fun h5 => ?_,fun h5 z2 hz2 => ⟨i + 1,⟨by omega,fun j hj => ?_⟩,by omega,?_⟩⟩⟩⟩,fun hin z hz => ⟨hg,by omega,fun j hj => hi.2 j (by omega),fun h5 => ?_,fun h5 => ?_⟩⟩
   ·rw [if_neg fun hc => ?_]
    have:=hc i (by omega)
    unfold lo at this
    rw [hz,hz1] at h5
    rcases h5 with h5 | h5
    ·exact absurd (of_decide_eq_false h5) (by simp only [Decidable.not_not]; exact this.1)
    ·exact absurd (of_decide_eq_false h5) (by simp only [Decidable.not_not]; exact this.2)
   ·by_cases e:j = i
    ·subst e
     rw [hz,hz1] at h5
     exact ⟨of_decide_eq_true h5.1,of_decide_eq_true h5.2⟩
    ·exact hi.2 j (by omega)
   ·rw [hz2,wrap_in (inRo (by omega))]; rfl
   ·rw [if_pos (fun j hj => hi.2 j (by omega)),if_neg (by rw [← hz,h5]; decide)]
   ·rw [if_pos (fun j hj => hi.2 j (by omega)),if_pos (by rw [← hz,h5])]
 ·have hk:¬ k = 1:=by simpa using hk
  have hk2:¬ k = 2:=by simpa using hk2
  have hk3:¬ k = 3:=by simpa using hk3
  unfold chkS; rw [if_neg hk,if_neg hk2,if_neg hk3]
theorem con79:ConOK prog 79 c62:=ConOK.go (G:=[(147,c147),(148,c148),(149,c116)]) (H:=[]) (.cons con147 (.cons con148 (.cons con149 .nil))) func79 fun l ob rr hc hob => by
 unfold c62 at hc
 split at hc
 ·rename_i k r w t n g
  cases hc
  have hs:spots n g:=hob _ (by simp)
  exact ⟨[shapeA k r w t n fun i => [i64 (gx g 0 i),i64 (gx g 1 i)]],fun w I vs h => Rs_one (Rs_shape hs) h,by kernel_rfl,vc79 k r w t n _ _ (fun i hi => (hs i hi).2) (hob _ (by simp))⟩
 ·cases hc
def c225:Con
 | [.agg [.v (.int .i64 k),.v (.int .i64 x),.v (.int .i64 y),.v (.int .i64 r),.ro n 2 g],.v (.int .i64 i)] => some ([spots n g,0 ≤ i,i < n,n ≤ 9223372036854775806],.tup [.agg [i64 (gx g 0 i.toNat),i64 (gx g 1 i.toNat)],.agg [i64 (gx g 0 (nxt n i.toNat)),i64 (gx g 1 (nxt n i.toNat))]])
 | _ => none
theorem vc225 (k x y r:Int) (n:Nat) (X Y:Nat → Int) (i:Nat) (hi:i < n) (hn:n ≤ 9223372036854775806):fnVC prog [] [(1,⟨[(15,.slot 4),(16,.slot 5)],[(6,[.slot 4]),(10,[.slot 4]),(14,[.slot 4])]⟩)] Tryz.f225 [formA k x y r n fun i => [i64 (X i),i64 (Y i)],i64 i] (· = .tup [.agg [i64 (X i),i64 (Y i)],.agg [i64 (X (nxt n i)),i64 (Y (nxt n i))]]):=by
 refine fnVC_go (rs:=[.cell 4 116,.cell 5 116]) rfl rfl ?_
 have hn0:((n:Int) = 0) = False:=eq_false (by omega)
 simp only [go_sem,hn0]
 have hl:=nxt_lt hi
 refine ⟨by omega,by omega,fun z hz z1 hz1 => ?_⟩
 rw [wrap_in (inRo (by omega))] at hz
 rw [hz,tmod_nxt hi] at hz1
 subst hz1
 exact ⟨by omega,by omega,rfl⟩
theorem con225:ConOK prog 225 c225:=ConOK.go (G:=[]) (H:=[(1,⟨[(15,.slot 4),(16,.slot 5)],[(6,[.slot 4]),(10,[.slot 4]),(14,[.slot 4])]⟩)]) .nil func225 fun l ob rr hc hob => by
 unfold c225 at hc
 split at hc
 ·rename_i k x y r n g i
  cases hc
  have hs:spots n g:=hob _ (by simp)
  have h0:0 ≤ i:=hob _ (by simp)
  have h1:i < n:=hob _ (by simp)
  have e:i = (i.toNat:Int):=by omega
  refine ⟨[formA k x y r n fun i => [i64 (gx g 0 i),i64 (gx g 1 i)],i64 (i.toNat:Int)],fun w I vs h => Rs_two (Rs_form hs) (fun v h => by rw [← e]; exact h) h,by kernel_rfl,vc225 k x y r n _ _ i.toNat (by omega) (hob _ (by simp))⟩
 ·cases hc
def c122:Con
 | [.agg [.v (.int .i64 a),.v (.bool e)]] => some ([inR a],bo (! (whF a e || decide (17592186044416 < ab (whV a)))))
 | _ => none
theorem con122:ConOK prog 122 c122:=ConOK.of (G:=[(50,c50),(103,c103),(51,c51)]) (H:=[]) (.cons con50 (.cons con103 (.cons con51 .nil))) func122 fun l ob r hc hob => by
 unfold c122 at hc
 split at hc
 ·rename_i a e
  cases hc
  have h_0:=ob0 hob
  refine ⟨by kernel_rfl,fnVC_go (rs:=[.tmp 2]) rfl rfl ?_⟩
  simp only [go_sem,c50,c103,c51]
  simp only [forall_eq]
  refine ⟨h_0,fun _ => inRo (by omega),?_⟩
  have e1:whV (ab (whV a)) = ab (whV a):=whV_of (by have:=whV_rg h_0; unfold rg at *; unfold ab; split <;> omega)
  have e2:whV (ftV (4096 * 4294967296)) = 17592186044416:=by decide
  rw [e1,e2,Bool.eq_iff_iff]
  simp [cmpS]
  intro _
  split
  ·simp; omega
  ·split
   ·simp; omega
   ·simp; omega
 ·cases hc
def c123:Con
 | [.agg [.v (.int .i64 a),.v (.bool e),.v (.int .i64 b),.v (.bool f)]] => some ([inR a,inR b],.agg [i64 (spV (a,e)),i64 (spV (b,f))])
 | _ => none
theorem con123:ConOK prog 123 c123:=ConOK.of (G:=[(103,c103),(180,c180),(47,c47)]) (H:=[(2,⟨[(11,.slot 2)],[]⟩)]) (.cons con103 (.cons con180 (.cons con47 .nil))) func123 fun l ob r hc hob => by
 unfold c123 at hc
 split at hc
 ·rename_i a e b f
  cases hc
  have h_0:=ob0 hob
  have h_1:=ob1 hob
  refine ⟨by kernel_rfl,fnVC_go (rs:=[.cell 2 116]) rfl rfl ?_⟩
  simp only [go_sem,c103,c180,c47]
  simp only [forall_eq]
  exact ⟨h_0,rg_inR (ftV_rg _),rg_inR (ftV_rg _),h_1,rg_inR (ftV_rg _),rg_inR (ftV_rg _),rfl⟩
 ·cases hc
theorem vfS_one {x y:Int} {e f:Bool}:vfS 1 (rowsOf 4 [i64 x,bo e,i64 y,bo f]) = (whF x e || whF y f):=by
 unfold vfS anyB anyB
 rw [Bool.false_or]; rfl
def c67:Con
 | [.agg [.v (.int .i64 x),.v (.bool e),.v (.int .i64 y),.v (.bool f)]] => some ([inR x,inR y],i64 (if (whF x e = true ∨ whF y f = true) ∨ (65536 < (nDot (x,e) (x,e) (y,f) (y,f)).1 - 4294967296 ∨ 65536 < 4294967296 - (nDot (x,e) (x,e) (y,f) (y,f)).1) then 3 else 0))
 | _ => none
theorem con67:ConOK prog 67 c67:=ConOK.of (G:=[(128,c128),(129,c129)]) (H:=[]) (.cons con128 (.cons con129 .nil)) func67 fun l ob r hc hob => by
 unfold c67 at hc
 split at hc
 ·rename_i x e y f
  cases hc
  have h_0:=ob0 hob
  have h_1:=ob1 hob
  refine ⟨by kernel_rfl,fnVC_go (rs:=[.tmp 2]) rfl rfl ?_⟩
  simp only [go_sem,c128,c129]
  simp only [forall_eq,vfS_one]
  have k0:0 ≤ (whV x * whV x + whV y * whV y).tdiv 4294967296:=Int.tdiv_nonneg (by have:=sq_nonneg (a:=whV x); have:=sq_nonneg (a:=whV y); omega) (by omega)
  have k1:0 ≤ ftV ((whV x * whV x + whV y * whV y).tdiv 4294967296) ∧ ftV ((whV x * whV x + whV y * whV y).tdiv 4294967296) ≤ 9223372036854775807:=by unfold ftV; (repeat' split) <;> omega
  have eD:(nDot (x,e) (x,e) (y,f) (y,f)).1 = ftV ((whV x * whV x + whV y * whV y).tdiv 4294967296):=rfl
  rw [eD]
  generalize ftV ((whV x * whV x + whV y * whV y).tdiv 4294967296) = n at *
  rw [wrap_in (x:=n - 4294967296) (inRo (by omega))]
  refine ⟨⟨h_0,h_1⟩,fun h => ?_,fun h => ⟨h_0,h_0,h_1,h_1,fun h2 => ?_,fun h2 => ?_⟩⟩
  ·rw [if_pos (.inl (by simpa using h))]
  ·rw [if_pos (.inr (by omega))]
  ·rw [if_neg (by
    rintro (k | k)
    ·have:(whF x e || whF y f) = true:=by simpa using k
     rw [h] at this; cases this
    ·omega)]
 ·cases hc
def k131:Con
 | [.agg [.v (.int .i64 x),.v (.bool e),.v (.int .i64 y),.v (.bool f)],.agg [.v (.int .i64 z),.v (.bool g),.v (.int .i64 t),.v (.bool h)]] => some ([inR x,inR y,inR z,inR t],veA (vApply ((x,e),(y,f)) ((z,g),(t,h))))
 | _ => none
theorem kon131:ConOK prog 181 k131:=ConOK.of (G:=[(129,c129),(112,c112)]) (H:=[(1,⟨[(20,.slot 4)],[]⟩)]) (.cons con129 (.cons con112 .nil)) func181 fun l ob r hc hob => by
 unfold k131 at hc
 split at hc
 ·rename_i x e y f z g t h
  cases hc
  have h_0:=ob0 hob
  have h_1:=ob1 hob
  have h_2:=ob2 hob
  have h_3:=ob3 hob
  refine ⟨by kernel_rfl,fnVC_go (rs:=[.cell 4 29]) rfl rfl ?_⟩
  simp only [go_sem,c129,c112]
  simp only [forall_eq]
  exact ⟨h_1,h_0,h_2,rg_inR (by have:=whV_rg h_1; unfold rg at *; omega),h_3,h_1,h_2,h_0,h_3,rfl⟩
 ·cases hc
def k62:Con
 | [.agg [.v (.int .i64 x),.v (.bool e),.v (.int .i64 y),.v (.bool f),.v (.int .i64 c),.v (.bool o),.v (.int .i64 s),.v (.bool p)],.agg [.v (.int .i64 z),.v (.bool g),.v (.int .i64 t),.v (.bool h)]] => some ([inR x,inR y,inR c,inR s,inR z,inR t],veA (vAdd ((x,e),(y,f)) (vApply ((c,o),(s,p)) ((z,g),(t,h)))))
 | _ => none
theorem kon62:ConOK prog 124 k62:=ConOK.of (G:=[(43,k130),(181,k131)]) (H:=[(1,⟨[(8,.slot 4)],[]⟩)]) (.cons kon130 (.cons kon131 .nil)) func124 fun l ob r hc hob => by
 unfold k62 at hc
 split at hc
 ·rename_i x e y f c o s p z g t h
  cases hc
  have h_0:=ob0 hob
  have h_1:=ob1 hob
  have h_2:=ob2 hob
  have h_3:=ob3 hob
  have h_4:=ob4 hob
  have h_5:=ob5 hob
  refine ⟨by kernel_rfl,fnVC_go (rs:=[.cell 4 29]) rfl rfl ?_⟩
  simp only [go_sem,k130,k131]
  exact ⟨h_2,h_3,h_4,h_5,⟨h_0,h_1⟩,rfl⟩
 ·cases hc
def k68:Con
 | [.agg [.v (.int .i64 x),.v (.bool e),.v (.int .i64 y),.v (.bool f),.v (.int .i64 c),.v (.bool o),.v (.int .i64 s),.v (.bool p)],.agg [.v (.int .i64 z),.v (.bool g),.v (.int .i64 t),.v (.bool h)]] => some ([inR x,inR y,inR c,inR s,inR z,inR t],veA (vAdd ((x,e),(y,f)) (vApply ((c,o),(s,p)) ((z,g),(t,h)))))
 | _ => none
theorem kon68:ConOK prog 158 k68:=ConOK.of (G:=[(222,k138),(242,k139)]) (H:=[(1,⟨[(8,.slot 4)],[]⟩)]) (.cons kon138 (.cons kon139 .nil)) func158 fun l ob r hc hob => by
 unfold k68 at hc
 split at hc
 ·rename_i x e y f c o s p z g t h
  cases hc
  have h_0:=ob0 hob
  have h_1:=ob1 hob
  have h_2:=ob2 hob
  have h_3:=ob3 hob
  have h_4:=ob4 hob
  have h_5:=ob5 hob
  refine ⟨by kernel_rfl,fnVC_go (rs:=[.cell 4 29]) rfl rfl ?_⟩
  simp only [go_sem,k138,k139]
  exact ⟨h_2,h_3,h_4,h_5,⟨h_0,h_1⟩,rfl⟩
 ·cases hc
def alk (r r':AV):Prop:=∀ w ρ v,R w ρ r' v → R w ρ r v
theorem ConOK.goR {P:Program} {G:Ctx} {H:Hots} (hG:CtxOK P G) {f:FuncId} {fn:Func} (hf:P.funcs[f]? = some fn) {c:Con}
  (h:∀ es1 ob r,c es1 = some (ob,r) → (∀ p ∈ ob,p) → ∃ es,(∀ w I vs,Rs w (.ext I) es1 vs → Rs w (.ext I) es vs) ∧ funcOK P H fn es.length = true ∧ fnVC P G H fn es (alk r)):ConOK P f c:=by
 intro es0 ob r hc hob I w vs hI hRs
 obtain ⟨es,h0,h1,h2⟩:=h es0 ob r hc hob
 obtain ⟨k1,k2⟩:=fn_sound hG hf h1 h2 I w vs hI (h0 w I vs hRs)
 exact .inr ⟨k1,k2.mono fun e w' ⟨v,he,⟨r',hr,hR⟩,hb⟩ => ⟨v,he,hr _ _ _ hR,hb⟩⟩
theorem alk_refl {r:AV}:alk r r:=fun _ _ _ h => h
theorem alk_ro {n:Nat} {f g:Nat → List AV} (h:∀ i,i < n → g i = f i):alk (.ro n 2 f) (.ro n 2 g):=fun w ρ v hR => ro_alike h hR
theorem alk_nil {f:Nat → List AV}:alk (.ro 0 2 f) (.v (.slice none 0 0)):=fun w ρ v hR => by
 cases hR
 exact .ro 0 0 (Nat.le_refl _) (fun h => absurd h (by omega)) (fun h => absurd h (by omega)) (fun i h => absurd h (by omega)) (fun i k h => absurd h (by omega)) (fun i k c x h => absurd h (by omega))
def corN (k r w t:Int) (n:Nat) (X Y:Nat → Int):Nat:=if chkS k r w t n X Y = 0 then (if k = 2 then 4 else n) else 0
def corX (k w t:Int) (X:Nat → Int) (i:Nat):Int:=if k = 2 then (match i with | 0 => -w | 1 => w | 2 => w | _ => -w) else X i
def corY (k w t:Int) (Y:Nat → Int) (i:Nat):Int:=if k = 2 then (match i with | 0 => -t | 1 => -t | 2 => t | _ => t) else Y i
abbrev corA (k r w t:Int) (n:Nat) (X Y:Nat → Int):AV:=.ro (corN k r w t n X Y) 2 fun i => [i64 (corX k w t X i),i64 (corY k w t Y i)]
theorem chk_cases {k r w t:Int} {n:Nat} {X Y:Nat → Int} (h:chkS k r w t n X Y = 0):(k = 1 ∧ n = 0 ∧ 16 ≤ r ∧ r ≤ 4096) ∨ (k = 2 ∧ n = 0 ∧ 16 ≤ w ∧ w ≤ 4096 ∧ 16 ≤ t ∧ t ≤ 4096) ∨ (k = 3 ∧ 3 ≤ n ∧ n ≤ 8 ∧ r = 0 ∧ ∀ i,i < n → lo (X i) ∧ lo (Y i)):=by
 unfold chkS at h
 split at h
 ·rename_i h1
  split at h
  ·omega
  ·split at h
   ·exact .inl ⟨h1,by omega⟩
   ·omega
 ·split at h
  ·rename_i h1 h2
   split at h
   ·omega
   ·split at h
    ·exact .inr (.inl ⟨h2,by omega⟩)
    ·omega
  ·split at h
   ·rename_i h1 h2 h3
    split at h
    ·omega
    ·split at h
     ·rename_i h5 h6
      exact .inr (.inr ⟨h3,by omega,by omega,by omega,h6⟩)
     ·omega
   ·omega
theorem vc119 (k r w t:Int) (n:Nat) (X Y:Nat → Int) (hX:∀ i,i < n → inR (X i) ∧ inR (Y i)) (hn:n ≤ 9223372036854775806):fnVC prog [(62,c62)] [] Tryz.f119 [shapeA k r w t n fun i => [i64 (X i),i64 (Y i)]] (alk (corA k r w t n X Y)):=by
 refine fnVC_go (rs:=[.tmp 2]) rfl rfl ?_
 have hg:spots n fun i => [i64 (X i),i64 (Y i)]:=fun i hi => ⟨rfl,hX i hi⟩
 have eX:gx (fun i => [i64 (X i),i64 (Y i)]) 0 = X:=rfl
 have eY:gx (fun i => [i64 (X i),i64 (Y i)]) 1 = Y:=rfl
 simp only [go_sem,c62,eX,eY]
 have hb:bytesT prog 116 = 16:=by kernel_rfl
 rw [hb]
 simp only [forall_eq]
 refine ⟨hg,hn,fun h => ?_,fun h => ⟨fun h2 => ?_,fun h2 => ?_⟩⟩
 ·have:corN k r w t n X Y = 0:=if_neg (by simpa using h)
  unfold corA
  rw [this]
  exact alk_nil
 ·have hk:k = 2:=by simpa using h2
  have hc:chkS k r w t n X Y = 0:=by simpa using h
  have:corN k r w t n X Y = 4:=by unfold corN; rw [if_pos hc,if_pos hk]
  have hb:=chk_cases hc
  rw [wrap_in (x:=0 - w) (inRo (by omega)),wrap_in (x:=0 - t) (inRo (by omega)),Int.zero_sub,Int.zero_sub]
  unfold corA
  rw [this]
  refine alk_ro fun i hi => ?_
  unfold corX corY
  rw [if_pos hk,if_pos hk]
  match i with
  | 0 => rfl
  | 1 => rfl
  | 2 => rfl
  | 3 => rfl
  | j + 4 => omega
 ·have hk:¬ k = 2:=by simpa using h2
  have hc:chkS k r w t n X Y = 0:=by simpa using h
  have:corN k r w t n X Y = n:=by unfold corN; rw [if_pos hc,if_neg hk]
  have hb:=chk_cases hc
  unfold corA
  rw [this]
  refine ⟨fun i hi => by simp only [go_sem],by omega,by omega,?_⟩
  refine alk_ro fun i hi => ?_
  unfold corX corY
  rw [if_neg hk,if_neg hk]
theorem vc152 (k r w t:Int) (n:Nat) (X Y:Nat → Int) (hX:∀ i,i < n → inR (X i) ∧ inR (Y i)) (hn:n ≤ 9223372036854775806):fnVC prog [(79,c62)] [] Tryz.f152 [shapeA k r w t n fun i => [i64 (X i),i64 (Y i)]] (alk (corA k r w t n X Y)):=by
 refine fnVC_go (rs:=[.tmp 2]) rfl rfl ?_
 have hg:spots n fun i => [i64 (X i),i64 (Y i)]:=fun i hi => ⟨rfl,hX i hi⟩
 have eX:gx (fun i => [i64 (X i),i64 (Y i)]) 0 = X:=rfl
 have eY:gx (fun i => [i64 (X i),i64 (Y i)]) 1 = Y:=rfl
 simp only [go_sem,c62,eX,eY]
 have hb:bytesT prog 116 = 16:=by kernel_rfl
 rw [hb]
 simp only [forall_eq]
 refine ⟨hg,hn,fun h => ?_,fun h => ⟨fun h2 => ?_,fun h2 => ?_⟩⟩
 ·have:corN k r w t n X Y = 0:=if_neg (by simpa using h)
  unfold corA
  rw [this]
  exact alk_nil
 ·have hk:k = 2:=by simpa using h2
  have hc:chkS k r w t n X Y = 0:=by simpa using h
  have:corN k r w t n X Y = 4:=by unfold corN; rw [if_pos hc,if_pos hk]
  have hb:=chk_cases hc
  rw [wrap_in (x:=0 - w) (inRo (by omega)),wrap_in (x:=0 - t) (inRo (by omega)),Int.zero_sub,Int.zero_sub]
  unfold corA
  rw [this]
  refine alk_ro fun i hi => ?_
  unfold corX corY
  rw [if_pos hk,if_pos hk]
  match i with
  | 0 => rfl
  | 1 => rfl
  | 2 => rfl
  | 3 => rfl
  | j + 4 => omega
 ·have hk:¬ k = 2:=by simpa using h2
  have hc:chkS k r w t n X Y = 0:=by simpa using h
  have:corN k r w t n X Y = n:=by unfold corN; rw [if_pos hc,if_neg hk]
  have hb:=chk_cases hc
  unfold corA
  rw [this]
  refine ⟨fun i hi => by simp only [go_sem],by omega,by omega,?_⟩
  rw [Nat.zero_add]
  refine alk_ro fun i hi => ?_
  unfold corX corY
  rw [if_neg hk,if_neg hk,if_neg (Nat.not_lt_zero i),Nat.sub_zero]
  simp only [go_sem]
def c119:Con
 | [.agg [.v (.int .i64 k),.v (.int .i64 r),.v (.int .i64 w),.v (.int .i64 t),.ro n 2 g]] => some ([spots n g,n ≤ 9223372036854775806],corA k r w t n (gx g 0) (gx g 1))
 | _ => none
theorem con119:ConOK prog 119 c119:=ConOK.goR (G:=[(62,c62)]) (H:=[]) (.cons con62 .nil) func119 fun l ob rr hc hob => by
 unfold c119 at hc
 split at hc
 ·rename_i k r w t n g
  cases hc
  have hs:spots n g:=hob _ (by simp)
  exact ⟨[shapeA k r w t n fun i => [i64 (gx g 0 i),i64 (gx g 1 i)]],fun w I vs h => Rs_one (Rs_shape hs) h,by kernel_rfl,vc119 k r w t n _ _ (fun i hi => (hs i hi).2) (hob _ (by simp))⟩
 ·cases hc
theorem con152:ConOK prog 152 c119:=ConOK.goR (G:=[(79,c62)]) (H:=[]) (.cons con79 .nil) func152 fun l ob rr hc hob => by
 unfold c119 at hc
 split at hc
 ·rename_i k r w t n g
  cases hc
  have hs:spots n g:=hob _ (by simp)
  exact ⟨[shapeA k r w t n fun i => [i64 (gx g 0 i),i64 (gx g 1 i)]],fun w I vs h => Rs_one (Rs_shape hs) h,by kernel_rfl,vc152 k r w t n _ _ (fun i hi => (hs i hi).2) (hob _ (by simp))⟩
 ·cases hc
theorem alk_form {a b c d e p q:AV} (h:alk p q):alk (.tup [.agg [a,b,c,d,p],e]) (.tup [.agg [a,b,c,d,q],e]):=fun w ρ v hR => by
 cases hR with
 | tup hl hh =>
  refine .tup hl fun i x z h1 h2 => ?_
  match i with
  | 0 =>
   simp at h1; subst h1
   have:=hh 0 _ z rfl h2
   cases this with
   | agg hl' hh' =>
    refine .agg hl' fun j x y h3 h4 => ?_
    match j with
    | 0 => exact hh' 0 x y h3 h4
    | 1 => exact hh' 1 x y h3 h4
    | 2 => exact hh' 2 x y h3 h4
    | 3 => exact hh' 3 x y h3 h4
    | 4 =>
     simp at h3; subst h3
     exact h _ _ _ (hh' 4 _ y rfl h4)
    | m + 5 => simp at h3
  | 1 => exact hh 1 x z h1 h2
  | m + 2 => simp at h1
def rotS (x:Int) (e:Bool) (y:Int) (f:Bool):Int:=if (whF x e = true ∨ whF y f = true) ∨ (65536 < (nDot (x,e) (x,e) (y,f) (y,f)).1 - 4294967296 ∨ 65536 < 4294967296 - (nDot (x,e) (x,e) (y,f) (y,f)).1) then 3 else 0
def farB (a:Nb):Bool:=whF a.1 a.2 || decide (17592186044416 < ab (whV a.1))
def plErr (k r w t:Int) (n:Nat) (X Y:Nat → Int) (at' rot:V2):Int:=
 if chkS k r w t n X Y ≠ 0 then chkS k r w t n X Y else if rotS rot.1.1 rot.1.2 rot.2.1 rot.2.2 ≠ 0 then rotS rot.1.1 rot.1.2 rot.2.1 rot.2.2 else if farB at'.1 = true ∨ farB at'.2 = true then 3 else 0
def plPt (at' rot:V2) (x y:Int):V2:=vAdd at' (vApply rot (vLoc x y))
def plX (k w t:Int) (X Y:Nat → Int) (at' rot:V2) (i:Nat):Int:=spV (plPt at' rot (corX k w t X i) (corY k w t Y i)).1
def plY (k w t:Int) (X Y:Nat → Int) (at' rot:V2) (i:Nat):Int:=spV (plPt at' rot (corX k w t X i) (corY k w t Y i)).2
def plN (k r w t:Int) (n:Nat) (X Y:Nat → Int) (at' rot:V2):Nat:=if plErr k r w t n X Y at' rot = 0 then (if k = 1 then 0 else corN k r w t n X Y) else 0
def plK (k r w t:Int) (n:Nat) (X Y:Nat → Int) (at' rot:V2):Int:=if plErr k r w t n X Y at' rot = 0 then (if k = 1 then 1 else 2) else 0
def plC (k r w t:Int) (n:Nat) (X Y:Nat → Int) (at' rot:V2) (a:Nb):Int:=if plErr k r w t n X Y at' rot = 0 then spV a else 0
def plR (k r w t:Int) (n:Nat) (X Y:Nat → Int) (at' rot:V2):Int:=if plErr k r w t n X Y at' rot = 0 then r else 0
abbrev plA (k r w t:Int) (n:Nat) (X Y:Nat → Int) (at' rot:V2):AV:=
 .tup [formA (plK k r w t n X Y at' rot) (plC k r w t n X Y at' rot at'.1) (plC k r w t n X Y at' rot at'.2) (plR k r w t n X Y at' rot) (plN k r w t n X Y at' rot) fun i => [i64 (plX k w t X Y at' rot i),i64 (plY k w t X Y at' rot i)],i64 (plErr k r w t n X Y at' rot)]
abbrev poseA (at' rot:V2):AV:=.agg [i64 at'.1.1,bo at'.1.2,i64 at'.2.1,bo at'.2.2,i64 rot.1.1,bo rot.1.2,i64 rot.2.1,bo rot.2.2]
theorem vc65 (k r w t:Int) (n:Nat) (X Y:Nat → Int) (hX:∀ i,i < n → inR (X i) ∧ inR (Y i)) (hn:n ≤ 9223372036854775806) (at' rot:V2) (h0:inR at'.1.1) (h1:inR at'.2.1) (h2:inR rot.1.1) (h3:inR rot.2.1) :
  fnVC prog [(62,c62),(67,c67),(122,c122),(123,c123),(119,c119),(124,k62),(125,c125)] [(9,⟨[(7,.made 6)],[]⟩),(15,⟨[(10,.slot 8)],[]⟩)] Tryz.f65 [shapeA k r w t n fun i => [i64 (X i),i64 (Y i)],poseA at' rot] (alk (plA k r w t n X Y at' rot)):=by
 refine fnVC_go (rs:=[.cell 4 122,.tmp 5]) rfl rfl ?_
 have hg:spots n fun i => [i64 (X i),i64 (Y i)]:=fun i hi => ⟨rfl,hX i hi⟩
 have eX:gx (fun i => [i64 (X i),i64 (Y i)]) 0 = X:=rfl
 have eY:gx (fun i => [i64 (X i),i64 (Y i)]) 1 = Y:=rfl
 simp only [go_sem,c62,c67,c122,c123,c119,eX,eY]
 simp only [forall_eq]
 have pos:∀ e:Int,plErr k r w t n X Y at' rot = e → e ≠ 0 → alk (plA k r w t n X Y at' rot) (.tup [.agg [i64 0,i64 0,i64 0,i64 0,.v (.slice none 0 0)],i64 e]):=fun e he hne => by
  subst he
  unfold plA formA
  have q:plN k r w t n X Y at' rot = 0:=if_neg hne
  rw [q,show plK k r w t n X Y at' rot = 0 from if_neg hne,show plC k r w t n X Y at' rot at'.1 = 0 from if_neg hne,show plC k r w t n X Y at' rot at'.2 = 0 from if_neg hne,show plR k r w t n X Y at' rot = 0 from if_neg hne]
  exact alk_form alk_nil
 refine ⟨hg,hn,fun h => ?_,fun h => ⟨h2,h3,fun h4 => ?_,fun h4 => ⟨h0,fun _ => h1,fun h5 => ?_,fun h5 => ⟨h0,h1,fun h6 => ⟨hg,hn,?_⟩,fun h6 => ?_⟩⟩⟩⟩
 ·have hne:chkS k r w t n X Y ≠ 0:=by simpa using h
  exact pos _ (by unfold plErr; rw [if_pos hne]) hne
 ·have hne:rotS rot.1.1 rot.1.2 rot.2.1 rot.2.2 ≠ 0:=bne_iff_ne.1 h4
  refine pos _ ?_ hne
  unfold plErr; rw [if_neg (by simpa using h),if_pos hne]; rfl
 ·refine pos _ ?_ (by omega)
  unfold plErr
  rw [if_neg (by simpa using h),if_neg (show ¬ rotS rot.1.1 rot.1.2 rot.2.1 rot.2.2 ≠ 0 from not_not_intro (bne_eq_false_iff_eq.1 h4)),if_pos]
  unfold farB
  rcases h5 with h5 | h5
  ·exact .inl (by rw [Bool.not_eq_false'] at h5; exact h5)
  ·exact .inr (by rw [Bool.not_eq_false'] at h5; exact h5)
 ·have he:plErr k r w t n X Y at' rot = 0:=by
   unfold plErr
   rw [if_neg (by simpa using h),if_neg (show ¬ rotS rot.1.1 rot.1.2 rot.2.1 rot.2.2 ≠ 0 from not_not_intro (bne_eq_false_iff_eq.1 h4)),if_neg]
   unfold farB
   rw [Bool.not_eq_true',Bool.not_eq_true'] at h5
   rintro (h7 | h7)
   ·rw [h5.1] at h7; cases h7
   ·rw [h5.2] at h7; cases h7
  have hk:¬ k = 1:=by simpa using h6
  have hc:chkS k r w t n X Y = 0:=by simpa using h
  have hcs:=chk_cases hc
  have hN:corN k r w t n X Y ≤ 8:=by unfold corN; rw [if_pos hc]; split <;> omega
  have hb:bytesT prog 116 = 16:=by kernel_rfl
  have hx:∀ i,i < corN k r w t n X Y → inR (corX k w t X i) ∧ inR (corY k w t Y i):=fun i hi => by
   unfold corN at hi; rw [if_pos hc] at hi
   unfold corX corY
   split
   ·constructor <;> (split <;> (unfold inR; omega))
   ·rename_i h7
    rw [if_neg h7] at hi
    exact hX i hi
  generalize hM:corN k r w t n X Y = M at *
  refine loopN_go (fun (i:Nat) => i ≤ M) (fun i => M - i) (fun i => [(50,i64 i)]) (fun i => [(33,fam1 122 5 [i64 2,i64 (spV at'.1),i64 (spV at'.2),i64 r,.own 44 0 i 2] none),(44,famN i 2 116 (fun j => [i64 (plX k w t X Y at' rot j),i64 (plY k w t X Y at' rot j)]) none)]) [2,1,0] [51,52,53,10,54,55,56,57,58,59,60,61,62,63,64,50] 1 0 (by kernel_rfl) (Nat.zero_le _) ⟨[(44,none)],?_,?_,?_,?_⟩ ?_
  ·simp only [go_sem]
  ·simp only [go_sem]
  ·simp only [go_sem]
  ·simp [goodNames,asg]
  intro i hi
  simp only [go_sem,c123,c125,k62]
  have hb:bytesT prog 116 = 16:=by kernel_rfl
  rw [hb]
  simp only [forall_eq]
  refine ⟨fun hin => ?_,fun hin => ?_⟩
  ·have hi':i < M:=by omega
   have hxi:=hx i hi'
   refine ⟨by omega,hin,hxi.1,hxi.2,h0,h1,h2,h3,rg_inR nRat_rg,rg_inR nRat_rg,by omega,by omega,i + 1,by omega,by omega,[(44,some 58)],?_⟩
   simp only [go_sem]
   refine ⟨by rw [wrap_in (inRo (by omega))]; rfl,fun j hj => ?_,by simp [goodNames,asg]⟩
   by_cases e:j < i
   ·rw [if_pos e]; simp only [go_sem]
   ·have e:j = i:=by omega
    subst e
    rw [if_neg (by omega),Nat.sub_self]
    simp only [Nat.zero_mul,go_sem]
    exact ⟨rfl,rfl⟩
  ·have e:i = M:=by omega
   subst e
   unfold plA formA
   rw [show plN k r w t n X Y at' rot = i by unfold plN; rw [if_pos he,if_neg hk,hM],show plK k r w t n X Y at' rot = 2 by unfold plK; rw [if_pos he,if_neg hk],show plC k r w t n X Y at' rot at'.1 = _ from if_pos he,show plC k r w t n X Y at' rot at'.2 = _ from if_pos he,show plR k r w t n X Y at' rot = r from if_pos he,he]
   exact alk_refl
 ·have he:plErr k r w t n X Y at' rot = 0:=by
   unfold plErr
   rw [if_neg (by simpa using h),if_neg (show ¬ rotS rot.1.1 rot.1.2 rot.2.1 rot.2.2 ≠ 0 from not_not_intro (bne_eq_false_iff_eq.1 h4)),if_neg]
   unfold farB
   rw [Bool.not_eq_true',Bool.not_eq_true'] at h5
   rintro (h7 | h7)
   ·rw [h5.1] at h7; cases h7
   ·rw [h5.2] at h7; cases h7
  have hk:k = 1:=by simpa using h6
  unfold plA formA
  rw [show plN k r w t n X Y at' rot = 0 by unfold plN; rw [if_pos he,if_pos hk],show plK k r w t n X Y at' rot = 1 by unfold plK; rw [if_pos he,if_pos hk],show plC k r w t n X Y at' rot at'.1 = _ from if_pos he,show plC k r w t n X Y at' rot at'.2 = _ from if_pos he,show plR k r w t n X Y at' rot = r from if_pos he,he]
  exact alk_form alk_nil
def c65:Con
 | [.agg [.v (.int .i64 k),.v (.int .i64 r),.v (.int .i64 w),.v (.int .i64 t),.ro n 2 g],.agg [.v (.int .i64 x),.v (.bool e),.v (.int .i64 y),.v (.bool f),.v (.int .i64 c),.v (.bool o),.v (.int .i64 s),.v (.bool p)]] => some ([spots n g,n ≤ 9223372036854775806,inR x,inR y,inR c,inR s],plA k r w t n (gx g 0) (gx g 1) ((x,e),(y,f)) ((c,o),(s,p)))
 | _ => none
theorem con65:ConOK prog 65 c65:=ConOK.goR (G:=[(62,c62),(67,c67),(122,c122),(123,c123),(119,c119),(124,k62),(125,c125)]) (H:=[(9,⟨[(7,.made 6)],[]⟩),(15,⟨[(10,.slot 8)],[]⟩)]) (.cons con62 (.cons con67 (.cons con122 (.cons con123 (.cons con119 (.cons kon62 (.cons con125 .nil))))))) func65 fun l ob rr hc hob => by
 unfold c65 at hc
 split at hc
 ·rename_i k r w t n g x e y f c o s p
  cases hc
  have hs:spots n g:=hob _ (by simp)
  refine ⟨[shapeA k r w t n fun i => [i64 (gx g 0 i),i64 (gx g 1 i)],poseA ((x,e),(y,f)) ((c,o),(s,p))],fun w I vs h => ?_,by kernel_rfl,vc65 k r w t n _ _ (fun i hi => (hs i hi).2) (hob _ (by simp)) ((x,e),(y,f)) ((c,o),(s,p)) (hob _ (by simp)) (hob _ (by simp)) (hob _ (by simp)) (hob _ (by simp))⟩
  obtain ⟨x,xs,rfl,h1,h2⟩:=h.inv
  exact .cons (Rs_shape hs _ h1) h2
 ·cases hc
theorem chk_r {k r w t:Int} {n:Nat} {X Y:Nat → Int} (h:chkS k r w t n X Y = 0) (hk:¬ k = 1):r = 0:=by
 unfold chkS at h
 rw [if_neg hk] at h
 split at h
 ·split at h <;> omega
 ·split at h
  ·split at h <;> omega
  ·omega
theorem vc81 (k r w t:Int) (n:Nat) (X Y:Nat → Int) (hX:∀ i,i < n → inR (X i) ∧ inR (Y i)) (hn:n ≤ 9223372036854775806) (at' rot:V2) (h0:inR at'.1.1) (h1:inR at'.2.1) (h2:inR rot.1.1) (h3:inR rot.2.1) :
  fnVC prog [(152,c119),(79,c62),(155,c155),(156,c156),(157,c157),(158,k68),(159,c159)] [(9,⟨[(6,.slot 4)],[]⟩),(15,⟨[(13,.slot 7)],[]⟩)] Tryz.f81 [shapeA k r w t n fun i => [i64 (X i),i64 (Y i)],poseA at' rot] (alk (plA k r w t n X Y at' rot)):=by
 refine fnVC_go (rs:=[.cell 4 122,.tmp 5]) rfl rfl ?_
 have hg:spots n fun i => [i64 (X i),i64 (Y i)]:=fun i hi => ⟨rfl,hX i hi⟩
 have eX:gx (fun i => [i64 (X i),i64 (Y i)]) 0 = X:=rfl
 have eY:gx (fun i => [i64 (X i),i64 (Y i)]) 1 = Y:=rfl
 simp only [go_sem,c62,c155,c156,c157,c119,eX,eY]
 simp only [forall_eq]
 have pos:∀ e:Int,plErr k r w t n X Y at' rot = e → e ≠ 0 → alk (plA k r w t n X Y at' rot) (.tup [.agg [i64 0,i64 0,i64 0,i64 0,.v (.slice none 0 0)],i64 e]):=fun e he hne => by
  subst he
  unfold plA formA
  have q:plN k r w t n X Y at' rot = 0:=if_neg hne
  rw [q,show plK k r w t n X Y at' rot = 0 from if_neg hne,show plC k r w t n X Y at' rot at'.1 = 0 from if_neg hne,show plC k r w t n X Y at' rot at'.2 = 0 from if_neg hne,show plR k r w t n X Y at' rot = 0 from if_neg hne]
  exact alk_form alk_nil
 refine ⟨hg,hn,fun h => ⟨h2,h3,fun h4 => ?_,fun h4 => ⟨h0,fun _ => h1,fun h5 => ?_,fun h5 => ?_⟩⟩,fun h => ⟨fun h4 => ?_,fun h4 => ?_⟩⟩
 ·have hne:rotS rot.1.1 rot.1.2 rot.2.1 rot.2.2 ≠ 0:=bne_iff_ne.1 h4
  refine pos _ ?_ hne
  unfold plErr; rw [if_neg (by simpa using h),if_pos hne]; rfl
 ·refine pos _ ?_ (by omega)
  unfold plErr
  rw [if_neg (by simpa using h),if_neg (show ¬ rotS rot.1.1 rot.1.2 rot.2.1 rot.2.2 ≠ 0 from not_not_intro (bne_eq_false_iff_eq.1 h4)),if_pos]
  unfold farB
  exact h5
 ·have he:plErr k r w t n X Y at' rot = 0:=by
   unfold plErr
   rw [if_neg (by simpa using h),if_neg (show ¬ rotS rot.1.1 rot.1.2 rot.2.1 rot.2.2 ≠ 0 from not_not_intro (bne_eq_false_iff_eq.1 h4)),if_neg]
   unfold farB
   rintro (h7 | h7)
   ·rw [h5.1] at h7; cases h7
   ·rw [h5.2] at h7; cases h7
  have hc:chkS k r w t n X Y = 0:=by simpa using h
  have hcs:=chk_cases hc
  refine ⟨fun h6 => ⟨h0,h1,?_⟩,fun h6 => ⟨h0,h1,hg,hn,?_⟩⟩
  ·have hk:k = 1:=by simpa using h6
   unfold plA formA
   rw [show plN k r w t n X Y at' rot = 0 by unfold plN; rw [if_pos he,if_pos hk],show plK k r w t n X Y at' rot = 1 by unfold plK; rw [if_pos he,if_pos hk],show plC k r w t n X Y at' rot at'.1 = _ from if_pos he,show plC k r w t n X Y at' rot at'.2 = _ from if_pos he,show plR k r w t n X Y at' rot = r from if_pos he,he]
   exact alk_form alk_nil
  ·have hk:¬ k = 1:=by simpa using h6
   have hN:corN k r w t n X Y ≤ 8:=by unfold corN; rw [if_pos hc]; split <;> omega
   have hx:∀ i,i < corN k r w t n X Y → inR (corX k w t X i) ∧ inR (corY k w t Y i):=fun i hi => by
    unfold corN at hi; rw [if_pos hc] at hi
    unfold corX corY
    split
    ·constructor <;> (split <;> (unfold inR; omega))
    ·rename_i h7
     rw [if_neg h7] at hi
     exact hX i hi
   generalize hM:corN k r w t n X Y = M at *
   refine loopN_go (fun (i:Nat) => i ≤ M) (fun i => M - i) (fun i => [(9,i64 i)]) (fun i => [(32,fam1 122 5 [i64 2,i64 (spV at'.1),i64 (spV at'.2),i64 0,.own 38 0 i 2] none),(38,famN i 2 116 (fun j => [i64 (plX k w t X Y at' rot j),i64 (plY k w t X Y at' rot j)]) none)]) [2,1,0] [47,48,49,50,53,54,55,56,57,58,59,60,61,62,63,64,65,51,52,9] 1 0 (by kernel_rfl) (Nat.zero_le _) ⟨[(38,none)],?_,?_,?_,?_⟩ ?_
   ·simp only [go_sem]
   ·simp only [go_sem]
   ·simp only [go_sem]
   ·simp [goodNames,asg]
   intro i hi
   simp only [go_sem,c157,c159,k68]
   have hb:bytesT prog 116 = 16:=by kernel_rfl
   rw [hb]
   simp only [forall_eq]
   refine ⟨fun hin => ?_,fun hin => ?_⟩
   ·have hi':i < M:=by omega
    have hxi:=hx i hi'
    refine ⟨by omega,hin,hxi.1,hxi.2,h0,h1,h2,h3,rg_inR nRat_rg,rg_inR nRat_rg,by omega,by omega,i + 1,by omega,by omega,[(38,some 54)],?_⟩
    simp only [go_sem]
    refine ⟨by rw [wrap_in (inRo (by omega))]; rfl,fun j hj => ?_,by simp [goodNames,asg]⟩
    by_cases e:j < i
    ·rw [if_pos e]; simp only [go_sem]
    ·have e:j = i:=by omega
     subst e
     rw [if_neg (by omega),Nat.sub_self]
     simp only [Nat.zero_mul,go_sem]
     exact ⟨rfl,rfl⟩
   ·have e:i = M:=by omega
    subst e
    unfold plA formA
    rw [show plN k r w t n X Y at' rot = i by unfold plN; rw [if_pos he,if_neg hk,hM],show plK k r w t n X Y at' rot = 2 by unfold plK; rw [if_pos he,if_neg hk],show plC k r w t n X Y at' rot at'.1 = _ from if_pos he,show plC k r w t n X Y at' rot at'.2 = _ from if_pos he,show plR k r w t n X Y at' rot = 0 by unfold plR; rw [if_pos he,chk_r hc hk],he]
    exact alk_refl
 ·have hne:chkS k r w t n X Y ≠ 0:=by simpa using h
  exact pos _ (by unfold plErr; rw [if_pos hne]) hne
 ·simp at h h4; omega
theorem con81:ConOK prog 81 c65:=ConOK.goR (G:=[(152,c119),(79,c62),(155,c155),(156,c156),(157,c157),(158,k68),(159,c159)]) (H:=[(9,⟨[(6,.slot 4)],[]⟩),(15,⟨[(13,.slot 7)],[]⟩)]) (.cons con152 (.cons con79 (.cons con155 (.cons con156 (.cons con157 (.cons kon68 (.cons con159 .nil))))))) func81 fun l ob rr hc hob => by
 unfold c65 at hc
 split at hc
 ·rename_i k r w t n g x e y f c o s p
  cases hc
  have hs:spots n g:=hob _ (by simp)
  refine ⟨[shapeA k r w t n fun i => [i64 (gx g 0 i),i64 (gx g 1 i)],poseA ((x,e),(y,f)) ((c,o),(s,p))],fun w I vs h => ?_,by kernel_rfl,vc81 k r w t n _ _ (fun i hi => (hs i hi).2) (hob _ (by simp)) ((x,e),(y,f)) ((c,o),(s,p)) (hob _ (by simp)) (hob _ (by simp)) (hob _ (by simp)) (hob _ (by simp))⟩
  obtain ⟨x,xs,rfl,h1,h2⟩:=h.inv
  exact .cons (Rs_shape hs _ h1) h2
 ·cases hc
theorem aEq27 {a0 b0:Int} {a1 b1:Bool}:aEq prog 27 (.agg [i64 a0,bo a1]) (.agg [i64 b0,bo b1]) = some ((a0 == b0) && ((a1 == b1) && true)):=by kernel_rfl
theorem eq27 {xo yo:Operand} {neg:Bool} {a0 b0:Int} {a1 b1:Bool}:eqE prog neg 27 xo yo (.agg [i64 a0,bo a1]) (.agg [i64 b0,bo b1]) = some ⟨[],.v (.bool (negV neg ((a0 == b0) && ((a1 == b1) && true)))),.none⟩:=eqE_agg aEq27
attribute [go_sem] eq27
theorem aEq29 {a0 b0:Int} {a1 b1:Bool} {a2 b2:Int} {a3 b3:Bool}:aEq prog 29 (.agg [i64 a0,bo a1,i64 a2,bo a3]) (.agg [i64 b0,bo b1,i64 b2,bo b3]) = some (((a0 == b0) && ((a1 == b1) && true)) && (((a2 == b2) && ((a3 == b3) && true)) && true)):=by kernel_rfl
theorem eq29 {xo yo:Operand} {neg:Bool} {a0 b0:Int} {a1 b1:Bool} {a2 b2:Int} {a3 b3:Bool}:eqE prog neg 29 xo yo (.agg [i64 a0,bo a1,i64 a2,bo a3]) (.agg [i64 b0,bo b1,i64 b2,bo b3]) = some ⟨[],.v (.bool (negV neg (((a0 == b0) && ((a1 == b1) && true)) && (((a2 == b2) && ((a3 == b3) && true)) && true)))),.none⟩:=eqE_agg aEq29
attribute [go_sem] eq29
theorem aEq310 {a0 b0:Bool} {a1 b1:Int} {a2 b2:Bool} {a3 b3:Int} {a4 b4:Bool} {a5 b5:Int} {a6 b6:Bool}:aEq prog 310 (.agg [bo a0,i64 a1,bo a2,i64 a3,bo a4,i64 a5,bo a6]) (.agg [bo b0,i64 b1,bo b2,i64 b3,bo b4,i64 b5,bo b6]) = some ((a0 == b0) && (((a1 == b1) && ((a2 == b2) && true)) && ((((a3 == b3) && ((a4 == b4) && true)) && (((a5 == b5) && ((a6 == b6) && true)) && true)) && true))):=by kernel_rfl
theorem eq310 {xo yo:Operand} {neg:Bool} {a0 b0:Bool} {a1 b1:Int} {a2 b2:Bool} {a3 b3:Int} {a4 b4:Bool} {a5 b5:Int} {a6 b6:Bool}:eqE prog neg 310 xo yo (.agg [bo a0,i64 a1,bo a2,i64 a3,bo a4,i64 a5,bo a6]) (.agg [bo b0,i64 b1,bo b2,i64 b3,bo b4,i64 b5,bo b6]) = some ⟨[],.v (.bool (negV neg ((a0 == b0) && (((a1 == b1) && ((a2 == b2) && true)) && ((((a3 == b3) && ((a4 == b4) && true)) && (((a5 == b5) && ((a6 == b6) && true)) && true)) && true))))),.none⟩:=eqE_agg aEq310
attribute [go_sem] eq310
theorem spV_inR {a:Nb}:inR (spV a):=by
 have:rg (whV (nMul a (nInt 256)).1):=whV_rg (rg_inR nMul_rg)
 unfold spV
 unfold rg at this
 unfold inR
 omega
theorem pl_spots {N:Nat} {k w t:Int} {X Y:Nat → Int} {at' rot:V2}:(spots N fun i => [i64 (plX k w t X Y at' rot i),i64 (plY k w t X Y at' rot i)]) = True:=eq_true fun i _ => ⟨rfl,spV_inR,spV_inR⟩
theorem plN_le {k r w t:Int} {n:Nat} {X Y:Nat → Int} {at' rot:V2}:plN k r w t n X Y at' rot ≤ 8:=by
 unfold plN
 split
 ·split
  ·omega
  ·unfold corN
   split
   ·rename_i h
    have:=chk_cases h
    split <;> omega
   ·omega
 ·omega
theorem plN_max {k r w t:Int} {n:Nat} {X Y:Nat → Int} {at' rot:V2}:(plN k r w t n X Y at' rot ≤ 9223372036854775806) = True:=eq_true (Nat.le_trans plN_le (by omega))
end Go.Ax
end
section
namespace Go.Ax
def cleanC:AV → Bool
 | .v _ => true
 | .any => true
 | .ro _ _ _ => true
 | .rop _ => true
 | _ => false
theorem cleanC_ren {θ:Nat → Nat → Nat × Nat} {g:Nat → Nat → Prop} {B:Nat → Prop} {a:AV} (h:cleanC a = true) (d:Nat):renA θ d a = a ∧ kg g B d a:=by
 cases a <;> simp [cleanC] at h <;> (cases d <;> exact ⟨rfl,trivial⟩)
theorem cleanL_ren {θ:Nat → Nat → Nat × Nat} {g:Nat → Nat → Prop} {B:Nat → Prop}:∀ {l:List AV},(∀ c ∈ l,cleanC c = true) → l.map (renA θ 3) = l ∧ ∀ c ∈ l,kg g B 3 c
 | [],_ => ⟨rfl,by simp⟩
 | a :: l,h => by
  obtain ⟨h1,h2⟩:=cleanC_ren (θ:=θ) (g:=g) (B:=B) (h a (by simp)) 3
  obtain ⟨h3,h4⟩:=cleanL_ren (θ:=θ) (g:=g) (B:=B) (l:=l) (fun c hc => h c (by simp [hc]))
  refine ⟨by rw [List.map_cons,h1,h3],fun c hc => ?_⟩
  rcases List.mem_cons.1 hc with e | hc
  ·rw [e]; exact h2
  ·exact h4 c hc
theorem map_id_of {f:AV → AV}:∀ {l:List AV},(∀ a ∈ l,f a = a) → l.map f = l
 | [],_ => rfl
 | a :: l,h => by rw [List.map_cons,h a (by simp),map_id_of fun b hb => h b (by simp [hb])]
theorem clean_ren {θ:Nat → Nat → Nat × Nat} {g:Nat → Nat → Prop} {B:Nat → Prop}:∀ (d:Nat) (a:AV),clean d a = true → renA θ d a = a ∧ kg g B d a
 | d,.v _,_ => by cases d <;> exact ⟨rfl,trivial⟩
 | d,.any,_ => by cases d <;> exact ⟨rfl,trivial⟩
 | d,.ro _ _ _,_ => by cases d <;> exact ⟨rfl,trivial⟩
 | d,.rop _,_ => by cases d <;> exact ⟨rfl,trivial⟩
 | d + 1,.agg cs,h => by
  simp only [clean,List.all_eq_true] at h
  refine ⟨?_,fun c hc => (clean_ren (θ:=θ) d c (h c hc)).2⟩
  simp only [renA]
  rw [map_id_of fun a ha => (clean_ren (g:=g) (B:=B) d a (h a ha)).1]
 | d + 1,.tup cs,h => by
  simp only [clean,List.all_eq_true] at h
  refine ⟨?_,fun c hc => (clean_ren (θ:=θ) d c (h c hc)).2⟩
  simp only [renA]
  rw [map_id_of fun a ha => (clean_ren (g:=g) (B:=B) d a (h a ha)).1]
 | d + 1,.fn f cs,h => by
  simp only [clean,List.all_eq_true] at h
  refine ⟨?_,fun c hc => (clean_ren (θ:=θ) d c (h c hc)).2⟩
  simp only [renA]
  rw [map_id_of fun a ha => (clean_ren (g:=g) (B:=B) d a (h a ha)).1]
 | d + 1,.iface t x,h => by
  simp only [clean] at h
  obtain ⟨h1,h2⟩:=clean_ren (θ:=θ) (g:=g) (B:=B) d x h
  exact ⟨by simp only [renA]; rw [h1],h2⟩
 | d + 1,.cond b x,h => by
  simp only [clean] at h
  obtain ⟨h1,h2⟩:=clean_ren (θ:=θ) (g:=g) (B:=B) d x h
  exact ⟨by simp only [renA]; rw [h1],h2⟩
 | 0,.agg _,h => by simp [clean] at h
 | 0,.tup _,h => by simp [clean] at h
 | 0,.fn _ _,h => by simp [clean] at h
 | 0,.iface _ _,h => by simp [clean] at h
 | 0,.cond _ _,h => by simp [clean] at h
 | 0,.bx _ _,h => by simp [clean] at h
 | 0,.ptr _ _ _ _ _,h => by simp [clean] at h
 | 0,.own _ _ _ _,h => by simp [clean] at h
 | 0,.vw _ _ _ _ _,h => by simp [clean] at h
 | d + 1,.bx _ _,h => by simp [clean] at h
 | d + 1,.ptr _ _ _ _ _,h => by simp [clean] at h
 | d + 1,.own _ _ _ _,h => by simp [clean] at h
 | d + 1,.vw _ _ _ _ _,h => by simp [clean] at h
theorem cleans_ren {θ:Nat → Nat → Nat × Nat} {g:Nat → Nat → Prop} {B:Nat → Prop} {l:List AV} (h:∀ a ∈ l,clean 3 a = true):l.map (renA θ 3) = l ∧ ∀ a ∈ l,kg g B 3 a:=
 ⟨map_id_of fun a ha => (clean_ren (g:=g) (B:=B) 3 a (h a ha)).1,fun a ha => (clean_ren (θ:=θ) 3 a (h a ha)).2⟩
section
variable {P:Program} {G:Ctx} {H:Hots} {t:Slots} {m:Mem} {nx:Nat} {Q:AV → Mem → Prop} {rs:List ResultVar} {l:List AV} {a:AV}
def tupOf:List AV → AV
 | [a] => a
 | l => .tup l
theorem tupOf_nil:tupOf [] = .tup []:=(rfl)
theorem tupOf_one:tupOf [a] = a:=(rfl)
theorem tupOf_two {b:AV}:tupOf (a :: b :: l) = .tup (a :: b :: l):=(rfl)
def retML (P:Program) (t:Slots) (m:Mem) (Q:AV → Mem → Prop):List ResultVar → List AV → Prop
 | [],l => Q (tupOf l) m
 | r :: rs,l => match resE P t m r with
  | some e => conj e.ob (retML P t m Q rs (l ++ [e.val]))
  | none => False
def retMS (P:Program) (t:Slots) (m:Mem) (Q:AV → Mem → Prop) (rs:List ResultVar) (l:List AV) (x:Option Eff):Prop:=match x with
 | some e => conj e.ob (retML P t m Q rs (l ++ [e.val]))
 | none => False
theorem retML_nil:retML P t m Q [] l = Q (tupOf l) m:=(rfl)
theorem retML_cons {r:ResultVar}:retML P t m Q (r :: rs) l = retMS P t m Q rs l (resE P t m r):=(rfl)
theorem retMS_some {ob:List Prop} {u:Upd}:retMS P t m Q rs l (some ⟨ob,a,u⟩) = conj ob (retML P t m Q rs (l ++ [a])):=(rfl)
def endMR (P:Program) (rs:List ResultVar) (Q:AV → Mem → Prop) (e:AEx) (s:St):Prop:=match e with
 | .exit _ => False
 | _ => retML P s.t s.m Q rs []
theorem endMR_ret:endMR P rs Q .ret ⟨t,m,nx⟩ = retML P t m Q rs []:=(rfl)
theorem endMR_normal:endMR P rs Q .normal ⟨t,m,nx⟩ = retML P t m Q rs []:=(rfl)
theorem retML_sound {s:St}:∀ {rs:List ResultVar} {l:List AV},retML P s.t s.m Q rs l → ∃ ob es,resList P s rs = some (ob,es) ∧ (∀ p ∈ ob,p) ∧ Q (tupOf (l ++ es)) s.m
 | [],l,h => ⟨[],[],rfl,by simp,by simpa [retML] using h⟩
 | r :: rs,l,h => by
  simp only [retML] at h
  split at h
  ·rename_i e he
   obtain ⟨ob,es,h1,h2,h3⟩:=retML_sound (rs:=rs) (conj_iff.1 h).2
   refine ⟨e.ob ++ ob,e.val :: es,?_,fun p hp => ?_,by simpa using h3⟩
   ·simp only [resList,resOf_E he,h1]
   ·rcases List.mem_append.1 hp with hp | hp
    ·exact (conj_iff.1 h).1 p hp
    ·exact h2 p hp
  ·exact h.elim
theorem endMR_sound {s:St} {fn:Func} (hr:fn.results.toList = rs) {e:AEx} (h:endMR P rs Q e s):endM P fn Q e s:=by
 have key:retML P s.t s.m Q rs [] → match resAll P s fn.results.toList with
   | some (ob,a) => conj ob (Q a s.m)
   | none => False:=fun h => by
  obtain ⟨ob,es,h1,h2,h3⟩:=retML_sound h
  rw [hr]
  simp only [resAll,h1]
  rw [List.nil_append] at h3
  cases es with
  | nil => exact conj_iff.2 ⟨h2,h3⟩
  | cons a es => cases es with
   | nil => exact conj_iff.2 ⟨h2,h3⟩
   | cons b es => exact conj_iff.2 ⟨h2,h3⟩
 cases e with
 | exit j => exact h.elim
 | normal => exact key h
 | ret => exact key h
def bodyM (P:Program) (G:Ctx) (H:Hots) (fn:Func) (es:List AV) (m:Mem) (nx:Nat) (Q:AV → Mem → Prop):Prop:=∃ cd,fn.body = some cd ∧ awp P G H cd ⟨argSlots 0 es,m,nx⟩ (endM P fn Q)
theorem bodyM_go {fn:Func} {c:Code} {es:List AV} (hb:fn.body = some c) (hr:fn.results.toList = rs) (h:goC P G H (endMR P rs Q) c [] ⟨argSlots 0 es,m,nx⟩):bodyM P G H fn es m nx Q:=
 ⟨c,hb,awp_mono (fun e s h => endMR_sound hr h) h⟩
theorem bodyM.mono {fn:Func} {es:List AV} {Q':AV → Mem → Prop} (h:bodyM P G H fn es m nx Q) (hq:∀ a m,Q a m → Q' a m):bodyM P G H fn es m nx Q':=by
 obtain ⟨cd,h1,h2⟩:=h
 refine ⟨cd,h1,awp_mono (fun e s h => ?_) h2⟩
 cases e with
 | exit j => exact h
 | normal =>
  simp only [endM] at h ⊢
  split at h
  ·rename_i ob x hx; exact conj_mono (hq _ _) h
  ·exact h
 | ret =>
  simp only [endM] at h ⊢
  split at h
  ·rename_i ob x hx; exact conj_mono (hq _ _) h
  ·exact h
end
def alike (x y:Row):Prop:=y.n = x.n ∧ y.sz = x.sz ∧ y.ty = x.ty ∧ y.g = x.g ∧ ∀ i,i < x.n → y.get i = x.get i
theorem alike.refl (x:Row):alike x x:=⟨rfl,rfl,rfl,rfl,fun _ _ => rfl⟩
def cleanCs:List AV → Bool
 | [] => true
 | a :: l => cleanC a && cleanCs l
theorem cleanCs_mem:∀ {l:List AV},cleanCs l = true → ∀ c ∈ l,cleanC c = true
 | [],_,c,h => by cases h
 | a :: l,h,c,hc => by
  simp only [cleanCs,Bool.and_eq_true] at h
  rcases List.mem_cons.1 hc with e | hc
  ·rw [e]; exact h.1
  ·exact cleanCs_mem h.2 c hc
def selfC (r:Nat):AV → Bool
 | .ptr q _ _ _ _ => decide (q = r)
 | a => cleanC a
def bk:AV → AV
 | .ptr _ f i sz k => .ptr 0 f i sz k
 | a => a
def famBk (fam:Fam):Fam:=fun f => { fam f with get:=fun j => ((fam f).get j).map bk }
def famOK (r:Nat) (fam:Fam):Prop:=∀ f,(fam f).g = none ∧ ∀ j,j < (fam f).n → ∀ c ∈ (fam f).get j,selfC r c = true
theorem bk_clean {c:AV} (h:cleanC c = true):bk c = c:=by cases c <;> first | rfl | simp [cleanC] at h
theorem bks_clean:∀ {l:List AV},(∀ c ∈ l,cleanC c = true) → l.map bk = l
 | [],_ => rfl
 | a :: l,h => by rw [List.map_cons,bk_clean (h a (by simp)),bks_clean fun c hc => h c (by simp [hc])]
theorem selfC_ren {r:Nat} {θ:Nat → Nat → Nat × Nat} {g:Nat → Nat → Prop} {B:Nat → Prop} (hθ:∀ f,θ 0 f = (r,f)) (hg:∀ f,g 0 f) {c:AV} (h:selfC r c = true):renA θ 3 (bk c) = c ∧ kg g B 3 (bk c):=by
 cases c with
 | ptr q f i sz k =>
  simp only [selfC,decide_eq_true_eq] at h
  subst h
  refine ⟨?_,hg f⟩
  show AV.ptr (θ 0 f).1 (θ 0 f).2 i sz k = _
  rw [hθ]
 | v x => exact ⟨rfl,trivial⟩
 | any => exact ⟨rfl,trivial⟩
 | ro n sz get => exact ⟨rfl,trivial⟩
 | rop cs => exact ⟨rfl,trivial⟩
 | _ => simp [selfC,cleanC] at h
theorem rowRen_self {r:Nat} {θ:Nat → Nat → Nat × Nat} {g:Nat → Nat → Prop} {B:Nat → Prop} (hθ:∀ f,θ 0 f = (r,f)) (hg:∀ f,g 0 f) {x:Row} (h:∀ j,j < x.n → ∀ c ∈ x.get j,selfC r c = true):rowRen θ g B { x with get:=fun j => (x.get j).map bk } x:=by
 refine ⟨rfl,rfl,rfl,rfl,fun j hj => ?_⟩
 have h1:=h j hj
 refine ⟨?_,fun c hc => ?_⟩
 ·dsimp only
  rw [List.map_map]
  exact (map_id_of fun a ha => (selfC_ren (g:=g) (B:=B) hθ hg (h1 a ha)).1).symm
 ·dsimp only at hc
  obtain ⟨c0,hc0,rfl⟩:=List.mem_map.1 hc
  exact (selfC_ren (θ:=θ) hθ hg (h1 c0 hc0)).2
theorem famBk_E {fam:Fam} {f i:Nat} {cs:List AV} (h:∀ c ∈ cs,cleanC c = true):famBk (famE fam f i cs) = famE (famBk fam) f i cs:=by
 funext f'
 unfold famBk famE
 by_cases e:f' = f
 ·subst e
  simp only [if_true]
  congr 1
  funext j
  by_cases e:j = i
  ·simp only [e,if_true]; exact bks_clean h
  ·simp [e]
 ·simp [e]
theorem famOK_E {r:Nat} {fam:Fam} {f i:Nat} {cs:List AV} (h:famOK r fam) (hc:∀ c ∈ cs,cleanC c = true):famOK r (famE fam f i cs):=fun f' => by
 refine ⟨by rw [famE_g]; exact (h f').1,fun j hj c hcm => ?_⟩
 rw [famE_n] at hj
 by_cases e:f' = f
 ·subst e
  simp only [famE,if_true] at hcm
  split at hcm
  ·have:=hc c hcm
   cases c <;> first | exact this | simp [cleanC] at this
  ·exact (h f').2 j hj c hcm
 ·rw [famE_off e] at hcm
  exact (h f').2 j hj c hcm
theorem famOK_bk {r:Nat} {fam:Fam} (h:famOK r fam):famOK 0 (famBk fam):=fun f => by
 refine ⟨(h f).1,fun j hj c hc => ?_⟩
 obtain ⟨c0,h0,rfl⟩:=List.mem_map.1 hc
 have:=(h f).2 j hj c0 h0
 cases c0 <;> first | rfl | exact this | simp [selfC,cleanC] at this
theorem rowRen_clean' {θ:Nat → Nat → Nat × Nat} {g:Nat → Nat → Prop} {B:Nat → Prop} {x0 x:Row} (h:alike x0 x) (hc:∀ j,j < x0.n → ∀ c ∈ x0.get j,cleanC c = true):rowRen θ g B x0 x:=by
 obtain ⟨h1,h2,h3,h4,h5⟩:=h
 refine ⟨h1,h2,h3,h4,fun j hj => ?_⟩
 obtain ⟨k1,k2⟩:=cleanL_ren (θ:=θ) (g:=g) (B:=B) (hc j hj)
 exact ⟨by rw [k1]; exact h5 j hj,k2⟩
theorem look_one {k:Nat} {x:Fam}:look [(k,x)] k = some x:=by simp [look]
theorem thE_0 {r:Nat}:∀ f,thE [r] 0 f = (r,f):=fun f => rfl
theorem thL_0 {r key:Nat} {l:List Nat} {th:Nat → Nat → Nat}:∀ f,thL (r :: l) key th 0 f = (r,f):=fun f => by simp [thL]
theorem lowG_0:∀ f,lowG 1 0 f:=fun _ => Nat.zero_lt_one
theorem newG_0 {N:Nat} {σ:Nat → Option (Nat × Nat)} {th:Nat → Nat → Nat} (h:0 < N):∀ f,newG N σ th 0 f:=fun _ => .inl h
section
variable {P:Program} {G:Ctx} {H:Hots} {f:FuncId} {fn:Func}
theorem one_okG {r key:Nat} {fam fam' x0 y0:Fam} {m:Mem} {es es0:List AV} {val val0:AV} {ob:List Prop} (hl:look m r = some fam) (h1:∀ f,(fam f).g = none ∧ rowRen (thE [r]) (lowG 1) (lowB 1) (x0 f) (fam f))
  (h2:∀ th σ f,rowRen (thL [r] key th) (newG 1 σ th) (newB 1 σ) (y0 f) (fam' f) ∧ (y0 f).g ≠ some false) (ha:es = es0.map (renA (thE [r]) 3)) (hak:∀ a ∈ es0,kg (lowG 1) (lowB 1) 3 a)
  (hfn:funcOK P H fn es0.length = true) (hv:∀ th:Nat → Nat → Nat,∀ σ:Nat → Option (Nat × Nat),val = renA (thL [r] key th) 3 val0 ∧ kg (newG 1 σ th) (newB 1 σ) 3 val0)
  (hb:bodyM P G H fn es0 [(0,x0)] 1 fun a m1 => a = val0 ∧ look m1 0 = some y0) :
  ∃ ks m0 as0,Entry ks m m0 es as0 ∧ funcOK P H fn as0.length = true ∧ bodyM P G H fn as0 m0 ks.length fun a m1 => ∃ σ th ys nw,(⟨ob,val,.many [(r,fam')] none⟩:Eff).u = .many (ks.zip ys) nw ∧ Leave key ks σ th m1 a ys nw val:=by
 refine ⟨[r],[(0,x0)],es0,⟨by simp,ha,hak,fun j hj => ?_,fun q x hq => ?_⟩,hfn,hb.mono fun a m1 ⟨q1,q2⟩ => ?_⟩
 ·have:j = 0:=by simp at hj; omega
  subst this
  exact ⟨_,fam,look_one,hl,h1⟩
 ·by_cases e:q = 0
  ·subst e; simp
  ·simp [look,Ne.symm e] at hq
 ·obtain ⟨v1,v2⟩:=hv (fun _ _ => 0) (fun _ => none)
  refine ⟨fun _ => none,fun _ _ => 0,[fam'],none,rfl,⟨fun f r g h => by simp at h,by rw [q1]; exact v1,by rw [q1]; exact v2,rfl,fun j hj => ?_,fun _ => rfl⟩⟩
  have:j = 0:=by simp at hj; omega
  subst this
  exact ⟨_,_,q2,rfl,h2 _ _⟩
theorem one_ok {r key:Nat} {fam fam':Fam} {m:Mem} {es es0:List AV} {val val0:AV} {ob:List Prop} (hl:look m r = some fam) (h1:famOK r fam) (h2:famOK r fam') (ha:es = es0.map (renA (thE [r]) 3)) (hak:∀ a ∈ es0,kg (lowG 1) (lowB 1) 3 a)
  (hfn:funcOK P H fn es0.length = true) (hv:∀ th:Nat → Nat → Nat,∀ σ:Nat → Option (Nat × Nat),val = renA (thL [r] key th) 3 val0 ∧ kg (newG 1 σ th) (newB 1 σ) 3 val0)
  (hb:bodyM P G H fn es0 [(0,famBk fam)] 1 fun a m1 => a = val0 ∧ look m1 0 = some (famBk fam')) :
  ∃ ks m0 as0,Entry ks m m0 es as0 ∧ funcOK P H fn as0.length = true ∧ bodyM P G H fn as0 m0 ks.length fun a m1 => ∃ σ th ys nw,(⟨ob,val,.many [(r,fam')] none⟩:Eff).u = .many (ks.zip ys) nw ∧ Leave key ks σ th m1 a ys nw val:=
 one_okG hl (fun f => ⟨(h1 f).1,rowRen_self thE_0 lowG_0 (h1 f).2⟩) (fun th σ f => ⟨rowRen_self thL_0 (newG_0 (by simp)) (h2 f).2,by show (fam' f).g ≠ _; rw [(h2 f).1]; simp⟩) ha hak hfn hv hb
def mcP (sz:Nat) (F:List AV → List AV → Option (List Prop × AV × List AV)):MCon:=fun key m es => match es with
 | .ptr r f i sz' 0 :: rest => match look m r with
  | some fam => match F ((fam f).get i) rest with
   | some (ob,val,cs) => some ⟨(i < (fam f).n) :: (sz' = sz) :: (sz = (fam f).sz) :: (cleanCs ((fam f).get i) = true) :: famOK r fam :: ob,val,.many [(r,famE fam f i cs)] none⟩
   | none => none
  | none => none
 | _ => none
def wb1 (fam:Fam) (cs:List AV):Fam:=fun f => if f = 0 then { fam 0 with get:=fun _ => cs } else fam f
def mc1 (sz:Nat) (F:List AV → List AV → Option (List Prop × AV × List AV)):MCon:=fun key m es => match es with
 | .bx r 0 :: rest => match look m r with
  | some fam => match F ((fam 0).get 0) rest with
   | some (ob,val,cs) => some ⟨((fam 0).n = 1) :: (sz = (fam 0).sz) :: (cleanCs ((fam 0).get 0) = true) :: famOK r fam :: ob,val,.many [(r,wb1 fam cs)] none⟩
   | none => none
  | none => none
 | es => mcP sz F key m es
def OneOK (P:Program) (G:Ctx) (H:Hots) (fn:Func) (sz:Nat) (F:List AV → List AV → Option (List Prop × AV × List AV)):Prop:=
 ∀ cells rest ob val cs,F cells rest = some (ob,val,cs) → (∀ p ∈ ob,p) → (∀ a ∈ rest,clean 3 a = true) ∧ clean 3 val = true ∧ (∀ c ∈ cs,cleanC c = true) ∧ funcOK P H fn (rest.length + 1) = true ∧
  ∀ (fam:Fam) (f i:Nat),i < (fam f).n → sz = (fam f).sz → (∀ f,(fam f).g = none) → famOK 0 fam → bodyM P G H fn (.ptr 0 f i sz 0 :: rest) [(0,famE fam f i cells)] 1 fun a m1 => a = val ∧ look m1 0 = some (famE fam f i cs)
theorem MConOK.mcP (hG:CtxOK P G) (hf:P.funcs[f]? = some fn) {sz:Nat} {F:List AV → List AV → Option (List Prop × AV × List AV)} (h:OneOK P G H fn sz F):MConOK P f (mcP sz F):=by
 refine MConOK.of (H:=H) hG hf fun key m es e hc hob => ?_
 unfold Ax.mcP at hc
 split at hc
 ·rename_i r f' i sz' rest
  split at hc
  ·rename_i fam hl
   split at hc
   ·rename_i ob val cs hF
    cases hc
    have hi:i < (fam f').n:=hob _ (by simp)
    have hsz':sz' = sz:=hob _ (by simp)
    have hsz:sz = (fam f').sz:=hob _ (by simp)
    have hcl:cleanCs ((fam f').get i) = true:=hob _ (by simp)
    have hok:famOK r fam:=hob _ (by simp)
    subst hsz'
    obtain ⟨h1,h2,h3,h4,h5⟩:=h _ _ _ _ _ hF fun p hp => hob p (by simp [hp])
    obtain ⟨a1,a2⟩:=cleans_ren (θ:=thE [r]) (g:=lowG 1) (B:=lowB 1) h1
    refine one_ok hl hok (famOK_E hok h3) (es0:=.ptr 0 f' i sz' 0 :: rest) (val0:=val) ?_ ?_ h4 (fun th σ => ?_) ?_
    ·rw [List.map_cons,a1]; rfl
    ·intro a ha
     rcases List.mem_cons.1 ha with e | ha
     ·rw [e]; exact Nat.zero_lt_one
     ·exact a2 a ha
    ·obtain ⟨b1,b2⟩:=clean_ren (θ:=thL [r] key th) (g:=newG 1 σ th) (B:=newB 1 σ) 3 val h2
     exact ⟨b1.symm,b2⟩
    ·have e1:famBk fam = famE (famBk fam) f' i ((fam f').get i):=by
      have:=famBk_E (fam:=fam) (f:=f') (i:=i) (cleanCs_mem hcl)
      rw [famE_self] at this
      exact this
     rw [e1,famBk_E h3]
     exact h5 (famBk fam) f' i hi hsz (fun f => (hok f).1) (famOK_bk hok)
   ·cases hc
  ·cases hc
 ·cases hc
theorem MConOK.mc1 (hG:CtxOK P G) (hf:P.funcs[f]? = some fn) {sz:Nat} {F:List AV → List AV → Option (List Prop × AV × List AV)} (h:OneOK P G H fn sz F):MConOK P f (mc1 sz F):=by
 intro w0 ρ m m' D w key es vs e hR hk hm hRs hc hob hmany
 unfold Ax.mc1 at hc
 split at hc
 ·rename_i r rest
  split at hc
  ·rename_i fam hl
   split at hc
   ·rename_i ob val cs hF
    cases hc
    have hn:(fam 0).n = 1:=hob _ (by simp)
    have hsz:sz = (fam 0).sz:=hob _ (by simp)
    have hcl:cleanCs ((fam 0).get 0) = true:=hob _ (by simp)
    have hok:famOK r fam:=hob _ (by simp)
    have hRs':Rs w ρ (.ptr r 0 0 sz 0 :: rest) vs:=by
     obtain ⟨x,xs,rfl,h1,h2⟩:=hRs.inv
     refine .cons ?_ h2
     cases h1 with
     | bx hd =>
      have:R w ρ (.ptr r 0 0 sz 0) (.pointer (some ⟨ρ.blk r 0,0 * sz + 0,none⟩)):=.ptr hd
      rw [Nat.zero_mul] at this
      exact this
    have:=MConOK.mcP hG hf h w0 ρ m m' D w key _ vs ⟨(0 < (fam 0).n) :: (sz = sz) :: (sz = (fam 0).sz) :: (cleanCs ((fam 0).get 0) = true) :: famOK r fam :: ob,val,.many [(r,famE fam 0 0 cs)] none⟩ hR hk hm hRs'
     (by simp only [Ax.mcP,hl,hF]) (fun p hp => by
      simp only [List.mem_cons] at hp
      rcases hp with rfl | rfl | rfl | rfl | rfl | hp
      ·omega
      ·trivial
      ·exact hsz
      ·exact hcl
      ·exact hok
      ·exact hob p (by simp [hp])) ⟨_,_,rfl⟩
    refine this.mono fun v w' ⟨ρ',p1,p2,p3,p4⟩ => ⟨ρ',p1,?_,p3,p4⟩
    have p2:Rel w0 ρ' (setRow r (famE fam 0 0 cs) m) (fun r => D r ∨ r = key) w':=p2
    refine Rel.alike p2 fun f => ?_
    by_cases e:f = 0
    ·subst e
     refine ⟨rfl,rfl,rfl,rfl,fun i hi => ?_⟩
     rw [famE_n,hn] at hi
     have:i = 0:=by omega
     subst this
     rw [famE_get]; rfl
    ·unfold wb1
     rw [if_neg e,famE_off e]
     exact ⟨rfl,rfl,rfl,rfl,fun _ _ => rfl⟩
   ·cases hc
  ·cases hc
 ·exact MConOK.mcP hG hf h w0 ρ m m' D w key es vs e hR hk hm hRs hc hob hmany
def mcPP (sz:Nat) (F:List AV → List AV → List AV → Option (List Prop × AV × List AV × List AV)):MCon:=fun key m es => match es with
 | .ptr r f i sz1 0 :: .ptr r' f' i' sz2 0 :: rest => match look m r with
  | some fam => match F ((fam f).get i) ((fam f').get i') rest with
   | some (ob,val,cs,cs') => some ⟨(r' = r) :: (f ≠ f') :: (i < (fam f).n) :: (i' < (fam f').n) :: (sz1 = sz) :: (sz2 = sz) :: (sz = (fam f).sz) :: (sz = (fam f').sz) :: (cleanCs ((fam f).get i) = true) :: (cleanCs ((fam f').get i') = true) :: famOK r fam :: ob,val,.many [(r,famE (famE fam f i cs) f' i' cs')] none⟩
   | none => none
  | none => none
 | _ => none
def TwoOK (P:Program) (G:Ctx) (H:Hots) (fn:Func) (sz:Nat) (F:List AV → List AV → List AV → Option (List Prop × AV × List AV × List AV)):Prop:=
 ∀ c1 c2 rest ob val cs cs',F c1 c2 rest = some (ob,val,cs,cs') → (∀ p ∈ ob,p) → (∀ a ∈ rest,clean 3 a = true) ∧ clean 3 val = true ∧ (∀ c ∈ cs,cleanC c = true) ∧ (∀ c ∈ cs',cleanC c = true) ∧ funcOK P H fn (rest.length + 2) = true ∧
  ∀ (fam:Fam) (f i f' i':Nat),f ≠ f' → i < (fam f).n → i' < (fam f').n → sz = (fam f).sz → sz = (fam f').sz → (∀ f,(fam f).g = none) → famOK 0 fam →
   bodyM P G H fn (.ptr 0 f i sz 0 :: .ptr 0 f' i' sz 0 :: rest) [(0,famE (famE fam f i c1) f' i' c2)] 1 fun a m1 => a = val ∧ look m1 0 = some (famE (famE fam f i cs) f' i' cs')
theorem MConOK.mcPP (hG:CtxOK P G) (hf:P.funcs[f]? = some fn) {sz:Nat} {F:List AV → List AV → List AV → Option (List Prop × AV × List AV × List AV)} (h:TwoOK P G H fn sz F):MConOK P f (mcPP sz F):=by
 refine MConOK.of (H:=H) hG hf fun key m es e hc hob => ?_
 unfold Ax.mcPP at hc
 split at hc
 ·rename_i r f1 i1 s1 r' f2 i2 s2 rest
  split at hc
  ·rename_i fam hl
   split at hc
   ·rename_i ob val cs cs' hF
    cases hc
    have hr:r' = r:=hob _ (by simp)
    have hne:f1 ≠ f2:=hob _ (by simp)
    have hi:i1 < (fam f1).n:=hob _ (by simp)
    have hi':i2 < (fam f2).n:=hob _ (by simp)
    have hs1:s1 = sz:=hob _ (by simp)
    have hs2:s2 = sz:=hob _ (by simp)
    have hz1:sz = (fam f1).sz:=hob _ (by simp)
    have hz2:sz = (fam f2).sz:=hob _ (by simp)
    have hc1:cleanCs ((fam f1).get i1) = true:=hob _ (by simp)
    have hc2:cleanCs ((fam f2).get i2) = true:=hob _ (by simp)
    have hok:famOK r fam:=hob _ (by simp)
    subst hr hs1 hs2
    obtain ⟨h1,h2,h3,h3',h4,h5⟩:=h _ _ _ _ _ _ _ hF fun p hp => hob p (by simp [hp])
    obtain ⟨a1,a2⟩:=cleans_ren (θ:=thE [r']) (g:=lowG 1) (B:=lowB 1) h1
    refine one_ok hl hok (famOK_E (famOK_E hok h3) h3') (es0:=.ptr 0 f1 i1 s2 0 :: .ptr 0 f2 i2 s2 0 :: rest) (val0:=val) ?_ ?_ h4 (fun th σ => ?_) ?_
    ·rw [List.map_cons,List.map_cons,a1]; rfl
    ·intro a ha
     rcases List.mem_cons.1 ha with e | ha
     ·rw [e]; exact Nat.zero_lt_one
     ·rcases List.mem_cons.1 ha with e | ha
      ·rw [e]; exact Nat.zero_lt_one
      ·exact a2 a ha
    ·obtain ⟨b1,b2⟩:=clean_ren (θ:=thL [r'] key th) (g:=newG 1 σ th) (B:=newB 1 σ) 3 val h2
     exact ⟨b1.symm,b2⟩
    ·have e1:famBk fam = famE (famE (famBk fam) f1 i1 ((fam f1).get i1)) f2 i2 ((fam f2).get i2):=by
      have k1:=famBk_E (fam:=fam) (f:=f1) (i:=i1) (cleanCs_mem hc1)
      rw [famE_self] at k1
      have k2:=famBk_E (fam:=fam) (f:=f2) (i:=i2) (cleanCs_mem hc2)
      rw [famE_self] at k2
      rw [← k1,← k2]
     rw [e1,famBk_E h3',famBk_E h3]
     exact h5 (famBk fam) f1 i1 f2 i2 hne hi hi' hz1 hz2 (fun f => (hok f).1) (famOK_bk hok)
   ·cases hc
  ·cases hc
 ·cases hc
def tabOK (K N sz:Nat) (tp ty:TypeId) (fam:Fam):Prop:=(∀ f,alike (famT K N sz tp ty (fun i => (fam (i + 1)).get 0) f) (fam f)) ∧ ∀ i,i < N → cleanCs ((fam (i + 1)).get 0) = true
theorem rowRen_T {θ:Nat → Nat → Nat × Nat} {g:Nat → Nat → Prop} {B:Nat → Prop} {K N sz:Nat} {tp ty:TypeId} {get:Nat → List AV} (hθ:∀ f,θ 0 f = (K,f)) (hg:∀ f,g 0 f) (hc:∀ i,i < N → cleanCs (get i) = true) (f:Nat) :
  rowRen θ g B (famT 0 N sz tp ty get f) (famT K N sz tp ty get f):=by
 cases f with
 | zero =>
  refine ⟨rfl,rfl,rfl,rfl,fun j hj => ⟨?_,fun c hc => ?_⟩⟩
  ·show [AV.ptr K (j + 1) 0 sz 0] = [AV.ptr (θ 0 (j + 1)).1 (θ 0 (j + 1)).2 0 sz 0]
   rw [hθ]
  ·simp only [famT,List.mem_singleton] at hc
   rw [hc]; exact hg _
 | succ f =>
  refine rowRen_clean' ⟨rfl,rfl,rfl,rfl,fun _ _ => rfl⟩ fun j hj c hcm => ?_
  simp only [famT] at hj hcm
  split at hj
  ·rename_i hf
   have:j = 0:=by omega
   subst this
   exact cleanCs_mem (hc f hf) c (by simpa using hcm)
  ·omega
theorem rowRen_alike {θ:Nat → Nat → Nat × Nat} {g:Nat → Nat → Prop} {B:Nat → Prop} {x0 x y:Row} (h:rowRen θ g B x0 x) (k:alike x y):rowRen θ g B x0 y:=by
 obtain ⟨h1,h2,h3,h4,h5⟩:=h
 obtain ⟨k1,k2,k3,k4,k5⟩:=k
 refine ⟨k1.trans h1,k2.trans h2,k3.trans h3,k4.trans h4,fun j hj => ?_⟩
 obtain ⟨a,b⟩:=h5 j hj
 exact ⟨(k5 j (by omega)).trans a,b⟩
theorem famT_g {K N sz:Nat} {tp ty:TypeId} {get:Nat → List AV} {f:Nat}:(famT K N sz tp ty get f).g = none:=by cases f <;> rfl
theorem tabOK_in {K N sz:Nat} {tp ty:TypeId} {fam:Fam} (h:tabOK K N sz tp ty fam) (f:Nat):(fam f).g = none ∧ rowRen (thE [K]) (lowG 1) (lowB 1) (famT 0 N sz tp ty (fun i => (fam (i + 1)).get 0) f) (fam f):=
 ⟨(h.1 f).2.2.2.1.trans famT_g,rowRen_alike (rowRen_T thE_0 lowG_0 h.2 f) (h.1 f)⟩
def mcT (sz:Nat) (tp ty:TypeId) (F:Nat → (Nat → List AV) → List AV → Option (List Prop × AV × (Nat → List AV))):MCon:=fun key m es => match es with
 | .own K 0 N 1 :: rest => match look m K with
  | some fam => match F N (fun i => (fam (i + 1)).get 0) rest with
   | some (ob,val,get') => some ⟨tabOK K N sz tp ty fam :: ob,val,.many [(K,famT K N sz tp ty get')] none⟩
   | none => none
  | none => none
 | _ => none
def TabOK (P:Program) (G:Ctx) (H:Hots) (fn:Func) (sz:Nat) (tp ty:TypeId) (F:Nat → (Nat → List AV) → List AV → Option (List Prop × AV × (Nat → List AV))):Prop:=
 ∀ N get rest ob val get',F N get rest = some (ob,val,get') → (∀ p ∈ ob,p) → (∀ i,i < N → cleanCs (get i) = true) → (∀ a ∈ rest,clean 3 a = true) ∧ clean 3 val = true ∧ (∀ i,i < N → cleanCs (get' i) = true) ∧ funcOK P H fn (rest.length + 1) = true ∧
  bodyM P G H fn (.own 0 0 N 1 :: rest) [(0,famT 0 N sz tp ty get)] 1 fun a m1 => a = val ∧ look m1 0 = some (famT 0 N sz tp ty get')
theorem MConOK.mcT (hG:CtxOK P G) (hf:P.funcs[f]? = some fn) {sz:Nat} {tp ty:TypeId} {F:Nat → (Nat → List AV) → List AV → Option (List Prop × AV × (Nat → List AV))} (h:TabOK P G H fn sz tp ty F):MConOK P f (mcT sz tp ty F):=by
 refine MConOK.of (H:=H) hG hf fun key m es e hc hob => ?_
 unfold Ax.mcT at hc
 split at hc
 ·rename_i K N rest
  split at hc
  ·rename_i fam hl
   split at hc
   ·rename_i ob val get' hF
    cases hc
    have hok:tabOK K N sz tp ty fam:=hob _ (by simp)
    obtain ⟨h1,h2,h3,h4,h5⟩:=h _ _ _ _ _ _ hF (fun p hp => hob p (by simp [hp])) hok.2
    obtain ⟨a1,a2⟩:=cleans_ren (θ:=thE [K]) (g:=lowG 1) (B:=lowB 1) h1
    refine one_okG hl (tabOK_in hok) (fun th σ f => ⟨rowRen_T thL_0 (newG_0 (by simp)) h3 f,by rw [famT_g]; simp⟩) (es0:=.own 0 0 N 1 :: rest) (val0:=val) ?_ ?_ h4 (fun th σ => ?_) h5
    ·rw [List.map_cons,a1]; rfl
    ·intro a ha
     rcases List.mem_cons.1 ha with e | ha
     ·rw [e]; exact Nat.zero_lt_one
     ·exact a2 a ha
    ·obtain ⟨b1,b2⟩:=clean_ren (θ:=thL [K] key th) (g:=newG 1 σ th) (B:=newB 1 σ) 3 val h2
     exact ⟨b1.symm,b2⟩
   ·cases hc
  ·cases hc
 ·cases hc
def mcTL (sz:Nat) (tp ty tl:TypeId):MCon:=fun key m es => match es with
 | [.own K 0 N 1] => match look m K with
  | some fam => some ⟨[tabOK K N sz tp ty fam,N ≤ 1000,∀ i,i < N → ((fam (i + 1)).get 0).length = sz ∧ allCells ((fam (i + 1)).get 0) = true],.own key 0 N sz,.many [(K,famT K N sz tp ty fun i => (fam (i + 1)).get 0)] (some (famN N sz tl (fun i => (fam (i + 1)).get 0) none))⟩
  | none => none
 | _ => none
def TelOK (P:Program) (G:Ctx) (H:Hots) (fn:Func) (sz:Nat) (tp ty tl:TypeId):Prop:=
 ∀ N get,N ≤ 1000 → (∀ i,i < N → cleanCs (get i) = true) → (∀ i,i < N → (get i).length = sz ∧ allCells (get i) = true) → funcOK P H fn 1 = true ∧
  bodyM P G H fn [.own 0 0 N 1] [(0,famT 0 N sz tp ty get)] 1 fun a m1 => look m1 0 = some (famT 0 N sz tp ty get) ∧ ∃ L get',1 ≤ L ∧ a = .own L 0 N sz ∧ look m1 L = some (famN N sz tl get' none) ∧ ∀ i,i < N → get' i = get i
def whole (K:Nat) (f:Nat):Option (Nat × Nat):=some (K,f)
def idTh (_ f:Nat):Nat:=f
theorem MConOK.mcTL (hG:CtxOK P G) (hf:P.funcs[f]? = some fn) {sz:Nat} {tp ty tl:TypeId} (h:TelOK P G H fn sz tp ty tl):MConOK P f (mcTL sz tp ty tl):=by
 refine MConOK.of (H:=H) hG hf fun key m es e hc hob => ?_
 unfold Ax.mcTL at hc
 split at hc
 ·rename_i K N
  split at hc
  ·rename_i fam hl
   cases hc
   have hok:tabOK K N sz tp ty fam:=hob _ (by simp)
   have hN:N ≤ 1000:=hob _ (by simp)
   have hlen:∀ i,i < N → ((fam (i + 1)).get 0).length = sz ∧ allCells ((fam (i + 1)).get 0) = true:=hob _ (by simp)
   obtain ⟨h1,h2⟩:=h N (fun i => (fam (i + 1)).get 0) hN hok.2 hlen
   refine ⟨[K],[(0,famT 0 N sz tp ty fun i => (fam (i + 1)).get 0)],[.own 0 0 N 1],⟨by simp,rfl,?_,?_,?_⟩,h1,h2.mono fun a m1 ⟨q1,L,get',q2,q3,q4,q5⟩ => ?_⟩
   ·intro a ha
    rw [List.mem_singleton] at ha
    rw [ha]; exact Nat.zero_lt_one
   ·intro j hj
    have:j = 0:=by simp at hj; omega
    subst this
    exact ⟨_,fam,look_one,hl,tabOK_in hok⟩
   ·intro q x hq
    by_cases e:q = 0
    ·subst e; simp
    ·simp [look,Ne.symm e] at hq
   ·refine ⟨whole L,idTh,[famT K N sz tp ty fun i => (fam (i + 1)).get 0],some _,rfl,⟨fun f r g h => ?_,?_,?_,rfl,fun j hj => ?_,fun f => ?_⟩⟩
    ·cases h; exact ⟨q2,rfl⟩
    ·rw [q3]
     show AV.own key 0 N sz = .own (thL [K] key idTh L 0).1 (thL [K] key idTh L 0).2 N sz
     unfold thL
     rw [if_neg (by simp; omega)]
     rfl
    ·rw [q3]; exact .inr rfl
    ·have:j = 0:=by simp at hj; omega
     subst this
     exact ⟨_,_,q1,rfl,fun f => ⟨rowRen_T thL_0 (newG_0 (by simp)) hok.2 f,by rw [famT_g]; simp⟩⟩
    ·refine ⟨_,q4,rowRen_clean' ?_ fun j hj c hc => ?_,?_⟩
     ·unfold famN
      by_cases e:f = 0
      ·subst e
       exact ⟨rfl,rfl,rfl,rfl,fun i hi => (q5 i hi).symm⟩
      ·simp only [e,if_false]
       exact .refl _
     ·unfold famN at hj hc
      by_cases e:f = 0
      ·subst e
       simp only [if_true] at hj hc
       rw [q5 j hj] at hc
       exact cleanCs_mem (hok.2 j hj) c hc
      ·simp [e] at hj
     ·unfold famN
      split <;> simp
  ·cases hc
 ·cases hc
theorem setRow_self {r:Nat} {x:Fam}:∀ {m:Mem},look m r = some x → setRow r x m = m
 | [],h => by simp [look] at h
 | (k,y) :: m,h => by
  unfold look at h
  unfold setRow
  split at h
  ·rename_i e; cases h; subst e; simp
  ·rename_i e; rw [if_neg e,setRow_self h]
def mcTR (sz:Nat) (tp ty tl:TypeId):MCon:=fun key m es => match es with
 | [.own K 0 N 1] => match look m K with
  | some fam => some ⟨[tabOK K N sz tp ty fam,N ≤ 1000,∀ i,i < N → ((fam (i + 1)).get 0).length = sz ∧ allCells ((fam (i + 1)).get 0) = true],.own key 0 N sz,.many [] (some (famN N sz tl (fun i => (fam (i + 1)).get 0) none))⟩
  | none => none
 | _ => none
theorem MConOK.mcTR {sz:Nat} {tp ty tl:TypeId} (h:MConOK P f (Ax.mcTL sz tp ty tl)):MConOK P f (Ax.mcTR sz tp ty tl):=by
 intro w0 ρ m m' D w key es vs e hR hk hm hRs hc hob hmany
 unfold Ax.mcTR at hc
 split at hc
 ·rename_i K N
  split at hc
  ·rename_i fam hl
   cases hc
   have:=h w0 ρ m m' D w key [.own K 0 N 1] vs ⟨[tabOK K N sz tp ty fam,N ≤ 1000,∀ i,i < N → ((fam (i + 1)).get 0).length = sz ∧ allCells ((fam (i + 1)).get 0) = true],.own key 0 N sz,.many [(K,famT K N sz tp ty fun i => (fam (i + 1)).get 0)] (some (famN N sz tl (fun i => (fam (i + 1)).get 0) none))⟩ hR hk hm hRs (by simp only [Ax.mcTL,hl]) hob ⟨_,_,rfl⟩
   refine this.mono fun v w' ⟨ρ',p1,p2,p3,p4⟩ => ⟨ρ',p1,?_,p3,p4⟩
   have hok:tabOK K N sz tp ty fam:=hob _ (by simp)
   have hKm:=hm _ _ hl
   have hne:K ≠ key:=fun e => hk (e ▸ hR.key _ _ hKm)
   have p2:Rel w0 ρ' (insRow key (famN N sz tl (fun i => (fam (i + 1)).get 0) none) (setRow K (famT K N sz tp ty fun i => (fam (i + 1)).get 0) m)) (fun r => D r ∨ r = key) w':=p2
   rw [← set_ins hne] at p2
   have p5:=Rel.alike p2 (y:=fam) (fun f => hok.1 f)
   rw [set_ins hne,setRow_self hKm] at p5
   exact p5
  ·cases hc
 ·cases hc
def mcN (ty:TypeId) (F:List AV → Option (List Prop × List AV)):MCon:=fun key m es => match F es with
 | some (ob,cs) => some ⟨ob,.bx key 0,.many [] (some (fam1 ty cs.length cs none))⟩
 | none => none
def NewOK (P:Program) (G:Ctx) (H:Hots) (fn:Func) (ty:TypeId) (F:List AV → Option (List Prop × List AV)):Prop:=
 ∀ es ob cs,F es = some (ob,cs) → (∀ p ∈ ob,p) → (∀ a ∈ es,clean 3 a = true) ∧ cleanCs cs = true ∧ funcOK P H fn es.length = true ∧
  bodyM P G H fn es [] 0 fun a m1 => ∃ L,a = .bx L 0 ∧ look m1 L = some (fam1 ty cs.length cs none)
theorem MConOK.mcN (hG:CtxOK P G) (hf:P.funcs[f]? = some fn) {ty:TypeId} {F:List AV → Option (List Prop × List AV)} (h:NewOK P G H fn ty F):MConOK P f (mcN ty F):=by
 refine MConOK.of (H:=H) hG hf fun key m es e hc hob => ?_
 unfold Ax.mcN at hc
 split at hc
 ·rename_i ob cs hF
  cases hc
  obtain ⟨h1,h2,h3,h4⟩:=h _ _ _ hF fun p hp => hob p hp
  obtain ⟨a1,a2⟩:=cleans_ren (θ:=thE []) (g:=lowG 0) (B:=lowB 0) h1
  refine ⟨[],[],es,⟨by simp,a1.symm,a2,fun j hj => by simp at hj,fun q x hq => by simp [look] at hq⟩,h3,h4.mono fun a m1 ⟨L,q1,q2⟩ => ?_⟩
  refine ⟨whole L,idTh,[],some _,rfl,⟨fun f r g h => ?_,?_,?_,rfl,fun j hj => by simp at hj,fun f => ?_⟩⟩
  ·cases h; exact ⟨Nat.zero_le _,rfl⟩
  ·rw [q1]; rfl
  ·rw [q1]; exact .inr rfl
  ·refine ⟨_,q2,rowRen_clean' (.refl _) fun j hj c hc => ?_,?_⟩
   ·unfold fam1 at hj hc
    by_cases e:f = 0
    ·subst e
     exact cleanCs_mem h2 c (by simpa using hc)
    ·simp [e] at hj
   ·unfold fam1
    split <;> simp
 ·cases hc
def mcL (sz:Nat) (tp ty:TypeId) (F:List AV → Option (List Prop × Nat × (Nat → List AV))):MCon:=fun key m es => match F es with
 | some (ob,N,get) => some ⟨ob,.own key 0 N 1,.many [] (some (famT key N sz tp ty get))⟩
 | none => none
def LayOK (P:Program) (G:Ctx) (H:Hots) (fn:Func) (sz:Nat) (tp ty:TypeId) (F:List AV → Option (List Prop × Nat × (Nat → List AV))):Prop:=
 ∀ es ob N get,F es = some (ob,N,get) → (∀ p ∈ ob,p) → (∀ a ∈ es,clean 3 a = true) ∧ (∀ i,i < N → cleanCs (get i) = true) ∧ funcOK P H fn es.length = true ∧
  bodyM P G H fn es [] 0 fun a m1 => ∃ L get',a = .own L 0 N 1 ∧ look m1 L = some (famT L N sz tp ty get') ∧ ∀ i,i < N → get' i = get i
theorem MConOK.mcL (hG:CtxOK P G) (hf:P.funcs[f]? = some fn) {sz:Nat} {tp ty:TypeId} {F:List AV → Option (List Prop × Nat × (Nat → List AV))} (h:LayOK P G H fn sz tp ty F):MConOK P f (mcL sz tp ty F):=by
 refine MConOK.of (H:=H) hG hf fun key m es e hc hob => ?_
 unfold Ax.mcL at hc
 split at hc
 ·rename_i ob N get hF
  cases hc
  obtain ⟨h1,h2,h3,h4⟩:=h _ _ _ _ hF fun p hp => hob p hp
  obtain ⟨a1,a2⟩:=cleans_ren (θ:=thE []) (g:=lowG 0) (B:=lowB 0) h1
  refine ⟨[],[],es,⟨by simp,a1.symm,a2,fun j hj => by simp at hj,fun q x hq => by simp [look] at hq⟩,h3,h4.mono fun a m1 ⟨L,get',q1,q2,q3⟩ => ?_⟩
  refine ⟨whole L,idTh,[],some _,rfl,⟨fun f r g h => ?_,?_,?_,rfl,fun j hj => by simp at hj,fun f => ?_⟩⟩
  ·cases h; exact ⟨Nat.zero_le _,rfl⟩
  ·rw [q1]; rfl
  ·rw [q1]; exact .inr rfl
  ·refine ⟨_,q2,?_,by rw [famT_g]; simp⟩
   cases f with
   | zero =>
    refine ⟨rfl,rfl,rfl,rfl,fun j hj => ⟨rfl,fun c hc => ?_⟩⟩
    simp only [famT,List.mem_singleton] at hc
    rw [hc]; exact .inr rfl
   | succ f =>
    refine rowRen_clean' ⟨rfl,rfl,rfl,rfl,fun j hj => ?_⟩ fun j hj c hcm => ?_
    ·simp only [famT] at hj ⊢
     split at hj
     ·rename_i hf
      rw [q3 f hf]
     ·omega
    ·simp only [famT] at hj hcm
     split at hj
     ·rename_i hf
      have:j = 0:=by omega
      subst this
      simp only [if_true] at hcm
      rw [q3 f hf] at hcm
      exact cleanCs_mem (h2 f hf) c hcm
     ·omega
 ·cases hc
end
section
variable {K N sz n r f i:Nat} {tp ty:TypeId} {get:Nat → List AV} {cs l:List AV} {g:Option Bool} {a:AV}
theorem cleanCs_nil:cleanCs [] = true:=(rfl)
theorem cleanCs_v {x:Value}:cleanCs (.v x :: l) = cleanCs l:=by simp [cleanCs,cleanC]
theorem cleanCs_any:cleanCs (.any :: l) = cleanCs l:=by simp [cleanCs,cleanC]
theorem cleanCs_ro {q:Nat → List AV}:cleanCs (.ro n sz q :: l) = cleanCs l:=by simp [cleanCs,cleanC]
theorem cleanCs_rop:cleanCs (.rop cs :: l) = cleanCs l:=by simp [cleanCs,cleanC]
theorem self_of_clean {c:AV} (h:cleanC c = true):selfC r c = true:=by cases c <;> first | exact h | simp [cleanC] at h
theorem famOK_1 (h:cleanCs cs = true):famOK r (fam1 ty sz cs none) = True:=eq_true fun f => by
 unfold fam1
 by_cases e:f = 0
 ·subst e
  exact ⟨rfl,fun j _ c hc => self_of_clean (cleanCs_mem h c (by simpa using hc))⟩
 ·simp only [e,if_false]
  exact ⟨trivial,fun j hj => by omega⟩
theorem famOK_N (h:∀ i,i < n → cleanCs (get i) = true):famOK r (famN n sz ty get none) = True:=eq_true fun f => by
 unfold famN
 by_cases e:f = 0
 ·subst e
  exact ⟨rfl,fun j hj c hc => self_of_clean (cleanCs_mem (h j (by simpa using hj)) c (by simpa using hc))⟩
 ·simp only [e,if_false]
  exact ⟨trivial,fun j hj => by omega⟩
theorem famOK_T (h:∀ i,i < N → cleanCs (get i) = true):famOK K (famT K N sz tp ty get) = True:=eq_true fun f => by
 cases f with
 | zero =>
  refine ⟨rfl,fun j _ c hc => ?_⟩
  simp only [famT,List.mem_singleton] at hc
  rw [hc]; simp [selfC]
 | succ f =>
  refine ⟨rfl,fun j hj c hc => ?_⟩
  simp only [famT] at hj hc
  split at hj
  ·rename_i hf
   have:j = 0:=by omega
   subst this
   exact self_of_clean (cleanCs_mem (h f hf) c (by simpa using hc))
  ·omega
theorem tabOK_T (h:∀ i,i < N → cleanCs (get i) = true):tabOK K N sz tp ty (famT K N sz tp ty get) = True:=eq_true ⟨fun f => by
 cases f <;> exact ⟨rfl,rfl,rfl,rfl,fun _ _ => rfl⟩,h⟩
theorem famT_get:(famT K N sz tp ty get (i + 1)).get 0 = get i:=(rfl)
theorem famT_n:(famT K N sz tp ty get (i + 1)).n = if i < N then 1 else 0:=(rfl)
theorem famT_sz:(famT K N sz tp ty get (i + 1)).sz = sz:=(rfl)
theorem fam1_get:(fam1 ty sz cs g 0).get i = cs:=(rfl)
theorem fam1_n:(fam1 ty sz cs g 0).n = 1:=(rfl)
theorem fam1_sz:(fam1 ty sz cs g 0).sz = sz:=(rfl)
theorem famN_get:(famN n sz ty get g 0).get i = get i:=(rfl)
theorem famN_n:(famN n sz ty get g 0).n = n:=(rfl)
theorem famN_sz:(famN n sz ty get g 0).sz = sz:=(rfl)
theorem famOK_Es {fam:Fam} (h:famOK r fam) (hc:cleanCs cs = true):famOK r (famE fam f i cs) = True:=eq_true (famOK_E h (cleanCs_mem hc))
theorem wb1_1:wb1 (fam1 ty sz cs g) l = fam1 ty sz l g:=by
 funext f
 unfold wb1 fam1
 by_cases e:f = 0 <;> simp [e]
theorem wb1_N {get:Nat → List AV}:wb1 (famN 1 sz ty get g) l = famN 1 sz ty (fun _ => l) g:=by
 funext f
 unfold wb1 famN
 by_cases e:f = 0 <;> simp [e]
end
attribute [go_sem] cleanCs_nil cleanCs_v cleanCs_any cleanCs_ro cleanCs_rop famOK_1 famOK_N famOK_T famOK_Es famE_n famE_sz famE_g famE_get famE_twice tabOK_T famT_get famT_n famT_sz fam1_get fam1_n fam1_sz famN_get famN_n famN_sz wb1_1 wb1_N famE_T lt_ite tupOf_nil tupOf_one tupOf_two retML_nil retML_cons retMS_some endMR_ret endMR_normal
end Go.Ax
end
section
set_option maxHeartbeats 4000000
set_option maxRecDepth 100000
namespace Go.Ax
open Go.Proofs Go.Proofs.Tryz
def nWh (a:Nb):Nb:=(whV a.1,whF a.1 a.2)
theorem iWh {a:Nb} (h:inR a.1):inR (nWh a).1 = True:=inR_of (whV_rg h)
theorem sum1 {g:Nat → List AV} (h:nums 1 g):(nu (suS (wvS g) 1) (wfS 1 g):AV) = nbA (nWh (gx g 0 0,gb g 1 0)):=by
 have h0:=(h 0 (by omega)).2
 have e1:suS (wvS g) 1 = whV (gx g 0 0):=by simp [suS,wvS]
 have e2:wfS 1 g = whF (gx g 0 0) (gb g 1 0):=by simp [wfS,anyB]
 unfold nu nbA nWh
 rw [e1,e2,ftV_of (whV_rg h0),ftF_of (whV_rg h0)]
 rfl
theorem sum2' {g:Nat → List AV}:(nu (suS (wvS g) 2) (wfS 2 g):AV) = nbA (nAdd (gx g 0 0,gb g 1 0) (gx g 0 1,gb g 1 1)):=by
 have e1:suS (wvS g) 2 = whV (gx g 0 0) + whV (gx g 0 1):=by simp [suS,wvS]
 have e2:wfS 2 g = (whF (gx g 0 0) (gb g 1 0) || whF (gx g 0 1) (gb g 1 1)):=by simp [wfS,anyB]
 unfold nu nbA nAdd
 rw [e1,e2]
def kSum:Con
 | [.ro 1 2 g] => some ([nums 1 g],nbA (nWh (gx g 0 0,gb g 1 0)))
 | [.ro 2 2 g] => some ([nums 2 g],nbA (nAdd (gx g 0 0,gb g 1 0) (gx g 0 1,gb g 1 1)))
 | _ => none
theorem kSum_go {P:Program} {f:FuncId} {c:Con} (hc:ConOK P f c) (h:∀ n g,c [.ro n 2 g] = some ([nums n g,n ≤ 1000],nu (suS (wvS g) n) (wfS n g))):ConOK P f kSum:=fun l ob r he hob => by
 unfold kSum at he
 split at he
 ·rename_i g
  cases he
  have hn:nums 1 g:=hob _ (by simp)
  have:=hc [.ro 1 2 g] _ _ (h 1 g) (owe2 hn (by omega))
  rw [sum1 hn] at this
  exact this
 ·rename_i g
  cases he
  have hn:nums 2 g:=hob _ (by simp)
  have:=hc [.ro 2 2 g] _ _ (h 2 g) (owe2 hn (by omega))
  rw [sum2'] at this
  exact this
 ·cases he
theorem konS179:ConOK prog 68 kSum:=kSum_go con68 fun _ _ => rfl
def kw153:Con
 | [.agg [.v (.int .i64 a),.v (.bool e)],.agg [.v (.int .i64 b),.v (.bool f)]] => some ([inR a,inR b],nbA (nAdd (a,e) (b,f)))
 | _ => none
theorem konw153:ConOK prog 88 kw153:=ConOK.of (G:=[(68,kSum)]) (H:=[]) (.cons konS179 .nil) func88 fun l ob rr hc hob => by
 unfold kw153 at hc
 split at hc
 ·rename_i a e b f
  cases hc
  have h_0:=ob0 hob
  have h_1:=ob1 hob
  refine ⟨by kernel_rfl,fnVC_go (rs:=[.cell 4 27]) rfl rfl ?_⟩
  simp only [go_sem,kSum,iMul,iDiv,iInt,iAdd,iSub,iRat,iDot,iHyp,iSq,iNeg,iPos,iAbs,iMx,iMn,iCl,iWh,iLoc1,iLoc2,iVAdd1,iVAdd2,iVSub1,iVSub2,iScale1,iScale2,iVDot,iVCross,iLen,iOf1,iOf2,iUnit1,iUnit2,h_0,h_1]
  rfl
 ·cases hc
def kw160p:Con
 | [.agg [.v (.int .i64 x),.v (.bool e),.v (.int .i64 y),.v (.bool f)]] => some ([inR x,inR y],veA (nNeg (y,f),nWh (x,e)))
 | _ => none
theorem konw160p:ConOK prog 108 kw160p:=ConOK.of (G:=[(112,k179),(68,kSum)]) (H:=[(1,⟨[(8,.slot 2)],[]⟩)]) (.cons kon179 (.cons konS179 .nil)) func108 fun l ob rr hc hob => by
 unfold kw160p at hc
 split at hc
 ·rename_i x e y f
  cases hc
  have h_0:=ob0 hob
  have h_1:=ob1 hob
  refine ⟨by kernel_rfl,fnVC_go (rs:=[.cell 2 29]) rfl rfl ?_⟩
  simp only [go_sem,k179,kSum,iMul,iDiv,iInt,iAdd,iSub,iRat,iDot,iHyp,iSq,iNeg,iPos,iAbs,iMx,iMn,iCl,iWh,iLoc1,iLoc2,iVAdd1,iVAdd2,iVSub1,iVSub2,iScale1,iScale2,iVDot,iVCross,iLen,iOf1,iOf2,iUnit1,iUnit2,h_0,h_1]
  rfl
 ·cases hc
def vPerp (v:V2):V2:=(nNeg v.2,nWh v.1)
def vTurn (k:Nb) (v:V2):V2:=vScale (vPerp v) k
def vOpp (v:V2):V2:=(nNeg v.1,nNeg v.2)
def kw218:Con
 | [.agg [.v (.int .i64 k),.v (.bool g)],.agg [.v (.int .i64 x),.v (.bool e),.v (.int .i64 y),.v (.bool f)]] => some ([inR k,inR x,inR y],veA (vTurn (k,g) ((x,e),(y,f))))
 | _ => none
theorem konw218:ConOK prog 246 kw218:=ConOK.of (G:=[(108,kw160p),(44,k169)]) (H:=[(1,⟨[(4,.slot 4)],[]⟩)]) (.cons konw160p (.cons kon169 .nil)) func246 fun l ob rr hc hob => by
 unfold kw218 at hc
 split at hc
 ·rename_i k g x e y f
  cases hc
  have h_0:=ob0 hob
  have h_1:=ob1 hob
  have h_2:=ob2 hob
  refine ⟨by kernel_rfl,fnVC_go (rs:=[.cell 4 29]) rfl rfl ?_⟩
  simp only [go_sem,kw160p,k169,iMul,iDiv,iInt,iAdd,iSub,iRat,iDot,iHyp,iSq,iNeg,iPos,iAbs,iMx,iMn,iCl,iWh,iLoc1,iLoc2,iVAdd1,iVAdd2,iVSub1,iVSub2,iScale1,iScale2,iVDot,iVCross,iLen,iOf1,iOf2,iUnit1,iUnit2,h_0,h_1,h_2]
  rfl
 ·cases hc
def kw252o:Con
 | [.agg [.v (.int .i64 x),.v (.bool e),.v (.int .i64 y),.v (.bool f)]] => some ([inR x,inR y],veA (vOpp ((x,e),(y,f))))
 | _ => none
theorem konw252o:ConOK prog 176 kw252o:=ConOK.of (G:=[(112,k179)]) (H:=[(1,⟨[(7,.slot 2)],[]⟩)]) (.cons kon179 .nil) func176 fun l ob rr hc hob => by
 unfold kw252o at hc
 split at hc
 ·rename_i x e y f
  cases hc
  have h_0:=ob0 hob
  have h_1:=ob1 hob
  refine ⟨by kernel_rfl,fnVC_go (rs:=[.cell 2 29]) rfl rfl ?_⟩
  simp only [go_sem,k179,iMul,iDiv,iInt,iAdd,iSub,iRat,iDot,iHyp,iSq,iNeg,iPos,iAbs,iMx,iMn,iCl,iWh,iLoc1,iLoc2,iVAdd1,iVAdd2,iVSub1,iVSub2,iScale1,iScale2,iVDot,iVCross,iLen,iOf1,iOf2,iUnit1,iUnit2,h_0,h_1]
  rfl
 ·cases hc
def limS (x:Nb) (n:Int):Nb:=((nCl x (nInt (-n)) (nInt n)).1,false)
def limV (v:V2):V2:=(limS v.1 256,limS v.2 256)
def kw177:Con
 | [.agg [.v (.int .i64 x),.v (.bool e)],.rop [.v (.int .i64 n)]] => some ([inR x,0 ≤ n ∧ n ≤ 65536],nbA (limS (x,e) n))
 | _ => none
theorem konw177:ConOK prog 101 kw177:=ConOK.of (G:=[(103,k127),(102,k171)]) (H:=[(1,⟨[(7,.slot 2)],[]⟩)]) (.cons kon127 (.cons kon171 .nil)) func101 fun l ob rr hc hob => by
 unfold kw177 at hc
 split at hc
 ·rename_i x e n
  cases hc
  have h_0:=ob0 hob
  have h_1:=ob1 hob
  refine ⟨by kernel_rfl,fnVC_go (rs:=[.cell 3 27]) rfl rfl ?_⟩
  simp only [go_sem,k127,k171,iMul,iDiv,iInt,iAdd,iSub,iRat,iDot,iHyp,iSq,iNeg,iPos,iAbs,iMx,iMn,iCl,iWh,iLoc1,iLoc2,iVAdd1,iVAdd2,iVSub1,iVSub2,iScale1,iScale2,iVDot,iVCross,iLen,iOf1,iOf2,iUnit1,iUnit2,h_0,h_1]
  intro z hz
  rw [wrap_in (inRo (by omega))] at hz
  subst hz
  have e:(0 - n) = -n:=by omega
  rw [e]
  exact ⟨inRo (by omega),inRo (by omega),rfl⟩
 ·cases hc
def kw239:Con
 | [.agg [.v (.int .i64 x),.v (.bool e)],.rop [.v (.int .i64 n)]] => some ([inR x,0 ≤ n ∧ n ≤ 65536],nbA (limS (x,e) n))
 | _ => none
theorem konw239:ConOK prog 160 kw239:=ConOK.of (G:=[(103,k127),(102,k171)]) (H:=[(1,⟨[(7,.slot 2)],[]⟩)]) (.cons kon127 (.cons kon171 .nil)) func160 fun l ob rr hc hob => by
 unfold kw239 at hc
 split at hc
 ·rename_i x e n
  cases hc
  have h_0:=ob0 hob
  have h_1:=ob1 hob
  refine ⟨by kernel_rfl,fnVC_go (rs:=[.cell 3 27]) rfl rfl ?_⟩
  simp only [go_sem,k127,k171,iMul,iDiv,iInt,iAdd,iSub,iRat,iDot,iHyp,iSq,iNeg,iPos,iAbs,iMx,iMn,iCl,iWh,iLoc1,iLoc2,iVAdd1,iVAdd2,iVSub1,iVSub2,iScale1,iScale2,iVDot,iVCross,iLen,iOf1,iOf2,iUnit1,iUnit2,h_0,h_1]
  intro z hz
  rw [wrap_in (inRo (by omega))] at hz
  subst hz
  have e:(0 - n) = -n:=by omega
  rw [e]
  exact ⟨inRo (by omega),inRo (by omega),rfl⟩
 ·cases hc
def kw120:Con
 | [.agg [.v (.int .i64 x),.v (.bool e),.v (.int .i64 y),.v (.bool f)],.v (.int .i64 n)] => some ([inR x,inR y,0 ≤ n ∧ n ≤ 65536],veA (limS (x,e) n,limS (y,f) n))
 | _ => none
theorem konw120:ConOK prog 54 kw120:=ConOK.of (G:=[(101,kw177)]) (H:=[(8,⟨[(16,.slot 7),(19,.slot 7)],[]⟩)]) (.cons konw177 .nil) func54 fun l ob rr hc hob => by
 unfold kw120 at hc
 split at hc
 ·rename_i x e y f n
  cases hc
  have h_0:=ob0 hob
  have h_1:=ob1 hob
  have h_2:=ob2 hob
  refine ⟨by kernel_rfl,fnVC_go (rs:=[.cell 4 29]) rfl rfl ?_⟩
  simp only [go_sem,kw177,iMul,iDiv,iInt,iAdd,iSub,iRat,iDot,iHyp,iSq,iNeg,iPos,iAbs,iMx,iMn,iCl,iWh,iLoc1,iLoc2,iVAdd1,iVAdd2,iVSub1,iVSub2,iScale1,iScale2,iVDot,iVCross,iLen,iOf1,iOf2,iUnit1,iUnit2,h_0,h_1,h_2]
  exact ⟨False.elim,fun _ => ⟨fun _ => rfl,fun h => by cases h⟩⟩
 ·cases hc
def kw176l:Con
 | [.agg [.v (.int .i64 x),.v (.bool e)],.v (.int .i64 n)] => some ([inR x,0 ≤ n ∧ n ≤ 65536],nbA (limS (x,e) n))
 | _ => none
theorem konw176l:ConOK prog 87 kw176l:=ConOK.of (G:=[(160,kw239)]) (H:=[(8,⟨[(16,.slot 7),(19,.slot 7)],[]⟩)]) (.cons konw239 .nil) func87 fun l ob rr hc hob => by
 unfold kw176l at hc
 split at hc
 ·rename_i x e n
  cases hc
  have h_0:=ob0 hob
  have h_1:=ob1 hob
  refine ⟨by kernel_rfl,fnVC_go (rs:=[.cell 4 27]) rfl rfl ?_⟩
  simp only [go_sem,kw239,iMul,iDiv,iInt,iAdd,iSub,iRat,iDot,iHyp,iSq,iNeg,iPos,iAbs,iMx,iMn,iCl,iWh,iLoc1,iLoc2,iVAdd1,iVAdd2,iVSub1,iVSub2,iScale1,iScale2,iVDot,iVCross,iLen,iOf1,iOf2,iUnit1,iUnit2,h_0,h_1]
  exact ⟨fun _ => rfl,fun h => by cases h⟩
 ·cases hc
def withS (a:Nb) (n:Int):Bool:=!whF a.1 a.2 && decide (-(n * 4294967296) ≤ a.1 ∧ a.1 ≤ n * 4294967296)
def kw55:Con
 | [] => some ([],.agg [i64 4294967296,bo false])
 | _ => none
theorem konw55:ConOK prog 18 kw55:=ConOK.of (G:=[]) (H:=[]) .nil func18 fun l ob rr hc hob => by
 unfold kw55 at hc
 split at hc
 ·skip
  cases hc
  refine ⟨by kernel_rfl,fnVC_go (rs:=[.cell 0 27]) rfl rfl ?_⟩
  simp only [go_sem,iMul,iDiv,iInt,iAdd,iSub,iRat,iDot,iHyp,iSq,iNeg,iPos,iAbs,iMx,iMn,iCl,iWh,iLoc1,iLoc2,iVAdd1,iVAdd2,iVSub1,iVSub2,iScale1,iScale2,iVDot,iVCross,iLen,iOf1,iOf2,iUnit1,iUnit2]
  skip
 ·cases hc
end Go.Ax
end