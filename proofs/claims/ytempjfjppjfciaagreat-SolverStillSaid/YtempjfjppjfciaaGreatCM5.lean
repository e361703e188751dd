/-
  The laws of boxes: what the functions hand back.
-/
import Derived.Test.YtempjfjppjfciaaGreatCM4
set_option linter.unusedVariables false
set_option linter.unusedSimpArgs false
section
set_option maxHeartbeats 2000000
set_option maxRecDepth 100000
namespace Go.Ax
open Go.Proofs
def joinT (a b c d e f g h:Int) (k:Nat):Int:=if checkBoxS a b c d = 0 ∧ checkBoxS e f g h = 0 then (match k with
 | 0 => min a e
 | 1 => min b f
 | 2 => max c g
 | _ => max d h) else 0
theorem rows_0 {a b c d:AV} {l:List AV}:rowsOf 4 (a :: b :: c :: d :: l) 0 = [a,b,c,d]:=(rfl)
theorem rows_1 {a b c d e f g h:AV} {l:List AV}:rowsOf 4 (a :: b :: c :: d :: e :: f :: g :: h :: l) 1 = [e,f,g,h]:=(rfl)
theorem boxes_2 {a b c d e f g h:Int}:boxes 2 (rowsOf 4 [i64 a,i64 b,i64 c,i64 d,i64 e,i64 f,i64 g,i64 h]) = ((inR a ∧ inR b ∧ inR c ∧ inR d) ∧ inR e ∧ inR f ∧ inR g ∧ inR h):=propext ⟨fun H => by
  have h0:=(H 0 (by omega)).2
  have h1:=(H 1 (by omega)).2
  simp only [gx,rows_0,rows_1,gi_0,gi_1,gi_2,gi_3] at h0 h1
  exact ⟨h0,h1⟩,fun ⟨h0,h1⟩ i hi => by
  have:i = 0 ∨ i = 1:=by omega
  rcases this with rfl | rfl
  ·simp only [gx,rows_0,gi_0,gi_1,gi_2,gi_3]; exact ⟨trivial,h0⟩
  ·simp only [gx,rows_1,gi_0,gi_1,gi_2,gi_3]; exact ⟨trivial,h1⟩⟩
theorem okB_2 {A B C D:Nat → Int}:okB 2 A B C D ↔ checkBoxS (A 0) (B 0) (C 0) (D 0) = 0 ∧ checkBoxS (A 1) (B 1) (C 1) (D 1) = 0:=
 ⟨fun h => ⟨h 0 (by omega),h 1 (by omega)⟩,fun ⟨h0,h1⟩ i hi => by
  have:i = 0 ∨ i = 1:=by omega
  rcases this with rfl | rfl <;> assumption⟩
theorem join_2 {a b c d e f g h:Int} {k:Nat} (hk:k < 4):joinS 2 (gx (rowsOf 4 [i64 a,i64 b,i64 c,i64 d,i64 e,i64 f,i64 g,i64 h]) 0) (gx (rowsOf 4 [i64 a,i64 b,i64 c,i64 d,i64 e,i64 f,i64 g,i64 h]) 1) (gx (rowsOf 4 [i64 a,i64 b,i64 c,i64 d,i64 e,i64 f,i64 g,i64 h]) 2) (gx (rowsOf 4 [i64 a,i64 b,i64 c,i64 d,i64 e,i64 f,i64 g,i64 h]) 3) k = joinT a b c d e f g h k:=by
 unfold joinS joinT
 simp only [okB_2,mnS,mxS,gx,rows_0,rows_1,gi_0,gi_1,gi_2,gi_3]
 have:k = 0 ∨ k = 1 ∨ k = 2 ∨ k = 3:=by omega
 rcases this with rfl | rfl | rfl | rfl <;> simp
attribute [go_sem] boxes_2 join_2 Nat.lt_irrefl
def near (a b c d:Int):Prop:=-5000 ≤ a ∧ a ≤ c ∧ c ≤ 5000 ∧ -5000 ≤ b ∧ b ≤ d ∧ d ≤ 5000
end Go.Ax
end
section
/-
  The iterator over a polygon's edges.
-/
set_option maxHeartbeats 1000000
set_option maxRecDepth 100000
namespace Go.Ax
open Go.Proofs
def nxt (n i:Nat):Nat:=if i + 1 < n then i + 1 else 0
theorem nxt_lt {n i:Nat} (h:i < n):nxt n i < n:=by unfold nxt; split <;> omega
structure At257 (I:Nat → Prop) (w:World) (J:Nat → World → Prop) (l n:Nat) (v1 x:Value) (i:Nat) (a:Act) (W:World):Prop where
 sz:a.tmps.size = 38
 de:a.defers = []
 t0:a.tmps.getD 0 undef = .func (.yield l) #[] #[]
 t1:a.tmps.getD 1 undef = v1
 t3:a.tmps.getD 3 undef = .int .i64 (IntKind.i64.wrap (n - 1))
 t12:a.tmps.getD 12 undef = x
 t13:a.tmps.getD 13 undef = .int .i64 n
 t14:a.tmps.getD 14 undef = .int .i64 i
 le:i ≤ n
 j:J i W
 same:Same I w W
end Go.Ax
end
section
/-
  Spots: sides, convex spots.
-/
set_option maxHeartbeats 1000000
set_option maxRecDepth 100000
namespace Go.Ax
open Go.Proofs
def c261:Con
 | [.agg [.v (.int .i64 a),.v (.int .i64 b)],.agg [.v (.int .i64 c),.v (.int .i64 d)],.agg [.v (.int .i64 e),.v (.int .i64 f)]] => some ([],i64 (sideS a b c d e f))
 | _ => none
theorem turn_wrap' {ax ay bx byy cx cy:Int} (ha:validS ax ay = true) (hb:validS bx byy = true) (hc:validS cx cy = true) :
  IntKind.i64.wrap (IntKind.i64.wrap (IntKind.i64.wrap (bx - ax) * IntKind.i64.wrap (cy - ay)) - IntKind.i64.wrap (IntKind.i64.wrap (byy - ay) * IntKind.i64.wrap (cx - ax))) = turnS ax ay bx byy cx cy:=turn_wrap ha hb hc
theorem con261:ConOK Tryz.prog 261 c261:=ConOK.of (G:=[(210,c210),(263,c258),(214,c214)]) (H:=[]) (.cons con210 (.cons con263 (.cons con214 .nil))) Tryz.func261 fun l ob r hc hob => by
 unfold c261 at hc
 split at hc
 ·rename_i a b c d e f
  cases hc
  refine ⟨by kernel_rfl,fnVC_go (rs:=[.tmp 6]) rfl rfl ?_⟩
  simp only [go_sem,c210,c214,c258]
  intro z hz z1 hz1 z2 hz2
  subst hz hz1 hz2
  refine ⟨fun h => ?_,fun h x0 h0 x1 h1 x2 h2 x3 h3 t ht => ?_⟩
  ·unfold sideS; rw [if_neg]; rintro ⟨k1,k2,k3⟩; rw [k1,k2,k3] at h; simp at h
  ·have hv:validS a b = true ∧ validS c d = true ∧ validS e f = true:=⟨h.1.1,h.1.2,h.2⟩
   subst h0 h1 h2 h3
   rw [turn_wrap' hv.1 hv.2.1 hv.2.2] at ht
   refine ⟨fun k => ?_,fun k => ⟨fun k2 => ?_,fun k2 => ?_⟩⟩
   ·unfold sideS; rw [if_pos hv,← ht,if_pos k]
   ·unfold sideS; rw [if_pos hv,← ht,if_neg k,if_pos k2]
   ·unfold sideS; rw [if_pos hv,← ht,if_neg k,if_neg k2]
 ·cases hc
theorem tmod_nxt {n i:Nat} (h:i < n):Int.tmod ((i:Int) + 1) n = (nxt n i:Nat):=by
 unfold nxt
 by_cases e:i + 1 < n
 ·rw [if_pos e,Int.tmod_eq_of_lt (by omega) (by omega)]; rfl
 ·have:i + 1 = n:=by omega
  rw [if_neg e,show (i:Int) + 1 = n by omega,Int.tmod_self]; rfl
def convexS (n:Nat) (X Y:Nat → Int):Bool:=decide (3 ≤ n ∧ (∀ i,i < n → validS (X i) (Y i) = true) ∧ ∀ i,i < n → ∀ k,k < n → k ≠ i → k ≠ nxt n i → 0 < turnS (X i) (Y i) (X (nxt n i)) (Y (nxt n i)) (X k) (Y k))
theorem convexS_iff {n:Nat} {X Y:Nat → Int}:convexS n X Y = true ↔ 3 ≤ n ∧ (∀ i,i < n → validS (X i) (Y i) = true) ∧ ∀ i,i < n → ∀ k,k < n → k ≠ i → k ≠ nxt n i → 0 < turnS (X i) (Y i) (X (nxt n i)) (Y (nxt n i)) (X k) (Y k):=by unfold convexS; simp
def c274:Con
 | [.ro n 2 g] => some ([spots n g,n ≤ 9223372036854775806],bo (convexS n (gx g 0) (gx g 1)))
 | _ => none
end Go.Ax
end
section
/-
  Spots: what the reference says; copies of spots.
-/
set_option maxHeartbeats 1000000
set_option maxRecDepth 100000
namespace Go.Ax
open Go.Proofs
theorem vc213 (n:Nat) (X Y:Nat → Int) (hX:∀ i,i < n → inR (X i) ∧ inR (Y i)) (hn:n ≤ 9223372036854775806):fnVC Tryz.prog [(261,c261),(210,c210)] [] Tryz.f213 [.ro n 2 fun i => [i64 (X i),i64 (Y i)]] (· = bo (convexS n X Y)):=by
 refine fnVC_go (rs:=[.tmp 2]) rfl rfl ?_
 simp only [go_sem]
 refine ⟨fun h => false_of fun hc => ?_,fun h => ?_⟩
 ·have:=convexS_iff.1 hc
  omega
 have h3:3 ≤ n:=by omega
 let good:Nat → Prop:=fun i => ∀ k,k < n → k ≠ i → k ≠ nxt n i → 0 < turnS (X i) (Y i) (X (nxt n i)) (Y (nxt n i)) (X k) (Y k)
 refine loopC_go (fun (i:Nat) => i ≤ n ∧ (0 < i → ∀ k,k < n → validS (X k) (Y k) = true) ∧ ∀ j,j < i → good j) (fun i => n - i) (fun i => [(3,i64 i)]) (fun _ => []) [] [9,10,11,12,15,16,17,18,19,4,5,20,21,22,23,26,27,28,29,30,31,32,33,34,35,36,37,38,39,40,41,42,43,44,45,46,47,48,49,50,51,52,53,54,55,56,57,2,24,25,5,13,14,3] 0 (by kernel_rfl) ?_ ⟨Nat.zero_le _,fun h => by omega,fun j hj => by omega⟩ ?_ ?_
 ·intro x _; simp [goodNames]
 ·simp only [go_sem]
 ·intro i hi
  have hn0:((n:Int) = 0) = False:=eq_false (by omega)
  simp only [go_sem,hn0]
  refine ⟨fun hin z hz z1 hz1 => ?_,fun hin => (convexS_iff.2 ⟨h3,hi.2.1 (by omega),fun j hj => hi.2.2 j (by omega)⟩).symm⟩
  have hin:i < n:=by omega
  have ei:IntKind.i64.wrap ((i:Int) + 1) = i + 1:=wrap_in (by unfold inR; omega)
  rw [ei] at hz
  rw [hz,tmod_nxt hin] at hz1
  have hnl:nxt n i < n:=nxt_lt hin
  subst hz1
  refine loopC_go (fun (k:Nat) => k ≤ n ∧ ∀ q,q < k → validS (X q) (Y q) = true ∧ (q ≠ i → q ≠ nxt n i → 0 < turnS (X i) (Y i) (X (nxt n i)) (Y (nxt n i)) (X q) (Y q))) (fun k => n - k) (fun k => [(5,i64 k)]) (fun _ => []) [] [20,21,22,23,26,27,28,29,30,31,32,33,34,35,36,37,38,39,40,41,42,43,44,45,46,47,48,49,50,51,52,53,54,55,56,57,2,24,25,5] 0 (by kernel_rfl) ?_ ⟨Nat.zero_le _,fun j hj => by omega⟩ ?_ ?_
  ·intro x _; simp [goodNames]
  ·simp only [go_sem]
  ·intro k hk
   simp only [go_sem,c261,c210]
   have bn:∀ x y:Nat,((x:Int) != (y:Int)) = true ↔ x ≠ y:=fun x y => by rw [bne_iff_ne]; omega
   refine ⟨fun hkn => ⟨by omega,hkn,fun z1 hz1 => ⟨fun h1 h2 => ⟨h1,h2⟩,fun _ => by omega,fun _ => by omega,fun _ => by omega,fun _ => by omega,fun _ => by omega,fun _ => by omega,fun t ht => ⟨fun h1 h2 => ⟨h1,h2⟩,fun hb => false_of fun hc => ?_,fun hb z3 hz3 => ⟨k + 1,⟨by omega,fun q hq => ?_⟩,by omega,?_⟩⟩⟩⟩,fun hkn z1 hz1 => ⟨i + 1,⟨by omega,fun _ q hq => (hk.2 q (by omega)).1,fun j hj => ?_⟩,by omega,?_⟩⟩
   ·have hkn':k < n:=by omega
    obtain ⟨_,k2,k3⟩:=convexS_iff.1 hc
    rcases hb with hb | hb
    ·rw [hb,k2 k hkn'] at hz1; cases hz1
    ·have hp:=k3 i hin k hkn' ((bn _ _).1 hb.1.1) ((bn _ _).1 hb.1.2)
     have:t = 1:=by rw [ht]; unfold sideS; rw [if_pos ⟨k2 i hin,k2 _ hnl,k2 k hkn'⟩,if_pos hp]
     omega
   ·by_cases e:q = k
    ·subst e
     rw [← hz1]
     refine ⟨hb.1,fun h1 h2 => ?_⟩
     have hb2:=hb.2
     rw [(bn q i).2 h1,(bn q (nxt n i)).2 h2] at hb2
     simp at hb2
     rw [ht] at hb2
     unfold sideS at hb2
     split at hb2
     ·split at hb2
      ·assumption
      ·split at hb2 <;> omega
     ·omega
    ·exact hk.2 q (by omega)
   ·rw [hz3,wrap_in (by unfold inR; omega)]; rfl
   ·by_cases e:j = i
    ·subst e
     intro q hq h1 h2
     exact (hk.2 q (by omega)).2 h1 h2
    ·exact hi.2.2 j (by omega)
   ·rw [hz1,ei]; rfl
theorem con213:ConOK Tryz.prog 213 c274:=ConOK.go (G:=[(261,c261),(210,c210)]) (H:=[]) (.cons con261 (.cons con210 .nil)) Tryz.func213 fun l ob r hc hob => by
 unfold c274 at hc
 split at hc
 ·rename_i n g
  cases hc
  have hs:spots n g:=hob _ (by simp)
  refine ⟨[.ro n 2 fun i => [i64 (gx g 0 i),i64 (gx g 1 i)]],fun w I vs h => Rs_one (fun v => ro_alike fun i hi => (hs i hi).1) h,by kernel_rfl,vc213 n _ _ (fun i hi => (hs i hi).2) (hob _ (by simp))⟩
 ·cases hc
end Go.Ax
end
section
/-
  Forms: what is valid; copies; which spots a form has.
-/
set_option maxHeartbeats 1000000
set_option maxRecDepth 100000
namespace Go.Ax
open Go.Proofs
abbrev formA (k x y r:Int) (n:Nat) (g:Nat → List AV):AV:=.agg [i64 k,i64 x,i64 y,i64 r,.ro n 2 g]
theorem Rs_form {w:World} {ρ:Env} {k x y r:Int} {n:Nat} {g:Nat → List AV} (hs:spots n g) (v:Value) (h:R w ρ (formA k x y r n g) v):R w ρ (formA k x y r n fun i => [i64 (gx g 0 i),i64 (gx g 1 i)]) v:=by
 cases h with
 | agg hl hh =>
  refine .agg hl fun i a z h1 h2 => ?_
  match i with
  | 0 => exact hh 0 a z h1 h2
  | 1 => exact hh 1 a z h1 h2
  | 2 => exact hh 2 a z h1 h2
  | 3 => exact hh 3 a z h1 h2
  | 4 =>
   simp at h1; subst h1
   exact ro_alike (fun i hi => (hs i hi).1) (hh 4 _ z rfl h2)
  | j + 5 => simp at h1
theorem Rs_two {w:World} {ρ:Env} {a a' b b':AV} {vs:List Value} (h:∀ v,R w ρ a v → R w ρ a' v) (k:∀ v,R w ρ b v → R w ρ b' v) (hR:Rs w ρ [a,b] vs):Rs w ρ [a',b'] vs:=by
 obtain ⟨x,xs,rfl,h1,h2⟩:=hR.inv
 exact .cons (h x h1) (Rs_one k h2)
def c194:Con
 | [.agg [.v (.int .i64 a),.v (.int .i64 b)],.agg [.v (.int .i64 c),.v (.int .i64 d)]] => some ([],i64 (IntKind.i64.wrap (IntKind.i64.wrap (a * c) + IntKind.i64.wrap (b * d))))
 | _ => none
theorem con215:ConOK Tryz.prog 215 c194:=ConOK.of (G:=[]) (H:=[]) .nil Tryz.func215 fun l ob r hc hob => by
 unfold c194 at hc
 split at hc
 ·cases hc
  refine ⟨by kernel_rfl,fnVC_go (rs:=[.tmp 4]) rfl rfl ?_⟩
  simp only [go_sem]
  intro z h z1 h1 z2 h2
  rw [h2,h1,h]
 ·cases hc
theorem con212:ConOK Tryz.prog 212 c273:=ConOK.of (G:=[]) (H:=[]) .nil Tryz.func212 fun l ob r hc hob => by
 unfold c273 at hc
 split at hc
 ·cases hc
  refine ⟨by kernel_rfl,fnVC_go (rs:=[.cell 4 257]) rfl rfl ?_⟩
  simp only [go_sem]
  intro z h z1 h1 z2 h2 z3 h3
  subst h h1 h2 h3
  rfl
 ·cases hc
theorem wrap_inR (x:Int):inR (IntKind.i64.wrap x):=by rw [wrap_i64]; unfold inR; omega
def checkS (k x y r:Int) (n:Nat) (X Y:Nat → Int):Int:=
 if k ≠ 1 ∧ k ≠ 2 then 8
 else if ¬ (validS x y = true ∧ ∀ i,i < n → validS (X i) (Y i) = true) then 3
 else if k = 1 then (if 1 ≤ r ∧ (2097152 < r ∨ checkBoxS (x - r) (y - r) (x + r) (y + r) ≠ 0) then 3 else if r < 1 ∨ 0 < n then 5 else 0)
 else if r ≠ 0 ∨ 8 < n ∨ convexS n X Y = false then 5 else 0
instance {n:Nat} {X Y:Nat → Int}:Decidable (∀ i,i < n → validS (X i) (Y i) = true):=inferInstance
def c255:Con
 | [.agg [.v (.int .i64 k),.v (.int .i64 x),.v (.int .i64 y),.v (.int .i64 r),.ro n 2 g]] => some ([spots n g,n ≤ 9223372036854775806,inR x,inR y,inR r],i64 (checkS k x y r n (gx g 0) (gx g 1)))
 | _ => none
end Go.Ax
end
section
/-
  Forms: the reference's check; which spots a form has.
-/
set_option maxHeartbeats 1000000
set_option maxRecDepth 100000
namespace Go.Ax
open Go.Proofs
theorem vc139 (k x y r:Int) (n:Nat) (X Y:Nat → Int) (hX:∀ i,i < n → inR (X i) ∧ inR (Y i)) (hn:n ≤ 9223372036854775806) (hx:inR x) (hy:inR y) (hr:inR r):fnVC Tryz.prog [(211,c211),(213,c274),(210,c210),(212,c273)] [] Tryz.f139 [formA k x y r n fun i => [i64 (X i),i64 (Y i)]] (· = i64 (checkS k x y r n X Y)):=by
 refine fnVC_go (rs:=[.tmp 2]) rfl rfl ?_
 simp only [go_sem,c210]
 refine ⟨fun h => ?_,fun h z hz => ⟨fun h3 => ?_,fun h3 => ?_⟩⟩
 ·have h1:k ≠ 1 ∧ k ≠ 2:=by simpa using h
  unfold checkS; rw [if_pos h1]
 ·have h1:¬ (k ≠ 1 ∧ k ≠ 2):=by simp at h; omega
  unfold checkS; rw [if_neg h1,if_pos]
  rintro ⟨v1,v2⟩
  rw [v1] at hz; rw [hz] at h3; cases h3
 have h1:¬ (k ≠ 1 ∧ k ≠ 2):=by simp at h; omega
 have v1:validS x y = true:=by rw [← hz]; exact h3
 refine loopC_go (fun (i:Nat) => i ≤ n ∧ ∀ j,j < i → validS (X j) (Y j) = true) (fun i => n - i) (fun i => [(3,i64 i)]) (fun _ => []) [0] [16,17,18,19,20,23,24,25,26,27,28,29,2,21,22,3] 0 (by kernel_rfl) ?_ ⟨Nat.zero_le _,fun j hj => by omega⟩ ?_ ?_
 ·intro x _; simp [goodNames]
 ·simp only [go_sem]
 ·intro i hi
  simp only [go_sem,c211,c274,c210,c273]
  refine ⟨fun hin => ⟨by omega,hin,fun z1 hz1 => ⟨fun h4 => ?_,fun h4 z2 hz2 => ⟨i + 1,⟨by omega,fun j hj => ?_⟩,by omega,?_⟩⟩⟩,fun hin => ?_⟩
  ·unfold checkS; rw [if_neg h1,if_pos]
   rintro ⟨_,v2⟩
   rw [v2 i (by omega)] at hz1; rw [hz1] at h4; cases h4
  ·by_cases e:j = i
   ·subst e; rw [← hz1]; exact h4
   ·exact hi.2 j (by omega)
  ·rw [hz2,wrap_in (by unfold inR; omega)]; rfl
  have v2:∀ i,i < n → validS (X i) (Y i) = true:=fun j hj => hi.2 j (by omega)
  have v3:=validS_iff.1 v1
  have h2:¬ ¬ (validS x y = true ∧ ∀ i,i < n → validS (X i) (Y i) = true):=fun hn => hn ⟨v1,v2⟩
  have hg:spots n fun i => [i64 (X i),i64 (Y i)]:=fun i hi => ⟨rfl,hX i hi⟩
  have ec:convexS n (gx (fun i => [i64 (X i),i64 (Y i)]) 0) (gx (fun i => [i64 (X i),i64 (Y i)]) 1) = convexS n X Y:=rfl
  rw [ec]
  have e0:checkS k x y r n X Y = if k = 1 then (if 1 ≤ r ∧ (2097152 < r ∨ checkBoxS (x - r) (y - r) (x + r) (y + r) ≠ 0) then 3 else if r < 1 ∨ 0 < n then 5 else 0)
    else if r ≠ 0 ∨ 8 < n ∨ convexS n X Y = false then 5 else 0:=by unfold checkS; rw [if_neg h1,if_neg h2]
  rw [e0]
  refine ⟨fun hk z2 hz2 => ⟨fun a b => ⟨a,b⟩,fun h4 => ?_,fun h4 => ?_⟩,fun hk z2 hz2 => ⟨fun _ => hg,fun _ => hn,fun h4 => ?_,fun h4 => ?_⟩⟩
  ·have hb:0 < r → ¬ 2097152 < r → z2 = checkBoxS (x - r) (y - r) (x + r) (y + r):=fun a b => by
    rw [hz2,wrap_in (x:=x - r) (by unfold inR; omega),wrap_in (x:=y - r) (by unfold inR; omega),wrap_in (x:=x + r) (by unfold inR; omega),wrap_in (x:=y + r) (by unfold inR; omega)]
   rw [if_pos (by simpa using hk),if_pos]
   refine ⟨h4.1,?_⟩
   by_cases hr2:2097152 < r
   ·exact .inl hr2
   ·rw [← hb (by omega) hr2]; exact .inr (by simpa using h4.2.resolve_left hr2)
  ·have hb:0 < r → ¬ 2097152 < r → z2 = checkBoxS (x - r) (y - r) (x + r) (y + r):=fun a b => by
    rw [hz2,wrap_in (x:=x - r) (by unfold inR; omega),wrap_in (x:=y - r) (by unfold inR; omega),wrap_in (x:=x + r) (by unfold inR; omega),wrap_in (x:=y + r) (by unfold inR; omega)]
   have h4':¬ (1 ≤ r ∧ (2097152 < r ∨ checkBoxS (x - r) (y - r) (x + r) (y + r) ≠ 0)):=by
    rintro ⟨a,b⟩
    simp only [a,decide_true,Bool.true_and,Bool.or_eq_false_iff,decide_eq_false_iff_not,bne_eq_false_iff_eq] at h4
    rw [← hb (by omega) h4.1] at b
    rcases b with b | b
    ·exact h4.1 b
    ·exact b h4.2
   rw [if_pos (by simpa using hk),if_neg h4']
   refine ⟨fun h5 => ?_,fun h5 => ?_⟩
   ·rw [if_pos (by omega)]
   ·rw [if_neg (by omega)]
  ·rw [if_neg (by simpa using hk),if_pos]
   rw [← hz2]
   simp only [bne_iff_ne] at h4
   rcases h4 with ((a | a) | a) | a
   ·exact .inl a
   ·refine .inr (.inr (Bool.eq_false_iff.2 fun hc => ?_))
    rw [hz2] at hc
    have:=(convexS_iff.1 hc).1
    omega
   ·exact .inr (.inl (by omega))
   ·exact .inr (.inr a)
  ·rw [if_neg (by simpa using hk),if_neg]
   rw [← hz2]
   simp only [bne_eq_false_iff_eq] at h4
   rintro (a | a | a)
   ·exact a h4.1.1.1
   ·exact h4.1.2 (by omega)
   ·rw [h4.2] at a; cases a
theorem con139:ConOK Tryz.prog 139 c255:=ConOK.go (G:=[(211,c211),(213,c274),(210,c210),(212,c273)]) (H:=[]) (.cons con211 (.cons con213 (.cons con210 (.cons con212 .nil)))) Tryz.func139 fun l ob rr hc hob => by
 unfold c255 at hc
 split at hc
 ·rename_i k x y r n g
  cases hc
  have hs:spots n g:=hob _ (by simp)
  exact ⟨[formA k x y r n fun i => [i64 (gx g 0 i),i64 (gx g 1 i)]],fun w I vs h => Rs_one (Rs_form hs) h,by kernel_rfl,vc139 k x y r n _ _ (fun i hi => (hs i hi).2) (hob _ (by simp)) (hob _ (by simp)) (hob _ (by simp)) (hob _ (by simp))⟩
 ·cases hc
def dist2 (x y px py:Int):Int:=(px - x) * (px - x) + (py - y) * (py - y)
theorem sq0 (a:Int):0 ≤ a * a:=by rw [← Int.natAbs_mul_self]; exact Int.natCast_nonneg _
theorem dist2_bd {x y px py:Int} (h1:validS x y = true) (h2:validS px py = true):0 ≤ (px - x) * (px - x) ∧ (px - x) * (px - x) ≤ 17592186044416 ∧ 0 ≤ (py - y) * (py - y) ∧ (py - y) * (py - y) ≤ 17592186044416 ∧ sm (px - x) ∧ sm (py - y):=by
 rw [validS_iff] at h1 h2
 have a1:sm (px - x):=by unfold sm; omega
 have a2:sm (py - y):=by unfold sm; omega
 have b1:=sm_mul a1 a1
 have b2:=sm_mul a2 a2
 have c1:0 ≤ (px - x) * (px - x):=sq0 _
 have c2:0 ≤ (py - y) * (py - y):=sq0 _
 exact ⟨c1,b1.2,c2,b2.2,a1,a2⟩
theorem dist2_wrap {x y px py:Int} (h1:validS x y = true) (h2:validS px py = true) :
  IntKind.i64.wrap (IntKind.i64.wrap (IntKind.i64.wrap (px - x) * IntKind.i64.wrap (px - x)) + IntKind.i64.wrap (IntKind.i64.wrap (py - y) * IntKind.i64.wrap (py - y))) = dist2 x y px py:=by
 obtain ⟨c1,b1,c2,b2,a1,a2⟩:=dist2_bd h1 h2
 unfold sm at a1 a2
 rw [wrap_in (x:=px - x) (by unfold inR; omega),wrap_in (x:=py - y) (by unfold inR; omega),wrap_in (x:=(px - x) * (px - x)) (by unfold inR; omega),wrap_in (x:=(py - y) * (py - y)) (by unfold inR; omega),wrap_in (by unfold inR; omega)]
 rfl
theorem sq_wrap {r:Int} (h:sm r):IntKind.i64.wrap (r * r) = r * r:=by
 have:=sm_mul h h
 exact wrap_in (by unfold inR; omega)
def inS (n:Nat) (X Y:Nat → Int) (px py:Int):Bool:=decide (∀ i,i < n → 0 ≤ turnS (X i) (Y i) (X (nxt n i)) (Y (nxt n i)) px py)
theorem inS_iff {n:Nat} {X Y:Nat → Int} {px py:Int}:inS n X Y px py = true ↔ ∀ i,i < n → 0 ≤ turnS (X i) (Y i) (X (nxt n i)) (Y (nxt n i)) px py:=by unfold inS; simp
def holdsS (k x y r:Int) (n:Nat) (X Y:Nat → Int) (px py:Int):Bool:=if k = 1 then decide (dist2 x y px py ≤ r * r) else inS n X Y px py
theorem check_1 {k x y r:Int} {n:Nat} {X Y:Nat → Int} (h:checkS k x y r n X Y = 0):(k = 1 ∨ k = 2) ∧ validS x y = true ∧ (∀ i,i < n → validS (X i) (Y i) = true) ∧ (k = 1 → 1 ≤ r ∧ r ≤ 2097152 ∧ checkBoxS (x - r) (y - r) (x + r) (y + r) = 0 ∧ n = 0) ∧ (k ≠ 1 → r = 0 ∧ n ≤ 8 ∧ convexS n X Y = true):=by
 unfold checkS at h
 split at h
 ·omega
 ·split at h
  ·omega
  ·rename_i h1 h2
   have h2:validS x y = true ∧ ∀ i,i < n → validS (X i) (Y i) = true:=Decidable.of_not_not h2
   split at h
   ·rename_i h3
    split at h
    ·omega
    ·rename_i h4
     split at h
     ·omega
     ·rename_i h5
      refine ⟨.inl h3,h2.1,h2.2,fun _ => ⟨by omega,by omega,?_,by omega⟩,fun h => absurd h3 h⟩
      by_cases e:checkBoxS (x - r) (y - r) (x + r) (y + r) = 0
      ·exact e
      ·exact absurd ⟨by omega,.inr e⟩ h4
   ·rename_i h3
    split at h
    ·omega
    ·rename_i h5
     refine ⟨by omega,h2.1,h2.2,fun h => absurd h h3,fun _ => ⟨by omega,by omega,?_⟩⟩
     cases hc:convexS n X Y
     ·exact absurd (.inr (.inr hc)) h5
     ·rfl
theorem vc224 (k x y r:Int) (n:Nat) (X Y:Nat → Int) (px py:Int) (hc:checkS k x y r n X Y = 0) (hp:validS px py = true) (hn:n ≤ 9223372036854775806):fnVC Tryz.prog [(261,c261),(214,c214),(215,c194)] [] Tryz.f224 [formA k x y r n fun i => [i64 (X i),i64 (Y i)],.agg [i64 px,i64 py]] (· = bo (holdsS k x y r n X Y px py)):=by
 refine fnVC_go (rs:=[.tmp 4]) rfl rfl ?_
 simp only [go_sem,c214,c194]
 obtain ⟨hk,v1,v2,h1,h2⟩:=check_1 hc
 refine ⟨fun hk1 z hz z1 hz1 z2 hz2 z3 hz3 => ?_,fun hk1 => ?_⟩
 ·have hk1:k = 1:=by simpa using hk1
  subst hz hz1
  rw [hz2,hz3,dist2_wrap v1 hp,sq_wrap (by have:=h1 hk1; unfold sm; omega)]
  unfold holdsS; rw [if_pos hk1]
 have hk1:k ≠ 1:=by simpa using hk1
 have h3:=(convexS_iff.1 (h2 hk1).2.2).1
 have eh:holdsS k x y r n X Y px py = inS n X Y px py:=by unfold holdsS; rw [if_neg hk1]
 rw [eh]
 refine loopC_go (fun (i:Nat) => i ≤ n ∧ ∀ j,j < i → 0 ≤ turnS (X j) (Y j) (X (nxt n j)) (Y (nxt n j)) px py) (fun i => n - i) (fun i => [(6,i64 i)]) (fun _ => []) [1,0] [23,24,25,26,27,30,31,32,33,34,35,36,37,38,39,40,41,42,43,44,45,46,47,4,28,29,6] 0 (by kernel_rfl) ?_ ⟨Nat.zero_le _,fun j hj => by omega⟩ ?_ ?_
 ·intro x _; simp [goodNames]
 ·simp only [go_sem]
 ·intro i hi
  have hn0:((n:Int) = 0) = False:=eq_false (by omega)
  simp only [go_sem,hn0,c261]
  have ei:i < n → IntKind.i64.wrap ((i:Int) + 1) = i + 1:=fun h => wrap_in (by unfold inR; omega)
  refine ⟨fun hin => ?_,fun hin => (inS_iff.2 fun j hj => hi.2 j (by omega)).symm⟩
  have hin':i < n:=by omega
  refine ⟨by omega,hin,fun z hz z1 hz1 => ?_⟩
  rw [hz,ei hin',tmod_nxt hin'] at hz1
  have hnl:=nxt_lt hin'
  subst hz1
  have es:sideS (X i) (Y i) (X (nxt n i)) (Y (nxt n i)) px py < 0 ↔ turnS (X i) (Y i) (X (nxt n i)) (Y (nxt n i)) px py < 0:=by
   unfold sideS
   rw [if_pos ⟨v2 i hin',v2 _ hnl,hp⟩]
   split
   ·omega
   ·split <;> omega
  refine ⟨by omega,by omega,fun z2 hz2 => ?_⟩
  simp only [Int.toNat_natCast] at hz2
  refine ⟨fun h => false_of fun hc => ?_,fun h z3 hz3 => ⟨i + 1,⟨by omega,fun j hj => ?_⟩,by omega,?_⟩⟩
  ·have:=inS_iff.1 hc i hin'
   rw [hz2] at h
   have:=es.1 h
   omega
  ·by_cases e:j = i
   ·subst e
    rw [hz2] at h
    have:¬ turnS (X j) (Y j) (X (nxt n j)) (Y (nxt n j)) px py < 0:=fun a => h (es.2 a)
    omega
   ·exact hi.2 j (by omega)
  ·rw [hz3,ei hin']; rfl
def c224:Con
 | [.agg [.v (.int .i64 k),.v (.int .i64 x),.v (.int .i64 y),.v (.int .i64 r),.ro n 2 g],.agg [.v (.int .i64 px),.v (.int .i64 py)]] => some ([spots n g,n ≤ 9223372036854775806,checkS k x y r n (gx g 0) (gx g 1) = 0,validS px py = true],bo (holdsS k x y r n (gx g 0) (gx g 1) px py))
 | _ => none
theorem con224:ConOK Tryz.prog 224 c224:=ConOK.go (G:=[(261,c261),(214,c214),(215,c194)]) (H:=[]) (.cons con261 (.cons con214 (.cons con215 .nil))) Tryz.func224 fun l ob rr hc hob => by
 unfold c224 at hc
 split at hc
 ·rename_i k x y r n g px py
  cases hc
  have hs:spots n g:=hob _ (by simp)
  exact ⟨[formA k x y r n fun i => [i64 (gx g 0 i),i64 (gx g 1 i)],.agg [i64 px,i64 py]],fun w I vs h => Rs_two (Rs_form hs) (fun v h => h) h,by kernel_rfl,vc224 k x y r n _ _ px py (hob _ (by simp)) (hob _ (by simp)) (hob _ (by simp))⟩
 ·cases hc
end Go.Ax
end
section
/-
  Forms: their boxes; the law of spots in forms.
-/
set_option maxHeartbeats 2000000
set_option maxRecDepth 100000
namespace Go.Ax
open Go.Proofs
end Go.Ax
end
section
/-
  Sums of vectors, the reference's.
-/
set_option maxHeartbeats 4000000
set_option maxRecDepth 100000
namespace Go.Ax
open Go.Proofs
section
variable {N M q:Nat} {σ:Names} {m rows:Mem} {x:Fam} {a b:AV} {n sz f k r:Nat} {ty:TypeId} {get:Nat → List AV}
def emptyF (x:Fam):Prop:=∀ f,(x f).n = 0 ∧ (x f).g = none
def fitQ (N M:Nat) (σ:Names) (m:Mem) (x:Fam):Option Nat → Prop
 | some k => fitF N M σ x (look m k)
 | none => emptyF x
theorem fitRows_z:fitRows N M σ m [] = True:=(rfl)
theorem fitRows_c:fitRows N M σ m ((q,x) :: rows) = (fitQ N M σ m x (asg σ q) ∧ fitRows N M σ m rows):=by
 show ((match asg σ q with
  | some k => ∃ y,look m k = some y ∧ ∀ f,fitRow N M σ (x f) (y f)
  | none => ∀ f,(x f).n = 0 ∧ (x f).g = none) ∧ _) = _
 unfold fitQ fitF emptyF
 cases asg σ q with
 | none => rfl
 | some k => cases h:look m k <;> simp [h]
theorem fitQ_some:fitQ N M σ m x (some k) = fitF N M σ x (look m k):=(rfl)
theorem fitQ_none:fitQ N M σ m x none = emptyF x:=(rfl)
theorem emptyF_N:emptyF (famN n sz ty get none) = (n = 0):=by
 unfold emptyF
 apply propext
 constructor
 ·intro h; have:=(h 0).1; simpa [famN] using this
 ·intro h f
  subst h
  unfold famN
  split <;> exact ⟨rfl,rfl⟩
def ownA (f n sz:Nat) (a:AV):Option Nat → Prop
 | some k => a = .own k f n sz
 | none => n = 0 ∧ a = .v (.slice none 0 0)
theorem fit1_ownA:fit1 N M σ (.own q f n sz) a = (q < M ∧ ownA f n sz a (asg σ q)):=by
 simp only [fit1,ownA]
 cases asg σ q <;> rfl
theorem ownA_some:ownA f n sz (.own r f k sz) (some r) = (k = n):=by simp [ownA]
theorem ownA_none:ownA f n sz (.v (.slice none 0 0)) none = (n = 0):=by simp [ownA]
theorem asg_z:asg [] r = some r:=(rfl)
theorem asg_c {y:Option Nat}:asg ((k,y) :: σ) r = if k = r then y else asg σ r:=(rfl)
end
attribute [go_sem] fitRows_z fitRows_c fitQ_some fitQ_none emptyF_N fit1_ownA ownA_some ownA_none asg_z asg_c
def c222:Con
 | [.ro n 4 g] => some ([vecs n g,n ≤ 1000],ve (su1 n (gx g 0) (gb g 1)) (su1 n (gx g 2) (gb g 3)))
 | _ => none
theorem vc222 (n:Nat) (X Y:Nat → Int) (E F:Nat → Bool) (hX:∀ i,i < n → inR (X i) ∧ inR (Y i)) (hn:n ≤ 1000):fnVC Tryz.prog [(248,c248)] [(5,⟨[(7,.slot 3)],[(13,[.slot 3]),(14,[.slot 3])]⟩)] Tryz.f222 [.ro n 4 fun i => [i64 (X i),bo (E i),i64 (Y i),bo (F i)]] (· = ve (su1 n X E) (su1 n Y F)):=by
 refine fnVC_go (rs:=[.cell 2 29]) rfl rfl ?_
 simp only [go_sem]
 refine loopN_go (fun (i:Nat) => i ≤ n) (fun i => n - i) (fun i => [(5,i64 i),(3,.own 4 0 i 2),(4,.own 5 0 i 2)]) (fun i => [(4,famN i 2 27 (fun k => [i64 (X k),bo (E k)]) none),(5,famN i 2 27 (fun k => [i64 (Y k),bo (F k)]) none)]) [0] [6,7,8,9,12,13,14,15,16,17,18,19,20,21,22,23,24,25,26,27,3,4,10,11,5] 2 0 (by kernel_rfl) (Nat.zero_le _) ⟨[(4,none),(5,none)],?_,?_,?_,?_⟩ ?_
 ·simp only [go_sem]
 ·simp only [go_sem]
 ·simp only [go_sem]
 ·simp [goodNames,asg]
 intro i hi
 simp only [go_sem,c248]
 have hb:bytesT Tryz.prog 27 = 16:=by kernel_rfl
 rw [hb]
 refine ⟨fun h => ⟨by omega,h,by omega,by omega,by omega,h,by omega,by omega,fun z hz => ⟨i + 1,by omega,by omega,[(4,some 17),(5,some 25)],?_⟩⟩,fun h => ?_⟩
 ·simp only [go_sem]
  refine ⟨by rw [hz,wrap_in (by unfold inR; omega)]; rfl,⟨fun k hk => ?_,fun k hk => ?_⟩,by simp [goodNames,asg]⟩
  ·by_cases e:k < i
   ·rw [if_pos e]; simp only [go_sem]
   ·have e:k = i:=by omega
    subst e
    rw [if_neg (by omega),Nat.sub_self]
    simp only [Nat.zero_mul,go_sem]
  ·by_cases e:k < i
   ·rw [if_pos e]; simp only [go_sem]
   ·have e:k = i:=by omega
    subst e
    rw [if_neg (by omega),Nat.sub_self]
    simp only [Nat.zero_mul,go_sem]
 ·have e:i = n:=by omega
  subst e
  have hx:∀ j,j < i → (fun j => [i64 (X j),bo (E j)]) j = [i64 (X j),bo (E j)]:=fun j hj => rfl
  have hy:∀ j,j < i → (fun j => [i64 (Y j),bo (F j)]) j = [i64 (Y j),bo (F j)]:=fun j hj => rfl
  obtain ⟨e1,e2⟩:=wvS_up hx
  obtain ⟨e3,e4⟩:=wvS_up hy
  simp only [forall_eq,e1,e2,e3,e4]
  exact ⟨nums_up hx fun j hj => (hX j hj).1,hn,nums_up hy fun j hj => (hX j hj).2,hn,rfl⟩
theorem con222:ConOK Tryz.prog 222 c222:=ConOK.go (G:=[(248,c248)]) (H:=[(5,⟨[(7,.slot 3)],[(13,[.slot 3]),(14,[.slot 3])]⟩)]) (.cons con248 .nil) Tryz.func222 fun l ob r hc hob => by
 unfold c222 at hc
 split at hc
 ·rename_i n g
  cases hc
  have hs:vecs n g:=hob _ (by simp)
  exact ⟨[.ro n 4 fun i => [i64 (gx g 0 i),bo (gb g 1 i),i64 (gx g 2 i),bo (gb g 3 i)]],fun w I vs h => Rs_one (fun v => ro_alike fun i hi => (hs i hi).1) h,by kernel_rfl,vc222 n _ _ _ _ (fun i hi => (hs i hi).2) (hob _ (by simp))⟩
 ·cases hc
end Go.Ax
end
section
/-
  Rays.
-/
set_option maxHeartbeats 4000000
set_option maxRecDepth 100000
namespace Go.Ax
open Go.Proofs
def nSq (a:Nb):Nb:=(sqV (whV a.1),sqF (whV a.1) (whF a.1 a.2))
def nCl (x l h:Nb):Nb:=(max (whV l.1) (min (whV x.1) (whV h.1)),whF l.1 l.2 || (whF x.1 x.2 || whF h.1 h.2))
theorem sqV_rg {v:Int}:rg (sqV v):=by
 unfold sqV; split
 ·unfold rg; omega
 ·exact ftV_rg _
theorem nPos_rg {a:Nb} (h:inR a.1):rg (nPos a).1:=by
 have:=whV_rg h
 unfold nPos rg at *; dsimp only; split <;> omega
end Go.Ax
end
section
/-
  Numbers and vectors ars they are computed with: contracts whose results are whole numbers and whole vectors; the reference's vectors.
-/
set_option maxHeartbeats 4000000
set_option maxRecDepth 100000
namespace Go.Ax
open Go.Proofs
abbrev V2:=Nb × Nb
def nbA (a:Nb):AV:=.agg [i64 a.1,bo a.2]
def veA (a:V2):AV:=.agg [i64 a.1.1,bo a.1.2,i64 a.2.1,bo a.2.2]
def unA (u:Bool × V2):AV:=.tup [.agg [i64 u.2.1.1,bo u.2.1.2,i64 u.2.2.1,bo u.2.2.2],bo u.1]
theorem bnd_nb {a:Nb}:bnd (nbA a) = .agg [i64 a.1,bo a.2]:=(rfl)
theorem bnd_ve {a:V2}:bnd (veA a) = .agg [i64 a.1.1,bo a.1.2,i64 a.2.1,bo a.2.2]:=(rfl)
theorem bnd_un {u:Bool × V2}:bnd (unA u) = .tup [.agg [i64 u.2.1.1,bo u.2.1.2,i64 u.2.2.1,bo u.2.2.2],bo u.1]:=(rfl)
theorem plain_nb {a:Nb}:plain 3 (nbA a) = true:=(rfl)
theorem plain_ve {a:V2}:plain 3 (veA a) = true:=(rfl)
theorem plain_un {u:Bool × V2}:plain 3 (unA u) = true:=(rfl)
theorem etaN {a:Nb}:(a.1,a.2) = a:=(rfl)
theorem etaV {a:V2}:(a.1,a.2) = a:=(rfl)
theorem gx_rows1 {a b:Int} {e f:Bool}:gx (rowsOf 2 [i64 a,bo e,i64 b,bo f]) 0 0 = a:=(rfl)
theorem gx_rows2 {a b:Int} {e f:Bool}:gx (rowsOf 2 [i64 a,bo e,i64 b,bo f]) 0 1 = b:=(rfl)
theorem gb_rows1 {a b:Int} {e f:Bool}:gb (rowsOf 2 [i64 a,bo e,i64 b,bo f]) 1 0 = e:=(rfl)
theorem gb_rows2 {a b:Int} {e f:Bool}:gb (rowsOf 2 [i64 a,bo e,i64 b,bo f]) 1 1 = f:=(rfl)
section
variable {a b c d:Int} {e f p q:Bool}
theorem gx4_1:gx (rowsOf 4 [i64 a,bo e,i64 b,bo f,i64 c,bo p,i64 d,bo q]) 0 0 = a:=(rfl)
theorem gx4_2:gx (rowsOf 4 [i64 a,bo e,i64 b,bo f,i64 c,bo p,i64 d,bo q]) 2 0 = b:=(rfl)
theorem gx4_3:gx (rowsOf 4 [i64 a,bo e,i64 b,bo f,i64 c,bo p,i64 d,bo q]) 0 1 = c:=(rfl)
theorem gx4_4:gx (rowsOf 4 [i64 a,bo e,i64 b,bo f,i64 c,bo p,i64 d,bo q]) 2 1 = d:=(rfl)
theorem gb4_1:gb (rowsOf 4 [i64 a,bo e,i64 b,bo f,i64 c,bo p,i64 d,bo q]) 1 0 = e:=(rfl)
theorem gb4_2:gb (rowsOf 4 [i64 a,bo e,i64 b,bo f,i64 c,bo p,i64 d,bo q]) 3 0 = f:=(rfl)
theorem gb4_3:gb (rowsOf 4 [i64 a,bo e,i64 b,bo f,i64 c,bo p,i64 d,bo q]) 1 1 = p:=(rfl)
theorem gb4_4:gb (rowsOf 4 [i64 a,bo e,i64 b,bo f,i64 c,bo p,i64 d,bo q]) 3 1 = q:=(rfl)
theorem vecs_rows:vecs 2 (rowsOf 4 [i64 a,bo e,i64 b,bo f,i64 c,bo p,i64 d,bo q]) = (inR a ∧ inR b ∧ inR c ∧ inR d):=by
 apply propext
 constructor
 ·intro h; exact ⟨(h 0 (by omega)).2.1,(h 0 (by omega)).2.2,(h 1 (by omega)).2.1,(h 1 (by omega)).2.2⟩
 ·rintro ⟨h1,h2,h3,h4⟩; exact vecs2 rfl rfl h1 h2 h3 h4
theorem nums_rows:nums 2 (rowsOf 2 [i64 a,bo e,i64 b,bo f]) = (inR a ∧ inR b):=by
 apply propext
 constructor
 ·intro h; exact ⟨(h 0 (by omega)).2,(h 1 (by omega)).2⟩
 ·rintro ⟨h1,h2⟩; exact nums2 rfl rfl h1 h2
theorem vecs_row1:vecs 1 (rowsOf 4 [i64 a,bo e,i64 b,bo f]) = (inR a ∧ inR b):=by
 apply propext
 constructor
 ·intro h; exact ⟨(h 0 (by omega)).2.1,(h 0 (by omega)).2.2⟩
 ·rintro ⟨h1,h2⟩; exact vecs1 rfl h1 h2
theorem nums_row1:nums 1 (rowsOf 2 [i64 a,bo e]) = inR a:=by
 apply propext
 constructor
 ·intro h; exact (h 0 (by omega)).2
 ·intro h; exact nums1 rfl h
end
def nAbs (a:Nb):Nb:=(ab (whV a.1),whF a.1 a.2)
def nMx (a b:Nb):Nb:=(if whV a.1 < whV b.1 then whV b.1 else whV a.1,whF a.1 a.2 || whF b.1 b.2)
def nMn (a b:Nb):Nb:=(if whV b.1 < whV a.1 then whV b.1 else whV a.1,whF a.1 a.2 || whF b.1 b.2)
def vLoc (x y:Int):V2:=(nRat x 256,nRat y 256)
def vAdd (a b:V2):V2:=(nAdd a.1 b.1,nAdd a.2 b.2)
def vSub (a b:V2):V2:=(nSub a.1 b.1,nSub a.2 b.2)
def vScale (v:V2) (k:Nb):V2:=(nMul v.1 k,nMul v.2 k)
def vDot (a b:V2):Nb:=nDot a.1 b.1 a.2 b.2
def vCross (a b:V2):Nb:=nDot a.1 b.2 (nNeg a.2) b.1
def vLen (a:V2):Nb:=nHyp a.1 a.2
def vOf (x y:Int):V2:=(nInt x,nInt y)
def vUnit (v:V2):Bool × V2:=unS v.1.1 v.1.2 v.2.1 v.2.2
def vApply (r v:V2):V2:=(nDot r.1 v.1 (nNeg r.2) v.2,nDot r.2 v.1 r.1 v.2)
def vNorm (a b c d:Int):V2:=(vUnit (vOf (d - b) (-(c - a)))).2
theorem inR_of {x:Int} (h:rg x):inR x = True:=eq_true (rg_inR h)
section
variable {a b c d:Nb} {u v:V2} {x y:Int}
theorem iMul:inR (nMul a b).1 = True:=inR_of nMul_rg
theorem iDiv:inR (nDiv a b).1 = True:=inR_of nDiv_rg
theorem iInt:inR (nInt x).1 = True:=inR_of nInt_rg
theorem iAdd:inR (nAdd a b).1 = True:=inR_of nAdd_rg
theorem iSub:inR (nSub a b).1 = True:=inR_of nSub_rg
theorem iRat:inR (nRat x y).1 = True:=inR_of nRat_rg
theorem iDot:inR (nDot a b c d).1 = True:=inR_of nDot_rg
theorem iHyp:inR (nHyp a b).1 = True:=inR_of nHyp_rg
theorem iSq:inR (nSq a).1 = True:=inR_of sqV_rg
theorem iNeg (h:inR a.1):inR (nNeg a).1 = True:=inR_of (nNeg_rg h)
theorem iPos (h:inR a.1):inR (nPos a).1 = True:=inR_of (nPos_rg h)
theorem iAbs (h:inR a.1):inR (nAbs a).1 = True:=by
 refine inR_of ?_
 have:=whV_rg h
 unfold nAbs ab rg at *; dsimp only; split <;> omega
theorem iMx (h:inR a.1) (k:inR b.1):inR (nMx a b).1 = True:=by
 refine inR_of ?_
 have h1:=whV_rg h
 have h2:=whV_rg k
 unfold nMx rg at *; dsimp only; split <;> omega
theorem iMn (h:inR a.1) (k:inR b.1):inR (nMn a b).1 = True:=by
 refine inR_of ?_
 have h1:=whV_rg h
 have h2:=whV_rg k
 unfold nMn rg at *; dsimp only; split <;> omega
theorem iCl (h:inR a.1) (k:inR b.1) (l:inR c.1):inR (nCl a b c).1 = True:=by
 refine inR_of ?_
 have h1:=whV_rg h
 have h2:=whV_rg k
 have h3:=whV_rg l
 unfold nCl rg at *; dsimp only; omega
theorem iLoc1:inR (vLoc x y).1.1 = True:=iRat
theorem iLoc2:inR (vLoc x y).2.1 = True:=iRat
theorem iVAdd1:inR (vAdd u v).1.1 = True:=iAdd
theorem iVAdd2:inR (vAdd u v).2.1 = True:=iAdd
theorem iVSub1:inR (vSub u v).1.1 = True:=iSub
theorem iVSub2:inR (vSub u v).2.1 = True:=iSub
theorem iScale1:inR (vScale u a).1.1 = True:=iMul
theorem iScale2:inR (vScale u a).2.1 = True:=iMul
theorem iVDot:inR (vDot u v).1 = True:=iDot
theorem iVCross:inR (vCross u v).1 = True:=iDot
theorem iLen:inR (vLen u).1 = True:=iHyp
theorem iOf1:inR (vOf x y).1.1 = True:=iInt
theorem iOf2:inR (vOf x y).2.1 = True:=iInt
theorem iUnit1:inR (vUnit u).2.1.1 = True:=inR_of unS_rg.1
theorem iUnit2:inR (vUnit u).2.2.1 = True:=inR_of unS_rg.2
theorem iApply1:inR (vApply u v).1.1 = True:=iDot
theorem iApply2:inR (vApply u v).2.1 = True:=iDot
theorem iNorm1 {z t:Int}:inR (vNorm x y z t).1.1 = True:=iUnit1
theorem iNorm2 {z t:Int}:inR (vNorm x y z t).2.1 = True:=iUnit2
theorem inR_0:inR 0 = True:=eq_true (by unfold inR; omega)
theorem inR_1:inR 1 = True:=eq_true (by unfold inR; omega)
theorem inR_2:inR 2 = True:=eq_true (by unfold inR; omega)
theorem inR_m1:inR (-1) = True:=eq_true (by unfold inR; omega)
theorem inR_256:inR 256 = True:=eq_true (by unfold inR; omega)
theorem inR_one:inR 4294967296 = True:=eq_true (by unfold inR; omega)
end
attribute [go_sem] bnd_nb bnd_ve bnd_un plain_nb plain_ve plain_un etaN etaV gx_rows1 gx_rows2 gb_rows1 gb_rows2 gx4_1 gx4_2 gx4_3 gx4_4 gb4_1 gb4_2 gb4_3 gb4_4 vecs_rows nums_rows vecs_row1 nums_row1
attribute [go_sem] iMul iDiv iInt iAdd iSub iRat iDot iHyp iSq iNeg iPos iAbs iMx iMn iCl iLoc1 iLoc2 iVAdd1 iVAdd2 iVSub1 iVSub2 iScale1 iScale2 iVDot iVCross iLen iOf1 iOf2 iUnit1 iUnit2 iApply1 iApply2 iNorm1 iNorm2 inR_0 inR_1 inR_2 inR_m1 inR_256 inR_one
def k127:Con
 | [.v (.int .i64 n)] => some ([inR n],nbA (nInt n))
 | _ => none
theorem kon127:ConOK Tryz.prog 103 k127:=(show c103 = k127 by kernel_rfl) ▸ con103
def k50:Con
 | [.v (.int .i64 n)] => some ([inR n],nbA (nInt n))
 | _ => none
theorem kon50:ConOK Tryz.prog 33 k50:=(show c33 = k50 by kernel_rfl) ▸ con33
def k179:Con
 | [.agg [.v (.int .i64 v),.v (.bool f)]] => some ([inR v],nbA (nNeg (v,f)))
 | _ => none
theorem kon179:ConOK Tryz.prog 112 k179:=(show c112 = k179 by kernel_rfl) ▸ con112
def k111:Con
 | [.agg [.v (.int .i64 v),.v (.bool f)]] => some ([inR v],nbA (nNeg (v,f)))
 | _ => none
theorem kon111:ConOK Tryz.prog 184 k111:=(show c184 = k111 by kernel_rfl) ▸ con184
def k126:Con
 | [.agg [.v (.int .i64 v),.v (.bool f)]] => some ([inR v],nbA (nAbs (v,f)))
 | _ => none
theorem kon126:ConOK Tryz.prog 50 k126:=(show c50 = k126 by kernel_rfl) ▸ con50
def k45:Con
 | [.agg [.v (.int .i64 v),.v (.bool f)]] => some ([inR v],nbA (nAbs (v,f)))
 | _ => none
theorem kon45:ConOK Tryz.prog 240 k45:=(show c240 = k45 by kernel_rfl) ▸ con240
def k129:Con
 | [.agg [.v (.int .i64 v),.v (.bool f)],.agg [.v (.int .i64 u),.v (.bool e)]] => some ([inR v,inR u],nbA (nMul (v,f) (u,e)))
 | _ => none
theorem kon129:ConOK Tryz.prog 47 k129:=(show c47 = k129 by kernel_rfl) ▸ con47
def k52:Con
 | [.agg [.v (.int .i64 v),.v (.bool f)],.agg [.v (.int .i64 u),.v (.bool e)]] => some ([inR v,inR u],nbA (nMul (v,f) (u,e)))
 | _ => none
theorem kon52:ConOK Tryz.prog 185 k52:=(show c185 = k52 by kernel_rfl) ▸ con185
def k125:Con
 | [.agg [.v (.int .i64 v),.v (.bool f)],.agg [.v (.int .i64 u),.v (.bool e)],.agg [.v (.int .i64 x),.v (.bool p)],.agg [.v (.int .i64 y),.v (.bool q)]] => some ([inR v,inR u,inR x,inR y],nbA (nDot (v,f) (u,e) (x,p) (y,q)))
 | _ => none
theorem kon125:ConOK Tryz.prog 129 k125:=(show c129 = k125 by kernel_rfl) ▸ con129
def k136:Con
 | [.agg [.v (.int .i64 v),.v (.bool f)],.agg [.v (.int .i64 u),.v (.bool e)],.agg [.v (.int .i64 x),.v (.bool p)],.agg [.v (.int .i64 y),.v (.bool q)]] => some ([inR v,inR u,inR x,inR y],nbA (nDot (v,f) (u,e) (x,p) (y,q)))
 | _ => none
theorem kon136:ConOK Tryz.prog 238 k136:=(show c238 = k136 by kernel_rfl) ▸ con238
def k160:Con
 | [.agg [.v (.int .i64 v),.v (.bool f)],.agg [.v (.int .i64 u),.v (.bool e)]] => some ([inR v,inR u],nbA (nSub (v,f) (u,e)))
 | _ => none
theorem kon160:ConOK Tryz.prog 111 k160:=(show c111 = k160 by kernel_rfl) ▸ con111
def k46:Con
 | [.agg [.v (.int .i64 v),.v (.bool f)],.agg [.v (.int .i64 u),.v (.bool e)]] => some ([inR v,inR u],nbA (nSub (v,f) (u,e)))
 | _ => none
theorem kon46:ConOK Tryz.prog 220 k46:=(show c220 = k46 by kernel_rfl) ▸ con220
def k132:Con
 | [.v (.int .i64 a),.v (.int .i64 b)] => some ([inR a,inR b],nbA (nRat a b))
 | _ => none
theorem kon132:ConOK Tryz.prog 52 k132:=(show c52 = k132 by kernel_rfl) ▸ con52
def k54:Con
 | [.v (.int .i64 a),.v (.int .i64 b)] => some ([inR a,inR b],nbA (nRat a b))
 | _ => none
theorem kon54:ConOK Tryz.prog 151 k54:=(show c151 = k54 by kernel_rfl) ▸ con151
def k168:Con
 | [.agg [.v (.int .i64 v),.v (.bool f)],.agg [.v (.int .i64 u),.v (.bool e)]] => some ([inR v,inR u],nbA (nDiv (v,f) (u,e)))
 | _ => none
theorem kon168:ConOK Tryz.prog 78 k168:=(show c78 = k168 by kernel_rfl) ▸ con78
def k144:Con
 | [.agg [.v (.int .i64 v),.v (.bool f)],.agg [.v (.int .i64 u),.v (.bool e)]] => some ([inR v,inR u],nbA (nDiv (v,f) (u,e)))
 | _ => none
theorem kon144:ConOK Tryz.prog 150 k144:=(show c150 = k144 by kernel_rfl) ▸ con150
def k213:Con
 | [.agg [.v (.int .i64 v),.v (.bool f)],.agg [.v (.int .i64 u),.v (.bool e)]] => some ([inR v,inR u],nbA (nHyp (v,f) (u,e)))
 | _ => none
theorem kon213:ConOK Tryz.prog 162 k213:=(show c162 = k213 by kernel_rfl) ▸ con162
def k112:Con
 | [.agg [.v (.int .i64 v),.v (.bool f)],.agg [.v (.int .i64 u),.v (.bool e)]] => some ([inR v,inR u],nbA (nHyp (v,f) (u,e)))
 | _ => none
theorem kon112:ConOK Tryz.prog 267 k112:=(show c267 = k112 by kernel_rfl) ▸ con267
def k171:Con
 | [.agg [.v (.int .i64 x),.v (.bool f)],.agg [.v (.int .i64 l),.v (.bool p)],.agg [.v (.int .i64 h),.v (.bool q)]] => some ([inR x,inR l,inR h],nbA (nCl (x,f) (l,p) (h,q)))
 | _ => none
theorem kon171:ConOK Tryz.prog 102 k171:=(show c102 = k171 by kernel_rfl) ▸ con102
def k146:Con
 | [.agg [.v (.int .i64 x),.v (.bool f)],.agg [.v (.int .i64 l),.v (.bool p)],.agg [.v (.int .i64 h),.v (.bool q)]] => some ([inR x,inR l,inR h],nbA (nCl (x,f) (l,p) (h,q)))
 | _ => none
theorem kon146:ConOK Tryz.prog 186 k146:=(show c186 = k146 by kernel_rfl) ▸ con186
def k69:Con
 | [.agg [.v (.int .i64 x),.v (.int .i64 y)]] => some ([inR x,inR y],veA (vLoc x y))
 | _ => none
theorem kon69:ConOK Tryz.prog 159 k69:=(show c159 = k69 by kernel_rfl) ▸ con159
def k161:Con
 | [.agg [.v (.int .i64 x),.v (.bool e),.v (.int .i64 y),.v (.bool f)]] => some ([inR x,inR y],nbA (vLen ((x,e),(y,f))))
 | _ => none
theorem kon161:ConOK Tryz.prog 175 k161:=(show c175 = k161 by kernel_rfl) ▸ con175
def k169:Con
 | [.agg [.v (.int .i64 x),.v (.bool e),.v (.int .i64 y),.v (.bool f)],.agg [.v (.int .i64 k),.v (.bool g)]] => some ([inR x,inR y,inR k],veA (vScale ((x,e),(y,f)) (k,g)))
 | _ => none
theorem kon169:ConOK Tryz.prog 44 k169:=(show c44 = k169 by kernel_rfl) ▸ con44
def k178:Con
 | [.agg [.v (.int .i64 x),.v (.bool e),.v (.int .i64 y),.v (.bool f)],.agg [.v (.int .i64 z),.v (.bool g),.v (.int .i64 t),.v (.bool h)]] => some ([inR x,inR y,inR z,inR t],nbA (vDot ((x,e),(y,f)) ((z,g),(t,h))))
 | _ => none
theorem kon178:ConOK Tryz.prog 174 k178:=(show c174 = k178 by kernel_rfl) ▸ con174
def k250:Con
 | [.agg [.v (.int .i64 x),.v (.bool e),.v (.int .i64 y),.v (.bool f)],.agg [.v (.int .i64 z),.v (.bool g),.v (.int .i64 t),.v (.bool h)]] => some ([inR x,inR y,inR z,inR t],nbA (vCross ((x,e),(y,f)) ((z,g),(t,h))))
 | _ => none
theorem kon250:ConOK Tryz.prog 85 k250:=(show c85 = k250 by kernel_rfl) ▸ con85
def k165:Con
 | [.agg [.v (.int .i64 x),.v (.bool e),.v (.int .i64 y),.v (.bool f)]] => some ([inR x,inR y],unA (vUnit ((x,e),(y,f))))
 | _ => none
theorem kon165:ConOK Tryz.prog 172 k165:=(show c172 = k165 by kernel_rfl) ▸ con172
def k139:Con
 | [.agg [.v (.int .i64 x),.v (.bool e),.v (.int .i64 y),.v (.bool f)],.agg [.v (.int .i64 z),.v (.bool g),.v (.int .i64 t),.v (.bool h)]] => some ([inR x,inR y,inR z,inR t],veA (vApply ((x,e),(y,f)) ((z,g),(t,h))))
 | _ => none
theorem kon139:ConOK Tryz.prog 242 k139:=(show c242 = k139 by kernel_rfl) ▸ con242
theorem owe2 {p q:Prop} (h1:p) (h2:q):∀ x ∈ [p,q],x:=List.forall_mem_cons.2 ⟨h1,List.forall_mem_cons.2 ⟨h2,fun _ h => (List.not_mem_nil h).elim⟩⟩
def vTwo (g:Nat → List AV):AV:=veA (vAdd ((gx g 0 0,gb g 1 0),(gx g 2 0,gb g 3 0)) ((gx g 0 1,gb g 1 1),(gx g 2 1,gb g 3 1)))
theorem vecs_at {g:Nat → List AV} (h:vecs 2 g):g 0 = [i64 (gx g 0 0),bo (gb g 1 0),i64 (gx g 2 0),bo (gb g 3 0)] ∧ g 1 = [i64 (gx g 0 1),bo (gb g 1 1),i64 (gx g 2 1),bo (gb g 3 1)]:=⟨(h 0 (by omega)).1,(h 1 (by omega)).1⟩
theorem two_eq {g:Nat → List AV} (h:vecs 2 g):ve (su1 2 (gx g 0) (gb g 1)) (su1 2 (gx g 2) (gb g 3)) = vTwo g:=by
 obtain ⟨h0,h1⟩:=vecs_at h
 rw [su2x h0 h1,su2y h0 h1]; rfl
def k130:Con
 | [.ro 2 4 g] => some ([vecs 2 g],veA (vAdd ((gx g 0 0,gb g 1 0),(gx g 2 0,gb g 3 0)) ((gx g 0 1,gb g 1 1),(gx g 2 1,gb g 3 1))))
 | _ => none
theorem kon130:ConOK Tryz.prog 43 k130:=fun l ob r hc hob => by
 unfold k130 at hc
 split at hc
 ·rename_i g
  cases hc
  have h:vecs 2 g:=hob _ (by simp)
  have:=con43 [.ro 2 4 g] _ _ rfl (owe2 h (by omega))
  rw [two_eq h] at this
  exact this
 ·cases hc
def k138:Con
 | [.ro 2 4 g] => some ([vecs 2 g],veA (vAdd ((gx g 0 0,gb g 1 0),(gx g 2 0,gb g 3 0)) ((gx g 0 1,gb g 1 1),(gx g 2 1,gb g 3 1))))
 | _ => none
theorem kon138:ConOK Tryz.prog 222 k138:=fun l ob r hc hob => by
 unfold k138 at hc
 split at hc
 ·rename_i g
  cases hc
  have h:vecs 2 g:=hob _ (by simp)
  have:=con222 [.ro 2 4 g] _ _ rfl (owe2 h (by omega))
  rw [two_eq h] at this
  exact this
 ·cases hc
theorem nums_at {g:Nat → List AV} (h:nums 2 g):g 0 = [i64 (gx g 0 0),bo (gb g 1 0)] ∧ g 1 = [i64 (gx g 0 1),bo (gb g 1 1)]:=⟨(h 0 (by omega)).1,(h 1 (by omega)).1⟩
theorem mx_eq {g:Nat → List AV} (h:nums 2 g):moS (-1) 2 g = nbA (nMx (gx g 0 0,gb g 1 0) (gx g 0 1,gb g 1 1)):=by
 obtain ⟨h0,h1⟩:=nums_at h
 unfold nbA nMx
 have e:=(sum2 h0 h1).2
 have m:=mo2 (o:=-1) h0 h1
 have e1:((-1:Int) = 1) = False:=by decide
 simp only [e1,false_and,false_or,eq_self,true_and] at m
 show AV.agg [i64 (moV (-1) 2 g),bo (wfS 2 g)] = _
 rw [m,e]
theorem mn_eq {g:Nat → List AV} (h:nums 2 g):moS 1 2 g = nbA (nMn (gx g 0 0,gb g 1 0) (gx g 0 1,gb g 1 1)):=by
 obtain ⟨h0,h1⟩:=nums_at h
 unfold nbA nMn
 have e:=(sum2 h0 h1).2
 have m:=mo2 (o:=1) h0 h1
 have e1:((1:Int) = -1) = False:=by decide
 simp only [e1,false_and,or_false,eq_self,true_and] at m
 show AV.agg [i64 (moV 1 2 g),bo (wfS 2 g)] = _
 rw [m,e]
def k143:Con
 | [.ro 2 2 g] => some ([nums 2 g],nbA (nMx (gx g 0 0,gb g 1 0) (gx g 0 1,gb g 1 1)))
 | _ => none
theorem kon143:ConOK Tryz.prog 219 k143:=fun l ob r hc hob => by
 unfold k143 at hc
 split at hc
 ·rename_i g
  cases hc
  have h:nums 2 g:=hob _ (by simp)
  have:=con219 [.ro 2 2 g] _ _ rfl (owe2 h (by omega))
  rw [mx_eq h] at this
  exact this
 ·cases hc
def k163:Con
 | [.ro 2 2 g] => some ([nums 2 g],nbA (nMn (gx g 0 0,gb g 1 0) (gx g 0 1,gb g 1 1)))
 | _ => none
theorem kon163:ConOK Tryz.prog 251 k163:=fun l ob r hc hob => by
 unfold k163 at hc
 split at hc
 ·rename_i g
  cases hc
  have h:nums 2 g:=hob _ (by simp)
  have:=con251 [.ro 2 2 g] _ _ rfl (owe2 h (by omega))
  rw [mn_eq h] at this
  exact this
 ·cases hc
def k214:Con
 | [.ro 2 2 g] => some ([nums 2 g],nbA (nMx (gx g 0 0,gb g 1 0) (gx g 0 1,gb g 1 1)))
 | _ => none
theorem kon214:ConOK Tryz.prog 49 k214:=fun l ob r hc hob => by
 unfold k214 at hc
 split at hc
 ·rename_i g
  cases hc
  have h:nums 2 g:=hob _ (by simp)
  have:=con49 [.ro 2 2 g] _ _ rfl (owe2 h (by omega))
  rw [mx_eq h] at this
  exact this
 ·cases hc
theorem nPos_eq {a:Nb}:nMx (0,false) a = nPos a:=by
 have c1:whV 0 = 0:=by decide
 have c2:whF 0 false = false:=by decide
 unfold nMx nPos
 dsimp only
 rw [c1,c2,Bool.false_or]
attribute [go_sem] nPos_eq
def k47:Con
 | [.agg [.v (.int .i64 x),.v (.bool e),.v (.int .i64 y),.v (.bool f)]] => some ([inR x,inR y],nbA (vLen ((x,e),(y,f))))
 | _ => none
theorem kon47:ConOK Tryz.prog 221 k47:=ConOK.of (G:=[(267,k112)]) (H:=[]) (.cons kon112 .nil) Tryz.func221 fun l ob r hc hob => by
 unfold k47 at hc
 split at hc
 ·rename_i x e y f
  cases hc
  have h_0:inR x:=hob _ (by simp)
  have h_1:inR y:=hob _ (by simp)
  refine ⟨by kernel_rfl,fnVC_go (rs:=[.cell 2 27]) rfl rfl ?_⟩
  simp only [go_sem,k112,h_0,h_1]
  rfl
 ·cases hc
def k145:Con
 | [.agg [.v (.int .i64 x),.v (.bool e),.v (.int .i64 y),.v (.bool f)],.agg [.v (.int .i64 z),.v (.bool g),.v (.int .i64 t),.v (.bool h)]] => some ([inR x,inR y,inR z,inR t],nbA (vDot ((x,e),(y,f)) ((z,g),(t,h))))
 | _ => none
theorem kon145:ConOK Tryz.prog 230 k145:=ConOK.of (G:=[(238,k136)]) (H:=[]) (.cons kon136 .nil) Tryz.func230 fun l ob r hc hob => by
 unfold k145 at hc
 split at hc
 ·rename_i x e y f z g t h
  cases hc
  have h_0:inR x:=hob _ (by simp)
  have h_1:inR y:=hob _ (by simp)
  have h_2:inR z:=hob _ (by simp)
  have h_3:inR t:=hob _ (by simp)
  refine ⟨by kernel_rfl,fnVC_go (rs:=[.cell 4 27]) rfl rfl ?_⟩
  simp only [go_sem,k136,h_0,h_1,h_2,h_3]
  rfl
 ·cases hc
def k147:Con
 | [.agg [.v (.int .i64 x),.v (.bool e),.v (.int .i64 y),.v (.bool f)],.agg [.v (.int .i64 k),.v (.bool g)]] => some ([inR x,inR y,inR k],veA (vScale ((x,e),(y,f)) (k,g)))
 | _ => none
theorem kon147:ConOK Tryz.prog 223 k147:=ConOK.of (G:=[(185,k52)]) (H:=[(1,⟨[(9,.slot 4)],[]⟩)]) (.cons kon52 .nil) Tryz.func223 fun l ob r hc hob => by
 unfold k147 at hc
 split at hc
 ·rename_i x e y f k g
  cases hc
  have h_0:inR x:=hob _ (by simp)
  have h_1:inR y:=hob _ (by simp)
  have h_2:inR k:=hob _ (by simp)
  refine ⟨by kernel_rfl,fnVC_go (rs:=[.cell 4 29]) rfl rfl ?_⟩
  simp only [go_sem,k52,h_0,h_1,h_2]
  rfl
 ·cases hc
def k149:Con
 | [.agg [.v (.int .i64 x),.v (.int .i64 y)]] => some ([inR x,inR y],veA (vOf x y))
 | _ => none
theorem kon149:ConOK Tryz.prog 231 k149:=ConOK.of (G:=[(33,k50)]) (H:=[(1,⟨[(7,.slot 2)],[]⟩)]) (.cons kon50 .nil) Tryz.func231 fun l ob r hc hob => by
 unfold k149 at hc
 split at hc
 ·rename_i x y
  cases hc
  have h_0:inR x:=hob _ (by simp)
  have h_1:inR y:=hob _ (by simp)
  refine ⟨by kernel_rfl,fnVC_go (rs:=[.cell 2 29]) rfl rfl ?_⟩
  simp only [go_sem,k50,h_0,h_1]
  rfl
 ·cases hc
def k181:Con
 | [.agg [.v (.int .i64 x),.v (.bool e),.v (.int .i64 y),.v (.bool f)],.agg [.v (.int .i64 z),.v (.bool g),.v (.int .i64 t),.v (.bool h)]] => some ([inR x,inR y,inR z,inR t],veA (vSub ((x,e),(y,f)) ((z,g),(t,h))))
 | _ => none
theorem kon181:ConOK Tryz.prog 227 k181:=ConOK.of (G:=[(220,k46)]) (H:=[(1,⟨[(11,.slot 4)],[]⟩)]) (.cons kon46 .nil) Tryz.func227 fun l ob r hc hob => by
 unfold k181 at hc
 split at hc
 ·rename_i x e y f z g t h
  cases hc
  have h_0:inR x:=hob _ (by simp)
  have h_1:inR y:=hob _ (by simp)
  have h_2:inR z:=hob _ (by simp)
  have h_3:inR t:=hob _ (by simp)
  refine ⟨by kernel_rfl,fnVC_go (rs:=[.cell 4 29]) rfl rfl ?_⟩
  simp only [go_sem,k46,h_0,h_1,h_2,h_3]
  rfl
 ·cases hc
def k172:Con
 | [.agg [.v (.int .i64 x),.v (.bool e),.v (.int .i64 y),.v (.bool f)],.agg [.v (.int .i64 z),.v (.bool g),.v (.int .i64 t),.v (.bool h)]] => some ([inR x,inR y,inR z,inR t],veA (vSub ((x,e),(y,f)) ((z,g),(t,h))))
 | _ => none
theorem kon172:ConOK Tryz.prog 114 k172:=ConOK.of (G:=[(111,k160)]) (H:=[(1,⟨[(11,.slot 4)],[]⟩)]) (.cons kon160 .nil) Tryz.func114 fun l ob r hc hob => by
 unfold k172 at hc
 split at hc
 ·rename_i x e y f z g t h
  cases hc
  have h_0:inR x:=hob _ (by simp)
  have h_1:inR y:=hob _ (by simp)
  have h_2:inR z:=hob _ (by simp)
  have h_3:inR t:=hob _ (by simp)
  refine ⟨by kernel_rfl,fnVC_go (rs:=[.cell 4 29]) rfl rfl ?_⟩
  simp only [go_sem,k160,h_0,h_1,h_2,h_3]
  rfl
 ·cases hc
end Go.Ax
end
section
/-
  The reference's directions and normals.
-/
set_option maxHeartbeats 4000000
set_option maxRecDepth 100000
namespace Go.Ax
open Go.Proofs
def c264:Con
 | [.ro n 4 g] => some ([vecs n g,n ≤ 1000],bo (vfS n g))
 | _ => none
theorem vc264 (n:Nat) (X Y:Nat → Int) (E F:Nat → Bool) (hX:∀ i,i < n → inR (X i) ∧ inR (Y i)) (hn:n ≤ 1000):fnVC Tryz.prog [(239,c239)] [] Tryz.f264 [.ro n 4 fun i => [i64 (X i),bo (E i),i64 (Y i),bo (F i)]] (· = bo (anyB (fun i => whF (X i) (E i) || whF (Y i) (F i)) n)):=by
 refine fnVC_go (rs:=[.tmp 2]) rfl rfl ?_
 simp only [go_sem]
 refine loopC_go (fun (i:Nat) => i ≤ n ∧ ∀ j,j < i → (whF (X j) (E j) || whF (Y j) (F j)) = false) (fun i => n - i) (fun i => [(3,i64 i)]) (fun _ => []) [] [4,5,6,7,10,11,12,13,14,15,16,17,18,19,20,21,22,23,2,8,9,3] 0 (by kernel_rfl) ?_ ⟨Nat.zero_le _,fun j hj => by omega⟩ ?_ ?_
 ·intro x _; simp [goodNames]
 ·simp only [go_sem]
 ·intro i hi
  simp only [go_sem,c239]
  refine ⟨fun h => ⟨by omega,h,fun z hz => ⟨(hX i (by omega)).1,fun _ => by omega,fun _ => h,fun z1 hz1 => ⟨fun _ => (hX i (by omega)).2,fun hb => ?_,fun hb z2 hz2 => ⟨i + 1,⟨by omega,fun j hj => ?_⟩,by omega,?_⟩⟩⟩⟩,fun h => ?_⟩
  ·have:anyB (fun i => whF (X i) (E i) || whF (Y i) (F i)) n = true:=anyB_iff.2 ⟨i,by omega,by rw [← hz,← hz1]; simpa using hb⟩
   rw [this]
  ·by_cases e:j = i
   ·subst e
    rw [← hz,← hz1]
    simpa using hb
   ·simpa using hi.2 j (by omega)
  ·rw [hz2,wrap_in (by unfold inR; omega)]; rfl
  ·have:anyB (fun i => whF (X i) (E i) || whF (Y i) (F i)) n = false:=by
    rw [Bool.eq_false_iff]
    intro hc
    obtain ⟨j,h1,h2⟩:=anyB_iff.1 hc
    rw [hi.2 j (by omega)] at h2; cases h2
   rw [this]
theorem con264:ConOK Tryz.prog 264 c264:=ConOK.go (G:=[(239,c239)]) (H:=[]) (.cons con239 .nil) Tryz.func264 fun l ob r hc hob => by
 unfold c264 at hc
 split at hc
 ·rename_i n g
  cases hc
  have hs:vecs n g:=hob _ (by simp)
  exact ⟨[.ro n 4 fun i => [i64 (gx g 0 i),bo (gb g 1 i),i64 (gx g 2 i),bo (gb g 3 i)]],fun w I vs h => Rs_one (fun v => ro_alike fun i hi => (hs i hi).1) h,by kernel_rfl,vc264 n _ _ _ _ (fun i hi => (hs i hi).2) (hob _ (by simp))⟩
 ·cases hc
def k140:Con
 | [.agg [.v (.int .i64 x),.v (.bool e),.v (.int .i64 y),.v (.bool f)]] => some ([inR x,inR y],unA (vUnit ((x,e),(y,f))))
 | _ => none
theorem kon140:ConOK Tryz.prog 218 k140:=ConOK.of (G:=[(264,c264),(240,k45),(265,c265),(221,k47),(150,k144)]) (H:=[(5,⟨[(11,.slot 4)],[]⟩),(9,⟨[(9,.slot 2)],[]⟩)]) (.cons con264 (.cons kon45 (.cons con265 (.cons kon47 (.cons kon144 .nil))))) Tryz.func218 fun l ob r hc hob => by
 unfold k140 at hc
 split at hc
 ·rename_i x e y f
  cases hc
  have h_0:inR x:=hob _ (by simp)
  have h_1:inR y:=hob _ (by simp)
  refine ⟨by kernel_rfl,fnVC_go (rs:=[.cell 2 29,.tmp 3]) rfl rfl ?_⟩
  simp only [go_sem,c264,k45,c265,k47,k144,h_0,h_1]
  have eU:vUnit ((x,e),y,f) = unS x e y f:=rfl
  have eab:∀ (v:Int) (g:Bool),whF v g = false → (nAbs (v,g)).1 = ab v:=fun v g h => by
   obtain ⟨h1,_⟩:=wh_split h
   show ab (whV v) = _
   unfold whV; rw [if_neg h1]
  rw [eU]
  intro z hz
  rw [vf1 rfl] at hz
  refine ⟨fun ht => ?_,fun ht => ⟨fun _ => trivial,?_,?_⟩⟩
  ·rw [unS_none (by rw [hz] at ht; simpa using ht)]; rfl
  ·intro hs z1 hz1 z2 hz2 z3 hz3 z4 hz4 z5 hz5 z6 hz6
   have ht2:whF x e = false ∧ whF y f = false:=by rw [hz] at ht; simpa using ht
   have ht:¬ (whF x e = true ∨ whF y f = true):=by rw [ht2.1,ht2.2]; simp
   rw [eab x e ht2.1,eab y f ht2.2] at hs
   have hxb:-16777216 < x ∧ x < 16777216:=by unfold ab at hs; have:=hs.1; split at this <;> omega
   have hyb:-16777216 < y ∧ y < 16777216:=by unfold ab at hs; have:=hs.2; split at this <;> omega
   have hb:unB x y = ((x * 16777216,false),(y * 16777216,false)):=by unfold unB; rw [if_pos hs]
   rw [wrap_in (x:=x * 16777216) (by unfold inR; omega)] at hz1
   rw [wrap_in (x:=y * 16777216) (by unfold inR; omega)] at hz4
   have w1:z2 = x * 16777216:=by rw [hz2,hz1]; unfold whV; rw [if_neg (by omega)]
   have w2:z3 = false:=by rw [hz3,hz1]; unfold whF; rw [decide_eq_false (by omega)]; rfl
   have w3:z5 = y * 16777216:=by rw [hz5,hz4]; unfold whV; rw [if_neg (by omega)]
   have w4:z6 = false:=by rw [hz6,hz4]; unfold whF; rw [decide_eq_false (by omega)]; rfl
   rw [w1,w2,w3,w4]
   refine ⟨by unfold inR; omega,by unfold inR; omega,fun h => ?_,fun h => ⟨by unfold inR; omega,by unfold inR; omega,?_⟩⟩
   ·rw [unS_nul ht hb (by simpa [vLen] using h)]; rfl
   ·rw [unS_some ht hb (by simpa [vLen] using h)]; rfl
  ·intro hs
   have ht2:whF x e = false ∧ whF y f = false:=by rw [hz] at ht; simpa using ht
   have ht:¬ (whF x e = true ∨ whF y f = true):=by rw [ht2.1,ht2.2]; simp
   rw [eab x e ht2.1,eab y f ht2.2] at hs
   have hb:unB x y = ((x,false),(y,false)):=by unfold unB; rw [if_neg (by simpa using hs)]
   obtain ⟨_,rfl⟩:=wh_split ht2.1
   obtain ⟨_,rfl⟩:=wh_split ht2.2
   refine ⟨fun h => ?_,fun h => ?_⟩
   ·rw [unS_nul ht hb (by simpa [vLen] using h)]; rfl
   ·rw [unS_some ht hb (by simpa [vLen] using h)]; rfl
 ·cases hc
def k83:Con
 | [.agg [.v (.int .i64 a),.v (.int .i64 b)],.agg [.v (.int .i64 c),.v (.int .i64 d)]] => some ([validS a b = true,validS c d = true],veA (vNorm a b c d))
 | _ => none
theorem kon83:ConOK Tryz.prog 226 k83:=ConOK.of (G:=[(231,k149),(218,k140)]) (H:=[]) (.cons kon149 (.cons kon140 .nil)) Tryz.func226 fun l ob r hc hob => by
 unfold k83 at hc
 split at hc
 ·rename_i a b c d
  cases hc
  have h_0:validS a b = true:=hob _ (by simp)
  have h_1:validS c d = true:=hob _ (by simp)
  refine ⟨by kernel_rfl,fnVC_go (rs:=[.cell 4 29]) rfl rfl ?_⟩
  simp only [go_sem,k149,k140]
  have v1:=validS_iff.1 h_0
  have v2:=validS_iff.1 h_1
  simp only [forall_eq]
  rw [wrap_in (x:=d - b) (by unfold inR; omega),wrap_in (x:=a - c) (by unfold inR; omega),show a - c = -(c - a) by omega]
  exact ⟨by unfold inR; omega,by unfold inR; omega,rfl⟩
 ·cases hc
end Go.Ax
end
section
/-
  Corners of shapes: the iterator over them.
-/
set_option maxHeartbeats 4000000
set_option maxRecDepth 100000
namespace Go.Ax
open Go.Proofs Go.RowKit
def nxt2 (n i:Nat):Nat:=nxt n (nxt n i)
theorem nxt2_lt {n i:Nat} (h:i < n):nxt2 n i < n:=nxt_lt (nxt_lt h)
theorem tmod_nxt2 {n i:Nat} (h:i < n):Int.tmod ((i:Int) + 2) n = (nxt2 n i:Nat):=by
 have e:((i:Int) + 2) = ((i + 2:Nat):Int):=rfl
 rw [e,Int.tmod_eq_emod_of_nonneg (by omega),← Int.natCast_emod]
 congr 1
 unfold nxt2 nxt
 by_cases h2:i + 2 < n
 ·rw [Nat.mod_eq_of_lt h2,if_pos (show i + 1 < n by omega),if_pos h2]
 ·by_cases h1:i + 1 < n
  ·have:i + 2 = n:=by omega
   rw [if_pos h1,if_neg (by omega),this,Nat.mod_self]
  ·have:i + 1 = n:=by omega
   rw [if_neg h1,Nat.mod_eq_sub_mod (by omega),show i + 2 - n = 1 by omega]
   by_cases h0:0 + 1 < n
   ·rw [if_pos h0,Nat.mod_eq_of_lt h0]
   ·rw [if_neg h0,show n = 1 by omega]
structure At179 (I:Nat → Prop) (w:World) (J:Nat → World → Prop) (l n:Nat) (v1:Value) (i:Nat) (a:Act) (W:World):Prop where
 sz:a.tmps.size = 35
 de:a.defers = []
 t0:a.tmps.getD 0 undef = .func (.yield l) #[] #[]
 t1:a.tmps.getD 1 undef = v1
 t3:a.tmps.getD 3 undef = .int .i64 n
 t7:a.tmps.getD 7 undef = .int .i64 n
 t8:a.tmps.getD 8 undef = .int .i64 i
 le:i ≤ n
 j:J i W
 same:Same I w W
end Go.Ax
end
section
/-
  Shapes: which are sound.
-/
set_option maxHeartbeats 4000000
set_option maxRecDepth 100000
namespace Go.Ax
open Go.Proofs
def lo (x:Int):Prop:=-4096 ≤ x ∧ x ≤ 4096
theorem lo_mul {x y:Int} (hx:lo x) (hy:lo y):-16777216 ≤ x * y ∧ x * y ≤ 16777216:=by
 have:=mul_bd (A:=4096) (B:=4096) (by omega) hx hy
 omega
def lo2 (x:Int):Prop:=-8192 ≤ x ∧ x ≤ 8192
theorem lo2_mul {x y:Int} (hx:lo2 x) (hy:lo2 y):-67108864 ≤ x * y ∧ x * y ≤ 67108864:=by
 have:=mul_bd (A:=8192) (B:=8192) (by omega) hx hy
 omega
def cvxS (n:Nat) (X Y:Nat → Int):Bool:=decide (∀ i,i < n → (0 < X i * Y (nxt n i) - Y i * X (nxt n i) ∧ 4 * (ab (X (nxt n i) - X i) + ab (Y (nxt n i) - Y i) + (ab (X (nxt2 n i) - X (nxt n i)) + ab (Y (nxt2 n i) - Y (nxt n i)))) ≤ (X (nxt n i) - X i) * (Y (nxt2 n i) - Y (nxt n i)) - (Y (nxt n i) - Y i) * (X (nxt2 n i) - X (nxt n i))) ∧ ∀ j,j < n → j ≠ i → j ≠ nxt n i → 0 < (X (nxt n i) - X i) * (Y j - Y i) - (Y (nxt n i) - Y i) * (X j - X i))
def c116:Con
 | [.ro n 2 g] => some ([spots n g,n ≤ 1000,∀ i,i < n → lo (gx g 0 i) ∧ lo (gx g 1 i)],bo (cvxS n (gx g 0) (gx g 1)))
 | _ => none
theorem tmod_cast {n k:Nat} (h:0 < n):Int.tmod (k:Int) n = ((k % n:Nat):Int):=by
 rw [Int.tmod_eq_emod_of_nonneg (by omega),← Int.natCast_emod]
theorem ix_all {n i j:Nat} (hi:i < n) (hj:j < n) (h1:j ≠ i) (h2:j ≠ nxt n i):∃ k,2 ≤ k ∧ k < n ∧ (i + k) % n = j:=by
 unfold nxt at h2
 by_cases h:i < j
 ·refine ⟨j - i,?_,by omega,?_⟩
  ·rw [if_pos (by omega)] at h2; omega
  ·rw [show i + (j - i) = j by omega,Nat.mod_eq_of_lt hj]
 ·refine ⟨n + j - i,?_,by omega,?_⟩
  ·split at h2 <;> omega
  ·rw [show i + (n + j - i) = j + n by omega,Nat.add_mod_right,Nat.mod_eq_of_lt hj]
theorem ix_ne {n i k:Nat} (hi:i < n) (h2:2 ≤ k) (hk:k < n):(i + k) % n < n ∧ (i + k) % n ≠ i ∧ (i + k) % n ≠ nxt n i:=by
 refine ⟨Nat.mod_lt _ (by omega),?_⟩
 unfold nxt
 by_cases h:i + k < n
 ·rw [Nat.mod_eq_of_lt h]
  refine ⟨by omega,?_⟩
  split <;> omega
 ·rw [Nat.mod_eq_sub_mod (by omega),Nat.mod_eq_of_lt (by omega)]
  refine ⟨by omega,?_⟩
  split <;> omega
theorem vc149 (n:Nat) (X Y:Nat → Int) (hn:n ≤ 1000) (hl:∀ i,i < n → lo (X i) ∧ lo (Y i)):fnVC Tryz.prog [(153,c153),(233,c233),(234,c234)] [(5,⟨[(21,.made 18),(22,.made 19),(23,.made 20)],[(10,[.made 18]),(17,[.made 18,.made 19])]⟩)] Tryz.f149 [.ro n 2 fun i => [i64 (X i),i64 (Y i)]] (· = bo (cvxS n X Y)):=by
 refine fnVC_go (rs:=[.tmp 2]) rfl rfl ?_
 simp only [go_sem]
 obtain ⟨A,hA⟩:∃ A:Nat → Prop,A = fun i => 0 < X i * Y (nxt n i) - Y i * X (nxt n i) ∧ 4 * (ab (X (nxt n i) - X i) + ab (Y (nxt n i) - Y i) + (ab (X (nxt2 n i) - X (nxt n i)) + ab (Y (nxt2 n i) - Y (nxt n i)))) ≤ (X (nxt n i) - X i) * (Y (nxt2 n i) - Y (nxt n i)) - (Y (nxt n i) - Y i) * (X (nxt2 n i) - X (nxt n i)):=⟨_,rfl⟩
 obtain ⟨T,hT⟩:∃ T:Nat → Nat → Int,T = fun i j => (X (nxt n i) - X i) * (Y j - Y i) - (Y (nxt n i) - Y i) * (X j - X i):=⟨_,rfl⟩
 have hcv:cvxS n X Y = true ↔ ∀ i,i < n → A i ∧ ∀ j,j < n → j ≠ i → j ≠ nxt n i → 0 < T i j:=by
  subst hA hT
  unfold cvxS
  rw [decide_eq_true_eq]
 refine loopC_go (fun (i:Nat) => i ≤ n ∧ ∀ j,j < i → A j ∧ ∀ k,k < n → k ≠ j → k ≠ nxt n j → 0 < T j k) (fun i => n - i) (fun i => [(4,i64 i)]) (fun _ => []) [] [11,12,13,16,17,18,19,20,21,22,23,24,25,26,27,28,29,30,31,32,33,5,6,7,34,35,36,37,38,39,40,41,42,43,44,45,46,47,48,49,50,51,52,53,54,55,56,57,2,8,58,59,60,63,64,65,66,67,68,69,70,71,72,73,74,75,76,77,2,61,62,8,14,15,4] 0 (by kernel_rfl) ?_ ⟨Nat.zero_le _,fun j hj => by omega⟩ ?_ ?_
 ·intro x _; simp [goodNames]
 ·simp only [go_sem]
 ·intro i hi
  by_cases hlt:i < n
  ·have hn0:((n:Int) = 0) = False:=eq_false (by omega)
   have l1:=nxt_lt hlt
   have l2:=nxt2_lt hlt
   have b1:=hl i hlt
   have b2:=hl _ l1
   have b3:=hl _ l2
   have m1:=lo_mul b1.1 b2.2
   have m2:=lo_mul b1.2 b2.1
   have d1:lo2 (X (nxt n i) - X i):=by unfold lo at b1 b2; unfold lo2; omega
   have d2:lo2 (Y (nxt n i) - Y i):=by unfold lo at b1 b2; unfold lo2; omega
   have d3:lo2 (X (nxt2 n i) - X (nxt n i)):=by unfold lo at b3 b2; unfold lo2; omega
   have d4:lo2 (Y (nxt2 n i) - Y (nxt n i)):=by unfold lo at b3 b2; unfold lo2; omega
   have m3:=lo2_mul d1 d4
   have m4:=lo2_mul d2 d3
   unfold lo2 at d1 d2 d3 d4
   have w1:IntKind.i64.wrap (X (nxt n i) - X i) = X (nxt n i) - X i:=wrap_in (by unfold inR; omega)
   have w2:IntKind.i64.wrap (Y (nxt n i) - Y i) = Y (nxt n i) - Y i:=wrap_in (by unfold inR; omega)
   have w3:IntKind.i64.wrap (X (nxt2 n i) - X (nxt n i)) = X (nxt2 n i) - X (nxt n i):=wrap_in (by unfold inR; omega)
   have w4:IntKind.i64.wrap (Y (nxt2 n i) - Y (nxt n i)) = Y (nxt2 n i) - Y (nxt n i):=wrap_in (by unfold inR; omega)
   have w5:IntKind.i64.wrap (X i * Y (nxt n i) - Y i * X (nxt n i)) = X i * Y (nxt n i) - Y i * X (nxt n i):=wrap_in (by unfold inR; omega)
   have w6:IntKind.i64.wrap ((X (nxt n i) - X i) * (Y (nxt2 n i) - Y (nxt n i)) - (Y (nxt n i) - Y i) * (X (nxt2 n i) - X (nxt n i))) = (X (nxt n i) - X i) * (Y (nxt2 n i) - Y (nxt n i)) - (Y (nxt n i) - Y i) * (X (nxt2 n i) - X (nxt n i)):=wrap_in (by unfold inR; omega)
   have v1:IntKind.i64.wrap ((i:Int) + 1) = i + 1:=wrap_in (by unfold inR; omega)
   have v2:IntKind.i64.wrap ((i:Int) + 2) = i + 2:=wrap_in (by unfold inR; omega)
   simp only [go_sem,hn0,c153,c233,c234]
   refine ⟨fun _ => ?_,fun h => absurd (by omega) h⟩
   refine ⟨by omega,by omega,fun z hz z1 hz1 => ?_⟩
   rw [hz,v1,tmod_nxt hlt] at hz1
   subst hz1
   refine ⟨by omega,by omega,fun z2 hz2 z3 hz3 => ?_⟩
   rw [hz2,v2,tmod_nxt2 hlt] at hz3
   subst hz3
   refine ⟨by omega,by omega,?_⟩
   simp only [Int.toNat_natCast,w1,w2,w3,w4,w5,w6]
   intro z4 hz4 z5 hz5 z6 hz6
   have ab1:0 ≤ ab (X (nxt n i) - X i) ∧ ab (X (nxt n i) - X i) ≤ 8192:=by unfold ab; split <;> omega
   have ab2:0 ≤ ab (Y (nxt n i) - Y i) ∧ ab (Y (nxt n i) - Y i) ≤ 8192:=by unfold ab; split <;> omega
   have ab3:0 ≤ ab (X (nxt2 n i) - X (nxt n i)) ∧ ab (X (nxt2 n i) - X (nxt n i)) ≤ 8192:=by unfold ab; split <;> omega
   have ab4:0 ≤ ab (Y (nxt2 n i) - Y (nxt n i)) ∧ ab (Y (nxt2 n i) - Y (nxt n i)) ≤ 8192:=by unfold ab; split <;> omega
   have hAi:A i ↔ 0 < z4 ∧ 4 * (ab (X (nxt n i) - X i) + ab (Y (nxt n i) - Y i) + (ab (X (nxt2 n i) - X (nxt n i)) + ab (Y (nxt2 n i) - Y (nxt n i)))) ≤ z5:=by rw [hA,hz4,hz5]
   refine ⟨fun _ => by omega,fun _ => by omega,fun z7 hz7 => ⟨fun _ => by omega,fun _ => by omega,fun z8 hz8 z9 hz9 => ⟨fun h => ?_,fun h => ?_⟩⟩⟩
   ·rw [hz6,hz7,wrap_in (by unfold inR; omega)] at hz8
    rw [hz8,wrap_in (by unfold inR; omega)] at hz9
    refine false_of fun hc => ?_
    have:=(hcv.1 hc i hlt).1
    rw [hAi] at this
    omega
   rw [hz6,hz7,wrap_in (by unfold inR; omega)] at hz8
   rw [hz8,wrap_in (by unfold inR; omega)] at hz9
   have hAi:A i:=hAi.2 (by omega)
   clear hz4 hz5 hz6 hz7 hz8 hz9 w5 w6 m1 m2 m3 m4
   refine loopC_go (fun (k:Nat) => (2 ≤ k ∧ k ≤ max n 2) ∧ ∀ k',2 ≤ k' → k' < k → 0 < T i ((i + k') % n)) (fun k => max n 2 - k) (fun k => [(8,i64 k)]) (fun _ => []) [28,27,26] [58,59,60,63,64,65,66,67,68,69,70,71,72,73,74,75,76,77,2,61,62,8] 2 (by kernel_rfl) ?_ ⟨by omega,fun j hj hj2 => by omega⟩ ?_ ?_
   ·intro x _; simp [goodNames]
   ·simp only [go_sem]
   ·intro k hk
    simp only [go_sem,hn0,c153,c233]
    refine ⟨fun hkn => ?_,fun hkn => ?_⟩
    ·have hk2:=hk.1.1
     ·have hkn':k < n:=by omega
      obtain ⟨j1,j2,j3⟩:=ix_ne hlt hk2 hkn'
      have b4:=hl _ j1
      have d5:lo2 (Y ((i + k) % n) - Y i):=by unfold lo at b1 b4; unfold lo2; omega
      have d6:lo2 (X ((i + k) % n) - X i):=by unfold lo at b1 b4; unfold lo2; omega
      have m5:=lo2_mul (show lo2 _ from d1) d5
      have m6:=lo2_mul (show lo2 _ from d2) d6
      unfold lo2 at d5 d6
      intro za hza zb hzb zc hzc zd hzd
      rw [hzc,wrap_in (by unfold inR; omega),show (i:Int) + k = ((i + k:Nat):Int) from rfl,tmod_cast (by omega)] at hzd
      subst hzd
      refine ⟨by omega,by omega,fun ze hze zf hzf zg hzg => ?_⟩
      rw [Int.toNat_natCast] at hze hzf
      have ew:zg = T i ((i + k) % n):=by
       rw [hzg,hza,hzb,hze,hzf,w1,w2,wrap_in (x:=Y ((i + k) % n) - Y i) (by unfold inR; omega),wrap_in (x:=X ((i + k) % n) - X i) (by unfold inR; omega),wrap_in (by unfold inR; omega),hT]
      rw [ew]
      refine ⟨fun h => false_of fun hc => ?_,fun h z3 hz3 => ⟨k + 1,⟨by omega,fun k' hk' k1 => ?_⟩,by omega,?_⟩⟩
      ·have:=(hcv.1 hc i hlt).2 _ j1 j2 j3
       omega
      ·by_cases e:k' = k
       ·subst e; omega
       ·exact hk.2 k' hk' (by omega)
      ·rw [hz3,wrap_in (by unfold inR; omega)]; rfl
    ·have hkn':n ≤ k:=by omega
     refine fun z hz => ⟨i + 1,⟨by omega,fun j' hj' => ?_⟩,by omega,?_⟩
     ·by_cases e:j' = i
      ·subst e
       refine ⟨hAi,fun k' k1 k2 k3 => ?_⟩
       obtain ⟨q,q1,q2,q3⟩:=ix_all hlt k1 k2 k3
       rw [← q3]
       exact hk.2 q q1 (by omega)
      ·exact hi.2 j' (by omega)
     ·rw [hz,v1]; rfl
  ·simp only [go_sem]
   refine ⟨fun h => absurd (by omega) hlt,fun _ => ?_⟩
   have he:i = n:=by omega
   subst he
   exact (hcv.2 hi.2).symm
theorem con149:ConOK Tryz.prog 149 c116:=ConOK.go (G:=[(153,c153),(233,c233),(234,c234)]) (H:=[(5,⟨[(21,.made 18),(22,.made 19),(23,.made 20)],[(10,[.made 18]),(17,[.made 18,.made 19])]⟩)]) (.cons con153 (.cons con233 (.cons con234 .nil))) Tryz.func149 fun l ob r hc hob => by
 unfold c116 at hc
 split at hc
 ·rename_i n g
  cases hc
  have hs:spots n g:=hob _ (by simp)
  exact ⟨[.ro n 2 fun i => [i64 (gx g 0 i),i64 (gx g 1 i)]],fun w I vs h => Rs_one (fun v => ro_alike fun i hi => (hs i hi).1) h,by kernel_rfl,vc149 n _ _ (hob _ (by simp)) (hob _ (by simp))⟩
 ·cases hc
end Go.Ax
end
section
/-
  Shapes: their errors.
-/
set_option maxHeartbeats 4000000
set_option maxRecDepth 100000
namespace Go.Ax
open Go.Proofs
instance {x:Int}:Decidable (lo x):=by unfold lo; infer_instance
def chkS (k r w t:Int) (n:Nat) (X Y:Nat → Int):Int:=
 if k = 1 then (if w ≠ 0 ∨ t ≠ 0 ∨ n ≠ 0 then 4 else if 16 ≤ r ∧ r ≤ 4096 then 0 else 3)
 else if k = 2 then (if r ≠ 0 ∨ n ≠ 0 then 4 else if (16 ≤ w ∧ w ≤ 4096) ∧ (16 ≤ t ∧ t ≤ 4096) then 0 else 3)
 else if k = 3 then (if r ≠ 0 ∨ w ≠ 0 ∨ t ≠ 0 ∨ n < 3 ∨ 8 < n then 4 else if ∀ i,i < n → lo (X i) ∧ lo (Y i) then (if cvxS n X Y = true then 0 else 5) else 3)
 else 8
abbrev shapeA (k r w t:Int) (n:Nat) (g:Nat → List AV):AV:=.agg [i64 k,i64 r,i64 w,i64 t,.ro n 2 g]
theorem Rs_shape {w:World} {ρ:Env} {k x y r:Int} {n:Nat} {g:Nat → List AV} (hs:spots n g) (v:Value) (h:R w ρ (shapeA k x y r n g) v):R w ρ (shapeA k x y r n fun i => [i64 (gx g 0 i),i64 (gx g 1 i)]) v:=Rs_form hs v h
def c62:Con
 | [.agg [.v (.int .i64 k),.v (.int .i64 r),.v (.int .i64 w),.v (.int .i64 t),.ro n 2 g]] => some ([spots n g,n ≤ 9223372036854775806],i64 (chkS k r w t n (gx g 0) (gx g 1)))
 | _ => none
theorem vc79 (k r w t:Int) (n:Nat) (X Y:Nat → Int) (hX:∀ i,i < n → inR (X i) ∧ inR (Y i)) (hn:n ≤ 9223372036854775806):fnVC Tryz.prog [(147,c147),(148,c148),(149,c116)] [] Tryz.f79 [shapeA k r w t n fun i => [i64 (X i),i64 (Y i)]] (· = i64 (chkS k r w t n X Y)):=by
 refine fnVC_go (rs:=[.tmp 2]) rfl rfl ?_
 have hg:spots n fun i => [i64 (X i),i64 (Y i)]:=fun i hi => ⟨rfl,hX i hi⟩
 have eX:gx (fun i => [i64 (X i),i64 (Y i)]) 0 = X:=rfl
 have eY:gx (fun i => [i64 (X i),i64 (Y i)]) 1 = Y:=rfl
 simp only [go_sem,c147,c148,c116]
 refine ⟨fun hk => ?_,fun hk => ⟨fun hk2 => ?_,fun hk2 => ⟨fun hk3 => ?_,fun hk3 => ?_⟩⟩⟩
 ·have hk:k = 1:=by simpa using hk
  refine ⟨fun h => ?_,fun h z hz => ⟨fun h2 => ?_,fun h2 => ?_⟩⟩
  ·unfold chkS; rw [if_pos hk,if_pos (by simp only [bne_iff_ne] at h; omega)]
  ·unfold chkS; rw [if_pos hk,if_neg (by simp at h; omega),if_neg (by rw [hz] at h2; exact of_decide_eq_false h2)]
  ·unfold chkS; rw [if_pos hk,if_neg (by simp at h; omega),if_pos (by rw [hz] at h2; exact of_decide_eq_true h2)]
 ·have hk:¬ k = 1:=by simpa using hk
  have hk2:k = 2:=by simpa using hk2
  refine ⟨fun h => ?_,fun h z hz z1 hz1 => ⟨fun h2 => ?_,fun h2 => ?_⟩⟩
  ·unfold chkS; rw [if_neg hk,if_pos hk2,if_pos (by simp only [bne_iff_ne] at h; omega)]
  ·unfold chkS; rw [if_neg hk,if_pos hk2,if_neg (by simp at h; omega),if_neg (by
    rintro ⟨p,q⟩
    rw [hz,hz1,decide_eq_true p,decide_eq_true q] at h2
    simp at h2)]
  ·unfold chkS; rw [if_neg hk,if_pos hk2,if_neg (by simp at h; omega),if_pos (by
    rw [hz,hz1] at h2
    exact ⟨of_decide_eq_true h2.1,of_decide_eq_true h2.2⟩)]
 ·have hk:¬ k = 1:=by simpa using hk
  have hk2:¬ k = 2:=by simpa using hk2
  have hk3:k = 3:=by simpa using hk3
  refine ⟨fun h => ?_,fun h => ?_⟩
  ·unfold chkS; rw [if_neg hk,if_neg hk2,if_pos hk3,if_pos (by simp only [bne_iff_ne] at h; omega)]
  have h4:¬ (r ≠ 0 ∨ w ≠ 0 ∨ t ≠ 0 ∨ n < 3 ∨ 8 < n):=by simp at h; omega
  have e0:chkS k r w t n X Y = if ∀ i,i < n → lo (X i) ∧ lo (Y i) then (if cvxS n X Y = true then 0 else 5) else 3:=by unfold chkS; rw [if_neg hk,if_neg hk2,if_pos hk3,if_neg h4]
  rw [e0]
  refine loopC_go (fun (i:Nat) => i ≤ n ∧ ∀ j,j < i → lo (X j) ∧ lo (Y j)) (fun i => n - i) (fun i => [(3,i64 i)]) (fun _ => []) [0] [74,75,76,77,78,81,82,83,84,85,86,87,88,89,90,91,92,93,94,95,96,97,98,2,79,80,3] 0 (by kernel_rfl) ?_ ⟨Nat.zero_le _,fun j hj => by omega⟩ ?_ ?_
  ·intro x _; simp [goodNames]
  ·simp only [go_sem]
  ·intro i hi
   simp only [go_sem,c148,c116,eX,eY]
   refine ⟨fun hin => ⟨by omega,hin,fun z hz => ⟨fun _ => by omega,fun _ => hin,fun z1 hz1 => ⟨fun h5 => ?_,fun h5 z2 hz2 => ⟨i + 1,⟨by omega,fun j hj => ?_⟩,by omega,?_⟩⟩⟩⟩,fun hin z hz => ⟨hg,by omega,fun j hj => hi.2 j (by omega),fun h5 => ?_,fun h5 => ?_⟩⟩
   ·rw [if_neg fun hc => ?_]
    have:=hc i (by omega)
    unfold lo at this
    rw [hz,hz1] at h5
    rcases h5 with h5 | h5
    ·exact absurd (of_decide_eq_false h5) (by simp only [Decidable.not_not]; exact this.1)
    ·exact absurd (of_decide_eq_false h5) (by simp only [Decidable.not_not]; exact this.2)
   ·by_cases e:j = i
    ·subst e
     rw [hz,hz1] at h5
     exact ⟨of_decide_eq_true h5.1,of_decide_eq_true h5.2⟩
    ·exact hi.2 j (by omega)
   ·rw [hz2,wrap_in (by unfold inR; omega)]; rfl
   ·rw [if_pos (fun j hj => hi.2 j (by omega)),if_neg (by rw [← hz,h5]; decide)]
   ·rw [if_pos (fun j hj => hi.2 j (by omega)),if_pos (by rw [← hz,h5])]
 ·have hk:¬ k = 1:=by simpa using hk
  have hk2:¬ k = 2:=by simpa using hk2
  have hk3:¬ k = 3:=by simpa using hk3
  unfold chkS; rw [if_neg hk,if_neg hk2,if_neg hk3]
theorem con79:ConOK Tryz.prog 79 c62:=ConOK.go (G:=[(147,c147),(148,c148),(149,c116)]) (H:=[]) (.cons con147 (.cons con148 (.cons con149 .nil))) Tryz.func79 fun l ob rr hc hob => by
 unfold c62 at hc
 split at hc
 ·rename_i k r w t n g
  cases hc
  have hs:spots n g:=hob _ (by simp)
  exact ⟨[shapeA k r w t n fun i => [i64 (gx g 0 i),i64 (gx g 1 i)]],fun w I vs h => Rs_one (Rs_shape hs) h,by kernel_rfl,vc79 k r w t n _ _ (fun i hi => (hs i hi).2) (hob _ (by simp))⟩
 ·cases hc
end Go.Ax
end
section
/-
  What follows a corner.
-/
set_option maxHeartbeats 4000000
set_option maxRecDepth 100000
namespace Go.Ax
open Go.Proofs
def c225:Con
 | [.agg [.v (.int .i64 k),.v (.int .i64 x),.v (.int .i64 y),.v (.int .i64 r),.ro n 2 g],.v (.int .i64 i)] => some ([spots n g,0 ≤ i,i < n,n ≤ 9223372036854775806],.tup [.agg [i64 (gx g 0 i.toNat),i64 (gx g 1 i.toNat)],.agg [i64 (gx g 0 (nxt n i.toNat)),i64 (gx g 1 (nxt n i.toNat))]])
 | _ => none
theorem vc225 (k x y r:Int) (n:Nat) (X Y:Nat → Int) (i:Nat) (hi:i < n) (hn:n ≤ 9223372036854775806):fnVC Tryz.prog [] [(1,⟨[(15,.slot 4),(16,.slot 5)],[(6,[.slot 4]),(10,[.slot 4]),(14,[.slot 4])]⟩)] Tryz.f225 [formA k x y r n fun i => [i64 (X i),i64 (Y i)],i64 i] (· = .tup [.agg [i64 (X i),i64 (Y i)],.agg [i64 (X (nxt n i)),i64 (Y (nxt n i))]]):=by
 refine fnVC_go (rs:=[.cell 4 116,.cell 5 116]) rfl rfl ?_
 have hn0:((n:Int) = 0) = False:=eq_false (by omega)
 simp only [go_sem,hn0]
 have hl:=nxt_lt hi
 refine ⟨by omega,by omega,fun z hz z1 hz1 => ?_⟩
 rw [wrap_in (by unfold inR; omega)] at hz
 rw [hz,tmod_nxt hi] at hz1
 subst hz1
 exact ⟨by omega,by omega,rfl⟩
theorem con225:ConOK Tryz.prog 225 c225:=ConOK.go (G:=[]) (H:=[(1,⟨[(15,.slot 4),(16,.slot 5)],[(6,[.slot 4]),(10,[.slot 4]),(14,[.slot 4])]⟩)]) .nil Tryz.func225 fun l ob rr hc hob => by
 unfold c225 at hc
 split at hc
 ·rename_i k x y r n g i
  cases hc
  have hs:spots n g:=hob _ (by simp)
  have h0:0 ≤ i:=hob _ (by simp)
  have h1:i < n:=hob _ (by simp)
  have e:i = (i.toNat:Int):=by omega
  refine ⟨[formA k x y r n fun i => [i64 (gx g 0 i),i64 (gx g 1 i)],i64 (i.toNat:Int)],fun w I vs h => Rs_two (Rs_form hs) (fun v h => by rw [← e]; exact h) h,by kernel_rfl,vc225 k x y r n _ _ i.toNat (by omega) (hob _ (by simp))⟩
 ·cases hc
end Go.Ax
end
section
/-
  Shapes placed: the small parts.
-/
set_option maxHeartbeats 4000000
set_option maxRecDepth 100000
namespace Go.Ax
open Go.Proofs
theorem vfS_one {x y:Int} {e f:Bool}:vfS 1 (rowsOf 4 [i64 x,bo e,i64 y,bo f]) = (whF x e || whF y f):=by
 unfold vfS anyB anyB
 rw [Bool.false_or]; rfl
def k131:Con
 | [.agg [.v (.int .i64 x),.v (.bool e),.v (.int .i64 y),.v (.bool f)],.agg [.v (.int .i64 z),.v (.bool g),.v (.int .i64 t),.v (.bool h)]] => some ([inR x,inR y,inR z,inR t],veA (vApply ((x,e),(y,f)) ((z,g),(t,h))))
 | _ => none
theorem kon131:ConOK Tryz.prog 181 k131:=ConOK.of (G:=[(129,c129),(112,c112)]) (H:=[(1,⟨[(20,.slot 4)],[]⟩)]) (.cons con129 (.cons con112 .nil)) Tryz.func181 fun l ob r hc hob => by
 unfold k131 at hc
 split at hc
 ·rename_i x e y f z g t h
  cases hc
  have h_0:inR x:=hob _ (by simp)
  have h_1:inR y:=hob _ (by simp)
  have h_2:inR z:=hob _ (by simp)
  have h_3:inR t:=hob _ (by simp)
  refine ⟨by kernel_rfl,fnVC_go (rs:=[.cell 4 29]) rfl rfl ?_⟩
  simp only [go_sem,c129,c112]
  simp only [forall_eq]
  exact ⟨h_1,h_0,h_2,rg_inR (by have:=whV_rg h_1; unfold rg at *; omega),h_3,h_1,h_2,h_0,h_3,rfl⟩
 ·cases hc
def k62:Con
 | [.agg [.v (.int .i64 x),.v (.bool e),.v (.int .i64 y),.v (.bool f),.v (.int .i64 c),.v (.bool o),.v (.int .i64 s),.v (.bool p)],.agg [.v (.int .i64 z),.v (.bool g),.v (.int .i64 t),.v (.bool h)]] => some ([inR x,inR y,inR c,inR s,inR z,inR t],veA (vAdd ((x,e),(y,f)) (vApply ((c,o),(s,p)) ((z,g),(t,h)))))
 | _ => none
theorem kon62:ConOK Tryz.prog 124 k62:=ConOK.of (G:=[(43,k130),(181,k131)]) (H:=[(1,⟨[(8,.slot 4)],[]⟩)]) (.cons kon130 (.cons kon131 .nil)) Tryz.func124 fun l ob r hc hob => by
 unfold k62 at hc
 split at hc
 ·rename_i x e y f c o s p z g t h
  cases hc
  have h_0:inR x:=hob _ (by simp)
  have h_1:inR y:=hob _ (by simp)
  have h_2:inR c:=hob _ (by simp)
  have h_3:inR s:=hob _ (by simp)
  have h_4:inR z:=hob _ (by simp)
  have h_5:inR t:=hob _ (by simp)
  refine ⟨by kernel_rfl,fnVC_go (rs:=[.cell 4 29]) rfl rfl ?_⟩
  simp only [go_sem,k130,k131]
  exact ⟨h_2,h_3,h_4,h_5,⟨h_0,h_1⟩,rfl⟩
 ·cases hc
def k68:Con
 | [.agg [.v (.int .i64 x),.v (.bool e),.v (.int .i64 y),.v (.bool f),.v (.int .i64 c),.v (.bool o),.v (.int .i64 s),.v (.bool p)],.agg [.v (.int .i64 z),.v (.bool g),.v (.int .i64 t),.v (.bool h)]] => some ([inR x,inR y,inR c,inR s,inR z,inR t],veA (vAdd ((x,e),(y,f)) (vApply ((c,o),(s,p)) ((z,g),(t,h)))))
 | _ => none
theorem kon68:ConOK Tryz.prog 158 k68:=ConOK.of (G:=[(222,k138),(242,k139)]) (H:=[(1,⟨[(8,.slot 4)],[]⟩)]) (.cons kon138 (.cons kon139 .nil)) Tryz.func158 fun l ob r hc hob => by
 unfold k68 at hc
 split at hc
 ·rename_i x e y f c o s p z g t h
  cases hc
  have h_0:inR x:=hob _ (by simp)
  have h_1:inR y:=hob _ (by simp)
  have h_2:inR c:=hob _ (by simp)
  have h_3:inR s:=hob _ (by simp)
  have h_4:inR z:=hob _ (by simp)
  have h_5:inR t:=hob _ (by simp)
  refine ⟨by kernel_rfl,fnVC_go (rs:=[.cell 4 29]) rfl rfl ?_⟩
  simp only [go_sem,k138,k139]
  exact ⟨h_2,h_3,h_4,h_5,⟨h_0,h_1⟩,rfl⟩
 ·cases hc
end Go.Ax
end
section
/-
  The corners of a shape.
-/
set_option maxHeartbeats 4000000
set_option maxRecDepth 100000
namespace Go.Ax
open Go.Proofs
def alk (r r':AV):Prop:=∀ w ρ v,R w ρ r' v → R w ρ r v
theorem ConOK.goR {P:Program} {G:Ctx} {H:Hots} (hG:CtxOK P G) {f:FuncId} {fn:Func} (hf:P.funcs[f]? = some fn) {c:Con}
  (h:∀ es1 ob r,c es1 = some (ob,r) → (∀ p ∈ ob,p) → ∃ es,(∀ w I vs,Rs w (.ext I) es1 vs → Rs w (.ext I) es vs) ∧ funcOK P H fn es.length = true ∧ fnVC P G H fn es (alk r)):ConOK P f c:=by
 intro es0 ob r hc hob I w vs hI hRs
 obtain ⟨es,h0,h1,h2⟩:=h es0 ob r hc hob
 obtain ⟨k1,k2⟩:=fn_sound hG hf h1 h2 I w vs hI (h0 w I vs hRs)
 exact .inr ⟨k1,k2.mono fun e w' ⟨v,he,⟨r',hr,hR⟩,hb⟩ => ⟨v,he,hr _ _ _ hR,hb⟩⟩
theorem alk_refl {r:AV}:alk r r:=fun _ _ _ h => h
theorem alk_ro {n:Nat} {f g:Nat → List AV} (h:∀ i,i < n → g i = f i):alk (.ro n 2 f) (.ro n 2 g):=fun w ρ v hR => ro_alike h hR
theorem alk_nil {f:Nat → List AV}:alk (.ro 0 2 f) (.v (.slice none 0 0)):=fun w ρ v hR => by
 cases hR
 exact .ro 0 0 (Nat.le_refl _) (fun h => absurd h (by omega)) (fun h => absurd h (by omega)) (fun i h => absurd h (by omega)) (fun i k h => absurd h (by omega)) (fun i k c x h => absurd h (by omega))
def corN (k r w t:Int) (n:Nat) (X Y:Nat → Int):Nat:=if chkS k r w t n X Y = 0 then (if k = 2 then 4 else n) else 0
def corX (k w t:Int) (X:Nat → Int) (i:Nat):Int:=if k = 2 then (match i with | 0 => -w | 1 => w | 2 => w | _ => -w) else X i
def corY (k w t:Int) (Y:Nat → Int) (i:Nat):Int:=if k = 2 then (match i with | 0 => -t | 1 => -t | 2 => t | _ => t) else Y i
abbrev corA (k r w t:Int) (n:Nat) (X Y:Nat → Int):AV:=.ro (corN k r w t n X Y) 2 fun i => [i64 (corX k w t X i),i64 (corY k w t Y i)]
theorem chk_cases {k r w t:Int} {n:Nat} {X Y:Nat → Int} (h:chkS k r w t n X Y = 0):(k = 1 ∧ n = 0 ∧ 16 ≤ r ∧ r ≤ 4096) ∨ (k = 2 ∧ n = 0 ∧ 16 ≤ w ∧ w ≤ 4096 ∧ 16 ≤ t ∧ t ≤ 4096) ∨ (k = 3 ∧ 3 ≤ n ∧ n ≤ 8 ∧ r = 0 ∧ ∀ i,i < n → lo (X i) ∧ lo (Y i)):=by
 unfold chkS at h
 split at h
 ·rename_i h1
  split at h
  ·omega
  ·split at h
   ·exact .inl ⟨h1,by omega⟩
   ·omega
 ·split at h
  ·rename_i h1 h2
   split at h
   ·omega
   ·split at h
    ·exact .inr (.inl ⟨h2,by omega⟩)
    ·omega
  ·split at h
   ·rename_i h1 h2 h3
    split at h
    ·omega
    ·split at h
     ·rename_i h5 h6
      exact .inr (.inr ⟨h3,by omega,by omega,by omega,h6⟩)
     ·omega
   ·omega
theorem vc152 (k r w t:Int) (n:Nat) (X Y:Nat → Int) (hX:∀ i,i < n → inR (X i) ∧ inR (Y i)) (hn:n ≤ 9223372036854775806):fnVC Tryz.prog [(79,c62)] [] Tryz.f152 [shapeA k r w t n fun i => [i64 (X i),i64 (Y i)]] (alk (corA k r w t n X Y)):=by
 refine fnVC_go (rs:=[.tmp 2]) rfl rfl ?_
 have hg:spots n fun i => [i64 (X i),i64 (Y i)]:=fun i hi => ⟨rfl,hX i hi⟩
 have eX:gx (fun i => [i64 (X i),i64 (Y i)]) 0 = X:=rfl
 have eY:gx (fun i => [i64 (X i),i64 (Y i)]) 1 = Y:=rfl
 simp only [go_sem,c62,eX,eY]
 have hb:bytesT Tryz.prog 116 = 16:=by kernel_rfl
 rw [hb]
 simp only [forall_eq]
 refine ⟨hg,hn,fun h => ?_,fun h => ⟨fun h2 => ?_,fun h2 => ?_⟩⟩
 ·have:corN k r w t n X Y = 0:=if_neg (by simpa using h)
  unfold corA
  rw [this]
  exact alk_nil
 ·have hk:k = 2:=by simpa using h2
  have hc:chkS k r w t n X Y = 0:=by simpa using h
  have:corN k r w t n X Y = 4:=by unfold corN; rw [if_pos hc,if_pos hk]
  have hb:=chk_cases hc
  rw [wrap_in (x:=0 - w) (by unfold inR; omega),wrap_in (x:=0 - t) (by unfold inR; omega),Int.zero_sub,Int.zero_sub]
  unfold corA
  rw [this]
  refine alk_ro fun i hi => ?_
  unfold corX corY
  rw [if_pos hk,if_pos hk]
  match i with
  | 0 => rfl
  | 1 => rfl
  | 2 => rfl
  | 3 => rfl
  | j + 4 => omega
 ·have hk:¬ k = 2:=by simpa using h2
  have hc:chkS k r w t n X Y = 0:=by simpa using h
  have:corN k r w t n X Y = n:=by unfold corN; rw [if_pos hc,if_neg hk]
  have hb:=chk_cases hc
  unfold corA
  rw [this]
  refine ⟨fun i hi => by simp only [go_sem],by omega,by omega,?_⟩
  rw [Nat.zero_add]
  refine alk_ro fun i hi => ?_
  unfold corX corY
  rw [if_neg hk,if_neg hk,if_neg (Nat.not_lt_zero i),Nat.sub_zero]
  simp only [go_sem]
def c119:Con
 | [.agg [.v (.int .i64 k),.v (.int .i64 r),.v (.int .i64 w),.v (.int .i64 t),.ro n 2 g]] => some ([spots n g,n ≤ 9223372036854775806],corA k r w t n (gx g 0) (gx g 1))
 | _ => none
theorem con152:ConOK Tryz.prog 152 c119:=ConOK.goR (G:=[(79,c62)]) (H:=[]) (.cons con79 .nil) Tryz.func152 fun l ob rr hc hob => by
 unfold c119 at hc
 split at hc
 ·rename_i k r w t n g
  cases hc
  have hs:spots n g:=hob _ (by simp)
  exact ⟨[shapeA k r w t n fun i => [i64 (gx g 0 i),i64 (gx g 1 i)]],fun w I vs h => Rs_one (Rs_shape hs) h,by kernel_rfl,vc152 k r w t n _ _ (fun i hi => (hs i hi).2) (hob _ (by simp))⟩
 ·cases hc
end Go.Ax
end
section
/-
  Shapes placed.
-/
set_option maxHeartbeats 4000000
set_option maxRecDepth 100000
namespace Go.Ax
open Go.Proofs
theorem alk_form {a b c d e p q:AV} (h:alk p q):alk (.tup [.agg [a,b,c,d,p],e]) (.tup [.agg [a,b,c,d,q],e]):=fun w ρ v hR => by
 cases hR with
 | tup hl hh =>
  refine .tup hl fun i x z h1 h2 => ?_
  match i with
  | 0 =>
   simp at h1; subst h1
   have:=hh 0 _ z rfl h2
   cases this with
   | agg hl' hh' =>
    refine .agg hl' fun j x y h3 h4 => ?_
    match j with
    | 0 => exact hh' 0 x y h3 h4
    | 1 => exact hh' 1 x y h3 h4
    | 2 => exact hh' 2 x y h3 h4
    | 3 => exact hh' 3 x y h3 h4
    | 4 =>
     simp at h3; subst h3
     exact h _ _ _ (hh' 4 _ y rfl h4)
    | m + 5 => simp at h3
  | 1 => exact hh 1 x z h1 h2
  | m + 2 => simp at h1
def rotS (x:Int) (e:Bool) (y:Int) (f:Bool):Int:=if (whF x e = true ∨ whF y f = true) ∨ (65536 < (nDot (x,e) (x,e) (y,f) (y,f)).1 - 4294967296 ∨ 65536 < 4294967296 - (nDot (x,e) (x,e) (y,f) (y,f)).1) then 3 else 0
def farB (a:Nb):Bool:=whF a.1 a.2 || decide (17592186044416 < ab (whV a.1))
def plErr (k r w t:Int) (n:Nat) (X Y:Nat → Int) (at' rot:V2):Int:=
 if chkS k r w t n X Y ≠ 0 then chkS k r w t n X Y else if rotS rot.1.1 rot.1.2 rot.2.1 rot.2.2 ≠ 0 then rotS rot.1.1 rot.1.2 rot.2.1 rot.2.2 else if farB at'.1 = true ∨ farB at'.2 = true then 3 else 0
def plPt (at' rot:V2) (x y:Int):V2:=vAdd at' (vApply rot (vLoc x y))
def plX (k w t:Int) (X Y:Nat → Int) (at' rot:V2) (i:Nat):Int:=spV (plPt at' rot (corX k w t X i) (corY k w t Y i)).1
def plY (k w t:Int) (X Y:Nat → Int) (at' rot:V2) (i:Nat):Int:=spV (plPt at' rot (corX k w t X i) (corY k w t Y i)).2
def plN (k r w t:Int) (n:Nat) (X Y:Nat → Int) (at' rot:V2):Nat:=if plErr k r w t n X Y at' rot = 0 then (if k = 1 then 0 else corN k r w t n X Y) else 0
def plK (k r w t:Int) (n:Nat) (X Y:Nat → Int) (at' rot:V2):Int:=if plErr k r w t n X Y at' rot = 0 then (if k = 1 then 1 else 2) else 0
def plC (k r w t:Int) (n:Nat) (X Y:Nat → Int) (at' rot:V2) (a:Nb):Int:=if plErr k r w t n X Y at' rot = 0 then spV a else 0
def plR (k r w t:Int) (n:Nat) (X Y:Nat → Int) (at' rot:V2):Int:=if plErr k r w t n X Y at' rot = 0 then r else 0
abbrev plA (k r w t:Int) (n:Nat) (X Y:Nat → Int) (at' rot:V2):AV:=
 .tup [formA (plK k r w t n X Y at' rot) (plC k r w t n X Y at' rot at'.1) (plC k r w t n X Y at' rot at'.2) (plR k r w t n X Y at' rot) (plN k r w t n X Y at' rot) fun i => [i64 (plX k w t X Y at' rot i),i64 (plY k w t X Y at' rot i)],i64 (plErr k r w t n X Y at' rot)]
abbrev poseA (at' rot:V2):AV:=.agg [i64 at'.1.1,bo at'.1.2,i64 at'.2.1,bo at'.2.2,i64 rot.1.1,bo rot.1.2,i64 rot.2.1,bo rot.2.2]
def c65:Con
 | [.agg [.v (.int .i64 k),.v (.int .i64 r),.v (.int .i64 w),.v (.int .i64 t),.ro n 2 g],.agg [.v (.int .i64 x),.v (.bool e),.v (.int .i64 y),.v (.bool f),.v (.int .i64 c),.v (.bool o),.v (.int .i64 s),.v (.bool p)]] => some ([spots n g,n ≤ 9223372036854775806,inR x,inR y,inR c,inR s],plA k r w t n (gx g 0) (gx g 1) ((x,e),(y,f)) ((c,o),(s,p)))
 | _ => none
theorem chk_r {k r w t:Int} {n:Nat} {X Y:Nat → Int} (h:chkS k r w t n X Y = 0) (hk:¬ k = 1):r = 0:=by
 unfold chkS at h
 rw [if_neg hk] at h
 split at h
 ·split at h <;> omega
 ·split at h
  ·split at h <;> omega
  ·omega
theorem vc81 (k r w t:Int) (n:Nat) (X Y:Nat → Int) (hX:∀ i,i < n → inR (X i) ∧ inR (Y i)) (hn:n ≤ 9223372036854775806) (at' rot:V2) (h0:inR at'.1.1) (h1:inR at'.2.1) (h2:inR rot.1.1) (h3:inR rot.2.1) :
  fnVC Tryz.prog [(152,c119),(79,c62),(155,c155),(156,c156),(157,c157),(158,k68),(159,c159)] [(9,⟨[(6,.slot 4)],[]⟩),(15,⟨[(13,.slot 7)],[]⟩)] Tryz.f81 [shapeA k r w t n fun i => [i64 (X i),i64 (Y i)],poseA at' rot] (alk (plA k r w t n X Y at' rot)):=by
 refine fnVC_go (rs:=[.cell 4 122,.tmp 5]) rfl rfl ?_
 have hg:spots n fun i => [i64 (X i),i64 (Y i)]:=fun i hi => ⟨rfl,hX i hi⟩
 have eX:gx (fun i => [i64 (X i),i64 (Y i)]) 0 = X:=rfl
 have eY:gx (fun i => [i64 (X i),i64 (Y i)]) 1 = Y:=rfl
 simp only [go_sem,c62,c155,c156,c157,c119,eX,eY]
 simp only [forall_eq]
 have pos:∀ e:Int,plErr k r w t n X Y at' rot = e → e ≠ 0 → alk (plA k r w t n X Y at' rot) (.tup [.agg [i64 0,i64 0,i64 0,i64 0,.v (.slice none 0 0)],i64 e]):=fun e he hne => by
  subst he
  unfold plA formA
  have q:plN k r w t n X Y at' rot = 0:=if_neg hne
  rw [q,show plK k r w t n X Y at' rot = 0 from if_neg hne,show plC k r w t n X Y at' rot at'.1 = 0 from if_neg hne,show plC k r w t n X Y at' rot at'.2 = 0 from if_neg hne,show plR k r w t n X Y at' rot = 0 from if_neg hne]
  exact alk_form alk_nil
 refine ⟨hg,hn,fun h => ⟨h2,h3,fun h4 => ?_,fun h4 => ⟨h0,fun _ => h1,fun h5 => ?_,fun h5 => ?_⟩⟩,fun h => ⟨fun h4 => ?_,fun h4 => ?_⟩⟩
 ·have hne:rotS rot.1.1 rot.1.2 rot.2.1 rot.2.2 ≠ 0:=bne_iff_ne.1 h4
  refine pos _ ?_ hne
  unfold plErr; rw [if_neg (by simpa using h),if_pos hne]; rfl
 ·refine pos _ ?_ (by omega)
  unfold plErr
  rw [if_neg (by simpa using h),if_neg (show ¬ rotS rot.1.1 rot.1.2 rot.2.1 rot.2.2 ≠ 0 from not_not_intro (bne_eq_false_iff_eq.1 h4)),if_pos]
  unfold farB
  exact h5
 ·have he:plErr k r w t n X Y at' rot = 0:=by
   unfold plErr
   rw [if_neg (by simpa using h),if_neg (show ¬ rotS rot.1.1 rot.1.2 rot.2.1 rot.2.2 ≠ 0 from not_not_intro (bne_eq_false_iff_eq.1 h4)),if_neg]
   unfold farB
   rintro (h7 | h7)
   ·rw [h5.1] at h7; cases h7
   ·rw [h5.2] at h7; cases h7
  have hc:chkS k r w t n X Y = 0:=by simpa using h
  have hcs:=chk_cases hc
  refine ⟨fun h6 => ⟨h0,h1,?_⟩,fun h6 => ⟨h0,h1,hg,hn,?_⟩⟩
  ·have hk:k = 1:=by simpa using h6
   unfold plA formA
   rw [show plN k r w t n X Y at' rot = 0 by unfold plN; rw [if_pos he,if_pos hk],show plK k r w t n X Y at' rot = 1 by unfold plK; rw [if_pos he,if_pos hk],show plC k r w t n X Y at' rot at'.1 = _ from if_pos he,show plC k r w t n X Y at' rot at'.2 = _ from if_pos he,show plR k r w t n X Y at' rot = r from if_pos he,he]
   exact alk_form alk_nil
  ·have hk:¬ k = 1:=by simpa using h6
   have hN:corN k r w t n X Y ≤ 8:=by unfold corN; rw [if_pos hc]; split <;> omega
   have hx:∀ i,i < corN k r w t n X Y → inR (corX k w t X i) ∧ inR (corY k w t Y i):=fun i hi => by
    unfold corN at hi; rw [if_pos hc] at hi
    unfold corX corY
    split
    ·constructor <;> (split <;> (unfold inR; omega))
    ·rename_i h7
     rw [if_neg h7] at hi
     exact hX i hi
   generalize hM:corN k r w t n X Y = M at *
   refine loopN_go (fun (i:Nat) => i ≤ M) (fun i => M - i) (fun i => [(9,i64 i)]) (fun i => [(32,fam1 122 5 [i64 2,i64 (spV at'.1),i64 (spV at'.2),i64 0,.own 38 0 i 2] none),(38,famN i 2 116 (fun j => [i64 (plX k w t X Y at' rot j),i64 (plY k w t X Y at' rot j)]) none)]) [2,1,0] [47,48,49,50,53,54,55,56,57,58,59,60,61,62,63,64,65,51,52,9] 1 0 (by kernel_rfl) (Nat.zero_le _) ⟨[(38,none)],?_,?_,?_,?_⟩ ?_
   ·simp only [go_sem]
   ·simp only [go_sem]
   ·simp only [go_sem]
   ·simp [goodNames,asg]
   intro i hi
   simp only [go_sem,c157,c159,k68]
   have hb:bytesT Tryz.prog 116 = 16:=by kernel_rfl
   rw [hb]
   simp only [forall_eq]
   refine ⟨fun hin => ?_,fun hin => ?_⟩
   ·have hi':i < M:=by omega
    have hxi:=hx i hi'
    refine ⟨by omega,hin,hxi.1,hxi.2,h0,h1,h2,h3,rg_inR nRat_rg,rg_inR nRat_rg,by omega,by omega,i + 1,by omega,by omega,[(38,some 54)],?_⟩
    simp only [go_sem]
    refine ⟨by rw [wrap_in (by unfold inR; omega)]; rfl,fun j hj => ?_,by simp [goodNames,asg]⟩
    by_cases e:j < i
    ·rw [if_pos e]; simp only [go_sem]
    ·have e:j = i:=by omega
     subst e
     rw [if_neg (by omega),Nat.sub_self]
     simp only [Nat.zero_mul,go_sem]
     exact ⟨rfl,rfl⟩
   ·have e:i = M:=by omega
    subst e
    unfold plA formA
    rw [show plN k r w t n X Y at' rot = i by unfold plN; rw [if_pos he,if_neg hk,hM],show plK k r w t n X Y at' rot = 2 by unfold plK; rw [if_pos he,if_neg hk],show plC k r w t n X Y at' rot at'.1 = _ from if_pos he,show plC k r w t n X Y at' rot at'.2 = _ from if_pos he,show plR k r w t n X Y at' rot = 0 by unfold plR; rw [if_pos he,chk_r hc hk],he]
    exact alk_refl
 ·have hne:chkS k r w t n X Y ≠ 0:=by simpa using h
  exact pos _ (by unfold plErr; rw [if_pos hne]) hne
 ·simp at h h4; omega
theorem con81:ConOK Tryz.prog 81 c65:=ConOK.goR (G:=[(152,c119),(79,c62),(155,c155),(156,c156),(157,c157),(158,k68),(159,c159)]) (H:=[(9,⟨[(6,.slot 4)],[]⟩),(15,⟨[(13,.slot 7)],[]⟩)]) (.cons con152 (.cons con79 (.cons con155 (.cons con156 (.cons con157 (.cons kon68 (.cons con159 .nil))))))) Tryz.func81 fun l ob rr hc hob => by
 unfold c65 at hc
 split at hc
 ·rename_i k r w t n g x e y f c o s p
  cases hc
  have hs:spots n g:=hob _ (by simp)
  refine ⟨[shapeA k r w t n fun i => [i64 (gx g 0 i),i64 (gx g 1 i)],poseA ((x,e),(y,f)) ((c,o),(s,p))],fun w I vs h => ?_,by kernel_rfl,vc81 k r w t n _ _ (fun i hi => (hs i hi).2) (hob _ (by simp)) ((x,e),(y,f)) ((c,o),(s,p)) (hob _ (by simp)) (hob _ (by simp)) (hob _ (by simp)) (hob _ (by simp))⟩
  obtain ⟨x,xs,rfl,h1,h2⟩:=h.inv
  exact .cons (Rs_shape hs _ h1) h2
 ·cases hc
end Go.Ax
end
section
/-
  What rays meet, the law's body.
-/
set_option maxHeartbeats 4000000
set_option maxRecDepth 100000
namespace Go.Ax
open Go.Proofs
theorem aEq27 {a0 b0:Int} {a1 b1:Bool}:aEq Tryz.prog 27 (.agg [i64 a0,bo a1]) (.agg [i64 b0,bo b1]) = some ((a0 == b0) && ((a1 == b1) && true)):=by kernel_rfl
theorem eq27 {xo yo:Operand} {neg:Bool} {a0 b0:Int} {a1 b1:Bool}:eqE Tryz.prog neg 27 xo yo (.agg [i64 a0,bo a1]) (.agg [i64 b0,bo b1]) = some ⟨[],.v (.bool (negV neg ((a0 == b0) && ((a1 == b1) && true)))),.none⟩:=eqE_agg aEq27
attribute [go_sem] eq27
theorem aEq29 {a0 b0:Int} {a1 b1:Bool} {a2 b2:Int} {a3 b3:Bool}:aEq Tryz.prog 29 (.agg [i64 a0,bo a1,i64 a2,bo a3]) (.agg [i64 b0,bo b1,i64 b2,bo b3]) = some (((a0 == b0) && ((a1 == b1) && true)) && (((a2 == b2) && ((a3 == b3) && true)) && true)):=by kernel_rfl
theorem eq29 {xo yo:Operand} {neg:Bool} {a0 b0:Int} {a1 b1:Bool} {a2 b2:Int} {a3 b3:Bool}:eqE Tryz.prog neg 29 xo yo (.agg [i64 a0,bo a1,i64 a2,bo a3]) (.agg [i64 b0,bo b1,i64 b2,bo b3]) = some ⟨[],.v (.bool (negV neg (((a0 == b0) && ((a1 == b1) && true)) && (((a2 == b2) && ((a3 == b3) && true)) && true)))),.none⟩:=eqE_agg aEq29
attribute [go_sem] eq29
theorem aEq310 {a0 b0:Bool} {a1 b1:Int} {a2 b2:Bool} {a3 b3:Int} {a4 b4:Bool} {a5 b5:Int} {a6 b6:Bool}:aEq Tryz.prog 310 (.agg [bo a0,i64 a1,bo a2,i64 a3,bo a4,i64 a5,bo a6]) (.agg [bo b0,i64 b1,bo b2,i64 b3,bo b4,i64 b5,bo b6]) = some ((a0 == b0) && (((a1 == b1) && ((a2 == b2) && true)) && ((((a3 == b3) && ((a4 == b4) && true)) && (((a5 == b5) && ((a6 == b6) && true)) && true)) && true))):=by kernel_rfl
theorem eq310 {xo yo:Operand} {neg:Bool} {a0 b0:Bool} {a1 b1:Int} {a2 b2:Bool} {a3 b3:Int} {a4 b4:Bool} {a5 b5:Int} {a6 b6:Bool}:eqE Tryz.prog neg 310 xo yo (.agg [bo a0,i64 a1,bo a2,i64 a3,bo a4,i64 a5,bo a6]) (.agg [bo b0,i64 b1,bo b2,i64 b3,bo b4,i64 b5,bo b6]) = some ⟨[],.v (.bool (negV neg ((a0 == b0) && (((a1 == b1) && ((a2 == b2) && true)) && ((((a3 == b3) && ((a4 == b4) && true)) && (((a5 == b5) && ((a6 == b6) && true)) && true)) && true))))),.none⟩:=eqE_agg aEq310
attribute [go_sem] eq310
end Go.Ax
end
section
/-
  Shapes placed, the law's body.
-/
set_option maxHeartbeats 4000000
set_option maxRecDepth 100000
namespace Go.Ax
open Go.Proofs
theorem spV_inR {a:Nb}:inR (spV a):=by
 have:rg (whV (nMul a (nInt 256)).1):=whV_rg (rg_inR nMul_rg)
 unfold spV
 unfold rg at this
 unfold inR
 omega
theorem pl_spots {N:Nat} {k w t:Int} {X Y:Nat → Int} {at' rot:V2}:(spots N fun i => [i64 (plX k w t X Y at' rot i),i64 (plY k w t X Y at' rot i)]) = True:=eq_true fun i _ => ⟨rfl,spV_inR,spV_inR⟩
theorem plN_le {k r w t:Int} {n:Nat} {X Y:Nat → Int} {at' rot:V2}:plN k r w t n X Y at' rot ≤ 8:=by
 unfold plN
 split
 ·split
  ·omega
  ·unfold corN
   split
   ·rename_i h
    have:=chk_cases h
    split <;> omega
   ·omega
 ·omega
theorem plN_max {k r w t:Int} {n:Nat} {X Y:Nat → Int} {at' rot:V2}:(plN k r w t n X Y at' rot ≤ 9223372036854775806) = True:=eq_true (Nat.le_trans plN_le (by omega))
end Go.Ax
end