/-
  Rays and polygons.
-/
import Derived.Test.YtlpbblcepjlfpaaGreatCM6
set_option linter.unusedVariables false
set_option linter.unusedSimpArgs false
section
set_option maxHeartbeats 4000000
set_option maxRecDepth 100000
namespace Go.Ax
open Go.Proofs
theorem mth107_meets : methT Tryz.prog 107 "bagatelle/solid.meets" = some 234 := by kernel_rfl
theorem mth112_meets : methT Tryz.prog 112 "bagatelle/solid.meets" = some 238 := by kernel_rfl
attribute [go_sem] mth107_meets mth112_meets
abbrev HitT:=Bool × Nb × V2
def hit0:HitT:=(false,(0,false),((0,false),(0,false)))
abbrev hitC (h:HitT):List AV:=[bo h.1,i64 h.2.1.1,bo h.2.1.2,i64 h.2.2.1.1,bo h.2.2.1.2,i64 h.2.2.2.1,bo h.2.2.2.2]
def hitA (h:HitT):AV:=.agg (hitC h)
theorem bnd_hit {h:HitT}:bnd (hitA h) = .agg [bo h.1,i64 h.2.1.1,bo h.2.1.2,i64 h.2.2.1.1,bo h.2.2.1.2,i64 h.2.2.2.1,bo h.2.2.2.2]:=(rfl)
theorem plain_hit {h:HitT}:plain 3 (hitA h) = true:=(rfl)
attribute [go_sem] bnd_hit plain_hit
theorem turnS_bd {a b c d e f:Int} (h1:validS a b = true) (h2:validS c d = true) (h3:validS e f = true):-35184372088832 ≤ turnS a b c d e f ∧ turnS a b c d e f ≤ 35184372088832:=by
 rw [validS_iff] at h1 h2 h3
 have s1:sm (c - a):=by unfold sm; omega
 have s2:sm (d - b):=by unfold sm; omega
 have s3:sm (e - a):=by unfold sm; omega
 have s4:sm (f - b):=by unfold sm; omega
 have q1:=sm_mul s1 s4
 have q2:=sm_mul s2 s3
 unfold turnS
 omega
abbrev PS:=Int × (Int × Int) × (Int × Int)
def plS (G H:Nat → Int):Nat → PS
 | 0 => (-1,(-1,1),(1,1))
 | i + 1 => if G i < 0 then (if (plS G H i).2.1.1 * (H i - G i) < -G i * (plS G H i).2.1.2 then ((i:Int),(-G i,H i - G i),(plS G H i).2.2) else plS G H i)
  else if H i < 0 then (if G i * (plS G H i).2.2.2 < (plS G H i).2.2.1 * (G i - H i) then ((plS G H i).1,(plS G H i).2.1,(G i,G i - H i)) else plS G H i)
  else plS G H i
def plOK (G H:Nat → Int) (i:Nat) (s:PS):Prop:=
 (s.1 = -1 ∧ s.2.1 = (-1,1) ∨ ∃ j,j < i ∧ s.1 = (j:Int) ∧ G j < 0 ∧ 0 ≤ H j ∧ s.2.1 = (-G j,H j - G j)) ∧ (s.2.2 = (1,1) ∨ ∃ j,j < i ∧ 0 ≤ G j ∧ H j < 0 ∧ s.2.2 = (G j,G j - H j))
theorem plS_ok {G H:Nat → Int}:∀ (i:Nat),(∀ j,j < i → ¬ (G j < 0 ∧ H j < 0)) → plOK G H i (plS G H i)
 | 0,_ => ⟨.inl ⟨rfl,rfl⟩,.inl rfl⟩
 | i + 1,h => by
  obtain ⟨h1,h2⟩:=plS_ok i fun j hj => h j (by omega)
  have hi:=h i (by omega)
  have up1:(plS G H i).1 = -1 ∧ (plS G H i).2.1 = (-1,1) ∨ ∃ j,j < i + 1 ∧ (plS G H i).1 = (j:Int) ∧ G j < 0 ∧ 0 ≤ H j ∧ (plS G H i).2.1 = (-G j,H j - G j):=h1.imp id fun ⟨j,a,b⟩ => ⟨j,by omega,b⟩
  have up2:(plS G H i).2.2 = (1,1) ∨ ∃ j,j < i + 1 ∧ 0 ≤ G j ∧ H j < 0 ∧ (plS G H i).2.2 = (G j,G j - H j):=h2.imp id fun ⟨j,a,b⟩ => ⟨j,by omega,b⟩
  unfold plS
  split
  ·split
   ·exact ⟨.inr ⟨i,by omega,rfl,by assumption,by omega,rfl⟩,up2⟩
   ·exact ⟨up1,up2⟩
  ·split
   ·split
    ·exact ⟨up1,.inr ⟨i,by omega,by omega,by assumption,rfl⟩⟩
    ·exact ⟨up1,up2⟩
   ·exact ⟨up1,up2⟩
def plHit (n:Nat) (X Y:Nat → Int) (s:PS):HitT:=
 if s.1 < 0 then hit0 else (true,nRat (-s.2.1.1) (-s.2.1.2),vNorm (X s.1.toNat) (Y s.1.toNat) (X (nxt n s.1.toNat)) (Y (nxt n s.1.toNat)))
def pgT (n:Nat) (X Y:Nat → Int) (fx fy:Int) (i:Nat):Int:=turnS (X i) (Y i) (X (nxt n i)) (Y (nxt n i)) fx fy
def plF (n:Nat) (X Y:Nat → Int) (fx fy tx ty:Int):Bool:=anyB (fun i => decide (pgT n X Y fx fy i < 0 ∧ pgT n X Y tx ty i < 0)) n
def plE (n:Nat) (X Y:Nat → Int) (s:PS):HitT:=if s.1 < 0 ∨ s.2.2.1 * s.2.1.2 < s.2.1.1 * s.2.2.2 then hit0 else plHit n X Y s
def plH (n:Nat) (X Y:Nat → Int) (fx fy tx ty:Int):HitT:=
 if plF n X Y fx fy tx ty = true then hit0 else plE n X Y (plS (pgT n X Y fx fy) (pgT n X Y tx ty) n)
def c238:Con
 | [.agg [.ro n 2 g],.agg [.v (.int .i64 fx),.v (.int .i64 fy)],.agg [.v (.int .i64 tx),.v (.int .i64 ty)]] => some ([spots n g,n ≤ 9223372036854775806,∀ i,i < n → validS (gx g 0 i) (gx g 1 i) = true,validS fx fy = true,validS tx ty = true],hitA (plH n (gx g 0) (gx g 1) fx fy tx ty))
 | _ => none
theorem vc238 (n:Nat) (X Y:Nat → Int) (fx fy tx ty:Int) (hX:∀ i,i < n → inR (X i) ∧ inR (Y i)) (hn:n ≤ 9223372036854775806) (hv:∀ i,i < n → validS (X i) (Y i) = true) (hf:validS fx fy = true) (ht:validS tx ty = true) :
  fnVC Tryz.prog [(86,c86),(85,c85),(1000000 + 161,c161),(239,c239),(98,k132),(120,k173)] [(13,⟨[(9,.slot 9)],[]⟩)] Tryz.f238 [.agg [.ro n 2 fun i => [i64 (X i),i64 (Y i)]],.agg [i64 fx,i64 fy],.agg [i64 tx,i64 ty]] (· = hitA (plH n X Y fx fy tx ty)):=by
 refine fnVC_go (rs:=[.cell 6 80]) rfl rfl ?_
 simp only [go_sem,c85]
 have hg:spots n fun i => [i64 (X i),i64 (Y i)]:=fun i hi => ⟨rfl,hX i hi⟩
 generalize hG:pgT n X Y fx fy = G
 generalize hH:pgT n X Y tx ty = H
 have hGi:∀ i,turnS (X i) (Y i) (X (nxt n i)) (Y (nxt n i)) fx fy = G i:=fun i => by rw [← hG]; rfl
 have hHi:∀ i,turnS (X i) (Y i) (X (nxt n i)) (Y (nxt n i)) tx ty = H i:=fun i => by rw [← hH]; rfl
 have hGb:∀ i,i < n → -35184372088832 ≤ G i ∧ G i ≤ 35184372088832:=fun i hi => by rw [← hGi]; exact turnS_bd (hv i hi) (hv _ (nxt_lt hi)) hf
 have hHb:∀ i,i < n → -35184372088832 ≤ H i ∧ H i ≤ 35184372088832:=fun i hi => by rw [← hHi]; exact turnS_bd (hv i hi) (hv _ (nxt_lt hi)) ht
 have eF:plF n X Y fx fy tx ty = anyB (fun i => decide (G i < 0 ∧ H i < 0)) n:=by unfold plF; rw [hG,hH]
 have eH:plH n X Y fx fy tx ty = if anyB (fun i => decide (G i < 0 ∧ H i < 0)) n = true then hit0 else plE n X Y (plS G H n):=by unfold plH; rw [eF,hG,hH]
 rw [eH]
 clear eH eF
 refine rangeC_go (fun (i:Nat) => i ≤ n ∧ ∀ j,j < i → ¬ (G j < 0 ∧ H j < 0)) (fun i => i)
  (fun i => [(10,fam1 80 7 (hitC (plHit n X Y (plS G H i))) none),(7,fam1 243 2 [i64 (plS G H i).2.2.1,i64 (plS G H i).2.2.2] none),(6,fam1 243 2 [i64 (plS G H i).2.1.1,i64 (plS G H i).2.1.2] none)]) [3,2,1,0] [20,21,10,11,22,23,24,25,26,27,28,29,12,13,31,32,33,34,35,36,30,37,39,40,38,41,42,43,44,45,46,14,47,48,49,50,51,52,53,54,55,56,57,58,59,61,62,60,63,64,65,66,67,15,68,69,70,71] 0 0 (N:=n) (sq:=edgeE n fun i => [i64 (X i),i64 (Y i)]) (ob:=[spots n fun i => [i64 (X i),i64 (Y i)],n ≤ 9223372036854775806]) rfl (by simp [hg,hn]) (by kernel_rfl) rfl (fun i _ => ⟨rfl,rfl⟩) ⟨Nat.zero_le _,fun j hj => by omega⟩ rfl ⟨[],?_,?_,?_⟩ ?_ ?_
 ·simp only [go_sem,plS,plHit]
  exact ⟨rfl,rfl,rfl,rfl,rfl,rfl,rfl⟩
 ·simp only [go_sem]
 ·simp [goodNames,asg]
 ·intro i hi hlt
  simp only [go_sem,edgeE,c86,c239,k132,k173]
  have gb:=hGb i hlt
  have hb:=hHb i hlt
  obtain ⟨ok1,ok2⟩:=plS_ok i hi.2
  have in1:inR (plS G H i).2.1.1 ∧ inR (plS G H i).2.1.2:=by
   rcases ok1 with h | ⟨j,h1,_,_,_,h⟩
   ·rw [h.2]; exact ⟨by unfold inR; omega,by unfold inR; omega⟩
   ·have:=hGb j (by omega); have:=hHb j (by omega)
    rw [h]; exact ⟨by unfold inR; dsimp only; omega,by unfold inR; dsimp only; omega⟩
  have in2:inR (plS G H i).2.2.1 ∧ inR (plS G H i).2.2.2:=by
   rcases ok2 with h | ⟨j,h1,_,_,h⟩
   ·rw [h]; exact ⟨by unfold inR; omega,by unfold inR; omega⟩
   ·have:=hGb j (by omega); have:=hHb j (by omega)
    rw [h]; exact ⟨by unfold inR; dsimp only; omega,by unfold inR; dsimp only; omega⟩
  intro z hz
  rw [hGi] at hz; subst hz
  refine ⟨hv i hlt,hv _ (nxt_lt hlt),hf,fun z1 hz1 => ?_⟩
  rw [hHi] at hz1; subst hz1
  refine ⟨hv i hlt,hv _ (nxt_lt hlt),ht,fun h => ?_,fun h => ?_⟩
  ·have:anyB (fun i => decide (G i < 0 ∧ H i < 0)) n = true:=anyB_iff.2 ⟨i,hlt,decide_eq_true h⟩
   rw [if_pos this]; rfl
  have hno:¬ (G i < 0 ∧ H i < 0):=by simpa using h
  have hnext:∀ j,j < i + 1 → ¬ (G j < 0 ∧ H j < 0):=fun j hj => by
   by_cases e:j = i
   ·subst e; exact hno
   ·exact hi.2 j (by omega)
  refine ⟨fun hg => ?_,fun hg => ⟨fun hh => ?_,fun hh => ?_⟩⟩
  ·intro z2 hz2 z3 hz3 z4 hz4
   rw [wrap_in (by unfold inR; omega)] at hz2 hz3
   rw [show (0:Int) - G i = -G i by omega] at hz2
   subst hz2 hz3
   refine ⟨by unfold inR; omega,by unfold inR; omega,in1.1,in1.2,fun h4 z5 hz5 => ?_,fun h4 => ?_⟩
   ·rw [wrap_in (by unfold inR; omega)] at hz5
    subst hz5
    rw [hz4] at h4
    have es:plS G H (i + 1) = ((i:Int),(-G i,H i - G i),(plS G H i).2.2):=by
     conv => lhs; unfold plS
     rw [if_pos hg,if_pos (by simpa using h4)]
    refine ⟨by unfold inR; omega,by unfold inR; omega,hv i hlt,hv _ (nxt_lt hlt),i + 1,⟨by have:i < n:=hlt; omega,hnext⟩,rfl,[],?_⟩
    have eh:plHit n X Y ((i:Int),(-G i,H i - G i),(plS G H i).2.2) = (true,nRat (G i) (G i - H i),vNorm (X i) (Y i) (X (nxt n i)) (Y (nxt n i))):=by
     unfold plHit
     dsimp only
     rw [if_neg (by omega),show -(-G i) = G i by omega,show -(H i - G i) = G i - H i by omega]
     rfl
    simp only [go_sem,es,eh]
    simp [goodNames,asg]
   ·rw [hz4] at h4
    have es:plS G H (i + 1) = plS G H i:=by
     conv => lhs; unfold plS
     rw [if_pos hg,if_neg (by simpa using h4)]
    refine ⟨i + 1,⟨by have:i < n:=hlt; omega,hnext⟩,rfl,[],?_⟩
    simp only [go_sem,es]
    simp [goodNames,asg]
  ·intro z2 hz2 z4 hz4
   rw [wrap_in (by unfold inR; omega)] at hz2
   subst hz2
   refine ⟨in2.1,in2.2,by unfold inR; omega,by unfold inR; omega,fun h4 => ?_,fun h4 => ?_⟩
   ·rw [hz4] at h4
    have es:plS G H (i + 1) = ((plS G H i).1,(plS G H i).2.1,(G i,G i - H i)):=by
     conv => lhs; unfold plS
     rw [if_neg hg,if_pos hh,if_pos (by simpa using h4)]
    refine ⟨i + 1,⟨by have:i < n:=hlt; omega,hnext⟩,rfl,[],?_⟩
    have eh:plHit n X Y ((plS G H i).1,(plS G H i).2.1,(G i,G i - H i)) = plHit n X Y (plS G H i):=rfl
    simp only [go_sem,es,eh]
    simp [goodNames,asg]
   ·rw [hz4] at h4
    have es:plS G H (i + 1) = plS G H i:=by
     conv => lhs; unfold plS
     rw [if_neg hg,if_pos hh,if_neg (by simpa using h4)]
    refine ⟨i + 1,⟨by have:i < n:=hlt; omega,hnext⟩,rfl,[],?_⟩
    simp only [go_sem,es]
    simp [goodNames,asg]
  ·have es:plS G H (i + 1) = plS G H i:=by
    conv => lhs; unfold plS
    rw [if_neg hg,if_neg hh]
   refine ⟨i + 1,⟨by have:i < n:=hlt; omega,hnext⟩,rfl,[],?_⟩
   simp only [go_sem,es]
   simp [goodNames,asg]
 ·intro i hi he
  have he:i = n:=he
  subst he
  simp only [go_sem,c239]
  obtain ⟨ok1,ok2⟩:=plS_ok i hi.2
  have in1:inR (plS G H i).2.1.1 ∧ inR (plS G H i).2.1.2:=by
   rcases ok1 with h | ⟨j,h1,_,_,_,h⟩
   ·rw [h.2]; exact ⟨by unfold inR; omega,by unfold inR; omega⟩
   ·have:=hGb j (by omega); have:=hHb j (by omega)
    rw [h]; exact ⟨by unfold inR; dsimp only; omega,by unfold inR; dsimp only; omega⟩
  have in2:inR (plS G H i).2.2.1 ∧ inR (plS G H i).2.2.2:=by
   rcases ok2 with h | ⟨j,h1,_,_,h⟩
   ·rw [h]; exact ⟨by unfold inR; omega,by unfold inR; omega⟩
   ·have:=hGb j (by omega); have:=hHb j (by omega)
    rw [h]; exact ⟨by unfold inR; dsimp only; omega,by unfold inR; dsimp only; omega⟩
  have hno:¬ anyB (fun i => decide (G i < 0 ∧ H i < 0)) i = true:=fun h => by
   obtain ⟨j,h1,h2⟩:=anyB_iff.1 h
   exact hi.2 j h1 (of_decide_eq_true h2)
  have e1:(plHit i X Y (plS G H i)).1 = decide (¬ (plS G H i).1 < 0):=by
   unfold plHit; split
   ·rename_i h; rw [decide_eq_false (by simpa using h)]; rfl
   ·rename_i h; rw [decide_eq_true h]
  rw [if_neg hno]
  intro z hz
  refine ⟨fun _ => in1.1,fun _ => in1.2,fun _ => in2.1,fun _ => in2.2,fun h => ?_,fun h => ?_⟩
  ·have:(plS G H i).1 < 0 ∨ (plS G H i).2.2.1 * (plS G H i).2.1.2 < (plS G H i).2.1.1 * (plS G H i).2.2.2:=by
    rw [e1,hz] at h
    rcases h with h | h
    ·left; simpa using h
    ·right; simpa using h
   unfold plE; rw [if_pos this]; rfl
  ·have:¬ ((plS G H i).1 < 0 ∨ (plS G H i).2.2.1 * (plS G H i).2.1.2 < (plS G H i).2.1.1 * (plS G H i).2.2.2):=by
    rw [e1,hz] at h
    rintro (k | k)
    ·have:=h.1; simp at this; omega
    ·have:=h.2; simp at this; omega
   unfold plE; rw [if_neg this]; rfl
theorem con238:ConOK Tryz.prog 238 c238:=ConOK.go (G:=[(86,c86),(85,c85),(1000000 + 161,c161),(239,c239),(98,k132),(120,k173)]) (H:=[(13,⟨[(9,.slot 9)],[]⟩)]) (.cons con86 (.cons con85 (.seq seq161 (.cons con239 (.cons kon132 (.cons kon173 .nil)))))) Tryz.func238 fun l ob rr hc hob => by
 unfold c238 at hc
 split at hc
 ·rename_i n g fx fy tx ty
  cases hc
  have hs:spots n g:=hob _ (by simp)
  refine ⟨[.agg [.ro n 2 fun i => [i64 (gx g 0 i),i64 (gx g 1 i)]],.agg [i64 fx,i64 fy],.agg [i64 tx,i64 ty]],fun w I vs h => ?_,by kernel_rfl,vc238 n _ _ fx fy tx ty (fun i hi => (hs i hi).2) (hob _ (by simp)) (hob _ (by simp)) (hob _ (by simp)) (hob _ (by simp))⟩
  obtain ⟨x,xs,rfl,h1,h2⟩:=h.inv
  exact .cons (Rs_poly hs _ h1) h2
 ·cases hc
end Go.Ax
end
section
/-
  Rays and forms.
-/
set_option maxHeartbeats 4000000
set_option maxRecDepth 100000
namespace Go.Ax
open Go.Proofs
instance {x y r fx fy tx ty:Int}:Decidable (dmB x y r fx fy tx ty):=by unfold dmB; infer_instance
def dmH (x y r fx fy tx ty:Int):HitT:=if dmB x y r fx fy tx ty then hit0 else (true,dmT (fx - x) (fy - y) (tx - fx) (ty - fy) r,dmN (fx - x) (fy - y) (tx - fx) (ty - fy) r)
def k249:Con
 | [.agg [.v (.int .i64 x),.v (.int .i64 y),.v (.int .i64 r)],.agg [.v (.int .i64 a),.v (.int .i64 b)],.agg [.v (.int .i64 c),.v (.int .i64 d)]] => some ([validS x y = true,sm r,validS a b = true,validS c d = true],hitA (dmH x y r a b c d))
 | _ => none
theorem kon249:ConOK Tryz.prog 234 k249:=ConOK.of (G:=[(104,c104),(105,c105),(233,c233),(185,c185),(47,k63),(113,k162),(109,k165),(235,k250),(95,k129),(112,k160),(111,k167),(236,k251),(126,k178),(127,k179),(114,k161),(115,k168),(93,k127),(118,k171),(116,k169),(96,k130)]) (H:=[(1,⟨[(9,.made 7),(10,.made 8)],[]⟩),(8,⟨[(10,.made 7),(11,.made 8),(12,.made 9)],[]⟩),(11,⟨[(10,.made 9)],[]⟩),(12,⟨[(10,.made 9)],[]⟩),(13,⟨[(4,.slot 18)],[]⟩),(14,⟨[(11,.made 10)],[]⟩)]) (.cons con104 (.cons con105 (.cons con233 (.cons con185 (.cons kon63 (.cons kon162 (.cons kon165 (.cons kon250 (.cons kon129 (.cons kon160 (.cons kon167 (.cons kon251 (.cons kon178 (.cons kon179 (.cons kon161 (.cons kon168 (.cons kon127 (.cons kon171 (.cons kon169 (.cons kon130 .nil)))))))))))))))))))) Tryz.func234 fun l ob r hc hob => by
 unfold k249 at hc
 split at hc
 ·rename_i x y r a b c d
  cases hc
  have h_0:validS x y = true:=hob _ (by simp)
  have h_1:sm r:=hob _ (by simp)
  have h_2:validS a b = true:=hob _ (by simp)
  have h_3:validS c d = true:=hob _ (by simp)
  refine ⟨by kernel_rfl,fnVC_go (rs:=[.cell 6 80]) rfl rfl ?_⟩
  simp only [go_sem,c104,c105,c233,c185,k63,k162,k165,k250,k129,k160,k167,k251,k178,k179,k161,k168,k127,k171,k169,k130]
  have v0:=validS_iff.1 h_0
  have v2:=validS_iff.1 h_2
  have v3:=validS_iff.1 h_3
  have hrs:sm r:=h_1
  have s1:sm (a - x):=by unfold sm; omega
  have s2:sm (b - y):=by unfold sm; omega
  have s3:sm (c - a):=by unfold sm; omega
  have s4:sm (d - b):=by unfold sm; omega
  have q1:=sm_mul s1 s3
  have q2:=sm_mul s2 s4
  have q3:=sm_mul s3 s3
  have q4:=sm_mul s4 s4
  have q5:=sm_mul s1 s1
  have q6:=sm_mul s2 s2
  have q7:=sm_mul hrs hrs
  unfold sm at s1 s2 s3 s4 hrs
  have w1:IntKind.i64.wrap (a - x) = a - x:=wrap_in (by unfold inR; omega)
  have w2:IntKind.i64.wrap (b - y) = b - y:=wrap_in (by unfold inR; omega)
  have w3:IntKind.i64.wrap (c - a) = c - a:=wrap_in (by unfold inR; omega)
  have w4:IntKind.i64.wrap (d - b) = d - b:=wrap_in (by unfold inR; omega)
  have t1:IntKind.i64.wrap ((a - x) * (c - a)) = (a - x) * (c - a):=wrap_in (by unfold inR; omega)
  have t2:IntKind.i64.wrap ((b - y) * (d - b)) = (b - y) * (d - b):=wrap_in (by unfold inR; omega)
  have t3:IntKind.i64.wrap ((c - a) * (c - a)) = (c - a) * (c - a):=wrap_in (by unfold inR; omega)
  have t4:IntKind.i64.wrap ((d - b) * (d - b)) = (d - b) * (d - b):=wrap_in (by unfold inR; omega)
  have t5:IntKind.i64.wrap ((a - x) * (a - x)) = (a - x) * (a - x):=wrap_in (by unfold inR; omega)
  have t6:IntKind.i64.wrap ((b - y) * (b - y)) = (b - y) * (b - y):=wrap_in (by unfold inR; omega)
  have t7:IntKind.i64.wrap (r * r) = r * r:=wrap_in (by unfold inR; omega)
  have u1:IntKind.i64.wrap ((a - x) * (c - a) + (b - y) * (d - b)) = (a - x) * (c - a) + (b - y) * (d - b):=wrap_in (by unfold inR; omega)
  have u2:IntKind.i64.wrap ((c - a) * (c - a) + (d - b) * (d - b)) = (c - a) * (c - a) + (d - b) * (d - b):=wrap_in (by unfold inR; omega)
  have u3:IntKind.i64.wrap ((a - x) * (a - x) + (b - y) * (b - y)) = (a - x) * (a - x) + (b - y) * (b - y):=wrap_in (by unfold inR; omega)
  have u4:IntKind.i64.wrap (0 - ((a - x) * (c - a) + (b - y) * (d - b))) = -((a - x) * (c - a) + (b - y) * (d - b)):=by rw [wrap_in (by unfold inR; omega)]; omega
  have u5:IntKind.i64.wrap ((a - x) * (a - x) + (b - y) * (b - y) - r * r) = (a - x) * (a - x) + (b - y) * (b - y) - r * r:=wrap_in (by unfold inR; omega)
  intro z hz z1 hz1 z2 hz2 z3 hz3
  rw [w3] at hz; rw [w4] at hz1; rw [w1] at hz2; rw [w2] at hz3
  subst hz hz1 hz2 hz3
  intro z4 hz4 z5 hz5 z6 hz6
  rw [t3,t4,u2] at hz4
  rw [t1,t2,u1] at hz5
  have hc:∀ p q:Int,cmpS p q < 0 ↔ p < q:=fun p q => by
   unfold cmpS; split
   ·omega
   ·split <;> omega
  have hyes:¬ dmB x y r a b c d → dmH x y r a b c d = (true,dmT (a - x) (b - y) (c - a) (d - b) r,dmN (a - x) (b - y) (c - a) (d - b) r):=fun h => by unfold dmH; rw [if_neg h]
  have hno:dmB x y r a b c d → dmH x y r a b c d = hit0:=fun h => by unfold dmH; rw [if_pos h]
  unfold dmB at hyes hno
  refine ⟨h_0,h_3,h_1,fun h1 z7 hz7 => ⟨fun h2 => ?_,fun h2 z8 hz8 z9 hz9 z10 hz10 z11 hz11 => ?_⟩,fun h1 => ?_⟩
  ·rw [hz5,u4] at hz7
   rw [hz7,hz5,hz4] at h2
   rw [hno ⟨by rw [hz6] at h1; exact of_decide_eq_false h1,.inl h2⟩]; rfl
  ·rw [hz5,u4] at hz7
   rw [t5,t6,u3] at hz8
   rw [t7] at hz9
   rw [hz8,hz9,u5] at hz10
   have i4:inR z4:=by unfold inR; omega
   have i5:inR z5:=by unfold inR; omega
   have i10:inR z10:=by unfold inR; omega
   refine ⟨i5,i5,i4,i10,fun h3 => ?_,fun h3 => ⟨by unfold inR; omega,by unfold inR; omega,by unfold inR; omega,by unfold inR; omega,by unfold inR; omega,?_⟩⟩
   ·rw [hz11,hc,hz10,hz5,hz4] at h3
    rw [hno ⟨by rw [hz6] at h1; exact of_decide_eq_false h1,.inr h3⟩]; rfl
   ·rw [hz11,hc,hz10,hz5,hz4] at h3
    rw [hz7,hz5,hz4] at h2
    rw [hyes (by
     rintro ⟨_,(k | k) | k⟩
     ·exact h2.1 k
     ·exact h2.2 k
     ·exact h3 k)]
    rfl
  ·have hin:dist2 x y c d ≤ r * r:=by rw [hz6] at h1; exact of_decide_eq_true h1
   refine ⟨by unfold inR; omega,by unfold inR; omega,by unfold inR; omega,by unfold inR; omega,by unfold inR; omega,?_⟩
   rw [hyes (fun k => k.1 hin)]
   rfl
 ·cases hc
def castS (k x y r:Int) (n:Nat) (X Y:Nat → Int) (fx fy tx ty:Int):HitT:=
 if checkS k x y r n X Y = 0 ∧ validS fx fy = true ∧ validS tx ty = true then
  (if holdsS k x y r n X Y fx fy = true then (true,(0,false),((0,false),(0,false))) else if k = 1 then dmH x y r fx fy tx ty else plH n X Y fx fy tx ty) else hit0
theorem fair2r {a b c d:Int}:fairS 2 (gx (rowsOf 2 [i64 a,i64 b,i64 c,i64 d]) 0) (gx (rowsOf 2 [i64 a,i64 b,i64 c,i64 d]) 1) = (validS a b && validS c d):=fair2 rfl rfl
def c36:Con
 | [.agg [.v (.int .i64 k),.v (.int .i64 x),.v (.int .i64 y),.v (.int .i64 r),.ro n 2 g],.agg [.v (.int .i64 a),.v (.int .i64 b)],.agg [.v (.int .i64 c),.v (.int .i64 d)]] => some ([spots n g,n ≤ 9223372036854775806,inR x,inR y,inR r,inR a,inR b,inR c,inR d],hitA (castS k x y r n (gx g 0) (gx g 1) a b c d))
 | _ => none
theorem con36:ConOK Tryz.prog 36 c36:=ConOK.of (G:=[(53,c53),(50,c50),(106,c106),(233,c233),(238,c238),(234,k249)]) (H:=[]) (.cons con53 (.cons con50 (.cons con106 (.cons con233 (.cons con238 (.cons kon249 .nil)))))) Tryz.func36 fun l ob r hc hob => by
 unfold c36 at hc
 split at hc
 ·rename_i k x y r n g a b c d
  cases hc
  have h_0:spots n g:=hob _ (by simp)
  have h_1:n ≤ 9223372036854775806:=hob _ (by simp)
  have h_2:inR x:=hob _ (by simp)
  have h_3:inR y:=hob _ (by simp)
  have h_4:inR r:=hob _ (by simp)
  have h_5:inR a:=hob _ (by simp)
  have h_6:inR b:=hob _ (by simp)
  have h_7:inR c:=hob _ (by simp)
  have h_8:inR d:=hob _ (by simp)
  refine ⟨by kernel_rfl,fnVC_go (rs:=[.cell 6 80]) rfl rfl ?_⟩
  simp only [go_sem,c53,c50,c106,c233,c238,k249]
  have hsp:spots 2 (rowsOf 2 [i64 a,i64 b,i64 c,i64 d]):=spots2 rfl rfl h_5 h_6 h_7 h_8
  have hfa:=fair2r (a:=a) (b:=b) (c:=c) (d:=d)
  rw [hfa]
  have cno:¬ (checkS k x y r n (gx g 0) (gx g 1) = 0 ∧ validS a b = true ∧ validS c d = true) → castS k x y r n (gx g 0) (gx g 1) a b c d = hit0:=fun h => by unfold castS; rw [if_neg h]
  have cin:checkS k x y r n (gx g 0) (gx g 1) = 0 ∧ validS a b = true ∧ validS c d = true → holdsS k x y r n (gx g 0) (gx g 1) a b = true → castS k x y r n (gx g 0) (gx g 1) a b c d = (true,(0,false),((0,false),(0,false))):=fun h h2 => by unfold castS; rw [if_pos h,if_pos h2]
  have cout:checkS k x y r n (gx g 0) (gx g 1) = 0 ∧ validS a b = true ∧ validS c d = true → ¬ holdsS k x y r n (gx g 0) (gx g 1) a b = true → castS k x y r n (gx g 0) (gx g 1) a b c d = if k = 1 then dmH x y r a b c d else plH n (gx g 0) (gx g 1) a b c d:=fun h h2 => by unfold castS; rw [if_pos h,if_neg h2]
  refine ⟨fun hc => ?_,fun hc => ?_⟩
  ·obtain ⟨_,v1,v2,h1,h2⟩:=check_1 hc
   refine ⟨fun hk => ⟨h_0,h_1,h_2,h_3,h_4,fun z hz => ⟨fun _ => hsp,fun h => ?_,fun h z1 hz1 => ?_⟩⟩,fun hk => ⟨h_0,h_1,h_2,h_3,h_4,fun z hz => ⟨fun _ => hsp,fun h => ?_,fun h z1 hz1 => ?_⟩⟩⟩
   ·rw [cno (by
     rintro ⟨_,p,q⟩
     rw [p,q] at hz
     rcases h with h | h
     ·exact h
     ·rw [hz] at h; cases h)]; rfl
   ·have hv:validS a b = true ∧ validS c d = true:=by rw [hz] at h; simpa using h
    have hr:=h1 hk
    have eh:holdsS k x y r n (gx g 0) (gx g 1) a b = decide (dist2 x y a b ≤ r * r):=by unfold holdsS; rw [if_pos hk]
    refine ⟨v1,hv.1,by unfold sm; omega,fun hz2 => ?_,fun hz2 => ⟨v1,by unfold sm; omega,hv.1,hv.2,?_⟩⟩
    ·rw [cin ⟨hc,hv⟩ (by rw [eh,← hz1]; exact hz2)]; rfl
    ·rw [cout ⟨hc,hv⟩ (by rw [eh,← hz1,hz2]; simp),if_pos hk]; rfl
   ·rw [cno (by
     rintro ⟨_,p,q⟩
     rw [p,q] at hz
     rcases h with h | h
     ·exact h
     ·rw [hz] at h; cases h)]; rfl
   ·have hv:validS a b = true ∧ validS c d = true:=by rw [hz] at h; simpa using h
    have eh:holdsS k x y r n (gx g 0) (gx g 1) a b = inS n (gx g 0) (gx g 1) a b:=by unfold holdsS; rw [if_neg hk]
    refine ⟨h_0,h_1,v2,hv.1,fun hz2 => ?_,fun hz2 => ⟨h_0,h_1,v2,hv.1,hv.2,?_⟩⟩
    ·rw [cin ⟨hc,hv⟩ (by rw [eh,← hz1]; exact hz2)]; rfl
    ·rw [cout ⟨hc,hv⟩ (by rw [eh,← hz1,hz2]; simp),if_neg hk]; rfl
  ·rw [cno (fun h => hc h.1)]
   exact ⟨h_0,h_1,h_2,h_3,h_4,fun z hz => ⟨fun h => h.elim,fun _ => trivial,fun h => (by cases h),fun _ => rfl,fun h => (by cases h.1)⟩⟩
 ·cases hc
def c144:Con
 | [.agg [.v (.int .i64 k),.v (.int .i64 x),.v (.int .i64 y),.v (.int .i64 r),.ro n 2 g],.v (.int .i64 i)] => some ([spots n g,0 ≤ i,i < n,n ≤ 9223372036854775806],.tup [.agg [i64 (gx g 0 i.toNat),i64 (gx g 1 i.toNat)],.agg [i64 (gx g 0 (nxt n i.toNat)),i64 (gx g 1 (nxt n i.toNat))]])
 | _ => none
theorem vc144 (k x y r:Int) (n:Nat) (X Y:Nat → Int) (i:Nat) (hi:i < n) (hn:n ≤ 9223372036854775806):fnVC Tryz.prog [] [(1,⟨[(15,.slot 4),(16,.slot 5)],[(6,[.slot 4]),(10,[.slot 4]),(14,[.slot 4])]⟩)] Tryz.f144 [formA k x y r n fun i => [i64 (X i),i64 (Y i)],i64 i] (· = .tup [.agg [i64 (X i),i64 (Y i)],.agg [i64 (X (nxt n i)),i64 (Y (nxt n i))]]):=by
 refine fnVC_go (rs:=[.cell 4 29,.cell 5 29]) rfl rfl ?_
 have hn0:((n:Int) = 0) = False:=eq_false (by omega)
 simp only [go_sem,hn0]
 have hl:=nxt_lt hi
 refine ⟨by omega,by omega,fun z hz z1 hz1 => ?_⟩
 rw [wrap_in (by unfold inR; omega)] at hz
 rw [hz,tmod_nxt hi] at hz1
 subst hz1
 exact ⟨by omega,by omega,rfl⟩
theorem con144:ConOK Tryz.prog 144 c144:=ConOK.go (G:=[]) (H:=[(1,⟨[(15,.slot 4),(16,.slot 5)],[(6,[.slot 4]),(10,[.slot 4]),(14,[.slot 4])]⟩)]) .nil Tryz.func144 fun l ob rr hc hob => by
 unfold c144 at hc
 split at hc
 ·rename_i k x y r n g i
  cases hc
  have hs:spots n g:=hob _ (by simp)
  have h0:0 ≤ i:=hob _ (by simp)
  have h1:i < n:=hob _ (by simp)
  have e:i = (i.toNat:Int):=by omega
  refine ⟨[formA k x y r n fun i => [i64 (gx g 0 i),i64 (gx g 1 i)],i64 (i.toNat:Int)],fun w I vs h => Rs_two (Rs_form hs) (fun v h => by rw [← e]; exact h) h,by kernel_rfl,vc144 k x y r n _ _ i.toNat (by omega) (hob _ (by simp))⟩
 ·cases hc
def cz78:Con
 | [.agg [.v (.int .i64 k),.v (.int .i64 x),.v (.int .i64 y),.v (.int .i64 r),.ro n 2 g],.agg [.v (.int .i64 a),.v (.int .i64 b)],.agg [.v (.int .i64 c),.v (.int .i64 d)]] => some ([spots n g,n ≤ 9223372036854775806,checkS k x y r n (gx g 0) (gx g 1) = 0,k = 1,validS a b = true,validS c d = true,holdsS k x y r n (gx g 0) (gx g 1) a b = false],hitA (dmH x y r a b c d))
 | _ => none
end Go.Ax
end
section
/-
  Rays and forms: the reference.
-/
set_option maxHeartbeats 4000000
set_option maxRecDepth 100000
namespace Go.Ax
open Go.Proofs
def rfA (s:PS):Int:=if s.1 < 0 then 0 else s.2.1.1
def cz24:Con
 | [.agg [.v (.int .i64 k),.v (.int .i64 x),.v (.int .i64 y),.v (.int .i64 r),.ro n 2 g],.agg [.v (.int .i64 a),.v (.int .i64 b)],.agg [.v (.int .i64 c),.v (.int .i64 d)]] => some ([spots n g,n ≤ 9223372036854775806,inR x,inR y,inR r],hitA (castS k x y r n (gx g 0) (gx g 1) a b c d))
 | _ => none
end Go.Ax
end
section
/-
  Shapes placed: the small parts.
-/
set_option maxHeartbeats 4000000
set_option maxRecDepth 100000
namespace Go.Ax
open Go.Proofs
def c43:Con
 | [.agg [.v (.int .i64 a),.v (.bool e)]] => some ([inR a],bo (! (whF a e || decide (17592186044416 < ab (whV a)))))
 | _ => none
theorem con43:ConOK Tryz.prog 43 c43:=ConOK.of (G:=[(92,c92),(93,c93),(87,c87)]) (H:=[]) (.cons con92 (.cons con93 (.cons con87 .nil))) Tryz.func43 fun l ob r hc hob => by
 unfold c43 at hc
 split at hc
 ·rename_i a e
  cases hc
  have h_0:inR a:=hob _ (by simp)
  refine ⟨by kernel_rfl,fnVC_go (rs:=[.tmp 2]) rfl rfl ?_⟩
  simp only [go_sem,c92,c93,c87]
  simp only [forall_eq]
  refine ⟨h_0,fun _ => by unfold inR; omega,?_⟩
  have e1:whV (ab (whV a)) = ab (whV a):=whV_of (by have:=whV_rg h_0; unfold rg at *; unfold ab; split <;> omega)
  have e2:whV (ftV (4096 * 4294967296)) = 17592186044416:=by decide
  rw [e1,e2,Bool.eq_iff_iff]
  simp [cmpS]
  intro _
  split
  ·simp; omega
  ·split
   ·simp; omega
   ·simp; omega
 ·cases hc
def c44:Con
 | [.agg [.v (.int .i64 a),.v (.bool e),.v (.int .i64 b),.v (.bool f)]] => some ([inR a,inR b],.agg [i64 (spV (a,e)),i64 (spV (b,f))])
 | _ => none
theorem con44:ConOK Tryz.prog 44 c44:=ConOK.of (G:=[(93,c93),(94,c94),(95,c95)]) (H:=[(2,⟨[(11,.slot 2)],[]⟩)]) (.cons con93 (.cons con94 (.cons con95 .nil))) Tryz.func44 fun l ob r hc hob => by
 unfold c44 at hc
 split at hc
 ·rename_i a e b f
  cases hc
  have h_0:inR a:=hob _ (by simp)
  have h_1:inR b:=hob _ (by simp)
  refine ⟨by kernel_rfl,fnVC_go (rs:=[.cell 2 29]) rfl rfl ?_⟩
  simp only [go_sem,c93,c94,c95]
  simp only [forall_eq]
  exact ⟨h_0,rg_inR (ftV_rg _),rg_inR (ftV_rg _),h_1,rg_inR (ftV_rg _),rg_inR (ftV_rg _),rfl⟩
 ·cases hc
theorem vfS_one {x y:Int} {e f:Bool}:vfS 1 (rowsOf 4 [i64 x,bo e,i64 y,bo f]) = (whF x e || whF y f):=by
 unfold vfS anyB anyB
 rw [Bool.false_or]; rfl
def c42:Con
 | [.agg [.v (.int .i64 x),.v (.bool e),.v (.int .i64 y),.v (.bool f)]] => some ([inR x,inR y],i64 (if (whF x e = true ∨ whF y f = true) ∨ (65536 < (nDot (x,e) (x,e) (y,f) (y,f)).1 - 4294967296 ∨ 65536 < 4294967296 - (nDot (x,e) (x,e) (y,f) (y,f)).1) then 3 else 0))
 | _ => none
theorem con42:ConOK Tryz.prog 42 c42:=ConOK.of (G:=[(90,c90),(91,c91)]) (H:=[]) (.cons con90 (.cons con91 .nil)) Tryz.func42 fun l ob r hc hob => by
 unfold c42 at hc
 split at hc
 ·rename_i x e y f
  cases hc
  have h_0:inR x:=hob _ (by simp)
  have h_1:inR y:=hob _ (by simp)
  refine ⟨by kernel_rfl,fnVC_go (rs:=[.tmp 2]) rfl rfl ?_⟩
  simp only [go_sem,c90,c91]
  simp only [forall_eq,vfS_one]
  have k0:0 ≤ (whV x * whV x + whV y * whV y).tdiv 4294967296:=Int.tdiv_nonneg (by have:=sq_nonneg (a:=whV x); have:=sq_nonneg (a:=whV y); omega) (by omega)
  have k1:0 ≤ ftV ((whV x * whV x + whV y * whV y).tdiv 4294967296) ∧ ftV ((whV x * whV x + whV y * whV y).tdiv 4294967296) ≤ 9223372036854775807:=by unfold ftV; (repeat' split) <;> omega
  have eD:(nDot (x,e) (x,e) (y,f) (y,f)).1 = ftV ((whV x * whV x + whV y * whV y).tdiv 4294967296):=rfl
  rw [eD]
  generalize ftV ((whV x * whV x + whV y * whV y).tdiv 4294967296) = n at *
  rw [wrap_in (x:=n - 4294967296) (by unfold inR; omega)]
  refine ⟨⟨h_0,h_1⟩,fun h => ?_,fun h => ⟨h_0,h_0,h_1,h_1,fun h2 => ?_,fun h2 => ?_⟩⟩
  ·rw [if_pos (.inl (by simpa using h))]
  ·rw [if_pos (.inr (by omega))]
  ·rw [if_neg (by
    rintro (k | k)
    ·have:(whF x e || whF y f) = true:=by simpa using k
     rw [h] at this; cases this
    ·omega)]
 ·cases hc
def k131:Con
 | [.agg [.v (.int .i64 x),.v (.bool e),.v (.int .i64 y),.v (.bool f)],.agg [.v (.int .i64 z),.v (.bool g),.v (.int .i64 t),.v (.bool h)]] => some ([inR x,inR y,inR z,inR t],veA (vApply ((x,e),(y,f)) ((z,g),(t,h))))
 | _ => none
theorem kon131:ConOK Tryz.prog 97 k131:=ConOK.of (G:=[(91,c91),(127,c127)]) (H:=[(1,⟨[(20,.slot 4)],[]⟩)]) (.cons con91 (.cons con127 .nil)) Tryz.func97 fun l ob r hc hob => by
 unfold k131 at hc
 split at hc
 ·rename_i x e y f z g t h
  cases hc
  have h_0:inR x:=hob _ (by simp)
  have h_1:inR y:=hob _ (by simp)
  have h_2:inR z:=hob _ (by simp)
  have h_3:inR t:=hob _ (by simp)
  refine ⟨by kernel_rfl,fnVC_go (rs:=[.cell 4 38]) rfl rfl ?_⟩
  simp only [go_sem,c91,c127]
  simp only [forall_eq]
  exact ⟨h_1,h_0,h_2,rg_inR (by have:=whV_rg h_1; unfold rg at *; omega),h_3,h_1,h_2,h_0,h_3,rfl⟩
 ·cases hc
def k62:Con
 | [.agg [.v (.int .i64 x),.v (.bool e),.v (.int .i64 y),.v (.bool f),.v (.int .i64 c),.v (.bool o),.v (.int .i64 s),.v (.bool p)],.agg [.v (.int .i64 z),.v (.bool g),.v (.int .i64 t),.v (.bool h)]] => some ([inR x,inR y,inR c,inR s,inR z,inR t],veA (vAdd ((x,e),(y,f)) (vApply ((c,o),(s,p)) ((z,g),(t,h)))))
 | _ => none
theorem kon62:ConOK Tryz.prog 46 k62:=ConOK.of (G:=[(96,k130),(97,k131)]) (H:=[(1,⟨[(8,.slot 4)],[]⟩)]) (.cons kon130 (.cons kon131 .nil)) Tryz.func46 fun l ob r hc hob => by
 unfold k62 at hc
 split at hc
 ·rename_i x e y f c o s p z g t h
  cases hc
  have h_0:inR x:=hob _ (by simp)
  have h_1:inR y:=hob _ (by simp)
  have h_2:inR c:=hob _ (by simp)
  have h_3:inR s:=hob _ (by simp)
  have h_4:inR z:=hob _ (by simp)
  have h_5:inR t:=hob _ (by simp)
  refine ⟨by kernel_rfl,fnVC_go (rs:=[.cell 4 38]) rfl rfl ?_⟩
  simp only [go_sem,k130,k131]
  exact ⟨h_2,h_3,h_4,h_5,⟨h_0,h_1⟩,rfl⟩
 ·cases hc
def k68:Con
 | [.agg [.v (.int .i64 x),.v (.bool e),.v (.int .i64 y),.v (.bool f),.v (.int .i64 c),.v (.bool o),.v (.int .i64 s),.v (.bool p)],.agg [.v (.int .i64 z),.v (.bool g),.v (.int .i64 t),.v (.bool h)]] => some ([inR x,inR y,inR c,inR s,inR z,inR t],veA (vAdd ((x,e),(y,f)) (vApply ((c,o),(s,p)) ((z,g),(t,h)))))
 | _ => none
theorem kon68:ConOK Tryz.prog 156 k68:=ConOK.of (G:=[(141,k138),(199,k139)]) (H:=[(1,⟨[(8,.slot 4)],[]⟩)]) (.cons kon138 (.cons kon139 .nil)) Tryz.func156 fun l ob r hc hob => by
 unfold k68 at hc
 split at hc
 ·rename_i x e y f c o s p z g t h
  cases hc
  have h_0:inR x:=hob _ (by simp)
  have h_1:inR y:=hob _ (by simp)
  have h_2:inR c:=hob _ (by simp)
  have h_3:inR s:=hob _ (by simp)
  have h_4:inR z:=hob _ (by simp)
  have h_5:inR t:=hob _ (by simp)
  refine ⟨by kernel_rfl,fnVC_go (rs:=[.cell 4 38]) rfl rfl ?_⟩
  simp only [go_sem,k138,k139]
  exact ⟨h_2,h_3,h_4,h_5,⟨h_0,h_1⟩,rfl⟩
 ·cases hc
end Go.Ax
end
section
/-
  The corners of a shape.
-/
set_option maxHeartbeats 4000000
set_option maxRecDepth 100000
namespace Go.Ax
open Go.Proofs
def alk (r r':AV):Prop:=∀ w ρ v,R w ρ r' v → R w ρ r v
theorem ConOK.goR {P:Program} {G:Ctx} {H:Hots} (hG:CtxOK P G) {f:FuncId} {fn:Func} (hf:P.funcs[f]? = some fn) {c:Con}
  (h:∀ es1 ob r,c es1 = some (ob,r) → (∀ p ∈ ob,p) → ∃ es,(∀ w I vs,Rs w (.ext I) es1 vs → Rs w (.ext I) es vs) ∧ funcOK P H fn es.length = true ∧ fnVC P G H fn es (alk r)):ConOK P f c:=by
 intro es0 ob r hc hob I w vs hI hRs
 obtain ⟨es,h0,h1,h2⟩:=h es0 ob r hc hob
 obtain ⟨k1,k2⟩:=fn_sound hG hf h1 h2 I w vs hI (h0 w I vs hRs)
 exact .inr ⟨k1,k2.mono fun e w' ⟨v,he,⟨r',hr,hR⟩,hb⟩ => ⟨v,he,hr _ _ _ hR,hb⟩⟩
theorem alk_refl {r:AV}:alk r r:=fun _ _ _ h => h
theorem alk_ro {n:Nat} {f g:Nat → List AV} (h:∀ i,i < n → g i = f i):alk (.ro n 2 f) (.ro n 2 g):=fun w ρ v hR => ro_alike h hR
theorem alk_nil {f:Nat → List AV}:alk (.ro 0 2 f) (.v (.slice none 0 0)):=fun w ρ v hR => by
 cases hR
 exact .ro 0 0 (Nat.le_refl _) (fun h => absurd h (by omega)) (fun h => absurd h (by omega)) (fun i h => absurd h (by omega)) (fun i k h => absurd h (by omega)) (fun i k c x h => absurd h (by omega))
def corN (k r w t:Int) (n:Nat) (X Y:Nat → Int):Nat:=if chkS k r w t n X Y = 0 then (if k = 2 then 4 else n) else 0
def corX (k w t:Int) (X:Nat → Int) (i:Nat):Int:=if k = 2 then (match i with | 0 => -w | 1 => w | 2 => w | _ => -w) else X i
def corY (k w t:Int) (Y:Nat → Int) (i:Nat):Int:=if k = 2 then (match i with | 0 => -t | 1 => -t | 2 => t | _ => t) else Y i
abbrev corA (k r w t:Int) (n:Nat) (X Y:Nat → Int):AV:=.ro (corN k r w t n X Y) 2 fun i => [i64 (corX k w t X i),i64 (corY k w t Y i)]
theorem chk_cases {k r w t:Int} {n:Nat} {X Y:Nat → Int} (h:chkS k r w t n X Y = 0):(k = 1 ∧ n = 0 ∧ 16 ≤ r ∧ r ≤ 4096) ∨ (k = 2 ∧ n = 0 ∧ 16 ≤ w ∧ w ≤ 4096 ∧ 16 ≤ t ∧ t ≤ 4096) ∨ (k = 3 ∧ 3 ≤ n ∧ n ≤ 8 ∧ r = 0 ∧ ∀ i,i < n → lo (X i) ∧ lo (Y i)):=by
 unfold chkS at h
 split at h
 ·rename_i h1
  split at h
  ·omega
  ·split at h
   ·exact .inl ⟨h1,by omega⟩
   ·omega
 ·split at h
  ·rename_i h1 h2
   split at h
   ·omega
   ·split at h
    ·exact .inr (.inl ⟨h2,by omega⟩)
    ·omega
  ·split at h
   ·rename_i h1 h2 h3
    split at h
    ·omega
    ·split at h
     ·rename_i h5 h6
      exact .inr (.inr ⟨h3,by omega,by omega,by omega,h6⟩)
     ·omega
   ·omega
theorem vc45 (k r w t:Int) (n:Nat) (X Y:Nat → Int) (hX:∀ i,i < n → inR (X i) ∧ inR (Y i)) (hn:n ≤ 9223372036854775806):fnVC Tryz.prog [(41,c41)] [] Tryz.f45 [shapeA k r w t n fun i => [i64 (X i),i64 (Y i)]] (alk (corA k r w t n X Y)):=by
 refine fnVC_go (rs:=[.tmp 2]) rfl rfl ?_
 have hg:spots n fun i => [i64 (X i),i64 (Y i)]:=fun i hi => ⟨rfl,hX i hi⟩
 have eX:gx (fun i => [i64 (X i),i64 (Y i)]) 0 = X:=rfl
 have eY:gx (fun i => [i64 (X i),i64 (Y i)]) 1 = Y:=rfl
 simp only [go_sem,c41,eX,eY]
 have hb:bytesT Tryz.prog 29 = 16:=by kernel_rfl
 rw [hb]
 simp only [forall_eq]
 refine ⟨hg,hn,fun h => ?_,fun h => ⟨fun h2 => ?_,fun h2 => ?_⟩⟩
 ·have:corN k r w t n X Y = 0:=if_neg (by simpa using h)
  unfold corA
  rw [this]
  exact alk_nil
 ·have hk:k = 2:=by simpa using h2
  have hc:chkS k r w t n X Y = 0:=by simpa using h
  have:corN k r w t n X Y = 4:=by unfold corN; rw [if_pos hc,if_pos hk]
  have hb:=chk_cases hc
  rw [wrap_in (x:=0 - w) (by unfold inR; omega),wrap_in (x:=0 - t) (by unfold inR; omega),Int.zero_sub,Int.zero_sub]
  unfold corA
  rw [this]
  refine alk_ro fun i hi => ?_
  unfold corX corY
  rw [if_pos hk,if_pos hk]
  match i with
  | 0 => rfl
  | 1 => rfl
  | 2 => rfl
  | 3 => rfl
  | j + 4 => omega
 ·have hk:¬ k = 2:=by simpa using h2
  have hc:chkS k r w t n X Y = 0:=by simpa using h
  have:corN k r w t n X Y = n:=by unfold corN; rw [if_pos hc,if_neg hk]
  have hb:=chk_cases hc
  unfold corA
  rw [this]
  refine ⟨fun i hi => by simp only [go_sem],by omega,by omega,?_⟩
  refine alk_ro fun i hi => ?_
  unfold corX corY
  rw [if_neg hk,if_neg hk]
theorem vc11 (k r w t:Int) (n:Nat) (X Y:Nat → Int) (hX:∀ i,i < n → inR (X i) ∧ inR (Y i)) (hn:n ≤ 9223372036854775806):fnVC Tryz.prog [(52,c41)] [] Tryz.f11 [shapeA k r w t n fun i => [i64 (X i),i64 (Y i)]] (alk (corA k r w t n X Y)):=by
 refine fnVC_go (rs:=[.tmp 2]) rfl rfl ?_
 have hg:spots n fun i => [i64 (X i),i64 (Y i)]:=fun i hi => ⟨rfl,hX i hi⟩
 have eX:gx (fun i => [i64 (X i),i64 (Y i)]) 0 = X:=rfl
 have eY:gx (fun i => [i64 (X i),i64 (Y i)]) 1 = Y:=rfl
 simp only [go_sem,c41,eX,eY]
 have hb:bytesT Tryz.prog 29 = 16:=by kernel_rfl
 rw [hb]
 simp only [forall_eq]
 refine ⟨hg,hn,fun h => ?_,fun h => ⟨fun h2 => ?_,fun h2 => ?_⟩⟩
 ·have:corN k r w t n X Y = 0:=if_neg (by simpa using h)
  unfold corA
  rw [this]
  exact alk_nil
 ·have hk:k = 2:=by simpa using h2
  have hc:chkS k r w t n X Y = 0:=by simpa using h
  have:corN k r w t n X Y = 4:=by unfold corN; rw [if_pos hc,if_pos hk]
  have hb:=chk_cases hc
  rw [wrap_in (x:=0 - w) (by unfold inR; omega),wrap_in (x:=0 - t) (by unfold inR; omega),Int.zero_sub,Int.zero_sub]
  unfold corA
  rw [this]
  refine alk_ro fun i hi => ?_
  unfold corX corY
  rw [if_pos hk,if_pos hk]
  match i with
  | 0 => rfl
  | 1 => rfl
  | 2 => rfl
  | 3 => rfl
  | j + 4 => omega
 ·have hk:¬ k = 2:=by simpa using h2
  have hc:chkS k r w t n X Y = 0:=by simpa using h
  have:corN k r w t n X Y = n:=by unfold corN; rw [if_pos hc,if_neg hk]
  have hb:=chk_cases hc
  unfold corA
  rw [this]
  refine ⟨fun i hi => by simp only [go_sem],by omega,by omega,?_⟩
  rw [Nat.zero_add]
  refine alk_ro fun i hi => ?_
  unfold corX corY
  rw [if_neg hk,if_neg hk,if_neg (Nat.not_lt_zero i),Nat.sub_zero]
  simp only [go_sem]
def c45:Con
 | [.agg [.v (.int .i64 k),.v (.int .i64 r),.v (.int .i64 w),.v (.int .i64 t),.ro n 2 g]] => some ([spots n g,n ≤ 9223372036854775806],corA k r w t n (gx g 0) (gx g 1))
 | _ => none
theorem con45:ConOK Tryz.prog 45 c45:=ConOK.goR (G:=[(41,c41)]) (H:=[]) (.cons con41 .nil) Tryz.func45 fun l ob rr hc hob => by
 unfold c45 at hc
 split at hc
 ·rename_i k r w t n g
  cases hc
  have hs:spots n g:=hob _ (by simp)
  exact ⟨[shapeA k r w t n fun i => [i64 (gx g 0 i),i64 (gx g 1 i)]],fun w I vs h => Rs_one (Rs_shape hs) h,by kernel_rfl,vc45 k r w t n _ _ (fun i hi => (hs i hi).2) (hob _ (by simp))⟩
 ·cases hc
theorem con11:ConOK Tryz.prog 11 c45:=ConOK.goR (G:=[(52,c41)]) (H:=[]) (.cons con52 .nil) Tryz.func11 fun l ob rr hc hob => by
 unfold c45 at hc
 split at hc
 ·rename_i k r w t n g
  cases hc
  have hs:spots n g:=hob _ (by simp)
  exact ⟨[shapeA k r w t n fun i => [i64 (gx g 0 i),i64 (gx g 1 i)]],fun w I vs h => Rs_one (Rs_shape hs) h,by kernel_rfl,vc11 k r w t n _ _ (fun i hi => (hs i hi).2) (hob _ (by simp))⟩
 ·cases hc
end Go.Ax
end
section
/-
  Shapes placed.
-/
set_option maxHeartbeats 4000000
set_option maxRecDepth 100000
namespace Go.Ax
open Go.Proofs
theorem alk_form {a b c d e p q:AV} (h:alk p q):alk (.tup [.agg [a,b,c,d,p],e]) (.tup [.agg [a,b,c,d,q],e]):=fun w ρ v hR => by
 cases hR with
 | tup hl hh =>
  refine .tup hl fun i x z h1 h2 => ?_
  match i with
  | 0 =>
   simp at h1; subst h1
   have:=hh 0 _ z rfl h2
   cases this with
   | agg hl' hh' =>
    refine .agg hl' fun j x y h3 h4 => ?_
    match j with
    | 0 => exact hh' 0 x y h3 h4
    | 1 => exact hh' 1 x y h3 h4
    | 2 => exact hh' 2 x y h3 h4
    | 3 => exact hh' 3 x y h3 h4
    | 4 =>
     simp at h3; subst h3
     exact h _ _ _ (hh' 4 _ y rfl h4)
    | m + 5 => simp at h3
  | 1 => exact hh 1 x z h1 h2
  | m + 2 => simp at h1
def rotS (x:Int) (e:Bool) (y:Int) (f:Bool):Int:=if (whF x e = true ∨ whF y f = true) ∨ (65536 < (nDot (x,e) (x,e) (y,f) (y,f)).1 - 4294967296 ∨ 65536 < 4294967296 - (nDot (x,e) (x,e) (y,f) (y,f)).1) then 3 else 0
def farB (a:Nb):Bool:=whF a.1 a.2 || decide (17592186044416 < ab (whV a.1))
def plErr (k r w t:Int) (n:Nat) (X Y:Nat → Int) (at' rot:V2):Int:=
 if chkS k r w t n X Y ≠ 0 then chkS k r w t n X Y else if rotS rot.1.1 rot.1.2 rot.2.1 rot.2.2 ≠ 0 then rotS rot.1.1 rot.1.2 rot.2.1 rot.2.2 else if farB at'.1 = true ∨ farB at'.2 = true then 3 else 0
def plPt (at' rot:V2) (x y:Int):V2:=vAdd at' (vApply rot (vLoc x y))
def plX (k w t:Int) (X Y:Nat → Int) (at' rot:V2) (i:Nat):Int:=spV (plPt at' rot (corX k w t X i) (corY k w t Y i)).1
def plY (k w t:Int) (X Y:Nat → Int) (at' rot:V2) (i:Nat):Int:=spV (plPt at' rot (corX k w t X i) (corY k w t Y i)).2
def plN (k r w t:Int) (n:Nat) (X Y:Nat → Int) (at' rot:V2):Nat:=if plErr k r w t n X Y at' rot = 0 then (if k = 1 then 0 else corN k r w t n X Y) else 0
def plK (k r w t:Int) (n:Nat) (X Y:Nat → Int) (at' rot:V2):Int:=if plErr k r w t n X Y at' rot = 0 then (if k = 1 then 1 else 2) else 0
def plC (k r w t:Int) (n:Nat) (X Y:Nat → Int) (at' rot:V2) (a:Nb):Int:=if plErr k r w t n X Y at' rot = 0 then spV a else 0
def plR (k r w t:Int) (n:Nat) (X Y:Nat → Int) (at' rot:V2):Int:=if plErr k r w t n X Y at' rot = 0 then r else 0
abbrev plA (k r w t:Int) (n:Nat) (X Y:Nat → Int) (at' rot:V2):AV:=
 .tup [formA (plK k r w t n X Y at' rot) (plC k r w t n X Y at' rot at'.1) (plC k r w t n X Y at' rot at'.2) (plR k r w t n X Y at' rot) (plN k r w t n X Y at' rot) fun i => [i64 (plX k w t X Y at' rot i),i64 (plY k w t X Y at' rot i)],i64 (plErr k r w t n X Y at' rot)]
abbrev poseA (at' rot:V2):AV:=.agg [i64 at'.1.1,bo at'.1.2,i64 at'.2.1,bo at'.2.2,i64 rot.1.1,bo rot.1.2,i64 rot.2.1,bo rot.2.2]
theorem vc8 (k r w t:Int) (n:Nat) (X Y:Nat → Int) (hX:∀ i,i < n → inR (X i) ∧ inR (Y i)) (hn:n ≤ 9223372036854775806) (at' rot:V2) (h0:inR at'.1.1) (h1:inR at'.2.1) (h2:inR rot.1.1) (h3:inR rot.2.1) :
  fnVC Tryz.prog [(41,c41),(42,c42),(43,c43),(44,c44),(45,c45),(46,k62),(47,c47)] [(9,⟨[(7,.made 6)],[]⟩),(15,⟨[(10,.slot 8)],[]⟩)] Tryz.f8 [shapeA k r w t n fun i => [i64 (X i),i64 (Y i)],poseA at' rot] (alk (plA k r w t n X Y at' rot)):=by
 refine fnVC_go (rs:=[.cell 4 31,.tmp 5]) rfl rfl ?_
 have hg:spots n fun i => [i64 (X i),i64 (Y i)]:=fun i hi => ⟨rfl,hX i hi⟩
 have eX:gx (fun i => [i64 (X i),i64 (Y i)]) 0 = X:=rfl
 have eY:gx (fun i => [i64 (X i),i64 (Y i)]) 1 = Y:=rfl
 simp only [go_sem,c41,c42,c43,c44,c45,eX,eY]
 simp only [forall_eq]
 have pos:∀ e:Int,plErr k r w t n X Y at' rot = e → e ≠ 0 → alk (plA k r w t n X Y at' rot) (.tup [.agg [i64 0,i64 0,i64 0,i64 0,.v (.slice none 0 0)],i64 e]):=fun e he hne => by
  subst he
  unfold plA formA
  have q:plN k r w t n X Y at' rot = 0:=if_neg hne
  rw [q,show plK k r w t n X Y at' rot = 0 from if_neg hne,show plC k r w t n X Y at' rot at'.1 = 0 from if_neg hne,show plC k r w t n X Y at' rot at'.2 = 0 from if_neg hne,show plR k r w t n X Y at' rot = 0 from if_neg hne]
  exact alk_form alk_nil
 refine ⟨hg,hn,fun h => ?_,fun h => ⟨h2,h3,fun h4 => ?_,fun h4 => ⟨h0,fun _ => h1,fun h5 => ?_,fun h5 => ⟨h0,h1,fun h6 => ⟨hg,hn,?_⟩,fun h6 => ?_⟩⟩⟩⟩
 ·have hne:chkS k r w t n X Y ≠ 0:=by simpa using h
  exact pos _ (by unfold plErr; rw [if_pos hne]) hne
 ·have hne:rotS rot.1.1 rot.1.2 rot.2.1 rot.2.2 ≠ 0:=bne_iff_ne.1 h4
  refine pos _ ?_ hne
  unfold plErr; rw [if_neg (by simpa using h),if_pos hne]; rfl
 ·refine pos _ ?_ (by omega)
  unfold plErr
  rw [if_neg (by simpa using h),if_neg (show ¬ rotS rot.1.1 rot.1.2 rot.2.1 rot.2.2 ≠ 0 from not_not_intro (bne_eq_false_iff_eq.1 h4)),if_pos]
  unfold farB
  rcases h5 with h5 | h5
  ·exact .inl (by rw [Bool.not_eq_false'] at h5; exact h5)
  ·exact .inr (by rw [Bool.not_eq_false'] at h5; exact h5)
 ·have he:plErr k r w t n X Y at' rot = 0:=by
   unfold plErr
   rw [if_neg (by simpa using h),if_neg (show ¬ rotS rot.1.1 rot.1.2 rot.2.1 rot.2.2 ≠ 0 from not_not_intro (bne_eq_false_iff_eq.1 h4)),if_neg]
   unfold farB
   rw [Bool.not_eq_true',Bool.not_eq_true'] at h5
   rintro (h7 | h7)
   ·rw [h5.1] at h7; cases h7
   ·rw [h5.2] at h7; cases h7
  have hk:¬ k = 1:=by simpa using h6
  have hc:chkS k r w t n X Y = 0:=by simpa using h
  have hcs:=chk_cases hc
  have hN:corN k r w t n X Y ≤ 8:=by unfold corN; rw [if_pos hc]; split <;> omega
  have hb:bytesT Tryz.prog 29 = 16:=by kernel_rfl
  have hx:∀ i,i < corN k r w t n X Y → inR (corX k w t X i) ∧ inR (corY k w t Y i):=fun i hi => by
   unfold corN at hi; rw [if_pos hc] at hi
   unfold corX corY
   split
   ·constructor <;> (split <;> (unfold inR; omega))
   ·rename_i h7
    rw [if_neg h7] at hi
    exact hX i hi
  generalize hM:corN k r w t n X Y = M at *
  refine loopN_go (fun (i:Nat) => i ≤ M) (fun i => M - i) (fun i => [(50,i64 i)]) (fun i => [(33,fam1 31 5 [i64 2,i64 (spV at'.1),i64 (spV at'.2),i64 r,.own 44 0 i 2] none),(44,famN i 2 29 (fun j => [i64 (plX k w t X Y at' rot j),i64 (plY k w t X Y at' rot j)]) none)]) [2,1,0] [51,52,53,10,54,55,56,57,58,59,60,61,62,63,64,50] 1 0 (by kernel_rfl) (Nat.zero_le _) ⟨[(44,none)],?_,?_,?_,?_⟩ ?_
  ·simp only [go_sem]
  ·simp only [go_sem]
  ·simp only [go_sem]
  ·simp [goodNames,asg]
  intro i hi
  simp only [go_sem,c44,c47,k62]
  have hb:bytesT Tryz.prog 29 = 16:=by kernel_rfl
  rw [hb]
  simp only [forall_eq]
  refine ⟨fun hin => ?_,fun hin => ?_⟩
  ·have hi':i < M:=by omega
   have hxi:=hx i hi'
   refine ⟨by omega,hin,hxi.1,hxi.2,h0,h1,h2,h3,rg_inR nRat_rg,rg_inR nRat_rg,by omega,by omega,i + 1,by omega,by omega,[(44,some 58)],?_⟩
   simp only [go_sem]
   refine ⟨by rw [wrap_in (by unfold inR; omega)]; rfl,fun j hj => ?_,by simp [goodNames,asg]⟩
   by_cases e:j < i
   ·rw [if_pos e]; simp only [go_sem]
   ·have e:j = i:=by omega
    subst e
    rw [if_neg (by omega),Nat.sub_self]
    simp only [Nat.zero_mul,go_sem]
    exact ⟨rfl,rfl⟩
  ·have e:i = M:=by omega
   subst e
   unfold plA formA
   rw [show plN k r w t n X Y at' rot = i by unfold plN; rw [if_pos he,if_neg hk,hM],show plK k r w t n X Y at' rot = 2 by unfold plK; rw [if_pos he,if_neg hk],show plC k r w t n X Y at' rot at'.1 = _ from if_pos he,show plC k r w t n X Y at' rot at'.2 = _ from if_pos he,show plR k r w t n X Y at' rot = r from if_pos he,he]
   exact alk_refl
 ·have he:plErr k r w t n X Y at' rot = 0:=by
   unfold plErr
   rw [if_neg (by simpa using h),if_neg (show ¬ rotS rot.1.1 rot.1.2 rot.2.1 rot.2.2 ≠ 0 from not_not_intro (bne_eq_false_iff_eq.1 h4)),if_neg]
   unfold farB
   rw [Bool.not_eq_true',Bool.not_eq_true'] at h5
   rintro (h7 | h7)
   ·rw [h5.1] at h7; cases h7
   ·rw [h5.2] at h7; cases h7
  have hk:k = 1:=by simpa using h6
  unfold plA formA
  rw [show plN k r w t n X Y at' rot = 0 by unfold plN; rw [if_pos he,if_pos hk],show plK k r w t n X Y at' rot = 1 by unfold plK; rw [if_pos he,if_pos hk],show plC k r w t n X Y at' rot at'.1 = _ from if_pos he,show plC k r w t n X Y at' rot at'.2 = _ from if_pos he,show plR k r w t n X Y at' rot = r from if_pos he,he]
  exact alk_form alk_nil
def c8:Con
 | [.agg [.v (.int .i64 k),.v (.int .i64 r),.v (.int .i64 w),.v (.int .i64 t),.ro n 2 g],.agg [.v (.int .i64 x),.v (.bool e),.v (.int .i64 y),.v (.bool f),.v (.int .i64 c),.v (.bool o),.v (.int .i64 s),.v (.bool p)]] => some ([spots n g,n ≤ 9223372036854775806,inR x,inR y,inR c,inR s],plA k r w t n (gx g 0) (gx g 1) ((x,e),(y,f)) ((c,o),(s,p)))
 | _ => none
theorem con8:ConOK Tryz.prog 8 c8:=ConOK.goR (G:=[(41,c41),(42,c42),(43,c43),(44,c44),(45,c45),(46,k62),(47,c47)]) (H:=[(9,⟨[(7,.made 6)],[]⟩),(15,⟨[(10,.slot 8)],[]⟩)]) (.cons con41 (.cons con42 (.cons con43 (.cons con44 (.cons con45 (.cons kon62 (.cons con47 .nil))))))) Tryz.func8 fun l ob rr hc hob => by
 unfold c8 at hc
 split at hc
 ·rename_i k r w t n g x e y f c o s p
  cases hc
  have hs:spots n g:=hob _ (by simp)
  refine ⟨[shapeA k r w t n fun i => [i64 (gx g 0 i),i64 (gx g 1 i)],poseA ((x,e),(y,f)) ((c,o),(s,p))],fun w I vs h => ?_,by kernel_rfl,vc8 k r w t n _ _ (fun i hi => (hs i hi).2) (hob _ (by simp)) ((x,e),(y,f)) ((c,o),(s,p)) (hob _ (by simp)) (hob _ (by simp)) (hob _ (by simp)) (hob _ (by simp))⟩
  obtain ⟨x,xs,rfl,h1,h2⟩:=h.inv
  exact .cons (Rs_shape hs _ h1) h2
 ·cases hc
theorem chk_r {k r w t:Int} {n:Nat} {X Y:Nat → Int} (h:chkS k r w t n X Y = 0) (hk:¬ k = 1):r = 0:=by
 unfold chkS at h
 rw [if_neg hk] at h
 split at h
 ·split at h <;> omega
 ·split at h
  ·split at h <;> omega
  ·omega
theorem vc72 (k r w t:Int) (n:Nat) (X Y:Nat → Int) (hX:∀ i,i < n → inR (X i) ∧ inR (Y i)) (hn:n ≤ 9223372036854775806) (at' rot:V2) (h0:inR at'.1.1) (h1:inR at'.2.1) (h2:inR rot.1.1) (h3:inR rot.2.1) :
  fnVC Tryz.prog [(11,c45),(52,c41),(153,c153),(154,c154),(155,c155),(156,k68),(137,c137)] [(9,⟨[(6,.slot 4)],[]⟩),(15,⟨[(13,.slot 7)],[]⟩)] Tryz.f72 [shapeA k r w t n fun i => [i64 (X i),i64 (Y i)],poseA at' rot] (alk (plA k r w t n X Y at' rot)):=by
 refine fnVC_go (rs:=[.cell 4 31,.tmp 5]) rfl rfl ?_
 have hg:spots n fun i => [i64 (X i),i64 (Y i)]:=fun i hi => ⟨rfl,hX i hi⟩
 have eX:gx (fun i => [i64 (X i),i64 (Y i)]) 0 = X:=rfl
 have eY:gx (fun i => [i64 (X i),i64 (Y i)]) 1 = Y:=rfl
 simp only [go_sem,c41,c153,c154,c155,c45,eX,eY]
 simp only [forall_eq]
 have pos:∀ e:Int,plErr k r w t n X Y at' rot = e → e ≠ 0 → alk (plA k r w t n X Y at' rot) (.tup [.agg [i64 0,i64 0,i64 0,i64 0,.v (.slice none 0 0)],i64 e]):=fun e he hne => by
  subst he
  unfold plA formA
  have q:plN k r w t n X Y at' rot = 0:=if_neg hne
  rw [q,show plK k r w t n X Y at' rot = 0 from if_neg hne,show plC k r w t n X Y at' rot at'.1 = 0 from if_neg hne,show plC k r w t n X Y at' rot at'.2 = 0 from if_neg hne,show plR k r w t n X Y at' rot = 0 from if_neg hne]
  exact alk_form alk_nil
 refine ⟨hg,hn,fun h => ⟨h2,h3,fun h4 => ?_,fun h4 => ⟨h0,fun _ => h1,fun h5 => ?_,fun h5 => ?_⟩⟩,fun h => ⟨fun h4 => ?_,fun h4 => ?_⟩⟩
 ·have hne:rotS rot.1.1 rot.1.2 rot.2.1 rot.2.2 ≠ 0:=bne_iff_ne.1 h4
  refine pos _ ?_ hne
  unfold plErr; rw [if_neg (by simpa using h),if_pos hne]; rfl
 ·refine pos _ ?_ (by omega)
  unfold plErr
  rw [if_neg (by simpa using h),if_neg (show ¬ rotS rot.1.1 rot.1.2 rot.2.1 rot.2.2 ≠ 0 from not_not_intro (bne_eq_false_iff_eq.1 h4)),if_pos]
  unfold farB
  exact h5
 ·have he:plErr k r w t n X Y at' rot = 0:=by
   unfold plErr
   rw [if_neg (by simpa using h),if_neg (show ¬ rotS rot.1.1 rot.1.2 rot.2.1 rot.2.2 ≠ 0 from not_not_intro (bne_eq_false_iff_eq.1 h4)),if_neg]
   unfold farB
   rintro (h7 | h7)
   ·rw [h5.1] at h7; cases h7
   ·rw [h5.2] at h7; cases h7
  have hc:chkS k r w t n X Y = 0:=by simpa using h
  have hcs:=chk_cases hc
  refine ⟨fun h6 => ⟨h0,h1,?_⟩,fun h6 => ⟨h0,h1,hg,hn,?_⟩⟩
  ·have hk:k = 1:=by simpa using h6
   unfold plA formA
   rw [show plN k r w t n X Y at' rot = 0 by unfold plN; rw [if_pos he,if_pos hk],show plK k r w t n X Y at' rot = 1 by unfold plK; rw [if_pos he,if_pos hk],show plC k r w t n X Y at' rot at'.1 = _ from if_pos he,show plC k r w t n X Y at' rot at'.2 = _ from if_pos he,show plR k r w t n X Y at' rot = r from if_pos he,he]
   exact alk_form alk_nil
  ·have hk:¬ k = 1:=by simpa using h6
   have hN:corN k r w t n X Y ≤ 8:=by unfold corN; rw [if_pos hc]; split <;> omega
   have hx:∀ i,i < corN k r w t n X Y → inR (corX k w t X i) ∧ inR (corY k w t Y i):=fun i hi => by
    unfold corN at hi; rw [if_pos hc] at hi
    unfold corX corY
    split
    ·constructor <;> (split <;> (unfold inR; omega))
    ·rename_i h7
     rw [if_neg h7] at hi
     exact hX i hi
   generalize hM:corN k r w t n X Y = M at *
   refine loopN_go (fun (i:Nat) => i ≤ M) (fun i => M - i) (fun i => [(9,i64 i)]) (fun i => [(32,fam1 31 5 [i64 2,i64 (spV at'.1),i64 (spV at'.2),i64 0,.own 38 0 i 2] none),(38,famN i 2 29 (fun j => [i64 (plX k w t X Y at' rot j),i64 (plY k w t X Y at' rot j)]) none)]) [2,1,0] [47,48,49,50,53,54,55,56,57,58,59,60,61,62,63,64,65,51,52,9] 1 0 (by kernel_rfl) (Nat.zero_le _) ⟨[(38,none)],?_,?_,?_,?_⟩ ?_
   ·simp only [go_sem]
   ·simp only [go_sem]
   ·simp only [go_sem]
   ·simp [goodNames,asg]
   intro i hi
   simp only [go_sem,c155,c137,k68]
   have hb:bytesT Tryz.prog 29 = 16:=by kernel_rfl
   rw [hb]
   simp only [forall_eq]
   refine ⟨fun hin => ?_,fun hin => ?_⟩
   ·have hi':i < M:=by omega
    have hxi:=hx i hi'
    refine ⟨by omega,hin,hxi.1,hxi.2,h0,h1,h2,h3,rg_inR nRat_rg,rg_inR nRat_rg,by omega,by omega,i + 1,by omega,by omega,[(38,some 54)],?_⟩
    simp only [go_sem]
    refine ⟨by rw [wrap_in (by unfold inR; omega)]; rfl,fun j hj => ?_,by simp [goodNames,asg]⟩
    by_cases e:j < i
    ·rw [if_pos e]; simp only [go_sem]
    ·have e:j = i:=by omega
     subst e
     rw [if_neg (by omega),Nat.sub_self]
     simp only [Nat.zero_mul,go_sem]
     exact ⟨rfl,rfl⟩
   ·have e:i = M:=by omega
    subst e
    unfold plA formA
    rw [show plN k r w t n X Y at' rot = i by unfold plN; rw [if_pos he,if_neg hk,hM],show plK k r w t n X Y at' rot = 2 by unfold plK; rw [if_pos he,if_neg hk],show plC k r w t n X Y at' rot at'.1 = _ from if_pos he,show plC k r w t n X Y at' rot at'.2 = _ from if_pos he,show plR k r w t n X Y at' rot = 0 by unfold plR; rw [if_pos he,chk_r hc hk],he]
    exact alk_refl
 ·have hne:chkS k r w t n X Y ≠ 0:=by simpa using h
  exact pos _ (by unfold plErr; rw [if_pos hne]) hne
 ·simp at h h4; omega
theorem con72:ConOK Tryz.prog 72 c8:=ConOK.goR (G:=[(11,c45),(52,c41),(153,c153),(154,c154),(155,c155),(156,k68),(137,c137)]) (H:=[(9,⟨[(6,.slot 4)],[]⟩),(15,⟨[(13,.slot 7)],[]⟩)]) (.cons con11 (.cons con52 (.cons con153 (.cons con154 (.cons con155 (.cons kon68 (.cons con137 .nil))))))) Tryz.func72 fun l ob rr hc hob => by
 unfold c8 at hc
 split at hc
 ·rename_i k r w t n g x e y f c o s p
  cases hc
  have hs:spots n g:=hob _ (by simp)
  refine ⟨[shapeA k r w t n fun i => [i64 (gx g 0 i),i64 (gx g 1 i)],poseA ((x,e),(y,f)) ((c,o),(s,p))],fun w I vs h => ?_,by kernel_rfl,vc72 k r w t n _ _ (fun i hi => (hs i hi).2) (hob _ (by simp)) ((x,e),(y,f)) ((c,o),(s,p)) (hob _ (by simp)) (hob _ (by simp)) (hob _ (by simp)) (hob _ (by simp))⟩
  obtain ⟨x,xs,rfl,h1,h2⟩:=h.inv
  exact .cons (Rs_shape hs _ h1) h2
 ·cases hc
end Go.Ax
end
section
/-
  What rays meet, the law's body.
-/
set_option maxHeartbeats 4000000
set_option maxRecDepth 100000
namespace Go.Ax
open Go.Proofs
theorem aEq36 {a0 b0:Int} {a1 b1:Bool}:aEq Tryz.prog 36 (.agg [i64 a0,bo a1]) (.agg [i64 b0,bo b1]) = some ((a0 == b0) && ((a1 == b1) && true)):=by kernel_rfl
theorem eq36 {xo yo:Operand} {neg:Bool} {a0 b0:Int} {a1 b1:Bool}:eqE Tryz.prog neg 36 xo yo (.agg [i64 a0,bo a1]) (.agg [i64 b0,bo b1]) = some ⟨[],.v (.bool (negV neg ((a0 == b0) && ((a1 == b1) && true)))),.none⟩:=eqE_agg aEq36
attribute [go_sem] eq36
theorem aEq38 {a0 b0:Int} {a1 b1:Bool} {a2 b2:Int} {a3 b3:Bool}:aEq Tryz.prog 38 (.agg [i64 a0,bo a1,i64 a2,bo a3]) (.agg [i64 b0,bo b1,i64 b2,bo b3]) = some (((a0 == b0) && ((a1 == b1) && true)) && (((a2 == b2) && ((a3 == b3) && true)) && true)):=by kernel_rfl
theorem eq38 {xo yo:Operand} {neg:Bool} {a0 b0:Int} {a1 b1:Bool} {a2 b2:Int} {a3 b3:Bool}:eqE Tryz.prog neg 38 xo yo (.agg [i64 a0,bo a1,i64 a2,bo a3]) (.agg [i64 b0,bo b1,i64 b2,bo b3]) = some ⟨[],.v (.bool (negV neg (((a0 == b0) && ((a1 == b1) && true)) && (((a2 == b2) && ((a3 == b3) && true)) && true)))),.none⟩:=eqE_agg aEq38
attribute [go_sem] eq38
theorem aEq80 {a0 b0:Bool} {a1 b1:Int} {a2 b2:Bool} {a3 b3:Int} {a4 b4:Bool} {a5 b5:Int} {a6 b6:Bool}:aEq Tryz.prog 80 (.agg [bo a0,i64 a1,bo a2,i64 a3,bo a4,i64 a5,bo a6]) (.agg [bo b0,i64 b1,bo b2,i64 b3,bo b4,i64 b5,bo b6]) = some ((a0 == b0) && (((a1 == b1) && ((a2 == b2) && true)) && ((((a3 == b3) && ((a4 == b4) && true)) && (((a5 == b5) && ((a6 == b6) && true)) && true)) && true))):=by kernel_rfl
theorem eq80 {xo yo:Operand} {neg:Bool} {a0 b0:Bool} {a1 b1:Int} {a2 b2:Bool} {a3 b3:Int} {a4 b4:Bool} {a5 b5:Int} {a6 b6:Bool}:eqE Tryz.prog neg 80 xo yo (.agg [bo a0,i64 a1,bo a2,i64 a3,bo a4,i64 a5,bo a6]) (.agg [bo b0,i64 b1,bo b2,i64 b3,bo b4,i64 b5,bo b6]) = some ⟨[],.v (.bool (negV neg ((a0 == b0) && (((a1 == b1) && ((a2 == b2) && true)) && ((((a3 == b3) && ((a4 == b4) && true)) && (((a5 == b5) && ((a6 == b6) && true)) && true)) && true))))),.none⟩:=eqE_agg aEq80
attribute [go_sem] eq80
end Go.Ax
end
section
/-
  Shapes placed, the law's body.
-/
set_option maxHeartbeats 4000000
set_option maxRecDepth 100000
namespace Go.Ax
open Go.Proofs
theorem spV_inR {a:Nb}:inR (spV a):=by
 have:rg (whV (nMul a (nInt 256)).1):=whV_rg (rg_inR nMul_rg)
 unfold spV
 unfold rg at this
 unfold inR
 omega
theorem pl_spots {N:Nat} {k w t:Int} {X Y:Nat → Int} {at' rot:V2}:(spots N fun i => [i64 (plX k w t X Y at' rot i),i64 (plY k w t X Y at' rot i)]) = True:=eq_true fun i _ => ⟨rfl,spV_inR,spV_inR⟩
theorem plN_le {k r w t:Int} {n:Nat} {X Y:Nat → Int} {at' rot:V2}:plN k r w t n X Y at' rot ≤ 8:=by
 unfold plN
 split
 ·split
  ·omega
  ·unfold corN
   split
   ·rename_i h
    have:=chk_cases h
    split <;> omega
   ·omega
 ·omega
theorem plN_max {k r w t:Int} {n:Nat} {X Y:Nat → Int} {at' rot:V2}:(plN k r w t n X Y at' rot ≤ 9223372036854775806) = True:=eq_true (Nat.le_trans plN_le (by omega))
end Go.Ax
end
section
/-
  What is met first.
-/
set_option maxHeartbeats 4000000
set_option maxRecDepth 100000
namespace Go.Ax
open Go.Proofs
def cn (cs:List AV) (k:Nat):Nat:=match cs[k]? with
 | some (.ro n _ _) => n
 | _ => 0
def cg (cs:List AV) (k:Nat):Nat → List AV:=match cs[k]? with
 | some (.ro _ _ g) => g
 | _ => fun _ => []
abbrev formC (k x y r:Int) (n:Nat) (X Y:Nat → Int):List AV:=[i64 k,i64 x,i64 y,i64 r,.ro n 2 fun i => [i64 (X i),i64 (Y i)]]
def formOf (cs:List AV):List AV:=formC (gi cs 0) (gi cs 1) (gi cs 2) (gi cs 3) (cn cs 4) (gx (cg cs 4) 0) (gx (cg cs 4) 1)
def formOK (cs:List AV):Prop:=cs = [i64 (gi cs 0),i64 (gi cs 1),i64 (gi cs 2),i64 (gi cs 3),.ro (cn cs 4) 2 (cg cs 4)] ∧ inR (gi cs 1) ∧ inR (gi cs 2) ∧ inR (gi cs 3) ∧ spots (cn cs 4) (cg cs 4) ∧ cn cs 4 ≤ 9223372036854775806
def forms (m:Nat) (G:Nat → List AV):Prop:=∀ i,i < m → formOK (G i)
def firS (C:Nat → HitT):Nat → Int × HitT
 | 0 => (-1,hit0)
 | i + 1 => if (C i).1 = true ∧ ((firS C i).1 < 0 ∨ cmpS (whV (C i).2.1.1) (whV (firS C i).2.2.1.1) < 0) then ((i:Int),C i) else firS C i
def fiA (s:Int × HitT):AV:=.tup [i64 s.1,.agg (hitC s.2)]
theorem bnd_fi {s:Int × HitT}:bnd (fiA s) = .tup [i64 s.1,.agg [bo s.2.1,i64 s.2.2.1.1,bo s.2.2.1.2,i64 s.2.2.2.1.1,bo s.2.2.2.1.2,i64 s.2.2.2.2.1,bo s.2.2.2.2.2]]:=(rfl)
theorem plain_fi {s:Int × HitT}:plain 3 (fiA s) = true:=(rfl)
attribute [go_sem] bnd_fi plain_fi
def castC (a b c d:Int) (cs:List AV):HitT:=castS (gi cs 0) (gi cs 1) (gi cs 2) (gi cs 3) (cn cs 4) (gx (cg cs 4) 0) (gx (cg cs 4) 1) a b c d
theorem vc39 (m:Nat) (K X Y Z:Nat → Int) (N:Nat → Nat) (P:Nat → Nat → List AV) (a b c d:Int) (hm:m ≤ 1000) (hX:∀ i,i < m → inR (X i) ∧ inR (Y i) ∧ inR (Z i)) (hP:∀ i,i < m → spots (N i) (P i) ∧ N i ≤ 9223372036854775806) (h1:inR a) (h2:inR b) (h3:inR c) (h4:inR d) :
  fnVC Tryz.prog [(36,c36),(87,c87)] [(7,⟨[(3,.slot 9)],[]⟩),(9,⟨[(3,.slot 7)],[]⟩)] Tryz.f39 [.agg [i64 a,i64 b],.agg [i64 c,i64 d],.ro m 5 fun i => [i64 (K i),i64 (X i),i64 (Y i),i64 (Z i),.ro (N i) 2 (P i)]] (· = fiA (firS (fun i => castS (K i) (X i) (Y i) (Z i) (N i) (gx (P i) 0) (gx (P i) 1) a b c d) m)):=by
 refine fnVC_go (rs:=[.tmp 6,.cell 7 80]) rfl rfl ?_
 simp only [go_sem]
 generalize hC:(fun i => castS (K i) (X i) (Y i) (Z i) (N i) (gx (P i) 0) (gx (P i) 1) a b c d) = C
 have hCi:∀ i,castS (K i) (X i) (Y i) (Z i) (N i) (gx (P i) 0) (gx (P i) 1) a b c d = C i:=fun i => by rw [← hC]
 refine loopC_go (fun (i:Nat) => i ≤ m) (fun i => m - i) (fun i => [(16,i64 i),(8,i64 (firS C i).1)]) (fun i => [(5,fam1 80 7 (hitC (firS C i).2) none)]) [3,1,0] [17,18,19,20,11,10,21,22,23,24,12,25,26,27,28,29,30,31,32,33,34,35,36,37,38,39,40,8,41,16] 0 (by kernel_rfl) ?_ (Nat.zero_le _) ?_ ?_
 ·intro x _; simp [goodNames,asg]
 ·simp only [go_sem,firS]
  exact ⟨rfl,rfl,rfl,rfl,rfl,rfl,rfl⟩
 ·intro i hi
  simp only [go_sem,c36,c87,hCi]
  refine ⟨fun hin => ?_,fun hin => ?_⟩
  ·have hin':i < m:=by omega
   have hx:=hX i hin'
   refine ⟨by omega,hin,(hP i hin').1,(hP i hin').2,hx.1,hx.2.1,hx.2.2,h1,h2,h3,h4,fun z hz => ⟨fun a b => ⟨a,b⟩,fun h z1 hz1 => ⟨i + 1,by omega,by omega,?_⟩,fun h z1 hz1 => ⟨i + 1,by omega,by omega,?_⟩⟩⟩
   ·have e:firS C (i + 1) = ((i:Int),C i):=by
     conv => lhs; unfold firS
     rw [if_pos ⟨h.1,h.2.imp id fun h => by rw [← hz]; exact h⟩]
    rw [e,hz1,wrap_in (by unfold inR; omega)]
    exact ⟨⟨rfl,rfl⟩,rfl,rfl,rfl,rfl,rfl,rfl,rfl⟩
   ·have e:firS C (i + 1) = firS C i:=by
     conv => lhs; unfold firS
     rw [if_neg ?_]
     rintro ⟨k1,k2⟩
     rw [← hz] at k2
     simp only [k1,Bool.true_and,Bool.or_eq_false_iff,decide_eq_false_iff_not] at h
     rcases k2 with k | k
     ·exact h.1 k
     ·exact h.2 k
    rw [e,hz1,wrap_in (by unfold inR; omega)]
    exact ⟨⟨rfl,rfl⟩,rfl,rfl,rfl,rfl,rfl,rfl,rfl⟩
  ·have e:i = m:=by omega
   subst e
   rfl
def c39:Con
 | [.agg [.v (.int .i64 a),.v (.int .i64 b)],.agg [.v (.int .i64 c),.v (.int .i64 d)],.ro m 5 G] => some ([m ≤ 1000,forms m G,inR a,inR b,inR c,inR d],fiA (firS (fun i => castC a b c d (G i)) m))
 | _ => none
theorem con39:ConOK Tryz.prog 39 c39:=ConOK.go (G:=[(36,c36),(87,c87)]) (H:=[(7,⟨[(3,.slot 9)],[]⟩),(9,⟨[(3,.slot 7)],[]⟩)]) (.cons con36 (.cons con87 .nil)) Tryz.func39 fun l ob r hc hob => by
 unfold c39 at hc
 split at hc
 ·rename_i a b c d m G
  cases hc
  have hs:forms m G:=hob _ (by simp)
  refine ⟨[.agg [i64 a,i64 b],.agg [i64 c,i64 d],.ro m 5 fun i => [i64 (gi (G i) 0),i64 (gi (G i) 1),i64 (gi (G i) 2),i64 (gi (G i) 3),.ro (cn (G i) 4) 2 (cg (G i) 4)]],fun w I vs h => ?_,by kernel_rfl,
   vc39 m _ _ _ _ _ _ a b c d (hob _ (by simp)) (fun i hi => ⟨(hs i hi).2.1,(hs i hi).2.2.1,(hs i hi).2.2.2.1⟩) (fun i hi => (hs i hi).2.2.2.2) (hob _ (by simp)) (hob _ (by simp)) (hob _ (by simp)) (hob _ (by simp))⟩
  obtain ⟨v,vs',rfl,k1,k2⟩:=h.inv
  obtain ⟨v2,vs2,rfl,k3,k4⟩:=k2.inv
  exact .cons k1 (.cons k3 (Rs_one (fun v => ro_alike fun i hi => (hs i hi).1) k4))
 ·cases hc
def cz39:Con
 | [.agg [.v (.int .i64 a),.v (.int .i64 b)],.agg [.v (.int .i64 c),.v (.int .i64 d)],.ro m 5 G] => some ([m ≤ 1000,forms m G],fiA (firS (fun i => castC a b c d (G i)) m))
 | _ => none
end Go.Ax
end
section
/-
  Forms made of numbers.
-/
set_option maxHeartbeats 4000000
set_option maxRecDepth 100000
namespace Go.Ax
open Go.Proofs
theorem alk_shape {a b c d p q:AV} (h:alk p q):alk (.agg [a,b,c,d,p]) (.agg [a,b,c,d,q]):=fun w ρ v hR => by
 cases hR with
 | agg hl' hh' =>
  refine .agg hl' fun j x y h3 h4 => ?_
  match j with
  | 0 => exact hh' 0 x y h3 h4
  | 1 => exact hh' 1 x y h3 h4
  | 2 => exact hh' 2 x y h3 h4
  | 3 => exact hh' 3 x y h3 h4
  | 4 =>
   simp at h3; subst h3
   exact h _ _ _ (hh' 4 _ y rfl h4)
  | m + 5 => simp at h3
def mkW (a b:Int):Int:=if a.tmod 4 ≠ 0 then 16 + (16 + modS b 4081).tmod 600 else 16 + modS b 4081
def mkM (a b:Int):Int:=max 64 (mkW a b)
def mkK (a:Int):Int:=if modS a 5 = 0 then 1 else if modS a 5 = 1 then 2 else 3
def mkR (a b:Int):Int:=if modS a 5 = 0 then mkW b b else 0
def mkH (a b c:Int):Int:=if modS a 5 = 0 then 0 else if modS a 5 = 1 then mkW b c else 0
def mkN (a:Int):Nat:=if modS a 5 = 0 then 0 else if modS a 5 = 1 then 0 else if modS a 5 = 2 then 3 else if modS a 5 = 3 then 5 else 8
def mkP (a w t:Int):List AV:=
 if modS a 5 = 2 then [i64 (-w),i64 (-t),i64 w,i64 (-t),i64 0,i64 t]
 else if modS a 5 = 3 then [i64 ((-w).tdiv 2),i64 (-t),i64 (w.tdiv 2),i64 (-t),i64 w,i64 0,i64 0,i64 t,i64 (-w),i64 0]
 else [i64 w,i64 ((-w).tdiv 2),i64 w,i64 (w.tdiv 2),i64 (w.tdiv 2),i64 w,i64 ((-w).tdiv 2),i64 w,i64 (-w),i64 (w.tdiv 2),i64 (-w),i64 ((-w).tdiv 2),i64 ((-w).tdiv 2),i64 (-w),i64 (w.tdiv 2),i64 (-w)]
def mkX (a b c:Int) (i:Nat):Int:=gx (rowsOf 2 (mkP a (mkM b b) (mkM b c))) 0 i
def mkY (a b c:Int) (i:Nat):Int:=gx (rowsOf 2 (mkP a (mkM b b) (mkM b c))) 1 i
abbrev mkA (a b c:Int):AV:=.agg [i64 (mkK a),i64 (mkR a b),i64 (mkH a b b),i64 (mkH a b c),.ro (mkN a) 2 fun i => [i64 (mkX a b c i),i64 (mkY a b c i)]]
theorem modS_bd {n m:Int} (hm:0 < m):0 ≤ modS n m ∧ modS n m < m:=by
 have h1:n.tmod m < m:=Int.tmod_lt_of_pos n hm
 have h2:-m < n.tmod m:=Int.lt_tmod_of_pos n hm
 unfold modS
 split <;> omega
theorem mkW_bd {a b:Int}:16 ≤ mkW a b ∧ mkW a b ≤ 4096:=by
 have h:=modS_bd (n:=b) (m:=4081) (by omega)
 have h1:(16 + modS b 4081).tmod 600 < 600:=Int.tmod_lt_of_pos _ (by omega)
 have h2:0 ≤ (16 + modS b 4081).tmod 600:=Int.tmod_nonneg _ (by omega)
 unfold mkW
 split <;> omega
theorem mkM_bd {a b:Int}:64 ≤ mkM a b ∧ mkM a b ≤ 4096:=by
 have:=@mkW_bd a b
 unfold mkM
 omega
theorem wrW {b:Int}:IntKind.i64.wrap (16 + modS b 4081) = 16 + modS b 4081:=by
 have h:=modS_bd (n:=b) (m:=4081) (by omega)
 exact wrap_in (by unfold inR; omega)
theorem wrW2 {b:Int}:IntKind.i64.wrap (16 + (16 + modS b 4081).tmod 600) = 16 + (16 + modS b 4081).tmod 600:=by
 have h:=modS_bd (n:=b) (m:=4081) (by omega)
 have h1:(16 + modS b 4081).tmod 600 < 600:=Int.tmod_lt_of_pos _ (by omega)
 have h2:0 ≤ (16 + modS b 4081).tmod 600:=Int.tmod_nonneg _ (by omega)
 exact wrap_in (by unfold inR; omega)
theorem wrM {a b:Int}:IntKind.i64.wrap (0 - mkM a b) = -mkM a b:=by
 have:=@mkM_bd a b
 rw [wrap_in (by unfold inR; omega),Int.zero_sub]
theorem wrM2 {a b:Int}:IntKind.i64.wrap ((-mkM a b).tdiv 2) = (-mkM a b).tdiv 2:=by
 have:=@mkM_bd a b
 exact wrap_in (by rw [Int.neg_tdiv,Int.tdiv_eq_ediv_of_nonneg (by omega)]; unfold inR; omega)
theorem wrM3 {a b:Int}:IntKind.i64.wrap ((mkM a b).tdiv 2) = (mkM a b).tdiv 2:=by
 have:=@mkM_bd a b
 exact wrap_in (by rw [Int.tdiv_eq_ediv_of_nonneg (by omega)]; unfold inR; omega)
theorem mkM_eq {a b:Int}:max 64 (mkW a b) = mkM a b:=rfl
theorem vc7 (a b c d e f:Int) (ha:inR a) (hb:inR b) (hc:inR c):fnVC Tryz.prog [(40,c40)] [] Tryz.f7 [.agg [i64 a,i64 b,i64 c,i64 d,i64 e,i64 f]] (alk (mkA a b c)):=by
 refine fnVC_go (rs:=[.cell 2 26]) rfl rfl ?_
 simp only [go_sem,c40]
 simp only [forall_eq]
 simp only [wrW,wrW2]
 refine ⟨hb,by unfold inR; omega,hc,by unfold inR; omega,fun h => ?_,fun h => ?_⟩
 ·have e:∀ v,16 + (16 + modS v 4081).tmod 600 = mkW b v:=fun v => by unfold mkW; rw [if_pos (by simpa using h)]
  simp only [e]
  simp only [mkM_eq,wrM,wrM2,wrM3]
  refine ⟨ha,by unfold inR; omega,fun h0 => ?_,fun h0 => ⟨fun h1 => ?_,fun h1 => ⟨fun h2 => ?_,fun h2 => ⟨fun h3 => ?_,fun h3 => ?_⟩⟩⟩⟩
  ·have k0:modS a 5 = 0:=by simpa using h0
   unfold mkA
   rw [show mkK a = 1 by unfold mkK; rw [if_pos k0],show mkR a b = mkW b b by unfold mkR; rw [if_pos k0],show mkH a b b = 0 by unfold mkH; rw [if_pos k0],show mkH a b c = 0 by unfold mkH; rw [if_pos k0],show mkN a = 0 by unfold mkN; rw [if_pos k0]]
   exact alk_shape alk_nil
  ·have k0:¬ modS a 5 = 0:=by simpa using h0
   have k1:modS a 5 = 1:=by simpa using h1
   unfold mkA
   rw [show mkK a = 2 by unfold mkK; rw [if_neg k0,if_pos k1],show mkR a b = 0 by unfold mkR; rw [if_neg k0],show mkH a b b = mkW b b by unfold mkH; rw [if_neg k0,if_pos k1],show mkH a b c = mkW b c by unfold mkH; rw [if_neg k0,if_pos k1],show mkN a = 0 by unfold mkN; rw [if_neg k0,if_pos k1]]
   exact alk_shape alk_nil
  ·have k0:¬ modS a 5 = 0:=by simpa using h0
   have k1:¬ modS a 5 = 1:=by simpa using h1
   have k2:modS a 5 = 2:=by simpa using h2
   unfold mkA
   rw [show mkK a = 3 by unfold mkK; rw [if_neg k0,if_neg k1],show mkR a b = 0 by unfold mkR; rw [if_neg k0],show mkH a b b = 0 by unfold mkH; rw [if_neg k0,if_neg k1],show mkH a b c = 0 by unfold mkH; rw [if_neg k0,if_neg k1],show mkN a = 3 by unfold mkN; rw [if_neg k0,if_neg k1,if_pos k2]]
   refine alk_shape (alk_ro fun i hi => ?_)
   unfold mkX mkY mkP
   rw [if_pos k2]
   match i with
   | 0 => rfl
   | 1 => rfl
   | 2 => rfl
   | q + 3 => omega
  ·have k0:¬ modS a 5 = 0:=by simpa using h0
   have k1:¬ modS a 5 = 1:=by simpa using h1
   have k2:¬ modS a 5 = 2:=by simpa using h2
   have k3:modS a 5 = 3:=by simpa using h3
   unfold mkA
   rw [show mkK a = 3 by unfold mkK; rw [if_neg k0,if_neg k1],show mkR a b = 0 by unfold mkR; rw [if_neg k0],show mkH a b b = 0 by unfold mkH; rw [if_neg k0,if_neg k1],show mkH a b c = 0 by unfold mkH; rw [if_neg k0,if_neg k1],show mkN a = 5 by unfold mkN; rw [if_neg k0,if_neg k1,if_neg k2,if_pos k3]]
   refine alk_shape (alk_ro fun i hi => ?_)
   unfold mkX mkY mkP
   rw [if_neg k2,if_pos k3]
   match i with
   | 0 => rfl
   | 1 => rfl
   | 2 => rfl
   | 3 => rfl
   | 4 => rfl
   | q + 5 => omega
  ·have k0:¬ modS a 5 = 0:=by simpa using h0
   have k1:¬ modS a 5 = 1:=by simpa using h1
   have k2:¬ modS a 5 = 2:=by simpa using h2
   have k3:¬ modS a 5 = 3:=by simpa using h3
   unfold mkA
   rw [show mkK a = 3 by unfold mkK; rw [if_neg k0,if_neg k1],show mkR a b = 0 by unfold mkR; rw [if_neg k0],show mkH a b b = 0 by unfold mkH; rw [if_neg k0,if_neg k1],show mkH a b c = 0 by unfold mkH; rw [if_neg k0,if_neg k1],show mkN a = 8 by unfold mkN; rw [if_neg k0,if_neg k1,if_neg k2,if_neg k3]]
   refine alk_shape (alk_ro fun i hi => ?_)
   unfold mkX mkY mkP
   rw [if_neg k2,if_neg k3]
   match i with
   | 0 => rfl
   | 1 => rfl
   | 2 => rfl
   | 3 => rfl
   | 4 => rfl
   | 5 => rfl
   | 6 => rfl
   | 7 => rfl
   | q + 8 => omega
 ·have e:∀ v,16 + modS v 4081 = mkW b v:=fun v => by unfold mkW; rw [if_neg (by simpa using h)]
  simp only [e]
  simp only [mkM_eq,wrM,wrM2,wrM3]
  refine ⟨ha,by unfold inR; omega,fun h0 => ?_,fun h0 => ⟨fun h1 => ?_,fun h1 => ⟨fun h2 => ?_,fun h2 => ⟨fun h3 => ?_,fun h3 => ?_⟩⟩⟩⟩
  ·have k0:modS a 5 = 0:=by simpa using h0
   unfold mkA
   rw [show mkK a = 1 by unfold mkK; rw [if_pos k0],show mkR a b = mkW b b by unfold mkR; rw [if_pos k0],show mkH a b b = 0 by unfold mkH; rw [if_pos k0],show mkH a b c = 0 by unfold mkH; rw [if_pos k0],show mkN a = 0 by unfold mkN; rw [if_pos k0]]
   exact alk_shape alk_nil
  ·have k0:¬ modS a 5 = 0:=by simpa using h0
   have k1:modS a 5 = 1:=by simpa using h1
   unfold mkA
   rw [show mkK a = 2 by unfold mkK; rw [if_neg k0,if_pos k1],show mkR a b = 0 by unfold mkR; rw [if_neg k0],show mkH a b b = mkW b b by unfold mkH; rw [if_neg k0,if_pos k1],show mkH a b c = mkW b c by unfold mkH; rw [if_neg k0,if_pos k1],show mkN a = 0 by unfold mkN; rw [if_neg k0,if_pos k1]]
   exact alk_shape alk_nil
  ·have k0:¬ modS a 5 = 0:=by simpa using h0
   have k1:¬ modS a 5 = 1:=by simpa using h1
   have k2:modS a 5 = 2:=by simpa using h2
   unfold mkA
   rw [show mkK a = 3 by unfold mkK; rw [if_neg k0,if_neg k1],show mkR a b = 0 by unfold mkR; rw [if_neg k0],show mkH a b b = 0 by unfold mkH; rw [if_neg k0,if_neg k1],show mkH a b c = 0 by unfold mkH; rw [if_neg k0,if_neg k1],show mkN a = 3 by unfold mkN; rw [if_neg k0,if_neg k1,if_pos k2]]
   refine alk_shape (alk_ro fun i hi => ?_)
   unfold mkX mkY mkP
   rw [if_pos k2]
   match i with
   | 0 => rfl
   | 1 => rfl
   | 2 => rfl
   | q + 3 => omega
  ·have k0:¬ modS a 5 = 0:=by simpa using h0
   have k1:¬ modS a 5 = 1:=by simpa using h1
   have k2:¬ modS a 5 = 2:=by simpa using h2
   have k3:modS a 5 = 3:=by simpa using h3
   unfold mkA
   rw [show mkK a = 3 by unfold mkK; rw [if_neg k0,if_neg k1],show mkR a b = 0 by unfold mkR; rw [if_neg k0],show mkH a b b = 0 by unfold mkH; rw [if_neg k0,if_neg k1],show mkH a b c = 0 by unfold mkH; rw [if_neg k0,if_neg k1],show mkN a = 5 by unfold mkN; rw [if_neg k0,if_neg k1,if_neg k2,if_pos k3]]
   refine alk_shape (alk_ro fun i hi => ?_)
   unfold mkX mkY mkP
   rw [if_neg k2,if_pos k3]
   match i with
   | 0 => rfl
   | 1 => rfl
   | 2 => rfl
   | 3 => rfl
   | 4 => rfl
   | q + 5 => omega
  ·have k0:¬ modS a 5 = 0:=by simpa using h0
   have k1:¬ modS a 5 = 1:=by simpa using h1
   have k2:¬ modS a 5 = 2:=by simpa using h2
   have k3:¬ modS a 5 = 3:=by simpa using h3
   unfold mkA
   rw [show mkK a = 3 by unfold mkK; rw [if_neg k0,if_neg k1],show mkR a b = 0 by unfold mkR; rw [if_neg k0],show mkH a b b = 0 by unfold mkH; rw [if_neg k0,if_neg k1],show mkH a b c = 0 by unfold mkH; rw [if_neg k0,if_neg k1],show mkN a = 8 by unfold mkN; rw [if_neg k0,if_neg k1,if_neg k2,if_neg k3]]
   refine alk_shape (alk_ro fun i hi => ?_)
   unfold mkX mkY mkP
   rw [if_neg k2,if_neg k3]
   match i with
   | 0 => rfl
   | 1 => rfl
   | 2 => rfl
   | 3 => rfl
   | 4 => rfl
   | 5 => rfl
   | 6 => rfl
   | 7 => rfl
   | q + 8 => omega
def c7:Con
 | [.agg [.v (.int .i64 a),.v (.int .i64 b),.v (.int .i64 c),.v (.int .i64 d),.v (.int .i64 e),.v (.int .i64 f)]] => some ([inR a,inR b,inR c],mkA a b c)
 | _ => none
theorem con7:ConOK Tryz.prog 7 c7:=ConOK.goR (G:=[(40,c40)]) (H:=[]) (.cons con40 .nil) Tryz.func7 fun l ob rr hc hob => by
 unfold c7 at hc
 split at hc
 ·rename_i a b c d e f
  cases hc
  exact ⟨_,fun w I vs h => h,by kernel_rfl,vc7 a b c d e f (hob _ (by simp)) (hob _ (by simp)) (hob _ (by simp))⟩
 ·cases hc
def foAt (x y s:Int):V2:=((x.tmod (s * 4294967296),false),(y.tmod (s * 4294967296),false))
def foRot (u:Int):V2:=((csV (u.tmod (8 * 4294967296)) false,csF (u.tmod (8 * 4294967296)) false),(snV (u.tmod (8 * 4294967296)) false,snF (u.tmod (8 * 4294967296)) false))
theorem tmod_inR {x s:Int} (h:1 ≤ s ∧ s ≤ 1000000):inR (x.tmod (s * 4294967296)):=by
 have h1:x.tmod (s * 4294967296) < s * 4294967296:=Int.tmod_lt_of_pos x (by omega)
 have h2:-(s * 4294967296) < x.tmod (s * 4294967296):=Int.lt_tmod_of_pos x (by omega)
 unfold inR
 omega
def c9:Con
 | [.agg [.v (.int .i64 a),.v (.int .i64 b),.v (.int .i64 c),.v (.int .i64 x),.v (.int .i64 y),.v (.int .i64 u)],.v (.int .i64 s)] => some ([inR x,inR y,inR u,1 ≤ s ∧ s ≤ 1000000],poseA (foAt x y s) (foRot u))
 | _ => none
theorem con9:ConOK Tryz.prog 9 c9:=ConOK.of (G:=[(48,c48),(49,c49)]) (H:=[(1,⟨[(14,.slot 4)],[]⟩)]) (.cons con48 (.cons con49 .nil)) Tryz.func9 fun l ob r hc hob => by
 unfold c9 at hc
 split at hc
 ·rename_i a b c x y u s
  cases hc
  have h_0:inR x:=hob _ (by simp)
  have h_1:inR y:=hob _ (by simp)
  have h_2:inR u:=hob _ (by simp)
  have h_3:1 ≤ s ∧ s ≤ 1000000:=hob _ (by simp)
  refine ⟨by kernel_rfl,fnVC_go (rs:=[.cell 4 42]) rfl rfl ?_⟩
  simp only [go_sem,c48,c49]
  simp only [forall_eq]
  exact ⟨h_0,h_3,h_1,h_3,h_2,tmod_inR (by omega),rfl⟩
 ·cases hc
theorem mk_inR {a b c:Int} (i:Nat) (hi:i < mkN a):inR (mkX a b c i) ∧ inR (mkY a b c i):=by
 have b1:=@mkM_bd b b
 have b2:=@mkM_bd b c
 have t1:(mkM b b).tdiv 2 = mkM b b / 2:=Int.tdiv_eq_ediv_of_nonneg (by omega)
 have t2:(-mkM b b).tdiv 2 = -(mkM b b / 2):=by rw [Int.neg_tdiv,t1]
 unfold mkX mkY mkP
 unfold mkN at hi
 by_cases k0:modS a 5 = 0
 ·rw [if_pos k0] at hi; omega
 rw [if_neg k0] at hi
 by_cases k1:modS a 5 = 1
 ·rw [if_pos k1] at hi; omega
 rw [if_neg k1] at hi
 rw [t1,t2]
 generalize mkM b b = M at *
 generalize mkM b c = T at *
 by_cases k2:modS a 5 = 2
 ·rw [if_pos k2] at hi
  rw [if_pos k2]
  match i with
  | 0 => show inR (-M) ∧ inR (-T); unfold inR; omega
  | 1 => show inR M ∧ inR (-T); unfold inR; omega
  | 2 => show inR 0 ∧ inR T; unfold inR; omega
  | q + 3 => omega
 rw [if_neg k2] at hi
 rw [if_neg k2]
 by_cases k3:modS a 5 = 3
 ·rw [if_pos k3] at hi
  rw [if_pos k3]
  match i with
  | 0 => show inR (-(M / 2)) ∧ inR (-T); unfold inR; omega
  | 1 => show inR (M / 2) ∧ inR (-T); unfold inR; omega
  | 2 => show inR M ∧ inR 0; unfold inR; omega
  | 3 => show inR 0 ∧ inR T; unfold inR; omega
  | 4 => show inR (-M) ∧ inR 0; unfold inR; omega
  | q + 5 => omega
 rw [if_neg k3] at hi
 rw [if_neg k3]
 match i with
 | 0 => show inR M ∧ inR (-(M / 2)); unfold inR; omega
 | 1 => show inR M ∧ inR (M / 2); unfold inR; omega
 | 2 => show inR (M / 2) ∧ inR M; unfold inR; omega
 | 3 => show inR (-(M / 2)) ∧ inR M; unfold inR; omega
 | 4 => show inR (-M) ∧ inR (M / 2); unfold inR; omega
 | 5 => show inR (-M) ∧ inR (-(M / 2)); unfold inR; omega
 | 6 => show inR (-(M / 2)) ∧ inR (-M); unfold inR; omega
 | 7 => show inR (M / 2) ∧ inR (-M); unfold inR; omega
 | q + 8 => omega
theorem mkN_le {a:Int}:mkN a ≤ 9223372036854775806:=by
 unfold mkN
 (repeat' split) <;> omega
def foK (a b c x y u s:Int):Int:=plK (mkK a) (mkR a b) (mkH a b b) (mkH a b c) (mkN a) (mkX a b c) (mkY a b c) (foAt x y s) (foRot u)
def foX (a b c x y u s:Int):Int:=plC (mkK a) (mkR a b) (mkH a b b) (mkH a b c) (mkN a) (mkX a b c) (mkY a b c) (foAt x y s) (foRot u) (foAt x y s).1
def foY (a b c x y u s:Int):Int:=plC (mkK a) (mkR a b) (mkH a b b) (mkH a b c) (mkN a) (mkX a b c) (mkY a b c) (foAt x y s) (foRot u) (foAt x y s).2
def foR (a b c x y u s:Int):Int:=plR (mkK a) (mkR a b) (mkH a b b) (mkH a b c) (mkN a) (mkX a b c) (mkY a b c) (foAt x y s) (foRot u)
def foN (a b c x y u s:Int):Nat:=plN (mkK a) (mkR a b) (mkH a b b) (mkH a b c) (mkN a) (mkX a b c) (mkY a b c) (foAt x y s) (foRot u)
def foP (a b c x y u s:Int) (i:Nat):Int:=plX (mkK a) (mkH a b b) (mkH a b c) (mkX a b c) (mkY a b c) (foAt x y s) (foRot u) i
def foQ (a b c x y u s:Int) (i:Nat):Int:=plY (mkK a) (mkH a b b) (mkH a b c) (mkX a b c) (mkY a b c) (foAt x y s) (foRot u) i
def c23:Con
 | [.agg [.v (.int .i64 a),.v (.int .i64 b),.v (.int .i64 c),.v (.int .i64 x),.v (.int .i64 y),.v (.int .i64 u)],.v (.int .i64 s)] => some ([inR a,inR b,inR c,inR x,inR y,inR u,1 ≤ s ∧ s ≤ 1000000],formA (foK a b c x y u s) (foX a b c x y u s) (foY a b c x y u s) (foR a b c x y u s) (foN a b c x y u s) fun i => [i64 (foP a b c x y u s i),i64 (foQ a b c x y u s i)])
 | _ => none
theorem con23:ConOK Tryz.prog 23 c23:=ConOK.of (G:=[(7,c7),(9,c9),(72,c8)]) (H:=[(1,⟨[(10,.made 9)],[]⟩)]) (.cons con7 (.cons con9 (.cons con72 .nil))) Tryz.func23 fun l ob r hc hob => by
 unfold c23 at hc
 split at hc
 ·rename_i a b c x y u s
  cases hc
  have h_0:inR a:=hob _ (by simp)
  have h_1:inR b:=hob _ (by simp)
  have h_2:inR c:=hob _ (by simp)
  have h_3:inR x:=hob _ (by simp)
  have h_4:inR y:=hob _ (by simp)
  have h_5:inR u:=hob _ (by simp)
  have h_6:1 ≤ s ∧ s ≤ 1000000:=hob _ (by simp)
  refine ⟨by kernel_rfl,fnVC_go (rs:=[.cell 4 31]) rfl rfl ?_⟩
  simp only [go_sem,c7,c9,c8,c8]
  simp only [forall_eq]
  exact ⟨h_0,h_1,h_2,h_3,h_4,h_5,h_6,fun i hi => ⟨rfl,mk_inR i hi⟩,mkN_le,tmod_inR h_6,tmod_inR h_6,rg_inR (show rg (csV _ _) from snV_rg),rg_inR snV_rg,rfl⟩
 ·cases hc
end Go.Ax
end
section
/-
  What is met first, the law's body.
-/
set_option maxHeartbeats 4000000
set_option maxRecDepth 100000
namespace Go.Ax
open Go.Proofs
theorem cmpS_neg {x y:Int}:(cmpS x y < 0) = (x < y):=by
 unfold cmpS
 apply propext
 split
 ·constructor <;> intro _ <;> omega
 ·split <;> (constructor <;> intro _ <;> omega)
theorem fir_spec {C:Nat → HitT} (hC:∀ i,rg (C i).2.1.1):∀ n:Nat,((firS C n).1 = -1 ∧ (firS C n).2 = hit0 ∧ ∀ j,j < n → (C j).1 = false) ∨ (∃ k:Nat,k < n ∧ (firS C n).1 = (k:Int) ∧ (firS C n).2 = C k ∧ ∀ j,j < n → (C j).1 = true → (C k).2.1.1 ≤ (C j).2.1.1 ∧ ((C j).2.1.1 = (C k).2.1.1 → k ≤ j))
 | 0 => .inl ⟨rfl,rfl,fun j hj => by omega⟩
 | n + 1 => by
  have ih:=fir_spec hC n
  have e:firS C (n + 1) = if (C n).1 = true ∧ ((firS C n).1 < 0 ∨ cmpS (whV (C n).2.1.1) (whV (firS C n).2.2.1.1) < 0) then ((n:Int),C n) else firS C n:=rfl
  rcases ih with ⟨e1,e2,e3⟩ | ⟨k,hk,e1,e2,e3⟩
  ·rw [e1,e2] at e
   by_cases h:(C n).1 = true
   ·rw [if_pos ⟨h,.inl (by omega)⟩] at e
    rw [e]
    refine .inr ⟨n,by omega,rfl,rfl,fun j hj hh => ?_⟩
    by_cases q:j = n
    ·subst q; exact ⟨Int.le_refl _,fun _ => Nat.le_refl _⟩
    ·rw [e3 j (by omega)] at hh; cases hh
   ·rw [if_neg (fun q => h q.1)] at e
    rw [e]
    refine .inl ⟨e1,e2,fun j hj => ?_⟩
    by_cases q:j = n
    ·subst q; simpa using h
    ·exact e3 j (by omega)
  ·rw [e1,e2,whV_of (hC n),whV_of (hC k)] at e
   simp only [cmpS_neg] at e
   by_cases h:(C n).1 = true ∧ ((k:Int) < 0 ∨ (C n).2.1.1 < (C k).2.1.1)
   ·rw [if_pos h] at e
    rw [e]
    refine .inr ⟨n,by omega,rfl,rfl,fun j hj hh => ?_⟩
    by_cases q:j = n
    ·subst q; exact ⟨Int.le_refl _,fun _ => Nat.le_refl _⟩
    ·have:=e3 j (by omega) hh
     omega
   ·rw [if_neg h] at e
    rw [e]
    refine .inr ⟨k,by omega,e1,e2,fun j hj hh => ?_⟩
    by_cases q:j = n
    ·subst q
     have:¬ ((C j).2.1.1 < (C k).2.1.1):=fun q => h ⟨hh,.inr q⟩
     omega
    ·exact e3 j (by omega) hh
theorem rg_0:rg 0:=by unfold rg; omega
theorem hit0_rg:rg hit0.2.1.1:=rg_0
theorem plE_rg {n:Nat} {X Y:Nat → Int} {s:PS}:rg (plE n X Y s).2.1.1:=by
 unfold plE plHit
 split
 ·exact rg_0
 ·split
  ·exact rg_0
  ·exact nRat_rg
theorem dmT_rg {a b c d e:Int}:rg (dmT a b c d e).1:=by
 unfold dmT nCl
 have h1:whV (nInt 1).1 = 4294967296:=by decide
 have h2:whV 0 = 0:=by decide
 dsimp only
 rw [h1,h2]
 unfold rg
 omega
theorem castS_rg {k x y r:Int} {n:Nat} {X Y:Nat → Int} {a b c d:Int}:rg (castS k x y r n X Y a b c d).2.1.1:=by
 unfold castS
 split
 ·split
  ·exact rg_0
  ·split
   ·unfold dmH
    split
    ·exact rg_0
    ·exact dmT_rg
   ·unfold plH
    split
    ·exact rg_0
    ·exact plE_rg
 ·exact rg_0
theorem foX_inR {a b c x y u s:Int}:inR (foX a b c x y u s):=by
 unfold foX plC
 split
 ·exact spV_inR
 ·unfold inR; omega
theorem foY_inR {a b c x y u s:Int}:inR (foY a b c x y u s):=by
 unfold foY plC
 split
 ·exact spV_inR
 ·unfold inR; omega
theorem foR_inR {a b c x y u s:Int}:inR (foR a b c x y u s):=by
 have:=@mkW_bd b b
 unfold foR plR mkR
 split
 ·split <;> (unfold inR; omega)
 ·unfold inR; omega
end Go.Ax
end
section
/-
  How far forms are from each other: the small parts.
-/
set_option maxHeartbeats 4000000
set_option maxRecDepth 100000
namespace Go.Ax
open Go.Proofs
def dtW (a b c d:Int):Int:=IntKind.i64.wrap (IntKind.i64.wrap (a * c) + IntKind.i64.wrap (b * d))
def crW (a b c d:Int):Int:=IntKind.i64.wrap (IntKind.i64.wrap (a * d) - IntKind.i64.wrap (b * c))
def mnW (a b:Int):Int:=IntKind.i64.wrap (b - a)
def farS (ax ay bx byy cx cy r:Int):Bool:=
 if dtW (mnW ax cx) (mnW ay cy) (mnW ax bx) (mnW ay byy) ≤ 0 then decide (IntKind.i64.wrap (r * r) < dtW (mnW ax cx) (mnW ay cy) (mnW ax cx) (mnW ay cy))
 else if dtW (mnW ax bx) (mnW ay byy) (mnW ax bx) (mnW ay byy) ≤ dtW (mnW ax cx) (mnW ay cy) (mnW ax bx) (mnW ay byy) then decide (IntKind.i64.wrap (r * r) < dtW (mnW bx cx) (mnW byy cy) (mnW bx cx) (mnW byy cy))
 else decide (0 < cmpS (crW (mnW ax bx) (mnW ay byy) (mnW ax cx) (mnW ay cy) * crW (mnW ax bx) (mnW ay byy) (mnW ax cx) (mnW ay cy)) (IntKind.i64.wrap (r * r) * dtW (mnW ax bx) (mnW ay byy) (mnW ax bx) (mnW ay byy)))
theorem dtW_eq {a b c d:Int}:IntKind.i64.wrap (IntKind.i64.wrap (a * c) + IntKind.i64.wrap (b * d)) = dtW a b c d:=rfl
theorem crW_eq {a b c d:Int}:IntKind.i64.wrap (IntKind.i64.wrap (a * d) - IntKind.i64.wrap (b * c)) = crW a b c d:=rfl
theorem mnW_eq {a b:Int}:IntKind.i64.wrap (b - a) = mnW a b:=rfl
theorem dtW_inR {a b c d:Int}:inR (dtW a b c d):=wrap_inR _
theorem crW_inR {a b c d:Int}:inR (crW a b c d):=wrap_inR _
def c107:Con
 | [.agg [.v (.int .i64 ax),.v (.int .i64 ay)],.agg [.v (.int .i64 bx),.v (.int .i64 byy)],.agg [.v (.int .i64 cx),.v (.int .i64 cy)],.v (.int .i64 r)] => some ([],bo (farS ax ay bx byy cx cy r))
 | _ => none
theorem con107:ConOK Tryz.prog 107 c107:=ConOK.of (G:=[(104,c104),(105,c105),(162,c162),(185,c185)]) (H:=[(1,⟨[(12,.made 9),(13,.made 10),(14,.made 11)],[]⟩)]) (.cons con104 (.cons con105 (.cons con162 (.cons con185 .nil)))) Tryz.func107 fun l ob r hc hob => by
 unfold c107 at hc
 split at hc
 ·rename_i r
  cases hc
  refine ⟨by kernel_rfl,fnVC_go (rs:=[.tmp 8]) rfl rfl ?_⟩
  simp only [go_sem,c104,c105,c162,c185]
  simp only [forall_eq,mnW_eq,dtW_eq]
  refine ⟨fun h => ?_,fun h => ⟨fun h2 => ?_,fun h2 => ⟨wrap_inR _,wrap_inR _,wrap_inR _,dtW_inR,?_⟩⟩⟩
  ·unfold farS; rw [if_pos h]
  ·unfold farS; rw [if_neg h,if_pos h2]
  ·unfold farS; rw [if_neg h,if_neg h2]; rfl
 ·cases hc
def k180:Con
 | [.agg [.v (.int .i64 x),.v (.bool e),.v (.int .i64 y),.v (.bool f)],.agg [.v (.int .i64 a),.v (.int .i64 b)],.agg [.v (.int .i64 c),.v (.int .i64 d)]] => some ([inR x,inR y],nbA (vDot ((x,e),(y,f)) (vLoc (mnW a c) (mnW b d))))
 | _ => none
theorem kon180:ConOK Tryz.prog 128 k180:=ConOK.of (G:=[(104,c104),(47,k63),(126,k178)]) (H:=[(1,⟨[(6,.slot 6)],[]⟩)]) (.cons con104 (.cons kon63 (.cons kon178 .nil))) Tryz.func128 fun l ob r hc hob => by
 unfold k180 at hc
 split at hc
 ·rename_i x e y f a b c d
  cases hc
  have h_0:inR x:=hob _ (by simp)
  have h_1:inR y:=hob _ (by simp)
  refine ⟨by kernel_rfl,fnVC_go (rs:=[.cell 6 36]) rfl rfl ?_⟩
  simp only [go_sem,c104,k63,k178]
  simp only [forall_eq]
  exact ⟨wrap_inR _,wrap_inR _,h_0,h_1,rfl⟩
 ·cases hc
def clrS (n:Nat) (X Y:Nat → Int) (m:Nat) (Z T:Nat → Int):Bool:=decide (∃ i,i < n ∧ ∀ j,j < m → turnS (X i) (Y i) (X (nxt n i)) (Y (nxt n i)) (Z j) (T j) < 0)
def outS (n:Nat) (X Y:Nat → Int) (cx cy r:Int):Bool:=decide (inS n X Y cx cy = false ∧ ∀ i,i < n → farS (X i) (Y i) (X (nxt n i)) (Y (nxt n i)) cx cy r = true)
theorem vc108 (n m:Nat) (X Y Z T:Nat → Int) (hX:∀ i,i < n → inR (X i) ∧ inR (Y i)) (hZ:∀ i,i < m → inR (Z i) ∧ inR (T i)) (hn:n ≤ 9223372036854775806) (hm:m ≤ 9223372036854775806) (vX:∀ i,i < n → validS (X i) (Y i) = true) (vZ:∀ i,i < m → validS (Z i) (T i) = true) :
  fnVC Tryz.prog [(86,c86),(85,c85),(1000000 + 161,c161)] [] Tryz.f108 [.agg [.ro n 2 fun i => [i64 (X i),i64 (Y i)]],.agg [.ro m 2 fun i => [i64 (Z i),i64 (T i)]]] (· = bo (clrS n X Y m Z T)):=by
 refine fnVC_go (rs:=[.cell 4 4]) rfl rfl ?_
 simp only [go_sem,c85]
 have hg:spots n fun i => [i64 (X i),i64 (Y i)]:=fun i hi => ⟨rfl,hX i hi⟩
 refine rangeC_go (fun (i:Nat) => i ≤ n ∧ ∀ j,j < i → ¬ ∀ l,l < m → turnS (X j) (Y j) (X (nxt n j)) (Y (nxt n j)) (Z l) (T l) < 0) (fun i => i) (fun _ => []) [2,1,0] [11,12,5,6,13,14,15,16,17,18,19,8,20,21,22,23,24,25,16] 0 0 (N:=n) (sq:=edgeE n fun i => [i64 (X i),i64 (Y i)]) (ob:=[spots n fun i => [i64 (X i),i64 (Y i)],n ≤ 9223372036854775806]) rfl (by simp [hg,hn]) (by kernel_rfl) rfl (fun i _ => ⟨rfl,rfl⟩) ⟨Nat.zero_le _,fun j hj => by omega⟩ rfl ⟨[],?_,?_,?_⟩ ?_ ?_
 ·simp only [go_sem]
 ·simp only [go_sem]
 ·simp [goodNames,asg]
 ·intro i hi hlt
  simp only [go_sem,edgeE,c86]
  refine loopC_go (fun (j:Nat) => j ≤ m ∧ ∀ l,l < j → turnS (X i) (Y i) (X (nxt n i)) (Y (nxt n i)) (Z l) (T l) < 0) (fun j => m - j) (fun j => [(16,i64 j)]) (fun _ => []) [7,5,2,1,0] [17,18,19,8,20,21,22,23,24,25,16] 0 (by kernel_rfl) ?_ ⟨Nat.zero_le _,fun l hl => by omega⟩ ?_ ?_
  ·intro x _; simp [goodNames]
  ·simp only [go_sem]
  intro j hj
  simp only [go_sem,c86]
  refine ⟨fun hin => ⟨by omega,hin,fun z hz => ⟨vX i hlt,vX _ (nxt_lt hlt),vZ j (by omega),fun h => ⟨i + 1,⟨by have:i < n:=hlt; omega,fun j' hj' => ?_⟩,rfl,[],?_⟩,fun h z1 hz1 => ⟨j + 1,⟨by omega,fun l hl => ?_⟩,by omega,?_⟩⟩⟩,fun hin => ?_⟩
  ·by_cases e:j' = i
   ·subst e
    intro hc
    have:=hc j (by omega)
    omega
   ·exact hi.2 j' (by omega)
  ·simp [goodNames]
  ·by_cases e:l = j
   ·subst e; omega
   ·exact hj.2 l (by omega)
  ·rw [hz1,wrap_in (by unfold inR; omega)]; rfl
  ·exact (decide_eq_true (show ∃ i,_ from ⟨i,hlt,fun l hl => hj.2 l (by omega)⟩)).symm
 ·intro i hi he
  simp only [go_sem]
  refine (decide_eq_false (fun ⟨j,hj,hc⟩ => hi.2 j (by omega) hc)).symm
def c108:Con
 | [.agg [.ro n 2 g],.agg [.ro m 2 g']] => some ([spots n g,spots m g',n ≤ 9223372036854775806,m ≤ 9223372036854775806,∀ i,i < n → validS (gx g 0 i) (gx g 1 i) = true,∀ i,i < m → validS (gx g' 0 i) (gx g' 1 i) = true],bo (clrS n (gx g 0) (gx g 1) m (gx g' 0) (gx g' 1)))
 | _ => none
theorem con108:ConOK Tryz.prog 108 c108:=ConOK.go (G:=[(86,c86),(85,c85),(1000000 + 161,c161)]) (H:=[]) (.cons con86 (.cons con85 (.seq seq161 .nil))) Tryz.func108 fun l ob rr hc hob => by
 unfold c108 at hc
 split at hc
 ·rename_i n g m g'
  cases hc
  have hs:spots n g:=hob _ (by simp)
  have hs':spots m g':=hob _ (by simp)
  exact ⟨[.agg [.ro n 2 fun i => [i64 (gx g 0 i),i64 (gx g 1 i)]],.agg [.ro m 2 fun i => [i64 (gx g' 0 i),i64 (gx g' 1 i)]]],fun w I vs h => Rs_two (Rs_poly hs) (Rs_poly hs') h,by kernel_rfl,vc108 n m _ _ _ _ (fun i hi => (hs i hi).2) (fun i hi => (hs' i hi).2) (hob _ (by simp)) (hob _ (by simp)) (hob _ (by simp)) (hob _ (by simp))⟩
 ·cases hc
theorem vc136 (k x y r:Int) (n:Nat) (X Y:Nat → Int) (k' x' y' r':Int) (m:Nat) (Z T:Nat → Int) (hX:∀ i,i < n → inR (X i) ∧ inR (Y i)) (hZ:∀ i,i < m → inR (Z i) ∧ inR (T i)) (hn:n ≤ 9223372036854775806) (hm:m ≤ 9223372036854775806) (vX:∀ i,i < n → validS (X i) (Y i) = true) (vZ:∀ i,i < m → validS (Z i) (T i) = true) :
  fnVC Tryz.prog [(144,c144),(190,c190)] [] Tryz.f136 [formA k x y r n fun i => [i64 (X i),i64 (Y i)],formA k' x' y' r' m fun i => [i64 (Z i),i64 (T i)]] (· = bo (clrS n X Y m Z T)):=by
 refine fnVC_go (rs:=[.tmp 4]) rfl rfl ?_
 simp only [go_sem]
 have hg:spots n fun i => [i64 (X i),i64 (Y i)]:=fun i hi => ⟨rfl,hX i hi⟩
 refine loopC_go (fun (i:Nat) => i ≤ n ∧ ∀ j,j < i → ¬ ∀ l,l < m → turnS (X j) (Y j) (X (nxt n j)) (Y (nxt n j)) (Z l) (T l) < 0) (fun i => n - i) (fun i => [(5,i64 i)]) (fun _ => []) [1,0] [10,11,12,13,14,18,19,20,17,21,22,6,7,8,9,23,24,25,26,27,30,31,32,33,34,35,36,37,38,39,40,41,8,28,29,9,42,4,15,16,5] 0 (by kernel_rfl) ?_ ⟨Nat.zero_le _,fun l hl => by omega⟩ ?_ ?_
 ·intro x _; simp [goodNames]
 ·simp only [go_sem]
 intro i hi
 simp only [go_sem,c144]
 refine ⟨fun hin => ⟨hg,by omega,hin,hn,?_⟩,fun hin => ?_⟩
 ·have hlt:i < n:=by omega
  refine loopC_go (fun (j:Nat) => j ≤ m) (fun j => m - j) (fun j => [(9,i64 j),(8,bo (decide (∀ l,l < j → turnS (X i) (Y i) (X (nxt n i)) (Y (nxt n i)) (Z l) (T l) < 0)))]) (fun _ => []) [16,15,1,0] [23,24,25,26,27,30,31,32,33,34,35,36,37,38,39,40,41,8,28,29,9] 0 (by kernel_rfl) ?_ (Nat.zero_le _) ?_ ?_
  ·intro x _; simp [goodNames]
  ·simp only [go_sem]
   exact (decide_eq_true fun l hl => absurd hl (Nat.not_lt_zero l)).symm
  intro j hj
  simp only [go_sem,c190]
  refine ⟨fun hin2 => ⟨fun _ => by omega,fun _ => hin2,fun z hz z1 hz1 => ⟨j + 1,by omega,by omega,by rw [hz1,wrap_in (by unfold inR; omega)]; rfl,?_⟩⟩,fun hin2 => ⟨fun h => ?_,fun h z hz => ⟨i + 1,⟨by omega,fun j' hj' => ?_⟩,by omega,by rw [hz,wrap_in (by unfold inR; omega)]; rfl⟩⟩⟩
  ·have hs:z < 0 ↔ turnS (X i) (Y i) (X (nxt n i)) (Y (nxt n i)) (Z j) (T j) < 0:=by
    rw [hz]
    unfold sideS
    rw [if_pos ⟨vX i hlt,vX _ (nxt_lt hlt),vZ j (by omega)⟩]
    split
    ·omega
    ·split <;> omega
   rw [Bool.eq_iff_iff]
   simp only [Bool.and_eq_true,decide_eq_true_eq,hs]
   constructor
   ·rintro ⟨h1,h2⟩ l hl
    by_cases e:l = j
    ·subst e; exact h2
    ·exact h1 l (by omega)
   ·intro h
    exact ⟨fun l hl => h l (by omega),h j (by omega)⟩
  ·exact (decide_eq_true (show ∃ i,_ from ⟨i,hlt,fun l hl => h l (by omega)⟩)).symm
  ·by_cases e:j' = i
   ·subst e
    intro hc
    exact h fun l hl => hc l (by omega)
   ·exact hi.2 j' (by omega)
 ·exact (decide_eq_false (fun ⟨j,hj,hc⟩ => hi.2 j (by omega) hc)).symm
def c136:Con
 | [.agg [.v (.int .i64 k),.v (.int .i64 x),.v (.int .i64 y),.v (.int .i64 r),.ro n 2 g],.agg [.v (.int .i64 k'),.v (.int .i64 x'),.v (.int .i64 y'),.v (.int .i64 r'),.ro m 2 g']] => some ([spots n g,spots m g',n ≤ 9223372036854775806,m ≤ 9223372036854775806,∀ i,i < n → validS (gx g 0 i) (gx g 1 i) = true,∀ i,i < m → validS (gx g' 0 i) (gx g' 1 i) = true],bo (clrS n (gx g 0) (gx g 1) m (gx g' 0) (gx g' 1)))
 | _ => none
theorem con136:ConOK Tryz.prog 136 c136:=ConOK.go (G:=[(144,c144),(190,c190)]) (H:=[]) (.cons con144 (.cons con190 .nil)) Tryz.func136 fun l ob rr hc hob => by
 unfold c136 at hc
 split at hc
 ·rename_i k x y r n g k' x' y' r' m g'
  cases hc
  have hs:spots n g:=hob _ (by simp)
  have hs':spots m g':=hob _ (by simp)
  exact ⟨[formA k x y r n fun i => [i64 (gx g 0 i),i64 (gx g 1 i)],formA k' x' y' r' m fun i => [i64 (gx g' 0 i),i64 (gx g' 1 i)]],fun w I vs h => Rs_two (Rs_form hs) (Rs_form hs') h,by kernel_rfl,vc136 k x y r n _ _ k' x' y' r' m _ _ (fun i hi => (hs i hi).2) (fun i hi => (hs' i hi).2) (hob _ (by simp)) (hob _ (by simp)) (hob _ (by simp)) (hob _ (by simp))⟩
 ·cases hc
theorem vc135 (k x y r:Int) (n:Nat) (X Y:Nat → Int) (k' x' y' r':Int) (m:Nat) (Z T:Nat → Int) (hX:∀ i,i < n → inR (X i) ∧ inR (Y i)) (hn:n ≤ 9223372036854775806) (hc:checkS k x y r n X Y = 0) (hk:¬ k = 1) (vC:validS x' y' = true) :
  fnVC Tryz.prog [(143,c143),(144,c144),(192,c162),(133,c133),(191,c191),(134,c105)] [(7,⟨[(9,.made 7),(10,.made 8)],[]⟩)] Tryz.f135 [formA k x y r n fun i => [i64 (X i),i64 (Y i)],formA k' x' y' r' m fun i => [i64 (Z i),i64 (T i)]] (· = bo (outS n X Y x' y' r')):=by
 refine fnVC_go (rs:=[.tmp 4]) rfl rfl ?_
 simp only [go_sem,c143]
 have hg:spots n fun i => [i64 (X i),i64 (Y i)]:=fun i hi => ⟨rfl,hX i hi⟩
 have eX:gx (fun i => [i64 (X i),i64 (Y i)]) 0 = X:=rfl
 have eY:gx (fun i => [i64 (X i),i64 (Y i)]) 1 = Y:=rfl
 have hh:holdsS k x y r n X Y x' y' = inS n X Y x' y':=if_neg hk
 rw [eX,eY,hh]
 intro z hz
 refine ⟨hg,hn,hc,vC,fun h => ?_,fun h => ?_⟩
 ·refine (decide_eq_false fun hq => ?_).symm
  rw [← hz,h] at hq
  exact absurd hq.1 (by simp)
 refine loopC_go (fun (i:Nat) => i ≤ n ∧ ∀ j,j < i → farS (X j) (Y j) (X (nxt n j)) (Y (nxt n j)) x' y' r' = true) (fun i => n - i) (fun i => [(5,i64 i)]) (fun _ => []) [1,0] [16,17,18,19,20,24,25,26,23,27,28,6,7,29,30,31,32,33,34,35,8,9,36,37,38,39,40,41,10,11,42,43,44,45,46,47,48,49,50,51,52,4,53,54,55,56,57,58,59,60,61,62,63,64,65,66,67,68,4,69,70,71,72,73,74,75,76,77,78,79,80,81,82,4,21,22,5] 0 (by kernel_rfl) ?_ ⟨Nat.zero_le _,fun l hl => by omega⟩ ?_ ?_
 ·intro x _; simp [goodNames]
 ·simp only [go_sem]
 intro i hi
 simp only [go_sem,c144,c162,c133,c191,c105]
 simp only [forall_eq,mnW_eq,dtW_eq]
 refine ⟨fun hin => ?_,fun hin => ?_⟩
 ·have hlt:i < n:=by omega
  have no:farS (X i) (Y i) (X (nxt n i)) (Y (nxt n i)) x' y' r' = false → false = outS n X Y x' y' r':=fun e => (decide_eq_false (fun hq => by have:=hq.2 i hlt; rw [e] at this; cases this)).symm
  have yes:farS (X i) (Y i) (X (nxt n i)) (Y (nxt n i)) x' y' r' = true → ∃ y:Nat,(y ≤ n ∧ ∀ j,j < y → farS (X j) (Y j) (X (nxt n j)) (Y (nxt n j)) x' y' r' = true) ∧ n - y < n - i ∧ IntKind.i64.wrap ((i:Int) + 1) = (y:Int):=fun e =>
   ⟨i + 1,⟨by omega,fun j hj => by
    by_cases q:j = i
    ·subst q; exact e
    ·exact hi.2 j (by omega)⟩,by omega,by rw [wrap_in (by unfold inR; omega)]; rfl⟩
  refine ⟨hg,by omega,hin,hn,fun g1 => ⟨fun g2 => no ?_,fun g2 => yes ?_⟩,fun g1 => ⟨fun g3 => ⟨fun g2 => no ?_,fun g2 => yes ?_⟩,fun g3 => ⟨wrap_inR _,wrap_inR _,wrap_inR _,dtW_inR,fun g2 => no ?_,fun g2 => yes ?_⟩⟩⟩
  ·unfold farS; rw [if_pos g1]; exact decide_eq_false (by omega)
  ·unfold farS; rw [if_pos g1]; exact decide_eq_true (by omega)
  ·unfold farS; rw [if_neg g1,if_pos g3]; exact decide_eq_false (by omega)
  ·unfold farS; rw [if_neg g1,if_pos g3]; exact decide_eq_true (by omega)
  ·unfold farS; rw [if_neg g1,if_neg g3]; exact decide_eq_false (Int.not_lt.2 g2)
  ·unfold farS; rw [if_neg g1,if_neg g3]; exact decide_eq_true (Int.not_le.1 g2)
 ·refine (decide_eq_true ⟨by rw [← hz,h],fun j hj => hi.2 j (by omega)⟩).symm
def c135:Con
 | [.agg [.v (.int .i64 k),.v (.int .i64 x),.v (.int .i64 y),.v (.int .i64 r),.ro n 2 g],.agg [.v (.int .i64 k'),.v (.int .i64 x'),.v (.int .i64 y'),.v (.int .i64 r'),.ro m 2 g']] => some ([spots n g,spots m g',n ≤ 9223372036854775806,checkS k x y r n (gx g 0) (gx g 1) = 0,¬ k = 1,validS x' y' = true],bo (outS n (gx g 0) (gx g 1) x' y' r'))
 | _ => none
theorem con135:ConOK Tryz.prog 135 c135:=ConOK.go (G:=[(143,c143),(144,c144),(192,c162),(133,c133),(191,c191),(134,c105)]) (H:=[(7,⟨[(9,.made 7),(10,.made 8)],[]⟩)]) (.cons con143 (.cons con144 (.cons con192 (.cons con133 (.cons con191 (.cons con134 .nil)))))) Tryz.func135 fun l ob rr hc hob => by
 unfold c135 at hc
 split at hc
 ·rename_i k x y r n g k' x' y' r' m g'
  cases hc
  have hs:spots n g:=hob _ (by simp)
  have hs':spots m g':=hob _ (by simp)
  exact ⟨[formA k x y r n fun i => [i64 (gx g 0 i),i64 (gx g 1 i)],formA k' x' y' r' m fun i => [i64 (gx g' 0 i),i64 (gx g' 1 i)]],fun w I vs h => Rs_two (Rs_form hs) (Rs_form hs') h,by kernel_rfl,vc135 k x y r n _ _ k' x' y' r' m _ _ (fun i hi => (hs i hi).2) (hob _ (by simp)) (hob _ (by simp)) (hob _ (by simp)) (hob _ (by simp))⟩
 ·cases hc
end Go.Ax
end
section
/-
  Whether forms are apart.
-/
set_option maxHeartbeats 4000000
set_option maxRecDepth 100000
namespace Go.Ax
open Go.Proofs
def ddS (x y r a b s:Int):Bool:=decide (IntKind.i64.wrap (IntKind.i64.wrap (r + s) * IntKind.i64.wrap (r + s)) < dtW (mnW x a) (mnW y b) (mnW x a) (mnW y b))
theorem Rs_if {w:World} {ρ:Env} {t:TypeId} {a a':AV} (h:∀ v,R w ρ a v → R w ρ a' v) (v:Value) (hR:R w ρ (.iface t a) v):R w ρ (.iface t a') v:=by
 cases hR with
 | iface hh => exact .iface (h _ hh)
def c90a:Con
 | [.iface 112 (.agg [.ro n 2 g]),.iface 107 (.agg [.v (.int .i64 x),.v (.int .i64 y),.v (.int .i64 r)])] => some ([spots n g,n ≤ 9223372036854775806,∀ i,i < n → validS (gx g 0 i) (gx g 1 i) = true,validS x y = true],bo (outS n (gx g 0) (gx g 1) x y r))
 | _ => none
theorem vc90a (n:Nat) (X Y:Nat → Int) (x y r:Int) (hX:∀ i,i < n → inR (X i) ∧ inR (Y i)) (hn:n ≤ 9223372036854775806) (vX:∀ i,i < n → validS (X i) (Y i) = true) (vC:validS x y = true) :
  fnVC Tryz.prog [(85,c85),(1000000 + 161,c161),(106,c106),(107,c107)] [(8,⟨[(15,.slot 4)],[]⟩)] Tryz.f58 [.iface 112 (.agg [.ro n 2 fun i => [i64 (X i),i64 (Y i)]]),.iface 107 (.agg [i64 x,i64 y,i64 r])] (· = bo (outS n X Y x y r)):=by
 refine fnVC_go (rs:=[.cell 4 4]) rfl rfl ?_
 simp only [go_sem,c85,c106]
 simp only [false_imp_iff,true_imp_iff,reduceCtorEq,true_and,and_true,Bool.false_eq_true]
 have hg:spots n fun i => [i64 (X i),i64 (Y i)]:=fun i hi => ⟨rfl,hX i hi⟩
 intro z hz
 refine ⟨hg,hn,vX,vC,fun h => ?_,fun h => ?_⟩
 ·refine (decide_eq_false fun hq => ?_).symm
  have hz:z = inS n X Y x y:=hz
  rw [← hz,h] at hq
  exact absurd hq.1 (by simp)
 refine rangeC_go (fun (i:Nat) => i ≤ n ∧ ∀ j,j < i → farS (X j) (Y j) (X (nxt n j)) (Y (nxt n j)) x y r = true) (fun i => i) (fun _ => []) [14,8,0] [63,64,11,12,65,66,67,68,69,70,71,72] 0 0 (N:=n) (sq:=edgeE n fun i => [i64 (X i),i64 (Y i)]) (ob:=[spots n fun i => [i64 (X i),i64 (Y i)],n ≤ 9223372036854775806]) rfl (by simp [hg,hn]) (by kernel_rfl) rfl (fun i _ => ⟨rfl,rfl⟩) ⟨Nat.zero_le _,fun j hj => by omega⟩ rfl ⟨[],?_,?_,?_⟩ ?_ ?_
 ·simp only [go_sem]
 ·simp only [go_sem]
 ·simp [goodNames,asg]
 ·intro i hi hlt
  simp only [go_sem,edgeE,c107]
  refine fun z1 hz1 => ⟨fun h2 => ?_,fun h2 => ⟨i + 1,⟨by have:i < n:=hlt; omega,fun j hj => ?_⟩,rfl,[],?_⟩⟩
  ·refine (decide_eq_false fun hq => ?_).symm
   have:=hq.2 i hlt
   rw [← hz1,h2] at this; cases this
  ·by_cases e:j = i
   ·subst e; rw [← hz1]; exact h2
   ·exact hi.2 j (by omega)
  ·simp [goodNames]
 ·intro i hi he
  simp only [go_sem]
  have hz:z = inS n X Y x y:=hz
  exact (decide_eq_true ⟨by rw [← hz,h],fun j hj => hi.2 j (by omega)⟩).symm
theorem con90a:ConOK Tryz.prog 58 c90a:=ConOK.go (G:=[(85,c85),(1000000 + 161,c161),(106,c106),(107,c107)]) (H:=[(8,⟨[(15,.slot 4)],[]⟩)]) (.cons con85 (.seq seq161 (.cons con106 (.cons con107 .nil)))) Tryz.func58 fun l ob rr hc hob => by
 unfold c90a at hc
 split at hc
 ·rename_i n g x y r
  cases hc
  have hs:spots n g:=hob _ (by simp)
  refine ⟨[.iface 112 (.agg [.ro n 2 fun i => [i64 (gx g 0 i),i64 (gx g 1 i)]]),.iface 107 (.agg [i64 x,i64 y,i64 r])],fun w I vs h => Rs_two (Rs_if (Rs_poly hs)) (fun v h => h) h,by kernel_rfl,vc90a n _ _ x y r (fun i hi => (hs i hi).2) (hob _ (by simp)) (hob _ (by simp)) (hob _ (by simp))⟩
 ·cases hc
theorem vc90d (x y r a b s:Int) :
  fnVC Tryz.prog [(104,c104),(105,c105)] [(8,⟨[(15,.slot 4)],[]⟩)] Tryz.f58 [.iface 107 (.agg [i64 x,i64 y,i64 r]),.iface 107 (.agg [i64 a,i64 b,i64 s])] (· = bo (ddS x y r a b s)):=by
 refine fnVC_go (rs:=[.cell 4 4]) rfl rfl ?_
 simp only [go_sem,c104,c105]
 simp only [false_imp_iff,true_imp_iff,reduceCtorEq,true_and,and_true,Bool.false_eq_true]
 simp only [forall_eq]
 rfl
theorem vc90e (n:Nat) (g:Nat → List AV) (x y r:Int) (hg:spots n g) (hn:n ≤ 9223372036854775806) (vX:∀ i,i < n → validS (gx g 0 i) (gx g 1 i) = true) (vC:validS x y = true) :
  fnVC Tryz.prog [(58,c90a)] [(8,⟨[(15,.slot 4)],[]⟩)] Tryz.f58 [.iface 107 (.agg [i64 x,i64 y,i64 r]),.iface 112 (.agg [.ro n 2 g])] (· = bo (outS n (gx g 0) (gx g 1) x y r)):=by
 refine fnVC_go (rs:=[.cell 4 4]) rfl rfl ?_
 simp only [go_sem,c90a]
 simp only [false_imp_iff,true_imp_iff,reduceCtorEq,true_and,and_true,Bool.false_eq_true]
 exact fun z hz => ⟨hg,hn,vX,vC,hz⟩
theorem vc90f (n:Nat) (g:Nat → List AV) (m:Nat) (g':Nat → List AV) (hg:spots n g) (hn:n ≤ 9223372036854775806) (vX:∀ i,i < n → validS (gx g 0 i) (gx g 1 i) = true) (hg':spots m g') (hm:m ≤ 9223372036854775806) (vZ:∀ i,i < m → validS (gx g' 0 i) (gx g' 1 i) = true) :
  fnVC Tryz.prog [(108,c108)] [(8,⟨[(15,.slot 4)],[]⟩)] Tryz.f58 [.iface 112 (.agg [.ro n 2 g]),.iface 112 (.agg [.ro m 2 g'])] (· = bo (clrS n (gx g 0) (gx g 1) m (gx g' 0) (gx g' 1) || clrS m (gx g' 0) (gx g' 1) n (gx g 0) (gx g 1))):=by
 refine fnVC_go (rs:=[.cell 4 4]) rfl rfl ?_
 simp only [go_sem,c108]
 simp only [false_imp_iff,true_imp_iff,reduceCtorEq,true_and,and_true,Bool.false_eq_true]
 exact fun z hz => ⟨hg,hg',hn,hm,vX,vZ,fun z1 hz1 => ⟨fun _ => hg',fun _ => hg,fun _ => hm,fun _ => hn,fun _ => vZ,fun _ => vX,by rw [hz,hz1]⟩⟩
def c90d:Con
 | [.iface 107 (.agg [.v (.int .i64 x),.v (.int .i64 y),.v (.int .i64 r)]),.iface 107 (.agg [.v (.int .i64 a),.v (.int .i64 b),.v (.int .i64 s)])] => some ([],bo (ddS x y r a b s))
 | _ => none
theorem con90d:ConOK Tryz.prog 58 c90d:=ConOK.go (G:=[(104,c104),(105,c105)]) (H:=[(8,⟨[(15,.slot 4)],[]⟩)]) (.cons con104 (.cons con105 .nil)) Tryz.func58 fun l ob rr hc hob => by
 unfold c90d at hc
 split at hc
 ·rename_i x y r a b s
  cases hc
  exact ⟨_,fun w I vs h => h,by kernel_rfl,vc90d x y r a b s⟩
 ·cases hc
def c90e:Con
 | [.iface 107 (.agg [.v (.int .i64 x),.v (.int .i64 y),.v (.int .i64 r)]),.iface 112 (.agg [.ro n 2 g])] => some ([spots n g,n ≤ 9223372036854775806,∀ i,i < n → validS (gx g 0 i) (gx g 1 i) = true,validS x y = true],bo (outS n (gx g 0) (gx g 1) x y r))
 | _ => none
theorem con90e:ConOK Tryz.prog 58 c90e:=ConOK.go (G:=[(58,c90a)]) (H:=[(8,⟨[(15,.slot 4)],[]⟩)]) (.cons con90a .nil) Tryz.func58 fun l ob rr hc hob => by
 unfold c90e at hc
 split at hc
 ·rename_i x y r n g
  cases hc
  exact ⟨_,fun w I vs h => h,by kernel_rfl,vc90e n g x y r (hob _ (by simp)) (hob _ (by simp)) (hob _ (by simp)) (hob _ (by simp))⟩
 ·cases hc
def c90f:Con
 | [.iface 112 (.agg [.ro n 2 g]),.iface 112 (.agg [.ro m 2 g'])] => some ([spots n g,n ≤ 9223372036854775806,∀ i,i < n → validS (gx g 0 i) (gx g 1 i) = true,spots m g',m ≤ 9223372036854775806,∀ i,i < m → validS (gx g' 0 i) (gx g' 1 i) = true],bo (clrS n (gx g 0) (gx g 1) m (gx g' 0) (gx g' 1) || clrS m (gx g' 0) (gx g' 1) n (gx g 0) (gx g 1)))
 | _ => none
theorem con90f:ConOK Tryz.prog 58 c90f:=ConOK.go (G:=[(108,c108)]) (H:=[(8,⟨[(15,.slot 4)],[]⟩)]) (.cons con108 .nil) Tryz.func58 fun l ob rr hc hob => by
 unfold c90f at hc
 split at hc
 ·rename_i n g m g'
  cases hc
  exact ⟨_,fun w I vs h => h,by kernel_rfl,vc90f n g m g' (hob _ (by simp)) (hob _ (by simp)) (hob _ (by simp)) (hob _ (by simp)) (hob _ (by simp)) (hob _ (by simp))⟩
 ·cases hc
def c58 (l:List AV):Option (List Prop × AV):=match l with
 | [.iface 112 _,.iface 107 _] => c90a l
 | [.iface 107 _,.iface 112 _] => c90e l
 | [.iface 107 _,.iface 107 _] => c90d l
 | [.iface 112 _,.iface 112 _] => c90f l
 | [.iface 107 _,.v .nilIface] => some ([False],bo false)
 | [.iface 112 _,.v .nilIface] => some ([False],bo false)
 | [.v .nilIface,.iface 107 _] => some ([False],bo false)
 | [.v .nilIface,.iface 112 _] => some ([False],bo false)
 | [.v .nilIface,.v .nilIface] => some ([False],bo false)
 | _ => none
theorem con58:ConOK Tryz.prog 58 c58:=fun l ob rr hc hob => by
 unfold c58 at hc
 split at hc
 ·exact con90a _ _ _ hc hob
 ·exact con90e _ _ _ hc hob
 ·exact con90d _ _ _ hc hob
 ·exact con90f _ _ _ hc hob
 ·cases hc; exact (hob False (by simp)).elim
 ·cases hc; exact (hob False (by simp)).elim
 ·cases hc; exact (hob False (by simp)).elim
 ·cases hc; exact (hob False (by simp)).elim
 ·cases hc; exact (hob False (by simp)).elim
 ·cases hc
end Go.Ax
end
section
/-
  Whether forms are apart: the two.
-/
set_option maxHeartbeats 4000000
set_option maxRecDepth 100000
namespace Go.Ax
open Go.Proofs
def apS (k x y r:Int) (n:Nat) (X Y:Nat → Int) (k' x' y' r':Int) (m:Nat) (Z T:Nat → Int):Bool:=
 if checkS k x y r n X Y = 0 ∧ checkS k' x' y' r' m Z T = 0 then
  (if k = 1 then (if k' = 1 then ddS x y r x' y' r' else outS m Z T x y r) else if k' = 1 then outS n X Y x' y' r' else (clrS n X Y m Z T || clrS m Z T n X Y))
 else false
def bothS (k x y r:Int) (n:Nat) (g:Nat → List AV) (k' x' y' r':Int) (m:Nat) (g':Nat → List AV):AV:=if checkS k x y r n (gx g 0) (gx g 1) = 0 then (if k = 1 then (if checkS k' x' y' r' m (gx g' 0) (gx g' 1) = 0 then (if k' = 1 then .tup [.iface 107 (.agg [i64 x,i64 y,i64 r]),.iface 107 (.agg [i64 x',i64 y',i64 r']),bo true] else .tup [.iface 107 (.agg [i64 x,i64 y,i64 r]),.iface 112 (.agg [.ro m 2 g']),bo true]) else .tup [.iface 107 (.agg [i64 x,i64 y,i64 r]),.v .nilIface,bo false]) else (if checkS k' x' y' r' m (gx g' 0) (gx g' 1) = 0 then (if k' = 1 then .tup [.iface 112 (.agg [.ro n 2 g]),.iface 107 (.agg [i64 x',i64 y',i64 r']),bo true] else .tup [.iface 112 (.agg [.ro n 2 g]),.iface 112 (.agg [.ro m 2 g']),bo true]) else .tup [.iface 112 (.agg [.ro n 2 g]),.v .nilIface,bo false])) else (if checkS k' x' y' r' m (gx g' 0) (gx g' 1) = 0 then (if k' = 1 then .tup [.v .nilIface,.iface 107 (.agg [i64 x',i64 y',i64 r']),bo false] else .tup [.v .nilIface,.iface 112 (.agg [.ro m 2 g']),bo false]) else .tup [.v .nilIface,.v .nilIface,bo false])
def c57:Con
 | [.agg [.v (.int .i64 k),.v (.int .i64 x),.v (.int .i64 y),.v (.int .i64 r),.ro n 2 g],.agg [.v (.int .i64 k'),.v (.int .i64 x'),.v (.int .i64 y'),.v (.int .i64 r'),.ro m 2 g']] => some ([spots n g,spots m g',n ≤ 9223372036854775806,m ≤ 9223372036854775806,inR x,inR y,inR r,inR x',inR y',inR r'],
   bothS k x y r n g k' x' y' r' m g')
 | _ => none
theorem vc57 (k x y r:Int) (n:Nat) (g:Nat → List AV) (k' x' y' r':Int) (m:Nat) (g':Nat → List AV) (hg:spots n g) (hg':spots m g') (hn:n ≤ 9223372036854775806) (hm:m ≤ 9223372036854775806) (h1:inR x) (h2:inR y) (h3:inR r) (h4:inR x') (h5:inR y') (h6:inR r') :
  fnVC Tryz.prog [(53,c53)] [] Tryz.f57 [formA k x y r n g,formA k' x' y' r' m g'] (· = bothS k x y r n g k' x' y' r' m g'):=by
 refine fnVC_go (rs:=[.tmp 4,.tmp 5,.tmp 6]) rfl rfl ?_
 simp only [go_sem,c53]
 exact ⟨fun hA => ⟨fun hk => ⟨hg,hn,h1,h2,h3,fun hB => ⟨fun hk' => ⟨hg',hm,h4,h5,h6,by unfold bothS; rw [if_pos hA,if_pos hk,if_pos hB,if_pos hk']⟩,fun hk' => ⟨hg',hm,h4,h5,h6,by unfold bothS; rw [if_pos hA,if_pos hk,if_pos hB,if_neg hk']⟩⟩,fun hB => ⟨hg',hm,h4,h5,h6,by unfold bothS; rw [if_pos hA,if_pos hk,if_neg hB]⟩⟩,fun hk => ⟨hg,hn,h1,h2,h3,fun hB => ⟨fun hk' => ⟨hg',hm,h4,h5,h6,by unfold bothS; rw [if_pos hA,if_neg hk,if_pos hB,if_pos hk']⟩,fun hk' => ⟨hg',hm,h4,h5,h6,by unfold bothS; rw [if_pos hA,if_neg hk,if_pos hB,if_neg hk']⟩⟩,fun hB => ⟨hg',hm,h4,h5,h6,by unfold bothS; rw [if_pos hA,if_neg hk,if_neg hB]⟩⟩⟩,fun hA => ⟨hg,hn,h1,h2,h3,fun hB => ⟨fun hk' => ⟨hg',hm,h4,h5,h6,by unfold bothS; rw [if_neg hA,if_pos hB,if_pos hk']⟩,fun hk' => ⟨hg',hm,h4,h5,h6,by unfold bothS; rw [if_neg hA,if_pos hB,if_neg hk']⟩⟩,fun hB => ⟨hg',hm,h4,h5,h6,by unfold bothS; rw [if_neg hA,if_neg hB]⟩⟩⟩
theorem con57:ConOK Tryz.prog 57 c57:=ConOK.go (G:=[(53,c53)]) (H:=[]) (.cons con53 .nil) Tryz.func57 fun l ob rr hc hob => by
 unfold c57 at hc
 split at hc
 ·rename_i k x y r n g k' x' y' r' m g'
  cases hc
  exact ⟨_,fun w I vs h => h,by kernel_rfl,vc57 k x y r n g k' x' y' r' m g' (hob _ (by simp)) (hob _ (by simp)) (hob _ (by simp)) (hob _ (by simp)) (hob _ (by simp)) (hob _ (by simp)) (hob _ (by simp)) (hob _ (by simp)) (hob _ (by simp)) (hob _ (by simp))⟩
 ·cases hc
theorem vc24 (k x y r:Int) (n:Nat) (g:Nat → List AV) (k' x' y' r':Int) (m:Nat) (g':Nat → List AV) (hg:spots n g) (hg':spots m g') (hn:n ≤ 9223372036854775806) (hm:m ≤ 9223372036854775806) (h1:inR x) (h2:inR y) (h3:inR r) (h4:inR x') (h5:inR y') (h6:inR r') :
  fnVC Tryz.prog [(57,c57),(58,c58)] [] Tryz.f24 [formA k x y r n g,formA k' x' y' r' m g'] (· = bo (apS k x y r n (gx g 0) (gx g 1) k' x' y' r' m (gx g' 0) (gx g' 1))):=by
 refine fnVC_go (rs:=[.tmp 4]) rfl rfl ?_
 simp only [go_sem,c57,bothS,c58,c90a,c90d,c90e,c90f]
 refine ⟨fun hA => ⟨fun hk => ⟨fun hB => ⟨fun hk' => ?_,fun hk' => ?_⟩,fun hB => ?_⟩,fun hk => ⟨fun hB => ⟨fun hk' => ?_,fun hk' => ?_⟩,fun hB => ?_⟩⟩,fun hA => ⟨fun hB => ⟨fun hk' => ?_,fun hk' => ?_⟩,fun hB => ?_⟩⟩
 ·exact fun z hz => ⟨hg,hg',hn,hm,h1,h2,h3,h4,h5,h6,fun z1 hz1 => by rw [hz,hz1,Bool.true_and]; unfold apS; rw [if_pos ⟨hA,hB⟩,if_pos hk,if_pos hk']⟩
 ·exact fun z hz => ⟨hg,hg',hn,hm,h1,h2,h3,h4,h5,h6,fun z1 hz1 => ⟨fun _ => hg',fun _ => hm,fun _ => (check_1 hB).2.2.1,fun _ => (check_1 hA).2.1,by rw [hz,hz1,Bool.true_and]; unfold apS; rw [if_pos ⟨hA,hB⟩,if_pos hk,if_neg hk']⟩⟩
 ·exact fun z hz => ⟨hg,hg',hn,hm,h1,h2,h3,h4,h5,h6,fun z1 hz1 => ⟨fun h => (by rw [hz] at h; cases h),by rw [hz,Bool.false_and]; unfold apS; rw [if_neg (fun q => hB q.2)]⟩⟩
 ·exact fun z hz => ⟨hg,hg',hn,hm,h1,h2,h3,h4,h5,h6,fun z1 hz1 => ⟨fun _ => hg,fun _ => hn,fun _ => (check_1 hA).2.2.1,fun _ => (check_1 hB).2.1,by rw [hz,hz1,Bool.true_and]; unfold apS; rw [if_pos ⟨hA,hB⟩,if_neg hk,if_pos hk']⟩⟩
 ·exact fun z hz => ⟨hg,hg',hn,hm,h1,h2,h3,h4,h5,h6,fun z1 hz1 => ⟨fun _ => hg,fun _ => hn,fun _ => (check_1 hA).2.2.1,fun _ => hg',fun _ => hm,fun _ => (check_1 hB).2.2.1,by rw [hz,hz1,Bool.true_and]; unfold apS; rw [if_pos ⟨hA,hB⟩,if_neg hk,if_neg hk']⟩⟩
 ·exact fun z hz => ⟨hg,hg',hn,hm,h1,h2,h3,h4,h5,h6,fun z1 hz1 => ⟨fun h => (by rw [hz] at h; cases h),by rw [hz,Bool.false_and]; unfold apS; rw [if_neg (fun q => hB q.2)]⟩⟩
 ·exact fun z hz => ⟨hg,hg',hn,hm,h1,h2,h3,h4,h5,h6,fun z1 hz1 => ⟨fun h => (by rw [hz] at h; cases h),by rw [hz,Bool.false_and]; unfold apS; rw [if_neg (fun q => hA q.1)]⟩⟩
 ·exact fun z hz => ⟨hg,hg',hn,hm,h1,h2,h3,h4,h5,h6,fun z1 hz1 => ⟨fun h => (by rw [hz] at h; cases h),by rw [hz,Bool.false_and]; unfold apS; rw [if_neg (fun q => hA q.1)]⟩⟩
 ·exact fun z hz => ⟨hg,hg',hn,hm,h1,h2,h3,h4,h5,h6,fun z1 hz1 => ⟨fun h => (by rw [hz] at h; cases h),by rw [hz,Bool.false_and]; unfold apS; rw [if_neg (fun q => hA q.1)]⟩⟩
def c24:Con
 | [.agg [.v (.int .i64 k),.v (.int .i64 x),.v (.int .i64 y),.v (.int .i64 r),.ro n 2 g],.agg [.v (.int .i64 k'),.v (.int .i64 x'),.v (.int .i64 y'),.v (.int .i64 r'),.ro m 2 g']] => some ([spots n g,spots m g',n ≤ 9223372036854775806,m ≤ 9223372036854775806,inR x,inR y,inR r,inR x',inR y',inR r'],
   bo (apS k x y r n (gx g 0) (gx g 1) k' x' y' r' m (gx g' 0) (gx g' 1)))
 | _ => none
theorem con24:ConOK Tryz.prog 24 c24:=ConOK.go (G:=[(57,c57),(58,c58)]) (H:=[]) (.cons con57 (.cons con58 .nil)) Tryz.func24 fun l ob rr hc hob => by
 unfold c24 at hc
 split at hc
 ·rename_i k x y r n g k' x' y' r' m g'
  cases hc
  exact ⟨_,fun w I vs h => h,by kernel_rfl,vc24 k x y r n g k' x' y' r' m g' (hob _ (by simp)) (hob _ (by simp)) (hob _ (by simp)) (hob _ (by simp)) (hob _ (by simp)) (hob _ (by simp)) (hob _ (by simp)) (hob _ (by simp)) (hob _ (by simp)) (hob _ (by simp))⟩
 ·cases hc
theorem vc65 (k x y r:Int) (n:Nat) (g:Nat → List AV) (k' x' y' r':Int) (m:Nat) (g':Nat → List AV) (hg:spots n g) (hg':spots m g') (hn:n ≤ 9223372036854775806) (hm:m ≤ 9223372036854775806) (h1:inR x) (h2:inR y) (h3:inR r) (h4:inR x') (h5:inR y') (h6:inR r') :
  fnVC Tryz.prog [(64,c10),(133,c133),(134,c105),(135,c135),(136,c136)] [] Tryz.f65 [formA k x y r n g,formA k' x' y' r' m g'] (· = bo (apS k x y r n (gx g 0) (gx g 1) k' x' y' r' m (gx g' 0) (gx g' 1))):=by
 refine fnVC_go (rs:=[.tmp 4]) rfl rfl ?_
 simp only [go_sem,c10,c133,c105,c135,c136]
 simp only [forall_eq,mnW_eq,dtW_eq]
 refine ⟨hg,hn,h1,h2,h3,fun _ => hg',fun _ => hm,fun _ => h4,fun _ => h5,fun _ => h6,fun h => ?_,fun h => ?_⟩
 ·unfold apS
  rw [if_neg (fun q => by
   rcases h with h | h
   ·exact (bne_iff_ne.1 h) q.1
   ·exact (bne_iff_ne.1 h) q.2)]
 have hA:checkS k x y r n (gx g 0) (gx g 1) = 0:=bne_eq_false_iff_eq.1 h.1
 have hB:checkS k' x' y' r' m (gx g' 0) (gx g' 1) = 0:=bne_eq_false_iff_eq.1 h.2
 have vA:=(check_1 hA).2
 have vB:=(check_1 hB).2
 refine ⟨fun q => ?_,fun q => ⟨fun q1 => ?_,fun q1 => ⟨fun q2 => ?_,fun q2 => ?_⟩⟩⟩
 ·unfold apS; rw [if_pos ⟨hA,hB⟩,if_pos (by simpa using q.1),if_pos (by simpa using q.2)]; rfl
 ·have hk:k = 1:=by simpa using q1
  have hk':¬ k' = 1:=by rw [q1,Bool.true_and] at q; simpa using q
  exact ⟨hg',hg,hm,hB,hk',vA.1,by unfold apS; rw [if_pos ⟨hA,hB⟩,if_pos hk,if_neg hk']⟩
 ·have hk:¬ k = 1:=by simpa using q1
  have hk':k' = 1:=by simpa using q2
  exact ⟨hg,hg',hn,hA,hk,vB.1,by unfold apS; rw [if_pos ⟨hA,hB⟩,if_neg hk,if_pos hk']⟩
 ·have hk:¬ k = 1:=by simpa using q1
  have hk':¬ k' = 1:=by simpa using q2
  exact ⟨hg,hg',hn,hm,vA.2.1,vB.2.1,fun _ => hg',fun _ => hg,fun _ => hm,fun _ => hn,fun _ => vB.2.1,fun _ => vA.2.1,by unfold apS; rw [if_pos ⟨hA,hB⟩,if_neg hk,if_neg hk']⟩
theorem con65:ConOK Tryz.prog 65 c24:=ConOK.go (G:=[(64,c10),(133,c133),(134,c105),(135,c135),(136,c136)]) (H:=[]) (.cons con64 (.cons con133 (.cons con134 (.cons con135 (.cons con136 .nil))))) Tryz.func65 fun l ob rr hc hob => by
 unfold c24 at hc
 split at hc
 ·rename_i k x y r n g k' x' y' r' m g'
  cases hc
  exact ⟨_,fun w I vs h => h,by kernel_rfl,vc65 k x y r n g k' x' y' r' m g' (hob _ (by simp)) (hob _ (by simp)) (hob _ (by simp)) (hob _ (by simp)) (hob _ (by simp)) (hob _ (by simp)) (hob _ (by simp)) (hob _ (by simp)) (hob _ (by simp)) (hob _ (by simp))⟩
 ·cases hc
end Go.Ax
end