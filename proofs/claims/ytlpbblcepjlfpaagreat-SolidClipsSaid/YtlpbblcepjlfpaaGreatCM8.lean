/-
  The gap between an edge and a form.
-/
import Derived.Test.YtlpbblcepjlfpaaGreatCM7
set_option linter.unusedVariables false
set_option linter.unusedSimpArgs false
section
set_option maxHeartbeats 4000000
set_option maxRecDepth 100000
namespace Go.Ax
open Go.Proofs
def hgt (a b c d x y:Int):Nb:=vDot (vNorm a b c d) (vLoc (mnW a x) (mnW b y))
def mnN (h:Nat → Nb):Nat → Nb
 | 0 => h 0
 | n + 1 => nMn (mnN h n) (h (n + 1))
def gapS (a b c d k x y r:Int) (n:Nat) (X Y:Nat → Int):Nb:=
 if k = 1 then nSub (hgt a b c d x y) (nRat r 256) else mnN (fun j => hgt a b c d (X j) (Y j)) (n - 1)
theorem hgt_rg {a b c d x y:Int}:rg (hgt a b c d x y).1:=nDot_rg
theorem mnN_step {h:Nat → Nb} {n:Nat} (h1:rg (mnN h n).1) (h2:rg (h (n + 1)).1):mnN h (n + 1) = (if (h (n + 1)).1 < (mnN h n).1 then (h (n + 1)).1 else (mnN h n).1,(mnN h n).2 || (h (n + 1)).2):=by
 show nMn (mnN h n) (h (n + 1)) = _
 unfold nMn
 rw [whV_of h1,whV_of h2,whF_of h1,whF_of h2]
theorem mnN_rg {h:Nat → Nb} (hr:∀ i,rg (h i).1):∀ n,rg (mnN h n).1
 | 0 => hr 0
 | n + 1 => by
  have h1:=mnN_rg hr n
  have h2:=hr (n + 1)
  rw [mnN_step h1 h2]
  dsimp only
  split
  ·exact h2
  ·exact h1
theorem mn_ex {h:Nat → Nb} (hr:∀ i,rg (h i).1):∀ k,exS 1 (h 0).1 (fun i => (h (i + 1)).1) k = (mnN h k).1
 | 0 => rfl
 | k + 1 => by
  rw [mnN_step (mnN_rg hr k) (hr (k + 1))]
  have ih:=mn_ex hr k
  unfold exS
  rw [ih]
  by_cases q:(h (k + 1)).1 < (mnN h k).1
  ·rw [if_pos (.inl ⟨rfl,q⟩)]; dsimp only; rw [if_pos q]
  ·rw [if_neg (by rintro (q1 | q1); exact q q1.2; exact absurd q1.1 (by omega))]; dsimp only; rw [if_neg q]
theorem mn_fl {h:Nat → Nb} (hr:∀ i,rg (h i).1):∀ k,anyB (fun i => (h i).2) (k + 1) = (mnN h k).2
 | 0 => by unfold anyB anyB; rw [Bool.false_or]; rfl
 | k + 1 => by
  rw [mnN_step (mnN_rg hr k) (hr (k + 1)),← mn_fl hr k]
  rfl
theorem vc149 (a b c d k x y r:Int) (n:Nat) (X Y:Nat → Int) (hX:∀ i,i < n → inR (X i) ∧ inR (Y i)) (hn:n ≤ 9223372036854775806) (h1:inR r) (v1:validS a b = true) (v2:validS c d = true) (h0:¬ k = 1 → 0 < n) :
  fnVC Tryz.prog [(26,k46),(35,k54),(137,k69),(133,c133),(145,k83),(150,k145),(195,k163)] [(3,⟨[(11,.slot 6)],[]⟩),(4,⟨[(10,.made 9)],[]⟩),(8,⟨[(13,.slot 8)],[]⟩)] Tryz.f149 [.agg [i64 a,i64 b],.agg [i64 c,i64 d],formA k x y r n fun i => [i64 (X i),i64 (Y i)]] (· = nbA (gapS a b c d k x y r n X Y)):=by
 refine fnVC_go (rs:=[.cell 6 36]) rfl rfl ?_
 simp only [go_sem,k46,k54,k69,c133,k83,k145,k163]
 refine ⟨v1,v2,fun h => ?_,fun h => ?_⟩
 ·have hk:k = 1:=by simpa using h
  refine fun z hz z1 hz1 => ⟨by rw [hz]; exact wrap_inR _,by rw [hz1]; exact wrap_inR _,h1,?_⟩
  unfold gapS
  rw [if_pos hk,hz,hz1]
  rfl
 ·have hk:¬ k = 1:=by simpa using h
  have hpos:=h0 hk
  refine ⟨by omega,fun z hz z1 hz1 => ⟨by rw [hz]; exact wrap_inR _,by rw [hz1]; exact wrap_inR _,?_⟩⟩
  have e0:vDot (vNorm a b c d) (vLoc z z1) = mnN (fun j => hgt a b c d (X j) (Y j)) 0:=by rw [hz,hz1]; rfl
  refine loopC_go (fun (j:Nat) => 1 ≤ j ∧ j ≤ n) (fun j => n - j) (fun j => [(9,i64 j)]) (fun j => [(21,fam1 36 2 [i64 (mnN (fun j => hgt a b c d (X j) (Y j)) (j - 1)).1,bo (mnN (fun j => hgt a b c d (X j) (Y j)) (j - 1)).2] none)]) [7,3,2,1,0] [36,37,38,39,40,43,44,45,46,47,48,49,50,51,52,53,54,55,41,42,9] 1 (by kernel_rfl) ?_ ⟨Nat.le_refl _,hpos⟩ ?_ ?_
  ·intro x _; simp [goodNames,asg]
  ·simp only [go_sem,e0]
  intro j hj
  simp only [go_sem,k46,k54,k69,c133,k83,k145,k163]
  refine ⟨fun hin => ⟨by omega,hin,fun y1 hy1 y2 hy2 => ⟨by rw [hy1]; exact wrap_inR _,by rw [hy2]; exact wrap_inR _,rg_inR (mnN_rg (fun _ => hgt_rg) _),fun y3 hy3 => ⟨j + 1,by omega,by omega,by rw [hy3,wrap_in (by unfold inR; omega)]; rfl,?_⟩⟩⟩,fun hin => ?_⟩
  ·have e:nMn (mnN (fun j => hgt a b c d (X j) (Y j)) (j - 1)) (vDot (vNorm a b c d) (vLoc y1 y2)) = mnN (fun j => hgt a b c d (X j) (Y j)) (j + 1 - 1):=by
    rw [hy1,hy2]
    obtain ⟨q,rfl⟩:∃ q,j = q + 1:=⟨j - 1,by omega⟩
    rfl
   rw [e]
   exact ⟨rfl,rfl⟩
  ·have e:j = n:=by omega
   subst e
   unfold gapS
   rw [if_neg hk]
   rfl
theorem vc159d (a b c d x y r:Int) (h1:inR r) (v1:validS a b = true) (v2:validS c d = true) :
  fnVC Tryz.prog [(112,k160),(113,k162),(120,k173),(128,k180)] [(5,⟨[(9,.slot 6)],[]⟩)] Tryz.f121 [.agg [i64 a,i64 b],.agg [i64 c,i64 d],.iface 107 (.agg [i64 x,i64 y,i64 r])] (· = nbA (nSub (hgt a b c d x y) (nRat r 256))):=by
 refine fnVC_go (rs:=[.cell 6 36]) rfl rfl ?_
 simp only [go_sem,k160,k162,k173,k180]
 simp only [false_imp_iff,true_imp_iff,reduceCtorEq,true_and,and_true,Bool.false_eq_true]
 exact ⟨v1,v2,h1,rfl⟩
theorem vc159p (a b c d:Int) (n:Nat) (X Y:Nat → Int) (hX:∀ i,i < n → inR (X i) ∧ inR (Y i)) (hn:n ≤ 1000) (v1:validS a b = true) (v2:validS c d = true) (h0:0 < n) :
  fnVC Tryz.prog [(120,k173),(128,k180),(188,c188)] [(5,⟨[(9,.slot 6)],[]⟩)] Tryz.f121 [.agg [i64 a,i64 b],.agg [i64 c,i64 d],.iface 112 (.agg [.ro n 2 fun i => [i64 (X i),i64 (Y i)]])] (· = nbA (mnN (fun j => hgt a b c d (X j) (Y j)) (n - 1))):=by
 refine fnVC_go (rs:=[.cell 6 36]) rfl rfl ?_
 simp only [go_sem,k160,k162,k173,k180]
 simp only [false_imp_iff,true_imp_iff,reduceCtorEq,true_and,and_true,Bool.false_eq_true]
 have hb:bytesT Tryz.prog 36 = 16:=by kernel_rfl
 rw [hb]
 refine ⟨v1,v2,by omega,by omega,by omega,?_⟩
 refine loopC_go (fun (i:Nat) => i ≤ n) (fun i => n - i) (fun i => [(39,i64 i)]) (fun i => [(20,famN n 2 36 (fun j => [i64 (uptN i (fun l => (hgt a b c d (X l) (Y l)).1) j),bo (decide (j < i) && (hgt a b c d (X j) (Y j)).2)]) none)]) [15,6,2,1,0] [40,41,42,43,12,11,44,45,46,47,48,49,50,51,39] 0 (by kernel_rfl) ?_ (Nat.zero_le _) ?_ ?_
 ·intro x _; simp [goodNames,asg]
 ·simp only [go_sem,uptN_zero,implies_true,true_and]
  intro i hi
  rw [decide_eq_false (by omega),Bool.false_and]
 intro i hi
 simp only [go_sem,k180,c188]
 refine ⟨fun hin => ⟨by omega,hin,by omega,hin,by omega,fun z hz => ⟨i + 1,by omega,by omega,by rw [hz,wrap_in (by unfold inR; omega)]; rfl,fun j hj => ?_⟩⟩,fun hin z hz z1 hz1 => ?_⟩
 ·by_cases e:j = i
  ·subst e
   rw [if_pos rfl]
   simp only [go_sem,uptN_self]
   exact ⟨rfl,by rw [decide_eq_true (by omega),Bool.true_and]; rfl⟩
  ·rw [if_neg e]
   have h1:∀ Z,uptN (i + 1) Z j = uptN i Z j:=fun Z => uptN_ne e
   have h2:decide (j < i + 1) = decide (j < i):=by rw [decide_eq_decide]; omega
   simp only [go_sem,h1,h2]
 ·have e:i = n:=by omega
  subst e
  have hr:∀ j,rg ((fun j => hgt a b c d (X j) (Y j)) j).1:=fun _ => hgt_rg
  have u:∀ j,j < i → uptN i (fun l => (hgt a b c d (X l) (Y l)).1) j = (hgt a b c d (X j) (Y j)).1:=fun j hj => uptN_lt hj
  refine ⟨fun j hj => ⟨rfl,?_⟩,hn,?_⟩
  ·show inR (uptN i (fun l => (hgt a b c d (X l) (Y l)).1) j)
   rw [u j hj]; exact rg_inR hgt_rg
  ·have e1:z = (mnN (fun j => hgt a b c d (X j) (Y j)) (i - 1)).1:=by
    rw [hz,← mn_ex hr (i - 1)]
    unfold moV msS
    rw [if_neg (by omega)]
    have w:∀ j,j < i → wvS (fun l => [AV.v (Value.int IntKind.i64 (uptN i (fun l => (hgt a b c d (X l) (Y l)).1) l)),AV.v (Value.bool (decide (l < i) && (hgt a b c d (X l) (Y l)).2))]) j = (hgt a b c d (X j) (Y j)).1:=fun j hj => by
     show whV (uptN i (fun l => (hgt a b c d (X l) (Y l)).1) j) = _
     rw [u j hj,whV_of hgt_rg]
    rw [w 0 (by omega)]
    exact exS_congr fun j hj => w (j + 1) (by omega)
   have e2:z1 = (mnN (fun j => hgt a b c d (X j) (Y j)) (i - 1)).2:=by
    rw [hz1,← mn_fl hr (i - 1)]
    unfold wfS
    rw [show i - 1 + 1 = i by omega]
    refine anyB_congr fun j hj => ?_
    show whF (uptN i (fun l => (hgt a b c d (X l) (Y l)).1) j) (decide (j < i) && (hgt a b c d (X j) (Y j)).2) = _
    rw [u j hj,whF_of hgt_rg,decide_eq_true hj,Bool.true_and]
   rw [e1,e2]; rfl
def k95:Con
 | [.agg [.v (.int .i64 a),.v (.int .i64 b)],.agg [.v (.int .i64 c),.v (.int .i64 d)],.agg [.v (.int .i64 k),.v (.int .i64 x),.v (.int .i64 y),.v (.int .i64 r),.ro n 2 g]] => some ([spots n g,n ≤ 9223372036854775806,inR r,validS a b = true,validS c d = true,¬ k = 1 → 0 < n],nbA (gapS a b c d k x y r n (gx g 0) (gx g 1)))
 | _ => none
theorem kon95:ConOK Tryz.prog 149 k95:=ConOK.go (G:=[(26,k46),(35,k54),(137,k69),(133,c133),(145,k83),(150,k145),(195,k163)]) (H:=[(3,⟨[(11,.slot 6)],[]⟩),(4,⟨[(10,.made 9)],[]⟩),(8,⟨[(13,.slot 8)],[]⟩)]) (.cons kon46 (.cons kon54 (.cons kon69 (.cons con133 (.cons kon83 (.cons kon145 (.cons kon163 .nil))))))) Tryz.func149 fun l ob rr hc hob => by
 unfold k95 at hc
 split at hc
 ·rename_i a b c d k x y r n g
  cases hc
  have hs:spots n g:=hob _ (by simp)
  refine ⟨[.agg [i64 a,i64 b],.agg [i64 c,i64 d],formA k x y r n fun i => [i64 (gx g 0 i),i64 (gx g 1 i)]],fun w I vs h => ?_,by kernel_rfl,vc149 a b c d k x y r n _ _ (fun i hi => (hs i hi).2) (hob _ (by simp)) (hob _ (by simp)) (hob _ (by simp)) (hob _ (by simp)) (hob _ (by simp))⟩
  obtain ⟨x1,xs,rfl,p1,p2⟩:=h.inv
  obtain ⟨x2,ys,rfl,p3,p4⟩:=p2.inv
  exact .cons p1 (.cons p3 (Rs_one (Rs_form hs) p4))
 ·cases hc
def k159d:Con
 | [.agg [.v (.int .i64 a),.v (.int .i64 b)],.agg [.v (.int .i64 c),.v (.int .i64 d)],.iface 107 (.agg [.v (.int .i64 x),.v (.int .i64 y),.v (.int .i64 r)])] => some ([inR r,validS a b = true,validS c d = true],nbA (nSub (hgt a b c d x y) (nRat r 256)))
 | _ => none
theorem kon159d:ConOK Tryz.prog 121 k159d:=ConOK.go (G:=[(112,k160),(113,k162),(120,k173),(128,k180)]) (H:=[(5,⟨[(9,.slot 6)],[]⟩)]) (.cons kon160 (.cons kon162 (.cons kon173 (.cons kon180 .nil)))) Tryz.func121 fun l ob rr hc hob => by
 unfold k159d at hc
 split at hc
 ·rename_i a b c d x y r
  cases hc
  exact ⟨_,fun w I vs h => h,by kernel_rfl,vc159d a b c d x y r (hob _ (by simp)) (hob _ (by simp)) (hob _ (by simp))⟩
 ·cases hc
def k159p:Con
 | [.agg [.v (.int .i64 a),.v (.int .i64 b)],.agg [.v (.int .i64 c),.v (.int .i64 d)],.iface 112 (.agg [.ro n 2 g])] => some ([spots n g,n ≤ 1000,validS a b = true,validS c d = true,0 < n],nbA (mnN (fun j => hgt a b c d (gx g 0 j) (gx g 1 j)) (n - 1)))
 | _ => none
theorem kon159p:ConOK Tryz.prog 121 k159p:=ConOK.go (G:=[(120,k173),(128,k180),(188,c188)]) (H:=[(5,⟨[(9,.slot 6)],[]⟩)]) (.cons kon173 (.cons kon180 (.cons con188 .nil))) Tryz.func121 fun l ob rr hc hob => by
 unfold k159p at hc
 split at hc
 ·rename_i a b c d n g
  cases hc
  have hs:spots n g:=hob _ (by simp)
  refine ⟨[.agg [i64 a,i64 b],.agg [i64 c,i64 d],.iface 112 (.agg [.ro n 2 fun i => [i64 (gx g 0 i),i64 (gx g 1 i)]])],fun w I vs h => ?_,by kernel_rfl,vc159p a b c d n _ _ (fun i hi => (hs i hi).2) (hob _ (by simp)) (hob _ (by simp)) (hob _ (by simp)) (hob _ (by simp))⟩
  obtain ⟨x1,xs,rfl,p1,p2⟩:=h.inv
  obtain ⟨x2,ys,rfl,p3,p4⟩:=p2.inv
  exact .cons p1 (.cons p3 (Rs_one (Rs_if (Rs_poly hs)) p4))
 ·cases hc
def k159 (l:List AV):Option (List Prop × AV):=match l with
 | [_,_,.iface 107 _] => k159d l
 | [_,_,.iface 112 _] => k159p l
 | _ => none
theorem kon159:ConOK Tryz.prog 121 k159:=fun l ob rr hc hob => by
 unfold k159 at hc
 split at hc
 ·exact kon159d _ _ _ hc hob
 ·exact kon159p _ _ _ hc hob
 ·cases hc
end Go.Ax
end
section
/-
  The axis between forms.
-/
set_option maxHeartbeats 4000000
set_option maxRecDepth 100000
namespace Go.Ax
open Go.Proofs
theorem aEq76 {a0 b0:Bool} {a1 b1:Int} {a2 b2:Int} {a3 b3:Int} {a4 b4:Bool}:aEq Tryz.prog 76 (.agg [bo a0,i64 a1,i64 a2,i64 a3,bo a4]) (.agg [bo b0,i64 b1,i64 b2,i64 b3,bo b4]) = some ((a0 == b0) && ((a1 == b1) && ((a2 == b2) && (((a3 == b3) && ((a4 == b4) && true)) && true)))):=by kernel_rfl
theorem eq76 {xo yo:Operand} {neg:Bool} {a0 b0:Bool} {a1 b1:Int} {a2 b2:Int} {a3 b3:Int} {a4 b4:Bool}:eqE Tryz.prog neg 76 xo yo (.agg [bo a0,i64 a1,i64 a2,i64 a3,bo a4]) (.agg [bo b0,i64 b1,i64 b2,i64 b3,bo b4]) = some ⟨[],.v (.bool (negV neg ((a0 == b0) && ((a1 == b1) && ((a2 == b2) && (((a3 == b3) && ((a4 == b4) && true)) && true)))))),.none⟩:=eqE_agg aEq76
attribute [go_sem] eq76
abbrev AxT:=Int × Int × Nb
def axF (o:Int) (G:Nat → Nb) (s:AxT):Nat → AxT
 | 0 => s
 | i + 1 => if (axF o G s i).2.1 < 0 ∨ 0 < cmpS (whV (G i).1) (whV (axF o G s i).2.2.1) then (o,(i:Int),G i) else axF o G s i
def ax0:AxT:=(0,-1,(0,false))
def axOK (s:AxT):Prop:=s = ax0 ∨ 0 ≤ s.2.1
def axC (q:Bool) (s:AxT):List AV:=[bo q,i64 s.1,i64 s.2.1,i64 s.2.2.1,bo s.2.2.2]
theorem axF_ok {o:Int} {G:Nat → Nb} {s:AxT} (h:axOK s):∀ n,axOK (axF o G s n)
 | 0 => h
 | n + 1 => by
  have ih:=axF_ok (o:=o) (G:=G) h n
  unfold axF
  split
  ·exact .inr (Int.natCast_nonneg n)
  ·exact ih
theorem axOK_eq {s:AxT} (h:axOK s):((false == false) && ((s.1 == 0) && ((s.2.1 == -1) && (((s.2.2.1 == 0) && ((s.2.2.2 == false) && true)) && true)))) = decide (s.2.1 < 0):=by
 rcases h with h | h
 ·rw [h]; rfl
 ·rw [decide_eq_false (by omega)]
  have:(s.2.1 == -1) = false:=by rw [beq_eq_false_iff_ne]; omega
  rw [this]; simp
def axSt (n:Nat) (G:Nat → Nb) (m:Nat) (G':Nat → Nb):Nat → AxT
 | 0 => ax0
 | 1 => axF 0 G ax0 n
 | _ => axF 1 G' (axF 0 G ax0 n) m
def gP (n:Nat) (X Y:Nat → Int) (m:Nat) (Z T:Nat → Int) (j:Nat):Nb:=mnN (fun l => hgt (X j) (Y j) (X (nxt n j)) (Y (nxt n j)) (Z l) (T l)) (m - 1)
def gD (n:Nat) (X Y:Nat → Int) (x y r:Int) (j:Nat):Nb:=nSub (hgt (X j) (Y j) (X (nxt n j)) (Y (nxt n j)) x y) (nRat r 256)
theorem gP_rg {n:Nat} {X Y:Nat → Int} {m:Nat} {Z T:Nat → Int} {j:Nat}:rg (gP n X Y m Z T j).1:=mnN_rg (fun _ => hgt_rg) _
theorem gD_rg {n:Nat} {X Y:Nat → Int} {x y r:Int} {j:Nat}:rg (gD n X Y x y r j).1:=nSub_rg
theorem axOK_not {s:AxT} (h:axOK s) (k:(false == false && (s.1 == 0 && (s.2.1 == -1 && (s.2.2.1 == 0 && s.2.2.2 == false)))) = false):¬ s.2.1 < 0:=by
 rcases h with h | h
 ·rw [h] at k; exact absurd k (by decide)
 ·omega
theorem axF_hit {o:Int} {G:Nat → Nb} {s:AxT} {j:Nat} (h:(axF o G s j).2.1 < 0 ∨ 0 < cmpS (whV (G j).1) (whV (axF o G s j).2.2.1)):axF o G s (j + 1) = (o,(j:Int),G j):=by
 conv => lhs; unfold axF
 rw [if_pos h]
theorem axF_not {o:Int} {G:Nat → Nb} {s:AxT} {j:Nat} (h:¬ ((axF o G s j).2.1 < 0 ∨ 0 < cmpS (whV (G j).1) (whV (axF o G s j).2.2.1))):axF o G s (j + 1) = axF o G s j:=by
 conv => lhs; unfold axF
 rw [if_neg h]
theorem vc94pp (n:Nat) (X Y:Nat → Int) (hX:∀ i,i < n → inR (X i) ∧ inR (Y i)) (hn:n ≤ 1000) (n0:0 < n) (vX:∀ i,i < n → validS (X i) (Y i) = true) (m:Nat) (Z T:Nat → Int) (hZ:∀ i,i < m → inR (Z i) ∧ inR (T i)) (hm:m ≤ 1000) (m0:0 < m) (vZ:∀ i,i < m → validS (Z i) (T i) = true) :
  fnVC Tryz.prog [(47,k63),(87,c87),(58,c58),(85,c85),(1000000 + 161,c161),(104,c104),(121,k159),(112,k160),(114,k161),(113,k162)] [(22,⟨[(15,.slot 6)],[]⟩)] Tryz.f62 [.iface 112 (.agg [.ro n 2 fun i => [i64 (X i),i64 (Y i)]]),.iface 112 (.agg [.ro m 2 fun i => [i64 (Z i),i64 (T i)]])] (· = .agg (axC (clrS n X Y m Z T || clrS m Z T n X Y) (axSt n (gP n X Y m Z T) m (gP m Z T n X Y) 2))):=by
 refine fnVC_go (rs:=[.cell 4 76]) rfl rfl ?_
 simp only [go_sem,c85]
 have hg:spots n fun i => [i64 (X i),i64 (Y i)]:=fun i hi => ⟨rfl,hX i hi⟩
 have hg':spots m fun i => [i64 (Z i),i64 (T i)]:=fun i hi => ⟨rfl,hZ i hi⟩
 generalize hS:axSt n (gP n X Y m Z T) m (gP m Z T n X Y) = S
 have s0:S 0 = (0,-1,(0,false)):=by rw [← hS]; rfl
 have s1:S 1 = axF 0 (gP n X Y m Z T) (S 0) n:=by rw [← hS]; rfl
 have s2:S 2 = axF 1 (gP m Z T n X Y) (S 1) m:=by rw [← hS]; rfl
 have k0:axOK (S 0):=.inl s0
 have k1:axOK (S 1):=by rw [s1]; exact axF_ok k0 _
 refine loopC_go (fun (i:Nat) => i ≤ 2) (fun i => 2 - i) (fun i => [(26,i64 i)]) (fun i => [(5,fam1 76 5 (axC false (S i)) none)]) [9,2,0] [27,28,29,30,7,8,32,33,31,34,35,9,10,36,37,38,39,40,41,42,43,11,12,44,45,46,47,13,14,48,49,50,51,15,52,53,54,55,56,57,58,59,60,61,62,63,64,65,66,67,68,26] 0 (by kernel_rfl) ?_ (Nat.zero_le _) ?_ ?_
 ·intro x _; simp [goodNames,asg]
 ·simp only [go_sem,s0,axC]
 intro i hi
 match i with
 | 0 =>
  simp only [go_sem,axC,c85]
  simp only [false_imp_iff,true_imp_iff,reduceCtorEq,true_and,and_true,Bool.false_eq_true]
  refine rangeC_go (fun (j:Nat) => j ≤ n) (fun j => j) (fun j => [(5,fam1 76 5 (axC false (axF 0 (gP n X Y m Z T) (S 0) j)) none),(37,fam1 3 1 [i64 j] none)]) [35,24,16,9,2,0] [46,47,13,14,48,49,50,51,15,52,53,54,55,56,57,58,59,60,61,62,63,64,65,66,67] 0 0 (N:=n) (sq:=edgeE n fun i => [i64 (X i),i64 (Y i)]) (ob:=[spots n fun i => [i64 (X i),i64 (Y i)],n ≤ 9223372036854775806]) rfl (owe2 hg (by omega)) (by kernel_rfl) rfl (fun i _ => ⟨rfl,rfl⟩) (Nat.zero_le _) rfl ⟨[],?_,?_,?_⟩ ?_ ?_
  ·simp only [go_sem,axF,axC]
  ·simp only [go_sem]
  ·simp [goodNames,asg]
  ·intro j hj hlt
   simp only [go_sem,edgeE,k159,k159d,k159p,c87,axC]
   refine ⟨hg',hm,vX j hlt,vX _ (nxt_lt hlt),m0,fun z hz => ⟨fun h z1 hz1 => ⟨j + 1,by have:j < n:=hlt; omega,rfl,[],?_⟩,fun h z1 hz1 => ⟨j + 1,by have:j < n:=hlt; omega,rfl,[],?_⟩⟩⟩
   ·have es:axF 0 (gP n X Y m Z T) (S 0) (j + 1) = (0,(j:Int),mnN (fun l => hgt (X j) (Y j) (X (nxt n j)) (Y (nxt n j)) (Z l) (T l)) (m - 1)):=axF_hit (h.imp (fun q => by have:=q.2.2.1; simp at this; omega) (fun q => by rw [hz] at q; exact q))
    rw [wrap_in (by have:j < n:=hlt; unfold inR; omega)] at hz1
    simp only [go_sem,es,hz1]
    simp [goodNames,asg]
   ·have es:axF 0 (gP n X Y m Z T) (S 0) (j + 1) = axF 0 (gP n X Y m Z T) (S 0) j:=axF_not (by
     rintro (q | q)
     ·exact axOK_not (axF_ok k0 _) h.1 q
     ·exact h.2 (by rw [hz]; exact q))
    rw [wrap_in (by have:j < n:=hlt; unfold inR; omega)] at hz1
    simp only [go_sem,es,hz1]
    simp [goodNames,asg]
  ·intro j hj he
   simp only [go_sem,axC]
   refine fun z hz => ⟨1,by omega,by omega,by rw [hz]; decide,?_⟩
   rw [s1,he]
   exact ⟨rfl,rfl,rfl,rfl⟩
 | 1 =>
  simp only [go_sem,axC,c85]
  simp only [false_imp_iff,true_imp_iff,reduceCtorEq,true_and,and_true,Bool.false_eq_true]
  refine rangeC_go (fun (j:Nat) => j ≤ m) (fun j => j) (fun j => [(5,fam1 76 5 (axC false (axF 1 (gP m Z T n X Y) (S 1) j)) none),(37,fam1 3 1 [i64 j] none)]) [35,24,16,9,2,0] [46,47,13,14,48,49,50,51,15,52,53,54,55,56,57,58,59,60,61,62,63,64,65,66,67] 0 0 (N:=m) (sq:=edgeE m fun i => [i64 (Z i),i64 (T i)]) (ob:=[spots m fun i => [i64 (Z i),i64 (T i)],m ≤ 9223372036854775806]) rfl (owe2 hg' (by omega)) (by kernel_rfl) rfl (fun i _ => ⟨rfl,rfl⟩) (Nat.zero_le _) rfl ⟨[],?_,?_,?_⟩ ?_ ?_
  ·simp only [go_sem,axF,axC]
  ·simp only [go_sem]
  ·simp [goodNames,asg]
  ·intro j hj hlt
   simp only [go_sem,edgeE,k159,k159d,k159p,c87,axC]
   refine ⟨hg,hn,vZ j hlt,vZ _ (nxt_lt hlt),n0,fun z hz => ⟨fun h z1 hz1 => ⟨j + 1,by have:j < m:=hlt; omega,rfl,[],?_⟩,fun h z1 hz1 => ⟨j + 1,by have:j < m:=hlt; omega,rfl,[],?_⟩⟩⟩
   ·have es:axF 1 (gP m Z T n X Y) (S 1) (j + 1) = (1,(j:Int),mnN (fun l => hgt (Z j) (T j) (Z (nxt m j)) (T (nxt m j)) (X l) (Y l)) (n - 1)):=axF_hit (h.imp (fun q => by have:=q.2.2.1; simp at this; omega) (fun q => by rw [hz] at q; exact q))
    rw [wrap_in (by have:j < m:=hlt; unfold inR; omega)] at hz1
    simp only [go_sem,es,hz1]
    simp [goodNames,asg]
   ·have es:axF 1 (gP m Z T n X Y) (S 1) (j + 1) = axF 1 (gP m Z T n X Y) (S 1) j:=axF_not (by
     rintro (q | q)
     ·exact axOK_not (axF_ok k1 _) h.1 q
     ·exact h.2 (by rw [hz]; exact q))
    rw [wrap_in (by have:j < m:=hlt; unfold inR; omega)] at hz1
    simp only [go_sem,es,hz1]
    simp [goodNames,asg]
  ·intro j hj he
   simp only [go_sem,axC]
   refine fun z hz => ⟨2,by omega,by omega,by rw [hz]; decide,?_⟩
   rw [s2,he]
   exact ⟨rfl,rfl,rfl,rfl⟩
 | 2 =>
  simp only [go_sem,axC,c58,c90f]
  simp only [false_imp_iff,true_imp_iff,reduceCtorEq,true_and,and_true,Bool.false_eq_true]
  exact fun z hz => ⟨hg,by omega,vX,hg',by omega,vZ,by rw [hz]; rfl⟩
 | q + 3 => omega
theorem vc94pd (n:Nat) (X Y:Nat → Int) (hX:∀ i,i < n → inR (X i) ∧ inR (Y i)) (hn:n ≤ 1000) (n0:0 < n) (vX:∀ i,i < n → validS (X i) (Y i) = true) (x' y' r':Int) (v2:validS x' y' = true) (h6:inR r') :
  fnVC Tryz.prog [(47,k63),(87,c87),(58,c58),(85,c85),(1000000 + 161,c161),(104,c104),(121,k159),(112,k160),(114,k161),(113,k162)] [(22,⟨[(15,.slot 6)],[]⟩)] Tryz.f62 [.iface 112 (.agg [.ro n 2 fun i => [i64 (X i),i64 (Y i)]]),.iface 107 (.agg [i64 x',i64 y',i64 r'])] (· = .agg (axC (outS n X Y x' y' r') (axSt n (gD n X Y x' y' r') 0 (gD n X Y x' y' r') 2))):=by
 refine fnVC_go (rs:=[.cell 4 76]) rfl rfl ?_
 simp only [go_sem,c85]
 have hg:spots n fun i => [i64 (X i),i64 (Y i)]:=fun i hi => ⟨rfl,hX i hi⟩
 generalize hS:axSt n (gD n X Y x' y' r') 0 (gD n X Y x' y' r') = S
 have s0:S 0 = (0,-1,(0,false)):=by rw [← hS]; rfl
 have s1:S 1 = axF 0 (gD n X Y x' y' r') (S 0) n:=by rw [← hS]; rfl
 have s2:S 2 = S 1:=by rw [← hS]; rfl
 have k0:axOK (S 0):=.inl s0
 have k1:axOK (S 1):=by rw [s1]; exact axF_ok k0 _
 refine loopC_go (fun (i:Nat) => i ≤ 2) (fun i => 2 - i) (fun i => [(26,i64 i)]) (fun i => [(5,fam1 76 5 (axC false (S i)) none)]) [9,2,0] [27,28,29,30,7,8,32,33,31,34,35,9,10,36,37,38,39,40,41,42,43,11,12,44,45,46,47,13,14,48,49,50,51,15,52,53,54,55,56,57,58,59,60,61,62,63,64,65,66,67,68,26] 0 (by kernel_rfl) ?_ (Nat.zero_le _) ?_ ?_
 ·intro x _; simp [goodNames,asg]
 ·simp only [go_sem,s0,axC]
 intro i hi
 match i with
 | 0 =>
  simp only [go_sem,axC,c85]
  simp only [false_imp_iff,true_imp_iff,reduceCtorEq,true_and,and_true,Bool.false_eq_true]
  refine rangeC_go (fun (j:Nat) => j ≤ n) (fun j => j) (fun j => [(5,fam1 76 5 (axC false (axF 0 (gD n X Y x' y' r') (S 0) j)) none),(37,fam1 3 1 [i64 j] none)]) [35,24,16,9,2,0] [46,47,13,14,48,49,50,51,15,52,53,54,55,56,57,58,59,60,61,62,63,64,65,66,67] 0 0 (N:=n) (sq:=edgeE n fun i => [i64 (X i),i64 (Y i)]) (ob:=[spots n fun i => [i64 (X i),i64 (Y i)],n ≤ 9223372036854775806]) rfl (owe2 hg (by omega)) (by kernel_rfl) rfl (fun i _ => ⟨rfl,rfl⟩) (Nat.zero_le _) rfl ⟨[],?_,?_,?_⟩ ?_ ?_
  ·simp only [go_sem,axF,axC]
  ·simp only [go_sem]
  ·simp [goodNames,asg]
  ·intro j hj hlt
   simp only [go_sem,edgeE,k159,k159d,k159p,c87,axC]
   refine ⟨h6,vX j hlt,vX _ (nxt_lt hlt),fun z hz => ⟨fun h z1 hz1 => ⟨j + 1,by have:j < n:=hlt; omega,rfl,[],?_⟩,fun h z1 hz1 => ⟨j + 1,by have:j < n:=hlt; omega,rfl,[],?_⟩⟩⟩
   ·have es:axF 0 (gD n X Y x' y' r') (S 0) (j + 1) = (0,(j:Int),nSub (hgt (X j) (Y j) (X (nxt n j)) (Y (nxt n j)) x' y') (nRat r' 256)):=axF_hit (h.imp (fun q => by have:=q.2.2.1; simp at this; omega) (fun q => by rw [hz] at q; exact q))
    rw [wrap_in (by have:j < n:=hlt; unfold inR; omega)] at hz1
    simp only [go_sem,es,hz1]
    simp [goodNames,asg]
   ·have es:axF 0 (gD n X Y x' y' r') (S 0) (j + 1) = axF 0 (gD n X Y x' y' r') (S 0) j:=axF_not (by
     rintro (q | q)
     ·exact axOK_not (axF_ok k0 _) h.1 q
     ·exact h.2 (by rw [hz]; exact q))
    rw [wrap_in (by have:j < n:=hlt; unfold inR; omega)] at hz1
    simp only [go_sem,es,hz1]
    simp [goodNames,asg]
  ·intro j hj he
   simp only [go_sem,axC]
   refine fun z hz => ⟨1,by omega,by omega,by rw [hz]; decide,?_⟩
   rw [s1,he]
   exact ⟨rfl,rfl,rfl,rfl⟩
 | 1 =>
  simp only [go_sem,axC,c85]
  simp only [false_imp_iff,true_imp_iff,reduceCtorEq,true_and,and_true,Bool.false_eq_true]
  refine fun z hz => ⟨2,by omega,by omega,by rw [hz]; decide,?_⟩
  rw [s2]
  exact ⟨rfl,rfl,rfl,rfl⟩
 | 2 =>
  simp only [go_sem,axC,c58,c90a]
  simp only [false_imp_iff,true_imp_iff,reduceCtorEq,true_and,and_true,Bool.false_eq_true]
  exact fun z hz => ⟨hg,by omega,vX,v2,by rw [hz]; rfl⟩
 | q + 3 => omega
theorem vc94dp (x y r:Int) (v1:validS x y = true) (h3:inR r) (m:Nat) (Z T:Nat → Int) (hZ:∀ i,i < m → inR (Z i) ∧ inR (T i)) (hm:m ≤ 1000) (m0:0 < m) (vZ:∀ i,i < m → validS (Z i) (T i) = true) :
  fnVC Tryz.prog [(47,k63),(87,c87),(58,c58),(85,c85),(1000000 + 161,c161),(104,c104),(121,k159),(112,k160),(114,k161),(113,k162)] [(22,⟨[(15,.slot 6)],[]⟩)] Tryz.f62 [.iface 107 (.agg [i64 x,i64 y,i64 r]),.iface 112 (.agg [.ro m 2 fun i => [i64 (Z i),i64 (T i)]])] (· = .agg (axC (outS m Z T x y r) (axSt 0 (gD m Z T x y r) m (gD m Z T x y r) 2))):=by
 refine fnVC_go (rs:=[.cell 4 76]) rfl rfl ?_
 simp only [go_sem,c85]
 have hg':spots m fun i => [i64 (Z i),i64 (T i)]:=fun i hi => ⟨rfl,hZ i hi⟩
 generalize hS:axSt 0 (gD m Z T x y r) m (gD m Z T x y r) = S
 have s0:S 0 = (0,-1,(0,false)):=by rw [← hS]; rfl
 have s1:S 1 = S 0:=by rw [← hS]; rfl
 have s2:S 2 = axF 1 (gD m Z T x y r) (S 1) m:=by rw [← hS]; rfl
 have k0:axOK (S 0):=.inl s0
 have k1:axOK (S 1):=by rw [s1]; exact k0
 refine loopC_go (fun (i:Nat) => i ≤ 2) (fun i => 2 - i) (fun i => [(26,i64 i)]) (fun i => [(5,fam1 76 5 (axC false (S i)) none)]) [9,2,0] [27,28,29,30,7,8,32,33,31,34,35,9,10,36,37,38,39,40,41,42,43,11,12,44,45,46,47,13,14,48,49,50,51,15,52,53,54,55,56,57,58,59,60,61,62,63,64,65,66,67,68,26] 0 (by kernel_rfl) ?_ (Nat.zero_le _) ?_ ?_
 ·intro x _; simp [goodNames,asg]
 ·simp only [go_sem,s0,axC]
 intro i hi
 match i with
 | 0 =>
  simp only [go_sem,axC,c85]
  simp only [false_imp_iff,true_imp_iff,reduceCtorEq,true_and,and_true,Bool.false_eq_true]
  refine fun z hz => ⟨1,by omega,by omega,by rw [hz]; decide,?_⟩
  rw [s1]
  exact ⟨rfl,rfl,rfl,rfl⟩
 | 1 =>
  simp only [go_sem,axC,c85]
  simp only [false_imp_iff,true_imp_iff,reduceCtorEq,true_and,and_true,Bool.false_eq_true]
  refine rangeC_go (fun (j:Nat) => j ≤ m) (fun j => j) (fun j => [(5,fam1 76 5 (axC false (axF 1 (gD m Z T x y r) (S 1) j)) none),(37,fam1 3 1 [i64 j] none)]) [35,24,16,9,2,0] [46,47,13,14,48,49,50,51,15,52,53,54,55,56,57,58,59,60,61,62,63,64,65,66,67] 0 0 (N:=m) (sq:=edgeE m fun i => [i64 (Z i),i64 (T i)]) (ob:=[spots m fun i => [i64 (Z i),i64 (T i)],m ≤ 9223372036854775806]) rfl (owe2 hg' (by omega)) (by kernel_rfl) rfl (fun i _ => ⟨rfl,rfl⟩) (Nat.zero_le _) rfl ⟨[],?_,?_,?_⟩ ?_ ?_
  ·simp only [go_sem,axF,axC]
  ·simp only [go_sem]
  ·simp [goodNames,asg]
  ·intro j hj hlt
   simp only [go_sem,edgeE,k159,k159d,k159p,c87,axC]
   refine ⟨h3,vZ j hlt,vZ _ (nxt_lt hlt),fun z hz => ⟨fun h z1 hz1 => ⟨j + 1,by have:j < m:=hlt; omega,rfl,[],?_⟩,fun h z1 hz1 => ⟨j + 1,by have:j < m:=hlt; omega,rfl,[],?_⟩⟩⟩
   ·have es:axF 1 (gD m Z T x y r) (S 1) (j + 1) = (1,(j:Int),nSub (hgt (Z j) (T j) (Z (nxt m j)) (T (nxt m j)) x y) (nRat r 256)):=axF_hit (h.imp (fun q => by have:=q.2.2.1; simp at this; omega) (fun q => by rw [hz] at q; exact q))
    rw [wrap_in (by have:j < m:=hlt; unfold inR; omega)] at hz1
    simp only [go_sem,es,hz1]
    simp [goodNames,asg]
   ·have es:axF 1 (gD m Z T x y r) (S 1) (j + 1) = axF 1 (gD m Z T x y r) (S 1) j:=axF_not (by
     rintro (q | q)
     ·exact axOK_not (axF_ok k1 _) h.1 q
     ·exact h.2 (by rw [hz]; exact q))
    rw [wrap_in (by have:j < m:=hlt; unfold inR; omega)] at hz1
    simp only [go_sem,es,hz1]
    simp [goodNames,asg]
  ·intro j hj he
   simp only [go_sem,axC]
   refine fun z hz => ⟨2,by omega,by omega,by rw [hz]; decide,?_⟩
   rw [s2,he]
   exact ⟨rfl,rfl,rfl,rfl⟩
 | 2 =>
  simp only [go_sem,axC,c58,c90e]
  simp only [false_imp_iff,true_imp_iff,reduceCtorEq,true_and,and_true,Bool.false_eq_true]
  exact fun z hz => ⟨hg',by omega,vZ,v1,by rw [hz]; rfl⟩
 | q + 3 => omega
theorem vc94dd (x y r x' y' r':Int) :
  fnVC Tryz.prog [(47,k63),(87,c87),(58,c58),(85,c85),(1000000 + 161,c161),(104,c104),(121,k159),(112,k160),(114,k161),(113,k162)] [(22,⟨[(15,.slot 6)],[]⟩)] Tryz.f62 [.iface 107 (.agg [i64 x,i64 y,i64 r]),.iface 107 (.agg [i64 x',i64 y',i64 r'])] (· = .agg (axC (ddS x y r x' y' r') (0,-1,nSub (vLen (vLoc (mnW x x') (mnW y y'))) (nRat (IntKind.i64.wrap (r + r')) 256)))):=by
 refine fnVC_go (rs:=[.cell 4 76]) rfl rfl ?_
 simp only [go_sem,c85]
 refine loopC_go (fun (i:Nat) => i ≤ 2) (fun i => 2 - i) (fun i => [(26,i64 i)]) (fun i => [(5,fam1 76 5 (axC false ax0) none)]) [9,2,0] [27,28,29,30,7,8,32,33,31,34,35,9,10,36,37,38,39,40,41,42,43,11,12,44,45,46,47,13,14,48,49,50,51,15,52,53,54,55,56,57,58,59,60,61,62,63,64,65,66,67,68,26] 0 (by kernel_rfl) ?_ (Nat.zero_le _) ?_ ?_
 ·intro x _; simp [goodNames,asg]
 ·simp only [go_sem,ax0,axC]
 intro i hi
 match i with
 | 0 =>
  simp only [go_sem,axC,c85]
  simp only [false_imp_iff,true_imp_iff,reduceCtorEq,true_and,and_true,Bool.false_eq_true]
  exact fun z hz => ⟨1,by omega,by omega,by rw [hz]; decide⟩
 | 1 =>
  simp only [go_sem,axC,c85]
  simp only [false_imp_iff,true_imp_iff,reduceCtorEq,true_and,and_true,Bool.false_eq_true]
  exact fun z hz => ⟨2,by omega,by omega,by rw [hz]; decide⟩
 | 2 =>
  simp only [go_sem,axC,c58,c90d,c104,k63,k161,k162,k160,ax0]
  simp only [false_imp_iff,true_imp_iff,reduceCtorEq,true_and,and_true,Bool.false_eq_true]
  exact fun z hz z1 hz1 => ⟨by rw [hz]; exact wrap_inR _,by rw [hz1]; exact wrap_inR _,fun z2 hz2 => ⟨by rw [hz2]; exact wrap_inR _,fun z3 hz3 => by rw [hz,hz1,hz2,hz3]; rfl⟩⟩
 | q + 3 => omega
end Go.Ax
end
section
/-
  The axis between forms: the contracts.
-/
set_option maxHeartbeats 4000000
set_option maxRecDepth 100000
namespace Go.Ax
open Go.Proofs
def axA (q:Bool) (s:AxT):AV:=.agg (axC q s)
theorem bnd_ax {q:Bool} {s:AxT}:bnd (axA q s) = .agg [bo q,i64 s.1,i64 s.2.1,i64 s.2.2.1,bo s.2.2.2]:=(rfl)
theorem plain_ax {q:Bool} {s:AxT}:plain 3 (axA q s) = true:=(rfl)
attribute [go_sem] bnd_ax plain_ax
def k94p:Con
 | [.iface 112 (.agg [.ro n 2 g]),.iface 112 (.agg [.ro m 2 g'])] => some ([spots n g,n ≤ 1000,0 < n,∀ i,i < n → validS (gx g 0 i) (gx g 1 i) = true,spots m g',m ≤ 1000,0 < m,∀ i,i < m → validS (gx g' 0 i) (gx g' 1 i) = true],axA (clrS n (gx g 0) (gx g 1) m (gx g' 0) (gx g' 1) || clrS m (gx g' 0) (gx g' 1) n (gx g 0) (gx g 1)) (axSt n (gP n (gx g 0) (gx g 1) m (gx g' 0) (gx g' 1)) m (gP m (gx g' 0) (gx g' 1) n (gx g 0) (gx g 1)) 2))
 | _ => none
theorem ctx94:CtxOK Tryz.prog [(47,k63),(87,c87),(58,c58),(85,c85),(1000000 + 161,c161),(104,c104),(121,k159),(112,k160),(114,k161),(113,k162)]:=.cons kon63 (.cons con87 (.cons con58 (.cons con85 (.seq seq161 (.cons con104 (.cons kon159 (.cons kon160 (.cons kon161 (.cons kon162 .nil)))))))))
theorem kon94p:ConOK Tryz.prog 62 k94p:=ConOK.go (H:=[(22,⟨[(15,.slot 6)],[]⟩)]) ctx94 Tryz.func62 fun l ob rr hc hob => by
 unfold k94p at hc
 split at hc
 ·rename_i n g m g'
  cases hc
  have hs:spots n g:=hob _ (by simp)
  have hs':spots m g':=hob _ (by simp)
  exact ⟨[.iface 112 (.agg [.ro n 2 fun i => [i64 (gx g 0 i),i64 (gx g 1 i)]]),.iface 112 (.agg [.ro m 2 fun i => [i64 (gx g' 0 i),i64 (gx g' 1 i)]])],fun w I vs h => Rs_two (Rs_if (Rs_poly hs)) (Rs_if (Rs_poly hs')) h,by kernel_rfl,vc94pp n _ _ (fun i hi => (hs i hi).2) (hob _ (by simp)) (hob _ (by simp)) (hob _ (by simp)) m _ _ (fun i hi => (hs' i hi).2) (hob _ (by simp)) (hob _ (by simp)) (hob _ (by simp))⟩
 ·cases hc
def k94q:Con
 | [.iface 112 (.agg [.ro n 2 g]),.iface 107 (.agg [.v (.int .i64 x),.v (.int .i64 y),.v (.int .i64 r)])] => some ([spots n g,n ≤ 1000,0 < n,∀ i,i < n → validS (gx g 0 i) (gx g 1 i) = true,validS x y = true,inR r],axA (outS n (gx g 0) (gx g 1) x y r) (axSt n (gD n (gx g 0) (gx g 1) x y r) 0 (gD n (gx g 0) (gx g 1) x y r) 2))
 | _ => none
theorem kon94q:ConOK Tryz.prog 62 k94q:=ConOK.go (H:=[(22,⟨[(15,.slot 6)],[]⟩)]) ctx94 Tryz.func62 fun l ob rr hc hob => by
 unfold k94q at hc
 split at hc
 ·rename_i n g x y r
  cases hc
  have hs:spots n g:=hob _ (by simp)
  exact ⟨[.iface 112 (.agg [.ro n 2 fun i => [i64 (gx g 0 i),i64 (gx g 1 i)]]),.iface 107 (.agg [i64 x,i64 y,i64 r])],fun w I vs h => Rs_two (Rs_if (Rs_poly hs)) (fun v h => h) h,by kernel_rfl,vc94pd n _ _ (fun i hi => (hs i hi).2) (hob _ (by simp)) (hob _ (by simp)) (hob _ (by simp)) x y r (hob _ (by simp)) (hob _ (by simp))⟩
 ·cases hc
def k94r:Con
 | [.iface 107 (.agg [.v (.int .i64 x),.v (.int .i64 y),.v (.int .i64 r)]),.iface 112 (.agg [.ro n 2 g])] => some ([spots n g,n ≤ 1000,0 < n,∀ i,i < n → validS (gx g 0 i) (gx g 1 i) = true,validS x y = true,inR r],axA (outS n (gx g 0) (gx g 1) x y r) (axSt 0 (gD n (gx g 0) (gx g 1) x y r) n (gD n (gx g 0) (gx g 1) x y r) 2))
 | _ => none
theorem kon94r:ConOK Tryz.prog 62 k94r:=ConOK.go (H:=[(22,⟨[(15,.slot 6)],[]⟩)]) ctx94 Tryz.func62 fun l ob rr hc hob => by
 unfold k94r at hc
 split at hc
 ·rename_i x y r n g
  cases hc
  have hs:spots n g:=hob _ (by simp)
  exact ⟨[.iface 107 (.agg [i64 x,i64 y,i64 r]),.iface 112 (.agg [.ro n 2 fun i => [i64 (gx g 0 i),i64 (gx g 1 i)]])],fun w I vs h => Rs_two (fun v h => h) (Rs_if (Rs_poly hs)) h,by kernel_rfl,vc94dp x y r (hob _ (by simp)) (hob _ (by simp)) n _ _ (fun i hi => (hs i hi).2) (hob _ (by simp)) (hob _ (by simp)) (hob _ (by simp))⟩
 ·cases hc
def k94d:Con
 | [.iface 107 (.agg [.v (.int .i64 x),.v (.int .i64 y),.v (.int .i64 r)]),.iface 107 (.agg [.v (.int .i64 a),.v (.int .i64 b),.v (.int .i64 s)])] => some ([],axA (ddS x y r a b s) (0,-1,nSub (vLen (vLoc (mnW x a) (mnW y b))) (nRat (IntKind.i64.wrap (r + s)) 256)))
 | _ => none
theorem kon94d:ConOK Tryz.prog 62 k94d:=ConOK.go (H:=[(22,⟨[(15,.slot 6)],[]⟩)]) ctx94 Tryz.func62 fun l ob rr hc hob => by
 unfold k94d at hc
 split at hc
 ·rename_i x y r a b s
  cases hc
  exact ⟨_,fun w I vs h => h,by kernel_rfl,vc94dd x y r a b s⟩
 ·cases hc
def k94 (l:List AV):Option (List Prop × AV):=match l with
 | [.iface 112 _,.iface 107 _] => k94q l
 | [.iface 107 _,.iface 112 _] => k94r l
 | [.iface 107 _,.iface 107 _] => k94d l
 | [.iface 112 _,.iface 112 _] => k94p l
 | [.iface 107 _,.v .nilIface] => some ([False],axA false ax0)
 | [.iface 112 _,.v .nilIface] => some ([False],axA false ax0)
 | [.v .nilIface,.iface 107 _] => some ([False],axA false ax0)
 | [.v .nilIface,.iface 112 _] => some ([False],axA false ax0)
 | [.v .nilIface,.v .nilIface] => some ([False],axA false ax0)
 | _ => none
theorem kon94:ConOK Tryz.prog 62 k94:=fun l ob rr hc hob => by
 unfold k94 at hc
 split at hc
 ·exact kon94q _ _ _ hc hob
 ·exact kon94r _ _ _ hc hob
 ·exact kon94d _ _ _ hc hob
 ·exact kon94p _ _ _ hc hob
 ·cases hc; exact (hob False (by simp)).elim
 ·cases hc; exact (hob False (by simp)).elim
 ·cases hc; exact (hob False (by simp)).elim
 ·cases hc; exact (hob False (by simp)).elim
 ·cases hc; exact (hob False (by simp)).elim
 ·cases hc
def axS (k x y r:Int) (n:Nat) (X Y:Nat → Int) (k' x' y' r':Int) (m:Nat) (Z T:Nat → Int):AxT:=
 if checkS k x y r n X Y = 0 ∧ checkS k' x' y' r' m Z T = 0 then
  (if k = 1 then (if k' = 1 then (0,-1,nSub (vLen (vLoc (mnW x x') (mnW y y'))) (nRat (IntKind.i64.wrap (r + r')) 256)) else axSt 0 (gD m Z T x y r) m (gD m Z T x y r) 2)
   else if k' = 1 then axSt n (gD n X Y x' y' r') 0 (gD n X Y x' y' r') 2 else axSt n (gP n X Y m Z T) m (gP m Z T n X Y) 2)
 else (0,0,(0,false))
theorem fig_n {k x y r:Int} {n:Nat} {X Y:Nat → Int} (h:checkS k x y r n X Y = 0) (hk:¬ k = 1):3 ≤ n ∧ n ≤ 8:=by
 have:=(check_1 h).2.2.2.2 hk
 exact ⟨(convexS_iff.1 this.2.2).1,this.2.1⟩
theorem vc34 (k x y r:Int) (n:Nat) (g:Nat → List AV) (k' x' y' r':Int) (m:Nat) (g':Nat → List AV) (hg:spots n g) (hg':spots m g') (hn:n ≤ 9223372036854775806) (hm:m ≤ 9223372036854775806) (h1:inR x) (h2:inR y) (h3:inR r) (h4:inR x') (h5:inR y') (h6:inR r') :
  fnVC Tryz.prog [(57,c57),(62,k94)] [] Tryz.f34 [formA k x y r n g,formA k' x' y' r' m g'] (· = axA (apS k x y r n (gx g 0) (gx g 1) k' x' y' r' m (gx g' 0) (gx g' 1)) (axS k x y r n (gx g 0) (gx g 1) k' x' y' r' m (gx g' 0) (gx g' 1))):=by
 refine fnVC_go (rs:=[.cell 4 76]) rfl rfl ?_
 simp only [go_sem,c57,bothS,k94,k94p,k94q,k94r,k94d]
 refine ⟨fun hA => ⟨fun hk => ⟨fun hB => ⟨fun hk' => ?_,fun hk' => ?_⟩,fun hB => ?_⟩,fun hk => ⟨fun hB => ⟨fun hk' => ?_,fun hk' => ?_⟩,fun hB => ?_⟩⟩,fun hA => ⟨fun hB => ⟨fun hk' => ?_,fun hk' => ?_⟩,fun hB => ?_⟩⟩
 ·exact fun z hz => ⟨hg,hg',hn,hm,h1,h2,h3,h4,h5,h6,fun h => (by rw [hz] at h; cases h),fun h => by have hAB:=And.intro hA hB; simp only [apS,axS,if_pos hAB,if_pos hk,if_pos hk']; rfl⟩
 ·have fB:=fig_n hB
  exact fun z hz => ⟨hg,hg',hn,hm,h1,h2,h3,h4,h5,h6,fun h => (by rw [hz] at h; cases h),fun h => ⟨hg',(by have:=fB hk'; omega),(by have:=fB hk'; omega),(check_1 hB).2.2.1,(check_1 hA).2.1,h3,by have hAB:=And.intro hA hB; simp only [apS,axS,if_pos hAB,if_pos hk,if_neg hk']; rfl⟩⟩
 ·exact fun z hz => ⟨hg,hg',hn,hm,h1,h2,h3,h4,h5,h6,fun h => (by have hN:¬ (checkS k x y r n (gx g 0) (gx g 1) = 0 ∧ checkS k' x' y' r' m (gx g' 0) (gx g' 1) = 0):=fun q => hB q.2; simp only [apS,axS,if_neg hN]; rfl),fun h => (by rw [hz] at h; cases h)⟩
 ·have fA:=fig_n hA
  exact fun z hz => ⟨hg,hg',hn,hm,h1,h2,h3,h4,h5,h6,fun h => (by rw [hz] at h; cases h),fun h => ⟨hg,(by have:=fA hk; omega),(by have:=fA hk; omega),(check_1 hA).2.2.1,(check_1 hB).2.1,h6,by have hAB:=And.intro hA hB; simp only [apS,axS,if_pos hAB,if_neg hk,if_pos hk']; rfl⟩⟩
 ·have fA:=fig_n hA
  have fB:=fig_n hB
  exact fun z hz => ⟨hg,hg',hn,hm,h1,h2,h3,h4,h5,h6,fun h => (by rw [hz] at h; cases h),fun h => ⟨hg,(by have:=fA hk; omega),(by have:=fA hk; omega),(check_1 hA).2.2.1,hg',(by have:=fB hk'; omega),(by have:=fB hk'; omega),(check_1 hB).2.2.1,by have hAB:=And.intro hA hB; simp only [apS,axS,if_pos hAB,if_neg hk,if_neg hk']; rfl⟩⟩
 ·exact fun z hz => ⟨hg,hg',hn,hm,h1,h2,h3,h4,h5,h6,fun h => (by have hN:¬ (checkS k x y r n (gx g 0) (gx g 1) = 0 ∧ checkS k' x' y' r' m (gx g' 0) (gx g' 1) = 0):=fun q => hB q.2; simp only [apS,axS,if_neg hN]; rfl),fun h => (by rw [hz] at h; cases h)⟩
 ·exact fun z hz => ⟨hg,hg',hn,hm,h1,h2,h3,h4,h5,h6,fun h => (by have hN:¬ (checkS k x y r n (gx g 0) (gx g 1) = 0 ∧ checkS k' x' y' r' m (gx g' 0) (gx g' 1) = 0):=fun q => hA q.1; simp only [apS,axS,if_neg hN]; rfl),fun h => (by rw [hz] at h; cases h)⟩
 ·exact fun z hz => ⟨hg,hg',hn,hm,h1,h2,h3,h4,h5,h6,fun h => (by have hN:¬ (checkS k x y r n (gx g 0) (gx g 1) = 0 ∧ checkS k' x' y' r' m (gx g' 0) (gx g' 1) = 0):=fun q => hA q.1; simp only [apS,axS,if_neg hN]; rfl),fun h => (by rw [hz] at h; cases h)⟩
 ·exact fun z hz => ⟨hg,hg',hn,hm,h1,h2,h3,h4,h5,h6,fun h => (by have hN:¬ (checkS k x y r n (gx g 0) (gx g 1) = 0 ∧ checkS k' x' y' r' m (gx g' 0) (gx g' 1) = 0):=fun q => hA q.1; simp only [apS,axS,if_neg hN]; rfl),fun h => (by rw [hz] at h; cases h)⟩
def c34:Con
 | [.agg [.v (.int .i64 k),.v (.int .i64 x),.v (.int .i64 y),.v (.int .i64 r),.ro n 2 g],.agg [.v (.int .i64 k'),.v (.int .i64 x'),.v (.int .i64 y'),.v (.int .i64 r'),.ro m 2 g']] => some ([spots n g,spots m g',n ≤ 9223372036854775806,m ≤ 9223372036854775806,inR x,inR y,inR r,inR x',inR y',inR r'],
   axA (apS k x y r n (gx g 0) (gx g 1) k' x' y' r' m (gx g' 0) (gx g' 1)) (axS k x y r n (gx g 0) (gx g 1) k' x' y' r' m (gx g' 0) (gx g' 1)))
 | _ => none
theorem con34:ConOK Tryz.prog 34 c34:=ConOK.go (G:=[(57,c57),(62,k94)]) (H:=[]) (.cons con57 (.cons kon94 .nil)) Tryz.func34 fun l ob rr hc hob => by
 unfold c34 at hc
 split at hc
 ·rename_i k x y r n g k' x' y' r' m g'
  cases hc
  exact ⟨_,fun w I vs h => h,by kernel_rfl,vc34 k x y r n g k' x' y' r' m g' (hob _ (by simp)) (hob _ (by simp)) (hob _ (by simp)) (hob _ (by simp)) (hob _ (by simp)) (hob _ (by simp)) (hob _ (by simp)) (hob _ (by simp)) (hob _ (by simp)) (hob _ (by simp))⟩
 ·cases hc
end Go.Ax
end
section
/-
  The axis between forms: the reference's.
-/
set_option maxHeartbeats 4000000
set_option maxRecDepth 100000
namespace Go.Ax
open Go.Proofs
theorem vc69 (k x y r:Int) (n:Nat) (X Y:Nat → Int) (k' x' y' r':Int) (m:Nat) (Z T:Nat → Int) (hX:∀ i,i < n → inR (X i) ∧ inR (Y i)) (hZ:∀ i,i < m → inR (Z i) ∧ inR (T i)) (hn:n ≤ 9223372036854775806) (hm:m ≤ 9223372036854775806) (h1:inR x) (h2:inR y) (h3:inR r) (h4:inR x') (h5:inR y') (h6:inR r') :
  fnVC Tryz.prog [(64,c10),(65,c24),(26,k46),(27,k47),(35,k54),(137,k69),(144,c144),(133,c133),(149,k95),(148,c148)] [(5,⟨[(15,.slot 5)],[]⟩),(10,⟨[(4,.made 2),(5,.made 3)],[(1,[.made 2])]⟩),(12,⟨[(2,.slot 7),(3,.slot 8)],[(1,[.slot 7])]⟩),(19,⟨[(4,.slot 5),(6,.slot 5),(8,.slot 5)],[(2,[.slot 5])]⟩)] Tryz.f69 [formA k x y r n fun i => [i64 (X i),i64 (Y i)],formA k' x' y' r' m fun i => [i64 (Z i),i64 (T i)]] (· = axA (apS k x y r n X Y k' x' y' r' m Z T) (axS k x y r n X Y k' x' y' r' m Z T)):=by
 refine fnVC_go (rs:=[.cell 4 76]) rfl rfl ?_
 have hg:spots n fun i => [i64 (X i),i64 (Y i)]:=fun i hi => ⟨rfl,hX i hi⟩
 have hg':spots m fun i => [i64 (Z i),i64 (T i)]:=fun i hi => ⟨rfl,hZ i hi⟩
 have eX:gx (fun i => [i64 (X i),i64 (Y i)]) 0 = X:=rfl
 have eY:gx (fun i => [i64 (X i),i64 (Y i)]) 1 = Y:=rfl
 have eZ:gx (fun i => [i64 (Z i),i64 (T i)]) 0 = Z:=rfl
 have eT:gx (fun i => [i64 (Z i),i64 (T i)]) 1 = T:=rfl
 simp only [go_sem,c10,c24,c133,k69,k47,k54,k46,eX,eY,eZ,eT]
 intro c hc
 refine ⟨hg,hn,h1,h2,h3,fun c' hc' => ⟨fun _ => hg',fun _ => hm,fun _ => h4,fun _ => h5,fun _ => h6,fun h => ?_,fun h q hq => ⟨hg,hg',hn,hm,h1,h2,h3,h4,h5,h6,fun hk => ?_,fun hk => ?_⟩⟩⟩
 ·have hN:¬ (checkS k x y r n X Y = 0 ∧ checkS k' x' y' r' m Z T = 0):=fun q => by
   rw [hc,hc'] at h
   rcases h with h | h
   ·exact (bne_iff_ne.1 h) q.1
   ·exact (bne_iff_ne.1 h) q.2
  simp only [apS,axS,if_neg hN]; rfl
 ·have hA:checkS k x y r n X Y = 0:=by rw [← hc]; exact bne_eq_false_iff_eq.1 h.1
  have hB:checkS k' x' y' r' m Z T = 0:=by rw [← hc']; exact bne_eq_false_iff_eq.1 h.2
  have hAB:=And.intro hA hB
  have k1:k = 1:=by simpa using hk.1
  have k2:k' = 1:=by simpa using hk.2
  refine fun z hz z1 hz1 => ⟨by rw [hz]; exact wrap_inR _,by rw [hz1]; exact wrap_inR _,fun z2 hz2 => ⟨by rw [hz2]; exact wrap_inR _,?_⟩⟩
  rw [hq,hz,hz1,hz2]
  simp only [axS,if_pos hAB,if_pos k1,if_pos k2]; rfl
 have hA:checkS k x y r n X Y = 0:=by rw [← hc]; exact bne_eq_false_iff_eq.1 h.1
 have hB:checkS k' x' y' r' m Z T = 0:=by rw [← hc']; exact bne_eq_false_iff_eq.1 h.2
 have hAB:=And.intro hA hB
 have vX:=(check_1 hA).2.2.1
 have vZ:=(check_1 hB).2.2.1
 have nA:k = 1 → n = 0:=fun e => ((check_1 hA).2.2.2.1 e).2.2.2
 have nB:k' = 1 → m = 0:=fun e => ((check_1 hB).2.2.2.1 e).2.2.2
 have pA:¬ k = 1 → 0 < n:=fun e => by have:=fig_n hA e; omega
 have pB:¬ k' = 1 → 0 < m:=fun e => by have:=fig_n hB e; omega
 have hS:∃ S:Nat → AxT,S 0 = (0,-1,(0,false)) ∧ S 1 = axF 0 (fun j => gapS (X j) (Y j) (X (nxt n j)) (Y (nxt n j)) k' x' y' r' m Z T) (S 0) n ∧ S 2 = axF 1 (fun j => gapS (Z j) (T j) (Z (nxt m j)) (T (nxt m j)) k x y r n X Y) (S 1) m ∧ axS k x y r n X Y k' x' y' r' m Z T = S 2:=by
  refine ⟨axSt n (fun j => gapS (X j) (Y j) (X (nxt n j)) (Y (nxt n j)) k' x' y' r' m Z T) m (fun j => gapS (Z j) (T j) (Z (nxt m j)) (T (nxt m j)) k x y r n X Y),rfl,rfl,rfl,?_⟩
  unfold axS
  rw [if_pos hAB]
  by_cases e:k = 1
  ·by_cases e':k' = 1
   ·rw [e,e'] at hk; cases hk
   ·have hG:(fun j => gapS (Z j) (T j) (Z (nxt m j)) (T (nxt m j)) k x y r n X Y) = gD m Z T x y r:=funext fun j => if_pos e
    rw [if_pos e,if_neg e',hG,nA e]
    rfl
  ·by_cases e':k' = 1
   ·have hG:(fun j => gapS (X j) (Y j) (X (nxt n j)) (Y (nxt n j)) k' x' y' r' m Z T) = gD n X Y x' y' r':=funext fun j => if_pos e'
    rw [if_neg e,if_pos e',hG,nB e']
    rfl
   ·have hG:(fun j => gapS (X j) (Y j) (X (nxt n j)) (Y (nxt n j)) k' x' y' r' m Z T) = gP n X Y m Z T:=funext fun j => if_neg e'
    have hG':(fun j => gapS (Z j) (T j) (Z (nxt m j)) (T (nxt m j)) k x y r n X Y) = gP m Z T n X Y:=funext fun j => if_neg e
    rw [if_neg e,if_neg e',hG,hG']
 obtain ⟨S,s0,s1,s2,s3⟩:=hS
 rw [s3]
 have k0:axOK (S 0):=.inl s0
 have k1:axOK (S 1):=by rw [s1]; exact axF_ok k0 _
 refine loopC_go (fun (i:Nat) => i ≤ 2) (fun i => 2 - i) (fun i => [(6,i64 i)]) (fun i => [(15,fam1 76 5 (axC q (S i)) none)]) [2,1,0] [50,51,54,55,7,8,56,57,58,59,9,60,61,62,63,64,68,69,70,67,71,72,10,11,73,74,75,76,12,77,78,79,80,81,82,83,84,85,86,87,88,89,90,91,92,65,66,9,52,53,6] 0 (by kernel_rfl) ?_ (Nat.zero_le _) ?_ ?_
 ·intro x _; simp [goodNames,asg]
 ·simp only [go_sem,s0,axC]
 intro i hi
 match i with
 | 0 =>
  simp only [go_sem,axC]
  simp only [false_imp_iff,true_imp_iff,reduceCtorEq,true_and,and_true,Bool.false_eq_true]
  refine ⟨fun h => absurd h (by decide),fun _ => ?_⟩
  refine loopC_go (fun (j:Nat) => j ≤ n) (fun j => n - j) (fun j => [(9,i64 j)]) (fun j => [(15,fam1 76 5 (axC q (axF 0 (fun j => gapS (X j) (Y j) (X (nxt n j)) (Y (nxt n j)) k' x' y' r' m Z T) (S 0) j)) none)]) [31,30,2,1,0] [60,61,62,63,64,68,69,70,67,71,72,10,11,73,74,75,76,12,77,78,79,80,81,82,83,84,85,86,87,88,89,90,91,92,65,66,9] 0 (by kernel_rfl) ?_ (Nat.zero_le _) ?_ ?_
  ·intro x _; simp [goodNames,asg]
  ·simp only [go_sem,axF,axC]
  intro j hj
  simp only [go_sem,axC,c144,k95,c148]
  refine ⟨fun hin => ?_,fun hin z hz => ⟨1,by omega,by omega,by rw [hz]; decide,?_⟩⟩
  ·have hlt:j < n:=by omega
   refine ⟨hg,by omega,hin,hn,hg',hm,h6,vX j hlt,vX _ (nxt_lt hlt),pB,fun z hz => ⟨fun h z1 hz1 => ⟨j + 1,by omega,by omega,by rw [hz1,wrap_in (by unfold inR; omega)]; rfl,?_⟩,fun h z1 hz1 => ⟨j + 1,by omega,by omega,by rw [hz1,wrap_in (by unfold inR; omega)]; rfl,?_⟩⟩⟩
   ·rw [axF_hit (h.imp id (fun q => by rw [hz] at q; exact q))]
    exact ⟨rfl,rfl,rfl,rfl⟩
   ·rw [axF_not (by
     rintro (q | q)
     ·exact h.1 q
     ·exact h.2 (by rw [hz]; exact q))]
    exact ⟨rfl,rfl,rfl,rfl⟩
  ·rw [s1,show j = n by omega]
   exact ⟨rfl,rfl,rfl,rfl⟩
 | 1 =>
  simp only [go_sem,axC]
  simp only [false_imp_iff,true_imp_iff,reduceCtorEq,true_and,and_true,Bool.false_eq_true]
  refine ⟨fun _ => ?_,fun h => absurd h (by decide)⟩
  refine loopC_go (fun (j:Nat) => j ≤ m) (fun j => m - j) (fun j => [(9,i64 j)]) (fun j => [(15,fam1 76 5 (axC q (axF 1 (fun j => gapS (Z j) (T j) (Z (nxt m j)) (T (nxt m j)) k x y r n X Y) (S 1) j)) none)]) [31,30,2,1,0] [60,61,62,63,64,68,69,70,67,71,72,10,11,73,74,75,76,12,77,78,79,80,81,82,83,84,85,86,87,88,89,90,91,92,65,66,9] 0 (by kernel_rfl) ?_ (Nat.zero_le _) ?_ ?_
  ·intro x _; simp [goodNames,asg]
  ·simp only [go_sem,axF,axC]
  intro j hj
  simp only [go_sem,axC,c144,k95,c148]
  refine ⟨fun hin => ?_,fun hin z hz => ⟨2,by omega,by omega,by rw [hz]; decide,?_⟩⟩
  ·have hlt:j < m:=by omega
   refine ⟨hg',by omega,hin,hm,hg,hn,h3,vZ j hlt,vZ _ (nxt_lt hlt),pA,fun z hz => ⟨fun h z1 hz1 => ⟨j + 1,by omega,by omega,by rw [hz1,wrap_in (by unfold inR; omega)]; rfl,?_⟩,fun h z1 hz1 => ⟨j + 1,by omega,by omega,by rw [hz1,wrap_in (by unfold inR; omega)]; rfl,?_⟩⟩⟩
   ·rw [axF_hit (h.imp id (fun q => by rw [hz] at q; exact q))]
    exact ⟨rfl,rfl,rfl,rfl⟩
   ·rw [axF_not (by
     rintro (q | q)
     ·exact h.1 q
     ·exact h.2 (by rw [hz]; exact q))]
    exact ⟨rfl,rfl,rfl,rfl⟩
  ·rw [s2,show j = m by omega]
   exact ⟨rfl,rfl,rfl,rfl⟩
 | 2 =>
  simp only [go_sem,axC]
  simp only [false_imp_iff,true_imp_iff,reduceCtorEq,true_and,and_true,Bool.false_eq_true]
  rw [hq]; rfl
 | q + 3 => omega
theorem con69:ConOK Tryz.prog 69 c34:=ConOK.go (G:=[(64,c10),(65,c24),(26,k46),(27,k47),(35,k54),(137,k69),(144,c144),(133,c133),(149,k95),(148,c148)]) (H:=[(5,⟨[(15,.slot 5)],[]⟩),(10,⟨[(4,.made 2),(5,.made 3)],[(1,[.made 2])]⟩),(12,⟨[(2,.slot 7),(3,.slot 8)],[(1,[.slot 7])]⟩),(19,⟨[(4,.slot 5),(6,.slot 5),(8,.slot 5)],[(2,[.slot 5])]⟩)]) (.cons con64 (.cons con65 (.cons kon46 (.cons kon47 (.cons kon54 (.cons kon69 (.cons con144 (.cons con133 (.cons kon95 (.cons con148 .nil)))))))))) Tryz.func69 fun l ob rr hc hob => by
 unfold c34 at hc
 split at hc
 ·rename_i k x y r n g k' x' y' r' m g'
  cases hc
  have hs:spots n g:=hob _ (by simp)
  have hs':spots m g':=hob _ (by simp)
  exact ⟨[formA k x y r n fun i => [i64 (gx g 0 i),i64 (gx g 1 i)],formA k' x' y' r' m fun i => [i64 (gx g' 0 i),i64 (gx g' 1 i)]],fun w I vs h => Rs_two (Rs_form hs) (Rs_form hs') h,by kernel_rfl,vc69 k x y r n _ _ k' x' y' r' m _ _ (fun i hi => (hs i hi).2) (fun i hi => (hs' i hi).2) (hob _ (by simp)) (hob _ (by simp)) (hob _ (by simp)) (hob _ (by simp)) (hob _ (by simp)) (hob _ (by simp)) (hob _ (by simp)) (hob _ (by simp))⟩
 ·cases hc
end Go.Ax
end
section
/-
  Contracts of functions that write rows, made to measure: one element that is pointed at; two of them; a table; a table and an element; new rows.
-/
namespace Go.Ax
def cleanC:AV → Bool
 | .v _ => true
 | .any => true
 | .ro _ _ _ => true
 | .rop _ => true
 | _ => false
theorem cleanC_ren {θ:Nat → Nat → Nat × Nat} {g:Nat → Nat → Prop} {B:Nat → Prop} {a:AV} (h:cleanC a = true) (d:Nat):renA θ d a = a ∧ kg g B d a:=by
 cases a <;> simp [cleanC] at h <;> (cases d <;> exact ⟨rfl,trivial⟩)
theorem cleanL_ren {θ:Nat → Nat → Nat × Nat} {g:Nat → Nat → Prop} {B:Nat → Prop}:∀ {l:List AV},(∀ c ∈ l,cleanC c = true) → l.map (renA θ 3) = l ∧ ∀ c ∈ l,kg g B 3 c
 | [],_ => ⟨rfl,by simp⟩
 | a :: l,h => by
  obtain ⟨h1,h2⟩:=cleanC_ren (θ:=θ) (g:=g) (B:=B) (h a (by simp)) 3
  obtain ⟨h3,h4⟩:=cleanL_ren (θ:=θ) (g:=g) (B:=B) (l:=l) (fun c hc => h c (by simp [hc]))
  refine ⟨by rw [List.map_cons,h1,h3],fun c hc => ?_⟩
  rcases List.mem_cons.1 hc with e | hc
  ·rw [e]; exact h2
  ·exact h4 c hc
theorem map_id_of {f:AV → AV}:∀ {l:List AV},(∀ a ∈ l,f a = a) → l.map f = l
 | [],_ => rfl
 | a :: l,h => by rw [List.map_cons,h a (by simp),map_id_of fun b hb => h b (by simp [hb])]
theorem clean_ren {θ:Nat → Nat → Nat × Nat} {g:Nat → Nat → Prop} {B:Nat → Prop}:∀ (d:Nat) (a:AV),clean d a = true → renA θ d a = a ∧ kg g B d a
 | d,.v _,_ => by cases d <;> exact ⟨rfl,trivial⟩
 | d,.any,_ => by cases d <;> exact ⟨rfl,trivial⟩
 | d,.ro _ _ _,_ => by cases d <;> exact ⟨rfl,trivial⟩
 | d,.rop _,_ => by cases d <;> exact ⟨rfl,trivial⟩
 | d + 1,.agg cs,h => by
  simp only [clean,List.all_eq_true] at h
  refine ⟨?_,fun c hc => (clean_ren (θ:=θ) d c (h c hc)).2⟩
  simp only [renA]
  rw [map_id_of fun a ha => (clean_ren (g:=g) (B:=B) d a (h a ha)).1]
 | d + 1,.tup cs,h => by
  simp only [clean,List.all_eq_true] at h
  refine ⟨?_,fun c hc => (clean_ren (θ:=θ) d c (h c hc)).2⟩
  simp only [renA]
  rw [map_id_of fun a ha => (clean_ren (g:=g) (B:=B) d a (h a ha)).1]
 | d + 1,.fn f cs,h => by
  simp only [clean,List.all_eq_true] at h
  refine ⟨?_,fun c hc => (clean_ren (θ:=θ) d c (h c hc)).2⟩
  simp only [renA]
  rw [map_id_of fun a ha => (clean_ren (g:=g) (B:=B) d a (h a ha)).1]
 | d + 1,.iface t x,h => by
  simp only [clean] at h
  obtain ⟨h1,h2⟩:=clean_ren (θ:=θ) (g:=g) (B:=B) d x h
  exact ⟨by simp only [renA]; rw [h1],h2⟩
 | d + 1,.cond b x,h => by
  simp only [clean] at h
  obtain ⟨h1,h2⟩:=clean_ren (θ:=θ) (g:=g) (B:=B) d x h
  exact ⟨by simp only [renA]; rw [h1],h2⟩
 | 0,.agg _,h => by simp [clean] at h
 | 0,.tup _,h => by simp [clean] at h
 | 0,.fn _ _,h => by simp [clean] at h
 | 0,.iface _ _,h => by simp [clean] at h
 | 0,.cond _ _,h => by simp [clean] at h
 | 0,.bx _ _,h => by simp [clean] at h
 | 0,.ptr _ _ _ _ _,h => by simp [clean] at h
 | 0,.own _ _ _ _,h => by simp [clean] at h
 | 0,.vw _ _ _ _ _,h => by simp [clean] at h
 | d + 1,.bx _ _,h => by simp [clean] at h
 | d + 1,.ptr _ _ _ _ _,h => by simp [clean] at h
 | d + 1,.own _ _ _ _,h => by simp [clean] at h
 | d + 1,.vw _ _ _ _ _,h => by simp [clean] at h
theorem cleans_ren {θ:Nat → Nat → Nat × Nat} {g:Nat → Nat → Prop} {B:Nat → Prop} {l:List AV} (h:∀ a ∈ l,clean 3 a = true):l.map (renA θ 3) = l ∧ ∀ a ∈ l,kg g B 3 a:=
 ⟨map_id_of fun a ha => (clean_ren (g:=g) (B:=B) 3 a (h a ha)).1,fun a ha => (clean_ren (θ:=θ) 3 a (h a ha)).2⟩
section
variable {P:Program} {G:Ctx} {H:Hots} {t:Slots} {m:Mem} {nx:Nat} {Q:AV → Mem → Prop} {rs:List ResultVar} {l:List AV} {a:AV}
def tupOf:List AV → AV
 | [a] => a
 | l => .tup l
theorem tupOf_nil:tupOf [] = .tup []:=(rfl)
theorem tupOf_one:tupOf [a] = a:=(rfl)
theorem tupOf_two {b:AV}:tupOf (a :: b :: l) = .tup (a :: b :: l):=(rfl)
def retML (P:Program) (t:Slots) (m:Mem) (Q:AV → Mem → Prop):List ResultVar → List AV → Prop
 | [],l => Q (tupOf l) m
 | r :: rs,l => match resE P t m r with
  | some e => conj e.ob (retML P t m Q rs (l ++ [e.val]))
  | none => False
def retMS (P:Program) (t:Slots) (m:Mem) (Q:AV → Mem → Prop) (rs:List ResultVar) (l:List AV) (x:Option Eff):Prop:=match x with
 | some e => conj e.ob (retML P t m Q rs (l ++ [e.val]))
 | none => False
theorem retML_nil:retML P t m Q [] l = Q (tupOf l) m:=(rfl)
theorem retML_cons {r:ResultVar}:retML P t m Q (r :: rs) l = retMS P t m Q rs l (resE P t m r):=(rfl)
theorem retMS_some {ob:List Prop} {u:Upd}:retMS P t m Q rs l (some ⟨ob,a,u⟩) = conj ob (retML P t m Q rs (l ++ [a])):=(rfl)
def endMR (P:Program) (rs:List ResultVar) (Q:AV → Mem → Prop) (e:AEx) (s:St):Prop:=match e with
 | .exit _ => False
 | _ => retML P s.t s.m Q rs []
theorem endMR_ret:endMR P rs Q .ret ⟨t,m,nx⟩ = retML P t m Q rs []:=(rfl)
theorem endMR_normal:endMR P rs Q .normal ⟨t,m,nx⟩ = retML P t m Q rs []:=(rfl)
theorem retML_sound {s:St}:∀ {rs:List ResultVar} {l:List AV},retML P s.t s.m Q rs l → ∃ ob es,resList P s rs = some (ob,es) ∧ (∀ p ∈ ob,p) ∧ Q (tupOf (l ++ es)) s.m
 | [],l,h => ⟨[],[],rfl,by simp,by simpa [retML] using h⟩
 | r :: rs,l,h => by
  simp only [retML] at h
  split at h
  ·rename_i e he
   obtain ⟨ob,es,h1,h2,h3⟩:=retML_sound (rs:=rs) (conj_iff.1 h).2
   refine ⟨e.ob ++ ob,e.val :: es,?_,fun p hp => ?_,by simpa using h3⟩
   ·simp only [resList,resOf_E he,h1]
   ·rcases List.mem_append.1 hp with hp | hp
    ·exact (conj_iff.1 h).1 p hp
    ·exact h2 p hp
  ·exact h.elim
theorem endMR_sound {s:St} {fn:Func} (hr:fn.results.toList = rs) {e:AEx} (h:endMR P rs Q e s):endM P fn Q e s:=by
 have key:retML P s.t s.m Q rs [] → match resAll P s fn.results.toList with
   | some (ob,a) => conj ob (Q a s.m)
   | none => False:=fun h => by
  obtain ⟨ob,es,h1,h2,h3⟩:=retML_sound h
  rw [hr]
  simp only [resAll,h1]
  rw [List.nil_append] at h3
  cases es with
  | nil => exact conj_iff.2 ⟨h2,h3⟩
  | cons a es => cases es with
   | nil => exact conj_iff.2 ⟨h2,h3⟩
   | cons b es => exact conj_iff.2 ⟨h2,h3⟩
 cases e with
 | exit j => exact h.elim
 | normal => exact key h
 | ret => exact key h
def bodyM (P:Program) (G:Ctx) (H:Hots) (fn:Func) (es:List AV) (m:Mem) (nx:Nat) (Q:AV → Mem → Prop):Prop:=∃ cd,fn.body = some cd ∧ awp P G H cd ⟨argSlots 0 es,m,nx⟩ (endM P fn Q)
theorem bodyM_go {fn:Func} {c:Code} {es:List AV} (hb:fn.body = some c) (hr:fn.results.toList = rs) (h:goC P G H (endMR P rs Q) c [] ⟨argSlots 0 es,m,nx⟩):bodyM P G H fn es m nx Q:=
 ⟨c,hb,awp_mono (fun e s h => endMR_sound hr h) h⟩
theorem bodyM.mono {fn:Func} {es:List AV} {Q':AV → Mem → Prop} (h:bodyM P G H fn es m nx Q) (hq:∀ a m,Q a m → Q' a m):bodyM P G H fn es m nx Q':=by
 obtain ⟨cd,h1,h2⟩:=h
 refine ⟨cd,h1,awp_mono (fun e s h => ?_) h2⟩
 cases e with
 | exit j => exact h
 | normal =>
  simp only [endM] at h ⊢
  split at h
  ·rename_i ob x hx; exact conj_mono (hq _ _) h
  ·exact h
 | ret =>
  simp only [endM] at h ⊢
  split at h
  ·rename_i ob x hx; exact conj_mono (hq _ _) h
  ·exact h
end
def alike (x y:Row):Prop:=y.n = x.n ∧ y.sz = x.sz ∧ y.ty = x.ty ∧ y.g = x.g ∧ ∀ i,i < x.n → y.get i = x.get i
theorem alike.refl (x:Row):alike x x:=⟨rfl,rfl,rfl,rfl,fun _ _ => rfl⟩
def cleanCs:List AV → Bool
 | [] => true
 | a :: l => cleanC a && cleanCs l
theorem cleanCs_mem:∀ {l:List AV},cleanCs l = true → ∀ c ∈ l,cleanC c = true
 | [],_,c,h => by cases h
 | a :: l,h,c,hc => by
  simp only [cleanCs,Bool.and_eq_true] at h
  rcases List.mem_cons.1 hc with e | hc
  ·rw [e]; exact h.1
  ·exact cleanCs_mem h.2 c hc
def selfC (r:Nat):AV → Bool
 | .ptr q _ _ _ _ => decide (q = r)
 | a => cleanC a
def bk:AV → AV
 | .ptr _ f i sz k => .ptr 0 f i sz k
 | a => a
def famBk (fam:Fam):Fam:=fun f => { fam f with get:=fun j => ((fam f).get j).map bk }
def famOK (r:Nat) (fam:Fam):Prop:=∀ f,(fam f).g = none ∧ ∀ j,j < (fam f).n → ∀ c ∈ (fam f).get j,selfC r c = true
theorem bk_clean {c:AV} (h:cleanC c = true):bk c = c:=by cases c <;> first | rfl | simp [cleanC] at h
theorem bks_clean:∀ {l:List AV},(∀ c ∈ l,cleanC c = true) → l.map bk = l
 | [],_ => rfl
 | a :: l,h => by rw [List.map_cons,bk_clean (h a (by simp)),bks_clean fun c hc => h c (by simp [hc])]
theorem selfC_ren {r:Nat} {θ:Nat → Nat → Nat × Nat} {g:Nat → Nat → Prop} {B:Nat → Prop} (hθ:∀ f,θ 0 f = (r,f)) (hg:∀ f,g 0 f) {c:AV} (h:selfC r c = true):renA θ 3 (bk c) = c ∧ kg g B 3 (bk c):=by
 cases c with
 | ptr q f i sz k =>
  simp only [selfC,decide_eq_true_eq] at h
  subst h
  refine ⟨?_,hg f⟩
  show AV.ptr (θ 0 f).1 (θ 0 f).2 i sz k = _
  rw [hθ]
 | v x => exact ⟨rfl,trivial⟩
 | any => exact ⟨rfl,trivial⟩
 | ro n sz get => exact ⟨rfl,trivial⟩
 | rop cs => exact ⟨rfl,trivial⟩
 | _ => simp [selfC,cleanC] at h
theorem rowRen_self {r:Nat} {θ:Nat → Nat → Nat × Nat} {g:Nat → Nat → Prop} {B:Nat → Prop} (hθ:∀ f,θ 0 f = (r,f)) (hg:∀ f,g 0 f) {x:Row} (h:∀ j,j < x.n → ∀ c ∈ x.get j,selfC r c = true):rowRen θ g B { x with get:=fun j => (x.get j).map bk } x:=by
 refine ⟨rfl,rfl,rfl,rfl,fun j hj => ?_⟩
 have h1:=h j hj
 refine ⟨?_,fun c hc => ?_⟩
 ·dsimp only
  rw [List.map_map]
  exact (map_id_of fun a ha => (selfC_ren (g:=g) (B:=B) hθ hg (h1 a ha)).1).symm
 ·dsimp only at hc
  obtain ⟨c0,hc0,rfl⟩:=List.mem_map.1 hc
  exact (selfC_ren (θ:=θ) hθ hg (h1 c0 hc0)).2
theorem famBk_E {fam:Fam} {f i:Nat} {cs:List AV} (h:∀ c ∈ cs,cleanC c = true):famBk (famE fam f i cs) = famE (famBk fam) f i cs:=by
 funext f'
 unfold famBk famE
 by_cases e:f' = f
 ·subst e
  simp only [if_true]
  congr 1
  funext j
  by_cases e:j = i
  ·simp only [e,if_true]; exact bks_clean h
  ·simp [e]
 ·simp [e]
theorem famOK_E {r:Nat} {fam:Fam} {f i:Nat} {cs:List AV} (h:famOK r fam) (hc:∀ c ∈ cs,cleanC c = true):famOK r (famE fam f i cs):=fun f' => by
 refine ⟨by rw [famE_g]; exact (h f').1,fun j hj c hcm => ?_⟩
 rw [famE_n] at hj
 by_cases e:f' = f
 ·subst e
  simp only [famE,if_true] at hcm
  split at hcm
  ·have:=hc c hcm
   cases c <;> first | exact this | simp [cleanC] at this
  ·exact (h f').2 j hj c hcm
 ·rw [famE_off e] at hcm
  exact (h f').2 j hj c hcm
theorem famOK_bk {r:Nat} {fam:Fam} (h:famOK r fam):famOK 0 (famBk fam):=fun f => by
 refine ⟨(h f).1,fun j hj c hc => ?_⟩
 obtain ⟨c0,h0,rfl⟩:=List.mem_map.1 hc
 have:=(h f).2 j hj c0 h0
 cases c0 <;> first | rfl | exact this | simp [selfC,cleanC] at this
theorem rowRen_clean' {θ:Nat → Nat → Nat × Nat} {g:Nat → Nat → Prop} {B:Nat → Prop} {x0 x:Row} (h:alike x0 x) (hc:∀ j,j < x0.n → ∀ c ∈ x0.get j,cleanC c = true):rowRen θ g B x0 x:=by
 obtain ⟨h1,h2,h3,h4,h5⟩:=h
 refine ⟨h1,h2,h3,h4,fun j hj => ?_⟩
 obtain ⟨k1,k2⟩:=cleanL_ren (θ:=θ) (g:=g) (B:=B) (hc j hj)
 exact ⟨by rw [k1]; exact h5 j hj,k2⟩
theorem look_one {k:Nat} {x:Fam}:look [(k,x)] k = some x:=by simp [look]
theorem thE_0 {r:Nat}:∀ f,thE [r] 0 f = (r,f):=fun f => rfl
theorem thL_0 {r key:Nat} {l:List Nat} {th:Nat → Nat → Nat}:∀ f,thL (r :: l) key th 0 f = (r,f):=fun f => by simp [thL]
theorem lowG_0:∀ f,lowG 1 0 f:=fun _ => Nat.zero_lt_one
theorem newG_0 {N:Nat} {σ:Nat → Option (Nat × Nat)} {th:Nat → Nat → Nat} (h:0 < N):∀ f,newG N σ th 0 f:=fun _ => .inl h
section
variable {P:Program} {G:Ctx} {H:Hots} {f:FuncId} {fn:Func}
theorem one_okG {r key:Nat} {fam fam' x0 y0:Fam} {m:Mem} {es es0:List AV} {val val0:AV} {ob:List Prop} (hl:look m r = some fam) (h1:∀ f,(fam f).g = none ∧ rowRen (thE [r]) (lowG 1) (lowB 1) (x0 f) (fam f))
  (h2:∀ th σ f,rowRen (thL [r] key th) (newG 1 σ th) (newB 1 σ) (y0 f) (fam' f) ∧ (y0 f).g ≠ some false) (ha:es = es0.map (renA (thE [r]) 3)) (hak:∀ a ∈ es0,kg (lowG 1) (lowB 1) 3 a)
  (hfn:funcOK P H fn es0.length = true) (hv:∀ th:Nat → Nat → Nat,∀ σ:Nat → Option (Nat × Nat),val = renA (thL [r] key th) 3 val0 ∧ kg (newG 1 σ th) (newB 1 σ) 3 val0)
  (hb:bodyM P G H fn es0 [(0,x0)] 1 fun a m1 => a = val0 ∧ look m1 0 = some y0) :
  ∃ ks m0 as0,Entry ks m m0 es as0 ∧ funcOK P H fn as0.length = true ∧ bodyM P G H fn as0 m0 ks.length fun a m1 => ∃ σ th ys nw,(⟨ob,val,.many [(r,fam')] none⟩:Eff).u = .many (ks.zip ys) nw ∧ Leave key ks σ th m1 a ys nw val:=by
 refine ⟨[r],[(0,x0)],es0,⟨by simp,ha,hak,fun j hj => ?_,fun q x hq => ?_⟩,hfn,hb.mono fun a m1 ⟨q1,q2⟩ => ?_⟩
 ·have:j = 0:=by simp at hj; omega
  subst this
  exact ⟨_,fam,look_one,hl,h1⟩
 ·by_cases e:q = 0
  ·subst e; simp
  ·simp [look,Ne.symm e] at hq
 ·obtain ⟨v1,v2⟩:=hv (fun _ _ => 0) (fun _ => none)
  refine ⟨fun _ => none,fun _ _ => 0,[fam'],none,rfl,⟨fun f r g h => by simp at h,by rw [q1]; exact v1,by rw [q1]; exact v2,rfl,fun j hj => ?_,fun _ => rfl⟩⟩
  have:j = 0:=by simp at hj; omega
  subst this
  exact ⟨_,_,q2,rfl,h2 _ _⟩
theorem one_ok {r key:Nat} {fam fam':Fam} {m:Mem} {es es0:List AV} {val val0:AV} {ob:List Prop} (hl:look m r = some fam) (h1:famOK r fam) (h2:famOK r fam') (ha:es = es0.map (renA (thE [r]) 3)) (hak:∀ a ∈ es0,kg (lowG 1) (lowB 1) 3 a)
  (hfn:funcOK P H fn es0.length = true) (hv:∀ th:Nat → Nat → Nat,∀ σ:Nat → Option (Nat × Nat),val = renA (thL [r] key th) 3 val0 ∧ kg (newG 1 σ th) (newB 1 σ) 3 val0)
  (hb:bodyM P G H fn es0 [(0,famBk fam)] 1 fun a m1 => a = val0 ∧ look m1 0 = some (famBk fam')) :
  ∃ ks m0 as0,Entry ks m m0 es as0 ∧ funcOK P H fn as0.length = true ∧ bodyM P G H fn as0 m0 ks.length fun a m1 => ∃ σ th ys nw,(⟨ob,val,.many [(r,fam')] none⟩:Eff).u = .many (ks.zip ys) nw ∧ Leave key ks σ th m1 a ys nw val:=
 one_okG hl (fun f => ⟨(h1 f).1,rowRen_self thE_0 lowG_0 (h1 f).2⟩) (fun th σ f => ⟨rowRen_self thL_0 (newG_0 (by simp)) (h2 f).2,by show (fam' f).g ≠ _; rw [(h2 f).1]; simp⟩) ha hak hfn hv hb
def mcP (sz:Nat) (F:List AV → List AV → Option (List Prop × AV × List AV)):MCon:=fun key m es => match es with
 | .ptr r f i sz' 0 :: rest => match look m r with
  | some fam => match F ((fam f).get i) rest with
   | some (ob,val,cs) => some ⟨(i < (fam f).n) :: (sz' = sz) :: (sz = (fam f).sz) :: (cleanCs ((fam f).get i) = true) :: famOK r fam :: ob,val,.many [(r,famE fam f i cs)] none⟩
   | none => none
  | none => none
 | _ => none
def wb1 (fam:Fam) (cs:List AV):Fam:=fun f => if f = 0 then { fam 0 with get:=fun _ => cs } else fam f
def mc1 (sz:Nat) (F:List AV → List AV → Option (List Prop × AV × List AV)):MCon:=fun key m es => match es with
 | .bx r 0 :: rest => match look m r with
  | some fam => match F ((fam 0).get 0) rest with
   | some (ob,val,cs) => some ⟨((fam 0).n = 1) :: (sz = (fam 0).sz) :: (cleanCs ((fam 0).get 0) = true) :: famOK r fam :: ob,val,.many [(r,wb1 fam cs)] none⟩
   | none => none
  | none => none
 | es => mcP sz F key m es
def OneOK (P:Program) (G:Ctx) (H:Hots) (fn:Func) (sz:Nat) (F:List AV → List AV → Option (List Prop × AV × List AV)):Prop:=
 ∀ cells rest ob val cs,F cells rest = some (ob,val,cs) → (∀ p ∈ ob,p) → (∀ a ∈ rest,clean 3 a = true) ∧ clean 3 val = true ∧ (∀ c ∈ cs,cleanC c = true) ∧ funcOK P H fn (rest.length + 1) = true ∧
  ∀ (fam:Fam) (f i:Nat),i < (fam f).n → sz = (fam f).sz → (∀ f,(fam f).g = none) → famOK 0 fam → bodyM P G H fn (.ptr 0 f i sz 0 :: rest) [(0,famE fam f i cells)] 1 fun a m1 => a = val ∧ look m1 0 = some (famE fam f i cs)
theorem MConOK.mcP (hG:CtxOK P G) (hf:P.funcs[f]? = some fn) {sz:Nat} {F:List AV → List AV → Option (List Prop × AV × List AV)} (h:OneOK P G H fn sz F):MConOK P f (mcP sz F):=by
 refine MConOK.of (H:=H) hG hf fun key m es e hc hob => ?_
 unfold Ax.mcP at hc
 split at hc
 ·rename_i r f' i sz' rest
  split at hc
  ·rename_i fam hl
   split at hc
   ·rename_i ob val cs hF
    cases hc
    have hi:i < (fam f').n:=hob _ (by simp)
    have hsz':sz' = sz:=hob _ (by simp)
    have hsz:sz = (fam f').sz:=hob _ (by simp)
    have hcl:cleanCs ((fam f').get i) = true:=hob _ (by simp)
    have hok:famOK r fam:=hob _ (by simp)
    subst hsz'
    obtain ⟨h1,h2,h3,h4,h5⟩:=h _ _ _ _ _ hF fun p hp => hob p (by simp [hp])
    obtain ⟨a1,a2⟩:=cleans_ren (θ:=thE [r]) (g:=lowG 1) (B:=lowB 1) h1
    refine one_ok hl hok (famOK_E hok h3) (es0:=.ptr 0 f' i sz' 0 :: rest) (val0:=val) ?_ ?_ h4 (fun th σ => ?_) ?_
    ·rw [List.map_cons,a1]; rfl
    ·intro a ha
     rcases List.mem_cons.1 ha with e | ha
     ·rw [e]; exact Nat.zero_lt_one
     ·exact a2 a ha
    ·obtain ⟨b1,b2⟩:=clean_ren (θ:=thL [r] key th) (g:=newG 1 σ th) (B:=newB 1 σ) 3 val h2
     exact ⟨b1.symm,b2⟩
    ·have e1:famBk fam = famE (famBk fam) f' i ((fam f').get i):=by
      have:=famBk_E (fam:=fam) (f:=f') (i:=i) (cleanCs_mem hcl)
      rw [famE_self] at this
      exact this
     rw [e1,famBk_E h3]
     exact h5 (famBk fam) f' i hi hsz (fun f => (hok f).1) (famOK_bk hok)
   ·cases hc
  ·cases hc
 ·cases hc
theorem MConOK.mc1 (hG:CtxOK P G) (hf:P.funcs[f]? = some fn) {sz:Nat} {F:List AV → List AV → Option (List Prop × AV × List AV)} (h:OneOK P G H fn sz F):MConOK P f (mc1 sz F):=by
 intro w0 ρ m m' D w key es vs e hR hk hm hRs hc hob hmany
 unfold Ax.mc1 at hc
 split at hc
 ·rename_i r rest
  split at hc
  ·rename_i fam hl
   split at hc
   ·rename_i ob val cs hF
    cases hc
    have hn:(fam 0).n = 1:=hob _ (by simp)
    have hsz:sz = (fam 0).sz:=hob _ (by simp)
    have hcl:cleanCs ((fam 0).get 0) = true:=hob _ (by simp)
    have hok:famOK r fam:=hob _ (by simp)
    have hRs':Rs w ρ (.ptr r 0 0 sz 0 :: rest) vs:=by
     obtain ⟨x,xs,rfl,h1,h2⟩:=hRs.inv
     refine .cons ?_ h2
     cases h1 with
     | bx hd =>
      have:R w ρ (.ptr r 0 0 sz 0) (.pointer (some ⟨ρ.blk r 0,0 * sz + 0,none⟩)):=.ptr hd
      rw [Nat.zero_mul] at this
      exact this
    have:=MConOK.mcP hG hf h w0 ρ m m' D w key _ vs ⟨(0 < (fam 0).n) :: (sz = sz) :: (sz = (fam 0).sz) :: (cleanCs ((fam 0).get 0) = true) :: famOK r fam :: ob,val,.many [(r,famE fam 0 0 cs)] none⟩ hR hk hm hRs'
     (by simp only [Ax.mcP,hl,hF]) (fun p hp => by
      simp only [List.mem_cons] at hp
      rcases hp with rfl | rfl | rfl | rfl | rfl | hp
      ·omega
      ·trivial
      ·exact hsz
      ·exact hcl
      ·exact hok
      ·exact hob p (by simp [hp])) ⟨_,_,rfl⟩
    refine this.mono fun v w' ⟨ρ',p1,p2,p3,p4⟩ => ⟨ρ',p1,?_,p3,p4⟩
    have p2:Rel w0 ρ' (setRow r (famE fam 0 0 cs) m) (fun r => D r ∨ r = key) w':=p2
    refine Rel.alike p2 fun f => ?_
    by_cases e:f = 0
    ·subst e
     refine ⟨rfl,rfl,rfl,rfl,fun i hi => ?_⟩
     rw [famE_n,hn] at hi
     have:i = 0:=by omega
     subst this
     rw [famE_get]; rfl
    ·unfold wb1
     rw [if_neg e,famE_off e]
     exact ⟨rfl,rfl,rfl,rfl,fun _ _ => rfl⟩
   ·cases hc
  ·cases hc
 ·exact MConOK.mcP hG hf h w0 ρ m m' D w key es vs e hR hk hm hRs hc hob hmany
def mcPP (sz:Nat) (F:List AV → List AV → List AV → Option (List Prop × AV × List AV × List AV)):MCon:=fun key m es => match es with
 | .ptr r f i sz1 0 :: .ptr r' f' i' sz2 0 :: rest => match look m r with
  | some fam => match F ((fam f).get i) ((fam f').get i') rest with
   | some (ob,val,cs,cs') => some ⟨(r' = r) :: (f ≠ f') :: (i < (fam f).n) :: (i' < (fam f').n) :: (sz1 = sz) :: (sz2 = sz) :: (sz = (fam f).sz) :: (sz = (fam f').sz) :: (cleanCs ((fam f).get i) = true) :: (cleanCs ((fam f').get i') = true) :: famOK r fam :: ob,val,.many [(r,famE (famE fam f i cs) f' i' cs')] none⟩
   | none => none
  | none => none
 | _ => none
def TwoOK (P:Program) (G:Ctx) (H:Hots) (fn:Func) (sz:Nat) (F:List AV → List AV → List AV → Option (List Prop × AV × List AV × List AV)):Prop:=
 ∀ c1 c2 rest ob val cs cs',F c1 c2 rest = some (ob,val,cs,cs') → (∀ p ∈ ob,p) → (∀ a ∈ rest,clean 3 a = true) ∧ clean 3 val = true ∧ (∀ c ∈ cs,cleanC c = true) ∧ (∀ c ∈ cs',cleanC c = true) ∧ funcOK P H fn (rest.length + 2) = true ∧
  ∀ (fam:Fam) (f i f' i':Nat),f ≠ f' → i < (fam f).n → i' < (fam f').n → sz = (fam f).sz → sz = (fam f').sz → (∀ f,(fam f).g = none) → famOK 0 fam →
   bodyM P G H fn (.ptr 0 f i sz 0 :: .ptr 0 f' i' sz 0 :: rest) [(0,famE (famE fam f i c1) f' i' c2)] 1 fun a m1 => a = val ∧ look m1 0 = some (famE (famE fam f i cs) f' i' cs')
theorem MConOK.mcPP (hG:CtxOK P G) (hf:P.funcs[f]? = some fn) {sz:Nat} {F:List AV → List AV → List AV → Option (List Prop × AV × List AV × List AV)} (h:TwoOK P G H fn sz F):MConOK P f (mcPP sz F):=by
 refine MConOK.of (H:=H) hG hf fun key m es e hc hob => ?_
 unfold Ax.mcPP at hc
 split at hc
 ·rename_i r f1 i1 s1 r' f2 i2 s2 rest
  split at hc
  ·rename_i fam hl
   split at hc
   ·rename_i ob val cs cs' hF
    cases hc
    have hr:r' = r:=hob _ (by simp)
    have hne:f1 ≠ f2:=hob _ (by simp)
    have hi:i1 < (fam f1).n:=hob _ (by simp)
    have hi':i2 < (fam f2).n:=hob _ (by simp)
    have hs1:s1 = sz:=hob _ (by simp)
    have hs2:s2 = sz:=hob _ (by simp)
    have hz1:sz = (fam f1).sz:=hob _ (by simp)
    have hz2:sz = (fam f2).sz:=hob _ (by simp)
    have hc1:cleanCs ((fam f1).get i1) = true:=hob _ (by simp)
    have hc2:cleanCs ((fam f2).get i2) = true:=hob _ (by simp)
    have hok:famOK r fam:=hob _ (by simp)
    subst hr hs1 hs2
    obtain ⟨h1,h2,h3,h3',h4,h5⟩:=h _ _ _ _ _ _ _ hF fun p hp => hob p (by simp [hp])
    obtain ⟨a1,a2⟩:=cleans_ren (θ:=thE [r']) (g:=lowG 1) (B:=lowB 1) h1
    refine one_ok hl hok (famOK_E (famOK_E hok h3) h3') (es0:=.ptr 0 f1 i1 s2 0 :: .ptr 0 f2 i2 s2 0 :: rest) (val0:=val) ?_ ?_ h4 (fun th σ => ?_) ?_
    ·rw [List.map_cons,List.map_cons,a1]; rfl
    ·intro a ha
     rcases List.mem_cons.1 ha with e | ha
     ·rw [e]; exact Nat.zero_lt_one
     ·rcases List.mem_cons.1 ha with e | ha
      ·rw [e]; exact Nat.zero_lt_one
      ·exact a2 a ha
    ·obtain ⟨b1,b2⟩:=clean_ren (θ:=thL [r'] key th) (g:=newG 1 σ th) (B:=newB 1 σ) 3 val h2
     exact ⟨b1.symm,b2⟩
    ·have e1:famBk fam = famE (famE (famBk fam) f1 i1 ((fam f1).get i1)) f2 i2 ((fam f2).get i2):=by
      have k1:=famBk_E (fam:=fam) (f:=f1) (i:=i1) (cleanCs_mem hc1)
      rw [famE_self] at k1
      have k2:=famBk_E (fam:=fam) (f:=f2) (i:=i2) (cleanCs_mem hc2)
      rw [famE_self] at k2
      rw [← k1,← k2]
     rw [e1,famBk_E h3',famBk_E h3]
     exact h5 (famBk fam) f1 i1 f2 i2 hne hi hi' hz1 hz2 (fun f => (hok f).1) (famOK_bk hok)
   ·cases hc
  ·cases hc
 ·cases hc
def tabOK (K N sz:Nat) (tp ty:TypeId) (fam:Fam):Prop:=(∀ f,alike (famT K N sz tp ty (fun i => (fam (i + 1)).get 0) f) (fam f)) ∧ ∀ i,i < N → cleanCs ((fam (i + 1)).get 0) = true
theorem rowRen_T {θ:Nat → Nat → Nat × Nat} {g:Nat → Nat → Prop} {B:Nat → Prop} {K N sz:Nat} {tp ty:TypeId} {get:Nat → List AV} (hθ:∀ f,θ 0 f = (K,f)) (hg:∀ f,g 0 f) (hc:∀ i,i < N → cleanCs (get i) = true) (f:Nat) :
  rowRen θ g B (famT 0 N sz tp ty get f) (famT K N sz tp ty get f):=by
 cases f with
 | zero =>
  refine ⟨rfl,rfl,rfl,rfl,fun j hj => ⟨?_,fun c hc => ?_⟩⟩
  ·show [AV.ptr K (j + 1) 0 sz 0] = [AV.ptr (θ 0 (j + 1)).1 (θ 0 (j + 1)).2 0 sz 0]
   rw [hθ]
  ·simp only [famT,List.mem_singleton] at hc
   rw [hc]; exact hg _
 | succ f =>
  refine rowRen_clean' ⟨rfl,rfl,rfl,rfl,fun _ _ => rfl⟩ fun j hj c hcm => ?_
  simp only [famT] at hj hcm
  split at hj
  ·rename_i hf
   have:j = 0:=by omega
   subst this
   exact cleanCs_mem (hc f hf) c (by simpa using hcm)
  ·omega
theorem rowRen_alike {θ:Nat → Nat → Nat × Nat} {g:Nat → Nat → Prop} {B:Nat → Prop} {x0 x y:Row} (h:rowRen θ g B x0 x) (k:alike x y):rowRen θ g B x0 y:=by
 obtain ⟨h1,h2,h3,h4,h5⟩:=h
 obtain ⟨k1,k2,k3,k4,k5⟩:=k
 refine ⟨k1.trans h1,k2.trans h2,k3.trans h3,k4.trans h4,fun j hj => ?_⟩
 obtain ⟨a,b⟩:=h5 j hj
 exact ⟨(k5 j (by omega)).trans a,b⟩
theorem famT_g {K N sz:Nat} {tp ty:TypeId} {get:Nat → List AV} {f:Nat}:(famT K N sz tp ty get f).g = none:=by cases f <;> rfl
theorem tabOK_in {K N sz:Nat} {tp ty:TypeId} {fam:Fam} (h:tabOK K N sz tp ty fam) (f:Nat):(fam f).g = none ∧ rowRen (thE [K]) (lowG 1) (lowB 1) (famT 0 N sz tp ty (fun i => (fam (i + 1)).get 0) f) (fam f):=
 ⟨(h.1 f).2.2.2.1.trans famT_g,rowRen_alike (rowRen_T thE_0 lowG_0 h.2 f) (h.1 f)⟩
def mcT (sz:Nat) (tp ty:TypeId) (F:Nat → (Nat → List AV) → List AV → Option (List Prop × AV × (Nat → List AV))):MCon:=fun key m es => match es with
 | .own K 0 N 1 :: rest => match look m K with
  | some fam => match F N (fun i => (fam (i + 1)).get 0) rest with
   | some (ob,val,get') => some ⟨tabOK K N sz tp ty fam :: ob,val,.many [(K,famT K N sz tp ty get')] none⟩
   | none => none
  | none => none
 | _ => none
def TabOK (P:Program) (G:Ctx) (H:Hots) (fn:Func) (sz:Nat) (tp ty:TypeId) (F:Nat → (Nat → List AV) → List AV → Option (List Prop × AV × (Nat → List AV))):Prop:=
 ∀ N get rest ob val get',F N get rest = some (ob,val,get') → (∀ p ∈ ob,p) → (∀ i,i < N → cleanCs (get i) = true) → (∀ a ∈ rest,clean 3 a = true) ∧ clean 3 val = true ∧ (∀ i,i < N → cleanCs (get' i) = true) ∧ funcOK P H fn (rest.length + 1) = true ∧
  bodyM P G H fn (.own 0 0 N 1 :: rest) [(0,famT 0 N sz tp ty get)] 1 fun a m1 => a = val ∧ look m1 0 = some (famT 0 N sz tp ty get')
theorem MConOK.mcT (hG:CtxOK P G) (hf:P.funcs[f]? = some fn) {sz:Nat} {tp ty:TypeId} {F:Nat → (Nat → List AV) → List AV → Option (List Prop × AV × (Nat → List AV))} (h:TabOK P G H fn sz tp ty F):MConOK P f (mcT sz tp ty F):=by
 refine MConOK.of (H:=H) hG hf fun key m es e hc hob => ?_
 unfold Ax.mcT at hc
 split at hc
 ·rename_i K N rest
  split at hc
  ·rename_i fam hl
   split at hc
   ·rename_i ob val get' hF
    cases hc
    have hok:tabOK K N sz tp ty fam:=hob _ (by simp)
    obtain ⟨h1,h2,h3,h4,h5⟩:=h _ _ _ _ _ _ hF (fun p hp => hob p (by simp [hp])) hok.2
    obtain ⟨a1,a2⟩:=cleans_ren (θ:=thE [K]) (g:=lowG 1) (B:=lowB 1) h1
    refine one_okG hl (tabOK_in hok) (fun th σ f => ⟨rowRen_T thL_0 (newG_0 (by simp)) h3 f,by rw [famT_g]; simp⟩) (es0:=.own 0 0 N 1 :: rest) (val0:=val) ?_ ?_ h4 (fun th σ => ?_) h5
    ·rw [List.map_cons,a1]; rfl
    ·intro a ha
     rcases List.mem_cons.1 ha with e | ha
     ·rw [e]; exact Nat.zero_lt_one
     ·exact a2 a ha
    ·obtain ⟨b1,b2⟩:=clean_ren (θ:=thL [K] key th) (g:=newG 1 σ th) (B:=newB 1 σ) 3 val h2
     exact ⟨b1.symm,b2⟩
   ·cases hc
  ·cases hc
 ·cases hc
def mcTL (sz:Nat) (tp ty tl:TypeId):MCon:=fun key m es => match es with
 | [.own K 0 N 1] => match look m K with
  | some fam => some ⟨[tabOK K N sz tp ty fam,N ≤ 1000,∀ i,i < N → ((fam (i + 1)).get 0).length = sz],.own key 0 N sz,.many [(K,famT K N sz tp ty fun i => (fam (i + 1)).get 0)] (some (famN N sz tl (fun i => (fam (i + 1)).get 0) none))⟩
  | none => none
 | _ => none
def TelOK (P:Program) (G:Ctx) (H:Hots) (fn:Func) (sz:Nat) (tp ty tl:TypeId):Prop:=
 ∀ N get,N ≤ 1000 → (∀ i,i < N → cleanCs (get i) = true) → (∀ i,i < N → (get i).length = sz) → funcOK P H fn 1 = true ∧
  bodyM P G H fn [.own 0 0 N 1] [(0,famT 0 N sz tp ty get)] 1 fun a m1 => look m1 0 = some (famT 0 N sz tp ty get) ∧ ∃ L get',1 ≤ L ∧ a = .own L 0 N sz ∧ look m1 L = some (famN N sz tl get' none) ∧ ∀ i,i < N → get' i = get i
def whole (K:Nat) (f:Nat):Option (Nat × Nat):=some (K,f)
def idTh (_ f:Nat):Nat:=f
theorem MConOK.mcTL (hG:CtxOK P G) (hf:P.funcs[f]? = some fn) {sz:Nat} {tp ty tl:TypeId} (h:TelOK P G H fn sz tp ty tl):MConOK P f (mcTL sz tp ty tl):=by
 refine MConOK.of (H:=H) hG hf fun key m es e hc hob => ?_
 unfold Ax.mcTL at hc
 split at hc
 ·rename_i K N
  split at hc
  ·rename_i fam hl
   cases hc
   have hok:tabOK K N sz tp ty fam:=hob _ (by simp)
   have hN:N ≤ 1000:=hob _ (by simp)
   have hlen:∀ i,i < N → ((fam (i + 1)).get 0).length = sz:=hob _ (by simp)
   obtain ⟨h1,h2⟩:=h N (fun i => (fam (i + 1)).get 0) hN hok.2 hlen
   refine ⟨[K],[(0,famT 0 N sz tp ty fun i => (fam (i + 1)).get 0)],[.own 0 0 N 1],⟨by simp,rfl,?_,?_,?_⟩,h1,h2.mono fun a m1 ⟨q1,L,get',q2,q3,q4,q5⟩ => ?_⟩
   ·intro a ha
    rw [List.mem_singleton] at ha
    rw [ha]; exact Nat.zero_lt_one
   ·intro j hj
    have:j = 0:=by simp at hj; omega
    subst this
    exact ⟨_,fam,look_one,hl,tabOK_in hok⟩
   ·intro q x hq
    by_cases e:q = 0
    ·subst e; simp
    ·simp [look,Ne.symm e] at hq
   ·refine ⟨whole L,idTh,[famT K N sz tp ty fun i => (fam (i + 1)).get 0],some _,rfl,⟨fun f r g h => ?_,?_,?_,rfl,fun j hj => ?_,fun f => ?_⟩⟩
    ·cases h; exact ⟨q2,rfl⟩
    ·rw [q3]
     show AV.own key 0 N sz = .own (thL [K] key idTh L 0).1 (thL [K] key idTh L 0).2 N sz
     unfold thL
     rw [if_neg (by simp; omega)]
     rfl
    ·rw [q3]; exact .inr rfl
    ·have:j = 0:=by simp at hj; omega
     subst this
     exact ⟨_,_,q1,rfl,fun f => ⟨rowRen_T thL_0 (newG_0 (by simp)) hok.2 f,by rw [famT_g]; simp⟩⟩
    ·refine ⟨_,q4,rowRen_clean' ?_ fun j hj c hc => ?_,?_⟩
     ·unfold famN
      by_cases e:f = 0
      ·subst e
       exact ⟨rfl,rfl,rfl,rfl,fun i hi => (q5 i hi).symm⟩
      ·simp only [e,if_false]
       exact .refl _
     ·unfold famN at hj hc
      by_cases e:f = 0
      ·subst e
       simp only [if_true] at hj hc
       rw [q5 j hj] at hc
       exact cleanCs_mem (hok.2 j hj) c hc
      ·simp [e] at hj
     ·unfold famN
      split <;> simp
  ·cases hc
 ·cases hc
theorem setRow_self {r:Nat} {x:Fam}:∀ {m:Mem},look m r = some x → setRow r x m = m
 | [],h => by simp [look] at h
 | (k,y) :: m,h => by
  unfold look at h
  unfold setRow
  split at h
  ·rename_i e; cases h; subst e; simp
  ·rename_i e; rw [if_neg e,setRow_self h]
def mcTR (sz:Nat) (tp ty tl:TypeId):MCon:=fun key m es => match es with
 | [.own K 0 N 1] => match look m K with
  | some fam => some ⟨[tabOK K N sz tp ty fam,N ≤ 1000,∀ i,i < N → ((fam (i + 1)).get 0).length = sz],.own key 0 N sz,.many [] (some (famN N sz tl (fun i => (fam (i + 1)).get 0) none))⟩
  | none => none
 | _ => none
theorem MConOK.mcTR {sz:Nat} {tp ty tl:TypeId} (h:MConOK P f (Ax.mcTL sz tp ty tl)):MConOK P f (Ax.mcTR sz tp ty tl):=by
 intro w0 ρ m m' D w key es vs e hR hk hm hRs hc hob hmany
 unfold Ax.mcTR at hc
 split at hc
 ·rename_i K N
  split at hc
  ·rename_i fam hl
   cases hc
   have:=h w0 ρ m m' D w key [.own K 0 N 1] vs ⟨[tabOK K N sz tp ty fam,N ≤ 1000,∀ i,i < N → ((fam (i + 1)).get 0).length = sz],.own key 0 N sz,.many [(K,famT K N sz tp ty fun i => (fam (i + 1)).get 0)] (some (famN N sz tl (fun i => (fam (i + 1)).get 0) none))⟩ hR hk hm hRs (by simp only [Ax.mcTL,hl]) hob ⟨_,_,rfl⟩
   refine this.mono fun v w' ⟨ρ',p1,p2,p3,p4⟩ => ⟨ρ',p1,?_,p3,p4⟩
   have hok:tabOK K N sz tp ty fam:=hob _ (by simp)
   have hKm:=hm _ _ hl
   have hne:K ≠ key:=fun e => hk (e ▸ hR.key _ _ hKm)
   have p2:Rel w0 ρ' (insRow key (famN N sz tl (fun i => (fam (i + 1)).get 0) none) (setRow K (famT K N sz tp ty fun i => (fam (i + 1)).get 0) m)) (fun r => D r ∨ r = key) w':=p2
   rw [← set_ins hne] at p2
   have p5:=Rel.alike p2 (y:=fam) (fun f => hok.1 f)
   rw [set_ins hne,setRow_self hKm] at p5
   exact p5
  ·cases hc
 ·cases hc
def mcN (ty:TypeId) (F:List AV → Option (List Prop × List AV)):MCon:=fun key m es => match F es with
 | some (ob,cs) => some ⟨ob,.bx key 0,.many [] (some (fam1 ty cs.length cs none))⟩
 | none => none
def NewOK (P:Program) (G:Ctx) (H:Hots) (fn:Func) (ty:TypeId) (F:List AV → Option (List Prop × List AV)):Prop:=
 ∀ es ob cs,F es = some (ob,cs) → (∀ p ∈ ob,p) → (∀ a ∈ es,clean 3 a = true) ∧ cleanCs cs = true ∧ funcOK P H fn es.length = true ∧
  bodyM P G H fn es [] 0 fun a m1 => ∃ L,a = .bx L 0 ∧ look m1 L = some (fam1 ty cs.length cs none)
theorem MConOK.mcN (hG:CtxOK P G) (hf:P.funcs[f]? = some fn) {ty:TypeId} {F:List AV → Option (List Prop × List AV)} (h:NewOK P G H fn ty F):MConOK P f (mcN ty F):=by
 refine MConOK.of (H:=H) hG hf fun key m es e hc hob => ?_
 unfold Ax.mcN at hc
 split at hc
 ·rename_i ob cs hF
  cases hc
  obtain ⟨h1,h2,h3,h4⟩:=h _ _ _ hF fun p hp => hob p hp
  obtain ⟨a1,a2⟩:=cleans_ren (θ:=thE []) (g:=lowG 0) (B:=lowB 0) h1
  refine ⟨[],[],es,⟨by simp,a1.symm,a2,fun j hj => by simp at hj,fun q x hq => by simp [look] at hq⟩,h3,h4.mono fun a m1 ⟨L,q1,q2⟩ => ?_⟩
  refine ⟨whole L,idTh,[],some _,rfl,⟨fun f r g h => ?_,?_,?_,rfl,fun j hj => by simp at hj,fun f => ?_⟩⟩
  ·cases h; exact ⟨Nat.zero_le _,rfl⟩
  ·rw [q1]; rfl
  ·rw [q1]; exact .inr rfl
  ·refine ⟨_,q2,rowRen_clean' (.refl _) fun j hj c hc => ?_,?_⟩
   ·unfold fam1 at hj hc
    by_cases e:f = 0
    ·subst e
     exact cleanCs_mem h2 c (by simpa using hc)
    ·simp [e] at hj
   ·unfold fam1
    split <;> simp
 ·cases hc
def mcL (sz:Nat) (tp ty:TypeId) (F:List AV → Option (List Prop × Nat × (Nat → List AV))):MCon:=fun key m es => match F es with
 | some (ob,N,get) => some ⟨ob,.own key 0 N 1,.many [] (some (famT key N sz tp ty get))⟩
 | none => none
def LayOK (P:Program) (G:Ctx) (H:Hots) (fn:Func) (sz:Nat) (tp ty:TypeId) (F:List AV → Option (List Prop × Nat × (Nat → List AV))):Prop:=
 ∀ es ob N get,F es = some (ob,N,get) → (∀ p ∈ ob,p) → (∀ a ∈ es,clean 3 a = true) ∧ (∀ i,i < N → cleanCs (get i) = true) ∧ funcOK P H fn es.length = true ∧
  bodyM P G H fn es [] 0 fun a m1 => ∃ L get',a = .own L 0 N 1 ∧ look m1 L = some (famT L N sz tp ty get') ∧ ∀ i,i < N → get' i = get i
theorem MConOK.mcL (hG:CtxOK P G) (hf:P.funcs[f]? = some fn) {sz:Nat} {tp ty:TypeId} {F:List AV → Option (List Prop × Nat × (Nat → List AV))} (h:LayOK P G H fn sz tp ty F):MConOK P f (mcL sz tp ty F):=by
 refine MConOK.of (H:=H) hG hf fun key m es e hc hob => ?_
 unfold Ax.mcL at hc
 split at hc
 ·rename_i ob N get hF
  cases hc
  obtain ⟨h1,h2,h3,h4⟩:=h _ _ _ _ hF fun p hp => hob p hp
  obtain ⟨a1,a2⟩:=cleans_ren (θ:=thE []) (g:=lowG 0) (B:=lowB 0) h1
  refine ⟨[],[],es,⟨by simp,a1.symm,a2,fun j hj => by simp at hj,fun q x hq => by simp [look] at hq⟩,h3,h4.mono fun a m1 ⟨L,get',q1,q2,q3⟩ => ?_⟩
  refine ⟨whole L,idTh,[],some _,rfl,⟨fun f r g h => ?_,?_,?_,rfl,fun j hj => by simp at hj,fun f => ?_⟩⟩
  ·cases h; exact ⟨Nat.zero_le _,rfl⟩
  ·rw [q1]; rfl
  ·rw [q1]; exact .inr rfl
  ·refine ⟨_,q2,?_,by rw [famT_g]; simp⟩
   cases f with
   | zero =>
    refine ⟨rfl,rfl,rfl,rfl,fun j hj => ⟨rfl,fun c hc => ?_⟩⟩
    simp only [famT,List.mem_singleton] at hc
    rw [hc]; exact .inr rfl
   | succ f =>
    refine rowRen_clean' ⟨rfl,rfl,rfl,rfl,fun j hj => ?_⟩ fun j hj c hcm => ?_
    ·simp only [famT] at hj ⊢
     split at hj
     ·rename_i hf
      rw [q3 f hf]
     ·omega
    ·simp only [famT] at hj hcm
     split at hj
     ·rename_i hf
      have:j = 0:=by omega
      subst this
      simp only [if_true] at hcm
      rw [q3 f hf] at hcm
      exact cleanCs_mem (h2 f hf) c hcm
     ·omega
 ·cases hc
def mcTP (sz sz2:Nat) (tp ty:TypeId) (F:Nat → (Nat → List AV) → List AV → List AV → Option (List Prop × AV × (Nat → List AV) × List AV)):MCon:=fun key m es => match es with
 | .own K 0 N 1 :: .ptr C f i s2 0 :: rest => match look m K with
  | some fam => match look m C with
   | some famC => match F N (fun i => (fam (i + 1)).get 0) ((famC f).get i) rest with
    | some (ob,val,get',cs') => some ⟨(K ≠ C) :: (s2 = sz2) :: (i < (famC f).n) :: (sz2 = (famC f).sz) :: (cleanCs ((famC f).get i) = true) :: famOK C famC :: tabOK K N sz tp ty fam :: ob,val,.many [(K,famT K N sz tp ty get'),(C,famE famC f i cs')] none⟩
    | none => none
   | none => none
  | none => none
 | .own K 0 N 1 :: .bx C 0 :: rest => match look m K with
  | some fam => match look m C with
   | some famC => match F N (fun i => (fam (i + 1)).get 0) ((famC 0).get 0) rest with
    | some (ob,val,get',cs') => some ⟨(K ≠ C) :: ((famC 0).n = 1) :: (sz2 = (famC 0).sz) :: (cleanCs ((famC 0).get 0) = true) :: famOK C famC :: tabOK K N sz tp ty fam :: ob,val,.many [(K,famT K N sz tp ty get'),(C,wb1 famC cs')] none⟩
    | none => none
   | none => none
  | none => none
 | _ => none
end
section
variable {K N sz n r f i:Nat} {tp ty:TypeId} {get:Nat → List AV} {cs l:List AV} {g:Option Bool} {a:AV}
theorem cleanCs_nil:cleanCs [] = true:=(rfl)
theorem cleanCs_v {x:Value}:cleanCs (.v x :: l) = cleanCs l:=by simp [cleanCs,cleanC]
theorem cleanCs_any:cleanCs (.any :: l) = cleanCs l:=by simp [cleanCs,cleanC]
theorem cleanCs_ro {q:Nat → List AV}:cleanCs (.ro n sz q :: l) = cleanCs l:=by simp [cleanCs,cleanC]
theorem cleanCs_rop:cleanCs (.rop cs :: l) = cleanCs l:=by simp [cleanCs,cleanC]
theorem self_of_clean {c:AV} (h:cleanC c = true):selfC r c = true:=by cases c <;> first | exact h | simp [cleanC] at h
theorem famOK_1 (h:cleanCs cs = true):famOK r (fam1 ty sz cs none) = True:=eq_true fun f => by
 unfold fam1
 by_cases e:f = 0
 ·subst e
  exact ⟨rfl,fun j _ c hc => self_of_clean (cleanCs_mem h c (by simpa using hc))⟩
 ·simp only [e,if_false]
  exact ⟨trivial,fun j hj => by omega⟩
theorem famOK_N (h:∀ i,i < n → cleanCs (get i) = true):famOK r (famN n sz ty get none) = True:=eq_true fun f => by
 unfold famN
 by_cases e:f = 0
 ·subst e
  exact ⟨rfl,fun j hj c hc => self_of_clean (cleanCs_mem (h j (by simpa using hj)) c (by simpa using hc))⟩
 ·simp only [e,if_false]
  exact ⟨trivial,fun j hj => by omega⟩
theorem famOK_T (h:∀ i,i < N → cleanCs (get i) = true):famOK K (famT K N sz tp ty get) = True:=eq_true fun f => by
 cases f with
 | zero =>
  refine ⟨rfl,fun j _ c hc => ?_⟩
  simp only [famT,List.mem_singleton] at hc
  rw [hc]; simp [selfC]
 | succ f =>
  refine ⟨rfl,fun j hj c hc => ?_⟩
  simp only [famT] at hj hc
  split at hj
  ·rename_i hf
   have:j = 0:=by omega
   subst this
   exact self_of_clean (cleanCs_mem (h f hf) c (by simpa using hc))
  ·omega
theorem tabOK_T (h:∀ i,i < N → cleanCs (get i) = true):tabOK K N sz tp ty (famT K N sz tp ty get) = True:=eq_true ⟨fun f => by
 cases f <;> exact ⟨rfl,rfl,rfl,rfl,fun _ _ => rfl⟩,h⟩
theorem famT_get:(famT K N sz tp ty get (i + 1)).get 0 = get i:=(rfl)
theorem famT_n:(famT K N sz tp ty get (i + 1)).n = if i < N then 1 else 0:=(rfl)
theorem famT_sz:(famT K N sz tp ty get (i + 1)).sz = sz:=(rfl)
theorem fam1_get:(fam1 ty sz cs g 0).get i = cs:=(rfl)
theorem fam1_n:(fam1 ty sz cs g 0).n = 1:=(rfl)
theorem fam1_sz:(fam1 ty sz cs g 0).sz = sz:=(rfl)
theorem famN_get:(famN n sz ty get g 0).get i = get i:=(rfl)
theorem famN_n:(famN n sz ty get g 0).n = n:=(rfl)
theorem famN_sz:(famN n sz ty get g 0).sz = sz:=(rfl)
theorem famOK_Es {fam:Fam} (h:famOK r fam) (hc:cleanCs cs = true):famOK r (famE fam f i cs) = True:=eq_true (famOK_E h (cleanCs_mem hc))
theorem wb1_1:wb1 (fam1 ty sz cs g) l = fam1 ty sz l g:=by
 funext f
 unfold wb1 fam1
 by_cases e:f = 0 <;> simp [e]
theorem wb1_N {get:Nat → List AV}:wb1 (famN 1 sz ty get g) l = famN 1 sz ty (fun _ => l) g:=by
 funext f
 unfold wb1 famN
 by_cases e:f = 0 <;> simp [e]
end
attribute [go_sem] cleanCs_nil cleanCs_v cleanCs_any cleanCs_ro cleanCs_rop famOK_1 famOK_N famOK_T famOK_Es famE_n famE_sz famE_g famE_get famE_twice tabOK_T famT_get famT_n famT_sz fam1_get fam1_n fam1_sz famN_get famN_n famN_sz wb1_1 wb1_N famE_T lt_ite tupOf_nil tupOf_one tupOf_two retML_nil retML_cons retMS_some endMR_ret endMR_normal
end Go.Ax
end