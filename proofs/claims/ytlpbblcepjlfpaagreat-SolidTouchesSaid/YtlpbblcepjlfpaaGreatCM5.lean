/-
  The box of several boxes.
-/
import Derived.Test.YtlpbblcepjlfpaaGreatCM4
set_option linter.unusedVariables false
set_option linter.unusedSimpArgs false
section
set_option maxHeartbeats 1000000
set_option maxRecDepth 100000
namespace Go.Ax
open Go.Proofs
def boxes (n:Nat) (g:Nat → List AV):Prop:=∀ i,i < n → g i = [i64 (gx g 0 i),i64 (gx g 1 i),i64 (gx g 2 i),i64 (gx g 3 i)] ∧ inR (gx g 0 i) ∧ inR (gx g 1 i) ∧ inR (gx g 2 i) ∧ inR (gx g 3 i)
def mnS (A:Nat → Int):Nat → Int
 | 0 => 0
 | i + 1 => if i = 0 then A 0 else min (mnS A i) (A i)
def mxS (A:Nat → Int):Nat → Int
 | 0 => 0
 | i + 1 => if i = 0 then A 0 else max (mxS A i) (A i)
def okB (n:Nat) (A B C D:Nat → Int):Prop:=∀ i,i < n → checkBoxS (A i) (B i) (C i) (D i) = 0
instance {n:Nat} {A B C D:Nat → Int}:Decidable (okB n A B C D):=by unfold okB; exact inferInstance
def joinS (n:Nat) (A B C D:Nat → Int) (k:Nat):Int:=if okB n A B C D then (match k with
 | 0 => mnS A n
 | 1 => mnS B n
 | 2 => mxS C n
 | _ => mxS D n) else 0
def c29:Con
 | [.ro n 4 g] => some ([boxes n g,n ≤ 9223372036854775807],.agg [i64 (joinS n (gx g 0) (gx g 1) (gx g 2) (gx g 3) 0),i64 (joinS n (gx g 0) (gx g 1) (gx g 2) (gx g 3) 1),i64 (joinS n (gx g 0) (gx g 1) (gx g 2) (gx g 3) 2),i64 (joinS n (gx g 0) (gx g 1) (gx g 2) (gx g 3) 3)])
 | _ => none
theorem joinS_ok {n:Nat} {A B C D:Nat → Int} (h:okB n A B C D):joinS n A B C D 0 = mnS A n ∧ joinS n A B C D 1 = mnS B n ∧ joinS n A B C D 2 = mxS C n ∧ joinS n A B C D 3 = mxS D n:=by
 unfold joinS; rw [if_pos h,if_pos h,if_pos h,if_pos h]; exact ⟨rfl,rfl,rfl,rfl⟩
theorem joinS_no {n:Nat} {A B C D:Nat → Int} (h:¬ okB n A B C D) {k:Nat}:joinS n A B C D k = 0:=by
 simp only [joinS,if_neg h]
theorem okB_succ {i:Nat} {A B C D:Nat → Int} (h:okB i A B C D) (h0:checkBoxS (A i) (B i) (C i) (D i) = 0):okB (i + 1) A B C D:=fun k hk => by
 by_cases e:k = i
 ·subst e; exact h0
 ·exact h k (by omega)
theorem vc29 (n:Nat) (A B C D:Nat → Int) (hX:∀ i,i < n → inR (A i) ∧ inR (B i) ∧ inR (C i) ∧ inR (D i)) (hn:n ≤ 9223372036854775807):fnVC Tryz.prog [(15,c15)] [(9,⟨[(11,.slot 3),(13,.slot 3)],[(8,[.slot 3])]⟩),(10,⟨[(11,.slot 3),(13,.slot 3)],[(8,[.slot 3])]⟩)] Tryz.f29 [.ro n 4 fun i => [i64 (A i),i64 (B i),i64 (C i),i64 (D i)]] (· = .agg [i64 (joinS n A B C D 0),i64 (joinS n A B C D 1),i64 (joinS n A B C D 2),i64 (joinS n A B C D 3)]):=by
 refine fnVC_go (rs:=[.cell 2 47]) rfl rfl ?_
 simp only [go_sem]
 refine loopC_go (fun (i:Nat) => i ≤ n ∧ okB i A B C D) (fun i => n - i) (fun i => [(8,i64 i)]) (fun i => [(1,fam1 47 4 [i64 (mnS A i),i64 (mnS B i),i64 (mxS C i),i64 (mxS D i)] none)]) [0] [9,10,11,12,5,4,13,14,15,16,17,18,19,20,21,22,23,24,25,26,27,28,29,30,31,32,33,34,35,36,37,38,39,40,41,42,43,44,8] 0 (by kernel_rfl) ?_ ?_ ?_ ?_
 ·intro x _; simp [goodNames,asg]
 ·simp [okB]
 ·simp only [go_sem]; simp [mnS,mxS]
 ·intro i hi
  simp only [go_sem,c15]
  obtain ⟨hi1,hi2⟩:=hi
  refine ⟨fun h => ?_,fun h => ?_⟩
  ·have h1:i < n:=by omega
   obtain ⟨r1,r2,r3,r4⟩:=hX i h1
   refine ⟨by omega,h,fun z hz => ⟨r1,r2,r3,r4,fun hb => ?_,fun hb => ?_⟩⟩
   ·have hno:¬ okB n A B C D:=fun hf => by
     have:=hf i h1
     rw [← hz] at this
     simp [this] at hb
    simp only [joinS_no hno]
   ·have hz0:checkBoxS (A i) (B i) (C i) (D i) = 0:=by rw [← hz]; simpa using hb
    have hok:=okB_succ hi2 hz0
    refine ⟨fun h0 z hz' z1 k1 z2 k2 z3 k3 z4 k4 => ⟨i + 1,⟨by omega,hok⟩,by omega,by rw [wrap_i64] at k4; omega,?_⟩,fun h0 z hz' z1 k1 z2 k2 z3 k3 z4 k4 => ⟨i + 1,⟨by omega,hok⟩,by omega,by rw [wrap_i64] at k4; omega,?_⟩⟩
    ·have e:i = 0:=by simpa using h0
     subst e
     simp only [mnS,mxS,if_true]
     omega
    ·have e:¬ i = 0:=by simpa using h0
     simp only [mnS,mxS,if_neg e]
     exact ⟨hz',k1,k2,k3⟩
  ·have e:i = n:=by omega
   subst e
   obtain ⟨j1,j2,j3,j4⟩:=joinS_ok hi2
   rw [j1,j2,j3,j4]
theorem con29:ConOK Tryz.prog 29 c29:=ConOK.go (G:=[(15,c15)]) (H:=[(9,⟨[(11,.slot 3),(13,.slot 3)],[(8,[.slot 3])]⟩),(10,⟨[(11,.slot 3),(13,.slot 3)],[(8,[.slot 3])]⟩)]) (.cons con15 .nil) Tryz.func29 fun l ob r hc hob => by
 unfold c29 at hc
 split at hc
 ·rename_i n g
  cases hc
  have hs:boxes n g:=hob _ (by simp)
  exact ⟨[.ro n 4 fun i => [i64 (gx g 0 i),i64 (gx g 1 i),i64 (gx g 2 i),i64 (gx g 3 i)]],fun w I vs h => Rs_one (fun v => ro_alike fun i hi => (hs i hi).1) h,by kernel_rfl,vc29 n _ _ _ _ (fun i hi => (hs i hi).2) (hob _ (by simp))⟩
 ·cases hc
def modS (n m:Int):Int:=if n.tmod m < 0 then n.tmod m + m else n.tmod m
def c40:Con
 | [.v (.int .i64 n),.v (.int .i64 m)] => some ([0 < m,inR n,inR m],i64 (modS n m))
 | _ => none
theorem con40:ConOK Tryz.prog 40 c40:=ConOK.of (G:=[]) (H:=[]) .nil Tryz.func40 fun l ob r hc hob => by
 unfold c40 at hc
 split at hc
 ·rename_i n m
  cases hc
  refine ⟨by kernel_rfl,fnVC_go (rs:=[.tmp 4]) rfl rfl ?_⟩
  have h0:0 < m:=hob _ (by simp)
  have h1:inR n:=hob _ (by simp)
  have h2:inR m:=hob _ (by simp)
  simp only [go_sem]
  refine ⟨by omega,fun z hz => ⟨fun hn z1 k1 => ?_,fun hn => ?_⟩⟩
  ·have hb:-m < z:=by rw [hz]; have:=Int.lt_tmod_of_pos n h0; omega
   unfold inR at h2
   rw [wrap_in (by unfold inR; omega)] at k1
   unfold modS
   rw [← hz,if_pos hn,k1]
  ·unfold modS
   rw [← hz,if_neg hn]
 ·cases hc
theorem mul_bd {x y A B:Int} (hA:0 ≤ A) (hx:-A ≤ x ∧ x ≤ A) (hy:-B ≤ y ∧ y ≤ B):-(A * B) ≤ x * y ∧ x * y ≤ A * B:=by
 have h1:(x * y).natAbs = x.natAbs * y.natAbs:=Int.natAbs_mul x y
 have h2:x.natAbs * y.natAbs ≤ A.natAbs * B.natAbs:=Nat.mul_le_mul (by omega) (by omega)
 have h3:(A * B).natAbs = A.natAbs * B.natAbs:=Int.natAbs_mul A B
 have h4:0 ≤ A * B:=Int.mul_nonneg hA (by omega)
 omega
def sm (x:Int):Prop:=-4194304 ≤ x ∧ x ≤ 4194304
theorem sm_mul {x y:Int} (hx:sm x) (hy:sm y):-17592186044416 ≤ x * y ∧ x * y ≤ 17592186044416:=by
 have:=mul_bd (A:=4194304) (B:=4194304) (by omega) hx hy
 omega
def c104:Con
 | [.agg [.v (.int .i64 a),.v (.int .i64 b)],.agg [.v (.int .i64 c),.v (.int .i64 d)]] => some ([],.agg [i64 (IntKind.i64.wrap (c - a)),i64 (IntKind.i64.wrap (d - b))])
 | _ => none
theorem con104:ConOK Tryz.prog 104 c104:=ConOK.of (G:=[]) (H:=[]) .nil Tryz.func104 fun l ob r hc hob => by
 unfold c104 at hc
 split at hc
 ·cases hc
  refine ⟨by kernel_rfl,fnVC_go (rs:=[.cell 4 29]) rfl rfl ?_⟩
  simp only [go_sem]
  intro z h z1 h1
  subst h h1
  rfl
 ·cases hc
def c162:Con
 | [.agg [.v (.int .i64 a),.v (.int .i64 b)],.agg [.v (.int .i64 c),.v (.int .i64 d)]] => some ([],i64 (IntKind.i64.wrap (IntKind.i64.wrap (a * d) - IntKind.i64.wrap (b * c))))
 | _ => none
theorem con162:ConOK Tryz.prog 162 c162:=ConOK.of (G:=[]) (H:=[]) .nil Tryz.func162 fun l ob r hc hob => by
 unfold c162 at hc
 split at hc
 ·cases hc
  refine ⟨by kernel_rfl,fnVC_go (rs:=[.tmp 4]) rfl rfl ?_⟩
  simp only [go_sem]
  intro z h z1 h1 z2 h2
  rw [h2,h1,h]
 ·cases hc
def turnS (ax ay bx byy cx cy:Int):Int:=(bx - ax) * (cy - ay) - (byy - ay) * (cx - ax)
theorem turn_wrap {ax ay bx byy cx cy:Int} (ha:validS ax ay = true) (hb:validS bx byy = true) (hc:validS cx cy = true) :
  IntKind.i64.wrap (IntKind.i64.wrap (IntKind.i64.wrap (bx - ax) * IntKind.i64.wrap (cy - ay)) - IntKind.i64.wrap (IntKind.i64.wrap (byy - ay) * IntKind.i64.wrap (cx - ax))) = turnS ax ay bx byy cx cy:=by
 rw [validS_iff] at ha hb hc
 rw [wrap_in (x:=bx - ax) (by unfold inR; omega),wrap_in (x:=cy - ay) (by unfold inR; omega),wrap_in (x:=byy - ay) (by unfold inR; omega),wrap_in (x:=cx - ax) (by unfold inR; omega)]
 have h1:=sm_mul (x:=bx - ax) (y:=cy - ay) (by unfold sm; omega) (by unfold sm; omega)
 have h2:=sm_mul (x:=byy - ay) (y:=cx - ax) (by unfold sm; omega) (by unfold sm; omega)
 rw [wrap_in (x:=(bx - ax) * (cy - ay)) (by unfold inR; omega),wrap_in (x:=(byy - ay) * (cx - ax)) (by unfold inR; omega),wrap_in (by unfold inR; omega)]
 rfl
def c86:Con
 | [.agg [.v (.int .i64 a),.v (.int .i64 b)],.agg [.v (.int .i64 c),.v (.int .i64 d)],.agg [.v (.int .i64 e),.v (.int .i64 f)]] => some ([validS a b = true,validS c d = true,validS e f = true],i64 (turnS a b c d e f))
 | _ => none
theorem con86:ConOK Tryz.prog 86 c86:=ConOK.of (G:=[(162,c162),(104,c104)]) (H:=[]) (.cons con162 (.cons con104 .nil)) Tryz.func86 fun l ob r hc hob => by
 unfold c86 at hc
 split at hc
 ·rename_i a b c d e f
  cases hc
  have h1:validS a b = true:=hob _ (by simp)
  have h2:validS c d = true:=hob _ (by simp)
  have h3:validS e f = true:=hob _ (by simp)
  refine ⟨by kernel_rfl,fnVC_go (rs:=[.tmp 6]) rfl rfl ?_⟩
  simp only [go_sem,c162,c104]
  intro z k z1 k1 z2 k2 z3 k3 z4 k4
  subst k k1 k2 k3
  rw [k4,turn_wrap h1 h2 h3]
 ·cases hc
def sideS (a b c d e f:Int):Int:=if validS a b = true ∧ validS c d = true ∧ validS e f = true then (if 0 < turnS a b c d e f then 1 else if turnS a b c d e f < 0 then -1 else 0) else 0
def c55:Con
 | [.agg [.v (.int .i64 a),.v (.int .i64 b)],.agg [.v (.int .i64 c),.v (.int .i64 d)],.agg [.v (.int .i64 e),.v (.int .i64 f)]] => some ([inR a,inR b,inR c,inR d,inR e,inR f],i64 (sideS a b c d e f))
 | _ => none
theorem fair3 {a b c d e f:Int} {g:Nat → List AV} (h0:g 0 = [i64 a,i64 b]) (h1:g 1 = [i64 c,i64 d]) (h2:g 2 = [i64 e,i64 f]):fairS 3 (gx g 0) (gx g 1) = true ↔ (validS a b = true ∧ validS c d = true ∧ validS e f = true):=by
 rw [fairS_iff]
 constructor
 ·intro h
  have k0:=h 0 (by omega)
  have k1:=h 1 (by omega)
  have k2:=h 2 (by omega)
  simp only [gx,h0,h1,h2,gi_0,gi_1] at k0 k1 k2
  exact ⟨k0,k1,k2⟩
 ·intro h i hi
  have:i = 0 ∨ i = 1 ∨ i = 2:=by omega
  rcases this with rfl | rfl | rfl
  ·simp only [gx,h0,gi_0,gi_1]; exact h.1
  ·simp only [gx,h1,gi_0,gi_1]; exact h.2.1
  ·simp only [gx,h2,gi_0,gi_1]; exact h.2.2
theorem spots3 {a b c d e f:Int} {g:Nat → List AV} (h0:g 0 = [i64 a,i64 b]) (h1:g 1 = [i64 c,i64 d]) (h2:g 2 = [i64 e,i64 f]) (ha:inR a) (hb:inR b) (hc:inR c) (hd:inR d) (he:inR e) (hf:inR f):spots 3 g:=by
 intro i hi
 have:i = 0 ∨ i = 1 ∨ i = 2:=by omega
 rcases this with rfl | rfl | rfl
 ·simp only [gx,h0,gi_0,gi_1]; exact ⟨trivial,ha,hb⟩
 ·simp only [gx,h1,gi_0,gi_1]; exact ⟨trivial,hc,hd⟩
 ·simp only [gx,h2,gi_0,gi_1]; exact ⟨trivial,he,hf⟩
theorem con55:ConOK Tryz.prog 55 c55:=ConOK.of (G:=[(50,c50),(86,c86)]) (H:=[]) (.cons con50 (.cons con86 .nil)) Tryz.func55 fun l ob r hc hob => by
 unfold c55 at hc
 split at hc
 ·rename_i a b c d e f
  cases hc
  have ha:inR a:=hob _ (by simp)
  have hb:inR b:=hob _ (by simp)
  have hc:inR c:=hob _ (by simp)
  have hd:inR d:=hob _ (by simp)
  have he:inR e:=hob _ (by simp)
  have hf:inR f:=hob _ (by simp)
  refine ⟨by kernel_rfl,fnVC_go (rs:=[.tmp 6]) rfl rfl ?_⟩
  simp only [go_sem,c50,c86]
  intro z hz
  have hfair:=(Bool.eq_iff_iff.1 hz).trans (fair3 (a:=a) (b:=b) (c:=c) (d:=d) (e:=e) (f:=f) rfl rfl rfl)
  refine ⟨spots3 (a:=a) (b:=b) (c:=c) (d:=d) (e:=e) (f:=f) rfl rfl rfl ha hb hc hd he hf,?_⟩
  clear hz
  refine ⟨fun h t ht => ?_,fun h => ⟨fun x => x.elim,fun _ => ⟨fun x => x.elim,fun _ => ?_⟩⟩⟩
  ·have hv:=hfair.1 h
   refine ⟨hv.1,hv.2.1,hv.2.2,fun k => ?_,fun k => ⟨fun k2 => ?_,fun k2 => ?_⟩⟩
   ·unfold sideS; rw [if_pos hv,← ht,if_pos k]
   ·unfold sideS; rw [if_pos hv,← ht,if_neg k,if_pos k2]
   ·unfold sideS; rw [if_pos hv,← ht,if_neg k,if_neg k2]
  ·unfold sideS
   rw [if_neg (fun hv => by rw [hfair.2 hv] at h; cases h)]
 ·cases hc
end Go.Ax
end
section
/-
  Vectors.
-/
set_option maxHeartbeats 4000000
set_option maxRecDepth 100000
namespace Go.Ax
open Go.Proofs
theorem lay243:layT Tryz.prog 243 = some (true,2):=by kernel_rfl
theorem siz243:sizeT Tryz.prog 243 = 2:=by kernel_rfl
theorem inf243:(Tryz.prog.info? 243).isSome = true:=by kernel_rfl
theorem zer243:zeroT Tryz.prog 243 = some (.agg #[.int .i64 0,.int .i64 0]):=by kernel_rfl
theorem cnc243:concreteT Tryz.prog 243 = true:=by kernel_rfl
theorem off243_0:fOff Tryz.prog 243 0 = some 0:=by kernel_rfl
theorem fty243_0:fTy Tryz.prog 243 0 = some 2:=by kernel_rfl
theorem off243_1:fOff Tryz.prog 243 1 = some 1:=by kernel_rfl
theorem fty243_1:fTy Tryz.prog 243 1 = some 2:=by kernel_rfl
theorem plc243:bPlaces Tryz.prog 243 = some [(0,1),(1,1)]:=by kernel_rfl
attribute [go_sem] lay243 siz243 inf243 zer243 cnc243 off243_0 fty243_0 off243_1 fty243_1 plc243
abbrev nb (a:Nb):AV:=.agg [i64 a.1,bo a.2]
abbrev ve (a b:Nb):AV:=.agg [i64 a.1,bo a.2,i64 b.1,bo b.2]
def nRat (a b:Int):Nb:=(raV a b,raF a b || false)
def nDot (a b c d:Nb):Nb:=(ftV ((whV a.1 * whV b.1 + whV c.1 * whV d.1).tdiv 4294967296),ftF ((whV a.1 * whV b.1 + whV c.1 * whV d.1).tdiv 4294967296) || (whF a.1 a.2 || whF b.1 b.2 || whF c.1 c.2 || whF d.1 d.2))
def nHyp (a b:Nb):Nb:=(ftV (isq (whV a.1 * whV a.1 + whV b.1 * whV b.1).toNat),ftF (isq (whV a.1 * whV a.1 + whV b.1 * whV b.1).toNat) || (whF a.1 a.2 || whF b.1 b.2))
def nSub (a b:Nb):Nb:=(ftV (whV a.1 - whV b.1),ftF (whV a.1 - whV b.1) || (whF a.1 a.2 || whF b.1 b.2))
def nPos (a:Nb):Nb:=(if 0 < whV a.1 then whV a.1 else 0,whF a.1 a.2)
theorem nRat_rg {a b:Int}:rg (nRat a b).1:=raV_rg
theorem nDot_rg {a b c d:Nb}:rg (nDot a b c d).1:=ftV_rg _
theorem nHyp_rg {a b:Nb}:rg (nHyp a b).1:=ftV_rg _
theorem nSub_rg {a b:Nb}:rg (nSub a b).1:=ftV_rg _
def c47:Con
 | [.agg [.v (.int .i64 x),.v (.int .i64 y)]] => some ([inR x,inR y],ve (nRat x 256) (nRat y 256))
 | _ => none
theorem con47:ConOK Tryz.prog 47 c47:=ConOK.of (G:=[(98,c98)]) (H:=[(1,⟨[(7,.slot 2)],[]⟩)]) (.cons con98 .nil) Tryz.func47 fun l ob r hc hob => by
 unfold c47 at hc
 split at hc
 ·rename_i x y
  cases hc
  have h_0:inR x:=hob _ (by simp)
  have h_1:inR y:=hob _ (by simp)
  refine ⟨by kernel_rfl,fnVC_go (rs:=[.cell 2 38]) rfl rfl ?_⟩
  simp only [go_sem,c98]
  simp only [forall_eq]
  exact ⟨h_0,by unfold inR; omega,h_1,by unfold inR; omega,rfl⟩
 ·cases hc
def c113:Con
 | [.v (.int .i64 x)] => some ([inR x],nb (nRat x 256))
 | _ => none
theorem con113:ConOK Tryz.prog 113 c113:=ConOK.of (G:=[(98,c98)]) (H:=[]) (.cons con98 .nil) Tryz.func113 fun l ob r hc hob => by
 unfold c113 at hc
 split at hc
 ·rename_i x
  cases hc
  have h_0:inR x:=hob _ (by simp)
  refine ⟨by kernel_rfl,fnVC_go (rs:=[.cell 2 36]) rfl rfl ?_⟩
  simp only [go_sem,c98]
  simp only [forall_eq]
  exact ⟨h_0,by unfold inR; omega,rfl⟩
 ·cases hc
def c114:Con
 | [.agg [.v (.int .i64 x),.v (.bool e),.v (.int .i64 y),.v (.bool f)]] => some ([inR x,inR y],nb (nHyp (x,e) (y,f)))
 | _ => none
theorem con114:ConOK Tryz.prog 114 c114:=ConOK.of (G:=[(187,c187)]) (H:=[]) (.cons con187 .nil) Tryz.func114 fun l ob r hc hob => by
 unfold c114 at hc
 split at hc
 ·rename_i x e y f
  cases hc
  have h_0:inR x:=hob _ (by simp)
  have h_1:inR y:=hob _ (by simp)
  refine ⟨by kernel_rfl,fnVC_go (rs:=[.cell 2 36]) rfl rfl ?_⟩
  simp only [go_sem,c187]
  simp only [forall_eq]
  exact ⟨h_0,h_1,rfl⟩
 ·cases hc
def c116:Con
 | [.agg [.v (.int .i64 x),.v (.bool e),.v (.int .i64 y),.v (.bool f)],.agg [.v (.int .i64 k),.v (.bool g)]] => some ([inR x,inR y,inR k],ve (nMul (x,e) (k,g)) (nMul (y,f) (k,g)))
 | _ => none
theorem con116:ConOK Tryz.prog 116 c116:=ConOK.of (G:=[(95,c95)]) (H:=[(1,⟨[(9,.slot 4)],[]⟩)]) (.cons con95 .nil) Tryz.func116 fun l ob r hc hob => by
 unfold c116 at hc
 split at hc
 ·rename_i x e y f k g
  cases hc
  have h_0:inR x:=hob _ (by simp)
  have h_1:inR y:=hob _ (by simp)
  have h_2:inR k:=hob _ (by simp)
  refine ⟨by kernel_rfl,fnVC_go (rs:=[.cell 4 38]) rfl rfl ?_⟩
  simp only [go_sem,c95]
  simp only [forall_eq]
  exact ⟨h_0,h_2,h_1,h_2,rfl⟩
 ·cases hc
def c126:Con
 | [.agg [.v (.int .i64 x),.v (.bool e),.v (.int .i64 y),.v (.bool f)],.agg [.v (.int .i64 z),.v (.bool g),.v (.int .i64 t),.v (.bool h)]] => some ([inR x,inR y,inR z,inR t],nb (nDot (x,e) (z,g) (y,f) (t,h)))
 | _ => none
theorem con126:ConOK Tryz.prog 126 c126:=ConOK.of (G:=[(91,c91)]) (H:=[]) (.cons con91 .nil) Tryz.func126 fun l ob r hc hob => by
 unfold c126 at hc
 split at hc
 ·rename_i x e y f z g t h
  cases hc
  have h_0:inR x:=hob _ (by simp)
  have h_1:inR y:=hob _ (by simp)
  have h_2:inR z:=hob _ (by simp)
  have h_3:inR t:=hob _ (by simp)
  refine ⟨by kernel_rfl,fnVC_go (rs:=[.cell 4 36]) rfl rfl ?_⟩
  simp only [go_sem,c91]
  simp only [forall_eq]
  exact ⟨h_0,h_2,h_1,h_3,rfl⟩
 ·cases hc
def c110:Con
 | [.v (.int .i64 x),.v (.int .i64 y)] => some ([inR x,inR y],ve (nInt x) (nInt y))
 | _ => none
theorem con110:ConOK Tryz.prog 110 c110:=ConOK.of (G:=[(93,c93)]) (H:=[]) (.cons con93 .nil) Tryz.func110 fun l ob r hc hob => by
 unfold c110 at hc
 split at hc
 ·rename_i x y
  cases hc
  have h_0:inR x:=hob _ (by simp)
  have h_1:inR y:=hob _ (by simp)
  refine ⟨by kernel_rfl,fnVC_go (rs:=[.cell 4 38]) rfl rfl ?_⟩
  simp only [go_sem,c93]
  simp only [forall_eq]
  exact ⟨h_0,h_1,rfl⟩
 ·cases hc
def c124:Con
 | [.agg [.v (.int .i64 x),.v (.int .i64 y)]] => some ([inR x,inR y],ve (nInt x) (nInt y))
 | _ => none
theorem con124:ConOK Tryz.prog 124 c124:=ConOK.of (G:=[(110,c110)]) (H:=[]) (.cons con110 .nil) Tryz.func124 fun l ob r hc hob => by
 unfold c124 at hc
 split at hc
 ·rename_i x y
  cases hc
  have h_0:inR x:=hob _ (by simp)
  have h_1:inR y:=hob _ (by simp)
  refine ⟨by kernel_rfl,fnVC_go (rs:=[.cell 2 38]) rfl rfl ?_⟩
  simp only [go_sem,c110]
  simp only [forall_eq]
  exact ⟨h_0,h_1,trivial⟩
 ·cases hc
def c111:Con
 | [.agg [.v (.int .i64 x),.v (.bool f)]] => some ([inR x],nb (nPos (x,f)))
 | _ => none
theorem con111:ConOK Tryz.prog 111 c111:=ConOK.of (G:=[(186,c186)]) (H:=[]) (.cons con186 .nil) Tryz.func111 fun l ob r hc hob => by
 unfold c111 at hc
 split at hc
 ·rename_i x f
  cases hc
  have h_0:inR x:=hob _ (by simp)
  refine ⟨by kernel_rfl,fnVC_go (rs:=[.cell 2 36]) rfl rfl ?_⟩
  simp only [go_sem,c186]
  simp only [forall_eq]
  refine ⟨nums2 rfl rfl (by unfold inR; omega) h_0,?_⟩
  rw [mo2 rfl rfl,(sum2 (a:=0) (b:=x) (e:=false) (f:=f) rfl rfl).2]
  have c1:whV 0 = 0:=by decide
  have c2:whF 0 false = false:=by decide
  have e1:((-1:Int) = 1) = False:=by decide
  simp only [c1,c2,e1,false_and,false_or,eq_self,true_and,Bool.false_or]
  rfl
 ·cases hc
def c137:Con
 | [.agg [.v (.int .i64 x),.v (.int .i64 y)]] => some ([inR x,inR y],ve (nRat x 256) (nRat y 256))
 | _ => none
theorem con137:ConOK Tryz.prog 137 c137:=ConOK.of (G:=[(35,c35)]) (H:=[(1,⟨[(7,.slot 2)],[]⟩)]) (.cons con35 .nil) Tryz.func137 fun l ob r hc hob => by
 unfold c137 at hc
 split at hc
 ·rename_i x y
  cases hc
  have h_0:inR x:=hob _ (by simp)
  have h_1:inR y:=hob _ (by simp)
  refine ⟨by kernel_rfl,fnVC_go (rs:=[.cell 2 38]) rfl rfl ?_⟩
  simp only [go_sem,c35]
  simp only [forall_eq]
  exact ⟨h_0,by unfold inR; omega,h_1,by unfold inR; omega,rfl⟩
 ·cases hc
def c49:Con
 | [.agg [.v (.int .i64 v),.v (.bool f)]] => some ([inR v],ve (csV v f,csF v f) (snV v f,snF v f))
 | _ => none
theorem con49:ConOK Tryz.prog 49 c49:=ConOK.of (G:=[(99,c99),(100,c100)]) (H:=[(1,⟨[(5,.slot 2)],[]⟩)]) (.cons con99 (.cons con100 .nil)) Tryz.func49 fun l ob r hc hob => by
 unfold c49 at hc
 split at hc
 ·rename_i v f
  cases hc
  have h_0:inR v:=hob _ (by simp)
  refine ⟨by kernel_rfl,fnVC_go (rs:=[.cell 2 40]) rfl rfl ?_⟩
  simp only [go_sem,c99,c100]
  simp only [forall_eq]
  exact ⟨h_0,h_0,trivial⟩
 ·cases hc
def c199:Con
 | [.agg [.v (.int .i64 x),.v (.bool e),.v (.int .i64 y),.v (.bool f)],.agg [.v (.int .i64 z),.v (.bool g),.v (.int .i64 t),.v (.bool h)]] => some ([inR x,inR y,inR z,inR t],ve (nDot (x,e) (z,g) (nNeg (y,f)) (t,h)) (nDot (y,f) (z,g) (x,e) (t,h)))
 | _ => none
theorem con199:ConOK Tryz.prog 199 c199:=ConOK.of (G:=[(75,c75),(196,c196)]) (H:=[(1,⟨[(20,.slot 4)],[]⟩)]) (.cons con75 (.cons con196 .nil)) Tryz.func199 fun l ob r hc hob => by
 unfold c199 at hc
 split at hc
 ·rename_i x e y f z g t h
  cases hc
  have h_0:inR x:=hob _ (by simp)
  have h_1:inR y:=hob _ (by simp)
  have h_2:inR z:=hob _ (by simp)
  have h_3:inR t:=hob _ (by simp)
  refine ⟨by kernel_rfl,fnVC_go (rs:=[.cell 4 38]) rfl rfl ?_⟩
  simp only [go_sem,c75,c196]
  simp only [forall_eq]
  exact ⟨h_1,h_0,h_2,rg_inR (nNeg_rg (a:=(y,f)) h_1),h_3,h_1,h_2,h_0,h_3,rfl⟩
 ·cases hc
theorem nums1 {a:Int} {e:Bool} {g:Nat → List AV} (h0:g 0 = [i64 a,bo e]) (ha:inR a):nums 1 g:=by
 intro i hi
 have:i = 0:=by omega
 subst this
 simp only [gx,gb,h0,gi_0,gib_1]; exact ⟨trivial,ha⟩
def c198:Con
 | [.agg [.v (.int .i64 x),.v (.bool f)]] => some ([inR x],bo (whF x f))
 | _ => none
theorem con198:ConOK Tryz.prog 198 c198:=ConOK.of (G:=[(74,c74)]) (H:=[]) (.cons con74 .nil) Tryz.func198 fun l ob r hc hob => by
 unfold c198 at hc
 split at hc
 ·rename_i x f
  cases hc
  have h_0:inR x:=hob _ (by simp)
  refine ⟨by kernel_rfl,fnVC_go (rs:=[.tmp 2]) rfl rfl ?_⟩
  simp only [go_sem,c74]
  simp only [forall_eq]
  have e:suS (wvS (rowsOf 2 [i64 x,bo f])) 1 = whV x:=by
   show 0 + whV (gx (rowsOf 2 [i64 x,bo f]) 0 0) = _
   rw [Int.zero_add]; rfl
  have e2:wfS 1 (rowsOf 2 [i64 x,bo f]) = whF x f:=by
   show (false || whF (gx (rowsOf 2 [i64 x,bo f]) 0 0) (gb (rowsOf 2 [i64 x,bo f]) 1 0)) = _
   rfl
  rw [e,e2,ftF_of (whV_rg h_0)]
  exact ⟨nums1 rfl h_0,rfl⟩
 ·cases hc
def c153:Con
 | [.agg [.v (.int .i64 x),.v (.bool e),.v (.int .i64 y),.v (.bool f)]] => some ([inR x,inR y],i64 (if (whF x e = true ∨ whF y f = true) ∨ (65536 < (nDot (x,e) (x,e) (y,f) (y,f)).1 - 4294967296 ∨ 65536 < 4294967296 - (nDot (x,e) (x,e) (y,f) (y,f)).1) then 3 else 0))
 | _ => none
theorem con153:ConOK Tryz.prog 153 c153:=ConOK.of (G:=[(196,c196),(198,c198)]) (H:=[]) (.cons con196 (.cons con198 .nil)) Tryz.func153 fun l ob r hc hob => by
 unfold c153 at hc
 split at hc
 ·rename_i x e y f
  cases hc
  have h_0:inR x:=hob _ (by simp)
  have h_1:inR y:=hob _ (by simp)
  refine ⟨by kernel_rfl,fnVC_go (rs:=[.tmp 2]) rfl rfl ?_⟩
  simp only [go_sem,c196,c198]
  simp only [forall_eq]
  have k0:0 ≤ (whV x * whV x + whV y * whV y).tdiv 4294967296:=Int.tdiv_nonneg (by have:=sq_nonneg (a:=whV x); have:=sq_nonneg (a:=whV y); omega) (by omega)
  have k1:0 ≤ ftV ((whV x * whV x + whV y * whV y).tdiv 4294967296) ∧ ftV ((whV x * whV x + whV y * whV y).tdiv 4294967296) ≤ 9223372036854775807:=by unfold ftV; (repeat' split) <;> omega
  have e:(nDot (x,e) (x,e) (y,f) (y,f)).1 = ftV ((whV x * whV x + whV y * whV y).tdiv 4294967296):=rfl
  rw [e]
  generalize ftV ((whV x * whV x + whV y * whV y).tdiv 4294967296) = n at *
  rw [wrap_in (x:=n - 4294967296) (by unfold inR; omega),wrap_in (x:=4294967296 - n) (by unfold inR; omega)]
  refine ⟨h_0,h_0,h_1,h_1,h_0,fun _ => h_1,fun h => ?_,fun h => ?_⟩
  ·rw [if_pos (by rcases h with (h | h) | h
                  ·exact .inl h
                  ·exact .inr (.inl h)
                  ·exact .inr (.inr h))]
  ·rw [if_neg (by
    rintro ((k | k) | (k | k))
    ·rw [h.1.1.1] at k; cases k
    ·rw [h.1.1.2] at k; cases k
    ·exact h.1.2 k
    ·exact h.2 k)]
 ·cases hc
def c48:Con
 | [.v (.int .i64 n),.v (.int .i64 s)] => some ([inR n,1 ≤ s ∧ s ≤ 1000000],.agg [i64 (n.tmod (s * 4294967296)),bo false])
 | _ => none
theorem con48:ConOK Tryz.prog 48 c48:=ConOK.of (G:=[]) (H:=[]) .nil Tryz.func48 fun l ob r hc hob => by
 unfold c48 at hc
 split at hc
 ·rename_i n s
  cases hc
  have h_0:inR n:=hob _ (by simp)
  have h_1:1 ≤ s ∧ s ≤ 1000000:=hob _ (by simp)
  refine ⟨by kernel_rfl,fnVC_go (rs:=[.cell 4 36]) rfl rfl ?_⟩
  simp only [go_sem]
  intro z hz
  rw [wrap_in (by unfold inR; omega)] at hz
  rw [hz]
  exact ⟨by omega,fun z1 hz1 => by rw [hz1]⟩
 ·cases hc
def c101:Con
 | [.v (.int .i64 n)] => some ([],bo (decide (16 ≤ n ∧ n ≤ 4096)))
 | _ => none
theorem con101:ConOK Tryz.prog 101 c101:=ConOK.of (G:=[]) (H:=[]) .nil Tryz.func101 fun l ob r hc hob => by
 unfold c101 at hc
 split at hc
 ·rename_i n
  cases hc
  refine ⟨by kernel_rfl,fnVC_go (rs:=[.tmp 2]) rfl rfl ?_⟩
  simp only [go_sem]
  rw [Bool.eq_iff_iff]; simp
 ·cases hc
def c102:Con
 | [.v (.int .i64 n)] => some ([],bo (decide (-4096 ≤ n ∧ n ≤ 4096)))
 | _ => none
theorem con102:ConOK Tryz.prog 102 c102:=ConOK.of (G:=[]) (H:=[]) .nil Tryz.func102 fun l ob r hc hob => by
 unfold c102 at hc
 split at hc
 ·rename_i n
  cases hc
  refine ⟨by kernel_rfl,fnVC_go (rs:=[.tmp 2]) rfl rfl ?_⟩
  simp only [go_sem]
  rw [Bool.eq_iff_iff]; simp
 ·cases hc
def c182:Con
 | [.agg [.v (.int .i64 a),.v (.int .i64 b)],.agg [.v (.int .i64 c),.v (.int .i64 d)]] => some ([],i64 (IntKind.i64.wrap (a * d - b * c)))
 | _ => none
theorem con182:ConOK Tryz.prog 182 c182:=ConOK.of (G:=[]) (H:=[]) .nil Tryz.func182 fun l ob r hc hob => by
 unfold c182 at hc
 split at hc
 ·rename_i a b c d
  cases hc
  refine ⟨by kernel_rfl,fnVC_go (rs:=[.tmp 4]) rfl rfl ?_⟩
  simp only [go_sem]
  simp only [forall_eq]
  rw [wrap_i64,wrap_i64,wrap_i64,wrap_i64]
  generalize a * d = p
  generalize b * c = q
  omega
 ·cases hc
def c183:Con
 | [.agg [.v (.int .i64 a),.v (.int .i64 b)],.agg [.v (.int .i64 c),.v (.int .i64 d)]] => some ([],.agg [i64 (IntKind.i64.wrap (a - c)),i64 (IntKind.i64.wrap (b - d))])
 | _ => none
theorem con183:ConOK Tryz.prog 183 c183:=ConOK.of (G:=[]) (H:=[]) .nil Tryz.func183 fun l ob r hc hob => by
 unfold c183 at hc
 split at hc
 ·rename_i a b c d
  cases hc
  refine ⟨by kernel_rfl,fnVC_go (rs:=[.cell 4 29]) rfl rfl ?_⟩
  simp only [go_sem]
  simp only [forall_eq]
 ·cases hc
def c184:Con
 | [.agg [.v (.int .i64 a),.v (.int .i64 b)]] => some ([-1000000 ≤ a ∧ a ≤ 1000000,-1000000 ≤ b ∧ b ≤ 1000000],i64 (ab a + ab b))
 | _ => none
theorem con184:ConOK Tryz.prog 184 c184:=ConOK.of (G:=[]) (H:=[]) .nil Tryz.func184 fun l ob r hc hob => by
 unfold c184 at hc
 split at hc
 ·rename_i a b
  cases hc
  have h_0:-1000000 ≤ a ∧ a ≤ 1000000:=hob _ (by simp)
  have h_1:-1000000 ≤ b ∧ b ≤ 1000000:=hob _ (by simp)
  refine ⟨by kernel_rfl,fnVC_go (rs:=[.tmp 2]) rfl rfl ?_⟩
  simp only [go_sem]
  simp only [forall_eq]
  rw [wrap_in (x:=0 - a) (by unfold inR; omega),wrap_in (x:=0 - b) (by unfold inR; omega),wrap_in (by unfold inR; omega)]
  unfold ab
  split <;> split <;> omega
 ·cases hc
def c154:Con
 | [.agg [.v (.int .i64 a),.v (.bool e)]] => some ([inR a],bo (whF a e || decide (17592186044416 < ab (whV a))))
 | _ => none
theorem con154:ConOK Tryz.prog 154 c154:=ConOK.of (G:=[(25,c25)]) (H:=[]) (.cons con25 .nil) Tryz.func154 fun l ob r hc hob => by
 unfold c154 at hc
 split at hc
 ·rename_i a e
  cases hc
  have h_0:inR a:=hob _ (by simp)
  refine ⟨by kernel_rfl,fnVC_go (rs:=[.tmp 2]) rfl rfl ?_⟩
  simp only [go_sem,c25]
  simp only [forall_eq]
  exact ⟨h_0,trivial⟩
 ·cases hc
def spV (a:Nb):Int:=(whV (nMul a (nInt 256)).1 + 2147483648) / 4294967296
def c155:Con
 | [.agg [.v (.int .i64 a),.v (.bool e),.v (.int .i64 b),.v (.bool f)]] => some ([inR a,inR b],.agg [i64 (spV (a,e)),i64 (spV (b,f))])
 | _ => none
theorem con155:ConOK Tryz.prog 155 c155:=ConOK.of (G:=[(30,c30),(31,c31),(32,c32)]) (H:=[(2,⟨[(11,.slot 2)],[]⟩)]) (.cons con30 (.cons con31 (.cons con32 .nil))) Tryz.func155 fun l ob r hc hob => by
 unfold c155 at hc
 split at hc
 ·rename_i a e b f
  cases hc
  have h_0:inR a:=hob _ (by simp)
  have h_1:inR b:=hob _ (by simp)
  refine ⟨by kernel_rfl,fnVC_go (rs:=[.cell 2 29]) rfl rfl ?_⟩
  simp only [go_sem,c30,c31,c32]
  simp only [forall_eq]
  exact ⟨by unfold inR; omega,h_0,rg_inR (ftV_rg _),rg_inR (ftV_rg _),h_1,rg_inR (ftV_rg _),rg_inR (ftV_rg _),rfl⟩
 ·cases hc
def vfS (n:Nat) (g:Nat → List AV):Bool:=anyB (fun i => whF (gx g 0 i) (gb g 1 i) || whF (gx g 2 i) (gb g 3 i)) n
theorem gib_3 {a b c:AV} {x:Bool} {l:List AV}:gib (a :: b :: c :: .v (.bool x) :: l) 3 = x:=(rfl)
attribute [go_sem] gib_3
def vecs (n:Nat) (g:Nat → List AV):Prop:=∀ i,i < n → g i = [i64 (gx g 0 i),bo (gb g 1 i),i64 (gx g 2 i),bo (gb g 3 i)] ∧ inR (gx g 0 i) ∧ inR (gx g 2 i)
def c170:Con
 | [.agg [.v (.int .i64 x),.v (.bool e),.v (.int .i64 y),.v (.bool f)]] => some ([inR x,inR y],bo (whF x e || whF y f))
 | _ => none
theorem con170:ConOK Tryz.prog 170 c170:=ConOK.of (G:=[(127,c127)]) (H:=[]) (.cons con127 .nil) Tryz.func170 fun l ob r hc hob => by
 unfold c170 at hc
 split at hc
 ·rename_i x e y f
  cases hc
  have h_0:inR x:=hob _ (by simp)
  have h_1:inR y:=hob _ (by simp)
  refine ⟨by kernel_rfl,fnVC_go (rs:=[.tmp 2]) rfl rfl ?_⟩
  simp only [go_sem,c127]
  simp only [forall_eq]
  exact ⟨h_0,fun _ => h_1,trivial⟩
 ·cases hc
def ixS (G:Nat → Bool):Nat → Nat → Int
 | _,0 => -1
 | i,k + 1 => if G i = true then i else ixS G (i + 1) k
theorem ixS_any {G:Nat → Bool} {n:Nat}:∀ (k i:Nat),i + k = n → (∀ j,j < i → G j = false) → decide (0 ≤ ixS G i k) = anyB G n
 | 0,i,h,hj => by
  have:anyB G n = false:=by
   rw [Bool.eq_false_iff]
   intro hc
   obtain ⟨j,h1,h2⟩:=anyB_iff.1 hc
   rw [hj j (by omega)] at h2; cases h2
  rw [this]; rfl
 | k + 1,i,h,hj => by
  unfold ixS
  by_cases hg:G i = true
  ·rw [if_pos hg,decide_eq_true (by omega)]
   exact (anyB_iff.2 ⟨i,by omega,hg⟩).symm
  ·rw [if_neg hg]
   exact ixS_any k (i + 1) (by omega) fun j hj2 => by
    by_cases e:j = i
    ·subst e; exact Bool.eq_false_iff.2 hg
    ·exact hj j (by omega)
def vflS (g:Nat → List AV) (i:Nat):Bool:=whF (gx g 0 i) (gb g 1 i) || whF (gx g 2 i) (gb g 3 i)
def c205:Con
 | [.ro n 4 g,.fn 170 []] => some ([vecs n g,n ≤ 1000],i64 (ixS (vflS g) 0 n))
 | _ => none
theorem vc205 (n:Nat) (X Y:Nat → Int) (E F:Nat → Bool) (hX:∀ i,i < n → inR (X i) ∧ inR (Y i)) (hn:n ≤ 1000):fnVC Tryz.prog [(170,c170)] [] Tryz.f205 [.ro n 4 fun i => [i64 (X i),bo (E i),i64 (Y i),bo (F i)],.fn 170 []] (· = i64 (ixS (fun i => whF (X i) (E i) || whF (Y i) (F i)) 0 n)):=by
 refine fnVC_go (rs:=[.tmp 4]) rfl rfl ?_
 simp only [go_sem]
 refine loopC_go (fun (i:Nat) => i ≤ n ∧ ixS (fun i => whF (X i) (E i) || whF (Y i) (F i)) 0 n = ixS (fun i => whF (X i) (E i) || whF (Y i) (F i)) i (n - i)) (fun i => n - i) (fun i => [(8,i64 i)]) (fun _ => []) [] [9,10,5,11,12,13,14,15,16,17,4,18,8] 0 (by kernel_rfl) ?_ ⟨Nat.zero_le _,rfl⟩ ?_ ?_
 ·intro x _; simp [goodNames]
 ·simp only [go_sem]
 ·intro i hi
  simp only [go_sem,c170]
  generalize hG:(fun i => whF (X i) (E i) || whF (Y i) (F i)) = G at *
  have hGi:G i = (whF (X i) (E i) || whF (Y i) (F i)):=by rw [← hG]
  rw [← hGi]
  refine ⟨fun h => ⟨by omega,h,fun z hz => ⟨(hX i (by omega)).1,(hX i (by omega)).2,fun hz1 => ?_,fun hz1 z2 hz2 => ⟨i + 1,⟨by omega,?_⟩,by omega,?_⟩⟩⟩,fun h => ?_⟩
  ·rw [hi.2,show n - i = (n - i - 1) + 1 by omega]
   unfold ixS
   rw [if_pos (by rw [← hz]; exact hz1)]
  ·rw [hi.2,show n - i = (n - i - 1) + 1 by omega]
   conv => lhs; unfold ixS
   rw [if_neg (by rw [← hz,hz1]; decide),show n - (i + 1) = n - i - 1 by omega]
  ·rw [hz2,wrap_in (by unfold inR; omega)]; rfl
  ·rw [hi.2,show n - i = 0 by omega]; rfl
theorem con205:ConOK Tryz.prog 205 c205:=ConOK.go (G:=[(170,c170)]) (H:=[]) (.cons con170 .nil) Tryz.func205 fun l ob r hc hob => by
 unfold c205 at hc
 split at hc
 ·rename_i n g
  cases hc
  have hs:vecs n g:=hob _ (by simp)
  refine ⟨[.ro n 4 fun i => [i64 (gx g 0 i),bo (gb g 1 i),i64 (gx g 2 i),bo (gb g 3 i)],.fn 170 []],fun w I vs h => ?_,by kernel_rfl,vc205 n _ _ _ _ (fun i hi => (hs i hi).2) (hob _ (by simp))⟩
  obtain ⟨x,xs,rfl,h1,h2⟩:=h.inv
  exact .cons (ro_alike (fun i hi => (hs i hi).1) h1) h2
 ·cases hc
def c169:Con
 | [.ro n 4 g,.fn 170 []] => some ([vecs n g,n ≤ 1000],bo (vfS n g))
 | _ => none
theorem con169:ConOK Tryz.prog 169 c169:=ConOK.of (G:=[(205,c205)]) (H:=[]) (.cons con205 .nil) Tryz.func169 fun l ob r hc hob => by
 unfold c169 at hc
 split at hc
 ·rename_i n g
  cases hc
  have h_0:vecs n g:=hob _ (by simp)
  have h_1:n ≤ 1000:=hob _ (by simp)
  refine ⟨by kernel_rfl,fnVC_go (rs:=[.tmp 4]) rfl rfl ?_⟩
  simp only [go_sem,c205]
  simp only [forall_eq]
  exact ⟨h_0,h_1,ixS_any n 0 (by omega) fun j hj => by omega⟩
 ·cases hc
def c90:Con
 | [.ro n 4 g] => some ([vecs n g,n ≤ 1000],bo (vfS n g))
 | _ => none
theorem con90:ConOK Tryz.prog 90 c90:=ConOK.of (G:=[(169,c169)]) (H:=[]) (.cons con169 .nil) Tryz.func90 fun l ob r hc hob => by
 unfold c90 at hc
 split at hc
 ·rename_i n g
  cases hc
  have h_0:vecs n g:=hob _ (by simp)
  have h_1:n ≤ 1000:=hob _ (by simp)
  refine ⟨by kernel_rfl,fnVC_go (rs:=[.tmp 2]) rfl rfl ?_⟩
  simp only [go_sem,c169]
  simp only [forall_eq]
  exact ⟨h_0,h_1,trivial⟩
 ·cases hc
theorem vecs1 {a b:Int} {e f:Bool} {g:Nat → List AV} (h0:g 0 = [i64 a,bo e,i64 b,bo f]) (ha:inR a) (hb:inR b):vecs 1 g:=by
 intro i hi
 have:i = 0:=by omega
 subst this
 simp only [gx,gb,h0,gi_0,gib_1,gi_2,gib_3]; exact ⟨trivial,ha,hb⟩
theorem vf1 {a b:Int} {e f:Bool} {g:Nat → List AV} (h0:g 0 = [i64 a,bo e,i64 b,bo f]):vfS 1 g = (whF a e || whF b f):=by
 simp only [vfS,anyB,gx,gb,h0,gi_0,gib_1,gi_2,gib_3,Bool.false_or]
def unB (x y:Int):Nb × Nb:=if ab x < 16777216 ∧ ab y < 16777216 then ((x * 16777216,false),(y * 16777216,false)) else ((x,false),(y,false))
def unS (x:Int) (e:Bool) (y:Int) (f:Bool):Bool × Nb × Nb:=
 if whF x e = true ∨ whF y f = true then (false,(0,false),(0,false))
 else if (nHyp (unB x y).1 (unB x y).2).2 = true ∨ (nHyp (unB x y).1 (unB x y).2).1 = 0 then (false,(0,false),(0,false))
 else (true,nDiv (unB x y).1 (nHyp (unB x y).1 (unB x y).2),nDiv (unB x y).2 (nHyp (unB x y).1 (unB x y).2))
theorem wh_split {v:Int} {f:Bool} (h:whF v f = false):v ≠ -9223372036854775808 ∧ f = false:=by
 unfold whF at h
 rw [Bool.or_eq_false_iff] at h
 exact ⟨of_decide_eq_false h.1,h.2⟩
theorem unS_none {x y:Int} {e f:Bool} (h:whF x e = true ∨ whF y f = true):unS x e y f = (false,(0,false),(0,false)):=by unfold unS; rw [if_pos h]
theorem unS_nul {x y:Int} {e f:Bool} {a b:Nb} (h:¬ (whF x e = true ∨ whF y f = true)) (hb:unB x y = (a,b)) (h2:(nHyp a b).2 = true ∨ (nHyp a b).1 = 0):unS x e y f = (false,(0,false),(0,false)):=by unfold unS; rw [if_neg h,hb,if_pos h2]
theorem unS_some {x y:Int} {e f:Bool} {a b:Nb} (h:¬ (whF x e = true ∨ whF y f = true)) (hb:unB x y = (a,b)) (h2:¬ ((nHyp a b).2 = true ∨ (nHyp a b).1 = 0)):unS x e y f = (true,nDiv a (nHyp a b),nDiv b (nHyp a b)):=by unfold unS; rw [if_neg h,hb,if_neg h2]
def c109:Con
 | [.agg [.v (.int .i64 x),.v (.bool e),.v (.int .i64 y),.v (.bool f)]] => some ([inR x,inR y],.tup [ve (unS x e y f).2.1 (unS x e y f).2.2,bo (unS x e y f).1])
 | _ => none
theorem con109:ConOK Tryz.prog 109 c109:=ConOK.of (G:=[(90,c90),(114,c114),(115,c115)]) (H:=[(8,⟨[(9,.slot 2)],[]⟩)]) (.cons con90 (.cons con114 (.cons con115 .nil))) Tryz.func109 fun l ob r hc hob => by
 unfold c109 at hc
 split at hc
 ·rename_i x e y f
  cases hc
  have h_0:inR x:=hob _ (by simp)
  have h_1:inR y:=hob _ (by simp)
  refine ⟨by kernel_rfl,fnVC_go (rs:=[.cell 2 38,.tmp 3]) rfl rfl ?_⟩
  simp only [go_sem,c90,c114,c115]
  intro z hz
  refine ⟨vecs1 rfl h_0 h_1,fun ht => ?_,fun ht z1 hz1 z2 hz2 z3 hz3 => ?_⟩
  ·rw [hz,vf1 rfl] at ht
   have ht:whF x e = true ∨ whF y f = true:=by simpa using ht
   rw [unS_none ht]
  ·rw [hz,vf1 rfl] at ht
   have ht2:whF x e = false ∧ whF y f = false:=by simpa using ht
   have ht:¬ (whF x e = true ∨ whF y f = true):=by rw [ht2.1,ht2.2]; simp
   obtain ⟨hx,rfl⟩:=wh_split ht2.1
   obtain ⟨hy,rfl⟩:=wh_split ht2.2
   have hm:z3 < 16777216 ↔ ab x < 16777216 ∧ ab y < 16777216:=by
    rw [hz3,hz1,hz2,wrap_in (by unfold inR at *; omega),wrap_in (by unfold inR at *; omega)]
    unfold ab
    split <;> split <;> omega
   refine ⟨fun hs => ?_,fun hs => ?_⟩
   ·have hs:=hm.1 hs
    have hxb:-16777216 < x ∧ x < 16777216:=by unfold ab at hs; have:=hs.1; split at this <;> omega
    have hyb:-16777216 < y ∧ y < 16777216:=by unfold ab at hs; have:=hs.2; split at this <;> omega
    have hb:unB x y = ((x * 16777216,false),(y * 16777216,false)):=by unfold unB; rw [if_pos hs]
    rw [wrap_in (x:=x * 16777216) (by unfold inR; omega),wrap_in (x:=y * 16777216) (by unfold inR; omega)]
    simp only [forall_eq]
    refine ⟨by unfold inR; omega,by unfold inR; omega,fun h => ?_,fun h => ⟨by unfold inR; omega,rg_inR nHyp_rg,by unfold inR; omega,rg_inR nHyp_rg,?_⟩⟩
    ·rw [unS_nul ht hb (by simpa using h)]
    ·rw [unS_some ht hb (by simpa using h)]
     rfl
   ·have hs:¬ (ab x < 16777216 ∧ ab y < 16777216):=fun h => hs (hm.2 h)
    have hb:unB x y = ((x,false),(y,false)):=by unfold unB; rw [if_neg hs]
    simp only [forall_eq]
    refine ⟨h_0,h_1,fun h => ?_,fun h => ⟨h_0,rg_inR nHyp_rg,h_1,rg_inR nHyp_rg,?_⟩⟩
    ·rw [unS_nul ht hb (by simpa using h)]
    ·rw [unS_some ht hb (by simpa using h)]
     rfl
 ·cases hc
theorem unS_rg {x y:Int} {e f:Bool}:rg (unS x e y f).2.1.1 ∧ rg (unS x e y f).2.2.1:=by
 have z:rg 0:=by unfold rg; omega
 unfold unS
 split
 ·exact ⟨z,z⟩
 ·split
  ·exact ⟨z,z⟩
  ·exact ⟨nDiv_rg,nDiv_rg⟩
def noS (a b c d:Int):Bool × Nb × Nb:=unS (nInt (d - b)).1 (nInt (d - b)).2 (nInt (-(c - a))).1 (nInt (-(c - a))).2
def c120:Con
 | [.agg [.v (.int .i64 a),.v (.int .i64 b)],.agg [.v (.int .i64 c),.v (.int .i64 d)]] => some ([validS a b = true,validS c d = true],ve (noS a b c d).2.1 (noS a b c d).2.2)
 | _ => none
theorem con120:ConOK Tryz.prog 120 c120:=ConOK.of (G:=[(104,c104),(124,c124),(109,c109)]) (H:=[]) (.cons con104 (.cons con124 (.cons con109 .nil))) Tryz.func120 fun l ob r hc hob => by
 unfold c120 at hc
 split at hc
 ·rename_i a b c d
  cases hc
  have h_0:validS a b = true:=hob _ (by simp)
  have h_1:validS c d = true:=hob _ (by simp)
  refine ⟨by kernel_rfl,fnVC_go (rs:=[.cell 4 38]) rfl rfl ?_⟩
  simp only [go_sem,c104,c124,c109]
  have v1:=validS_iff.1 h_0
  have v2:=validS_iff.1 h_1
  simp only [forall_eq]
  rw [wrap_in (x:=c - a) (by unfold inR; omega),wrap_in (x:=d - b) (by unfold inR; omega),wrap_in (x:=0 - (c - a)) (by unfold inR; omega),show (0:Int) - (c - a) = -(c - a) by omega]
  exact ⟨by unfold inR; omega,by unfold inR; omega,rg_inR nInt_rg,rg_inR nInt_rg,rfl⟩
 ·cases hc
theorem suS_congr {X Y:Nat → Int}:∀ {n:Nat},(∀ i,i < n → X i = Y i) → suS X n = suS Y n
 | 0,_ => rfl
 | n + 1,h => by unfold suS; rw [suS_congr (n:=n) fun i hi => h i (by omega),h n (by omega)]
theorem anyB_congr {X Y:Nat → Bool}:∀ {n:Nat},(∀ i,i < n → X i = Y i) → anyB X n = anyB Y n
 | 0,_ => rfl
 | n + 1,h => by unfold anyB; rw [anyB_congr (n:=n) fun i hi => h i (by omega),h n (by omega)]
def upB (i:Nat) (Z:Nat → Bool) (j:Nat):Bool:=if j < i then Z j else false
theorem upB_zero {Z:Nat → Bool} {j:Nat}:upB 0 Z j = false:=by unfold upB; rw [if_neg (by omega)]
theorem upB_self {i:Nat} {Z:Nat → Bool}:upB (i + 1) Z i = Z i:=by unfold upB; rw [if_pos (by omega)]
theorem upB_lt {i j:Nat} {Z:Nat → Bool} (h:j < i):upB i Z j = Z j:=by unfold upB; rw [if_pos h]
theorem upB_ne {i j:Nat} {Z:Nat → Bool} (h:j ≠ i):upB (i + 1) Z j = upB i Z j:=by
 unfold upB
 by_cases e:j < i
 ·rw [if_pos e,if_pos (by omega)]
 ·rw [if_neg e,if_neg (by omega)]
def su1 (n:Nat) (X:Nat → Int) (E:Nat → Bool):Nb:=(ftV (suS (fun i => whV (X i)) n),ftF (suS (fun i => whV (X i)) n) || anyB (fun i => whF (X i) (E i)) n)
theorem wvS_up {n:Nat} {X:Nat → Int} {E:Nat → Bool} {g:Nat → List AV} (h:∀ j,j < n → g j = [i64 (X j),bo (E j)]):suS (wvS g) n = suS (fun i => whV (X i)) n ∧ wfS n g = anyB (fun i => whF (X i) (E i)) n:=
 ⟨suS_congr fun i hi => by simp only [wvS,gx,h i hi,gi_0],anyB_congr fun i hi => by simp only [gx,gb,h i hi,gi_0,gib_1]⟩
theorem nums_up {n:Nat} {X:Nat → Int} {E:Nat → Bool} {g:Nat → List AV} (h:∀ j,j < n → g j = [i64 (X j),bo (E j)]) (hX:∀ j,j < n → inR (X j)):nums n g:=fun i hi => by
 simp only [gx,gb,h i hi,gi_0,gib_1]; exact ⟨trivial,hX i hi⟩
def c96:Con
 | [.ro n 4 g] => some ([vecs n g,n ≤ 1000],ve (su1 n (gx g 0) (gb g 1)) (su1 n (gx g 2) (gb g 3)))
 | _ => none
theorem vc96 (n:Nat) (X Y:Nat → Int) (E F:Nat → Bool) (hX:∀ i,i < n → inR (X i) ∧ inR (Y i)) (hn:n ≤ 1000):fnVC Tryz.prog [(178,c178)] [(5,⟨[(9,.slot 3),(11,.slot 4)],[(7,[.slot 3])]⟩)] Tryz.f96 [.ro n 4 fun i => [i64 (X i),bo (E i),i64 (Y i),bo (F i)]] (· = ve (su1 n X E) (su1 n Y F)):=by
 refine fnVC_go (rs:=[.cell 2 38]) rfl rfl ?_
 simp only [go_sem]
 have hb:((bytesT Tryz.prog 36:Nat):Int) * (n:Int) ≤ 281474976710656:=by rw [show bytesT Tryz.prog 36 = 16 by kernel_rfl]; omega
 refine ⟨by omega,by omega,hb,by omega,by omega,hb,?_⟩
 refine loopC_go (fun (i:Nat) => i ≤ n) (fun i => n - i) (fun i => [(15,i64 i)]) (fun i => [(6,famN n 2 36 (fun j => [i64 (uptN i Y j),bo (upB i F j)]) none),(3,famN n 2 36 (fun j => [i64 (uptN i X j),bo (upB i E j)]) none)]) [0] [16,17,18,19,6,5,20,21,22,23,24,25,26,27,28,29,30,15] 0 (by kernel_rfl) ?_ (Nat.zero_le _) ?_ ?_
 ·intro x _; simp [goodNames,asg]
 ·simp only [go_sem,uptN_zero,upB_zero,implies_true]
 ·intro i hi
  simp only [go_sem,c178]
  have hw:IntKind.i64.wrap ((i:Int) + 1) = ((i + 1:Nat):Int):=by rw [wrap_in (by unfold inR; omega)]; rfl
  refine ⟨fun hin => ⟨by omega,hin,by omega,hin,by omega,by omega,hin,by omega,fun z hz => ⟨i + 1,by omega,by omega,by rw [hz,hw],fun j hj => ?_,fun j hj => ?_⟩⟩,fun hin => ?_⟩
  ·by_cases e:j = i
   ·subst e
    rw [if_pos rfl]
    simp only [go_sem,uptN_self,upB_self]
   ·rw [if_neg e]
    have h1:∀ Z,uptN (i + 1) Z j = uptN i Z j:=fun Z => uptN_ne e
    have h2:∀ Z,upB (i + 1) Z j = upB i Z j:=fun Z => upB_ne e
    simp only [go_sem,h1,h2]
  ·by_cases e:j = i
   ·subst e
    rw [if_pos rfl]
    simp only [go_sem,uptN_self,upB_self]
   ·rw [if_neg e]
    have h1:∀ Z,uptN (i + 1) Z j = uptN i Z j:=fun Z => uptN_ne e
    have h2:∀ Z,upB (i + 1) Z j = upB i Z j:=fun Z => upB_ne e
    simp only [go_sem,h1,h2]
  ·have e:i = n:=by omega
   subst e
   have hx:∀ j,j < i → (fun j => [i64 (uptN i X j),bo (upB i E j)]) j = [i64 (X j),bo (E j)]:=fun j hj => by dsimp only; rw [uptN_lt hj,upB_lt hj]
   have hy:∀ j,j < i → (fun j => [i64 (uptN i Y j),bo (upB i F j)]) j = [i64 (Y j),bo (F j)]:=fun j hj => by dsimp only; rw [uptN_lt hj,upB_lt hj]
   obtain ⟨e1,e2⟩:=wvS_up hx
   obtain ⟨e3,e4⟩:=wvS_up hy
   simp only [forall_eq,e1,e2,e3,e4]
   exact ⟨nums_up hx fun j hj => (hX j hj).1,hn,nums_up hy fun j hj => (hX j hj).2,hn,rfl⟩
theorem con96:ConOK Tryz.prog 96 c96:=ConOK.go (G:=[(178,c178)]) (H:=[(5,⟨[(9,.slot 3),(11,.slot 4)],[(7,[.slot 3])]⟩)]) (.cons con178 .nil) Tryz.func96 fun l ob r hc hob => by
 unfold c96 at hc
 split at hc
 ·rename_i n g
  cases hc
  have hs:vecs n g:=hob _ (by simp)
  exact ⟨[.ro n 4 fun i => [i64 (gx g 0 i),bo (gb g 1 i),i64 (gx g 2 i),bo (gb g 3 i)]],fun w I vs h => Rs_one (fun v => ro_alike fun i hi => (hs i hi).1) h,by kernel_rfl,vc96 n _ _ _ _ (fun i hi => (hs i hi).2) (hob _ (by simp))⟩
 ·cases hc
theorem vecs2 {a b c d:Int} {e f p q:Bool} {g:Nat → List AV} (h0:g 0 = [i64 a,bo e,i64 b,bo f]) (h1:g 1 = [i64 c,bo p,i64 d,bo q]) (ha:inR a) (hb:inR b) (hc:inR c) (hd:inR d):vecs 2 g:=by
 intro i hi
 have:i = 0 ∨ i = 1:=by omega
 rcases this with rfl | rfl
 ·simp only [gx,gb,h0,gi_0,gib_1,gi_2,gib_3]; exact ⟨trivial,ha,hb⟩
 ·simp only [gx,gb,h1,gi_0,gib_1,gi_2,gib_3]; exact ⟨trivial,hc,hd⟩
theorem su2x {a b c d:Int} {e f p q:Bool} {g:Nat → List AV} (h0:g 0 = [i64 a,bo e,i64 b,bo f]) (h1:g 1 = [i64 c,bo p,i64 d,bo q]):su1 2 (gx g 0) (gb g 1) = nAdd (a,e) (c,p):=by
 unfold su1 nAdd
 simp only [suS,anyB,gx,gb,h0,h1,gi_0,gib_1,Bool.false_or,Int.zero_add]
theorem su2y {a b c d:Int} {e f p q:Bool} {g:Nat → List AV} (h0:g 0 = [i64 a,bo e,i64 b,bo f]) (h1:g 1 = [i64 c,bo p,i64 d,bo q]):su1 2 (gx g 2) (gb g 3) = nAdd (b,f) (d,q):=by
 unfold su1 nAdd
 simp only [suS,anyB,gx,gb,h0,h1,gi_2,gib_3,Bool.false_or,Int.zero_add]
end Go.Ax
end
section
/-
  The laws of boxes: what the functions hand back.
-/
set_option maxHeartbeats 2000000
set_option maxRecDepth 100000
namespace Go.Ax
open Go.Proofs
def joinT (a b c d e f g h:Int) (k:Nat):Int:=if checkBoxS a b c d = 0 ∧ checkBoxS e f g h = 0 then (match k with
 | 0 => min a e
 | 1 => min b f
 | 2 => max c g
 | _ => max d h) else 0
theorem rows_0 {a b c d:AV} {l:List AV}:rowsOf 4 (a :: b :: c :: d :: l) 0 = [a,b,c,d]:=(rfl)
theorem rows_1 {a b c d e f g h:AV} {l:List AV}:rowsOf 4 (a :: b :: c :: d :: e :: f :: g :: h :: l) 1 = [e,f,g,h]:=(rfl)
theorem boxes_2 {a b c d e f g h:Int}:boxes 2 (rowsOf 4 [i64 a,i64 b,i64 c,i64 d,i64 e,i64 f,i64 g,i64 h]) = ((inR a ∧ inR b ∧ inR c ∧ inR d) ∧ inR e ∧ inR f ∧ inR g ∧ inR h):=propext ⟨fun H => by
  have h0:=(H 0 (by omega)).2
  have h1:=(H 1 (by omega)).2
  simp only [gx,rows_0,rows_1,gi_0,gi_1,gi_2,gi_3] at h0 h1
  exact ⟨h0,h1⟩,fun ⟨h0,h1⟩ i hi => by
  have:i = 0 ∨ i = 1:=by omega
  rcases this with rfl | rfl
  ·simp only [gx,rows_0,gi_0,gi_1,gi_2,gi_3]; exact ⟨trivial,h0⟩
  ·simp only [gx,rows_1,gi_0,gi_1,gi_2,gi_3]; exact ⟨trivial,h1⟩⟩
theorem okB_2 {A B C D:Nat → Int}:okB 2 A B C D ↔ checkBoxS (A 0) (B 0) (C 0) (D 0) = 0 ∧ checkBoxS (A 1) (B 1) (C 1) (D 1) = 0:=
 ⟨fun h => ⟨h 0 (by omega),h 1 (by omega)⟩,fun ⟨h0,h1⟩ i hi => by
  have:i = 0 ∨ i = 1:=by omega
  rcases this with rfl | rfl <;> assumption⟩
theorem join_2 {a b c d e f g h:Int} {k:Nat} (hk:k < 4):joinS 2 (gx (rowsOf 4 [i64 a,i64 b,i64 c,i64 d,i64 e,i64 f,i64 g,i64 h]) 0) (gx (rowsOf 4 [i64 a,i64 b,i64 c,i64 d,i64 e,i64 f,i64 g,i64 h]) 1) (gx (rowsOf 4 [i64 a,i64 b,i64 c,i64 d,i64 e,i64 f,i64 g,i64 h]) 2) (gx (rowsOf 4 [i64 a,i64 b,i64 c,i64 d,i64 e,i64 f,i64 g,i64 h]) 3) k = joinT a b c d e f g h k:=by
 unfold joinS joinT
 simp only [okB_2,mnS,mxS,gx,rows_0,rows_1,gi_0,gi_1,gi_2,gi_3]
 have:k = 0 ∨ k = 1 ∨ k = 2 ∨ k = 3:=by omega
 rcases this with rfl | rfl | rfl | rfl <;> simp
attribute [go_sem] boxes_2 join_2 Nat.lt_irrefl
def c16:Con
 | [] => some ([],bo true)
 | _ => none
theorem con16:ConOK Tryz.prog 16 c16:=ConOK.of (G:=[(28,c28),(55,c55)]) (H:=[]) (.cons con28 (.cons con55 .nil)) Tryz.func16 fun l ob r hc hob => by
 unfold c16 at hc
 split at hc
 ·cases hc
  refine ⟨by kernel_rfl,fnVC_go (rs:=[.tmp 0]) rfl rfl ?_⟩
  simp only [go_sem,c28,c55]
  intro z hz
  have e:z = 1:=by rw [hz]; decide
  subst e
  refine ⟨?_,?_,?_,?_,?_,?_,fun _ => ?_,fun _ => ?_,fun _ => ?_,fun _ => ?_,?_,?_,?_,?_,?_⟩ <;> first | (unfold inR; omega) | decide
 ·cases hc
def near (a b c d:Int):Prop:=-5000 ≤ a ∧ a ≤ c ∧ c ≤ 5000 ∧ -5000 ≤ b ∧ b ≤ d ∧ d ≤ 5000
theorem joinT_0 {a b c d e f g h:Int} (h1:checkBoxS a b c d = 0) (h2:checkBoxS e f g h = 0):joinT a b c d e f g h 0 = min a e:=by
 simp only [joinT,h1,h2,and_self,if_true]
theorem joinT_1 {a b c d e f g h:Int} (h1:checkBoxS a b c d = 0) (h2:checkBoxS e f g h = 0):joinT a b c d e f g h 1 = min b f:=by
 simp only [joinT,h1,h2,and_self,if_true]
theorem joinT_2 {a b c d e f g h:Int} (h1:checkBoxS a b c d = 0) (h2:checkBoxS e f g h = 0):joinT a b c d e f g h 2 = max c g:=by
 simp only [joinT,h1,h2,and_self,if_true]
theorem joinT_3 {a b c d e f g h:Int} (h1:checkBoxS a b c d = 0) (h2:checkBoxS e f g h = 0):joinT a b c d e f g h 3 = max d h:=by
 simp only [joinT,h1,h2,and_self,if_true]
end Go.Ax
end
section
/-
  The iterator over a polygon's edges.
-/
set_option maxHeartbeats 1000000
set_option maxRecDepth 100000
namespace Go.Ax
open Go.Proofs
def nxt (n i:Nat):Nat:=if i + 1 < n then i + 1 else 0
theorem nxt_lt {n i:Nat} (h:i < n):nxt n i < n:=by unfold nxt; split <;> omega
def edgeE (n:Nat) (g:Nat → List AV) (i:Nat):List AV:=[.agg [i64 (gx g 0 i),i64 (gx g 1 i)],.agg [i64 (gx g 0 (nxt n i)),i64 (gx g 1 (nxt n i))]]
def c161:Con
 | [.rop [.ro n 2 g]] => some ([spots n g,n ≤ 9223372036854775806],.ro n 2 (edgeE n g))
 | _ => none
structure At161 (I:Nat → Prop) (w:World) (J:Nat → World → Prop) (l n:Nat) (v1 x:Value) (i:Nat) (a:Act) (W:World):Prop where
 sz:a.tmps.size = 38
 de:a.defers = []
 t0:a.tmps.getD 0 undef = .func (.yield l) #[] #[]
 t1:a.tmps.getD 1 undef = v1
 t3:a.tmps.getD 3 undef = .int .i64 (IntKind.i64.wrap (n - 1))
 t12:a.tmps.getD 12 undef = x
 t13:a.tmps.getD 13 undef = .int .i64 n
 t14:a.tmps.getD 14 undef = .int .i64 i
 le:i ≤ n
 j:J i W
 same:Same I w W
def sg (g:Nat → List AV):Nat → List AV:=fun i => [i64 (gx g 0 i),i64 (gx g 1 i)]
theorem sg_eq {g:Nat → List AV}:sg g = fun i => [i64 (gx g 0 i),i64 (gx g 1 i)]:=(rfl)
theorem seq161:SeqOK Tryz.prog 161 c161:=by
 intro es ob N k sq hc hob
 unfold c161 at hc
 split at hc
 case h_2 => cases hc
 rename_i n g
 simp only [Option.some.injEq,Prod.mk.injEq,AV.ro.injEq] at hc
 obtain ⟨rfl,rfl,rfl,rfl⟩:=hc
 have hsp:spots n g:=hob _ (by simp)
 have hn:n ≤ 9223372036854775806:=hob _ (by simp)
 intro I w vs nn l J Jx hI hRs hJ hJx h0 hy
 obtain ⟨v1,rest,rfl,hv1,hrest⟩:=hRs.inv
 have:rest = []:=by have:=hrest.1; simpa using this
 subst this
 cases hv1 with
 | rop b o hib hex hr =>
 obtain ⟨x,hx⟩:=hex 0 (by simp)
 have hx:Has w b o x:=hx
 have hib:I b:=hib
 have hxr:R w (.ext I) (.ro n 2 (sg g)) x:=ro_alike (fun i hi => (hsp i hi).1) (hr 0 _ x rfl hx)
 have hvx:R w (.ext I) (.rop [.v x]) (.pointer (some ⟨b,o,none⟩)):=rop1 hib hx .v
 have hvr:R w (.ext I) (.rop [.ro n 2 (sg g)]) (.pointer (some ⟨b,o,none⟩)):=rop1 hib hx hxr
 refine ⟨callFunc_enter Tryz.func161 (by kernel_rfl) rfl,?_⟩
 refine callsIn_of_wp_marks (F:=Fence.wide) Tryz.func161 rfl trivial ?_
 have hm:Tryz.prog.follows .mixedOrders = true:=by kernel_rfl
 rw [show Tryz.f161.ntmps = 38 from by kernel_rfl]
 generalize hes:(#[Value.func (.yield l) #[] #[]] ++ [Value.pointer (some ⟨b,o,none⟩)].toArray:Array Value) = es
 have hes2:es.size = 2:=by rw [← hes]; rfl
 have hes0:es[0]? = some (.func (.yield l) #[] #[]):=by rw [← hes]; rfl
 have hes1:es[1]? = some (.pointer (some ⟨b,o,none⟩)):=by rw [← hes]; rfl
 generalize ha:(Act.mk (es ++ Array.replicate (38 - es.size) undef) []) = a
 have hsz:a.tmps.size = 38:=by rw [← ha]; exact start_size (by omega)
 have hde:a.defers = []:=by rw [← ha]
 have ht0:a.tmps.getD 0 undef = .func (.yield l) #[] #[]:=by rw [← ha]; exact start_get hes0
 have ht1:a.tmps.getD 1 undef = .pointer (some ⟨b,o,none⟩):=by rw [← ha]; exact start_get hes1
 clear ha hes hes0 hes1 hes2
 have keepR:∀ {av:AV} {v:Value} {W:World},R w (.ext I) av v → Same I w W → R W (.ext I) av v:=fun h hs => h.mono (.refl _) hs
 have ltI:∀ {W:World},Same I w W → ∀ b,I b → b < W.heap.size:=fun {W} hs b hb => by
  have h1:=hs b hb
  have h2:=hI b hb
  rw [Array.getElem?_eq_getElem h2] at h1
  exact (Array.getElem?_eq_some_iff.1 h1).1
 -- region 0
 refine wpIn_seq (pieceI (G:=[]) (H:=[]) .nil hm (l:=[(1,.rop [.ro n 2 (sg g)])]) (W:=[7,8,9,10,3]) (K:=fun e s => match e with | .normal => slot s.t 3 = i64 (IntKind.i64.wrap (n - 1)) | _ => False) (by kernel_rfl) (by kernel_rfl) (by kernel_rfl) ?_ hI hsz ?_ ?_)
 ·refine awp_go (K1:=fun e t _ => match e with | .normal => slot t 3 = i64 (IntKind.i64.wrap (n - 1)) | _ => False) ?_
  simp only [go_sem,List.range,List.range.loop]
  exact fun _ => trivial
 ·intro p hp; simp only [List.mem_singleton] at hp; subst hp; dsimp only; rw [ht1]; exact hvr
 intro e s1 ρ1 a1 w1 k1 k2
 cases e with
 | exit j => exact k1.elim
 | ret => exact k1.elim
 | normal =>
 have bel1:RowKit.Below w.heap.size w w1:=k2.rel.below
 have hs1:Same I w w1:=Same.of_below bel1 hI
 have hj1:J 0 w1:=hJ 0 w w1 h0 bel1
 have u0:a1.tmps.getD 0 undef = .func (.yield l) #[] #[]:=(k2.frame 0 (show ¬ (0:Nat) ∈ [7,8,9,10,3] by decide)).trans ht0
 have u1:a1.tmps.getD 1 undef = .pointer (some ⟨b,o,none⟩):=(k2.frame 1 (show ¬ (1:Nat) ∈ [7,8,9,10,3] by decide)).trans ht1
 have u3:=k2.val k1
 have usz:=k2.size
 have ude:a1.defers = []:=k2.defers.trans hde
 clear k1 k2 s1 ρ1 hsz hde ht0 ht1
 -- region 1
 refine wpIn_seq (region_split (G:=[]) (nt:=38) (s:=⟨[(1,.rop [.v x])] ++ anyS (List.range 38),[],0⟩) (ds:=⟨[],(· ∈ [11,12,13,14]),a1.tmps⟩) .nil 2 (by decide) (K:=fun s => slot s.t 12 = .v x) (by kernel_rfl) (fun j hj => hj) ?_ (SR.anew (ltI hs1) (slots_R usz ?_) usz ude (fun _ _ => rfl)) ?_)
 ·refine regP_go (K1:=fun t _ => slot t 12 = .v x) ?_
  simp only [go_sem,List.range,List.range.loop]
 ·intro p hp; simp only [List.mem_singleton] at hp; subst hp; dsimp only; rw [u1]; exact keepR hvx hs1
 intro s2 ρ2 a2 w2 k1 k2
 have bel2:RowKit.Below w1.heap.size w1 w2:=k2.rel.below
 have hs2:Same I w w2:=hs1.trans (Same.of_below bel2 (ltI hs1))
 have hj2:J 0 w2:=hJ 0 w1 w2 hj1 bel2
 have v0:=(k2.frame 0 (show ¬ (0:Nat) ∈ [11,12,13,14] by decide)).trans u0
 have v1:=(k2.frame 1 (show ¬ (1:Nat) ∈ [11,12,13,14] by decide)).trans u1
 have v3:=(k2.frame 3 (show ¬ (3:Nat) ∈ [11,12,13,14] by decide)).trans u3
 have v12:=k2.val k1
 have vsz:=k2.size
 have vde:a2.defers = []:=k2.defers
 clear k1 k2 s2 ρ2 usz ude u0 u1 u3 bel1 bel2 hj1 hs1
 refine region_rest (G:=[]) (nt:=38) (s:=⟨[(12,.ro n 2 (sg g))] ++ anyS (List.range 38),[],0⟩) (ds:=⟨[],(· ∈ [13,14]),a2.tmps⟩) .nil 2 (by decide) (K:=fun s => slot s.t 13 = i64 n ∧ slot s.t 14 = i64 0) (by kernel_rfl) (fun j hj => hj) ?_ (SR.anew (ltI hs2) (slots_R vsz ?_) vsz vde (fun _ _ => rfl)) ?_
 ·refine regP_go (K1:=fun t _ => slot t 13 = i64 n ∧ slot t 14 = i64 0) ?_
  simp only [go_sem,List.range,List.range.loop]
 ·intro p hp; simp only [List.mem_singleton] at hp; subst hp; dsimp only; rw [v12]; exact keepR hxr hs2
 intro s3 ρ3 a3 w3 k1 k2
 have bel3:RowKit.Below w2.heap.size w2 w3:=k2.rel.below
 have hs3:Same I w w3:=hs2.trans (Same.of_below bel3 (ltI hs2))
 have hAt0:At161 I w J l n (.pointer (some ⟨b,o,none⟩)) x 0 a3 w3:=
  ⟨k2.size,k2.defers,(k2.frame 0 (show ¬ (0:Nat) ∈ [13,14] by decide)).trans v0,(k2.frame 1 (show ¬ (1:Nat) ∈ [13,14] by decide)).trans v1,(k2.frame 3 (show ¬ (3:Nat) ∈ [13,14] by decide)).trans v3,
   (k2.frame 12 (show ¬ (12:Nat) ∈ [13,14] by decide)).trans v12,k2.val k1.1,k2.val k1.2,Nat.zero_le _,hJ 0 w2 w3 hj2 bel3,hs3⟩
 clear k1 k2 s3 ρ3 bel3 hs3 hj2 hs2 v0 v1 v3 v12 vsz vde
 refine wpIn_block (wpIn_loop_rounds (n + 1) ?_)
 obtain ⟨i,hAt,hlt⟩:∃ i,At161 I w J l n (.pointer (some ⟨b,o,none⟩)) x i a3 w3 ∧ n - i < n + 1:=⟨0,hAt0,by omega⟩
 clear hAt0
 generalize n + 1 = fuel at hlt ⊢
 induction fuel generalizing i a3 w3 with
 | zero => omega
 | succ fuel ih =>
 rw [roundsIn_succ]
 -- the guard
 refine wpIn_seq (pieceI (G:=[]) (H:=[]) .nil hm (l:=[(13,i64 n),(14,i64 i)]) (W:=[15]) (K:=fun e s => match e with | .normal => slot s.t 15 = bo (decide ((i:Int) < n)) | _ => False) (by kernel_rfl) (by kernel_rfl) (by kernel_rfl) ?_ (ltI hAt.same) hAt.sz ?_ ?_)
 ·refine awp_go (K1:=fun e t _ => match e with | .normal => slot t 15 = bo (decide ((i:Int) < n)) | _ => False) ?_
  simp only [go_sem,List.range,List.range.loop]
 ·intro p hp
  simp only [List.mem_cons,List.mem_singleton,List.not_mem_nil,or_false] at hp
  rcases hp with rfl | rfl
  ·dsimp only; rw [hAt.t13]; exact .v
  ·dsimp only; rw [hAt.t14]; exact .v
 intro e s1 ρ1 a1 w1 k1 k2
 cases e with
 | exit j => exact k1.elim
 | ret => exact k1.elim
 | normal =>
 have bel1:RowKit.Below w3.heap.size w3 w1:=k2.rel.below
 have hs1:Same I w w1:=hAt.same.trans (Same.of_below bel1 (ltI hAt.same))
 have hj1:J i w1:=hJ i w3 w1 hAt.j bel1
 have v15:=k2.val k1
 have d1:a1.defers = []:=k2.defers.trans hAt.de
 have z1:=k2.size
 have f1:∀ j,¬ j ∈ [15] → a1.tmps.getD j undef = a3.tmps.getD j undef:=k2.frame
 clear k1 k2 s1 ρ1
 refine wpIn_seq (wpIn_cond_split (t:=decide ((i:Int) < n)) v15 ?_ ?_)
 case refine_2 =>
  intro hf
  have hin:i = n:=by have:=hAt.le; simp at hf; omega
  subst hin
  refine wpIn_exit ?_
  show LeavesInM Fence.wide nn Tryz.prog Tryz.f161 a1.tmps _ a1.defers .returning w1
  exact leave_nil d1 rfl fun v => ⟨⟨v,rfl⟩,.inl hj1⟩
 intro ht
 have hin:i < n:=by simp at ht; omega
 refine wpIn_skip ?_
 have r0:gx (sg g) 0 i = gx g 0 i:=rfl
 obtain ⟨K1,hK1⟩:∃ K1:Slots → Prop,K1 = fun t => slot t 32 = .v (.func (.yield l) #[] #[]) ∧ [slot t 33,slot t 34] = edgeE n g i:=⟨_,rfl⟩
 refine wpIn_seq (wpIn_block (piece3 (G:=[]) (H:=[]) .nil hm (k:=3) (K1:=K1) (l:=[(0,.v (.func (.yield l) #[] #[])),(1,.rop [.ro n 2 (sg g)]),(3,i64 (IntKind.i64.wrap (n - 1))),(12,.ro n 2 (sg g)),(14,i64 i)]) (by decide) (by kernel_rfl) (by kernel_rfl) rfl ?_ (ltI hs1) z1 ?_ ?_))
 ·show goC Tryz.prog [] [] (preK Tryz.prog [] _ 3 K1) _ [] _
  simp only [go_sem,List.range,List.range.loop,preK_normal,sg_eq]
  have hw:IntKind.i64.wrap ((n:Int) - 1) = n - 1:=wrap_in (by unfold inR; omega)
  subst hK1
  refine ⟨by omega,by omega,by omega,fun h z hz => ?_,fun h => ?_⟩
  ·rw [hw] at h
   have e1:IntKind.i64.wrap ((i:Int) + 1) = i + 1:=wrap_in (by unfold inR; omega)
   rw [e1] at hz
   have e2:z.toNat = i + 1:=by omega
   have e3:nxt n i = i + 1:=by unfold nxt; rw [if_pos (by omega)]
   refine ⟨by omega,by omega,?_⟩
   simp only [slot_cons,Nat.reduceEqDiff,if_true,if_false,reduceIte,true_and,edgeE,e3,e2,gx]
  ·rw [hw] at h
   have e3:nxt n i = 0:=by unfold nxt; rw [if_neg (by omega)]
   simp only [slot_cons,Nat.reduceEqDiff,if_true,if_false,reduceIte,true_and,edgeE,e3,gx]
 ·intro p hp
  simp only [List.mem_cons,List.mem_singleton,List.not_mem_nil,or_false] at hp
  rcases hp with rfl | rfl | rfl | rfl | rfl
  ·dsimp only; rw [f1 0 (by decide),hAt.t0]; exact .v
  ·dsimp only; rw [f1 1 (by decide),hAt.t1]; exact keepR hvr hs1
  ·dsimp only; rw [f1 3 (by decide),hAt.t3]; exact .v
  ·dsimp only; rw [f1 12 (by decide),hAt.t12]; exact keepR hxr hs1
  ·dsimp only; rw [f1 14 (by decide),hAt.t14]; exact .v
 intro t' m' D' ρ' a2 w2 k1 k2
 subst hK1
 have bel2:RowKit.Below w1.heap.size w1 w2:=k2.rel.below
 have hs2:Same I w w2:=hs1.trans (Same.of_below bel2 (ltI hs1))
 have hj2:J i w2:=hJ i w1 w2 hj1 bel2
 have v32:=k2.val k1.1
 have e33:slot t' 33 = .agg [i64 (gx g 0 i),i64 (gx g 1 i)]:=by have:=k1.2; unfold edgeE at this; simpa using (List.cons.inj this).1
 have e34:slot t' 34 = .agg [i64 (gx g 0 (nxt n i)),i64 (gx g 1 (nxt n i))]:=by have:=k1.2; unfold edgeE at this; simpa using (List.cons.inj (List.cons.inj this).2).1
 have hargs:Rs w2 (.ext I) (edgeE n g i) [a2.tmps.getD 33 undef,a2.tmps.getD 34 undef]:=by
  have q33:=k2.slots 33
  have q34:=k2.slots 34
  rw [e33] at q33
  rw [e34] at q34
  exact .cons (plain_sound 3 rfl q33) (.cons (plain_sound 3 rfl q34) .nil)
 have d2:a2.defers = []:=k2.defers.trans d1
 have z2:=k2.size
 have f2:=k2.frame
 clear k1 e33 e34
 rw [show List.range' 3 (Array.size _ - 3) = [3,4] from rfl]
 have z35:35 < a2.tmps.size:=by rw [z2]; decide
 refine wpOps_free rfl rfl (yield_op (l:=l) [a2.tmps.getD 33 undef,a2.tmps.getD 34 undef] rfl v32 (by simp [Act.eval]) (hy i w2 _ hin hj2 hs2 hargs) ?_)
 intro e W hpost
 obtain ⟨r,he,hsm,hjt,hjf⟩:∃ r,e = .returned (.bool r) ∧ Same I w2 W ∧ (r = true → J (i + 1) W) ∧ (r = false → Jx W):=by
  obtain ⟨hsm,⟨rfl,hj⟩ | ⟨rfl,hj⟩⟩:=hpost
  ·exact ⟨true,rfl,hsm,fun _ => hj,fun h => (by cases h)⟩
  ·exact ⟨false,rfl,hsm,fun h => (by cases h),fun _ => hj⟩
 subst he
 refine ⟨_,rfl,?_⟩
 show wpOpsIn (Fw none) nn Tryz.prog _ _ [4] (a2.put (some 35) (.bool r)) W
 have hs4:Same I w W:=hs2.trans hsm
 refine region_rest (G:=[]) (nt:=38) (s:=⟨[(35,bo r)] ++ anyS (List.range 38),[],0⟩) (ds:=⟨[],(· ∈ [36]),(a2.put (some 35) (.bool r)).tmps⟩) .nil 4 (by decide) (K:=fun s => slot s.t 36 = bo (!r)) (by kernel_rfl) (fun j hj => hj) ?_ (SR.anew (ltI hs4) (slots_R ((put_size _ _).trans z2) ?_) ((put_size _ _).trans z2) d2 (fun _ _ => rfl)) ?_
 ·refine regP_go (K1:=fun t _ => slot t 36 = bo (!r)) ?_
  simp only [go_sem,List.range,List.range.loop]
 ·intro p hp; simp only [List.mem_singleton] at hp; subst hp; dsimp only; rw [put_at z35]; exact .v
 intro s5 ρ5 a5 w5 q1 q2
 have bel5:RowKit.Below W.heap.size W w5:=q2.rel.below
 have hs5:Same I w w5:=hs4.trans (Same.of_below bel5 (ltI hs4))
 have d5:a5.defers = []:=q2.defers
 have z5:=q2.size
 have f5:∀ j,¬ j ∈ [36] → 35 ≠ j → a5.tmps.getD j undef = a2.tmps.getD j undef:=fun j h1 h2 => (q2.frame j h1).trans (put_not z35 h2)
 have v36:=q2.val q1
 clear q1 q2
 refine wpIn_cond_split v36 (fun hb => ?_) (fun hb => ?_)
 ·have hr:r = false:=by simpa using hb
  have hjx:Jx w5:=hJx W w5 (hjf hr) bel5
  refine wpIn_ret ?_
  show LeavesInM Fence.wide nn Tryz.prog Tryz.f161 a5.tmps _ a5.defers .returning w5
  exact leave_nil d5 rfl fun v => ⟨⟨v,rfl⟩,.inr hjx⟩
 ·have hr:r = true:=by simpa using hb
  have hj5:J (i + 1) w5:=hJ (i + 1) W w5 (hjt hr) bel5
  refine wpIn_skip ?_
  show Code.wpIn Fence.wide nn Tryz.prog (Code.region 8 _ false) _ a5 w5
  have g2:∀ j,¬ j ∈ [15] → ¬ j ∈ [16,17,18,5,4,19,20,21,22,6,23,24,25,26,27,28,29,30,31,32,33,34,35,36] → a5.tmps.getD j undef = a3.tmps.getD j undef:=fun j h1 h2 => by
   rw [f5 j (fun h => h2 (by simp at h; subst h; decide)) (fun h => h2 (by subst h; decide)),f2 j h2,f1 j h1]
  refine pieceI (G:=[]) (H:=[]) .nil hm (l:=[(14,i64 i)]) (W:=[37,14]) (K:=fun e s => match e with | .normal => slot s.t 14 = i64 (i + 1) | _ => False) (by kernel_rfl) (by kernel_rfl) (by kernel_rfl) ?_ (ltI hs5) z5 ?_ ?_
  ·refine awp_go (K1:=fun e t _ => match e with | .normal => slot t 14 = i64 (i + 1) | _ => False) ?_
   simp only [go_sem,List.range,List.range.loop]
   intro z hz
   have e1:IntKind.i64.wrap ((i:Int) + 1) = i + 1:=wrap_in (by unfold inR; omega)
   rw [hz,e1]
  ·intro p hp; simp only [List.mem_singleton] at hp; subst hp; dsimp only; rw [g2 14 (by decide) (by decide),hAt.t14]; exact .v
  intro e s6 ρ6 a6 w6 q1 q2
  cases e with
  | exit j => exact q1.elim
  | ret => exact q1.elim
  | normal =>
  have bel6:RowKit.Below w5.heap.size w5 w6:=q2.rel.below
  have f6:∀ j,¬ j ∈ [37,14] → a6.tmps.getD j undef = a5.tmps.getD j undef:=q2.frame
  refine ih a6 w6 (i + 1) ⟨q2.size,q2.defers.trans d5,?_,?_,?_,?_,?_,?_,by omega,hJ (i + 1) w5 w6 hj5 bel6,hs5.trans (Same.of_below bel6 (ltI hs5))⟩ (by omega)
  ·rw [f6 0 (by decide),g2 0 (by decide) (by decide),hAt.t0]
  ·rw [f6 1 (by decide),g2 1 (by decide) (by decide),hAt.t1]
  ·rw [f6 3 (by decide),g2 3 (by decide) (by decide),hAt.t3]
  ·rw [f6 12 (by decide),g2 12 (by decide) (by decide),hAt.t12]
  ·rw [f6 13 (by decide),g2 13 (by decide) (by decide),hAt.t13]
  ·have:=q2.val q1; rw [this]; rfl
end Go.Ax
end
section
/-
  Spots: sides, convex spots.
-/
set_option maxHeartbeats 1000000
set_option maxRecDepth 100000
namespace Go.Ax
open Go.Proofs
def c85:Con
 | [.agg [.ro n 2 g]] => some ([],.fn 161 [.rop [.ro n 2 g]])
 | _ => none
theorem con85:ConOK Tryz.prog 85 c85:=ConOK.of (G:=[]) (H:=[]) .nil Tryz.func85 fun l ob r hc hob => by
 unfold c85 at hc
 split at hc
 ·rename_i n g
  cases hc
  refine ⟨by kernel_rfl,fnVC_go (rs:=[.tmp 2]) rfl rfl ?_⟩
  simp only [go_sem]
 ·cases hc
theorem tmod_nxt {n i:Nat} (h:i < n):Int.tmod ((i:Int) + 1) n = (nxt n i:Nat):=by
 unfold nxt
 by_cases e:i + 1 < n
 ·rw [if_pos e,Int.tmod_eq_of_lt (by omega) (by omega)]; rfl
 ·have:i + 1 = n:=by omega
  rw [if_neg e,show (i:Int) + 1 = n by omega,Int.tmod_self]; rfl
def convexS (n:Nat) (X Y:Nat → Int):Bool:=decide (3 ≤ n ∧ (∀ i,i < n → validS (X i) (Y i) = true) ∧ ∀ i,i < n → ∀ k,k < n → k ≠ i → k ≠ nxt n i → 0 < turnS (X i) (Y i) (X (nxt n i)) (Y (nxt n i)) (X k) (Y k))
theorem convexS_iff {n:Nat} {X Y:Nat → Int}:convexS n X Y = true ↔ 3 ≤ n ∧ (∀ i,i < n → validS (X i) (Y i) = true) ∧ ∀ i,i < n → ∀ k,k < n → k ≠ i → k ≠ nxt n i → 0 < turnS (X i) (Y i) (X (nxt n i)) (Y (nxt n i)) (X k) (Y k):=by unfold convexS; simp
def c37:Con
 | [.ro n 2 g] => some ([spots n g,n ≤ 9223372036854775806],bo (convexS n (gx g 0) (gx g 1)))
 | _ => none
theorem vc37 (n:Nat) (X Y:Nat → Int) (hX:∀ i,i < n → inR (X i) ∧ inR (Y i)) (hn:n ≤ 9223372036854775806):fnVC Tryz.prog [(50,c50),(86,c86),(85,c85),(1000000 + 161,c161)] [] Tryz.f37 [.ro n 2 fun i => [i64 (X i),i64 (Y i)]] (· = bo (convexS n X Y)):=by
 refine fnVC_go (rs:=[.cell 2 4]) rfl rfl ?_
 simp only [go_sem,c50,c85]
 intro z hz
 have hg:spots n fun i => [i64 (X i),i64 (Y i)]:=fun i hi => ⟨rfl,hX i hi⟩
 have hzz:z = true ↔ ∀ i,i < n → validS (X i) (Y i) = true:=by rw [hz]; exact fairS_iff
 refine ⟨fun _ => hg,fun _ => by omega,fun h => false_of fun hc => ?_,fun h => ?_⟩
 ·have:=convexS_iff.1 hc
  rcases h with h | h
  ·omega
  ·rw [hzz.2 this.2.1] at h; cases h
 have hv:=hzz.1 h.2
 have h3:3 ≤ n:=by omega
 let good:Nat → Prop:=fun i => ∀ k,k < n → k ≠ i → k ≠ nxt n i → 0 < turnS (X i) (Y i) (X (nxt n i)) (Y (nxt n i)) (X k) (Y k)
 refine rangeC_go (fun (i:Nat) => i ≤ n ∧ ∀ j,j < i → good j) (fun i => i) (fun i => [(10,fam1 3 1 [i64 i] none)]) [1,0] [19,20,4,5,21,22,23,24,25,26,27,7,6,28,29,30,31,32,33,34,35,36,37,38,39,40,41,42,43,44,45,46,47,23,48,49] 0 0 (N:=n) (sq:=edgeE n fun i => [i64 (X i),i64 (Y i)]) (ob:=[spots n fun i => [i64 (X i),i64 (Y i)],n ≤ 9223372036854775806]) rfl (by simp [hg,hn]) (by kernel_rfl) rfl (fun i _ => ⟨rfl,rfl⟩) ⟨Nat.zero_le _,fun j hj => by omega⟩ rfl ⟨[],?_,?_,?_⟩ ?_ ?_
 ·simp only [go_sem]
 ·simp only [go_sem]
 ·simp [goodNames,asg]
 ·intro i hi hlt
  simp only [go_sem,edgeE]
  have hnl:nxt n i < n:=nxt_lt hlt
  have hin:i < n:=hlt
  refine loopC_go (fun (k:Nat) => k ≤ n ∧ ∀ q,q < k → q ≠ i → q ≠ nxt n i → 0 < turnS (X i) (Y i) (X (nxt n i)) (Y (nxt n i)) (X q) (Y q)) (fun k => n - k) (fun k => [(23,i64 k)]) (fun _ => []) [17,15,10,1,0] [24,25,26,27,7,6,28,29,30,31,32,33,34,35,36,37,38,39,40,41,42,43,44,45,46,47,23] 0 (by kernel_rfl) ?_ ⟨Nat.zero_le _,fun j hj => by omega⟩ ?_ ?_
  ·intro x _; simp [goodNames]
  ·simp only [go_sem]
  ·intro k hk
   have hn0:((n:Int) = 0) = False:=eq_false (by omega)
   simp only [go_sem,c86,hn0]
   have ei:IntKind.i64.wrap ((i:Int) + 1) = i + 1:=wrap_in (by unfold inR; omega)
   have ek:k < n → IntKind.i64.wrap ((k:Int) + 1) = k + 1:=fun h => wrap_in (by unfold inR; omega)
   have bn:∀ x y:Nat,((x:Int) != (y:Int)) = true ↔ x ≠ y:=fun x y => by rw [bne_iff_ne]; omega
   refine ⟨fun hkn => ⟨by omega,hkn,fun z1 hz1 z2 hz2 t ht => ?_⟩,fun hkn z1 hz1 => ⟨i + 1,⟨by omega,fun j hj => ?_⟩,rfl,[],?_,?_⟩⟩
   ·rw [ei] at hz1
    rw [hz1,tmod_nxt hin] at hz2
    subst hz2
    have hkn':k < n:=by omega
    refine ⟨fun _ => hv i hin,fun _ => hv _ hnl,fun _ => hv k hkn',fun hb => false_of fun hc => ?_,fun hb z3 hz3 => ⟨k + 1,⟨by omega,fun q hq h1 h2 => ?_⟩,by omega,?_⟩⟩
    ·have:=(convexS_iff.1 hc).2.2 i hin k hkn' ((bn _ _).1 hb.1.1) ((bn _ _).1 hb.1.2)
     omega
    ·by_cases e:q = k
     ·subst e
      rw [(bn q i).2 h1,(bn q (nxt n i)).2 h2] at hb
      simp at hb
      omega
     ·exact hk.2 q (by omega) h1 h2
    ·rw [hz3,ek hkn']; omega
   ·by_cases e:j = i
    ·subst e
     intro q hq h1 h2
     exact hk.2 q (by omega) h1 h2
    ·exact hi.2 j (by omega)
   ·simp only [go_sem]
    rw [hz1,ei]; rfl
   ·simp [goodNames,asg]
 ·intro i hi he
  simp only [go_sem]
  refine (convexS_iff.2 ⟨h3,hv,fun j hj => ?_⟩).symm ▸ rfl
  exact hi.2 j (by omega)
theorem con37:ConOK Tryz.prog 37 c37:=ConOK.go (G:=[(50,c50),(86,c86),(85,c85),(1000000 + 161,c161)]) (H:=[]) (.cons con50 (.cons con86 (.cons con85 (.seq seq161 .nil)))) Tryz.func37 fun l ob r hc hob => by
 unfold c37 at hc
 split at hc
 ·rename_i n g
  cases hc
  have hs:spots n g:=hob _ (by simp)
  refine ⟨[.ro n 2 fun i => [i64 (gx g 0 i),i64 (gx g 1 i)]],fun w I vs h => Rs_one (fun v => ro_alike fun i hi => (hs i hi).1) h,by kernel_rfl,vc37 n _ _ (fun i hi => (hs i hi).2) (hob _ (by simp))⟩
 ·cases hc
end Go.Ax
end
section
/-
  Spots: what the reference says; copies of spots.
-/
set_option maxHeartbeats 1000000
set_option maxRecDepth 100000
namespace Go.Ax
open Go.Proofs
end Go.Ax
end
section
/-
  Forms: what is valid; copies; which spots a form has.
-/
set_option maxHeartbeats 1000000
set_option maxRecDepth 100000
namespace Go.Ax
open Go.Proofs
abbrev formA (k x y r:Int) (n:Nat) (g:Nat → List AV):AV:=.agg [i64 k,i64 x,i64 y,i64 r,.ro n 2 g]
theorem Rs_form {w:World} {ρ:Env} {k x y r:Int} {n:Nat} {g:Nat → List AV} (hs:spots n g) (v:Value) (h:R w ρ (formA k x y r n g) v):R w ρ (formA k x y r n fun i => [i64 (gx g 0 i),i64 (gx g 1 i)]) v:=by
 cases h with
 | agg hl hh =>
  refine .agg hl fun i a z h1 h2 => ?_
  match i with
  | 0 => exact hh 0 a z h1 h2
  | 1 => exact hh 1 a z h1 h2
  | 2 => exact hh 2 a z h1 h2
  | 3 => exact hh 3 a z h1 h2
  | 4 =>
   simp at h1; subst h1
   exact ro_alike (fun i hi => (hs i hi).1) (hh 4 _ z rfl h2)
  | j + 5 => simp at h1
theorem Rs_poly {w:World} {ρ:Env} {n:Nat} {g:Nat → List AV} (hs:spots n g) (v:Value) (h:R w ρ (.agg [.ro n 2 g]) v):R w ρ (.agg [.ro n 2 fun i => [i64 (gx g 0 i),i64 (gx g 1 i)]]) v:=by
 cases h with
 | agg hl hh =>
  refine .agg hl fun i a z h1 h2 => ?_
  match i with
  | 0 =>
   simp at h1; subst h1
   exact ro_alike (fun i hi => (hs i hi).1) (hh 0 _ z rfl h2)
  | j + 1 => simp at h1
theorem Rs_two {w:World} {ρ:Env} {a a' b b':AV} {vs:List Value} (h:∀ v,R w ρ a v → R w ρ a' v) (k:∀ v,R w ρ b v → R w ρ b' v) (hR:Rs w ρ [a,b] vs):Rs w ρ [a',b'] vs:=by
 obtain ⟨x,xs,rfl,h1,h2⟩:=hR.inv
 exact .cons (h x h1) (Rs_one k h2)
def c105:Con
 | [.agg [.v (.int .i64 a),.v (.int .i64 b)],.agg [.v (.int .i64 c),.v (.int .i64 d)]] => some ([],i64 (IntKind.i64.wrap (IntKind.i64.wrap (a * c) + IntKind.i64.wrap (b * d))))
 | _ => none
theorem con105:ConOK Tryz.prog 105 c105:=ConOK.of (G:=[]) (H:=[]) .nil Tryz.func105 fun l ob r hc hob => by
 unfold c105 at hc
 split at hc
 ·cases hc
  refine ⟨by kernel_rfl,fnVC_go (rs:=[.tmp 4]) rfl rfl ?_⟩
  simp only [go_sem]
  intro z h z1 h1 z2 h2
  rw [h2,h1,h]
 ·cases hc
theorem wrap_inR (x:Int):inR (IntKind.i64.wrap x):=by rw [wrap_i64]; unfold inR; omega
theorem fair1 {a b:Int} {g:Nat → List AV} (h0:g 0 = [i64 a,i64 b]):fairS 1 (gx g 0) (gx g 1) = validS a b:=by
 rw [Bool.eq_iff_iff,fairS_iff]
 constructor
 ·intro h
  have k0:=h 0 (by omega)
  simp only [gx,h0,gi_0,gi_1] at k0
  exact k0
 ·intro h i hi
  have:i = 0:=by omega
  subst this
  simp only [gx,h0,gi_0,gi_1]; exact h
theorem spots1 {a b:Int} {g:Nat → List AV} (h0:g 0 = [i64 a,i64 b]) (ha:inR a) (hb:inR b):spots 1 g:=by
 intro i hi
 have:i = 0:=by omega
 subst this
 simp only [gx,h0,gi_0,gi_1]; exact ⟨trivial,ha,hb⟩
def checkS (k x y r:Int) (n:Nat) (X Y:Nat → Int):Int:=
 if k ≠ 1 ∧ k ≠ 2 then 8
 else if ¬ (validS x y = true ∧ ∀ i,i < n → validS (X i) (Y i) = true) then 3
 else if k = 1 then (if 1 ≤ r ∧ (2097152 < r ∨ checkBoxS (x - r) (y - r) (x + r) (y + r) ≠ 0) then 3 else if r < 1 ∨ 0 < n then 5 else 0)
 else if r ≠ 0 ∨ 8 < n ∨ convexS n X Y = false then 5 else 0
instance {n:Nat} {X Y:Nat → Int}:Decidable (∀ i,i < n → validS (X i) (Y i) = true):=inferInstance
def c10:Con
 | [.agg [.v (.int .i64 k),.v (.int .i64 x),.v (.int .i64 y),.v (.int .i64 r),.ro n 2 g]] => some ([spots n g,n ≤ 9223372036854775806,inR x,inR y,inR r],i64 (checkS k x y r n (gx g 0) (gx g 1)))
 | _ => none
theorem con10:ConOK Tryz.prog 10 c10:=ConOK.of (G:=[(15,c15),(37,c37),(50,c50),(51,c51)]) (H:=[]) (.cons con15 (.cons con37 (.cons con50 (.cons con51 .nil)))) Tryz.func10 fun l ob r hc hob => by
 unfold c10 at hc
 split at hc
 ·rename_i k x y r n g
  cases hc
  have hs:spots n g:=hob _ (by simp)
  have hn:n ≤ 9223372036854775806:=hob _ (by simp)
  have hx:inR x:=hob _ (by simp)
  have hy:inR y:=hob _ (by simp)
  have hr:inR r:=hob _ (by simp)
  refine ⟨by kernel_rfl,fnVC_go (rs:=[.tmp 2]) rfl rfl ?_⟩
  simp only [go_sem,c15,c37,c50,c51]
  have hfa:fairS 1 (gx (rowsOf 2 [AV.v (Value.int IntKind.i64 x),AV.v (Value.int IntKind.i64 y)]) 0) (gx (rowsOf 2 [AV.v (Value.int IntKind.i64 x),AV.v (Value.int IntKind.i64 y)]) 1) = validS x y:=fair1 rfl
  have hsp:spots 1 (rowsOf 2 [AV.v (Value.int IntKind.i64 x),AV.v (Value.int IntKind.i64 y)]):=spots1 rfl hx hy
  rw [hfa]
  refine ⟨fun h => ?_,fun h z hz => ⟨hsp,fun z1 hz1 => ⟨fun _ => hs,fun _ => by omega,fun h3 => ?_,fun h3 z2 hz2 => ⟨fun _ => wrap_inR _,fun _ => wrap_inR _,fun _ => wrap_inR _,fun _ => wrap_inR _,fun a b => ⟨a,b⟩,fun h4 => ?_,fun h4 => ⟨fun a b => ⟨a,b⟩,fun h5 => ?_,fun h5 => ⟨fun a b => ⟨a,b⟩,fun z3 hz3 => ⟨fun _ => hs,fun _ => hn,fun a b => ⟨a,b⟩,fun h6 => ?_,fun h6 => ?_⟩⟩⟩⟩⟩⟩⟩
  ·have h1:k ≠ 1 ∧ k ≠ 2:=by simpa using h
   unfold checkS; rw [if_pos h1]
  ·have h1:¬ (k ≠ 1 ∧ k ≠ 2):=by simp at h; omega
   have h2:¬ (validS x y = true ∧ ∀ i,i < n → validS (gx g 0 i) (gx g 1 i) = true):=by
    rintro ⟨v1,v2⟩
    rw [← fairS_iff] at v2
    rw [v1] at hz; rw [v2] at hz1
    simp [hz,hz1] at h3
   unfold checkS; rw [if_neg h1,if_pos h2]
  all_goals
   have h1:¬ (k ≠ 1 ∧ k ≠ 2):=by simp at h; omega
   have v1:validS x y = true:=by rw [← hz]; exact h3.1
   have v2:∀ i,i < n → validS (gx g 0 i) (gx g 1 i) = true:=by rw [← fairS_iff,← hz1]; exact h3.2
   have v3:=validS_iff.1 v1
   have h2:¬ ¬ (validS x y = true ∧ ∀ i,i < n → validS (gx g 0 i) (gx g 1 i) = true):=fun hn => hn ⟨v1,v2⟩
   have hb:0 < r → ¬ 2097152 < r → z2 = checkBoxS (x - r) (y - r) (x + r) (y + r):=fun a b => by
    rw [hz2,wrap_in (x:=x - r) (by unfold inR; omega),wrap_in (x:=y - r) (by unfold inR; omega),wrap_in (x:=x + r) (by unfold inR; omega),wrap_in (x:=y + r) (by unfold inR; omega)]
   unfold checkS
   rw [if_neg h1,if_neg h2]
  ·simp only [beq_iff_eq,bne_iff_ne,ne_eq] at h4
   rw [if_pos h4.1.1,if_pos]
   refine ⟨by omega,?_⟩
   by_cases hr2:2097152 < r
   ·exact .inl hr2
   ·rw [← hb h4.1.2 hr2]; exact .inr (h4.2.resolve_left hr2)
  all_goals
   have h4':k = 1 → ¬ (1 ≤ r ∧ (2097152 < r ∨ checkBoxS (x - r) (y - r) (x + r) (y + r) ≠ 0)):=by
    rintro hk ⟨a,b⟩
    have a':0 < r:=by omega
    simp only [hk,beq_self_eq_true,Bool.true_and,a',decide_true,Bool.or_eq_false_iff,decide_eq_false_iff_not,bne_eq_false_iff_eq] at h4
    rw [← hb a' h4.1] at b
    rcases b with b | b
    ·exact h4.1 b
    ·exact b h4.2
  ·have hk:k = 1:=by simpa using h5.1
   rw [if_pos hk,if_neg (h4' hk),if_pos (by have:=h5.2; omega)]
  ·have hk:k ≠ 1:=by simpa using h6.1
   rw [if_neg hk,if_pos]
   rw [← hz3]
   have:=h6.2
   simp only [bne_iff_ne] at this
   rcases this with (a | a) | a
   ·exact .inl a
   ·exact .inr (.inl (by omega))
   ·exact .inr (.inr a)
  ·by_cases hk:k = 1
   ·simp only [hk,beq_self_eq_true,Bool.true_and,Bool.or_eq_false_iff,decide_eq_false_iff_not] at h5
    rw [if_pos hk,if_neg (h4' hk),if_neg (by omega)]
   ·have hk':(k == 1) = false:=by simpa using hk
    rw [if_neg hk,if_neg]
    rw [← hz3]
    simp only [hk',Bool.not_false,Bool.true_and,Bool.or_eq_false_iff,bne_eq_false_iff_eq,decide_eq_false_iff_not,Bool.not_eq_false'] at h6
    rintro (a | a | a)
    ·exact a h6.1.1
    ·exact h6.1.2 (by omega)
    ·rw [h6.2] at a; cases a
 ·cases hc
end Go.Ax
end
section
/-
  Forms: the reference's check; which spots a form has.
-/
set_option maxHeartbeats 1000000
set_option maxRecDepth 100000
namespace Go.Ax
open Go.Proofs
def c53:Con
 | [.agg [.v (.int .i64 k),.v (.int .i64 x),.v (.int .i64 y),.v (.int .i64 r),.ro n 2 g]] => some ([spots n g,n ≤ 9223372036854775806,inR x,inR y,inR r],if checkS k x y r n (gx g 0) (gx g 1) = 0 then (if k = 1 then .iface 107 (.agg [i64 x,i64 y,i64 r]) else .iface 112 (.agg [.ro n 2 g])) else .v .nilIface)
 | _ => none
theorem con53:ConOK Tryz.prog 53 c53:=ConOK.of (G:=[(10,c10)]) (H:=[]) (.cons con10 .nil) Tryz.func53 fun l ob rr hc hob => by
 unfold c53 at hc
 split at hc
 ·rename_i k x y r n g
  cases hc
  have hs:spots n g:=hob _ (by simp)
  have hn:n ≤ 9223372036854775806:=hob _ (by simp)
  have hx:inR x:=hob _ (by simp)
  have hy:inR y:=hob _ (by simp)
  have hr:inR r:=hob _ (by simp)
  refine ⟨by kernel_rfl,fnVC_go (rs:=[.tmp 2]) rfl rfl ?_⟩
  simp only [go_sem,c10]
  intro z hz
  refine ⟨hs,hn,hx,hy,hr,fun h => ?_,fun h => ⟨fun h2 => ?_,fun h2 => ?_⟩⟩
  ·rw [if_neg]; rw [← hz]; simpa using h
  ·rw [if_pos (by rw [← hz]; simpa using h),if_pos (by simpa using h2)]
  ·rw [if_pos (by rw [← hz]; simpa using h),if_neg (by simpa using h2)]
 ·cases hc
def dist2 (x y px py:Int):Int:=(px - x) * (px - x) + (py - y) * (py - y)
theorem sq0 (a:Int):0 ≤ a * a:=by rw [← Int.natAbs_mul_self]; exact Int.natCast_nonneg _
def inS (n:Nat) (X Y:Nat → Int) (px py:Int):Bool:=decide (∀ i,i < n → 0 ≤ turnS (X i) (Y i) (X (nxt n i)) (Y (nxt n i)) px py)
theorem inS_iff {n:Nat} {X Y:Nat → Int} {px py:Int}:inS n X Y px py = true ↔ ∀ i,i < n → 0 ≤ turnS (X i) (Y i) (X (nxt n i)) (Y (nxt n i)) px py:=by unfold inS; simp
def c106:Con
 | [.agg [.ro n 2 g],.agg [.v (.int .i64 px),.v (.int .i64 py)]] => some ([spots n g,n ≤ 9223372036854775806,∀ i,i < n → validS (gx g 0 i) (gx g 1 i) = true,validS px py = true],bo (inS n (gx g 0) (gx g 1) px py))
 | _ => none
theorem vc106 (n:Nat) (X Y:Nat → Int) (px py:Int) (hX:∀ i,i < n → inR (X i) ∧ inR (Y i)) (hn:n ≤ 9223372036854775806) (hv:∀ i,i < n → validS (X i) (Y i) = true) (hp:validS px py = true):fnVC Tryz.prog [(86,c86),(85,c85),(1000000 + 161,c161)] [] Tryz.f106 [.agg [.ro n 2 fun i => [i64 (X i),i64 (Y i)]],.agg [i64 px,i64 py]] (· = bo (inS n X Y px py)):=by
 refine fnVC_go (rs:=[.cell 4 4]) rfl rfl ?_
 simp only [go_sem,c85]
 have hg:spots n fun i => [i64 (X i),i64 (Y i)]:=fun i hi => ⟨rfl,hX i hi⟩
 refine rangeC_go (fun (i:Nat) => i ≤ n ∧ ∀ j,j < i → 0 ≤ turnS (X j) (Y j) (X (nxt n j)) (Y (nxt n j)) px py) (fun i => i) (fun _ => []) [2,1,0] [9,10,5,6,11,12,13,14,15] 0 0 (N:=n) (sq:=edgeE n fun i => [i64 (X i),i64 (Y i)]) (ob:=[spots n fun i => [i64 (X i),i64 (Y i)],n ≤ 9223372036854775806]) rfl (by simp [hg,hn]) (by kernel_rfl) rfl (fun i _ => ⟨rfl,rfl⟩) ⟨Nat.zero_le _,fun j hj => by omega⟩ rfl ⟨[],?_,?_,?_⟩ ?_ ?_
 ·simp only [go_sem]
 ·simp only [go_sem]
 ·simp [goodNames,asg]
 ·intro i hi hlt
  simp only [go_sem,edgeE,c86]
  refine fun z hz => ⟨hv i hlt,hv _ (nxt_lt hlt),hp,fun h => false_of fun hc => ?_,fun h => ⟨i + 1,⟨by have:i < n:=hlt; omega,fun j hj => ?_⟩,rfl,[],?_⟩⟩
  ·have:=inS_iff.1 hc i hlt; omega
  ·by_cases e:j = i
   ·subst e; omega
   ·exact hi.2 j (by omega)
  ·simp [goodNames]
 ·intro i hi he
  simp only [go_sem]
  exact (inS_iff.2 fun j hj => hi.2 j (by omega)).symm
theorem con106:ConOK Tryz.prog 106 c106:=ConOK.go (G:=[(86,c86),(85,c85),(1000000 + 161,c161)]) (H:=[]) (.cons con86 (.cons con85 (.seq seq161 .nil))) Tryz.func106 fun l ob rr hc hob => by
 unfold c106 at hc
 split at hc
 ·rename_i n g px py
  cases hc
  have hs:spots n g:=hob _ (by simp)
  refine ⟨[.agg [.ro n 2 fun i => [i64 (gx g 0 i),i64 (gx g 1 i)]],.agg [i64 px,i64 py]],fun w I vs h => Rs_two (Rs_poly hs) (fun v h => h) h,by kernel_rfl,vc106 n _ _ px py (fun i hi => (hs i hi).2) (hob _ (by simp)) (hob _ (by simp)) (hob _ (by simp))⟩
 ·cases hc
theorem check_1 {k x y r:Int} {n:Nat} {X Y:Nat → Int} (h:checkS k x y r n X Y = 0):(k = 1 ∨ k = 2) ∧ validS x y = true ∧ (∀ i,i < n → validS (X i) (Y i) = true) ∧ (k = 1 → 1 ≤ r ∧ r ≤ 2097152 ∧ checkBoxS (x - r) (y - r) (x + r) (y + r) = 0 ∧ n = 0) ∧ (k ≠ 1 → r = 0 ∧ n ≤ 8 ∧ convexS n X Y = true):=by
 unfold checkS at h
 split at h
 ·omega
 ·split at h
  ·omega
  ·rename_i h1 h2
   have h2:validS x y = true ∧ ∀ i,i < n → validS (X i) (Y i) = true:=Decidable.of_not_not h2
   split at h
   ·rename_i h3
    split at h
    ·omega
    ·rename_i h4
     split at h
     ·omega
     ·rename_i h5
      refine ⟨.inl h3,h2.1,h2.2,fun _ => ⟨by omega,by omega,?_,by omega⟩,fun h => absurd h3 h⟩
      by_cases e:checkBoxS (x - r) (y - r) (x + r) (y + r) = 0
      ·exact e
      ·exact absurd ⟨by omega,.inr e⟩ h4
   ·rename_i h3
    split at h
    ·omega
    ·rename_i h5
     refine ⟨by omega,h2.1,h2.2,fun h => absurd h h3,fun _ => ⟨by omega,by omega,?_⟩⟩
     cases hc:convexS n X Y
     ·exact absurd (.inr (.inr hc)) h5
     ·rfl
end Go.Ax
end
section
/-
  Forms: their boxes; the law of spots in forms.
-/
set_option maxHeartbeats 2000000
set_option maxRecDepth 100000
namespace Go.Ax
open Go.Proofs
def c232:Con
 | [.agg [.v (.int .i64 x),.v (.int .i64 y),.v (.int .i64 r)]] => some ([],.agg [i64 (IntKind.i64.wrap (x - r)),i64 (IntKind.i64.wrap (y - r)),i64 (IntKind.i64.wrap (x + r)),i64 (IntKind.i64.wrap (y + r))])
 | _ => none
theorem con232:ConOK Tryz.prog 232 c232:=ConOK.of (G:=[(51,c51)]) (H:=[]) (.cons con51 .nil) Tryz.func232 fun l ob r hc hob => by
 unfold c232 at hc
 split at hc
 ·cases hc
  refine ⟨by kernel_rfl,fnVC_go (rs:=[.cell 2 47]) rfl rfl ?_⟩
  simp only [go_sem,c51]
  intro z h z1 h1 z2 h2 z3 h3
  subst h h1 h2 h3
  rfl
 ·cases hc
def bxS (n:Nat) (X Y:Nat → Int):Nat → Int
 | 0 => mnS X n
 | 1 => mnS Y n
 | 2 => mxS X n
 | _ => mxS Y n
def upto (i:Nat) (Z:Nat → Int) (j:Nat):Int:=if j < i then Z j else 0
theorem upto_zero {Z:Nat → Int} {j:Nat}:upto 0 Z j = 0:=by unfold upto; rw [if_neg (by omega)]
theorem upto_self {i:Nat} {Z:Nat → Int}:upto (i + 1) Z i = Z i:=by unfold upto; rw [if_pos (by omega)]
theorem upto_lt {i j:Nat} {Z:Nat → Int} (h:j < i):upto i Z j = Z j:=by unfold upto; rw [if_pos h]
theorem upto_ne {i j:Nat} {Z:Nat → Int} (h:j ≠ i):upto (i + 1) Z j = upto i Z j:=by
 unfold upto
 by_cases e:j < i
 ·rw [if_pos e,if_pos (by omega)]
 ·rw [if_neg e,if_neg (by omega)]
theorem mnS_upto {Z:Nat → Int}:∀ {n m:Nat},n ≤ m → mnS (upto m Z) n = mnS Z n
 | 0,m,_ => rfl
 | n + 1,m,h => by
  simp only [mnS]
  rw [mnS_upto (Z:=Z) (n:=n) (by omega),upto_lt (i:=m) (j:=n) (by omega),upto_lt (i:=m) (j:=0) (by omega)]
theorem mxS_upto {Z:Nat → Int}:∀ {n m:Nat},n ≤ m → mxS (upto m Z) n = mxS Z n
 | 0,m,_ => rfl
 | n + 1,m,h => by
  simp only [mxS]
  rw [mxS_upto (Z:=Z) (n:=n) (by omega),upto_lt (i:=m) (j:=n) (by omega),upto_lt (i:=m) (j:=0) (by omega)]
def c237:Con
 | [.agg [.ro n 2 g]] => some ([spots n g,n ≤ 1000,∀ i,i < n → validS (gx g 0 i) (gx g 1 i) = true],.agg [i64 (bxS n (gx g 0) (gx g 1) 0),i64 (bxS n (gx g 0) (gx g 1) 1),i64 (bxS n (gx g 0) (gx g 1) 2),i64 (bxS n (gx g 0) (gx g 1) 3)])
 | _ => none
theorem vc237 (n:Nat) (X Y:Nat → Int) (hX:∀ i,i < n → inR (X i) ∧ inR (Y i)) (hn:n ≤ 1000) (hv:∀ i,i < n → validS (X i) (Y i) = true):fnVC Tryz.prog [(29,c29),(51,c51)] [] Tryz.f237 [.agg [.ro n 2 fun i => [i64 (X i),i64 (Y i)]]] (· = .agg [i64 (bxS n X Y 0),i64 (bxS n X Y 1),i64 (bxS n X Y 2),i64 (bxS n X Y 3)]):=by
 refine fnVC_go (rs:=[.cell 2 47]) rfl rfl ?_
 simp only [go_sem]
 refine ⟨by omega,by omega,by rw [show bytesT Tryz.prog 47 = 32 by kernel_rfl]; omega,?_⟩
 refine loopC_go (fun (i:Nat) => i ≤ n) (fun i => n - i) (fun i => [(13,i64 i)]) (fun i => [(5,famN n 4 47 (fun j => [i64 (upto i X j),i64 (upto i Y j),i64 (upto i X j),i64 (upto i Y j)]) none)]) [1,0] [14,15,16,17,5,4,18,19,20,21,22,23,13] 0 (by kernel_rfl) ?_ (Nat.zero_le _) ?_ ?_
 ·intro x _; simp [goodNames,asg]
 ·simp only [go_sem,upto_zero,implies_true]
 ·intro i hi
  simp only [go_sem,c29,c51]
  refine ⟨fun hin => ?_,fun hin => ?_⟩
  ·have hin':i < n:=by omega
   have v:=validS_iff.1 (hv i hin')
   refine ⟨by omega,hin,fun z hz z1 hz1 z2 hz2 z3 hz3 => ⟨by omega,hin,hin',fun z4 hz4 => ⟨i + 1,by omega,by omega,?_,fun j hj => ?_⟩⟩⟩
   ·rw [hz4,wrap_in (by unfold inR; omega)]; rfl
   ·rw [wrap_in (by unfold inR; omega)] at hz hz1 hz2 hz3
    by_cases e:j = i
    ·subst e
     rw [if_pos rfl]
     simp only [go_sem,upto_self]
     omega
    ·rw [if_neg e]
     have:∀ Z,upto (i + 1) Z j = upto i Z j:=fun Z => upto_ne e
     simp only [go_sem,this]
  ·have e:i = n:=by omega
   subst e
   have ok:okB i (upto i X) (upto i Y) (upto i X) (upto i Y):=fun j hj => by
    rw [upto_lt hj,upto_lt hj]
    have v:=validS_iff.1 (hv j hj)
    unfold checkBoxS
    rw [if_pos ⟨hv j hj,hv j hj⟩,if_neg (by omega)]
   have hb:boxes i (fun j => [i64 (upto i X j),i64 (upto i Y j),i64 (upto i X j),i64 (upto i Y j)]):=fun j hj => by
    simp only [gx,gi_0,gi_1,gi_2,gi_3,upto_lt hj]
    exact ⟨trivial,(hX j hj).1,(hX j hj).2,(hX j hj).1,(hX j hj).2⟩
   obtain ⟨j1,j2,j3,j4⟩:=joinS_ok ok
   intro z hz z1 hz1 z2 hz2 z3 hz3
   have hz:z = joinS i (upto i X) (upto i Y) (upto i X) (upto i Y) 0:=hz
   have hz1:z1 = joinS i (upto i X) (upto i Y) (upto i X) (upto i Y) 1:=hz1
   have hz2:z2 = joinS i (upto i X) (upto i Y) (upto i X) (upto i Y) 2:=hz2
   have hz3:z3 = joinS i (upto i X) (upto i Y) (upto i X) (upto i Y) 3:=hz3
   rw [j1,mnS_upto (Nat.le_refl _)] at hz
   rw [j2,mnS_upto (Nat.le_refl _)] at hz1
   rw [j3,mxS_upto (Nat.le_refl _)] at hz2
   rw [j4,mxS_upto (Nat.le_refl _)] at hz3
   subst hz hz1 hz2 hz3
   exact ⟨hb,by omega,rfl⟩
theorem con237:ConOK Tryz.prog 237 c237:=ConOK.go (G:=[(29,c29),(51,c51)]) (H:=[]) (.cons con29 (.cons con51 .nil)) Tryz.func237 fun l ob r hc hob => by
 unfold c237 at hc
 split at hc
 ·rename_i n g
  cases hc
  have hs:spots n g:=hob _ (by simp)
  exact ⟨[.agg [.ro n 2 fun i => [i64 (gx g 0 i),i64 (gx g 1 i)]]],fun w I vs h => Rs_one (Rs_poly hs) h,by kernel_rfl,vc237 n _ _ (fun i hi => (hs i hi).2) (hob _ (by simp)) (hob _ (by simp))⟩
 ·cases hc
def boxS (k x y r:Int) (n:Nat) (X Y:Nat → Int) (q:Nat):Int:=
 if checkS k x y r n X Y = 0 then (if k = 1 then (match q with
  | 0 => x - r
  | 1 => y - r
  | 2 => x + r
  | _ => y + r) else bxS n X Y q) else 0
def c12:Con
 | [.agg [.v (.int .i64 k),.v (.int .i64 x),.v (.int .i64 y),.v (.int .i64 r),.ro n 2 g]] => some ([spots n g,n ≤ 9223372036854775806,inR x,inR y,inR r],.agg [i64 (boxS k x y r n (gx g 0) (gx g 1) 0),i64 (boxS k x y r n (gx g 0) (gx g 1) 1),i64 (boxS k x y r n (gx g 0) (gx g 1) 2),i64 (boxS k x y r n (gx g 0) (gx g 1) 3)])
 | _ => none
theorem boxS_disc {k x y r:Int} {n:Nat} {X Y:Nat → Int} {q:Nat} (hc:checkS k x y r n X Y = 0) (hk:k = 1):boxS k x y r n X Y q = match q with
  | 0 => x - r
  | 1 => y - r
  | 2 => x + r
  | _ => y + r:=by unfold boxS; rw [if_pos hc,if_pos hk]
theorem boxS_poly {k x y r:Int} {n:Nat} {X Y:Nat → Int} {q:Nat} (hc:checkS k x y r n X Y = 0) (hk:k ≠ 1):boxS k x y r n X Y q = bxS n X Y q:=by unfold boxS; rw [if_pos hc,if_neg hk]
theorem boxS_none {k x y r:Int} {n:Nat} {X Y:Nat → Int} {q:Nat} (hc:¬ checkS k x y r n X Y = 0):boxS k x y r n X Y q = 0:=by unfold boxS; rw [if_neg hc]
theorem con12:ConOK Tryz.prog 12 c12:=ConOK.of (G:=[(53,c53),(237,c237),(232,c232)]) (H:=[]) (.cons con53 (.cons con237 (.cons con232 .nil))) Tryz.func12 fun l ob rr hc hob => by
 unfold c12 at hc
 split at hc
 ·rename_i k x y r n g
  cases hc
  have hs:spots n g:=hob _ (by simp)
  have hn:n ≤ 9223372036854775806:=hob _ (by simp)
  have hx:inR x:=hob _ (by simp)
  have hy:inR y:=hob _ (by simp)
  have hr:inR r:=hob _ (by simp)
  refine ⟨by kernel_rfl,fnVC_go (rs:=[.cell 2 47]) rfl rfl ?_⟩
  simp only [go_sem,c53,c237,c232]
  refine ⟨fun hc => ?_,fun hc => ⟨hs,hn,hx,hy,hr,fun h => h.elim,fun _ => by simp only [boxS_none hc]⟩⟩
  obtain ⟨hk,v1,v2,h1,h2⟩:=check_1 hc
  refine ⟨fun hk1 => ⟨hs,hn,hx,hy,hr,fun _ z hz z1 hz1 z2 hz2 z3 hz3 => ?_,fun h => by cases h⟩,fun hk1 => ⟨hs,hn,hx,hy,hr,fun _ z hz z1 hz1 z2 hz2 z3 hz3 => ⟨hs,by have:=h2 hk1; omega,v2,?_⟩,fun h => by cases h⟩⟩
  ·have h1:=h1 hk1
   have v:=validS_iff.1 v1
   rw [wrap_in (by unfold inR; omega)] at hz hz1 hz2 hz3
   simp only [boxS_disc hc hk1]
   rw [hz,hz1,hz2,hz3]
  ·simp only [boxS_poly hc hk1]
   rw [hz,hz1,hz2,hz3]
 ·cases hc
end Go.Ax
end
section
/-
  Sums of vectors, the reference's.
-/
set_option maxHeartbeats 4000000
set_option maxRecDepth 100000
namespace Go.Ax
open Go.Proofs
section
variable {N M q:Nat} {σ:Names} {m rows:Mem} {x:Fam} {a b:AV} {n sz f k r:Nat} {ty:TypeId} {get:Nat → List AV}
def emptyF (x:Fam):Prop:=∀ f,(x f).n = 0 ∧ (x f).g = none
def fitQ (N M:Nat) (σ:Names) (m:Mem) (x:Fam):Option Nat → Prop
 | some k => fitF N M σ x (look m k)
 | none => emptyF x
theorem fitRows_z:fitRows N M σ m [] = True:=(rfl)
theorem fitRows_c:fitRows N M σ m ((q,x) :: rows) = (fitQ N M σ m x (asg σ q) ∧ fitRows N M σ m rows):=by
 show ((match asg σ q with
  | some k => ∃ y,look m k = some y ∧ ∀ f,fitRow N M σ (x f) (y f)
  | none => ∀ f,(x f).n = 0 ∧ (x f).g = none) ∧ _) = _
 unfold fitQ fitF emptyF
 cases asg σ q with
 | none => rfl
 | some k => cases h:look m k <;> simp [h]
theorem fitQ_some:fitQ N M σ m x (some k) = fitF N M σ x (look m k):=(rfl)
theorem fitQ_none:fitQ N M σ m x none = emptyF x:=(rfl)
theorem emptyF_N:emptyF (famN n sz ty get none) = (n = 0):=by
 unfold emptyF
 apply propext
 constructor
 ·intro h; have:=(h 0).1; simpa [famN] using this
 ·intro h f
  subst h
  unfold famN
  split <;> exact ⟨rfl,rfl⟩
def ownA (f n sz:Nat) (a:AV):Option Nat → Prop
 | some k => a = .own k f n sz
 | none => n = 0 ∧ a = .v (.slice none 0 0)
theorem fit1_ownA:fit1 N M σ (.own q f n sz) a = (q < M ∧ ownA f n sz a (asg σ q)):=by
 simp only [fit1,ownA]
 cases asg σ q <;> rfl
theorem ownA_some:ownA f n sz (.own r f k sz) (some r) = (k = n):=by simp [ownA]
theorem ownA_none:ownA f n sz (.v (.slice none 0 0)) none = (n = 0):=by simp [ownA]
theorem asg_z:asg [] r = some r:=(rfl)
theorem asg_c {y:Option Nat}:asg ((k,y) :: σ) r = if k = r then y else asg σ r:=(rfl)
end
attribute [go_sem] fitRows_z fitRows_c fitQ_some fitQ_none emptyF_N fit1_ownA ownA_some ownA_none asg_z asg_c
def c141:Con
 | [.ro n 4 g] => some ([vecs n g,n ≤ 1000],ve (su1 n (gx g 0) (gb g 1)) (su1 n (gx g 2) (gb g 3)))
 | _ => none
theorem vc141 (n:Nat) (X Y:Nat → Int) (E F:Nat → Bool) (hX:∀ i,i < n → inR (X i) ∧ inR (Y i)) (hn:n ≤ 1000):fnVC Tryz.prog [(74,c74)] [(5,⟨[(7,.slot 3)],[(13,[.slot 3]),(14,[.slot 3])]⟩)] Tryz.f141 [.ro n 4 fun i => [i64 (X i),bo (E i),i64 (Y i),bo (F i)]] (· = ve (su1 n X E) (su1 n Y F)):=by
 refine fnVC_go (rs:=[.cell 2 38]) rfl rfl ?_
 simp only [go_sem]
 refine loopN_go (fun (i:Nat) => i ≤ n) (fun i => n - i) (fun i => [(5,i64 i),(3,.own 4 0 i 2),(4,.own 5 0 i 2)]) (fun i => [(4,famN i 2 36 (fun k => [i64 (X k),bo (E k)]) none),(5,famN i 2 36 (fun k => [i64 (Y k),bo (F k)]) none)]) [0] [6,7,8,9,12,13,14,15,16,17,18,19,20,21,22,23,24,25,26,27,3,4,10,11,5] 2 0 (by kernel_rfl) (Nat.zero_le _) ⟨[(4,none),(5,none)],?_,?_,?_,?_⟩ ?_
 ·simp only [go_sem]
 ·simp only [go_sem]
 ·simp only [go_sem]
 ·simp [goodNames,asg]
 intro i hi
 simp only [go_sem,c74]
 have hb:bytesT Tryz.prog 36 = 16:=by kernel_rfl
 rw [hb]
 refine ⟨fun h => ⟨by omega,h,by omega,by omega,by omega,h,by omega,by omega,fun z hz => ⟨i + 1,by omega,by omega,[(4,some 17),(5,some 25)],?_⟩⟩,fun h => ?_⟩
 ·simp only [go_sem]
  refine ⟨by rw [hz,wrap_in (by unfold inR; omega)]; rfl,⟨fun k hk => ?_,fun k hk => ?_⟩,by simp [goodNames,asg]⟩
  ·by_cases e:k < i
   ·rw [if_pos e]; simp only [go_sem]
   ·have e:k = i:=by omega
    subst e
    rw [if_neg (by omega),Nat.sub_self]
    simp only [Nat.zero_mul,go_sem]
  ·by_cases e:k < i
   ·rw [if_pos e]; simp only [go_sem]
   ·have e:k = i:=by omega
    subst e
    rw [if_neg (by omega),Nat.sub_self]
    simp only [Nat.zero_mul,go_sem]
 ·have e:i = n:=by omega
  subst e
  have hx:∀ j,j < i → (fun j => [i64 (X j),bo (E j)]) j = [i64 (X j),bo (E j)]:=fun j hj => rfl
  have hy:∀ j,j < i → (fun j => [i64 (Y j),bo (F j)]) j = [i64 (Y j),bo (F j)]:=fun j hj => rfl
  obtain ⟨e1,e2⟩:=wvS_up hx
  obtain ⟨e3,e4⟩:=wvS_up hy
  simp only [forall_eq,e1,e2,e3,e4]
  exact ⟨nums_up hx fun j hj => (hX j hj).1,hn,nums_up hy fun j hj => (hX j hj).2,hn,rfl⟩
theorem con141:ConOK Tryz.prog 141 c141:=ConOK.go (G:=[(74,c74)]) (H:=[(5,⟨[(7,.slot 3)],[(13,[.slot 3]),(14,[.slot 3])]⟩)]) (.cons con74 .nil) Tryz.func141 fun l ob r hc hob => by
 unfold c141 at hc
 split at hc
 ·rename_i n g
  cases hc
  have hs:vecs n g:=hob _ (by simp)
  exact ⟨[.ro n 4 fun i => [i64 (gx g 0 i),bo (gb g 1 i),i64 (gx g 2 i),bo (gb g 3 i)]],fun w I vs h => Rs_one (fun v => ro_alike fun i hi => (hs i hi).1) h,by kernel_rfl,vc141 n _ _ _ _ (fun i hi => (hs i hi).2) (hob _ (by simp))⟩
 ·cases hc
end Go.Ax
end
section
/-
  Rays.
-/
set_option maxHeartbeats 4000000
set_option maxRecDepth 100000
namespace Go.Ax
open Go.Proofs
def nSq (a:Nb):Nb:=(sqV (whV a.1),sqF (whV a.1) (whF a.1 a.2))
def nCl (x l h:Nb):Nb:=(max (whV l.1) (min (whV x.1) (whV h.1)),whF l.1 l.2 || (whF x.1 x.2 || whF h.1 h.2))
theorem sqV_rg {v:Int}:rg (sqV v):=by
 unfold sqV; split
 ·unfold rg; omega
 ·exact ftV_rg _
theorem nPos_rg {a:Nb} (h:inR a.1):rg (nPos a).1:=by
 have:=whV_rg h
 unfold nPos rg at *; dsimp only; split <;> omega
def dmB (x y r fx fy tx ty:Int):Prop:=¬ dist2 x y tx ty ≤ r * r ∧ ((0 ≤ (fx - x) * (tx - fx) + (fy - y) * (ty - fy) ∨ (tx - fx) * (tx - fx) + (ty - fy) * (ty - fy) ≤ -((fx - x) * (tx - fx) + (fy - y) * (ty - fy))) ∨
 ((fx - x) * (tx - fx) + (fy - y) * (ty - fy)) * ((fx - x) * (tx - fx) + (fy - y) * (ty - fy)) < ((tx - fx) * (tx - fx) + (ty - fy) * (ty - fy)) * ((fx - x) * (fx - x) + (fy - y) * (fy - y) - r * r))
end Go.Ax
end
section
/-
  Numbers and vectors ars they are computed with: contracts whose results are whole numbers and whole vectors; the reference's vectors.
-/
set_option maxHeartbeats 4000000
set_option maxRecDepth 100000
namespace Go.Ax
open Go.Proofs
abbrev V2:=Nb × Nb
def nbA (a:Nb):AV:=.agg [i64 a.1,bo a.2]
def veA (a:V2):AV:=.agg [i64 a.1.1,bo a.1.2,i64 a.2.1,bo a.2.2]
def unA (u:Bool × V2):AV:=.tup [.agg [i64 u.2.1.1,bo u.2.1.2,i64 u.2.2.1,bo u.2.2.2],bo u.1]
theorem bnd_nb {a:Nb}:bnd (nbA a) = .agg [i64 a.1,bo a.2]:=(rfl)
theorem bnd_ve {a:V2}:bnd (veA a) = .agg [i64 a.1.1,bo a.1.2,i64 a.2.1,bo a.2.2]:=(rfl)
theorem bnd_un {u:Bool × V2}:bnd (unA u) = .tup [.agg [i64 u.2.1.1,bo u.2.1.2,i64 u.2.2.1,bo u.2.2.2],bo u.1]:=(rfl)
theorem plain_nb {a:Nb}:plain 3 (nbA a) = true:=(rfl)
theorem plain_ve {a:V2}:plain 3 (veA a) = true:=(rfl)
theorem plain_un {u:Bool × V2}:plain 3 (unA u) = true:=(rfl)
theorem etaN {a:Nb}:(a.1,a.2) = a:=(rfl)
theorem etaV {a:V2}:(a.1,a.2) = a:=(rfl)
theorem gx_rows1 {a b:Int} {e f:Bool}:gx (rowsOf 2 [i64 a,bo e,i64 b,bo f]) 0 0 = a:=(rfl)
theorem gx_rows2 {a b:Int} {e f:Bool}:gx (rowsOf 2 [i64 a,bo e,i64 b,bo f]) 0 1 = b:=(rfl)
theorem gb_rows1 {a b:Int} {e f:Bool}:gb (rowsOf 2 [i64 a,bo e,i64 b,bo f]) 1 0 = e:=(rfl)
theorem gb_rows2 {a b:Int} {e f:Bool}:gb (rowsOf 2 [i64 a,bo e,i64 b,bo f]) 1 1 = f:=(rfl)
section
variable {a b c d:Int} {e f p q:Bool}
theorem gx4_1:gx (rowsOf 4 [i64 a,bo e,i64 b,bo f,i64 c,bo p,i64 d,bo q]) 0 0 = a:=(rfl)
theorem gx4_2:gx (rowsOf 4 [i64 a,bo e,i64 b,bo f,i64 c,bo p,i64 d,bo q]) 2 0 = b:=(rfl)
theorem gx4_3:gx (rowsOf 4 [i64 a,bo e,i64 b,bo f,i64 c,bo p,i64 d,bo q]) 0 1 = c:=(rfl)
theorem gx4_4:gx (rowsOf 4 [i64 a,bo e,i64 b,bo f,i64 c,bo p,i64 d,bo q]) 2 1 = d:=(rfl)
theorem gb4_1:gb (rowsOf 4 [i64 a,bo e,i64 b,bo f,i64 c,bo p,i64 d,bo q]) 1 0 = e:=(rfl)
theorem gb4_2:gb (rowsOf 4 [i64 a,bo e,i64 b,bo f,i64 c,bo p,i64 d,bo q]) 3 0 = f:=(rfl)
theorem gb4_3:gb (rowsOf 4 [i64 a,bo e,i64 b,bo f,i64 c,bo p,i64 d,bo q]) 1 1 = p:=(rfl)
theorem gb4_4:gb (rowsOf 4 [i64 a,bo e,i64 b,bo f,i64 c,bo p,i64 d,bo q]) 3 1 = q:=(rfl)
theorem vecs_rows:vecs 2 (rowsOf 4 [i64 a,bo e,i64 b,bo f,i64 c,bo p,i64 d,bo q]) = (inR a ∧ inR b ∧ inR c ∧ inR d):=by
 apply propext
 constructor
 ·intro h; exact ⟨(h 0 (by omega)).2.1,(h 0 (by omega)).2.2,(h 1 (by omega)).2.1,(h 1 (by omega)).2.2⟩
 ·rintro ⟨h1,h2,h3,h4⟩; exact vecs2 rfl rfl h1 h2 h3 h4
theorem nums_rows:nums 2 (rowsOf 2 [i64 a,bo e,i64 b,bo f]) = (inR a ∧ inR b):=by
 apply propext
 constructor
 ·intro h; exact ⟨(h 0 (by omega)).2,(h 1 (by omega)).2⟩
 ·rintro ⟨h1,h2⟩; exact nums2 rfl rfl h1 h2
theorem vecs_row1:vecs 1 (rowsOf 4 [i64 a,bo e,i64 b,bo f]) = (inR a ∧ inR b):=by
 apply propext
 constructor
 ·intro h; exact ⟨(h 0 (by omega)).2.1,(h 0 (by omega)).2.2⟩
 ·rintro ⟨h1,h2⟩; exact vecs1 rfl h1 h2
theorem nums_row1:nums 1 (rowsOf 2 [i64 a,bo e]) = inR a:=by
 apply propext
 constructor
 ·intro h; exact (h 0 (by omega)).2
 ·intro h; exact nums1 rfl h
end
def nAbs (a:Nb):Nb:=(ab (whV a.1),whF a.1 a.2)
def nMx (a b:Nb):Nb:=(if whV a.1 < whV b.1 then whV b.1 else whV a.1,whF a.1 a.2 || whF b.1 b.2)
def nMn (a b:Nb):Nb:=(if whV b.1 < whV a.1 then whV b.1 else whV a.1,whF a.1 a.2 || whF b.1 b.2)
def vLoc (x y:Int):V2:=(nRat x 256,nRat y 256)
def vAdd (a b:V2):V2:=(nAdd a.1 b.1,nAdd a.2 b.2)
def vSub (a b:V2):V2:=(nSub a.1 b.1,nSub a.2 b.2)
def vScale (v:V2) (k:Nb):V2:=(nMul v.1 k,nMul v.2 k)
def vDot (a b:V2):Nb:=nDot a.1 b.1 a.2 b.2
def vCross (a b:V2):Nb:=nDot a.1 b.2 (nNeg a.2) b.1
def vLen (a:V2):Nb:=nHyp a.1 a.2
def vOf (x y:Int):V2:=(nInt x,nInt y)
def vUnit (v:V2):Bool × V2:=unS v.1.1 v.1.2 v.2.1 v.2.2
def vApply (r v:V2):V2:=(nDot r.1 v.1 (nNeg r.2) v.2,nDot r.2 v.1 r.1 v.2)
def vNorm (a b c d:Int):V2:=(vUnit (vOf (d - b) (-(c - a)))).2
theorem inR_of {x:Int} (h:rg x):inR x = True:=eq_true (rg_inR h)
section
variable {a b c d:Nb} {u v:V2} {x y:Int}
theorem iMul:inR (nMul a b).1 = True:=inR_of nMul_rg
theorem iDiv:inR (nDiv a b).1 = True:=inR_of nDiv_rg
theorem iInt:inR (nInt x).1 = True:=inR_of nInt_rg
theorem iAdd:inR (nAdd a b).1 = True:=inR_of nAdd_rg
theorem iSub:inR (nSub a b).1 = True:=inR_of nSub_rg
theorem iRat:inR (nRat x y).1 = True:=inR_of nRat_rg
theorem iDot:inR (nDot a b c d).1 = True:=inR_of nDot_rg
theorem iHyp:inR (nHyp a b).1 = True:=inR_of nHyp_rg
theorem iSq:inR (nSq a).1 = True:=inR_of sqV_rg
theorem iNeg (h:inR a.1):inR (nNeg a).1 = True:=inR_of (nNeg_rg h)
theorem iPos (h:inR a.1):inR (nPos a).1 = True:=inR_of (nPos_rg h)
theorem iAbs (h:inR a.1):inR (nAbs a).1 = True:=by
 refine inR_of ?_
 have:=whV_rg h
 unfold nAbs ab rg at *; dsimp only; split <;> omega
theorem iMx (h:inR a.1) (k:inR b.1):inR (nMx a b).1 = True:=by
 refine inR_of ?_
 have h1:=whV_rg h
 have h2:=whV_rg k
 unfold nMx rg at *; dsimp only; split <;> omega
theorem iMn (h:inR a.1) (k:inR b.1):inR (nMn a b).1 = True:=by
 refine inR_of ?_
 have h1:=whV_rg h
 have h2:=whV_rg k
 unfold nMn rg at *; dsimp only; split <;> omega
theorem iCl (h:inR a.1) (k:inR b.1) (l:inR c.1):inR (nCl a b c).1 = True:=by
 refine inR_of ?_
 have h1:=whV_rg h
 have h2:=whV_rg k
 have h3:=whV_rg l
 unfold nCl rg at *; dsimp only; omega
theorem iLoc1:inR (vLoc x y).1.1 = True:=iRat
theorem iLoc2:inR (vLoc x y).2.1 = True:=iRat
theorem iVAdd1:inR (vAdd u v).1.1 = True:=iAdd
theorem iVAdd2:inR (vAdd u v).2.1 = True:=iAdd
theorem iVSub1:inR (vSub u v).1.1 = True:=iSub
theorem iVSub2:inR (vSub u v).2.1 = True:=iSub
theorem iScale1:inR (vScale u a).1.1 = True:=iMul
theorem iScale2:inR (vScale u a).2.1 = True:=iMul
theorem iVDot:inR (vDot u v).1 = True:=iDot
theorem iVCross:inR (vCross u v).1 = True:=iDot
theorem iLen:inR (vLen u).1 = True:=iHyp
theorem iOf1:inR (vOf x y).1.1 = True:=iInt
theorem iOf2:inR (vOf x y).2.1 = True:=iInt
theorem iUnit1:inR (vUnit u).2.1.1 = True:=inR_of unS_rg.1
theorem iUnit2:inR (vUnit u).2.2.1 = True:=inR_of unS_rg.2
theorem iApply1:inR (vApply u v).1.1 = True:=iDot
theorem iApply2:inR (vApply u v).2.1 = True:=iDot
theorem iNorm1 {z t:Int}:inR (vNorm x y z t).1.1 = True:=iUnit1
theorem iNorm2 {z t:Int}:inR (vNorm x y z t).2.1 = True:=iUnit2
theorem inR_0:inR 0 = True:=eq_true (by unfold inR; omega)
theorem inR_1:inR 1 = True:=eq_true (by unfold inR; omega)
theorem inR_2:inR 2 = True:=eq_true (by unfold inR; omega)
theorem inR_m1:inR (-1) = True:=eq_true (by unfold inR; omega)
theorem inR_256:inR 256 = True:=eq_true (by unfold inR; omega)
theorem inR_one:inR 4294967296 = True:=eq_true (by unfold inR; omega)
end
attribute [go_sem] bnd_nb bnd_ve bnd_un plain_nb plain_ve plain_un etaN etaV gx_rows1 gx_rows2 gb_rows1 gb_rows2 gx4_1 gx4_2 gx4_3 gx4_4 gb4_1 gb4_2 gb4_3 gb4_4 vecs_rows nums_rows vecs_row1 nums_row1
attribute [go_sem] iMul iDiv iInt iAdd iSub iRat iDot iHyp iSq iNeg iPos iAbs iMx iMn iCl iLoc1 iLoc2 iVAdd1 iVAdd2 iVSub1 iVSub2 iScale1 iScale2 iVDot iVCross iLen iOf1 iOf2 iUnit1 iUnit2 iApply1 iApply2 iNorm1 iNorm2 inR_0 inR_1 inR_2 inR_m1 inR_256 inR_one
def k127:Con
 | [.v (.int .i64 n)] => some ([inR n],nbA (nInt n))
 | _ => none
theorem kon127:ConOK Tryz.prog 93 k127:=(show c93 = k127 by kernel_rfl) ▸ con93
def k50:Con
 | [.v (.int .i64 n)] => some ([inR n],nbA (nInt n))
 | _ => none
theorem kon50:ConOK Tryz.prog 30 k50:=(show c30 = k50 by kernel_rfl) ▸ con30
def k179:Con
 | [.agg [.v (.int .i64 v),.v (.bool f)]] => some ([inR v],nbA (nNeg (v,f)))
 | _ => none
theorem kon179:ConOK Tryz.prog 127 k179:=(show c127 = k179 by kernel_rfl) ▸ con127
def k45:Con
 | [.agg [.v (.int .i64 v),.v (.bool f)]] => some ([inR v],nbA (nAbs (v,f)))
 | _ => none
theorem kon45:ConOK Tryz.prog 25 k45:=(show c25 = k45 by kernel_rfl) ▸ con25
def k52:Con
 | [.agg [.v (.int .i64 v),.v (.bool f)],.agg [.v (.int .i64 u),.v (.bool e)]] => some ([inR v,inR u],nbA (nMul (v,f) (u,e)))
 | _ => none
theorem kon52:ConOK Tryz.prog 32 k52:=(show c32 = k52 by kernel_rfl) ▸ con32
def k160:Con
 | [.agg [.v (.int .i64 v),.v (.bool f)],.agg [.v (.int .i64 u),.v (.bool e)]] => some ([inR v,inR u],nbA (nSub (v,f) (u,e)))
 | _ => none
theorem kon160:ConOK Tryz.prog 112 k160:=(show c112 = k160 by kernel_rfl) ▸ con112
def k46:Con
 | [.agg [.v (.int .i64 v),.v (.bool f)],.agg [.v (.int .i64 u),.v (.bool e)]] => some ([inR v,inR u],nbA (nSub (v,f) (u,e)))
 | _ => none
theorem kon46:ConOK Tryz.prog 26 k46:=(show c26 = k46 by kernel_rfl) ▸ con26
def k132:Con
 | [.v (.int .i64 a),.v (.int .i64 b)] => some ([inR a,inR b],nbA (nRat a b))
 | _ => none
theorem kon132:ConOK Tryz.prog 98 k132:=(show c98 = k132 by kernel_rfl) ▸ con98
def k168:Con
 | [.agg [.v (.int .i64 v),.v (.bool f)],.agg [.v (.int .i64 u),.v (.bool e)]] => some ([inR v,inR u],nbA (nDiv (v,f) (u,e)))
 | _ => none
theorem kon168:ConOK Tryz.prog 115 k168:=(show c115 = k168 by kernel_rfl) ▸ con115
def k112:Con
 | [.agg [.v (.int .i64 v),.v (.bool f)],.agg [.v (.int .i64 u),.v (.bool e)]] => some ([inR v,inR u],nbA (nHyp (v,f) (u,e)))
 | _ => none
theorem kon112:ConOK Tryz.prog 76 k112:=(show c76 = k112 by kernel_rfl) ▸ con76
def k171:Con
 | [.agg [.v (.int .i64 x),.v (.bool f)],.agg [.v (.int .i64 l),.v (.bool p)],.agg [.v (.int .i64 h),.v (.bool q)]] => some ([inR x,inR l,inR h],nbA (nCl (x,f) (l,p) (h,q)))
 | _ => none
theorem kon171:ConOK Tryz.prog 118 k171:=(show c118 = k171 by kernel_rfl) ▸ con118
def k167:Con
 | [.agg [.v (.int .i64 x),.v (.bool f)]] => some ([inR x],nbA (nPos (x,f)))
 | _ => none
theorem kon167:ConOK Tryz.prog 111 k167:=(show c111 = k167 by kernel_rfl) ▸ con111
def k63:Con
 | [.agg [.v (.int .i64 x),.v (.int .i64 y)]] => some ([inR x,inR y],veA (vLoc x y))
 | _ => none
theorem kon63:ConOK Tryz.prog 47 k63:=(show c47 = k63 by kernel_rfl) ▸ con47
def k162:Con
 | [.v (.int .i64 x)] => some ([inR x],nbA (nRat x 256))
 | _ => none
theorem kon162:ConOK Tryz.prog 113 k162:=(show c113 = k162 by kernel_rfl) ▸ con113
def k161:Con
 | [.agg [.v (.int .i64 x),.v (.bool e),.v (.int .i64 y),.v (.bool f)]] => some ([inR x,inR y],nbA (vLen ((x,e),(y,f))))
 | _ => none
theorem kon161:ConOK Tryz.prog 114 k161:=(show c114 = k161 by kernel_rfl) ▸ con114
def k169:Con
 | [.agg [.v (.int .i64 x),.v (.bool e),.v (.int .i64 y),.v (.bool f)],.agg [.v (.int .i64 k),.v (.bool g)]] => some ([inR x,inR y,inR k],veA (vScale ((x,e),(y,f)) (k,g)))
 | _ => none
theorem kon169:ConOK Tryz.prog 116 k169:=(show c116 = k169 by kernel_rfl) ▸ con116
def k178:Con
 | [.agg [.v (.int .i64 x),.v (.bool e),.v (.int .i64 y),.v (.bool f)],.agg [.v (.int .i64 z),.v (.bool g),.v (.int .i64 t),.v (.bool h)]] => some ([inR x,inR y,inR z,inR t],nbA (vDot ((x,e),(y,f)) ((z,g),(t,h))))
 | _ => none
theorem kon178:ConOK Tryz.prog 126 k178:=(show c126 = k178 by kernel_rfl) ▸ con126
def k166:Con
 | [.v (.int .i64 x),.v (.int .i64 y)] => some ([inR x,inR y],veA (vOf x y))
 | _ => none
theorem kon166:ConOK Tryz.prog 110 k166:=(show c110 = k166 by kernel_rfl) ▸ con110
def k176:Con
 | [.agg [.v (.int .i64 x),.v (.int .i64 y)]] => some ([inR x,inR y],veA (vOf x y))
 | _ => none
theorem kon176:ConOK Tryz.prog 124 k176:=(show c124 = k176 by kernel_rfl) ▸ con124
def k165:Con
 | [.agg [.v (.int .i64 x),.v (.bool e),.v (.int .i64 y),.v (.bool f)]] => some ([inR x,inR y],unA (vUnit ((x,e),(y,f))))
 | _ => none
theorem kon165:ConOK Tryz.prog 109 k165:=(show c109 = k165 by kernel_rfl) ▸ con109
def k173:Con
 | [.agg [.v (.int .i64 a),.v (.int .i64 b)],.agg [.v (.int .i64 c),.v (.int .i64 d)]] => some ([validS a b = true,validS c d = true],veA (vNorm a b c d))
 | _ => none
theorem kon173:ConOK Tryz.prog 120 k173:=(show c120 = k173 by kernel_rfl) ▸ con120
def k139:Con
 | [.agg [.v (.int .i64 x),.v (.bool e),.v (.int .i64 y),.v (.bool f)],.agg [.v (.int .i64 z),.v (.bool g),.v (.int .i64 t),.v (.bool h)]] => some ([inR x,inR y,inR z,inR t],veA (vApply ((x,e),(y,f)) ((z,g),(t,h))))
 | _ => none
theorem kon139:ConOK Tryz.prog 199 k139:=(show c199 = k139 by kernel_rfl) ▸ con199
theorem owe2 {p q:Prop} (h1:p) (h2:q):∀ x ∈ [p,q],x:=List.forall_mem_cons.2 ⟨h1,List.forall_mem_cons.2 ⟨h2,fun _ h => (List.not_mem_nil h).elim⟩⟩
def vTwo (g:Nat → List AV):AV:=veA (vAdd ((gx g 0 0,gb g 1 0),(gx g 2 0,gb g 3 0)) ((gx g 0 1,gb g 1 1),(gx g 2 1,gb g 3 1)))
theorem vecs_at {g:Nat → List AV} (h:vecs 2 g):g 0 = [i64 (gx g 0 0),bo (gb g 1 0),i64 (gx g 2 0),bo (gb g 3 0)] ∧ g 1 = [i64 (gx g 0 1),bo (gb g 1 1),i64 (gx g 2 1),bo (gb g 3 1)]:=⟨(h 0 (by omega)).1,(h 1 (by omega)).1⟩
theorem two_eq {g:Nat → List AV} (h:vecs 2 g):ve (su1 2 (gx g 0) (gb g 1)) (su1 2 (gx g 2) (gb g 3)) = vTwo g:=by
 obtain ⟨h0,h1⟩:=vecs_at h
 rw [su2x h0 h1,su2y h0 h1]; rfl
def k130:Con
 | [.ro 2 4 g] => some ([vecs 2 g],veA (vAdd ((gx g 0 0,gb g 1 0),(gx g 2 0,gb g 3 0)) ((gx g 0 1,gb g 1 1),(gx g 2 1,gb g 3 1))))
 | _ => none
theorem kon130:ConOK Tryz.prog 96 k130:=fun l ob r hc hob => by
 unfold k130 at hc
 split at hc
 ·rename_i g
  cases hc
  have h:vecs 2 g:=hob _ (by simp)
  have:=con96 [.ro 2 4 g] _ _ rfl (owe2 h (by omega))
  rw [two_eq h] at this
  exact this
 ·cases hc
def k138:Con
 | [.ro 2 4 g] => some ([vecs 2 g],veA (vAdd ((gx g 0 0,gb g 1 0),(gx g 2 0,gb g 3 0)) ((gx g 0 1,gb g 1 1),(gx g 2 1,gb g 3 1))))
 | _ => none
theorem kon138:ConOK Tryz.prog 141 k138:=fun l ob r hc hob => by
 unfold k138 at hc
 split at hc
 ·rename_i g
  cases hc
  have h:vecs 2 g:=hob _ (by simp)
  have:=con141 [.ro 2 4 g] _ _ rfl (owe2 h (by omega))
  rw [two_eq h] at this
  exact this
 ·cases hc
theorem nPos_eq {a:Nb}:nMx (0,false) a = nPos a:=by
 have c1:whV 0 = 0:=by decide
 have c2:whF 0 false = false:=by decide
 unfold nMx nPos
 dsimp only
 rw [c1,c2,Bool.false_or]
attribute [go_sem] nPos_eq
def k47:Con
 | [.agg [.v (.int .i64 x),.v (.bool e),.v (.int .i64 y),.v (.bool f)]] => some ([inR x,inR y],nbA (vLen ((x,e),(y,f))))
 | _ => none
theorem kon47:ConOK Tryz.prog 27 k47:=ConOK.of (G:=[(76,k112)]) (H:=[]) (.cons kon112 .nil) Tryz.func27 fun l ob r hc hob => by
 unfold k47 at hc
 split at hc
 ·rename_i x e y f
  cases hc
  have h_0:inR x:=hob _ (by simp)
  have h_1:inR y:=hob _ (by simp)
  refine ⟨by kernel_rfl,fnVC_go (rs:=[.cell 2 36]) rfl rfl ?_⟩
  simp only [go_sem,k112,h_0,h_1]
  rfl
 ·cases hc
def k172:Con
 | [.agg [.v (.int .i64 x),.v (.bool e),.v (.int .i64 y),.v (.bool f)],.agg [.v (.int .i64 z),.v (.bool g),.v (.int .i64 t),.v (.bool h)]] => some ([inR x,inR y,inR z,inR t],veA (vSub ((x,e),(y,f)) ((z,g),(t,h))))
 | _ => none
theorem kon172:ConOK Tryz.prog 119 k172:=ConOK.of (G:=[(112,k160)]) (H:=[(1,⟨[(11,.slot 4)],[]⟩)]) (.cons kon160 .nil) Tryz.func119 fun l ob r hc hob => by
 unfold k172 at hc
 split at hc
 ·rename_i x e y f z g t h
  cases hc
  have h_0:inR x:=hob _ (by simp)
  have h_1:inR y:=hob _ (by simp)
  have h_2:inR z:=hob _ (by simp)
  have h_3:inR t:=hob _ (by simp)
  refine ⟨by kernel_rfl,fnVC_go (rs:=[.cell 4 38]) rfl rfl ?_⟩
  simp only [go_sem,k160,h_0,h_1,h_2,h_3]
  rfl
 ·cases hc
end Go.Ax
end
section
/-
  The reference's directions and normals.
-/
set_option maxHeartbeats 4000000
set_option maxRecDepth 100000
namespace Go.Ax
open Go.Proofs
end Go.Ax
end
section
/-
  Corners of shapes: the iterator over them.
-/
set_option maxHeartbeats 4000000
set_option maxRecDepth 100000
namespace Go.Ax
open Go.Proofs Go.RowKit
def nxt2 (n i:Nat):Nat:=nxt n (nxt n i)
theorem nxt2_lt {n i:Nat} (h:i < n):nxt2 n i < n:=nxt_lt (nxt_lt h)
theorem tmod_nxt2 {n i:Nat} (h:i < n):Int.tmod ((i:Int) + 2) n = (nxt2 n i:Nat):=by
 have e:((i:Int) + 2) = ((i + 2:Nat):Int):=rfl
 rw [e,Int.tmod_eq_emod_of_nonneg (by omega),← Int.natCast_emod]
 congr 1
 unfold nxt2 nxt
 by_cases h2:i + 2 < n
 ·rw [Nat.mod_eq_of_lt h2,if_pos (show i + 1 < n by omega),if_pos h2]
 ·by_cases h1:i + 1 < n
  ·have:i + 2 = n:=by omega
   rw [if_pos h1,if_neg (by omega),this,Nat.mod_self]
  ·have:i + 1 = n:=by omega
   rw [if_neg h1,Nat.mod_eq_sub_mod (by omega),show i + 2 - n = 1 by omega]
   by_cases h0:0 + 1 < n
   ·rw [if_pos h0,Nat.mod_eq_of_lt h0]
   ·rw [if_neg h0,show n = 1 by omega]
structure At204 (I:Nat → Prop) (w:World) (J:Nat → World → Prop) (l n:Nat) (v1:Value) (i:Nat) (a:Act) (W:World):Prop where
 sz:a.tmps.size = 35
 de:a.defers = []
 t0:a.tmps.getD 0 undef = .func (.yield l) #[] #[]
 t1:a.tmps.getD 1 undef = v1
 t3:a.tmps.getD 3 undef = .int .i64 n
 t7:a.tmps.getD 7 undef = .int .i64 n
 t8:a.tmps.getD 8 undef = .int .i64 i
 le:i ≤ n
 j:J i W
 same:Same I w W
end Go.Ax
end