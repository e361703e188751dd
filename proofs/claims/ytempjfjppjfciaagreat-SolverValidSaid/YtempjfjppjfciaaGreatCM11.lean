/-
  Made bodies: their weights are not below 0.
-/
import Derived.Test.YtempjfjppjfciaaGreatCM10
import Derived.ShutString
import Derived.ChangeOld
import Derived.Below
set_option linter.unusedVariables false
set_option linter.unusedSimpArgs false
section
set_option maxHeartbeats 4000000
set_option maxRecDepth 100000
namespace Go.Ax
open Go.Proofs Go.Proofs.Tryz
theorem cor_nn {a b c:Int} (i:Nat) (hi:i < corN (mkK a) (mkR a b) (mkH a b b) (mkH a b c) (mkN a) (mkX a b c) (mkY a b c)):0 ≤ crI (corX (mkK a) (mkH a b b) (mkH a b c) (mkX a b c)) (corY (mkK a) (mkH a b b) (mkH a b c) (mkY a b c)) (corN (mkK a) (mkR a b) (mkH a b b) (mkH a b c) (mkN a) (mkX a b c) (mkY a b c)) i:=by
 have hN:corN (mkK a) (mkR a b) (mkH a b b) (mkH a b c) (mkN a) (mkX a b c) (mkY a b c) = if mkK a = 2 then 4 else mkN a:=if_pos mk_chk
 have hl:=fun i hi => @cor_lo a b c i hi
 have e:∀ i,i < corN (mkK a) (mkR a b) (mkH a b b) (mkH a b c) (mkN a) (mkX a b c) (mkY a b c) → crI (corX (mkK a) (mkH a b b) (mkH a b c) (mkX a b c)) (corY (mkK a) (mkH a b b) (mkH a b c) (mkY a b c)) (corN (mkK a) (mkR a b) (mkH a b b) (mkH a b c) (mkN a) (mkX a b c) (mkY a b c)) i =
   corX (mkK a) (mkH a b b) (mkH a b c) (mkX a b c) i * corY (mkK a) (mkH a b b) (mkH a b c) (mkY a b c) ((i + 1) % corN (mkK a) (mkR a b) (mkH a b b) (mkH a b c) (mkN a) (mkX a b c) (mkY a b c)) - corY (mkK a) (mkH a b b) (mkH a b c) (mkY a b c) i * corX (mkK a) (mkH a b b) (mkH a b c) (mkX a b c) ((i + 1) % corN (mkK a) (mkR a b) (mkH a b b) (mkH a b c) (mkN a) (mkX a b c) (mkY a b c)):=fun i hi => by
  have hj:=Nat.mod_lt (i + 1) (show 0 < corN (mkK a) (mkR a b) (mkH a b b) (mkH a b c) (mkN a) (mkX a b c) (mkY a b c) by omega)
  have k1:=lo_mul (hl i hi).1 (hl _ hj).2
  have k2:=lo_mul (hl i hi).2 (hl _ hj).1
  unfold crI
  rw [wrap_in (inRo (by omega))]
 rw [e i hi]
 clear e hl
 rw [hN] at hi ⊢
 clear hN
 have b1:=@mkM_bd b b
 have b2:=@mkM_bd b c
 have t1:(mkM b b).tdiv 2 = mkM b b / 2:=Int.tdiv_eq_ediv_of_nonneg (by omega)
 have t2:(-mkM b b).tdiv 2 = -(mkM b b / 2):=by rw [Int.neg_tdiv,t1]
 by_cases k0:modS a 5 = 0
 ·have h1:mkK a = 1:=if_pos k0
  have h2:mkN a = 0:=if_pos k0
  rw [h1,h2,if_neg (by decide)] at hi
  omega
 by_cases k1:modS a 5 = 1
 ·have h1:mkK a = 2:=(if_neg k0).trans (if_pos k1)
  have w1:=@mkW_bd b b
  have w2:=@mkW_bd b c
  have h2:mkH a b b = mkW b b:=(if_neg k0).trans (if_pos k1)
  have h3:mkH a b c = mkW b c:=(if_neg k0).trans (if_pos k1)
  rw [h2,h3]
  rw [h1,if_pos rfl] at hi ⊢
  generalize mkW b b = w at *
  generalize mkW b c = t at *
  have p:=Int.mul_nonneg (show 0 ≤ w by omega) (show 0 ≤ t by omega)
  match i with
  | 0 => show 0 ≤ (-w) * (-t) - (-t) * w; rw [Int.neg_mul_neg,Int.neg_mul,Int.mul_comm t w]; omega
  | 1 => show 0 ≤ w * t - (-t) * w; rw [Int.neg_mul,Int.mul_comm t w]; omega
  | 2 => show 0 ≤ w * t - t * (-w); rw [Int.mul_neg,Int.mul_comm t w]; omega
  | 3 => show 0 ≤ (-w) * (-t) - t * (-w); rw [Int.neg_mul_neg,Int.mul_neg,Int.mul_comm t w]; omega
  | q + 4 => omega
 have h1:mkK a = 3:=(if_neg k0).trans (if_neg k1)
 rw [h1,if_neg (by decide)] at hi ⊢
 have eX:∀ i,corX 3 (mkH a b b) (mkH a b c) (mkX a b c) i = mkX a b c i:=fun i => if_neg (by decide)
 have eY:∀ i,corY 3 (mkH a b b) (mkH a b c) (mkY a b c) i = mkY a b c i:=fun i => if_neg (by decide)
 rw [eX,eX,eY,eY]
 clear eX eY h1
 unfold mkX mkY mkP
 rw [t1,t2]
 by_cases k2:modS a 5 = 2
 ·have h2:mkN a = 3:=(if_neg k0).trans ((if_neg k1).trans (if_pos k2))
  rw [h2] at hi ⊢
  rw [if_pos k2]
  generalize mkM b b = M at *
  generalize mkM b c = T at *
  have p:=Int.mul_nonneg (show 0 ≤ M by omega) (show 0 ≤ T by omega)
  match i with
  | 0 => show 0 ≤ (-M) * (-T) - (-T) * M; rw [Int.neg_mul_neg,Int.neg_mul,Int.mul_comm T M]; omega
  | 1 => show 0 ≤ M * T - (-T) * 0; omega
  | 2 => show 0 ≤ 0 * (-T) - T * (-M); rw [Int.zero_mul,Int.mul_neg,Int.mul_comm T M]; omega
  | q + 3 => omega
 by_cases k3:modS a 5 = 3
 ·have h2:mkN a = 5:=(if_neg k0).trans ((if_neg k1).trans ((if_neg k2).trans (if_pos k3)))
  rw [h2] at hi ⊢
  rw [if_neg k2,if_pos k3]
  generalize mkM b b = M at *
  generalize mkM b c = T at *
  have p:=Int.mul_nonneg (show 0 ≤ M by omega) (show 0 ≤ T by omega)
  have q:=Int.mul_nonneg (show 0 ≤ M / 2 by omega) (show 0 ≤ T by omega)
  match i with
  | 0 => show 0 ≤ (-(M / 2)) * (-T) - (-T) * (M / 2); rw [Int.neg_mul_neg,Int.neg_mul,Int.mul_comm T (M / 2)]; omega
  | 1 => show 0 ≤ M / 2 * 0 - (-T) * M; rw [Int.neg_mul,Int.mul_comm T M]; omega
  | 2 => show 0 ≤ M * T - 0 * 0; omega
  | 3 => show 0 ≤ 0 * 0 - T * (-M); rw [Int.zero_mul,Int.mul_neg,Int.mul_comm T M]; omega
  | 4 => show 0 ≤ (-M) * (-T) - 0 * (-(M / 2)); rw [Int.neg_mul_neg]; omega
  | q + 5 => omega
 ·have h2:mkN a = 8:=(if_neg k0).trans ((if_neg k1).trans ((if_neg k2).trans (if_neg k3)))
  rw [h2] at hi ⊢
  rw [if_neg k2,if_neg k3]
  generalize mkM b b = M at *
  have p:=Int.mul_nonneg (show 0 ≤ M by omega) (show 0 ≤ M by omega)
  have q:=Int.mul_nonneg (show 0 ≤ M by omega) (show 0 ≤ M / 2 by omega)
  have s:=Int.mul_nonneg (show 0 ≤ M / 2 by omega) (show 0 ≤ M / 2 by omega)
  have u:M * (M / 2) ≤ M * M:=Int.mul_le_mul_of_nonneg_left (by omega) (by omega)
  have v:M / 2 * (M / 2) ≤ M * (M / 2):=Int.mul_le_mul_of_nonneg_right (by omega) (by omega)
  match i with
  | 0 => show 0 ≤ M * (M / 2) - (-(M / 2)) * M; rw [Int.neg_mul,Int.mul_comm (M / 2) M]; omega
  | 1 => show 0 ≤ M * M - M / 2 * (M / 2); omega
  | 2 => show 0 ≤ M / 2 * M - M * (-(M / 2)); rw [Int.mul_neg,Int.mul_comm (M / 2) M]; omega
  | 3 => show 0 ≤ (-(M / 2)) * (M / 2) - M * (-M); rw [Int.neg_mul,Int.mul_neg]; omega
  | 4 => show 0 ≤ (-M) * (-(M / 2)) - M / 2 * (-M); rw [Int.neg_mul_neg,Int.mul_neg,Int.mul_comm (M / 2) M]; omega
  | 5 => show 0 ≤ (-M) * (-M) - (-(M / 2)) * (-(M / 2)); rw [Int.neg_mul_neg,Int.neg_mul_neg]; omega
  | 6 => show 0 ≤ (-(M / 2)) * (-M) - (-M) * (M / 2); rw [Int.neg_mul_neg,Int.neg_mul,Int.mul_comm (M / 2) M]; omega
  | 7 => show 0 ≤ M / 2 * (-(M / 2)) - (-M) * M; rw [Int.mul_neg,Int.neg_mul]; omega
  | q + 8 => omega
theorem wgA_nn {P Q:Nat → Int} {n:Nat} (hn:n ≤ 8) (hl:∀ i,i < n → lo (P i) ∧ lo (Q i)) (hc:∀ i,i < n → 0 ≤ crI P Q n i):∀ i:Nat,i ≤ n → 0 ≤ wgA P Q n i ∧ wgA P Q n i ≤ (i:Int) * 33554432
 | 0,_ => by show (0:Int) ≤ 0 ∧ (0:Int) ≤ _; omega
 | i + 1,h => by
  have h1:=wgA_nn hn hl hc i (by omega)
  have h2:=crI_bd hl (show i < n by omega)
  have h3:=hc i (by omega)
  show 0 ≤ IntKind.i64.wrap (wgA P Q n i + crI P Q n i) ∧ IntKind.i64.wrap (wgA P Q n i + crI P Q n i) ≤ _
  rw [wrap_in (inRo (by omega))]
  omega
theorem doI_eq {P Q:Nat → Int} {i j:Nat} (h1:lo (P i)) (h2:lo (Q i)) (h3:lo (P j)) (h4:lo (Q j)):doI P Q i j = P i * P j + Q i * Q j ∧ -33554432 ≤ doI P Q i j ∧ doI P Q i j ≤ 33554432:=by
 have k1:=lo_mul h1 h3
 have k2:=lo_mul h2 h4
 unfold doI
 rw [wrap_in (x:=P i * P j) (inRo (by omega)),wrap_in (x:=Q i * Q j) (inRo (by omega)),wrap_in (inRo (by omega))]
 exact ⟨rfl,by omega,by omega⟩
theorem sq_3 (a b:Int):0 ≤ a * a + a * b + b * b:=by
 have h1:=sq0 a
 have h2:=sq0 b
 have h3:=sq0 (a + b)
 rw [Int.add_mul,Int.mul_add,Int.mul_add,Int.mul_comm b a] at h3
 omega
theorem wgB_nn {P Q:Nat → Int} {n:Nat} (hn:n ≤ 8) (hl:∀ i,i < n → lo (P i) ∧ lo (Q i)) (hc:∀ i,i < n → 0 ≤ crI P Q n i):∀ i:Nat,i ≤ n → 0 ≤ wgB P Q n i ∧ wgB P Q n i ≤ (i:Int) * 3377699720527872
 | 0,_ => by show (0:Int) ≤ 0 ∧ (0:Int) ≤ _; omega
 | i + 1,h => by
  have h1:=wgB_nn hn hl hc i (by omega)
  have h2:=crI_bd hl (show i < n by omega)
  have h3:=hc i (by omega)
  have hj:=Nat.mod_lt (i + 1) (show 0 < n by omega)
  have hi:=hl i (by omega)
  have hk:=hl _ hj
  have d1:=@doI_eq P Q i i hi.1 hi.2 hi.1 hi.2
  have d2:=@doI_eq P Q i ((i + 1) % n) hi.1 hi.2 hk.1 hk.2
  have d3:=@doI_eq P Q ((i + 1) % n) ((i + 1) % n) hk.1 hk.2 hk.1 hk.2
  show 0 ≤ IntKind.i64.wrap (wgB P Q n i + IntKind.i64.wrap (crI P Q n i * IntKind.i64.wrap (IntKind.i64.wrap (doI P Q i i + doI P Q i ((i + 1) % n)) + doI P Q ((i + 1) % n) ((i + 1) % n)))) ∧ IntKind.i64.wrap (wgB P Q n i + IntKind.i64.wrap (crI P Q n i * IntKind.i64.wrap (IntKind.i64.wrap (doI P Q i i + doI P Q i ((i + 1) % n)) + doI P Q ((i + 1) % n) ((i + 1) % n)))) ≤ _
  rw [wrap_in (x:=doI P Q i i + doI P Q i ((i + 1) % n)) (inRo (by omega)),wrap_in (x:=doI P Q i i + doI P Q i ((i + 1) % n) + doI P Q ((i + 1) % n) ((i + 1) % n)) (inRo (by omega))]
  have s1:=sq_3 (P i) (P ((i + 1) % n))
  have s2:=sq_3 (Q i) (Q ((i + 1) % n))
  have hs:0 ≤ doI P Q i i + doI P Q i ((i + 1) % n) + doI P Q ((i + 1) % n) ((i + 1) % n):=by omega
  have hs2:doI P Q i i + doI P Q i ((i + 1) % n) + doI P Q ((i + 1) % n) ((i + 1) % n) ≤ 100663296:=by omega
  generalize doI P Q i i + doI P Q i ((i + 1) % n) + doI P Q ((i + 1) % n) ((i + 1) % n) = S at *
  have p1:=Int.mul_nonneg h3 hs
  have p2:crI P Q n i * S ≤ 33554432 * 100663296:=Int.mul_le_mul h2.2 hs2 hs (by omega)
  rw [wrap_in (x:=crI P Q n i * S) (inRo (by omega)),wrap_in (inRo (by omega))]
  omega
def mkWt (a b c d k:Int):Nb × Nb:=nwW (mkK a) (mkR a b) (mkH a b b) (mkH a b c) (mkN a) (mkX a b c) (mkY a b c) (mkD d k) (modS k 4 != 0)
theorem mk0_eq {a b c x y u d k s:Int} (hs:1 ≤ s ∧ s ≤ 4000):mk0 a b c x y u d k s = ⟨mkK a,mkR a b,mkH a b b,mkH a b c,mkN a,mkX a b c,mkY a b c,foAt x y s,foRot u,zV,(0,false),(mkWt a b c d k).1,(mkWt a b c d k).2,0,false,false,1⟩:=by
 have hE:=@mk_nwE a b c x y u d k s hs
 unfold mk0 nwB
 rw [if_pos hE]
 rfl
def mkV (p q k:Int):V2:=if modS k 4 = 1 then (nuN p 200,nuN q 200) else zV
def mkO (r k:Int):Nb:=if modS k 4 = 1 then nuN r 60 else (0,false)
def mkSt (k:Int):Int:=if modS k 4 = 2 then 30 else 0
theorem mkB_eq {a b c x y u p q r d k s:Int} (hs:1 ≤ s ∧ s ≤ 4000):mkB a b c x y u p q r d k s = ⟨mkK a,mkR a b,mkH a b b,mkH a b c,mkN a,mkX a b c,mkY a b c,foAt x y s,foRot u,mkV p q k,mkO r k,(mkWt a b c d k).1,(mkWt a b c d k).2,mkSt k,decide (modS k 4 = 2 ∨ modS k 4 = 3),decide (modS k 4 = 3),1⟩:=by
 unfold mkB mkV mkO mkSt
 rw [mk0_eq hs]
 by_cases h1:modS k 4 = 1
 ·rw [if_pos h1,if_pos h1,if_pos h1,if_neg (by omega),decide_eq_false (by omega),decide_eq_false (by omega)]
 ·rw [if_neg h1,if_neg h1,if_neg h1]
  by_cases h2:modS k 4 = 2
  ·rw [if_pos h2,if_pos h2,decide_eq_true (by omega),decide_eq_false (by omega)]
  ·rw [if_neg h2,if_neg h2]
   by_cases h3:modS k 4 = 3
   ·rw [if_pos h3,decide_eq_true (by omega),decide_eq_true h3]
   ·rw [if_neg h3,decide_eq_false (by omega),decide_eq_false h3]
theorem nu_bd {x s:Int} (h:1 ≤ s ∧ s ≤ 200):-858993459200 < (nuN x s).1 ∧ (nuN x s).1 < 858993459200:=by
 have h1:x.tmod (s * 4294967296) < s * 4294967296:=Int.tmod_lt_of_pos x (by omega)
 have h2:-(s * 4294967296) < x.tmod (s * 4294967296):=Int.lt_tmod_of_pos x (by omega)
 show -858993459200 < x.tmod (s * 4294967296) ∧ x.tmod (s * 4294967296) < 858993459200
 omega
theorem mkWt_in {a b c d k:Int}:inR (mkWt a b c d k).1.1 ∧ inR (mkWt a b c d k).2.1:=by
 unfold mkWt nwW
 split
 ·exact mk_wgS_in
 ·exact ⟨by show inR 0; unfold inR; decide,by show inR 0; unfold inR; decide⟩
theorem mkB_in {a b c x y u p q r d k s:Int} (hs:1 ≤ s ∧ s ≤ 4000):inB (mkB a b c x y u p q r d k s):=by
 rw [mkB_eq hs]
 have hm:=@mkWt_in a b c d k
 have w1:=@mkW_bd b b
 have h1:∀ v,inR (mkH a b v):=fun v => by
  have:=@mkW_bd b v
  unfold mkH inR
  (repeat' split) <;> omega
 have hz:inR 0:=by unfold inR; decide
 have hu:∀ x s,1 ≤ s ∧ s ≤ 200 → inR (nuN x s).1:=fun x s h => by
  have:=@nu_bd x s h
  unfold inR; omega
 refine ⟨?_,?_,h1 b,h1 c,fun j hj => mk_inR j hj,tmod_inR (by omega),tmod_inR (by omega),csV_inR,snV_inR,?_,?_,?_,hm.1,hm.2,?_,(by unfold inR; decide:inR 1)⟩
 ·show inR (mkK a)
  unfold mkK inR
  (repeat' split) <;> omega
 ·show inR (mkR a b)
  unfold mkR inR
  (repeat' split) <;> omega
 ·show inR (mkV p q k).1.1
  unfold mkV
  split
  ·exact hu _ _ (by omega)
  ·exact hz
 ·show inR (mkV p q k).2.1
  unfold mkV
  split
  ·exact hu _ _ (by omega)
  ·exact hz
 ·show inR (mkO r k).1
  unfold mkO
  split
  ·exact hu _ _ (by omega)
  ·exact hz
 ·show inR (mkSt k)
  unfold mkSt
  split
  ·unfold inR; decide
  ·exact hz
theorem mkB_n {a b c x y u p q r d k s:Int} (hs:1 ≤ s ∧ s ≤ 4000):(mkB a b c x y u p q r d k s).n ≤ 1000:=by
 rw [mkB_eq hs]
 show mkN a ≤ 1000
 unfold mkN
 (repeat' split) <;> omega
theorem wgB_two {P Q:Nat → Int} {n:Nat} (hn:n ≤ 8) (hl:∀ i,i < n → lo (P i) ∧ lo (Q i)) (hc:∀ i,i < n → 0 ≤ crI P Q n i):∀ i:Nat,i + 2 ≤ n → wgB P Q n 2 ≤ wgB P Q n (i + 2)
 | 0,_ => Int.le_refl _
 | i + 1,h => by
  have h0:=wgB_two hn hl hc i (by omega)
  have h1:=wgB_nn hn hl hc (i + 2) (by omega)
  have h2:=crI_bd hl (show i + 2 < n by omega)
  have h3:=hc (i + 2) (by omega)
  have hj:=Nat.mod_lt (i + 2 + 1) (show 0 < n by omega)
  have hi:=hl (i + 2) (by omega)
  have hk:=hl _ hj
  have d1:=@doI_eq P Q (i + 2) (i + 2) hi.1 hi.2 hi.1 hi.2
  have d2:=@doI_eq P Q (i + 2) ((i + 2 + 1) % n) hi.1 hi.2 hk.1 hk.2
  have d3:=@doI_eq P Q ((i + 2 + 1) % n) ((i + 2 + 1) % n) hk.1 hk.2 hk.1 hk.2
  show wgB P Q n 2 ≤ IntKind.i64.wrap (wgB P Q n (i + 2) + IntKind.i64.wrap (crI P Q n (i + 2) * IntKind.i64.wrap (IntKind.i64.wrap (doI P Q (i + 2) (i + 2) + doI P Q (i + 2) ((i + 2 + 1) % n)) + doI P Q ((i + 2 + 1) % n) ((i + 2 + 1) % n))))
  rw [wrap_in (x:=doI P Q (i + 2) (i + 2) + doI P Q (i + 2) ((i + 2 + 1) % n)) (inRo (by omega)),wrap_in (x:=doI P Q (i + 2) (i + 2) + doI P Q (i + 2) ((i + 2 + 1) % n) + doI P Q ((i + 2 + 1) % n) ((i + 2 + 1) % n)) (inRo (by omega))]
  have s1:=sq_3 (P (i + 2)) (P ((i + 2 + 1) % n))
  have s2:=sq_3 (Q (i + 2)) (Q ((i + 2 + 1) % n))
  have hs:0 ≤ doI P Q (i + 2) (i + 2) + doI P Q (i + 2) ((i + 2 + 1) % n) + doI P Q ((i + 2 + 1) % n) ((i + 2 + 1) % n):=by omega
  have hs2:doI P Q (i + 2) (i + 2) + doI P Q (i + 2) ((i + 2 + 1) % n) + doI P Q ((i + 2 + 1) % n) ((i + 2 + 1) % n) ≤ 100663296:=by omega
  generalize doI P Q (i + 2) (i + 2) + doI P Q (i + 2) ((i + 2 + 1) % n) + doI P Q ((i + 2 + 1) % n) ((i + 2 + 1) % n) = S at *
  have p1:=Int.mul_nonneg h3 hs
  have p2:crI P Q n (i + 2) * S ≤ 33554432 * 100663296:=Int.mul_le_mul h2.2 hs2 hs (by omega)
  rw [wrap_in (x:=crI P Q n (i + 2) * S) (inRo (by omega)),wrap_in (inRo (by omega))]
  omega
theorem mul_lo {a b p q:Int} (h1:p ≤ a) (h2:q ≤ b) (hp:0 ≤ p) (hq:0 ≤ q):p * q ≤ a * b:=Int.mul_le_mul h1 h2 hq (by omega)
theorem wgB_lo {P Q:Nat → Int} {n:Nat} (hn3:3 ≤ n) (hn:n ≤ 8) (hl:∀ i,i < n → lo (P i) ∧ lo (Q i)) (hc:∀ i,i < n → 0 ≤ crI P Q n i)
  (h0:512 ≤ P 0 * Q 1 - Q 0 * P 1) (h1:512 ≤ P 1 * Q 2 - Q 1 * P 2) (hd:2048 ≤ (P 0 * P 0 + Q 0 * Q 0 + (P 0 * P 1 + Q 0 * Q 1) + (P 1 * P 1 + Q 1 * Q 1)) + (P 1 * P 1 + Q 1 * Q 1 + (P 1 * P 2 + Q 1 * Q 2) + (P 2 * P 2 + Q 2 * Q 2))):1048576 ≤ wgB P Q n 2 ∧ 1 ≤ wgA P Q n 2:=by
 have e1:(0 + 1) % n = 1:=Nat.mod_eq_of_lt (by omega)
 have e2:(1 + 1) % n = 2:=Nat.mod_eq_of_lt (by omega)
 have l0:=hl 0 (by omega)
 have l1:=hl 1 (by omega)
 have l2:=hl 2 (by omega)
 have a1:=lo_mul l0.1 l1.2
 have a2:=lo_mul l0.2 l1.1
 have a3:=lo_mul l1.1 l2.2
 have a4:=lo_mul l1.2 l2.1
 have c0:crI P Q n 0 = P 0 * Q 1 - Q 0 * P 1:=by unfold crI; rw [e1,wrap_in (inRo (by omega))]
 have c1:crI P Q n 1 = P 1 * Q 2 - Q 1 * P 2:=by unfold crI; rw [e2,wrap_in (inRo (by omega))]
 obtain ⟨d1,d1a,d1b⟩:=@doI_eq P Q 0 0 l0.1 l0.2 l0.1 l0.2
 obtain ⟨d2,d2a,d2b⟩:=@doI_eq P Q 0 1 l0.1 l0.2 l1.1 l1.2
 obtain ⟨d3,d3a,d3b⟩:=@doI_eq P Q 1 1 l1.1 l1.2 l1.1 l1.2
 obtain ⟨d4,d4a,d4b⟩:=@doI_eq P Q 1 2 l1.1 l1.2 l2.1 l2.2
 obtain ⟨d5,d5a,d5b⟩:=@doI_eq P Q 2 2 l2.1 l2.2 l2.1 l2.2
 have s1:=sq_3 (P 0) (P 1)
 have s2:=sq_3 (Q 0) (Q 1)
 have s3:=sq_3 (P 1) (P 2)
 have s4:=sq_3 (Q 1) (Q 2)
 have w:wgB P Q n 2 = IntKind.i64.wrap (IntKind.i64.wrap (0 + IntKind.i64.wrap (crI P Q n 0 * IntKind.i64.wrap (IntKind.i64.wrap (doI P Q 0 0 + doI P Q 0 ((0 + 1) % n)) + doI P Q ((0 + 1) % n) ((0 + 1) % n)))) + IntKind.i64.wrap (crI P Q n 1 * IntKind.i64.wrap (IntKind.i64.wrap (doI P Q 1 1 + doI P Q 1 ((1 + 1) % n)) + doI P Q ((1 + 1) % n) ((1 + 1) % n)))):=rfl
 have v:wgA P Q n 2 = IntKind.i64.wrap (IntKind.i64.wrap (0 + crI P Q n 0) + crI P Q n 1):=rfl
 rw [e1,e2] at w
 rw [c0,c1] at v w
 rw [w,v]
 generalize hD:doI P Q 0 0 = D1 at *
 generalize doI P Q 0 1 = D2 at *
 generalize doI P Q 1 1 = D3 at *
 generalize doI P Q 1 2 = D4 at *
 generalize doI P Q 2 2 = D5 at *
 generalize hC:P 0 * Q 1 - Q 0 * P 1 = C at *
 generalize hE:P 1 * Q 2 - Q 1 * P 2 = E at *
 rw [wrap_in (x:=D1 + D2) (inRo (by omega)),wrap_in (x:=D1 + D2 + D3) (inRo (by omega)),wrap_in (x:=D3 + D4) (inRo (by omega)),wrap_in (x:=D3 + D4 + D5) (inRo (by omega))]
 have hS:0 ≤ D1 + D2 + D3 ∧ D1 + D2 + D3 ≤ 100663296:=by omega
 have hT:0 ≤ D3 + D4 + D5 ∧ D3 + D4 + D5 ≤ 100663296:=by omega
 have hST:2048 ≤ (D1 + D2 + D3) + (D3 + D4 + D5):=by omega
 generalize D1 + D2 + D3 = S at *
 generalize D3 + D4 + D5 = T at *
 have p1:512 * S ≤ C * S:=Int.mul_le_mul_of_nonneg_right h0 hS.1
 have p2:512 * T ≤ E * T:=Int.mul_le_mul_of_nonneg_right h1 hT.1
 have hC2:C ≤ 33554432:=by omega
 have hE2:E ≤ 33554432:=by omega
 have p3:C * S ≤ 33554432 * 100663296:=Int.mul_le_mul hC2 hS.2 hS.1 (by omega)
 have p4:E * T ≤ 33554432 * 100663296:=Int.mul_le_mul hE2 hT.2 hT.1 (by omega)
 rw [wrap_in (x:=C * S) (inRo (by omega)),wrap_in (x:=E * T) (inRo (by omega)),wrap_in (x:=0 + C * S) (inRo (by omega)),wrap_in (x:=0 + C * S + E * T) (inRo (by omega)),wrap_in (x:=0 + C) (inRo (by omega)),wrap_in (x:=0 + C + E) (inRo (by omega))]
 omega
theorem wgA_two {P Q:Nat → Int} {n:Nat} (hn:n ≤ 8) (hl:∀ i,i < n → lo (P i) ∧ lo (Q i)) (hc:∀ i,i < n → 0 ≤ crI P Q n i):∀ i:Nat,i + 2 ≤ n → wgA P Q n 2 ≤ wgA P Q n (i + 2)
 | 0,_ => Int.le_refl _
 | i + 1,h => by
  have h0:=wgA_two hn hl hc i (by omega)
  have h1:=wgA_nn hn hl hc (i + 2) (by omega)
  have h2:=crI_bd hl (show i + 2 < n by omega)
  have h3:=hc (i + 2) (by omega)
  show wgA P Q n 2 ≤ IntKind.i64.wrap (wgA P Q n (i + 2) + crI P Q n (i + 2))
  rw [wrap_in (inRo (by omega))]
  omega
theorem cor_sum {a b c:Int} (hk:mkK a ≠ 1):(1048576 ≤ wgB (corX (mkK a) (mkH a b b) (mkH a b c) (mkX a b c)) (corY (mkK a) (mkH a b b) (mkH a b c) (mkY a b c)) (corN (mkK a) (mkR a b) (mkH a b b) (mkH a b c) (mkN a) (mkX a b c) (mkY a b c)) (corN (mkK a) (mkR a b) (mkH a b b) (mkH a b c) (mkN a) (mkX a b c) (mkY a b c)) ∧
   wgB (corX (mkK a) (mkH a b b) (mkH a b c) (mkX a b c)) (corY (mkK a) (mkH a b b) (mkH a b c) (mkY a b c)) (corN (mkK a) (mkR a b) (mkH a b b) (mkH a b c) (mkN a) (mkX a b c) (mkY a b c)) (corN (mkK a) (mkR a b) (mkH a b b) (mkH a b c) (mkN a) (mkX a b c) (mkY a b c)) ≤ 27021597764222976) ∧
  1 ≤ wgA (corX (mkK a) (mkH a b b) (mkH a b c) (mkX a b c)) (corY (mkK a) (mkH a b b) (mkH a b c) (mkY a b c)) (corN (mkK a) (mkR a b) (mkH a b b) (mkH a b c) (mkN a) (mkX a b c) (mkY a b c)) (corN (mkK a) (mkR a b) (mkH a b b) (mkH a b c) (mkN a) (mkX a b c) (mkY a b c)) ∧
   wgA (corX (mkK a) (mkH a b b) (mkH a b c) (mkX a b c)) (corY (mkK a) (mkH a b b) (mkH a b c) (mkY a b c)) (corN (mkK a) (mkR a b) (mkH a b b) (mkH a b c) (mkN a) (mkX a b c) (mkY a b c)) (corN (mkK a) (mkR a b) (mkH a b b) (mkH a b c) (mkN a) (mkX a b c) (mkY a b c)) ≤ 268435456:=by
 have hN:corN (mkK a) (mkR a b) (mkH a b b) (mkH a b c) (mkN a) (mkX a b c) (mkY a b c) = if mkK a = 2 then 4 else mkN a:=if_pos mk_chk
 have hl:=fun i hi => @cor_lo a b c i hi
 have hcn:=fun i hi => @cor_nn a b c i hi
 have b1:=@mkM_bd b b
 have b2:=@mkM_bd b c
 have t1:(mkM b b).tdiv 2 = mkM b b / 2:=Int.tdiv_eq_ediv_of_nonneg (by omega)
 have t2:(-mkM b b).tdiv 2 = -(mkM b b / 2):=by rw [Int.neg_tdiv,t1]
 have k0:¬ modS a 5 = 0:=fun h => hk (if_pos h)
 suffices h:3 ≤ corN (mkK a) (mkR a b) (mkH a b b) (mkH a b c) (mkN a) (mkX a b c) (mkY a b c) ∧ corN (mkK a) (mkR a b) (mkH a b b) (mkH a b c) (mkN a) (mkX a b c) (mkY a b c) ≤ 8 ∧
   512 ≤ corX (mkK a) (mkH a b b) (mkH a b c) (mkX a b c) 0 * corY (mkK a) (mkH a b b) (mkH a b c) (mkY a b c) 1 - corY (mkK a) (mkH a b b) (mkH a b c) (mkY a b c) 0 * corX (mkK a) (mkH a b b) (mkH a b c) (mkX a b c) 1 ∧
   512 ≤ corX (mkK a) (mkH a b b) (mkH a b c) (mkX a b c) 1 * corY (mkK a) (mkH a b b) (mkH a b c) (mkY a b c) 2 - corY (mkK a) (mkH a b b) (mkH a b c) (mkY a b c) 1 * corX (mkK a) (mkH a b b) (mkH a b c) (mkX a b c) 2 ∧
   2048 ≤ (corX (mkK a) (mkH a b b) (mkH a b c) (mkX a b c) 0 * corX (mkK a) (mkH a b b) (mkH a b c) (mkX a b c) 0 + corY (mkK a) (mkH a b b) (mkH a b c) (mkY a b c) 0 * corY (mkK a) (mkH a b b) (mkH a b c) (mkY a b c) 0 + (corX (mkK a) (mkH a b b) (mkH a b c) (mkX a b c) 0 * corX (mkK a) (mkH a b b) (mkH a b c) (mkX a b c) 1 + corY (mkK a) (mkH a b b) (mkH a b c) (mkY a b c) 0 * corY (mkK a) (mkH a b b) (mkH a b c) (mkY a b c) 1) + (corX (mkK a) (mkH a b b) (mkH a b c) (mkX a b c) 1 * corX (mkK a) (mkH a b b) (mkH a b c) (mkX a b c) 1 + corY (mkK a) (mkH a b b) (mkH a b c) (mkY a b c) 1 * corY (mkK a) (mkH a b b) (mkH a b c) (mkY a b c) 1)) +
    (corX (mkK a) (mkH a b b) (mkH a b c) (mkX a b c) 1 * corX (mkK a) (mkH a b b) (mkH a b c) (mkX a b c) 1 + corY (mkK a) (mkH a b b) (mkH a b c) (mkY a b c) 1 * corY (mkK a) (mkH a b b) (mkH a b c) (mkY a b c) 1 + (corX (mkK a) (mkH a b b) (mkH a b c) (mkX a b c) 1 * corX (mkK a) (mkH a b b) (mkH a b c) (mkX a b c) 2 + corY (mkK a) (mkH a b b) (mkH a b c) (mkY a b c) 1 * corY (mkK a) (mkH a b b) (mkH a b c) (mkY a b c) 2) + (corX (mkK a) (mkH a b b) (mkH a b c) (mkX a b c) 2 * corX (mkK a) (mkH a b b) (mkH a b c) (mkX a b c) 2 + corY (mkK a) (mkH a b b) (mkH a b c) (mkY a b c) 2 * corY (mkK a) (mkH a b b) (mkH a b c) (mkY a b c) 2)) by
  obtain ⟨h3,h8,g0,g1,g2⟩:=h
  obtain ⟨u1,u2⟩:=wgB_lo h3 h8 hl hcn g0 g1 g2
  generalize corN (mkK a) (mkR a b) (mkH a b b) (mkH a b c) (mkN a) (mkX a b c) (mkY a b c) = N at *
  obtain ⟨n',rfl⟩:∃ n',N = n' + 2:=⟨N - 2,by omega⟩
  have v1:=wgB_two h8 hl hcn n' (by omega)
  have v2:=wgA_two h8 hl hcn n' (by omega)
  have v3:=wgB_nn h8 hl hcn (n' + 2) (by omega)
  have v4:=wgA_nn h8 hl hcn (n' + 2) (by omega)
  omega
 rw [hN]
 clear hN hl hcn
 by_cases k1:modS a 5 = 1
 ·have h1:mkK a = 2:=(if_neg k0).trans (if_pos k1)
  have w1:=@mkW_bd b b
  have w2:=@mkW_bd b c
  have h2:mkH a b b = mkW b b:=(if_neg k0).trans (if_pos k1)
  have h3:mkH a b c = mkW b c:=(if_neg k0).trans (if_pos k1)
  rw [h2,h3,h1,if_pos rfl]
  generalize mkW b b = w at *
  generalize mkW b c = t at *
  have p:=mul_lo (p:=16) (q:=16) w1.1 w2.1 (by omega) (by omega)
  have p1:=mul_lo (p:=16) (q:=16) w1.1 w1.1 (by omega) (by omega)
  have p2:=mul_lo (p:=16) (q:=16) w2.1 w2.1 (by omega) (by omega)
  refine ⟨by omega,by omega,?_,?_,?_⟩
  ·show 512 ≤ (-w) * (-t) - (-t) * w; rw [Int.neg_mul_neg,Int.neg_mul,Int.mul_comm t w]; omega
  ·show 512 ≤ w * t - (-t) * w; rw [Int.neg_mul,Int.mul_comm t w]; omega
  ·show 2048 ≤ ((-w) * (-w) + (-t) * (-t) + ((-w) * w + (-t) * (-t)) + (w * w + (-t) * (-t))) + (w * w + (-t) * (-t) + (w * w + (-t) * t) + (w * w + t * t))
   simp only [Int.neg_mul_neg,Int.neg_mul,Int.mul_neg,Int.neg_neg]; omega
 have h1:mkK a = 3:=(if_neg k0).trans (if_neg k1)
 rw [h1,if_neg (by decide)]
 have eX:∀ i,corX 3 (mkH a b b) (mkH a b c) (mkX a b c) i = mkX a b c i:=fun i => if_neg (by decide)
 have eY:∀ i,corY 3 (mkH a b b) (mkH a b c) (mkY a b c) i = mkY a b c i:=fun i => if_neg (by decide)
 simp only [eX,eY]
 clear eX eY h1
 unfold mkX mkY mkP
 rw [t1,t2]
 by_cases k2:modS a 5 = 2
 ·have h2:mkN a = 3:=(if_neg k0).trans ((if_neg k1).trans (if_pos k2))
  rw [h2]
  rw [if_pos k2]
  generalize mkM b b = M at *
  generalize mkM b c = T at *
  have p:=mul_lo (p:=64) (q:=64) b1.1 b2.1 (by omega) (by omega)
  have p1:=mul_lo (p:=64) (q:=64) b1.1 b1.1 (by omega) (by omega)
  have p2:=mul_lo (p:=64) (q:=64) b2.1 b2.1 (by omega) (by omega)
  refine ⟨by omega,by omega,?_,?_,?_⟩
  ·show 512 ≤ (-M) * (-T) - (-T) * M; rw [Int.neg_mul_neg,Int.neg_mul,Int.mul_comm T M]; omega
  ·show 512 ≤ M * T - (-T) * 0; omega
  ·show 2048 ≤ ((-M) * (-M) + (-T) * (-T) + ((-M) * M + (-T) * (-T)) + (M * M + (-T) * (-T))) + (M * M + (-T) * (-T) + (M * 0 + (-T) * T) + (0 * 0 + T * T))
   simp only [Int.neg_mul_neg,Int.neg_mul,Int.mul_neg,Int.neg_neg,Int.mul_zero,Int.zero_mul]; omega
 by_cases k3:modS a 5 = 3
 ·have h2:mkN a = 5:=(if_neg k0).trans ((if_neg k1).trans ((if_neg k2).trans (if_pos k3)))
  rw [h2]
  rw [if_neg k2,if_pos k3]
  generalize mkM b b = M at *
  generalize mkM b c = T at *
  have q:=mul_lo (p:=32) (q:=64) (show 32 ≤ M / 2 by omega) b2.1 (by omega) (by omega)
  have p:=mul_lo (p:=64) (q:=64) b1.1 b2.1 (by omega) (by omega)
  have p1:=mul_lo (p:=64) (q:=64) b1.1 b1.1 (by omega) (by omega)
  have p2:=mul_lo (p:=64) (q:=64) b2.1 b2.1 (by omega) (by omega)
  have p3:=mul_lo (p:=32) (q:=32) (show 32 ≤ M / 2 by omega) (show 32 ≤ M / 2 by omega) (by omega) (by omega)
  have p4:=mul_lo (p:=32) (q:=64) (show 32 ≤ M / 2 by omega) b1.1 (by omega) (by omega)
  refine ⟨by omega,by omega,?_,?_,?_⟩
  ·show 512 ≤ (-(M / 2)) * (-T) - (-T) * (M / 2); rw [Int.neg_mul_neg,Int.neg_mul,Int.mul_comm T (M / 2)]; omega
  ·show 512 ≤ M / 2 * 0 - (-T) * M; rw [Int.neg_mul,Int.mul_comm T M]; omega
  ·show 2048 ≤ ((-(M / 2)) * (-(M / 2)) + (-T) * (-T) + ((-(M / 2)) * (M / 2) + (-T) * (-T)) + (M / 2 * (M / 2) + (-T) * (-T))) + (M / 2 * (M / 2) + (-T) * (-T) + (M / 2 * M + (-T) * 0) + (M * M + 0 * 0))
   simp only [Int.neg_mul_neg,Int.neg_mul,Int.mul_neg,Int.neg_neg,Int.mul_zero,Int.zero_mul]; omega
 ·have h2:mkN a = 8:=(if_neg k0).trans ((if_neg k1).trans ((if_neg k2).trans (if_neg k3)))
  rw [h2]
  rw [if_neg k2,if_neg k3]
  generalize mkM b b = M at *
  have q:=mul_lo (p:=64) (q:=32) b1.1 (show 32 ≤ M / 2 by omega) (by omega) (by omega)
  have p1:=mul_lo (p:=64) (q:=64) b1.1 b1.1 (by omega) (by omega)
  have p3:=mul_lo (p:=32) (q:=32) (show 32 ≤ M / 2 by omega) (show 32 ≤ M / 2 by omega) (by omega) (by omega)
  have u:M * (M / 2) ≤ M * M:=Int.mul_le_mul_of_nonneg_left (by omega) (by omega)
  have v:M / 2 * (M / 2) ≤ M * (M / 2):=Int.mul_le_mul_of_nonneg_right (by omega) (by omega)
  have x:2 * (M / 2 * (M / 2)) ≤ M * (M / 2):=by
   have:2 * (M / 2) * (M / 2) ≤ M * (M / 2):=Int.mul_le_mul_of_nonneg_right (by omega) (by omega)
   rw [Int.mul_assoc] at this
   exact this
  refine ⟨by omega,by omega,?_,?_,?_⟩
  ·show 512 ≤ M * (M / 2) - (-(M / 2)) * M; rw [Int.neg_mul,Int.mul_comm (M / 2) M]; omega
  ·show 512 ≤ M * M - M / 2 * (M / 2); omega
  ·show 2048 ≤ (M * M + (-(M / 2)) * (-(M / 2)) + (M * M + (-(M / 2)) * (M / 2)) + (M * M + M / 2 * (M / 2))) + (M * M + M / 2 * (M / 2) + (M * (M / 2) + M / 2 * M) + (M / 2 * (M / 2) + M * M))
   simp only [Int.neg_mul_neg,Int.neg_mul,Int.mul_neg,Int.neg_neg,Int.mul_comm (M / 2) M]; omega
theorem rat_bd {a b lo' hi:Int} (ha:0 ≤ a) (hb:1 ≤ b) (h1:lo' * b ≤ a * 4294967296) (h2:a * 4294967296 < (hi + 1) * b) (hh:hi ≤ 9223372036854775806):(nRat a b).2 = false ∧ lo' ≤ (nRat a b).1 ∧ (nRat a b).1 ≤ hi:=by
 obtain ⟨k1,k2⟩:=@tdp (a * 4294967296) b lo' (hi + 1) (by omega) (by omega) h1 h2
 have k0:0 ≤ (a * 4294967296).tdiv b:=Int.tdiv_nonneg (by omega) (by omega)
 unfold nRat raV raF
 rw [if_neg (by omega),if_neg (by omega)]
 generalize (a * 4294967296).tdiv b = q at *
 unfold ftV ftF
 rw [if_neg (by omega),if_neg (by omega),decide_eq_false (by omega)]
 exact ⟨rfl,by dsimp only; omega,by dsimp only; omega⟩
theorem div_bd2 {x:Nb} {b l hi lo' hi':Int} (hx:x.2 = false ∧ l ≤ x.1 ∧ x.1 ≤ hi) (hl:0 ≤ l) (hb:1 ≤ b ∧ b ≤ 9223372036854775807) (h1:lo' * b ≤ l * 4294967296) (h2:hi * 4294967296 < (hi' + 1) * b) (hm:hi ≤ 9223372036854775806) (hh:hi' ≤ 9223372036854775806):(nDiv x (b,false)).2 = false ∧ lo' ≤ (nDiv x (b,false)).1 ∧ (nDiv x (b,false)).1 ≤ hi':=by
 obtain ⟨x1,x2,x3⟩:=hx
 have q:=@rat_bd x.1 b lo' hi' (by omega) (by omega) (by omega) (by omega) hh
 have e1:whV x.1 = x.1:=by unfold whV; rw [if_neg (by omega)]
 have e2:whV b = b:=by unfold whV; rw [if_neg (by omega)]
 have f1:whF x.1 x.2 = false:=by rw [x1]; unfold whF; rw [decide_eq_false (by omega)]; rfl
 have f2:whF b false = false:=by unfold whF; rw [decide_eq_false (by omega)]; rfl
 have e:nDiv x (b,false) = nRat x.1 b:=by
  unfold nDiv nRat
  dsimp only
  rw [e1,e2,f1,f2,Bool.or_false,Bool.or_false]
 rw [e]
 exact q
def wok (m:Nb × Nb):Prop:=(m.1.2 = false ∧ 2000 ≤ m.1.1 ∧ m.1.1 ≤ 562949953421312) ∧ m.2.2 = false ∧ 8 ≤ m.2.1 ∧ m.2.1 ≤ 211106232532992
theorem wg_ok {a b c d k:Int} (hk:modS k 4 ≠ 0):wok (mkWt a b c d k):=by
 have e0:mkWt a b c d k = wgS (mkK a) (mkR a b) (mkH a b b) (mkH a b c) (mkN a) (mkX a b c) (mkY a b c) (mkD d k):=if_pos (by simpa using hk)
 rw [e0]
 have e:mkD d k = 1 + modS d 1000:=if_neg hk
 have hd:=modS_bd (n:=d) (m:=1000) (by omega)
 have hE:=@mk_wgE a b c d k hk
 rw [e] at hE ⊢
 have hS:wgS (mkK a) (mkR a b) (mkH a b b) (mkH a b c) (mkN a) (mkX a b c) (mkY a b c) (1 + modS d 1000) = wgM (mkK a) (mkR a b) (mkH a b b) (mkH a b c) (mkN a) (mkX a b c) (mkY a b c) (1 + modS d 1000):=if_pos hE
 rw [hS]
 generalize modS d 1000 = D at *
 have eI:nInt (1 + D) = ((1 + D) * 4294967296,false):=nInt_in (by omega)
 unfold wgM
 rw [eI]
 by_cases h:mkK a = 1
 ·rw [if_pos h]
  have h0:modS a 5 = 0:=by
   apply Classical.byContradiction
   intro hn
   unfold mkK at h
   rw [if_neg hn] at h
   split at h <;> omega
  have hr:mkR a b = mkW b b:=if_pos h0
  have hw:=sq_bd (@mkW_bd b b)
  have hq:=Int.mul_le_mul hw.2 hw.2 (by omega) (by omega)
  have hq0:=Int.mul_le_mul hw.1 hw.1 (by omega) (by omega)
  rw [hr,wrap_in (x:=mkW b b * mkW b b) (inRo (by omega)),wrap_in (x:=mkW b b * mkW b b * (mkW b b * mkW b b)) (inRo (by omega))]
  generalize hR:mkW b b * mkW b b = R at *
  generalize hQ:R * R = Q at *
  unfold piN
  have m1:=@rat_bd 65536 R 16777216 1099511627776 (by omega) (by omega) (by omega) (by omega) (by omega)
  have m2:=@div_bd2 _ 13493037704 _ _ 5340353 400000000000 m1 (by omega) (by omega) (by omega) (by omega) (by omega) (by omega)
  have m3:=@div_bd2 _ ((1 + D) * 4294967296) _ _ 2000 562949953421312 m2 (by omega) (by omega) (by omega) (by omega) (by omega) (by omega)
  have i1:=@rat_bd 8589934592 Q 131072 562949953421312 (by omega) (by omega) (by omega) (by omega) (by omega)
  have i2:=@div_bd2 _ 13493037704 _ _ 41721 211106232532992 i1 (by omega) (by omega) (by omega) (by omega) (by omega) (by omega)
  have i3:=@div_bd2 _ ((1 + D) * 4294967296) _ _ 8 211106232532992 i2 (by omega) (by omega) (by omega) (by omega) (by omega) (by omega)
  exact ⟨m3,i3⟩
 ·rw [if_neg h]
  obtain ⟨⟨B1,B2⟩,A1,A2⟩:=@cor_sum a b c h
  generalize wgB (corX (mkK a) (mkH a b b) (mkH a b c) (mkX a b c)) (corY (mkK a) (mkH a b b) (mkH a b c) (mkY a b c)) (corN (mkK a) (mkR a b) (mkH a b b) (mkH a b c) (mkN a) (mkX a b c) (mkY a b c)) (corN (mkK a) (mkR a b) (mkH a b b) (mkH a b c) (mkN a) (mkX a b c) (mkY a b c)) = B at *
  generalize wgA (corX (mkK a) (mkH a b b) (mkH a b c) (mkX a b c)) (corY (mkK a) (mkH a b b) (mkH a b c) (mkY a b c)) (corN (mkK a) (mkR a b) (mkH a b b) (mkH a b c) (mkN a) (mkX a b c) (mkY a b c)) (corN (mkK a) (mkR a b) (mkH a b b) (mkH a b c) (mkN a) (mkX a b c) (mkY a b c)) = A at *
  have m1:=@rat_bd 131072 A 2097152 562949953421312 (by omega) (by omega) (by omega) (by omega) (by omega)
  have m3:=@div_bd2 _ ((1 + D) * 4294967296) _ _ 2000 562949953421312 m1 (by omega) (by omega) (by omega) (by omega) (by omega) (by omega)
  have i1:=@rat_bd 51539607552 B 8192 211106232532992 (by omega) (by omega) (by omega) (by omega) (by omega)
  have i3:=@div_bd2 _ ((1 + D) * 4294967296) _ _ 8 211106232532992 i1 (by omega) (by omega) (by omega) (by omega) (by omega) (by omega)
  exact ⟨m3,i3⟩
end Go.Ax
end
section
set_option maxHeartbeats 4000000
set_option maxRecDepth 100000
namespace Go.Ax
open Go.Proofs Go.Proofs.Tryz
end Go.Ax
end
section
set_option maxHeartbeats 4000000
set_option maxRecDepth 100000
namespace Go.Ax
open Go.Proofs Go.Proofs.Tryz
end Go.Ax
end
section
set_option maxHeartbeats 4000000
set_option maxRecDepth 100000
namespace Go.Ax
open Go.Proofs Go.Proofs.Tryz
structure Th where
 a:Int
 b:Int
 c:Int
 x:Int
 y:Int
 u:Int
 p:Int
 q:Int
 r:Int
 d:Int
 k:Int
def thC (t:Th):List AV:=[i64 t.a,i64 t.b,i64 t.c,i64 t.x,i64 t.y,i64 t.u,i64 t.p,i64 t.q,i64 t.r,i64 t.d,i64 t.k]
def inT (t:Th):Prop:=inR t.a ∧ inR t.b ∧ inR t.c ∧ inR t.x ∧ inR t.y ∧ inR t.u ∧ inR t.p ∧ inR t.q ∧ inR t.r ∧ inR t.d ∧ inR t.k
def mkT (t:Th) (s:Int):Bd:=mkB t.a t.b t.c t.x t.y t.u t.p t.q t.r t.d t.k s
theorem mkT_eq {t:Th} {s:Int}:mkB t.a t.b t.c t.x t.y t.u t.p t.q t.r t.d t.k s = mkT t s:=rfl
theorem mkT_in {t:Th} {s:Int} (hs:1 ≤ s ∧ s ≤ 4000):inB (mkT t s):=mkB_in hs
theorem mkT_n {t:Th} {s:Int} (hs:1 ≤ s ∧ s ≤ 4000):(mkT t s).n ≤ 1000:=mkB_n hs
def ctP (c:Ct) (a b:Nb):Ct:={ c with p0:=a,p1:=b }
def ctR (c:Ct) (a b:Nb):Ct:={ c with r0:=a,r1:=b }
theorem put7_cont {c:Ct} {a b:Int} {e f:Bool}:List.take 7 (contC c) ++ [i64 a,bo e,i64 b,bo f] ++ List.drop 11 (contC c) = contC (ctP c (a,e) (b,f)):=(rfl)
theorem put11_cont {c:Ct} {a b:Int} {e f:Bool}:List.take 11 (contC c) ++ [i64 a,bo e,i64 b,bo f] = contC (ctR c (a,e) (b,f)):=(rfl)
theorem take15_cont {c:Ct}:List.take 15 (contC c) = contC c:=(rfl)
theorem len15_cont {c:Ct}:(contC c).length = 15:=(rfl)
attribute [go_sem] put7_cont put11_cont take15_cont len15_cont
theorem with_in {x n:Int} (hn:0 ≤ n ∧ n ≤ 65536) (h:-(n * 4294967296) ≤ x ∧ x ≤ n * 4294967296):withS (x,false) n = true:=by
 unfold withS
 dsimp only
 rw [whF_in (by omega),decide_eq_true h]
 rfl
theorem with_of {x:Nb} {n:Int} (h:withS x n = true):x = (x.1,false) ∧ -(n * 4294967296) ≤ x.1 ∧ x.1 ≤ n * 4294967296:=by
 obtain ⟨x,e⟩:=x
 unfold withS whF at h
 simp at h
 exact ⟨by rw [h.1.2],h.2⟩
theorem lim256 {x:Nb}:withS (limS x 256) 256 = true:=by
 have e1:nInt (-256) = (-1099511627776,false):=by decide
 have e2:nInt 256 = (1099511627776,false):=by decide
 unfold limS
 refine with_in (by omega) ?_
 unfold nCl
 dsimp only
 rw [e1,e2]
 dsimp only
 rw [whV_in (x:=-1099511627776) (by omega) (by omega),whV_in (x:=1099511627776) (by omega) (by omega)]
 omega
theorem lim64 {x:Nb}:withS (limS x 64) 64 = true:=by
 have e1:nInt (-64) = (-274877906944,false):=by decide
 have e2:nInt 64 = (274877906944,false):=by decide
 unfold limS
 refine with_in (by omega) ?_
 unfold nCl
 dsimp only
 rw [e1,e2]
 dsimp only
 rw [whV_in (x:=-274877906944) (by omega) (by omega),whV_in (x:=274877906944) (by omega) (by omega)]
 omega
theorem vld_wak {b:Bd} (h:vldB b):vldB (wakS b):=by
 have hi:=inB_wak h.inb
 have hn:(wakS b).n ≤ 1000:=by rw [wak_n]; exact h.n
 unfold wakS at *
 split
 ·rename_i q
  have q1:mvS b = true:=by revert q; cases mvS b <;> simp
  have q2:b.fa = false:=by revert q; cases b.fa <;> simp
  rw [if_pos q] at hi hn
  exact ⟨hi,hn,h.chk,h.rot,h.pl,h.v,h.w,h.wf,h.m0,h.i0,⟨by show (0:Int) ≤ 0; omega,by show (0:Int) ≤ 30; omega⟩,h.ve,h.mi,fun e => absurd (show mvS b = false from e) (by rw [q1]; decide),fun e => e.elim (fun e => by cases e) fun e => absurd (show b.fa = true from e) (by rw [q2]; decide)⟩
 ·exact h
theorem vld_psh {b:Bd} {p j:V2} (h:vldB b):vldB (pshS b p j):=by
 have hi:=@inB_psh b p j h.inb
 have hn:(pshS b p j).n ≤ 1000:=by rw [psh_n]; exact h.n
 by_cases q:(!mvS b || b.fa) = true
 ·rw [show pshS b p j = b from if_pos q]; exact h
 have q1:mvS b = true:=by revert q; cases mvS b <;> simp
 have q2:b.fa = false:=by revert q; cases b.fa <;> simp
 have e0:pshS b p j = _:=if_neg q
 by_cases s:b.sl = true
 ·have e1:pshS b p j = wakS { b with v:=limV (vAdd b.v (vScale j b.m)),w:=limS (nAdd b.w (nMul b.i (vCross (vSub p b.pl) j))) 64 }:=e0.trans (if_pos s)
  have e2:pshS b p j = { b with v:=limV (vAdd b.v (vScale j b.m)),w:=limS (nAdd b.w (nMul b.i (vCross (vSub p b.pl) j))) 64,sl:=false,st:=0 }:=e1.trans (if_pos (by show (mvS b && !b.fa) = true; rw [q1,q2]; rfl))
  rw [e2] at hi hn ⊢
  exact ⟨hi,hn,h.chk,h.rot,h.pl,⟨lim256,lim256⟩,lim64,h.wf,h.m0,h.i0,⟨by show (0:Int) ≤ 0; omega,by show (0:Int) ≤ 30; omega⟩,h.ve,h.mi,fun e => absurd (show mvS b = false from e) (by rw [q1]; decide),fun e => e.elim (fun e => by cases e) fun e => absurd (show b.fa = true from e) (by rw [q2]; decide)⟩
 ·have e2:pshS b p j = { b with v:=limV (vAdd b.v (vScale j b.m)),w:=limS (nAdd b.w (nMul b.i (vCross (vSub p b.pl) j))) 64 }:=e0.trans (if_neg s)
  rw [e2] at hi hn ⊢
  exact ⟨hi,hn,h.chk,h.rot,h.pl,⟨lim256,lim256⟩,lim64,h.wf,h.m0,h.i0,h.st,h.ve,h.mi,fun e => absurd (show mvS b = false from e) (by rw [q1]; decide),fun e => e.elim (fun e => absurd (show b.sl = true from e) s) fun e => absurd (show b.fa = true from e) (by rw [q2]; decide)⟩
theorem id_of {b:Bd} (h:¬ idS b = true):mvS b = true ∧ b.sl = false ∧ b.fa = false:=by
 unfold idS at h
 revert h
 cases mvS b <;> cases b.sl <;> cases b.fa <;> simp
theorem vld_pul {b:Bd} {g:V2} {t:Nb} (h:vldB b):vldB (pulS b g t):=by
 have hi:=@inB_pul b g t h.inb
 have hn:(pulS b g t).n ≤ 1000:=by rw [pul_n]; exact h.n
 by_cases q:idS b = true
 ·rw [pul_idle q]; exact h
 obtain ⟨q1,q2,q3⟩:=id_of q
 have e2:pulS b g t = { b with v:=limV (vAdd b.v (vScale g t)) }:=if_neg q
 rw [e2] at hi hn ⊢
 exact ⟨hi,hn,h.chk,h.rot,h.pl,⟨lim256,lim256⟩,h.w,h.wf,h.m0,h.i0,h.st,h.ve,h.mi,fun e => absurd (show mvS b = false from e) (by rw [q1]; decide),fun e => e.elim (fun e => absurd (show b.sl = true from e) (by rw [q2]; decide)) fun e => absurd (show b.fa = true from e) (by rw [q3]; decide)⟩
theorem with_00 {n:Int} (hn:0 ≤ n ∧ n ≤ 65536):withS (0,false) n = true:=with_in hn (by omega)
theorem vld_go {b:Bd} {t:Int} (ht:0 ≤ t ∧ t ≤ 4294967296) (h:vldB b):vldB (goS b (t,false)):=by
 have hi:=@inB_go b (t,false) h.inb
 have hn:(goS b (t,false)).n ≤ 1000:=by rw [go_n]; exact h.n
 by_cases q:idS b = true
 ·rw [go_idle q]; exact h
 obtain ⟨q1,q2,q3⟩:=id_of q
 have e0:goS b (t,false) = _:=if_neg q
 by_cases w:(withS (vAdd b.pl (vScale b.v (t,false))).1 4096 && withS (vAdd b.pl (vScale b.v (t,false))).2 4096) = true
 ·rw [if_pos w] at e0
  have w1:withS (vAdd b.pl (vScale b.v (t,false))).1 4096 = true ∧ withS (vAdd b.pl (vScale b.v (t,false))).2 4096 = true:=by simpa using w
  by_cases z:(nMul b.w (t,false)).1 = 0
  ·rw [if_pos z] at e0
   rw [e0] at hi hn ⊢
   exact ⟨hi,hn,h.chk,h.rot,w1,h.v,h.w,h.wf,h.m0,h.i0,h.st,h.ve,h.mi,fun e => absurd (show mvS b = false from e) (by rw [q1]; decide),fun e => e.elim (fun e => absurd (show b.sl = true from e) (by rw [q2]; decide)) fun e => absurd (show b.fa = true from e) (by rw [q3]; decide)⟩
  ·rw [if_neg z] at e0
   have hr:rotS (spiS b.rot (nMul b.w (t,false))).1.1 (spiS b.rot (nMul b.w (t,false))).1.2 (spiS b.rot (nMul b.w (t,false))).2.1 (spiS b.rot (nMul b.w (t,false))).2.2 = 0:=by
    obtain ⟨w2,w3,w4⟩:=with_of h.w
    have m:=ab_mul (a:=b.w.1) (b:=t) (A:=274877906944) (B:=4294967296) (by omega) (by omega)
    have td:=@td_err (b.w.1 * t) 4294967296 (by omega)
    have e:nMul b.w (t,false) = ((b.w.1 * t).tdiv 4294967296,false):=by
     rw [w2]
     unfold nMul
     dsimp only
     rw [whV_in (by omega) (by omega),whV_in (by omega) (by omega),ftV_in (by omega) (by omega),ftF_in (by omega) (by omega),whF_in (by omega),whF_in (by omega)]
     rfl
    rw [e]
    exact spi_ok h.rot h.inb.2.2.2.2.2.2.2.1 h.inb.2.2.2.2.2.2.2.2.1 (by omega)
   rw [e0] at hi hn ⊢
   exact ⟨hi,hn,h.chk,hr,w1,h.v,h.w,h.wf,h.m0,h.i0,h.st,h.ve,h.mi,fun e => absurd (show mvS b = false from e) (by rw [q1]; decide),fun e => e.elim (fun e => absurd (show b.sl = true from e) (by rw [q2]; decide)) fun e => absurd (show b.fa = true from e) (by rw [q3]; decide)⟩
 ·rw [if_neg w] at e0
  rw [e0] at hi hn ⊢
  exact ⟨hi,hn,h.chk,h.rot,h.pl,⟨with_00 (by omega),with_00 (by omega)⟩,with_00 (by omega),h.wf,h.m0,h.i0,⟨by show (0:Int) ≤ 0; omega,by show (0:Int) ≤ 30; omega⟩,h.ve,h.mi,fun e => absurd (show mvS b = false from e) (by rw [q1]; decide),fun e => ⟨rfl,rfl⟩⟩
theorem vld_res {b:Bd} (h:vldB b):vldB (resS b):=by
 have hi:=@inB_res b h.inb
 have hn:(resS b).n ≤ 1000:=by rw [res_n]; exact h.n
 by_cases q:idS b = true
 ·rw [res_idle q]; exact h
 obtain ⟨q1,q2,q3⟩:=id_of q
 have e0:resS b = _:=if_neg q
 have hst:=h.st
 split at e0
 ·rw [e0] at hi hn ⊢
  exact ⟨hi,hn,h.chk,h.rot,h.pl,h.v,h.w,h.wf,h.m0,h.i0,⟨by show (0:Int) ≤ 0; omega,by show (0:Int) ≤ 30; omega⟩,h.ve,h.mi,fun e => absurd (show mvS b = false from e) (by rw [q1]; decide),fun e => e.elim (fun e => absurd (show b.sl = true from e) (by rw [q2]; decide)) fun e => absurd (show b.fa = true from e) (by rw [q3]; decide)⟩
 ·split at e0
  ·rw [e0] at hi hn ⊢
   exact ⟨hi,hn,h.chk,h.rot,h.pl,⟨with_00 (by omega),with_00 (by omega)⟩,with_00 (by omega),h.wf,h.m0,h.i0,⟨by show (0:Int) ≤ 30; omega,by show (30:Int) ≤ 30; omega⟩,h.ve,h.mi,fun e => absurd (show mvS b = false from e) (by rw [q1]; decide),fun e => ⟨rfl,rfl⟩⟩
  ·rw [e0] at hi hn ⊢
   exact ⟨hi,hn,h.chk,h.rot,h.pl,h.v,h.w,h.wf,h.m0,h.i0,⟨by show (0:Int) ≤ min b.st 29 + 1; omega,by show min b.st 29 + 1 ≤ 30; omega⟩,h.ve,h.mi,fun e => absurd (show mvS b = false from e) (by rw [q1]; decide),fun e => e.elim (fun e => absurd (show b.sl = true from e) (by rw [q2]; decide)) fun e => absurd (show b.fa = true from e) (by rw [q3]; decide)⟩
theorem vld_shf {b:Bd} {p:V2} (h:vldB b):vldB (shfS b p):=by
 by_cases q:(!idS b && (withS p.1 4096 && withS p.2 4096)) = true
 ·have e:shfS b p = { b with pl:=p }:=if_pos q
  have w:withS p.1 4096 = true ∧ withS p.2 4096 = true:=by simp at q; exact q.2
  have r:∀ x:Nb,withS x 4096 = true → inR x.1:=fun x hx => by
   have:=with_of hx
   unfold inR
   omega
  have hi:=inB_shf (p:=p) h.inb (r _ w.1) (r _ w.2)
  have hn:(shfS b p).n ≤ 1000:=by rw [shf_n]; exact h.n
  rw [e] at hi hn ⊢
  exact ⟨hi,hn,h.chk,h.rot,w,h.v,h.w,h.wf,h.m0,h.i0,h.st,h.ve,h.mi,h.mv,h.sl⟩
 ·rw [show shfS b p = b from if_neg q]; exact h
theorem vld_kept:kept fun _ b => vldB b:=⟨fun _ _ _ _ h => vld_psh h,fun _ _ _ h => vld_shf h⟩
theorem mkT_vld {t:Th} {s:Int} (hs:1 ≤ s ∧ s ≤ 4000):vldB (mkT t s):=by
 have hi:=mkT_in (t:=t) hs
 have hn:=mkT_n (t:=t) hs
 have e:mkT t s = _:=mkB_eq (a:=t.a) (b:=t.b) (c:=t.c) (x:=t.x) (y:=t.y) (u:=t.u) (p:=t.p) (q:=t.q) (r:=t.r) (d:=t.d) (k:=t.k) (s:=s) hs
 rw [e] at hi hn ⊢
 have hk:=modS_bd (n:=t.k) (m:=4) (by omega)
 have p1:=foAt_bd (x:=t.x) hs
 have p2:=foAt_bd (x:=t.y) hs
 have wz:modS t.k 4 = 0 → mkWt t.a t.b t.c t.d t.k = ((0,false),(0,false)):=fun h => if_neg (by rw [h]; decide)
 refine ⟨hi,hn,mk_chk,foRot_ok t.u,⟨with_in (by omega) (by omega),with_in (by omega) (by omega)⟩,?_,?_,?_,?_,?_,?_,⟨by show (1:Int) ≤ 1; omega,by show (1:Int) ≤ 1099511627776; omega⟩,?_,?_,?_⟩
 ·show withS (mkV t.p t.q t.k).1 256 = true ∧ withS (mkV t.p t.q t.k).2 256 = true
  unfold mkV
  split
  ·have n1:=@nu_bd t.p 200 (by omega)
   have n2:=@nu_bd t.q 200 (by omega)
   exact ⟨with_in (x:=(nuN t.p 200).1) (by omega) (by omega),with_in (x:=(nuN t.q 200).1) (by omega) (by omega)⟩
  ·exact ⟨with_00 (by omega),with_00 (by omega)⟩
 ·show withS (mkO t.r t.k) 64 = true
  unfold mkO
  split
  ·have h1:t.r.tmod (60 * 4294967296) < 60 * 4294967296:=Int.tmod_lt_of_pos t.r (by omega)
   have h2:-(60 * 4294967296) < t.r.tmod (60 * 4294967296):=Int.lt_tmod_of_pos t.r (by omega)
   exact with_in (by omega) (by omega)
  ·exact with_00 (by omega)
 ·show (nAdd (mkWt t.a t.b t.c t.d t.k).1 (mkWt t.a t.b t.c t.d t.k).2).2 = false
  by_cases h0:modS t.k 4 = 0
  ·rw [wz h0]; decide
  ·obtain ⟨⟨m1,m2,m3⟩,i1,i2,i3⟩:=wg_ok (a:=t.a) (b:=t.b) (c:=t.c) (d:=t.d) h0
   unfold nAdd
   dsimp only
   rw [m1,i1,whV_in (by omega) (by omega),whV_in (by omega) (by omega),ftF_in (by omega) (by omega),whF_in (by omega),whF_in (by omega)]
   rfl
 ·show 0 ≤ (mkWt t.a t.b t.c t.d t.k).1.1
  by_cases h0:modS t.k 4 = 0
  ·rw [wz h0]; decide
  ·obtain ⟨⟨m1,m2,m3⟩,i1,i2,i3⟩:=wg_ok (a:=t.a) (b:=t.b) (c:=t.c) (d:=t.d) h0
   omega
 ·show 0 ≤ (mkWt t.a t.b t.c t.d t.k).2.1
  by_cases h0:modS t.k 4 = 0
  ·rw [wz h0]; decide
  ·obtain ⟨⟨m1,m2,m3⟩,i1,i2,i3⟩:=wg_ok (a:=t.a) (b:=t.b) (c:=t.c) (d:=t.d) h0
   omega
 ·show 0 ≤ mkSt t.k ∧ mkSt t.k ≤ 30
  unfold mkSt
  split <;> omega
 ·show 0 < (mkWt t.a t.b t.c t.d t.k).1.1 ↔ 0 < (mkWt t.a t.b t.c t.d t.k).2.1
  by_cases h0:modS t.k 4 = 0
  ·rw [wz h0]
  ·obtain ⟨⟨m1,m2,m3⟩,i1,i2,i3⟩:=wg_ok (a:=t.a) (b:=t.b) (c:=t.c) (d:=t.d) h0
   omega
 ·intro h
  have h:(!((mkWt t.a t.b t.c t.d t.k).1.1 == 0 && (mkWt t.a t.b t.c t.d t.k).2.1 == 0)) = false:=h
  have h0:modS t.k 4 = 0:=by
   apply Classical.byContradiction
   intro h0
   obtain ⟨⟨m1,m2,m3⟩,i1,i2,i3⟩:=wg_ok (a:=t.a) (b:=t.b) (c:=t.c) (d:=t.d) h0
   have:((mkWt t.a t.b t.c t.d t.k).1.1 == 0) = false:=beq_false_of_ne (by omega)
   rw [this] at h
   cases h
  refine ⟨if_neg (by omega),if_neg (by omega),if_neg (by omega),decide_eq_false (by omega),decide_eq_false (by omega)⟩
 ·intro h
  have h0:¬ modS t.k 4 = 1:=by
   rcases h with h | h
   ·have:=of_decide_eq_true h; omega
   ·have:=of_decide_eq_true h; omega
  exact ⟨if_neg h0,if_neg h0⟩
theorem nw_E {t:Th} {s:Int} (hs:1 ≤ s ∧ s ≤ 4000):nwE (mkK t.a) (mkR t.a t.b) (mkH t.a t.b t.b) (mkH t.a t.b t.c) (mkN t.a) (mkX t.a t.b t.c) (mkY t.a t.b t.c) (foAt t.x t.y s) (foRot t.u) 1 true = 0:=by
 have:=@mk_nwE t.a t.b t.c t.x t.y t.u 0 1 s hs
 rw [show mkD 0 1 = 1 by decide,show (modS 1 4 != 0) = true by decide] at this
 exact this
theorem nw_vld {t:Th} {s:Int} (hs:1 ≤ s ∧ s ≤ 4000):vldB (nwB (mkK t.a) (mkR t.a t.b) (mkH t.a t.b t.b) (mkH t.a t.b t.c) (mkN t.a) (mkX t.a t.b t.c) (mkY t.a t.b t.c) (foAt t.x t.y s) (foRot t.u) 1 true):=by
 have h:=mkT_vld (t:=⟨t.a,t.b,t.c,t.x,t.y,t.u,0,0,0,0,1⟩) hs
 have e:mkT ⟨t.a,t.b,t.c,t.x,t.y,t.u,0,0,0,0,1⟩ s = nwB (mkK t.a) (mkR t.a t.b) (mkH t.a t.b t.b) (mkH t.a t.b t.c) (mkN t.a) (mkX t.a t.b t.c) (mkY t.a t.b t.c) (foAt t.x t.y s) (foRot t.u) 1 true:=by
  have e1:mkT ⟨t.a,t.b,t.c,t.x,t.y,t.u,0,0,0,0,1⟩ s = { mk0 t.a t.b t.c t.x t.y t.u 0 1 s with v:=(nuN 0 200,nuN 0 200),w:=nuN 0 60 }:=by
   unfold mkT mkB
   rw [if_pos (by dsimp only; decide)]
  have e2:mk0 t.a t.b t.c t.x t.y t.u 0 1 s = nwB (mkK t.a) (mkR t.a t.b) (mkH t.a t.b t.b) (mkH t.a t.b t.c) (mkN t.a) (mkX t.a t.b t.c) (mkY t.a t.b t.c) (foAt t.x t.y s) (foRot t.u) 1 true:=by
   unfold mk0
   rw [show mkD 0 1 = 1 by decide,show (modS 1 4 != 0) = true by decide]
  rw [e1,e2]
  have e3:nwB (mkK t.a) (mkR t.a t.b) (mkH t.a t.b t.b) (mkH t.a t.b t.c) (mkN t.a) (mkX t.a t.b t.c) (mkY t.a t.b t.c) (foAt t.x t.y s) (foRot t.u) 1 true = _:=if_pos (nw_E hs)
  rw [e3]
  rfl
 rw [e] at h
 exact h
theorem foI {x y s:Int} (hs:1 ≤ s ∧ s ≤ 4000):inR (foAt x y s).1.1 ∧ inR (foAt x y s).2.1:=by
 have p1:=foAt_bd (x:=x) hs
 have p2:=foAt_bd (x:=y) hs
 exact ⟨by show inR (x.tmod (s * 4294967296)); unfold inR; omega,by show inR (y.tmod (s * 4294967296)); unfold inR; omega⟩
theorem roI {u:Int}:inR (foRot u).1.1 ∧ inR (foRot u).2.1:=⟨csV_inR,snV_inR⟩
theorem mkR_in {a b:Int}:inR (mkR a b):=by
 have w:=@mkW_bd b b
 unfold mkR
 split <;> (unfold inR; omega)
def thD (l:List AV):Th:=⟨gi l 0,gi l 1,gi l 2,gi l 3,gi l 4,gi l 5,gi l 6,gi l 7,gi l 8,gi l 9,gi l 10⟩
def thsC (T:Nat → Th):Nat → List AV:=fun i => thC (T i)
def thsD (g:Nat → List AV):Nat → Th:=fun i => thD (g i)
theorem thsD_C {T:Nat → Th}:thsD (thsC T) = T:=rfl
theorem thsC_at {T:Nat → Th} {i:Nat}:thsC T i = thC (T i):=(rfl)
def mkL (T:Nat → Th) (s:Int):Nat → Bd:=fun i => mkT (T i) s
def kBods:Con
 | [.ro N 11 g,.v (.int .i64 s)] => some ([g = thsC (thsD g),N ≤ 1000,∀ i,i < N → inT (thsD g i),1 ≤ s ∧ s ≤ 4000],.ro N 27 (bsC (mkL (thsD g) s)))
 | _ => none
theorem con21:ConOK prog 21 kBods:=ConOK.of (G:=[(7,kb24)]) (H:=[]) (.cons con7 .nil) func21 fun l ob r hc hob => by
 unfold kBods at hc
 split at hc
 ·rename_i N g s
  cases hc
  have hg:g = thsC (thsD g):=hob _ (by simp)
  have hN:N ≤ 1000:=hob _ (by simp)
  have hT:∀ i,i < N → inT (thsD g i):=hob _ (by simp)
  have hs:1 ≤ s ∧ s ≤ 4000:=hob _ (by simp)
  clear hob
  generalize thsD g = T at *
  subst hg
  refine ⟨by kernel_rfl,fnVC_go (rs:=[.tmp 4]) rfl rfl ?_⟩
  simp only [go_sem,kb24]
  refine loopN_go (fun (i:Nat) => i ≤ N) (fun i => N - i) (fun i => [(6,i64 (i:Int)),(5,.own 3 0 i 27)]) (fun i => [(3,famN i 27 40 (bsC (mkL T s)) none)]) [] [7,8,9,10,13,14,15,16,17,18,19,20,21,5,11,12,6] 1 0 (by kernel_rfl) (Nat.zero_le _) ⟨[(3,none)],?_,?_,?_,?_⟩ ?_
  ·simp only [go_sem]
  ·simp only [go_sem]
  ·simp only [go_sem]
  ·simp [goodNames,asg]
  intro i hi
  by_cases hiN:i < N
  ·obtain ⟨a0,a1,a2,a3,a4,a5,a6,a7,a8,a9,a10⟩:=hT i hiN
   simp only [go_sem,kb24,thsC_at,thC,byt40,mkT_eq,a0,a1,a2,a3,a4,a5,a6,a7,a8,a9,a10]
   simp only [forall_eq]
   refine ⟨fun h => ⟨by omega,h,by omega,by omega,by omega,i + 1,by omega,by omega,[(3,some 16)],?_⟩,fun h => absurd hiN (by omega)⟩
   simp only [go_sem]
   refine ⟨by rw [wrap_in (inRo (by omega))]; rfl,fun j hj => ?_,by simp [goodNames,asg]⟩
   by_cases e:j < i
   ·rw [if_pos e]; exact fitL_clean rfl
   ·have e:j = i:=by omega
    subst e
    rw [if_neg (by omega),Nat.sub_self]
    exact fitL_clean rfl
  ·simp only [go_sem,kb24,byt40,forall_eq]
   refine ⟨fun h => absurd h (by omega),fun _ => ?_⟩
   have e:i = N:=by omega
   subst e
   rfl
 ·cases hc
end Go.Ax
end
section
namespace Go.Ax
open Go.RowKit
section
variable {P:Program} {G:Ctx} {w0:Base} {w:World} {ρ:Env} {m:Mem} {D:Nat → Prop} {t:Slots} {nt:Nat} {ds:Frm} {a:Act} {n:Nat} {Q:Exit → Act → World → Prop} {H:Hots} {K:AEx → St → Prop} {s:St} {c:Code} {I:Nat → Prop}
def unseq:Nat → Code → List Code × Code
 | 0,c => ([],c)
 | k + 1,.seq a b => (a :: (unseq k b).1,(unseq k b).2)
 | _ + 1,c => ([],c)
theorem unseq_zero:unseq 0 c = ([],c):=(rfl)
theorem unseq_seq {k:Nat} {a b:Code}:unseq (k + 1) (.seq a b) = (a :: (unseq k b).1,(unseq k b).2):=(rfl)
def fold (l:List Code) (y:Code):Code:=l.foldr Code.seq y
theorem fold_nil {y:Code}:fold [] y = y:=(rfl)
theorem fold_cons {x:Code} {l:List Code} {y:Code}:fold (x :: l) y = .seq x (fold l y):=(rfl)
theorem unseq_eq:∀ (k:Nat) (c:Code),fold (unseq k c).1 (unseq k c).2 = c
 | 0,_ => rfl
 | k + 1,.seq a b => by
  show Code.seq a (fold (unseq k b).1 (unseq k b).2) = _
  rw [unseq_eq k b]
 | _ + 1,.skip => rfl
 | _ + 1,.region _ _ _ => rfl
 | k + 1,c => by
  cases c <;> first | rfl | (show Code.seq _ (fold (unseq k _).1 (unseq k _).2) = _; rw [unseq_eq k])
theorem cut_seq (hG:CtxOK P G) (hm:P.follows .mixedOrders = true) {y:Code}:∀ (l:List Code) (s:St) (ρ:Env) (a:Act) (w:World),l.all (codeOK H nt) = true → l.any ranges = false → awp P G H (fold l .skip) s K → (∀ x ∈ l,∀ k ∈ writes x,ds.W k) →
  SR w0 ρ s.t s.m (· < s.nx) nt ds a w →
  (∀ s' ρ' a' w',K .normal s' → SR w0 ρ' s'.t s'.m (· < s'.nx) nt ds a' w' → y.wpIn (Fw none) n P Q a' w') →
  (∀ e s' ρ' a' w',e ≠ .normal → K e s' → SR w0 ρ' s'.t s'.m (· < s'.nx) nt ds a' w' → Q (conc e) a' w') → (fold l y).wpIn (Fw none) n P Q a w
 | [],s,ρ,a,w,_,_,h,_,hs,hy,_ => hy s ρ a w h hs
 | x :: l,s,ρ,a,w,hok,hr,h,hW,hs,hy,hx => by
  simp only [List.all_cons,Bool.and_eq_true] at hok
  simp only [List.any_cons,Bool.or_eq_false_iff] at hr
  have h:awp P G H x s (seqK K fun s' => awp P G H (fold l .skip) s' K):=h
  refine wpIn_seq (pieceS hG hm hok.1 hr.1 h (hW x (by simp)) hs fun e s' ρ' a' w' k1 _ k3 => ?_)
  cases e with
  | normal => exact cut_seq hG hm l s' ρ' a' w' hok.2 hr.2 k1 (fun x hx => hW x (by simp [hx])) k3 hy hx
  | ret => exact hx .ret s' ρ' a' w' (by simp) k1 k3
  | exit j => exact hx (.exit j) s' ρ' a' w' (by simp) k1 k3
def cutK (P:Program) (G:Ctx) (H2:Hots) (rs:List ResultVar) (nt:Nat) (y:Code) (Kf:AV → Prop) (e:AEx) (s:St):Prop:=match e with
 | .normal => ∃ l2:Slots,(∀ p ∈ l2,pur 3 s.m (slot s.t p.1) = p.2) ∧ goC P G H2 (endR P rs Kf) y [] ⟨l2 ++ anyS (List.range nt),[],0⟩
 | .ret => endR P rs Kf .ret s
 | .exit _ => False
theorem cutK_normal {H2:Hots} {rs:List ResultVar} {y:Code} {Kf:AV → Prop} {nx:Nat}:cutK P G H2 rs nt y Kf .normal ⟨t,m,nx⟩ = (∃ l2:Slots,(∀ p ∈ l2,pur 3 m (slot t p.1) = p.2) ∧ goC P G H2 (endR P rs Kf) y [] ⟨l2 ++ anyS (List.range nt),[],0⟩):=(rfl)
theorem cutK_ret {H2:Hots} {rs:List ResultVar} {y:Code} {Kf:AV → Prop}:cutK P G H2 rs nt y Kf .ret s = endR P rs Kf .ret s:=(rfl)
def cutOK (P:Program) (H H2:Hots) (fn:Func) (c:Code) (j k:Nat):Bool:=
 P.follows .mixedOrders && !(fn.name == "runtime.NumGoroutine") && decide (k ≤ fn.ntmps) && (unseq j c).1.all (codeOK H fn.ntmps) && !(unseq j c).1.any ranges && codeOK H2 fn.ntmps (unseq j c).2 && !ranges (unseq j c).2
def cutVC (P:Program) (G:Ctx) (H H2:Hots) (fn:Func) (rs:List ResultVar) (j:Nat) (es:List AV) (Kf:AV → Prop):Prop:=match fn.body with
 | some c => cutOK P H H2 fn c j es.length = true ∧ goC P G H (cutK P G H2 rs fn.ntmps (unseq j c).2 Kf) (fold (unseq j c).1 .skip) [] ⟨argSlots 0 es,[],0⟩
 | none => False
theorem cutVC_go {fn:Func} {c x y:Code} {j k:Nat} {H2:Hots} {rs:List ResultVar} {es:List AV} {Kf:AV → Prop} (hb:fn.body = some c) (hk:fn.ntmps = k) (hok:cutOK P H H2 fn c j es.length = true) (hx:fold (unseq j c).1 .skip = x) (hy:(unseq j c).2 = y)
  (h:goC P G H (cutK P G H2 rs k y Kf) x [] ⟨argSlots 0 es,[],0⟩):cutVC P G H H2 fn rs j es Kf:=by
 subst hx hy hk
 unfold cutVC
 rw [hb]
 exact ⟨hok,h⟩
theorem fn_cut (hG:CtxOK P G) {f:FuncId} {fn:Func} (hf:P.funcs[f]? = some fn) (j:Nat) {H2:Hots} {rs:List ResultVar} (hrs:fn.results.toList = rs) {es:List AV} {Kf:AV → Prop} (hpl:∀ r,Kf r → plain 3 r = true) (h:cutVC P G H H2 fn rs j es Kf)
  (I:Nat → Prop) (w:World) (vs:List Value) (hI:∀ b,I b → b < w.heap.size) (hRs:Rs w (.ext I) es vs) :
  (callFunc f vs.toArray).run P w = .ok (.enter f vs.toArray) w ∧ Calls P f vs.toArray w fun e w' => ∃ v,e = .returned v ∧ (∃ r,Kf r ∧ R w' (.ext (New I w w')) r v) ∧ Below w.heap.size w w':=by
 unfold cutVC at h
 cases hb:fn.body with
 | none => rw [hb] at h; exact h.elim
 | some c =>
 rw [hb] at h
 dsimp only at h
 obtain ⟨hok,h⟩:=h
 unfold cutOK at hok
 simp only [Bool.and_eq_true,Bool.not_eq_true',decide_eq_true_eq] at hok
 obtain ⟨⟨⟨⟨⟨⟨hm,hname⟩,hsz⟩,hok1⟩,hr1⟩,hok2⟩,hr2⟩:=hok
 refine ⟨callFunc_enter hf hname hb _ _,callsIn_wide.1 (callsIn_of_wp_marks (n:=0) (F:=Fence.wide) hf hb trivial ?_)⟩
 have hlen:vs.length = es.length:=hRs.1
 have hnt:(vs.toArray ++ Array.replicate (fn.ntmps - vs.toArray.size) undef).size = fn.ntmps:=by simp; omega
 have hsl:∀ j,R w (.ext I) (slot (argSlots 0 es) j) ((vs.toArray ++ Array.replicate (fn.ntmps - vs.toArray.size) undef).getD j undef):=fun j => by
  rw [argSlots_get]
  split
  ·rename_i hj
   have hj':j < es.length:=by omega
   have hj2:j < vs.length:=by omega
   refine hRs.2 j _ _ ?_ ?_
   ·simp [List.getD,List.getElem?_eq_getElem hj']
   ·simp [Array.getD_eq_getD_getElem?,Array.getElem?_append,hj2]
  ·rename_i hj
   have hj2:vs.length ≤ j:=by omega
   have:(vs.toArray ++ Array.replicate (fn.ntmps - vs.toArray.size) undef).getD j undef = undef:=by
    rw [Array.getD_eq_getD_getElem?,Array.getElem?_append_right (by simpa using hj2),Array.getElem?_replicate]
    split <;> rfl
   rw [this]
   exact .v
 have fin:∀ {w1:Base} {ρ':Env} {s':St} {ds':Frm} {a':Act} {w':World} {e:AEx},e = .normal ∨ e = .ret → endR P rs Kf e s' → SR w1 ρ' s'.t s'.m (· < s'.nx) fn.ntmps ds' a' w' → ds'.ds = [] → Below w.heap.size w w' →
   LeavesInM Fence.wide 0 P fn a'.tmps (fun e w' => ∃ v,e = .returned v ∧ (∃ r,Kf r ∧ R w' (.ext (New I w w')) r v) ∧ Below w.heap.size w w') a'.defers .returning w':=by
  intro w1 ρ' s' ds' a' w' e he hend k4 hd hbel
  have hend:=endR_sound hrs hend
  have hend:match resAll P s' fn.results.toList with
    | some (ob,a) => conj ob (Kf (pur 3 s'.m a))
    | none => False:=by
   rcases he with rfl | rfl <;> exact hend
  rw [k4.defers,hd]
  show ∃ v,(results fn a'.tmps).run P w' = .ok v w' ∧ _
  split at hend
  ·rename_i ob x hx
   obtain ⟨hob,hK⟩:=conj_iff.1 hend
   obtain ⟨v,h1,h2⟩:=resAll_sound k4 hx hob
   have h3:=pur_sound (J:=fun _ => True) k4.rel (fun _ _ => trivial) (fun _ _ _ => trivial) 3 _ _ h2
   exact ⟨v,h1,v,rfl,⟨_,hK,plain_sound 3 (hpl _ hK) h3⟩,hbel⟩
  ·exact hend.elim
 rw [show Code.wpIn _ _ _ c = Code.wpIn _ _ _ (fold (unseq j c).1 (unseq j c).2) from by rw [unseq_eq]]
 refine cut_seq (ds:=⟨[],fun _ => True,#[]⟩) (K:=cutK P G H2 rs fn.ntmps (unseq j c).2 Kf) hG hm (unseq j c).1 ⟨argSlots 0 es,[],0⟩ (.ext I) _ w hok1 hr1 h (fun _ _ _ _ => trivial) (SR.anew hI hsl hnt rfl (fun j hj => absurd trivial hj)) (fun s1 ρ1 a1 w1 k1 k3 => ?_) (fun e s1 ρ1 a1 w1 hne k1 k3 => ?_)
 ·obtain ⟨l2,hl2,h2⟩:=k1
  refine pieceI (I:=All w1) hG hm (l:=l2) (W:=writes (unseq j c).2) hok2 hr2 rfl h2 (fun b hb => hb) k3.size (fun p hp => ?_) fun e s' ρ' a' w' q1 q3 => ?_
  ·rw [← hl2 p hp]
   exact pur_sound k3.rel (fun b hb => (k3.rel.imm2 b hb).1) (fun b hb _ => hb) 3 _ _ (k3.slots p.1)
  ·have hb1:Below w.heap.size w w1:=k3.rel.below
   have hb2:Below w1.heap.size w1 w':=q3.rel.below
   have hd:a1.defers = []:=k3.defers
   cases e with
   | normal => exact fin (.inl rfl) q1 q3 hd (hb1.trans (hb2.mono hb1.size))
   | ret => exact fin (.inr rfl) q1 q3 hd (hb1.trans (hb2.mono hb1.size))
   | exit j => exact q1.elim
 ·cases e with
  | normal => exact absurd rfl hne
  | ret => exact fin (.inr rfl) k1 k3 rfl k3.rel.below
  | exit j => exact k1.elim
end
end Go.Ax
end
section
namespace Go.Ax
open Go.ChangeShapes Go.WideShapes Go.ChangeAt Go.RowKit
inductive ShV where
 | int (k:IntKind)
 | bool
 | agg (es:List Sh)
 | slice (sz:Nat) (es:List Sh)
def shV (P:Program) (t:TypeId):Option ShV:=
 match P.underlying t with
 | some .bool => some .bool
 | some (.int k) => some (.int k)
 | some (.slice _) => match shT P 6 t with
  | some [.slice sz es] => some (.slice sz es)
  | _ => none
 | some (.struct _) => (shT P 6 t).map .agg
 | some (.array _ _) => (shT P 6 t).map .agg
 | _ => none
def fitV:ShV → AV → Prop
 | .int k,a => ∃ n,a = .v (.int k n) ∧ (Lit.int k n).wf = true
 | .bool,a => ∃ b,a = .v (.bool b)
 | .agg es,a => ∃ l,a = .agg l ∧ fitS es l
 | .slice sz es,a => ∃ (n:Nat) (get:Nat → List AV),a = .ro n sz get ∧ n ≤ maxLen ∧ ∀ i,fitS es (get i)
def shVs (P:Program):List TypeId → Option (List ShV)
 | [] => some []
 | t :: ts => match shV P t,shVs P ts with
  | some s,some r => some (s :: r)
  | _,_ => none
def fitVs:List ShV → List AV → Prop
 | [],l => l = []
 | s :: ss,l => ∃ a r,l = a :: r ∧ fitV s a ∧ fitVs ss r
section
variable {H:Type} {enc:TypeId × Value → H} {P:Program} {w:World} {spare:Nat → Bool} {held:Bool} {base:Nat}
theorem okWide_agg_struct {t:TypeId} {fs:Array Field} {v:Value} (ht:P.underlying t = some (.struct fs)) (h:Value.okWide P w .any base t v):∃ cs,v = .agg cs:=by
 obtain ⟨cs,h,_⟩:=okWide_struct ht h
 exact ⟨cs,h⟩
theorem trod_agg_array {t e:TypeId} {n:Nat} {v:Value} {x:DataW H} {ps:List MemPlace} (ht:P.underlying t = some (.array n e)) (h:Value.okWide P w .any base t v):∃ cs,v = .agg cs:=by
 cases v <;> simp [Value.okWide,Value.ok,ht] at h <;> exact ⟨_,rfl⟩
theorem arg_read {t:TypeId} {s:ShV} {v:Value} {x:DataW H} {ps:List MemPlace} (hs:shV P t = some s) (ho:Value.okWide P w .any base t v) (h:DataW.Trod enc P w 0 spare held t v x ps):∃ a,fitV s a ∧ R w (.ext (All w)) a v:=by
 unfold shV at hs
 split at hs
 ·rename_i hu
  cases hs
  obtain ⟨b,rfl⟩:=okWide_bool hu ho
  exact ⟨_,⟨b,rfl⟩,.v⟩
 ·rename_i k hu
  cases hs
  obtain ⟨n,rfl,_,_,hw⟩:=open_int hu ho h
  exact ⟨_,⟨n,rfl,hw⟩,.v⟩
 ·rename_i e hu
  split at hs
  ·rename_i sz es he
   cases hs
   obtain ⟨a,len,cap,rfl⟩:=okWide_slice hu ho
   obtain ⟨n,get,h1,h2,h3⟩:=slice_read he h
   exact ⟨_,⟨n,get,rfl,h1,h2⟩,h3⟩
  ·cases hs
 ·rename_i fs hu
  obtain ⟨es,he,rfl⟩:=Option.map_eq_some_iff.1 hs
  obtain ⟨cs,rfl⟩:=okWide_agg_struct hu ho
  obtain ⟨l,h1,h2⟩:=agg_read he h
  exact ⟨_,⟨l,rfl,h1⟩,h2⟩
 ·rename_i n e hu
  obtain ⟨es,he,rfl⟩:=Option.map_eq_some_iff.1 hs
  obtain ⟨cs,rfl⟩:=trod_agg_array (x:=x) (ps:=ps) hu ho
  obtain ⟨l,h1,h2⟩:=agg_read he h
  exact ⟨_,⟨l,rfl,h1⟩,h2⟩
 ·cases hs
theorem args_read:∀ {ts:List TypeId} {ss:List ShV} {vs:List Value} {ds:List (DataW H)} {ps:List MemPlace},shVs P ts = some ss → (∀ (j:Nat) t v,ts[j]? = some t → vs[j]? = some v → Value.okWide P w .any base t v) →
  DataW.TrodAll enc P w 0 spare held ts vs ds ps → ∃ l,fitVs ss l ∧ Rs w (.ext (All w)) l vs
 | [],ss,vs,ds,ps,hs,ho,h => by
  simp only [shVs,Option.some.injEq] at hs
  subst hs
  obtain ⟨rfl,rfl,rfl⟩:=trodAll_nil h
  exact ⟨[],rfl,.nil⟩
 | t :: ts,ss,vs,ds,ps,hs,ho,h => by
  simp only [shVs] at hs
  split at hs
  ·rename_i s r h1 h2
   cases hs
   obtain ⟨v,vs',d,ds',p,q,rfl,rfl,rfl,h3,h4⟩:=trodAll_cons h
   obtain ⟨a,a1,a2⟩:=arg_read h1 (ho 0 t v rfl rfl) h3
   obtain ⟨l,b1,b2⟩:=args_read h2 (fun j t v hj hv => ho (j + 1) t v (by simpa using hj) (by simpa using hv)) h4
   exact ⟨a :: l,⟨a,l,rfl,a1,b1⟩,Rs.cons a2 b2⟩
  ·cases hs
def readOK (P:Program) (ts:List TypeId):Bool:=ts.all fun t => P.readableRec t && decide (t < P.types.size)
theorem args_stay {W W':World} (hl:laidOutB P = true) (hb:Below W.heap.size W W'):∀ {ts:List TypeId} {vs:List Value} {ds:List (DataW H)} {ps:List MemPlace},readOK P ts = true →
  DataW.TrodAll enc P W 0 (fun _ => true) true ts vs ds ps → ∃ ps,DataW.TrodAll enc P W' 0 (fun b => decide (b < W.heap.size)) true ts vs ds ps
 | [],vs,ds,ps,_,h => by
  obtain ⟨rfl,rfl,rfl⟩:=trodAll_nil h
  exact ⟨[],rfl⟩
 | t :: ts,vs,ds,ps,hr,h => by
  obtain ⟨v,vs',d,ds',p,q,rfl,rfl,rfl,h3,h4⟩:=trodAll_cons h
  simp only [readOK,List.all_cons,Bool.and_eq_true,decide_eq_true_eq] at hr
  obtain ⟨q',h5⟩:=args_stay hl hb (by simpa [readOK] using hr.2) h4
  refine ⟨_,trodAll_cons_mk (Below.trod hl hr.1.1 hr.1.2 h3 hb ?_) h5⟩
  obtain ⟨m,hm⟩:=h3
  exact DataW.trod_lt m _ _ _ hm
end
end Go.Ax
end
section
set_option maxHeartbeats 4000000
set_option maxRecDepth 100000
namespace Go.Ax
open Go.Proofs Go.Proofs.Tryz
end Go.Ax
end
section
set_option maxRecDepth 100000
namespace Go.Ax
open Go.Proofs Go.Proofs.Tryz
def shTh:List Sh:=[.int .i64,.int .i64,.int .i64,.int .i64,.int .i64,.int .i64,.int .i64,.int .i64,.int .i64,.int .i64,.int .i64]
theorem fit_th {ss:List Sh} {l:List AV} (h:fitS (shTh ++ ss) l):∃ t,inT t ∧ ∃ r,l = thC t ++ r ∧ fitS ss r:=by
 obtain ⟨_,_,rfl,⟨a,rfl,ja⟩,_,_,rfl,⟨b,rfl,jb⟩,_,_,rfl,⟨c,rfl,jc⟩,_,_,rfl,⟨x,rfl,jx⟩,_,_,rfl,⟨y,rfl,jy⟩,_,_,rfl,⟨u,rfl,ju⟩,_,_,rfl,⟨p,rfl,jp⟩,_,_,rfl,⟨q,rfl,jq⟩,_,_,rfl,⟨r,rfl,jr⟩,_,_,rfl,⟨d,rfl,jd⟩,_,_,rfl,⟨k,rfl,jk⟩,h⟩:=h
 exact ⟨⟨a,b,c,x,y,u,p,q,r,d,k⟩,⟨wf_i64 ja,wf_i64 jb,wf_i64 jc,wf_i64 jx,wf_i64 jy,wf_i64 ju,wf_i64 jp,wf_i64 jq,wf_i64 jr,wf_i64 jd,wf_i64 jk⟩,_,rfl,h⟩
end Go.Ax
end
section
set_option maxHeartbeats 4000000
set_option maxRecDepth 100000
namespace Go.Ax
open Go.Proofs Go.Proofs.Tryz
theorem rowTh {l:List AV} (h:fitS shTh l):l = thC (thD l) ∧ inT (thD l):=by
 obtain ⟨t,ht,r,e,hr⟩:=fit_th (ss:=[]) (show fitS (shTh ++ []) l from h)
 have e2:r = []:=hr
 subst e2
 rw [List.append_nil] at e
 subst e
 exact ⟨rfl,ht⟩
theorem rowsTh {get:Nat → List AV} (h:∀ i,fitS shTh (get i)):get = thsC (thsD get) ∧ ∀ i,inT (thsD get i):=⟨funext fun i => (rowTh (h i)).1,fun i => (rowTh (h i)).2⟩
def litV:Nat → List AV:=rowsOf 13 [i64 3,i64 0,i64 1,i64 4294967296,bo false,i64 0,bo false,i64 0,bo false,i64 0,bo false,i64 0,bo false,i64 2,i64 1,i64 2,i64 0,bo false,i64 0,bo false,i64 0,bo false,i64 0,bo false,i64 4294967296,bo false,i64 1,i64 2,i64 0,i64 0,bo false,i64 0,bo false,i64 0,bo false,i64 0,bo false,i64 0,bo false]
theorem litV_eq:rowsOf 13 [i64 3,i64 0,i64 1,i64 4294967296,bo false,i64 0,bo false,i64 0,bo false,i64 0,bo false,i64 0,bo false,i64 2,i64 1,i64 2,i64 0,bo false,i64 0,bo false,i64 0,bo false,i64 0,bo false,i64 4294967296,bo false,i64 1,i64 2,i64 0,i64 0,bo false,i64 0,bo false,i64 0,bo false,i64 0,bo false,i64 0,bo false] = litV:=(rfl)
theorem litV_at {i:Nat}:List.take 13 (List.drop (i * 13) [i64 3,i64 0,i64 1,i64 4294967296,bo false,i64 0,bo false,i64 0,bo false,i64 0,bo false,i64 0,bo false,i64 2,i64 1,i64 2,i64 0,bo false,i64 0,bo false,i64 0,bo false,i64 0,bo false,i64 4294967296,bo false,i64 1,i64 2,i64 0,i64 0,bo false,i64 0,bo false,i64 0,bo false,i64 0,bo false,i64 0,bo false]) = litV i:=(rfl)
theorem litV_ok:∀ i,i < 3 → litV i = jsC (jsD litV) i:=fun i hi => by
 match i,hi with
 | 0,_ => rfl
 | 1,_ => rfl
 | 2,_ => rfl
theorem litV_in:inJs 3 (jsD litV):=fun i hi => by
 have hz0:inR 0:=by unfold inR; decide
 have hz1:inR 4294967296:=by unfold inR; decide
 match i,hi with
 | 0,_ => exact ⟨hz1,hz0,hz0,hz0,hz0⟩
 | 1,_ => exact ⟨hz0,hz0,hz0,hz0,hz1⟩
 | 2,_ => exact ⟨hz0,hz0,hz0,hz0,hz0⟩
theorem byt55c:bytesT prog 55 = 136:=by kernel_rfl
theorem vd_end {i M:Nat} {B:Nat → Bd} {C:Nat → Ct} {n k:Int} {Z:Slots} (hV:∀ i,vldB (B i)) (hM:M ≤ 1000) (hi:i ≤ 1000) (hC:inCs M C) (hti:16777216 ≤ tiN n ∧ tiN n ≤ 1073741824) (hk:inR k) :
  goC prog [(20,c20),(21,kBods),(8,kt48),(22,c22),(24,c24),(23,c23),(25,kb25),(10,kb10),(14,kb14),(11,kb11),(12,kb12),(13,kb13),(16,kCnt),(18,kw55),(26,c26),(17,kSolW)] [] (endR prog [.tmp 12] (· = bo true)) (unseq 9 (Tryz.f4.body.getD .skip)).2 [] ⟨[(20,.ro M 15 (csC C)),(14,.ro i 27 (bsC B)),(15,.rop [i64 (tiN n),bo false]),(5,i64 k)] ++ Z,[],0⟩:=by
 simp only [Tryz.f4,Option.getD_some,unseq_seq,unseq_zero]
 have hTi:inR (tiN n):=inRo (by omega)
 have hk5:inR (modS k 5):=by have:=@modS_bd k 5 (by omega); unfold inR; omega
 have h5:inR 5:=inRo (by omega)
 have hBs:inBs i (bsD (bsC B)):=fun j _ => ⟨(hV j).inb,(hV j).n⟩
 have hBs':inBs i B:=hBs
 simp only [go_sem,c20,kBods,kt48,c22,c24,c23,kb25,kb10,kb14,kb11,kb12,kb13,kCnt,kw55,c26,kSolW,boA,cLs_eq,kSol,cL_eq,cB_eq]
 simp only [forall_eq,litV_eq,litV_at,bsD_C,csD_C,jsD_C]
 have hS:∀ j,vldB ((solT i M 3 B C (jsD litV) (modS k 5) (tiN n,false)).B j):=sol_k vld_kept hV
 generalize (solT i M 3 B C (jsD litV) (modS k 5) (tiN n,false)).B = B' at *
 generalize (solT i M 3 B C (jsD litV) (modS k 5) (tiN n,false)).C = C' at *
 refine ⟨hk,h5,fun _ _ => trivial,fun j _ => .inl rfl,litV_ok,hi,hBs',hM,hC,litV_in,hk5,hTi,fun h => (by simp at h),fun _ => ?_⟩
 refine loopC_go (fun (j:Nat) => j ≤ i) (fun j => i - j) (fun j => [(26,i64 (j:Int))]) (fun _ => []) [] [164,165,166,167,170,171,172,173,174,175,12,168,169,26] 0 (by kernel_rfl) ?_ (Nat.zero_le _) ?_ ?_
 ·intro x _; simp [goodNames,asg]
 ·simp only [go_sem]
 intro j hj
 simp only [go_sem,c20,kBods,kt48,c22,c24,c23,kb25,kb10,kb14,kb11,kb12,kb13,kCnt,kw55,c26,kSolW,cB_eq,hS]
 simp only [forall_eq,bne_self_eq_false,reduceCtorEq,false_imp_iff,true_imp_iff,true_and,implies_true]
 refine ⟨fun h => ⟨by omega,h,j + 1,by omega,by omega,by rw [wrap_in (inRo (by omega))]; rfl⟩,trivial⟩
theorem vc4 (N:Nat) (T:Nat → Th) (p0 p1 r0 r1 n k:Int) (wide e0 e1 f0 f1:Bool) (hN:N ≤ 9223372036854775807) (hT:∀ i,inT (T i)) (j0:inR p0) (j1:inR p1) (j2:inR r0) (j3:inR r1) (hn:inR n) (hk:inR k) :
  cutVC prog [(20,c20),(21,kBods),(8,kt48),(22,c22),(24,c24),(23,c23),(25,kb25),(10,kb10),(14,kb14),(11,kb11),(12,kb12),(13,kb13),(16,kCnt),(18,kw55),(26,c26),(17,kSolW)] [(12,⟨[(13,.made 12)],[]⟩)] [] Tryz.f4 [.tmp 12] 9 [.ro N 11 (thsC T),bo wide,.agg [i64 p0,bo e0,i64 p1,bo e1],.agg [i64 r0,bo f0,i64 r1,bo f1],i64 n,i64 k] (· = bo true):=by
 refine cutVC_go rfl rfl (by kernel_rfl) (by simp only [unseq_seq,unseq_zero,fold_cons,fold_nil]; rfl) (y:=(unseq 9 (Tryz.f4.body.getD .skip)).2) (by kernel_rfl) ?_
 have hti:=@tiN_bd n
 have hTi:inR (tiN n):=inRo (by omega)
 simp only [go_sem,c20,kBods,kt48,c22,c24,c23,kb25,kb10,kb14,kb11,kb12,kb13,kCnt,kw55,c26,kSolW,cutK_ret,cutK_normal,endR_ret,thsD_C,boA,cLw_eq,cLs_eq,cL_eq,cB_eq,kBods,kCnt,kSol,j0,j1,j2,j3,hn,hk,hTi]
 have hti':0 ≤ tiN n ∧ tiN n ≤ 4294967296:=by omega
 refine ⟨fun _ _ => trivial,fun hN4 => ⟨fun hw => ?_,fun hw => ?_⟩⟩
 ·refine ⟨by omega,fun i _ => hT i,?_⟩
  obtain ⟨B,hB⟩:∃ B,mkL T 4000 = B:=⟨_,rfl⟩
  have hV:∀ i,vldB (B i):=fun i => hB ▸ mkT_vld (t:=T i) (s:=4000) (by omega)
  simp only [hB]
  have hs:(1:Int) ≤ 4000 ∧ ((4000:Int)) ≤ 4000:=by omega
  refine loopC_go (fun (i:Nat) => i ≤ N) (fun i => N - i) (fun i => [(16,i64 (i:Int))]) (fun _ => []) [15,1,0] [37,38,39,40,43,44,45,46,47,48,17,50,51,52,53,54,55,56,57,58,49,59,60,18,19,61,62,63,64,65,66,67,68,69,70,71,72,73,74,75,12,76,77,78,79,80,81,82,83,84,85,86,87,88,89,90,91,92,93,94,95,96,97,98,99,100,101,102,103,104,105,106,107,108,109,110,111,112,113,114,115,116,117,118,119,120,121,122,123,12,41,42,16] 0 (by kernel_rfl) ?_ (Nat.zero_le _) ?_ ?_
  ·intro x _; simp [goodNames,asg]
  ·simp only [go_sem]
  intro i hi
  by_cases hiN:i < N
  ·have hVi:=hV i
   have hiB:=hVi.inb
   have hnB:=hVi.n
   have hE:=nw_E (t:=T i) (s:=4000) hs
   have hNV:=nw_vld (t:=T i) (s:=4000) hs
   have hsp:=@mk_spots (T i).a (T i).b (T i).c
   obtain ⟨a0,a1,a2,a3,a4,a5,a6,a7,a8,a9,a10⟩:=hT i
   simp only [go_sem,c20,kBods,kt48,c22,c24,c23,kb25,kb10,kb14,kb11,kb12,kb13,kCnt,kw55,c26,kSolW,thsC_at,thC,boA,cL_eq,cB_eq,kBods,hiN,hiB,hnB,a0,a1,a2,a3,a4,a5,a6,a7,a8,a9,a10,j0,j1,j2,j3,hTi,inB_psh hiB,inB_pul hiB,inB_go hiB,inB_res hiB,inB_wak hiB,psh_n,pul_n,go_n,res_n,wak_n,hVi,vld_psh hVi,vld_pul hVi,vld_go hti' hVi,vld_res hVi,vld_wak hVi]
   simp only [forall_eq,gx_pts0,gx_pts1,etaN,etaV,hE,hNV,hsp,foI hs,roI,mkR_in,bne_self_eq_false,reduceCtorEq,or_self,or_false,false_imp_iff,true_imp_iff,and_self,true_and,and_true,implies_true]
   exact ⟨fun h => ⟨by omega,h,by omega,h,by have:=@mkN_le (T i).a; omega,by omega,h,by omega,h,by omega,h,by omega,h,by omega,h,by omega,h,i + 1,by omega,by omega,by rw [wrap_in (inRo (by omega))]; rfl⟩,fun h => absurd h (by omega)⟩
  have hN0:i = N:=by omega
  subst hN0
  have hlt:¬ ((i:Int) < (i:Int)):=by omega
  simp only [go_sem,c20,kBods,kt48,c22,c24,c23,kb25,kb10,kb14,kb11,kb12,kb13,kCnt,kw55,c26,kSolW,hlt,false_imp_iff,not_false_eq_true,true_imp_iff,true_and]
  clear hi hiN hlt
  have hBs:inBs i B:=fun j _ => ⟨(hV j).inb,(hV j).n⟩
  have hi4:i ≤ 4:=by omega
  clear hN4
  refine loopN_go (fun (x:Nat × Nat × (Nat → Ct)) => x.2.1 < x.1 ∧ (x.1 = 1 ∨ x.1 ≤ i) ∧ inCs x.2.1 x.2.2) (fun x => i - x.1) (fun x => [(21,i64 (x.1:Int)),(20,.own 24 0 x.2.1 15)]) (fun x => [(24,famN x.2.1 15 55 (csC x.2.2) none)]) [15,1,0] [124,125,126,127,131,132,133,134,135,130,136,137,22,23,138,139,140,141,142,20,128,129,21] 1 (1,0,fun _ => contD []) (by kernel_rfl) ⟨by decide,.inl rfl,fun j hj => absurd hj (by show ¬ j < 0; omega)⟩ ⟨[(24,none)],?_,?_,?_,?_⟩ ?_
  ·simp only [go_sem]
  ·simp only [go_sem]
  ·simp only [go_sem]
  ·simp [goodNames,asg]
  intro ⟨q,M,C⟩ ⟨hq1,hq2,hC⟩
  dsimp only at hq1 hq2 hC ⊢
  by_cases hqi:q < i
  ·simp only [go_sem,c20,kBods,kt48,c22,c24,c23,kb25,kb10,kb14,kb11,kb12,kb13,kCnt,kw55,c26,kSolW,cL_eq,kCnt,hBs]
   refine ⟨fun hq z hz zb hzb => ?_,fun h => absurd (by omega) h⟩
   have hz':z = (q:Int) - 1:=by rw [hz,wrap_in (inRo (by omega))]
   obtain ⟨k1,k2⟩:=@cnt_in (B z.toNat) (B q) z q (inRo (by omega)) (inRo (by omega))
   have hw:IntKind.i64.wrap ((q:Int) + 1) = ((q + 1:Nat):Int):=by rw [wrap_in (inRo (by omega))]; rfl
   refine ⟨by omega,by omega,by omega,hq,fun _ => ⟨by rw [byt55c]; omega,by omega,fun z2 hz2 => ⟨(q + 1,M + 1,fun j => if j < M then C j else cntS (B z.toNat) (B q) z q),⟨by dsimp only; omega,.inr (by dsimp only; omega),?_⟩,by dsimp only; omega,[(24,some 44)],?_⟩⟩,fun _ z2 hz2 => ⟨(q + 1,M,C),⟨by dsimp only; omega,.inr (by dsimp only; omega),hC⟩,by dsimp only; omega,[(24,some 24)],?_⟩⟩
   ·intro j hj
    dsimp only at hj ⊢
    by_cases e:j < M
    ·rw [if_pos e]; exact hC j e
    ·rw [if_neg e]; exact ⟨k1,by omega⟩
   ·simp only [go_sem]
    refine ⟨by rw [hz2,hw],fun j hj => ?_,by simp [goodNames,asg]⟩
    by_cases e:j < M
    ·rw [if_pos e,if_pos e]; exact fitL_clean rfl
    ·have e:j = M:=by omega
     subst e
     rw [if_neg (by omega),if_neg (by omega),Nat.sub_self]
     exact fitL_clean rfl
   ·simp only [go_sem]
    exact ⟨by rw [hz2,hw],fun j hj => fitL_clean rfl,by simp [goodNames,asg]⟩
  have hlt:¬ ((q:Int) < (i:Int)):=by omega
  simp only [go_sem,c20,kBods,kt48,c22,c24,c23,kb25,kb10,kb14,kb11,kb12,kb13,kCnt,kw55,c26,kSolW,cutK_normal,hlt,false_imp_iff,not_false_eq_true,true_imp_iff,true_and]
  have hM5:M ≤ 1000:=by omega
  have hi5:i ≤ 1000:=by omega
  refine ⟨[(20,.ro M 15 (csC C)),(14,.ro i 27 (bsC B)),(15,.rop [i64 (tiN n),bo false]),(5,i64 k)],fun p hp => ?_,vd_end hV hM5 hi5 hC hti hk⟩
  simp only [List.mem_cons,List.not_mem_nil,or_false] at hp
  rcases hp with rfl | rfl | rfl | rfl
  ·simp only [go_sem]
   rfl
  ·simp only [go_sem]
  ·simp only [go_sem]
  ·simp only [go_sem]
 ·refine ⟨by omega,fun i _ => hT i,?_⟩
  obtain ⟨B,hB⟩:∃ B,mkL T 12 = B:=⟨_,rfl⟩
  have hV:∀ i,vldB (B i):=fun i => hB ▸ mkT_vld (t:=T i) (s:=12) (by omega)
  simp only [hB]
  have hs:(1:Int) ≤ 12 ∧ ((12:Int)) ≤ 4000:=by omega
  refine loopC_go (fun (i:Nat) => i ≤ N) (fun i => N - i) (fun i => [(16,i64 (i:Int))]) (fun _ => []) [14,1,0] [37,38,39,40,43,44,45,46,47,48,17,50,51,52,53,54,55,56,57,58,49,59,60,18,19,61,62,63,64,65,66,67,68,69,70,71,72,73,74,75,12,76,77,78,79,80,81,82,83,84,85,86,87,88,89,90,91,92,93,94,95,96,97,98,99,100,101,102,103,104,105,106,107,108,109,110,111,112,113,114,115,116,117,118,119,120,121,122,123,12,41,42,16] 0 (by kernel_rfl) ?_ (Nat.zero_le _) ?_ ?_
  ·intro x _; simp [goodNames,asg]
  ·simp only [go_sem]
  intro i hi
  by_cases hiN:i < N
  ·have hVi:=hV i
   have hiB:=hVi.inb
   have hnB:=hVi.n
   have hE:=nw_E (t:=T i) (s:=12) hs
   have hNV:=nw_vld (t:=T i) (s:=12) hs
   have hsp:=@mk_spots (T i).a (T i).b (T i).c
   obtain ⟨a0,a1,a2,a3,a4,a5,a6,a7,a8,a9,a10⟩:=hT i
   simp only [go_sem,c20,kBods,kt48,c22,c24,c23,kb25,kb10,kb14,kb11,kb12,kb13,kCnt,kw55,c26,kSolW,thsC_at,thC,boA,cL_eq,cB_eq,kBods,hiN,hiB,hnB,a0,a1,a2,a3,a4,a5,a6,a7,a8,a9,a10,j0,j1,j2,j3,hTi,inB_psh hiB,inB_pul hiB,inB_go hiB,inB_res hiB,inB_wak hiB,psh_n,pul_n,go_n,res_n,wak_n,hVi,vld_psh hVi,vld_pul hVi,vld_go hti' hVi,vld_res hVi,vld_wak hVi]
   simp only [forall_eq,gx_pts0,gx_pts1,etaN,etaV,hE,hNV,hsp,foI hs,roI,mkR_in,bne_self_eq_false,reduceCtorEq,or_self,or_false,false_imp_iff,true_imp_iff,and_self,true_and,and_true,implies_true]
   exact ⟨fun h => ⟨by omega,h,by omega,h,by have:=@mkN_le (T i).a; omega,by omega,h,by omega,h,by omega,h,by omega,h,by omega,h,by omega,h,i + 1,by omega,by omega,by rw [wrap_in (inRo (by omega))]; rfl⟩,fun h => absurd h (by omega)⟩
  have hN0:i = N:=by omega
  subst hN0
  have hlt:¬ ((i:Int) < (i:Int)):=by omega
  simp only [go_sem,c20,kBods,kt48,c22,c24,c23,kb25,kb10,kb14,kb11,kb12,kb13,kCnt,kw55,c26,kSolW,hlt,false_imp_iff,not_false_eq_true,true_imp_iff,true_and]
  clear hi hiN hlt
  have hBs:inBs i B:=fun j _ => ⟨(hV j).inb,(hV j).n⟩
  have hi4:i ≤ 4:=by omega
  clear hN4
  refine loopN_go (fun (x:Nat × Nat × (Nat → Ct)) => x.2.1 < x.1 ∧ (x.1 = 1 ∨ x.1 ≤ i) ∧ inCs x.2.1 x.2.2) (fun x => i - x.1) (fun x => [(21,i64 (x.1:Int)),(20,.own 23 0 x.2.1 15)]) (fun x => [(23,famN x.2.1 15 55 (csC x.2.2) none)]) [14,1,0] [124,125,126,127,131,132,133,134,135,130,136,137,22,23,138,139,140,141,142,20,128,129,21] 1 (1,0,fun _ => contD []) (by kernel_rfl) ⟨by decide,.inl rfl,fun j hj => absurd hj (by show ¬ j < 0; omega)⟩ ⟨[(23,none)],?_,?_,?_,?_⟩ ?_
  ·simp only [go_sem]
  ·simp only [go_sem]
  ·simp only [go_sem]
  ·simp [goodNames,asg]
  intro ⟨q,M,C⟩ ⟨hq1,hq2,hC⟩
  dsimp only at hq1 hq2 hC ⊢
  by_cases hqi:q < i
  ·simp only [go_sem,c20,kBods,kt48,c22,c24,c23,kb25,kb10,kb14,kb11,kb12,kb13,kCnt,kw55,c26,kSolW,cL_eq,kCnt,hBs]
   refine ⟨fun hq z hz zb hzb => ?_,fun h => absurd (by omega) h⟩
   have hz':z = (q:Int) - 1:=by rw [hz,wrap_in (inRo (by omega))]
   obtain ⟨k1,k2⟩:=@cnt_in (B z.toNat) (B q) z q (inRo (by omega)) (inRo (by omega))
   have hw:IntKind.i64.wrap ((q:Int) + 1) = ((q + 1:Nat):Int):=by rw [wrap_in (inRo (by omega))]; rfl
   refine ⟨by omega,by omega,by omega,hq,fun _ => ⟨by rw [byt55c]; omega,by omega,fun z2 hz2 => ⟨(q + 1,M + 1,fun j => if j < M then C j else cntS (B z.toNat) (B q) z q),⟨by dsimp only; omega,.inr (by dsimp only; omega),?_⟩,by dsimp only; omega,[(23,some 43)],?_⟩⟩,fun _ z2 hz2 => ⟨(q + 1,M,C),⟨by dsimp only; omega,.inr (by dsimp only; omega),hC⟩,by dsimp only; omega,[(23,some 23)],?_⟩⟩
   ·intro j hj
    dsimp only at hj ⊢
    by_cases e:j < M
    ·rw [if_pos e]; exact hC j e
    ·rw [if_neg e]; exact ⟨k1,by omega⟩
   ·simp only [go_sem]
    refine ⟨by rw [hz2,hw],fun j hj => ?_,by simp [goodNames,asg]⟩
    by_cases e:j < M
    ·rw [if_pos e,if_pos e]; exact fitL_clean rfl
    ·have e:j = M:=by omega
     subst e
     rw [if_neg (by omega),if_neg (by omega),Nat.sub_self]
     exact fitL_clean rfl
   ·simp only [go_sem]
    exact ⟨by rw [hz2,hw],fun j hj => fitL_clean rfl,by simp [goodNames,asg]⟩
  have hlt:¬ ((q:Int) < (i:Int)):=by omega
  simp only [go_sem,c20,kBods,kt48,c22,c24,c23,kb25,kb10,kb14,kb11,kb12,kb13,kCnt,kw55,c26,kSolW,cutK_normal,hlt,false_imp_iff,not_false_eq_true,true_imp_iff,true_and]
  have hM5:M ≤ 1000:=by omega
  have hi5:i ≤ 1000:=by omega
  refine ⟨[(20,.ro M 15 (csC C)),(14,.ro i 27 (bsC B)),(15,.rop [i64 (tiN n),bo false]),(5,i64 k)],fun p hp => ?_,vd_end hV hM5 hi5 hC hti hk⟩
  simp only [List.mem_cons,List.not_mem_nil,or_false] at hp
  rcases hp with rfl | rfl | rfl | rfl
  ·simp only [go_sem]
   rfl
  ·simp only [go_sem]
  ·simp only [go_sem]
  ·simp only [go_sem]
end Go.Ax
end