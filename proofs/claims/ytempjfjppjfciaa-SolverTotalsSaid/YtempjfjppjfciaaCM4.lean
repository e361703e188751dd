/-
  The reference's ratios and roots, bit by bit.
-/
import Derived.Test.YtempjfjppjfciaaCM3
set_option linter.unusedVariables false
set_option linter.unusedSimpArgs false
section
set_option maxHeartbeats 4000000
set_option maxRecDepth 100000
namespace Go.Ax
open Go.Proofs
theorem andU_1 {x:Nat} (hx:x < 18446744073709551616):andI .u64 (x:Int) 1 = ((x % 2:Nat):Int):=by
 unfold andI
 have e1:(BitVec.ofInt IntKind.u64.bits 1).toNat = 1:=by decide
 rw [BitVec.toNat_and,e1,toNat_u hx,Nat.and_one_is_mod,wrap_u (by unfold inU; omega)]
theorem orI_add {x y s:Nat} (hy:y < 2 ^ s) (h:2 ^ s * x + y < 18446744073709551616):orI .u64 ((2 ^ s * x:Nat):Int) (y:Int) = ((2 ^ s * x + y:Nat):Int):=by
 unfold orI
 rw [BitVec.toNat_or,toNat_u (by omega),toNat_u (by omega),← Nat.two_pow_add_eq_or_of_lt hy,wrap_u (by unfold inU; omega)]
theorem or2 {x y:Nat} {p q:Int} (hp:p = ((2 * x:Nat):Int)) (hq:q = (y:Int)) (hy:y < 2) (h:2 * x + y < 18446744073709551616):orI .u64 p q = ((2 * x + y:Nat):Int):=by
 rw [hp,hq]
 have:=orI_add (x:=x) (y:=y) (s:=1) (by simpa using hy) (by simpa using h)
 simpa using this
theorem bit_high {h l:Int} {M k:Nat} (hl:inU l) (hh:inU h) (hjm:jn h l = (M:Int)) (hk:65 ≤ k):M / 2 ^ (k - 1) = h.toNat / 2 ^ (k - 65):=by
 have p:(2:Nat) ^ 64 = 18446744073709551616:=by decide
 have e:2 ^ (k - 1) = 2 ^ 64 * 2 ^ (k - 65):=by rw [← Nat.pow_add]; congr 1; omega
 rw [e,← Nat.div_div_eq_div_mul,p]
 congr 1
 unfold jn at hjm; unfold inU at hl hh
 omega
theorem bit_low {h l:Int} {M k:Nat} (hl:inU l) (hh:inU h) (hjm:jn h l = (M:Int)) (hk0:0 < k) (hk:k < 65):M / 2 ^ (k - 1) % 2 = l.toNat / 2 ^ (k - 1) % 2:=by
 have p:(2:Nat) ^ 64 = 18446744073709551616:=by decide
 have e:(18446744073709551616:Nat) = 2 ^ (k - 1) * (2 * 2 ^ (64 - k)):=by
  rw [← p,Nat.mul_left_comm,← Nat.pow_add,← Nat.pow_succ']; congr 1; omega
 have e2:M = l.toNat + 2 ^ (k - 1) * (2 * 2 ^ (64 - k) * h.toNat):=by
  rw [← Nat.mul_assoc,← e]
  unfold jn at hjm; unfold inU at hl hh
  omega
 rw [e2,Nat.add_mul_div_left _ _ (Nat.two_pow_pos _),Nat.mul_assoc,Nat.add_mul_mod_self_left]
theorem over_step {M D k:Nat} (hk:0 < k) (hk2:k ≤ 128) (hD:1 ≤ D ∧ D ≤ 9223372036854775808) (hM:M < 340282366920938463463374607431768211456) :
  ∀ (b:Int),b = ((M / 2 ^ (k - 1) % 2:Nat):Int) →
  ∀ (z:Int),z = IntKind.u64.wrap (((M / 2 ^ k % D:Nat):Int) * 2) → ∀ (z4:Int),z4 = orI IntKind.u64 z b →
  ∀ (z:Int),z = IntKind.u64.wrap (((M / 2 ^ k / D / 18446744073709551616:Nat):Int) * 2) →
  ∀ (z5:Int),z5 = ((M / 2 ^ k / D % 18446744073709551616:Nat):Int) / 9223372036854775808 → ∀ (z6:Int),z6 = orI IntKind.u64 z z5 →
  ∀ (z:Int),z = IntKind.u64.wrap (((M / 2 ^ k / D % 18446744073709551616:Nat):Int) * 2) →
  ((D:Int) ≤ z4 → ∀ (z7:Int),z7 = IntKind.u64.wrap (z4 - D) → ∀ (z8:Int),z8 = orI IntKind.u64 z 1 → ∀ (z:Int),z = IntKind.i64.wrap ((k:Int) - 1 - 1) →
   ∃ y:Nat,y ≤ 128 ∧ y < k ∧ (z = (y:Int) - 1 ∧ z7 = ((M / 2 ^ y % D:Nat):Int)) ∧ z6 = ((M / 2 ^ y / D / 18446744073709551616:Nat):Int) ∧ z8 = ((M / 2 ^ y / D % 18446744073709551616:Nat):Int)) ∧
  (¬(D:Int) ≤ z4 → ∀ (z7:Int),z7 = IntKind.i64.wrap ((k:Int) - 1 - 1) →
   ∃ y:Nat,y ≤ 128 ∧ y < k ∧ (z7 = (y:Int) - 1 ∧ z4 = ((M / 2 ^ y % D:Nat):Int)) ∧ z6 = ((M / 2 ^ y / D / 18446744073709551616:Nat):Int) ∧ z = ((M / 2 ^ y / D % 18446744073709551616:Nat):Int)):=by
 intro b hb z1 hz1 z4 hz4 z2 hz2 z5 hz5 z6 hz6 z3 hz3
 have hP:M / 2 ^ k = M / 2 ^ (k - 1) / 2:=by
  rw [Nat.div_div_eq_div_mul,← Nat.pow_succ]; congr 2; omega
 obtain ⟨Q,hQ⟩:∃ Q,Q = M / 2 ^ (k - 1):=⟨_,rfl⟩
 have hQM:Q ≤ M:=by rw [hQ]; exact Nat.div_le_self _ _
 rw [← hQ] at hP hb
 rw [hP] at hz1 hz2 hz3 hz5
 obtain ⟨P,hPd⟩:∃ P,P = Q / 2:=⟨_,rfl⟩
 rw [← hPd] at hz1 hz2 hz3 hz5
 have hqr:=Nat.div_add_mod P D
 have hr:=Nat.mod_lt P (show 0 < D by omega)
 have hqP:P / D ≤ P:=Nat.div_le_self _ _
 have hPM:P < 170141183460469231731687303715884105728:=by omega
 clear hP
 obtain ⟨q,hq⟩:∃ q,q = P / D:=⟨_,rfl⟩
 obtain ⟨r,hrr⟩:∃ r,r = P % D:=⟨_,rfl⟩
 rw [← hrr] at hz1 hqr hr
 rw [← hq] at hz2 hz3 hz5 hqr hqP
 have hw:∀ n:Nat,n < 18446744073709551616 → IntKind.u64.wrap (n:Int) = n:=fun n hn => wrap_u (by unfold inU; omega)
 have e1:z1 = ((2 * r:Nat):Int):=by rw [hz1,show (r:Int) * 2 = ((2 * r:Nat):Int) by omega,hw _ (by omega)]
 have e4:z4 = ((2 * r + Q % 2:Nat):Int):=by rw [hz4]; exact or2 e1 hb (by omega) (by omega)
 have e2:z2 = ((2 * (q / 18446744073709551616):Nat):Int):=by
  rw [hz2,show ((q / 18446744073709551616:Nat):Int) * 2 = ((2 * (q / 18446744073709551616):Nat):Int) by omega,hw _ (by omega)]
 have e5:z5 = ((q % 18446744073709551616 / 9223372036854775808:Nat):Int):=by rw [hz5]; rfl
 have e6:z6 = ((2 * q / 18446744073709551616:Nat):Int):=by
  rw [hz6,or2 e2 e5 (by omega) (by omega)]
  omega
 have e3:z3 = ((2 * (q % 9223372036854775808):Nat):Int):=by
  rw [hz3,wrap_u64]; omega
 have hQe:Q = D * (2 * q) + (2 * r + Q % 2):=by
  have:D * (2 * q) = 2 * (D * q):=Nat.mul_left_comm _ _ _
  omega
 have hki:IntKind.i64.wrap ((k:Int) - 1 - 1) = ((k - 1:Nat):Int) - 1:=by rw [wrap_in (by unfold inR; omega)]; omega
 refine ⟨fun hc z7 hz7 z8 hz8 z9 hz9 => ⟨k - 1,by omega,by omega,⟨by rw [hz9,hki],?_⟩,?_,?_⟩,fun hc z7 hz7 => ⟨k - 1,by omega,by omega,⟨by rw [hz7,hki],?_⟩,?_,?_⟩⟩
 all_goals rw [← hQ]
 all_goals clear hz1 hz2 hz3 hz4 hz5 hz6 hb
 ·have hm:Q % D = 2 * r + Q % 2 - D:=by
   have:Q = (2 * r + Q % 2 - D) + D * (2 * q + 1):=by rw [Nat.mul_add]; omega
   conv => lhs; rw [this]
   rw [Nat.add_mul_mod_self_left,Nat.mod_eq_of_lt (by omega)]
  rw [hm,hz7,e4,show ((2 * r + Q % 2:Nat):Int) - (D:Int) = ((2 * r + Q % 2 - D:Nat):Int) by omega,hw _ (by omega)]
 ·have hd:Q / D = 2 * q + 1:=by
   have:Q = (2 * r + Q % 2 - D) + D * (2 * q + 1):=by rw [Nat.mul_add]; omega
   conv => lhs; rw [this]
   rw [Nat.add_mul_div_left _ _ (by omega),Nat.div_eq_of_lt (by omega)]; omega
  rw [hd,e6]; omega
 ·have hd:Q / D = 2 * q + 1:=by
   have:Q = (2 * r + Q % 2 - D) + D * (2 * q + 1):=by rw [Nat.mul_add]; omega
   conv => lhs; rw [this]
   rw [Nat.add_mul_div_left _ _ (by omega),Nat.div_eq_of_lt (by omega)]; omega
  rw [hd,hz8,or2 (q:=1) e3 (y:=1) rfl (by omega) (by omega)]; omega
 ·have hm:Q % D = 2 * r + Q % 2:=by
   conv => lhs; rw [hQe]
   rw [Nat.mul_add_mod,Nat.mod_eq_of_lt (by omega)]
  rw [hm,e4]
 ·have hd:Q / D = 2 * q:=by
   conv => lhs; rw [hQe]
   rw [Nat.mul_add_div (by omega),Nat.div_eq_of_lt (by omega)]; omega
  rw [hd,e6]
 ·have hd:Q / D = 2 * q:=by
   conv => lhs; rw [hQe]
   rw [Nat.mul_add_div (by omega),Nat.div_eq_of_lt (by omega)]; omega
  rw [hd,e3]; omega
def c58:Con
 | [.agg [.v (.bool g),.v (.int .u64 h),.v (.int .u64 l)],.v (.int .u64 d)] => some ([inU l,inU h,1 ≤ d ∧ d ≤ 9223372036854775808],wd g (jn h l / d))
 | _ => none
theorem con58:ConOK Try.prog 58 c58:=ConOK.of (G:=[]) (H:=[]) .nil Try.func58 fun l ob r hc hob => by
 unfold c58 at hc
 split at hc
 ·rename_i g h l d
  cases hc
  have hl:inU l:=hob _ (by simp)
  have hh:inU h:=hob _ (by simp)
  have hd:1 ≤ d ∧ d ≤ 9223372036854775808:=hob _ (by simp)
  refine ⟨by kernel_rfl,fnVC_go (rs:=[.cell 4 102]) rfl rfl ?_⟩
  simp only [go_sem]
  obtain ⟨D,rfl⟩:∃ n:Nat,d = n:=⟨d.toNat,by omega⟩
  obtain ⟨M,hM⟩:∃ M:Nat,M = (jn h l).toNat:=⟨_,rfl⟩
  have hjm:jn h l = (M:Int):=by rw [hM]; unfold jn; unfold inU at hl hh; omega
  have hMK:M < 340282366920938463463374607431768211456:=by unfold jn at hjm; unfold inU at hl hh; omega
  refine loopC_go (fun (k:Nat) => k ≤ 128) (fun k => k) (fun k => [(7,i64 ((k:Int) - 1)),(6,u64 ((M / 2 ^ k % D:Nat):Int))]) (fun k => [(5,fam1 102 3 [bo g,u64 ((M / 2 ^ k / D / 18446744073709551616:Nat):Int),u64 ((M / 2 ^ k / D % 18446744073709551616:Nat):Int)] none)]) [1,0] [12,13,16,17,18,19,20,21,8,22,23,24,25,26,27,28,29,30,8,31,32,33,34,6,35,36,37,38,39,40,41,42,43,44,45,46,47,48,49,50,51,52,6,53,54,55,56,14,15,7] 128 (by kernel_rfl) ?_ (Nat.le_refl _) ?_ ?_
  ·intro x _; simp [goodNames,asg]
  ·simp only [go_sem]
   have e:M / 340282366920938463463374607431768211456 = 0:=Nat.div_eq_of_lt hMK
   rw [e,Nat.zero_mod,Nat.zero_div]
   exact ⟨⟨by decide,rfl⟩,rfl,rfl⟩
  intro k hk
  simp only [go_sem]
  have hD:1 ≤ D ∧ D ≤ 9223372036854775808:=by omega
  refine ⟨fun hk0 z hz => ?_,fun hk0 => ?_⟩
  ·have ez:z = ((k - 1:Nat):Int):=by rw [hz,show (k:Int) - 1 = ((k - 1:Nat):Int) by omega,wrap_u (by unfold inU; omega)]
   refine ⟨by rw [ez]; omega,fun z1 hz1 z2 hz2 => ⟨fun h64 z3 hz3 z4 hz4 => ?_,fun h64 => ?_⟩⟩
   ·have e3:z4 = ((k - 65:Nat):Int):=by
     rw [hz4,hz3,wrap_in (by unfold inR; omega),show (k:Int) - 1 - 64 = ((k - 65:Nat):Int) by omega,wrap_u (by unfold inU; omega)]
    refine ⟨by rw [e3]; omega,fun z5 hz5 z6 hz6 => ?_⟩
    refine over_step (by omega) hk hD hMK z6 ?_
    rw [hz6,hz5,e3,Int.toNat_natCast,Nat.min_eq_left (by omega),bit_high hl hh hjm (by omega)]
    have hhn:h = ((h.toNat:Nat):Int):=by unfold inU at hh; omega
    have hle:h.toNat / 2 ^ (k - 65) ≤ h.toNat:=Nat.div_le_self _ _
    rw [show h.fdiv (2 ^ (k - 65)) = ((h.toNat / 2 ^ (k - 65):Nat):Int) by
     conv => lhs; rw [hhn]
     rw [show ((2:Int) ^ (k - 65)) = ((2 ^ (k - 65):Nat):Int) by simp,Int.fdiv_eq_ediv_of_nonneg _ (Int.natCast_nonneg _)]; rfl]
    exact andU_1 (by unfold inU at hh; omega)
   ·refine over_step (by omega) hk hD hMK z2 ?_
    rw [hz2,hz1,ez,Int.toNat_natCast,Nat.min_eq_left (by omega),bit_low hl hh hjm (by omega) (by omega)]
    have hhn:l = ((l.toNat:Nat):Int):=by unfold inU at hl; omega
    have hle:l.toNat / 2 ^ (k - 1) ≤ l.toNat:=Nat.div_le_self _ _
    rw [show l.fdiv (2 ^ (k - 1)) = ((l.toNat / 2 ^ (k - 1):Nat):Int) by
     conv => lhs; rw [hhn]
     rw [show ((2:Int) ^ (k - 1)) = ((2 ^ (k - 1):Nat):Int) by simp,Int.fdiv_eq_ediv_of_nonneg _ (Int.natCast_nonneg _)]; rfl]
    exact andU_1 (by unfold inU at hl; omega)
  ·have:k = 0:=by omega
   subst this
   rw [Nat.pow_zero,Nat.div_one,hjm]
   exact agg3 rfl (u64_eq (by omega)) (u64_eq (by omega))
 ·cases hc
def c39:Con
 | [.v (.int .i64 a),.v (.int .i64 b)] => some ([inR a,inR b],ra a b false)
 | _ => none
theorem con39:ConOK Try.prog 39 c39:=ConOK.of (G:=[(38,c38),(60,c60),(59,c59),(61,c61),(58,c58),(62,c62)]) (H:=[]) (.cons con38 (.cons con60 (.cons con59 (.cons con61 (.cons con58 (.cons con62 .nil)))))) Try.func39 fun l ob r hc hob => by
 unfold c39 at hc
 split at hc
 ·rename_i a b
  cases hc
  have h_0:inR a:=hob _ (by simp)
  have h_1:inR b:=hob _ (by simp)
  refine ⟨by kernel_rfl,fnVC_go (rs:=[.cell 4 27]) rfl rfl ?_⟩
  simp only [go_sem,c38,c60,c59,c61,c58,c62]
  simp only [forall_eq,mod_jn,Bool.or_false]
  refine ⟨fun hb => ?_,fun hb => ?_⟩
  ·have hb:b = 0:=by simpa using hb
   refine agg2 (i64_eq ?_) (bo_eq ?_)
   ·unfold raV; rw [if_pos hb]
   ·unfold raF; rw [if_pos hb]; rfl
  ·have hb:b ≠ 0:=by simpa using hb
   have ha0:=ab_nonneg a
   have hb0:=ab_nonneg b
   have ha1:ab a ≤ 9223372036854775808:=by unfold inR at h_0; exact ab_le (by omega) (by omega)
   have hb1:ab b ≤ 9223372036854775808:=by unfold inR at h_1; exact ab_le (by omega) (by omega)
   have hb2:0 < ab b:=by unfold ab at hb0 ⊢; split <;> omega
   have e:(!decide (a < 0) == decide (b < 0)) = (decide (a < 0) != decide (b < 0)):=by cases decide (a < 0) <;> cases decide (b < 0) <;> rfl
   have k5:0 ≤ ab a * 4294967296 / ab b:=Int.ediv_nonneg (by omega) hb0
   have k6:ab a * 4294967296 / ab b ≤ ab a * 4294967296:=Int.ediv_le_self _ (by omega)
   refine ⟨h_0,inU_mod,inU_div ha0 (by omega),by omega,h_1,inU_mod,inU_div (by omega) (by omega),⟨by omega,hb1⟩,inU_mod,inU_div k5 (by omega),?_⟩
   rw [e,sgn_ratio hb]
   refine agg2 (i64_eq ?_) (bo_eq ?_)
   ·unfold raV; rw [if_neg hb]
   ·unfold raF; rw [if_neg hb,Bool.or_false]
 ·cases hc
def c24:Con
 | [.agg [.v (.int .i64 v),.v (.bool f)],.agg [.v (.int .i64 u),.v (.bool e)]] => some ([inR v,inR u],ra (whV v) (whV u) (whF v f || whF u e))
 | _ => none
theorem con24:ConOK Try.prog 24 c24:=ConOK.of (G:=[(37,c37),(38,c38),(39,c39)]) (H:=[]) (.cons con37 (.cons con38 (.cons con39 .nil))) Try.func24 fun l ob r hc hob => by
 unfold c24 at hc
 split at hc
 ·rename_i v f u e
  cases hc
  have h_0:inR v:=hob _ (by simp)
  have h_1:inR u:=hob _ (by simp)
  refine ⟨by kernel_rfl,fnVC_go (rs:=[.cell 4 27]) rfl rfl ?_⟩
  simp only [go_sem,c37,c38,c39]
  simp only [forall_eq,Bool.or_false]
  refine ⟨fun hb => ?_,fun hb => ⟨inR_wh h_0,inR_wh h_1,?_⟩⟩
  ·have hb:whV u = 0:=by simpa using hb
   refine agg2 (i64_eq ?_) (bo_eq ?_)
   ·unfold raV; rw [if_pos hb]
   ·unfold raF; rw [if_pos hb]; rfl
  ·rw [Bool.or_assoc]
 ·cases hc
def c64:Con
 | [.ro n 2 g] => some ([nums n g,n ≤ 1000],bo (wfS n g))
 | _ => none
theorem vc64 (n:Nat) (X:Nat → Int) (F:Nat → Bool) (hn:n ≤ 1000):fnVC Try.prog [(37,c37)] [] Try.f64 [.ro n 2 fun i => [i64 (X i),bo (F i)]] (· = bo (anyB (fun i => whF (X i) (F i)) n)):=by
 refine fnVC_go (rs:=[.tmp 2]) rfl rfl ?_
 simp only [go_sem]
 refine loopC_go (fun (i:Nat) => i ≤ n ∧ ∀ j,j < i → whF (X j) (F j) = false) (fun i => n - i) (fun i => [(3,i64 i)]) (fun _ => []) [] [6,7,8,9,13,14,15,16,17,12,18,19,4,5,20,2,10,11,3] 0 (by kernel_rfl) ?_ ⟨Nat.zero_le _,fun j h => by omega⟩ ?_ ?_
 ·intro x _; simp [goodNames]
 ·simp only [go_sem]
 ·intro i hi
  simp only [go_sem,c37]
  refine ⟨fun h => ⟨by omega,h,fun z hz z1 hz1 => ⟨fun hx => ?_,fun hx z2 hz2 => ⟨i + 1,⟨by omega,fun j hj => ?_⟩,by omega,?_⟩⟩⟩,fun h => false_of' fun hc => ?_⟩
  ·exact (anyB_iff.2 ⟨i,by omega,by rw [hz1] at hx; exact hx⟩).symm
  ·by_cases e:j = i
   ·subst e; rw [hz1] at hx; exact hx
   ·exact hi.2 j (by omega)
  ·rw [hz2,wrap_in (by unfold inR; omega)]; rfl
  ·obtain ⟨j,h1,h2⟩:=anyB_iff.1 hc
   rw [hi.2 j (by omega)] at h2; cases h2
theorem con64:ConOK Try.prog 64 c64:=ConOK.go (G:=[(37,c37)]) (H:=[]) (.cons con37 .nil) Try.func64 fun l ob r hc hob => by
 unfold c64 at hc
 split at hc
 ·rename_i n g
  cases hc
  have hs:nums n g:=hob _ (by simp)
  refine ⟨[.ro n 2 fun i => [i64 (gx g 0 i),bo (gb g 1 i)]],fun w I vs h => Rs_one (fun v => ro_alike fun i hi => (hs i hi).1) h,by kernel_rfl,vc64 n _ _ (hob _ (by simp))⟩
 ·cases hc
def smR (X:Nat → Int):Nat → Bool × Int
 | 0 => (false,0)
 | i + 1 => (rpG (smR X i).1 (smR X i).2 (decide (X i < 0)) (ab (X i)),plM (smR X i).1 (smR X i).2 (decide (X i < 0)) (ab (X i)))
theorem smR_ok {X:Nat → Int}:∀ i,sgn (smR X i).1 (smR X i).2 = suS X i ∧ 0 ≤ (smR X i).2
 | 0 => ⟨rfl,Int.le_refl 0⟩
 | i + 1 => by
  obtain ⟨h1,h2⟩:=smR_ok (X:=X) i
  unfold smR suS
  exact ⟨by rw [rp_sgn,h1,sgn_ab],plM_nonneg h2 (ab_nonneg _)⟩
theorem smR_le {X:Nat → Int} {n:Nat} (h:∀ i,i < n → rg (X i)):∀ i,i ≤ n → (smR X i).2 ≤ 9223372036854775807 * i
 | 0,_ => by simp [smR]
 | i + 1,hi => by
  have h0:=smR_le h i (by omega)
  have h1:=h i (by omega)
  unfold rg at h1
  have h2:ab (X i) ≤ 9223372036854775807:=ab_le (by omega) (by omega)
  have h3:=plM_le (g:=(smR X i).1) (g':=decide (X i < 0)) (smR_ok (X:=X) i).2 (ab_nonneg (X i))
  unfold smR
  dsimp only
  omega
def c40:Con
 | [.ro n 2 g] => some ([nums n g,n ≤ 1000],nu (suS (wvS g) n) (wfS n g))
 | _ => none
theorem vc40 (n:Nat) (X:Nat → Int) (F:Nat → Bool) (hX:∀ i,i < n → inR (X i)) (hn:n ≤ 1000):fnVC Try.prog [(37,c37),(60,c60),(63,c63),(64,c64),(62,c62)] [(6,⟨[(4,.slot 3)],[]⟩),(7,⟨[(4,.slot 2)],[]⟩)] Try.f40 [.ro n 2 fun i => [i64 (X i),bo (F i)]] (· = nu (suS (fun i => whV (X i)) n) (anyB (fun i => whF (X i) (F i)) n)):=by
 refine fnVC_go (rs:=[.cell 2 27]) rfl rfl ?_
 simp only [go_sem]
 have hr:∀ i,i < n → rg (whV (X i)):=fun i hi => whV_rg (hX i hi)
 refine loopC_go (fun (i:Nat) => i ≤ n) (fun i => n - i) (fun i => [(4,i64 i)]) (fun i => [(2,fam1 102 3 [bo (smR (fun i => whV (X i)) i).1,u64 ((smR (fun i => whV (X i)) i).2 / 18446744073709551616),u64 ((smR (fun i => whV (X i)) i).2 % 18446744073709551616)] none)]) [0] [8,9,10,11,15,16,17,18,19,14,20,21,5,6,22,23,24,25,12,13,4] 0 (by kernel_rfl) ?_ (Nat.zero_le _) ?_ ?_
 ·intro x _; simp [goodNames,asg]
 ·simp only [go_sem,smR]
  simp
 ·intro i hi
  simp only [go_sem,c37,c60,c63,c64,c62]
  have h1:=smR_ok (X:=fun i => whV (X i)) i
  have h2:=smR_le (X:=fun i => whV (X i)) hr i hi
  refine ⟨fun hin => ?_,fun hin => ?_⟩
  ·have h3:=hr i (by omega)
   have h4:=ab_nonneg (whV (X i))
   have h5:ab (whV (X i)) ≤ 9223372036854775807:=by unfold rg at h3; exact ab_le (by omega) (by omega)
   simp only [forall_eq,mod_jn]
   refine ⟨by omega,hin,rg_inR h3,inU_mod,inU_div h1.2 (by omega),inU_mod,inU_div h4 (by omega),by omega,⟨i + 1,by omega,by omega,?_,rfl,rfl,rfl⟩⟩
   rw [wrap_in (by unfold inR; omega)]; rfl
  ·have e:i = n:=by omega
   subst e
   simp only [forall_eq,mod_jn]
   refine ⟨fun k hk => ⟨rfl,hX k hk⟩,hn,inU_mod,inU_div h1.2 (by omega),?_⟩
   rw [h1.1]
   rfl
theorem con40:ConOK Try.prog 40 c40:=ConOK.go (G:=[(37,c37),(60,c60),(63,c63),(64,c64),(62,c62)]) (H:=[(6,⟨[(4,.slot 3)],[]⟩),(7,⟨[(4,.slot 2)],[]⟩)]) (.cons con37 (.cons con60 (.cons con63 (.cons con64 (.cons con62 .nil))))) Try.func40 fun l ob r hc hob => by
 unfold c40 at hc
 split at hc
 ·rename_i n g
  cases hc
  have hs:nums n g:=hob _ (by simp)
  exact ⟨[.ro n 2 fun i => [i64 (gx g 0 i),bo (gb g 1 i)]],fun w I vs h => Rs_one (fun v => ro_alike fun i hi => (hs i hi).1) h,by kernel_rfl,vc40 n _ _ (fun i hi => (hs i hi).2) (hob _ (by simp))⟩
 ·cases hc
def c57:Con
 | [.v (.int .i64 v)] => some ([],.agg [i64 (whV v),bo (whF v false)])
 | _ => none
theorem con57:ConOK Try.prog 57 c57:=ConOK.of (G:=[(37,c37)]) (H:=[]) (.cons con37 .nil) Try.func57 fun l ob r hc hob => by
 unfold c57 at hc
 split at hc
 ·rename_i v
  cases hc
  refine ⟨by kernel_rfl,fnVC_go (rs:=[.cell 2 27]) rfl rfl ?_⟩
  simp only [go_sem,c37]
  simp only [forall_eq]
 ·cases hc
abbrev Nb:=Int × Bool
def nMul (a b:Nb):Nb:=(ftV ((whV a.1 * whV b.1).tdiv 4294967296),ftF ((whV a.1 * whV b.1).tdiv 4294967296) || (whF a.1 a.2 || whF b.1 b.2))
def nInt (n:Int):Nb:=(ftV (n * 4294967296),ftF (n * 4294967296) || false)
def nDiv (a b:Nb):Nb:=(raV (whV a.1) (whV b.1),raF (whV a.1) (whV b.1) || (whF a.1 a.2 || whF b.1 b.2))
def nNeg (a:Nb):Nb:=(-whV a.1,whF a.1 a.2)
def nAdd (a b:Nb):Nb:=(ftV (whV a.1 + whV b.1),ftF (whV a.1 + whV b.1) || (whF a.1 a.2 || whF b.1 b.2))
theorem nMul_rg {a b:Nb}:rg (nMul a b).1:=ftV_rg _
theorem nInt_rg {n:Int}:rg (nInt n).1:=ftV_rg _
theorem nDiv_rg {a b:Nb}:rg (nDiv a b).1:=raV_rg
theorem nNeg_rg {a:Nb} (h:inR a.1):rg (nNeg a).1:=by have:=whV_rg h; unfold nNeg rg at *; dsimp only; omega
theorem nAdd_rg {a b:Nb}:rg (nAdd a b).1:=ftV_rg _
end Go.Ax
end
section
set_option maxHeartbeats 1000000
set_option maxRecDepth 100000
namespace Go.Ax
open Go.Proofs
def checkBoxS (a b c d:Int):Int:=if validS a b = true ∧ validS c d = true then (if c < a ∨ d < b then 5 else 0) else 3
def boxes (n:Nat) (g:Nat → List AV):Prop:=∀ i,i < n → g i = [i64 (gx g 0 i),i64 (gx g 1 i),i64 (gx g 2 i),i64 (gx g 3 i)] ∧ inR (gx g 0 i) ∧ inR (gx g 1 i) ∧ inR (gx g 2 i) ∧ inR (gx g 3 i)
def mnS (A:Nat → Int):Nat → Int
 | 0 => 0
 | i + 1 => if i = 0 then A 0 else min (mnS A i) (A i)
def mxS (A:Nat → Int):Nat → Int
 | 0 => 0
 | i + 1 => if i = 0 then A 0 else max (mxS A i) (A i)
def okB (n:Nat) (A B C D:Nat → Int):Prop:=∀ i,i < n → checkBoxS (A i) (B i) (C i) (D i) = 0
instance {n:Nat} {A B C D:Nat → Int}:Decidable (okB n A B C D):=by unfold okB; exact inferInstance
def joinS (n:Nat) (A B C D:Nat → Int) (k:Nat):Int:=if okB n A B C D then (match k with
 | 0 => mnS A n
 | 1 => mnS B n
 | 2 => mxS C n
 | _ => mxS D n) else 0
end Go.Ax
end
section
set_option maxHeartbeats 4000000
set_option maxRecDepth 100000
namespace Go.Ax
open Go.Proofs
abbrev nb (a:Nb):AV:=.agg [i64 a.1,bo a.2]
abbrev ve (a b:Nb):AV:=.agg [i64 a.1,bo a.2,i64 b.1,bo b.2]
def nRat (a b:Int):Nb:=(raV a b,raF a b || false)
def nDot (a b c d:Nb):Nb:=(ftV ((whV a.1 * whV b.1 + whV c.1 * whV d.1).tdiv 4294967296),ftF ((whV a.1 * whV b.1 + whV c.1 * whV d.1).tdiv 4294967296) || (whF a.1 a.2 || whF b.1 b.2 || whF c.1 c.2 || whF d.1 d.2))
def nHyp (a b:Nb):Nb:=(ftV (isq (whV a.1 * whV a.1 + whV b.1 * whV b.1).toNat),ftF (isq (whV a.1 * whV a.1 + whV b.1 * whV b.1).toNat) || (whF a.1 a.2 || whF b.1 b.2))
def nSub (a b:Nb):Nb:=(ftV (whV a.1 - whV b.1),ftF (whV a.1 - whV b.1) || (whF a.1 a.2 || whF b.1 b.2))
def nPos (a:Nb):Nb:=(if 0 < whV a.1 then whV a.1 else 0,whF a.1 a.2)
theorem nRat_rg {a b:Int}:rg (nRat a b).1:=raV_rg
theorem nDot_rg {a b c d:Nb}:rg (nDot a b c d).1:=ftV_rg _
theorem nHyp_rg {a b:Nb}:rg (nHyp a b).1:=ftV_rg _
theorem nSub_rg {a b:Nb}:rg (nSub a b).1:=ftV_rg _
def c46:Con
 | [.agg [.v (.int .i64 x),.v (.bool e),.v (.int .i64 y),.v (.bool f)],.agg [.v (.int .i64 k),.v (.bool g)]] => some ([inR x,inR y,inR k],ve (nMul (x,e) (k,g)) (nMul (y,f) (k,g)))
 | _ => none
theorem con46:ConOK Try.prog 46 c46:=ConOK.of (G:=[(42,c42)]) (H:=[(1,⟨[(9,.slot 4)],[]⟩)]) (.cons con42 .nil) Try.func46 fun l ob r hc hob => by
 unfold c46 at hc
 split at hc
 ·rename_i x e y f k g
  cases hc
  have h_0:inR x:=hob _ (by simp)
  have h_1:inR y:=hob _ (by simp)
  have h_2:inR k:=hob _ (by simp)
  refine ⟨by kernel_rfl,fnVC_go (rs:=[.cell 4 29]) rfl rfl ?_⟩
  simp only [go_sem,c42]
  simp only [forall_eq]
  exact ⟨h_0,h_2,h_1,h_2,rfl⟩
 ·cases hc
def c43:Con
 | [.agg [.v (.int .i64 x),.v (.bool e),.v (.int .i64 y),.v (.bool f)],.agg [.v (.int .i64 z),.v (.bool g),.v (.int .i64 t),.v (.bool h)]] => some ([inR x,inR y,inR z,inR t],nb (nDot (x,e) (t,h) (nNeg (y,f)) (z,g)))
 | _ => none
theorem con43:ConOK Try.prog 43 c43:=ConOK.of (G:=[(67,c67),(68,c68)]) (H:=[(1,⟨[(10,.slot 4)],[]⟩)]) (.cons con67 (.cons con68 .nil)) Try.func43 fun l ob r hc hob => by
 unfold c43 at hc
 split at hc
 ·rename_i x e y f z g t h
  cases hc
  have h_0:inR x:=hob _ (by simp)
  have h_1:inR y:=hob _ (by simp)
  have h_2:inR z:=hob _ (by simp)
  have h_3:inR t:=hob _ (by simp)
  refine ⟨by kernel_rfl,fnVC_go (rs:=[.cell 4 27]) rfl rfl ?_⟩
  simp only [go_sem,c67,c68]
  simp only [forall_eq]
  exact ⟨h_1,h_0,h_3,rg_inR (nNeg_rg (a:=(y,f)) h_1),h_2,rfl⟩
 ·cases hc
theorem nums1 {a:Int} {e:Bool} {g:Nat → List AV} (h0:g 0 = [i64 a,bo e]) (ha:inR a):nums 1 g:=by
 intro i hi
 have:i = 0:=by omega
 subst this
 simp only [gx,gb,h0,gi_0,gib_1]; exact ⟨trivial,ha⟩
theorem gib_3 {a b c:AV} {x:Bool} {l:List AV}:gib (a :: b :: c :: .v (.bool x) :: l) 3 = x:=(rfl)
attribute [go_sem] gib_3
def vecs (n:Nat) (g:Nat → List AV):Prop:=∀ i,i < n → g i = [i64 (gx g 0 i),bo (gb g 1 i),i64 (gx g 2 i),bo (gb g 3 i)] ∧ inR (gx g 0 i) ∧ inR (gx g 2 i)
theorem vecs1 {a b:Int} {e f:Bool} {g:Nat → List AV} (h0:g 0 = [i64 a,bo e,i64 b,bo f]) (ha:inR a) (hb:inR b):vecs 1 g:=by
 intro i hi
 have:i = 0:=by omega
 subst this
 simp only [gx,gb,h0,gi_0,gib_1,gi_2,gib_3]; exact ⟨trivial,ha,hb⟩
def unB (x y:Int):Nb × Nb:=if ab x < 16777216 ∧ ab y < 16777216 then ((x * 16777216,false),(y * 16777216,false)) else ((x,false),(y,false))
def unS (x:Int) (e:Bool) (y:Int) (f:Bool):Bool × Nb × Nb:=
 if whF x e = true ∨ whF y f = true then (false,(0,false),(0,false))
 else if (nHyp (unB x y).1 (unB x y).2).2 = true ∨ (nHyp (unB x y).1 (unB x y).2).1 = 0 then (false,(0,false),(0,false))
 else (true,nDiv (unB x y).1 (nHyp (unB x y).1 (unB x y).2),nDiv (unB x y).2 (nHyp (unB x y).1 (unB x y).2))
theorem unS_rg {x y:Int} {e f:Bool}:rg (unS x e y f).2.1.1 ∧ rg (unS x e y f).2.2.1:=by
 have z:rg 0:=by unfold rg; omega
 unfold unS
 split
 ·exact ⟨z,z⟩
 ·split
  ·exact ⟨z,z⟩
  ·exact ⟨nDiv_rg,nDiv_rg⟩
theorem suS_congr {X Y:Nat → Int}:∀ {n:Nat},(∀ i,i < n → X i = Y i) → suS X n = suS Y n
 | 0,_ => rfl
 | n + 1,h => by unfold suS; rw [suS_congr (n:=n) fun i hi => h i (by omega),h n (by omega)]
theorem anyB_congr {X Y:Nat → Bool}:∀ {n:Nat},(∀ i,i < n → X i = Y i) → anyB X n = anyB Y n
 | 0,_ => rfl
 | n + 1,h => by unfold anyB; rw [anyB_congr (n:=n) fun i hi => h i (by omega),h n (by omega)]
def upB (i:Nat) (Z:Nat → Bool) (j:Nat):Bool:=if j < i then Z j else false
theorem upB_zero {Z:Nat → Bool} {j:Nat}:upB 0 Z j = false:=by unfold upB; rw [if_neg (by omega)]
theorem upB_self {i:Nat} {Z:Nat → Bool}:upB (i + 1) Z i = Z i:=by unfold upB; rw [if_pos (by omega)]
theorem upB_lt {i j:Nat} {Z:Nat → Bool} (h:j < i):upB i Z j = Z j:=by unfold upB; rw [if_pos h]
theorem upB_ne {i j:Nat} {Z:Nat → Bool} (h:j ≠ i):upB (i + 1) Z j = upB i Z j:=by
 unfold upB
 by_cases e:j < i
 ·rw [if_pos e,if_pos (by omega)]
 ·rw [if_neg e,if_neg (by omega)]
def su1 (n:Nat) (X:Nat → Int) (E:Nat → Bool):Nb:=(ftV (suS (fun i => whV (X i)) n),ftF (suS (fun i => whV (X i)) n) || anyB (fun i => whF (X i) (E i)) n)
theorem wvS_up {n:Nat} {X:Nat → Int} {E:Nat → Bool} {g:Nat → List AV} (h:∀ j,j < n → g j = [i64 (X j),bo (E j)]):suS (wvS g) n = suS (fun i => whV (X i)) n ∧ wfS n g = anyB (fun i => whF (X i) (E i)) n:=
 ⟨suS_congr fun i hi => by simp only [wvS,gx,h i hi,gi_0],anyB_congr fun i hi => by simp only [gx,gb,h i hi,gi_0,gib_1]⟩
theorem nums_up {n:Nat} {X:Nat → Int} {E:Nat → Bool} {g:Nat → List AV} (h:∀ j,j < n → g j = [i64 (X j),bo (E j)]) (hX:∀ j,j < n → inR (X j)):nums n g:=fun i hi => by
 simp only [gx,gb,h i hi,gi_0,gib_1]; exact ⟨trivial,hX i hi⟩
def c22:Con
 | [.ro n 4 g] => some ([vecs n g,n ≤ 1000],ve (su1 n (gx g 0) (gb g 1)) (su1 n (gx g 2) (gb g 3)))
 | _ => none
theorem vc22 (n:Nat) (X Y:Nat → Int) (E F:Nat → Bool) (hX:∀ i,i < n → inR (X i) ∧ inR (Y i)) (hn:n ≤ 1000):fnVC Try.prog [(35,c35)] [(5,⟨[(9,.slot 3),(11,.slot 4)],[(7,[.slot 3])]⟩)] Try.f22 [.ro n 4 fun i => [i64 (X i),bo (E i),i64 (Y i),bo (F i)]] (· = ve (su1 n X E) (su1 n Y F)):=by
 refine fnVC_go (rs:=[.cell 2 29]) rfl rfl ?_
 simp only [go_sem]
 have hb:((bytesT Try.prog 27:Nat):Int) * (n:Int) ≤ 281474976710656:=by rw [show bytesT Try.prog 27 = 16 by kernel_rfl]; omega
 refine ⟨by omega,by omega,hb,by omega,by omega,hb,?_⟩
 refine loopC_go (fun (i:Nat) => i ≤ n) (fun i => n - i) (fun i => [(15,i64 i)]) (fun i => [(6,famN n 2 27 (fun j => [i64 (uptN i Y j),bo (upB i F j)]) none),(3,famN n 2 27 (fun j => [i64 (uptN i X j),bo (upB i E j)]) none)]) [0] [16,17,18,19,6,5,20,21,22,23,24,25,26,27,28,29,30,15] 0 (by kernel_rfl) ?_ (Nat.zero_le _) ?_ ?_
 ·intro x _; simp [goodNames,asg]
 ·simp only [go_sem,uptN_zero,upB_zero,implies_true]
 ·intro i hi
  simp only [go_sem,c35]
  have hw:IntKind.i64.wrap ((i:Int) + 1) = ((i + 1:Nat):Int):=by rw [wrap_in (by unfold inR; omega)]; rfl
  refine ⟨fun hin => ⟨by omega,hin,by omega,hin,by omega,by omega,hin,by omega,fun z hz => ⟨i + 1,by omega,by omega,by rw [hz,hw],fun j hj => ?_,fun j hj => ?_⟩⟩,fun hin => ?_⟩
  ·by_cases e:j = i
   ·subst e
    rw [if_pos rfl]
    simp only [go_sem,uptN_self,upB_self]
   ·rw [if_neg e]
    have h1:∀ Z,uptN (i + 1) Z j = uptN i Z j:=fun Z => uptN_ne e
    have h2:∀ Z,upB (i + 1) Z j = upB i Z j:=fun Z => upB_ne e
    simp only [go_sem,h1,h2]
  ·by_cases e:j = i
   ·subst e
    rw [if_pos rfl]
    simp only [go_sem,uptN_self,upB_self]
   ·rw [if_neg e]
    have h1:∀ Z,uptN (i + 1) Z j = uptN i Z j:=fun Z => uptN_ne e
    have h2:∀ Z,upB (i + 1) Z j = upB i Z j:=fun Z => upB_ne e
    simp only [go_sem,h1,h2]
  ·have e:i = n:=by omega
   subst e
   have hx:∀ j,j < i → (fun j => [i64 (uptN i X j),bo (upB i E j)]) j = [i64 (X j),bo (E j)]:=fun j hj => by dsimp only; rw [uptN_lt hj,upB_lt hj]
   have hy:∀ j,j < i → (fun j => [i64 (uptN i Y j),bo (upB i F j)]) j = [i64 (Y j),bo (F j)]:=fun j hj => by dsimp only; rw [uptN_lt hj,upB_lt hj]
   obtain ⟨e1,e2⟩:=wvS_up hx
   obtain ⟨e3,e4⟩:=wvS_up hy
   simp only [forall_eq,e1,e2,e3,e4]
   exact ⟨nums_up hx fun j hj => (hX j hj).1,hn,nums_up hy fun j hj => (hX j hj).2,hn,rfl⟩
theorem con22:ConOK Try.prog 22 c22:=ConOK.go (G:=[(35,c35)]) (H:=[(5,⟨[(9,.slot 3),(11,.slot 4)],[(7,[.slot 3])]⟩)]) (.cons con35 .nil) Try.func22 fun l ob r hc hob => by
 unfold c22 at hc
 split at hc
 ·rename_i n g
  cases hc
  have hs:vecs n g:=hob _ (by simp)
  exact ⟨[.ro n 4 fun i => [i64 (gx g 0 i),bo (gb g 1 i),i64 (gx g 2 i),bo (gb g 3 i)]],fun w I vs h => Rs_one (fun v => ro_alike fun i hi => (hs i hi).1) h,by kernel_rfl,vc22 n _ _ _ _ (fun i hi => (hs i hi).2) (hob _ (by simp))⟩
 ·cases hc
theorem vecs2 {a b c d:Int} {e f p q:Bool} {g:Nat → List AV} (h0:g 0 = [i64 a,bo e,i64 b,bo f]) (h1:g 1 = [i64 c,bo p,i64 d,bo q]) (ha:inR a) (hb:inR b) (hc:inR c) (hd:inR d):vecs 2 g:=by
 intro i hi
 have:i = 0 ∨ i = 1:=by omega
 rcases this with rfl | rfl
 ·simp only [gx,gb,h0,gi_0,gib_1,gi_2,gib_3]; exact ⟨trivial,ha,hb⟩
 ·simp only [gx,gb,h1,gi_0,gib_1,gi_2,gib_3]; exact ⟨trivial,hc,hd⟩
theorem su2x {a b c d:Int} {e f p q:Bool} {g:Nat → List AV} (h0:g 0 = [i64 a,bo e,i64 b,bo f]) (h1:g 1 = [i64 c,bo p,i64 d,bo q]):su1 2 (gx g 0) (gb g 1) = nAdd (a,e) (c,p):=by
 unfold su1 nAdd
 simp only [suS,anyB,gx,gb,h0,h1,gi_0,gib_1,Bool.false_or,Int.zero_add]
theorem su2y {a b c d:Int} {e f p q:Bool} {g:Nat → List AV} (h0:g 0 = [i64 a,bo e,i64 b,bo f]) (h1:g 1 = [i64 c,bo p,i64 d,bo q]):su1 2 (gx g 2) (gb g 3) = nAdd (b,f) (d,q):=by
 unfold su1 nAdd
 simp only [suS,anyB,gx,gb,h0,h1,gi_2,gib_3,Bool.false_or,Int.zero_add]
end Go.Ax
end
section
set_option maxHeartbeats 2000000
set_option maxRecDepth 100000
namespace Go.Ax
open Go.Proofs
def joinT (a b c d e f g h:Int) (k:Nat):Int:=if checkBoxS a b c d = 0 ∧ checkBoxS e f g h = 0 then (match k with
 | 0 => min a e
 | 1 => min b f
 | 2 => max c g
 | _ => max d h) else 0
theorem rows_0 {a b c d:AV} {l:List AV}:rowsOf 4 (a :: b :: c :: d :: l) 0 = [a,b,c,d]:=(rfl)
theorem rows_1 {a b c d e f g h:AV} {l:List AV}:rowsOf 4 (a :: b :: c :: d :: e :: f :: g :: h :: l) 1 = [e,f,g,h]:=(rfl)
theorem boxes_2 {a b c d e f g h:Int}:boxes 2 (rowsOf 4 [i64 a,i64 b,i64 c,i64 d,i64 e,i64 f,i64 g,i64 h]) = ((inR a ∧ inR b ∧ inR c ∧ inR d) ∧ inR e ∧ inR f ∧ inR g ∧ inR h):=propext ⟨fun H => by
  have h0:=(H 0 (by omega)).2
  have h1:=(H 1 (by omega)).2
  simp only [gx,rows_0,rows_1,gi_0,gi_1,gi_2,gi_3] at h0 h1
  exact ⟨h0,h1⟩,fun ⟨h0,h1⟩ i hi => by
  have:i = 0 ∨ i = 1:=by omega
  rcases this with rfl | rfl
  ·simp only [gx,rows_0,gi_0,gi_1,gi_2,gi_3]; exact ⟨trivial,h0⟩
  ·simp only [gx,rows_1,gi_0,gi_1,gi_2,gi_3]; exact ⟨trivial,h1⟩⟩
theorem okB_2 {A B C D:Nat → Int}:okB 2 A B C D ↔ checkBoxS (A 0) (B 0) (C 0) (D 0) = 0 ∧ checkBoxS (A 1) (B 1) (C 1) (D 1) = 0:=
 ⟨fun h => ⟨h 0 (by omega),h 1 (by omega)⟩,fun ⟨h0,h1⟩ i hi => by
  have:i = 0 ∨ i = 1:=by omega
  rcases this with rfl | rfl <;> assumption⟩
theorem join_2 {a b c d e f g h:Int} {k:Nat} (hk:k < 4):joinS 2 (gx (rowsOf 4 [i64 a,i64 b,i64 c,i64 d,i64 e,i64 f,i64 g,i64 h]) 0) (gx (rowsOf 4 [i64 a,i64 b,i64 c,i64 d,i64 e,i64 f,i64 g,i64 h]) 1) (gx (rowsOf 4 [i64 a,i64 b,i64 c,i64 d,i64 e,i64 f,i64 g,i64 h]) 2) (gx (rowsOf 4 [i64 a,i64 b,i64 c,i64 d,i64 e,i64 f,i64 g,i64 h]) 3) k = joinT a b c d e f g h k:=by
 unfold joinS joinT
 simp only [okB_2,mnS,mxS,gx,rows_0,rows_1,gi_0,gi_1,gi_2,gi_3]
 have:k = 0 ∨ k = 1 ∨ k = 2 ∨ k = 3:=by omega
 rcases this with rfl | rfl | rfl | rfl <;> simp
attribute [go_sem] boxes_2 join_2 Nat.lt_irrefl
end Go.Ax
end
section
set_option maxHeartbeats 1000000
set_option maxRecDepth 100000
namespace Go.Ax
open Go.Proofs
def c31:Con
 | [.ro n 2 g] => some ([spots n g,n ≤ 1000],.ro n 2 fun i => [i64 (gx g 0 i),i64 (gx g 1 i)])
 | _ => none
theorem vc31 (n:Nat) (X Y:Nat → Int) (hn:n ≤ 1000):fnVC Try.prog [] [] Try.f31 [.ro n 2 fun i => [i64 (X i),i64 (Y i)]] (· = .ro n 2 fun i => [i64 (X i),i64 (Y i)]):=by
 refine fnVC_go (rs:=[.tmp 2]) rfl rfl ?_
 simp only [go_sem]
 refine loopN_go (fun (i:Nat) => i ≤ n) (fun i => n - i) (fun i => [(4,i64 i),(3,.own 3 0 i 2)]) (fun i => [(3,famN i 2 46 (fun k => [i64 (X k),i64 (Y k)]) none)]) [] [5,6,7,8,11,12,13,14,15,16,17,3,9,10,4] 1 0 (by kernel_rfl) (Nat.zero_le _) ⟨[(3,none)],?_,?_,?_,?_⟩ ?_
 ·simp only [go_sem]
 ·simp only [go_sem]
 ·simp only [go_sem]
 ·exact goodNames_one (k:=0) (by decide) (fun z h => by cases h)
 intro i hi
 simp only [go_sem]
 refine ⟨fun hlt => ⟨by omega,hlt,?_,by omega,fun z hz => ⟨i + 1,by omega,by omega,[(3,some 14)],⟨?_,by rw [fit1_named (r:=0)]; exact ⟨by omega,rfl⟩⟩,?_,goodNames_one (k:=0) (by decide) (fun z h => by cases h; decide)⟩⟩,fun hge => ?_⟩
 ·rw [show bytesT Try.prog 46 = 16 by kernel_rfl]; omega
 ·rw [wrap_i64] at hz; omega
 ·rw [fitRows_some]
  simp only [go_sem]
  intro k hk
  by_cases e:k < i
  ·rw [if_pos e]; simp only [go_sem]
  ·have e:k = i:=by omega
   subst e
   rw [if_neg (by omega),Nat.sub_self]
   simp only [Nat.zero_mul,go_sem]
 ·have e:i = n:=by omega
  subst e; rfl
theorem con31:ConOK Try.prog 31 c31:=ConOK.go (G:=[]) (H:=[]) .nil Try.func31 fun l ob r hc hob => by
 unfold c31 at hc
 split at hc
 ·rename_i n g
  cases hc
  have hs:spots n g:=hob _ (by simp)
  refine ⟨[.ro n 2 fun i => [i64 (gx g 0 i),i64 (gx g 1 i)]],fun w I vs h => Rs_one (fun v => ro_alike fun i hi => (hs i hi).1) h,by kernel_rfl,vc31 n _ _ (hob _ (by simp))⟩
 ·cases hc
abbrev formA (k x y r:Int) (n:Nat) (g:Nat → List AV):AV:=.agg [i64 k,i64 x,i64 y,i64 r,.ro n 2 g]
theorem Rs_form {w:World} {ρ:Env} {k x y r:Int} {n:Nat} {g:Nat → List AV} (hs:spots n g) (v:Value) (h:R w ρ (formA k x y r n g) v):R w ρ (formA k x y r n fun i => [i64 (gx g 0 i),i64 (gx g 1 i)]) v:=by
 cases h with
 | agg hl hh =>
  refine .agg hl fun i a z h1 h2 => ?_
  match i with
  | 0 => exact hh 0 a z h1 h2
  | 1 => exact hh 1 a z h1 h2
  | 2 => exact hh 2 a z h1 h2
  | 3 => exact hh 3 a z h1 h2
  | 4 =>
   simp at h1; subst h1
   exact ro_alike (fun i hi => (hs i hi).1) (hh 4 _ z rfl h2)
  | j + 5 => simp at h1
theorem Rs_two {w:World} {ρ:Env} {a a' b b':AV} {vs:List Value} (h:∀ v,R w ρ a v → R w ρ a' v) (k:∀ v,R w ρ b v → R w ρ b' v) (hR:Rs w ρ [a,b] vs):Rs w ρ [a',b'] vs:=by
 obtain ⟨x,xs,rfl,h1,h2⟩:=hR.inv
 exact .cons (h x h1) (Rs_one k h2)
theorem wrap_inR (x:Int):inR (IntKind.i64.wrap x):=by rw [wrap_i64]; unfold inR; omega
instance {n:Nat} {X Y:Nat → Int}:Decidable (∀ i,i < n → validS (X i) (Y i) = true):=inferInstance
end Go.Ax
end
section
set_option maxHeartbeats 2000000
set_option maxRecDepth 100000
namespace Go.Ax
open Go.Proofs
end Go.Ax
end
section
set_option maxHeartbeats 4000000
set_option maxRecDepth 100000
namespace Go.Ax
open Go.Proofs
section
variable {N M q:Nat} {σ:Names} {m rows:Mem} {x:Fam} {a b:AV} {n sz f k r:Nat} {ty:TypeId} {get:Nat → List AV}
def emptyF (x:Fam):Prop:=∀ f,(x f).n = 0 ∧ (x f).g = none
def fitQ (N M:Nat) (σ:Names) (m:Mem) (x:Fam):Option Nat → Prop
 | some k => fitF N M σ x (look m k)
 | none => emptyF x
theorem fitRows_z:fitRows N M σ m [] = True:=(rfl)
theorem fitRows_c:fitRows N M σ m ((q,x) :: rows) = (fitQ N M σ m x (asg σ q) ∧ fitRows N M σ m rows):=by
 show ((match asg σ q with
  | some k => ∃ y,look m k = some y ∧ ∀ f,fitRow N M σ (x f) (y f)
  | none => ∀ f,(x f).n = 0 ∧ (x f).g = none) ∧ _) = _
 unfold fitQ fitF emptyF
 cases asg σ q with
 | none => rfl
 | some k => cases h:look m k <;> simp [h]
theorem fitQ_some:fitQ N M σ m x (some k) = fitF N M σ x (look m k):=(rfl)
theorem fitQ_none:fitQ N M σ m x none = emptyF x:=(rfl)
theorem emptyF_N:emptyF (famN n sz ty get none) = (n = 0):=by
 unfold emptyF
 apply propext
 constructor
 ·intro h; have:=(h 0).1; simpa [famN] using this
 ·intro h f
  subst h
  unfold famN
  split <;> exact ⟨rfl,rfl⟩
def ownA (f n sz:Nat) (a:AV):Option Nat → Prop
 | some k => a = .own k f n sz
 | none => n = 0 ∧ a = .v (.slice none 0 0)
theorem fit1_ownA:fit1 N M σ (.own q f n sz) a = (q < M ∧ ownA f n sz a (asg σ q)):=by
 simp only [fit1,ownA]
 cases asg σ q <;> rfl
theorem ownA_some:ownA f n sz (.own r f k sz) (some r) = (k = n):=by simp [ownA]
theorem ownA_none:ownA f n sz (.v (.slice none 0 0)) none = (n = 0):=by simp [ownA]
theorem asg_z:asg [] r = some r:=(rfl)
theorem asg_c {y:Option Nat}:asg ((k,y) :: σ) r = if k = r then y else asg σ r:=(rfl)
end
attribute [go_sem] fitRows_z fitRows_c fitQ_some fitQ_none emptyF_N fit1_ownA ownA_some ownA_none asg_z asg_c
def c25:Con
 | [.ro n 4 g] => some ([vecs n g,n ≤ 1000],ve (su1 n (gx g 0) (gb g 1)) (su1 n (gx g 2) (gb g 3)))
 | _ => none
theorem vc25 (n:Nat) (X Y:Nat → Int) (E F:Nat → Bool) (hX:∀ i,i < n → inR (X i) ∧ inR (Y i)) (hn:n ≤ 1000):fnVC Try.prog [(40,c40)] [(5,⟨[(7,.slot 3)],[(13,[.slot 3]),(14,[.slot 3])]⟩)] Try.f25 [.ro n 4 fun i => [i64 (X i),bo (E i),i64 (Y i),bo (F i)]] (· = ve (su1 n X E) (su1 n Y F)):=by
 refine fnVC_go (rs:=[.cell 2 29]) rfl rfl ?_
 simp only [go_sem]
 refine loopN_go (fun (i:Nat) => i ≤ n) (fun i => n - i) (fun i => [(5,i64 i),(3,.own 4 0 i 2),(4,.own 5 0 i 2)]) (fun i => [(4,famN i 2 27 (fun k => [i64 (X k),bo (E k)]) none),(5,famN i 2 27 (fun k => [i64 (Y k),bo (F k)]) none)]) [0] [6,7,8,9,12,13,14,15,16,17,18,19,20,21,22,23,24,25,26,27,3,4,10,11,5] 2 0 (by kernel_rfl) (Nat.zero_le _) ⟨[(4,none),(5,none)],?_,?_,?_,?_⟩ ?_
 ·simp only [go_sem]
 ·simp only [go_sem]
 ·simp only [go_sem]
 ·simp [goodNames,asg]
 intro i hi
 simp only [go_sem,c40]
 have hb:bytesT Try.prog 27 = 16:=by kernel_rfl
 rw [hb]
 refine ⟨fun h => ⟨by omega,h,by omega,by omega,by omega,h,by omega,by omega,fun z hz => ⟨i + 1,by omega,by omega,[(4,some 17),(5,some 25)],?_⟩⟩,fun h => ?_⟩
 ·simp only [go_sem]
  refine ⟨by rw [hz,wrap_in (by unfold inR; omega)]; rfl,⟨fun k hk => ?_,fun k hk => ?_⟩,by simp [goodNames,asg]⟩
  ·by_cases e:k < i
   ·rw [if_pos e]; simp only [go_sem]
   ·have e:k = i:=by omega
    subst e
    rw [if_neg (by omega),Nat.sub_self]
    simp only [Nat.zero_mul,go_sem]
  ·by_cases e:k < i
   ·rw [if_pos e]; simp only [go_sem]
   ·have e:k = i:=by omega
    subst e
    rw [if_neg (by omega),Nat.sub_self]
    simp only [Nat.zero_mul,go_sem]
 ·have e:i = n:=by omega
  subst e
  have hx:∀ j,j < i → (fun j => [i64 (X j),bo (E j)]) j = [i64 (X j),bo (E j)]:=fun j hj => rfl
  have hy:∀ j,j < i → (fun j => [i64 (Y j),bo (F j)]) j = [i64 (Y j),bo (F j)]:=fun j hj => rfl
  obtain ⟨e1,e2⟩:=wvS_up hx
  obtain ⟨e3,e4⟩:=wvS_up hy
  simp only [forall_eq,e1,e2,e3,e4]
  exact ⟨nums_up hx fun j hj => (hX j hj).1,hn,nums_up hy fun j hj => (hX j hj).2,hn,rfl⟩
theorem con25:ConOK Try.prog 25 c25:=ConOK.go (G:=[(40,c40)]) (H:=[(5,⟨[(7,.slot 3)],[(13,[.slot 3]),(14,[.slot 3])]⟩)]) (.cons con40 .nil) Try.func25 fun l ob r hc hob => by
 unfold c25 at hc
 split at hc
 ·rename_i n g
  cases hc
  have hs:vecs n g:=hob _ (by simp)
  exact ⟨[.ro n 4 fun i => [i64 (gx g 0 i),bo (gb g 1 i),i64 (gx g 2 i),bo (gb g 3 i)]],fun w I vs h => Rs_one (fun v => ro_alike fun i hi => (hs i hi).1) h,by kernel_rfl,vc25 n _ _ _ _ (fun i hi => (hs i hi).2) (hob _ (by simp))⟩
 ·cases hc
def nSq (a:Nb):Nb:=(sqV (whV a.1),sqF (whV a.1) (whF a.1 a.2))
def nCl (x l h:Nb):Nb:=(max (whV l.1) (min (whV x.1) (whV h.1)),whF l.1 l.2 || (whF x.1 x.2 || whF h.1 h.2))
theorem sqV_rg {v:Int}:rg (sqV v):=by
 unfold sqV; split
 ·unfold rg; omega
 ·exact ftV_rg _
theorem nPos_rg {a:Nb} (h:inR a.1):rg (nPos a).1:=by
 have:=whV_rg h
 unfold nPos rg at *; dsimp only; split <;> omega
abbrev V2:=Nb × Nb
def nbA (a:Nb):AV:=.agg [i64 a.1,bo a.2]
def veA (a:V2):AV:=.agg [i64 a.1.1,bo a.1.2,i64 a.2.1,bo a.2.2]
def unA (u:Bool × V2):AV:=.tup [.agg [i64 u.2.1.1,bo u.2.1.2,i64 u.2.2.1,bo u.2.2.2],bo u.1]
theorem bnd_nb {a:Nb}:bnd (nbA a) = .agg [i64 a.1,bo a.2]:=(rfl)
theorem bnd_ve {a:V2}:bnd (veA a) = .agg [i64 a.1.1,bo a.1.2,i64 a.2.1,bo a.2.2]:=(rfl)
theorem bnd_un {u:Bool × V2}:bnd (unA u) = .tup [.agg [i64 u.2.1.1,bo u.2.1.2,i64 u.2.2.1,bo u.2.2.2],bo u.1]:=(rfl)
theorem plain_nb {a:Nb}:plain 3 (nbA a) = true:=(rfl)
theorem plain_ve {a:V2}:plain 3 (veA a) = true:=(rfl)
theorem plain_un {u:Bool × V2}:plain 3 (unA u) = true:=(rfl)
theorem etaN {a:Nb}:(a.1,a.2) = a:=(rfl)
theorem etaV {a:V2}:(a.1,a.2) = a:=(rfl)
theorem gx_rows1 {a b:Int} {e f:Bool}:gx (rowsOf 2 [i64 a,bo e,i64 b,bo f]) 0 0 = a:=(rfl)
theorem gx_rows2 {a b:Int} {e f:Bool}:gx (rowsOf 2 [i64 a,bo e,i64 b,bo f]) 0 1 = b:=(rfl)
theorem gb_rows1 {a b:Int} {e f:Bool}:gb (rowsOf 2 [i64 a,bo e,i64 b,bo f]) 1 0 = e:=(rfl)
theorem gb_rows2 {a b:Int} {e f:Bool}:gb (rowsOf 2 [i64 a,bo e,i64 b,bo f]) 1 1 = f:=(rfl)
section
variable {a b c d:Int} {e f p q:Bool}
theorem gx4_1:gx (rowsOf 4 [i64 a,bo e,i64 b,bo f,i64 c,bo p,i64 d,bo q]) 0 0 = a:=(rfl)
theorem gx4_2:gx (rowsOf 4 [i64 a,bo e,i64 b,bo f,i64 c,bo p,i64 d,bo q]) 2 0 = b:=(rfl)
theorem gx4_3:gx (rowsOf 4 [i64 a,bo e,i64 b,bo f,i64 c,bo p,i64 d,bo q]) 0 1 = c:=(rfl)
theorem gx4_4:gx (rowsOf 4 [i64 a,bo e,i64 b,bo f,i64 c,bo p,i64 d,bo q]) 2 1 = d:=(rfl)
theorem gb4_1:gb (rowsOf 4 [i64 a,bo e,i64 b,bo f,i64 c,bo p,i64 d,bo q]) 1 0 = e:=(rfl)
theorem gb4_2:gb (rowsOf 4 [i64 a,bo e,i64 b,bo f,i64 c,bo p,i64 d,bo q]) 3 0 = f:=(rfl)
theorem gb4_3:gb (rowsOf 4 [i64 a,bo e,i64 b,bo f,i64 c,bo p,i64 d,bo q]) 1 1 = p:=(rfl)
theorem gb4_4:gb (rowsOf 4 [i64 a,bo e,i64 b,bo f,i64 c,bo p,i64 d,bo q]) 3 1 = q:=(rfl)
theorem vecs_rows:vecs 2 (rowsOf 4 [i64 a,bo e,i64 b,bo f,i64 c,bo p,i64 d,bo q]) = (inR a ∧ inR b ∧ inR c ∧ inR d):=by
 apply propext
 constructor
 ·intro h; exact ⟨(h 0 (by omega)).2.1,(h 0 (by omega)).2.2,(h 1 (by omega)).2.1,(h 1 (by omega)).2.2⟩
 ·rintro ⟨h1,h2,h3,h4⟩; exact vecs2 rfl rfl h1 h2 h3 h4
theorem nums_rows:nums 2 (rowsOf 2 [i64 a,bo e,i64 b,bo f]) = (inR a ∧ inR b):=by
 apply propext
 constructor
 ·intro h; exact ⟨(h 0 (by omega)).2,(h 1 (by omega)).2⟩
 ·rintro ⟨h1,h2⟩; exact nums2 rfl rfl h1 h2
theorem vecs_row1:vecs 1 (rowsOf 4 [i64 a,bo e,i64 b,bo f]) = (inR a ∧ inR b):=by
 apply propext
 constructor
 ·intro h; exact ⟨(h 0 (by omega)).2.1,(h 0 (by omega)).2.2⟩
 ·rintro ⟨h1,h2⟩; exact vecs1 rfl h1 h2
theorem nums_row1:nums 1 (rowsOf 2 [i64 a,bo e]) = inR a:=by
 apply propext
 constructor
 ·intro h; exact (h 0 (by omega)).2
 ·intro h; exact nums1 rfl h
end
def nAbs (a:Nb):Nb:=(ab (whV a.1),whF a.1 a.2)
def nMx (a b:Nb):Nb:=(if whV a.1 < whV b.1 then whV b.1 else whV a.1,whF a.1 a.2 || whF b.1 b.2)
def nMn (a b:Nb):Nb:=(if whV b.1 < whV a.1 then whV b.1 else whV a.1,whF a.1 a.2 || whF b.1 b.2)
def vLoc (x y:Int):V2:=(nRat x 256,nRat y 256)
def vAdd (a b:V2):V2:=(nAdd a.1 b.1,nAdd a.2 b.2)
def vSub (a b:V2):V2:=(nSub a.1 b.1,nSub a.2 b.2)
def vScale (v:V2) (k:Nb):V2:=(nMul v.1 k,nMul v.2 k)
def vDot (a b:V2):Nb:=nDot a.1 b.1 a.2 b.2
def vCross (a b:V2):Nb:=nDot a.1 b.2 (nNeg a.2) b.1
def vLen (a:V2):Nb:=nHyp a.1 a.2
def vOf (x y:Int):V2:=(nInt x,nInt y)
def vUnit (v:V2):Bool × V2:=unS v.1.1 v.1.2 v.2.1 v.2.2
def vApply (r v:V2):V2:=(nDot r.1 v.1 (nNeg r.2) v.2,nDot r.2 v.1 r.1 v.2)
def vNorm (a b c d:Int):V2:=(vUnit (vOf (d - b) (-(c - a)))).2
theorem inR_of {x:Int} (h:rg x):inR x = True:=eq_true (rg_inR h)
section
variable {a b c d:Nb} {u v:V2} {x y:Int}
theorem iMul:inR (nMul a b).1 = True:=inR_of nMul_rg
theorem iDiv:inR (nDiv a b).1 = True:=inR_of nDiv_rg
theorem iInt:inR (nInt x).1 = True:=inR_of nInt_rg
theorem iAdd:inR (nAdd a b).1 = True:=inR_of nAdd_rg
theorem iSub:inR (nSub a b).1 = True:=inR_of nSub_rg
theorem iRat:inR (nRat x y).1 = True:=inR_of nRat_rg
theorem iDot:inR (nDot a b c d).1 = True:=inR_of nDot_rg
theorem iHyp:inR (nHyp a b).1 = True:=inR_of nHyp_rg
theorem iSq:inR (nSq a).1 = True:=inR_of sqV_rg
theorem iNeg (h:inR a.1):inR (nNeg a).1 = True:=inR_of (nNeg_rg h)
theorem iPos (h:inR a.1):inR (nPos a).1 = True:=inR_of (nPos_rg h)
theorem iAbs (h:inR a.1):inR (nAbs a).1 = True:=by
 refine inR_of ?_
 have:=whV_rg h
 unfold nAbs ab rg at *; dsimp only; split <;> omega
theorem iMx (h:inR a.1) (k:inR b.1):inR (nMx a b).1 = True:=by
 refine inR_of ?_
 have h1:=whV_rg h
 have h2:=whV_rg k
 unfold nMx rg at *; dsimp only; split <;> omega
theorem iMn (h:inR a.1) (k:inR b.1):inR (nMn a b).1 = True:=by
 refine inR_of ?_
 have h1:=whV_rg h
 have h2:=whV_rg k
 unfold nMn rg at *; dsimp only; split <;> omega
theorem iCl (h:inR a.1) (k:inR b.1) (l:inR c.1):inR (nCl a b c).1 = True:=by
 refine inR_of ?_
 have h1:=whV_rg h
 have h2:=whV_rg k
 have h3:=whV_rg l
 unfold nCl rg at *; dsimp only; omega
theorem iLoc1:inR (vLoc x y).1.1 = True:=iRat
theorem iLoc2:inR (vLoc x y).2.1 = True:=iRat
theorem iVAdd1:inR (vAdd u v).1.1 = True:=iAdd
theorem iVAdd2:inR (vAdd u v).2.1 = True:=iAdd
theorem iVSub1:inR (vSub u v).1.1 = True:=iSub
theorem iVSub2:inR (vSub u v).2.1 = True:=iSub
theorem iScale1:inR (vScale u a).1.1 = True:=iMul
theorem iScale2:inR (vScale u a).2.1 = True:=iMul
theorem iVDot:inR (vDot u v).1 = True:=iDot
theorem iVCross:inR (vCross u v).1 = True:=iDot
theorem iLen:inR (vLen u).1 = True:=iHyp
theorem iOf1:inR (vOf x y).1.1 = True:=iInt
theorem iOf2:inR (vOf x y).2.1 = True:=iInt
theorem iUnit1:inR (vUnit u).2.1.1 = True:=inR_of unS_rg.1
theorem iUnit2:inR (vUnit u).2.2.1 = True:=inR_of unS_rg.2
theorem iApply1:inR (vApply u v).1.1 = True:=iDot
theorem iApply2:inR (vApply u v).2.1 = True:=iDot
theorem iNorm1 {z t:Int}:inR (vNorm x y z t).1.1 = True:=iUnit1
theorem iNorm2 {z t:Int}:inR (vNorm x y z t).2.1 = True:=iUnit2
theorem inR_0:inR 0 = True:=eq_true (by unfold inR; omega)
theorem inR_1:inR 1 = True:=eq_true (by unfold inR; omega)
theorem inR_2:inR 2 = True:=eq_true (by unfold inR; omega)
theorem inR_m1:inR (-1) = True:=eq_true (by unfold inR; omega)
theorem inR_256:inR 256 = True:=eq_true (by unfold inR; omega)
theorem inR_one:inR 4294967296 = True:=eq_true (by unfold inR; omega)
end
attribute [go_sem] bnd_nb bnd_ve bnd_un plain_nb plain_ve plain_un etaN etaV gx_rows1 gx_rows2 gb_rows1 gb_rows2 gx4_1 gx4_2 gx4_3 gx4_4 gb4_1 gb4_2 gb4_3 gb4_4 vecs_rows nums_rows vecs_row1 nums_row1
attribute [go_sem] iMul iDiv iInt iAdd iSub iRat iDot iHyp iSq iNeg iPos iAbs iMx iMn iCl iLoc1 iLoc2 iVAdd1 iVAdd2 iVSub1 iVSub2 iScale1 iScale2 iVDot iVCross iLen iOf1 iOf2 iUnit1 iUnit2 iApply1 iApply2 iNorm1 iNorm2 inR_0 inR_1 inR_2 inR_m1 inR_256 inR_one
def k127:Con
 | [.v (.int .i64 n)] => some ([inR n],nbA (nInt n))
 | _ => none
theorem kon127:ConOK Try.prog 72 k127:=(show c72 = k127 by kernel_rfl) ▸ con72
def k129:Con
 | [.agg [.v (.int .i64 v),.v (.bool f)],.agg [.v (.int .i64 u),.v (.bool e)]] => some ([inR v,inR u],nbA (nMul (v,f) (u,e)))
 | _ => none
theorem kon129:ConOK Try.prog 42 k129:=(show c42 = k129 by kernel_rfl) ▸ con42
def k160:Con
 | [.agg [.v (.int .i64 v),.v (.bool f)],.agg [.v (.int .i64 u),.v (.bool e)]] => some ([inR v,inR u],nbA (nSub (v,f) (u,e)))
 | _ => none
theorem kon160:ConOK Try.prog 81 k160:=(show c81 = k160 by kernel_rfl) ▸ con81
def k168:Con
 | [.agg [.v (.int .i64 v),.v (.bool f)],.agg [.v (.int .i64 u),.v (.bool e)]] => some ([inR v,inR u],nbA (nDiv (v,f) (u,e)))
 | _ => none
theorem kon168:ConOK Try.prog 21 k168:=(show c21 = k168 by kernel_rfl) ▸ con21
def k144:Con
 | [.agg [.v (.int .i64 v),.v (.bool f)],.agg [.v (.int .i64 u),.v (.bool e)]] => some ([inR v,inR u],nbA (nDiv (v,f) (u,e)))
 | _ => none
theorem kon144:ConOK Try.prog 24 k144:=(show c24 = k144 by kernel_rfl) ▸ con24
def k171:Con
 | [.agg [.v (.int .i64 x),.v (.bool f)],.agg [.v (.int .i64 l),.v (.bool p)],.agg [.v (.int .i64 h),.v (.bool q)]] => some ([inR x,inR l,inR h],nbA (nCl (x,f) (l,p) (h,q)))
 | _ => none
theorem kon171:ConOK Try.prog 71 k171:=(show c71 = k171 by kernel_rfl) ▸ con71
def k169:Con
 | [.agg [.v (.int .i64 x),.v (.bool e),.v (.int .i64 y),.v (.bool f)],.agg [.v (.int .i64 k),.v (.bool g)]] => some ([inR x,inR y,inR k],veA (vScale ((x,e),(y,f)) (k,g)))
 | _ => none
theorem kon169:ConOK Try.prog 46 k169:=(show c46 = k169 by kernel_rfl) ▸ con46
def k250:Con
 | [.agg [.v (.int .i64 x),.v (.bool e),.v (.int .i64 y),.v (.bool f)],.agg [.v (.int .i64 z),.v (.bool g),.v (.int .i64 t),.v (.bool h)]] => some ([inR x,inR y,inR z,inR t],nbA (vCross ((x,e),(y,f)) ((z,g),(t,h))))
 | _ => none
theorem kon250:ConOK Try.prog 43 k250:=(show c43 = k250 by kernel_rfl) ▸ con43
theorem owe2 {p q:Prop} (h1:p) (h2:q):∀ x ∈ [p,q],x:=List.forall_mem_cons.2 ⟨h1,List.forall_mem_cons.2 ⟨h2,fun _ h => (List.not_mem_nil h).elim⟩⟩
def vTwo (g:Nat → List AV):AV:=veA (vAdd ((gx g 0 0,gb g 1 0),(gx g 2 0,gb g 3 0)) ((gx g 0 1,gb g 1 1),(gx g 2 1,gb g 3 1)))
theorem vecs_at {g:Nat → List AV} (h:vecs 2 g):g 0 = [i64 (gx g 0 0),bo (gb g 1 0),i64 (gx g 2 0),bo (gb g 3 0)] ∧ g 1 = [i64 (gx g 0 1),bo (gb g 1 1),i64 (gx g 2 1),bo (gb g 3 1)]:=⟨(h 0 (by omega)).1,(h 1 (by omega)).1⟩
theorem two_eq {g:Nat → List AV} (h:vecs 2 g):ve (su1 2 (gx g 0) (gb g 1)) (su1 2 (gx g 2) (gb g 3)) = vTwo g:=by
 obtain ⟨h0,h1⟩:=vecs_at h
 rw [su2x h0 h1,su2y h0 h1]; rfl
def k130:Con
 | [.ro 2 4 g] => some ([vecs 2 g],veA (vAdd ((gx g 0 0,gb g 1 0),(gx g 2 0,gb g 3 0)) ((gx g 0 1,gb g 1 1),(gx g 2 1,gb g 3 1))))
 | _ => none
theorem kon130:ConOK Try.prog 22 k130:=fun l ob r hc hob => by
 unfold k130 at hc
 split at hc
 ·rename_i g
  cases hc
  have h:vecs 2 g:=hob _ (by simp)
  have:=con22 [.ro 2 4 g] _ _ rfl (owe2 h (by omega))
  rw [two_eq h] at this
  exact this
 ·cases hc
theorem nPos_eq {a:Nb}:nMx (0,false) a = nPos a:=by
 have c1:whV 0 = 0:=by decide
 have c2:whF 0 false = false:=by decide
 unfold nMx nPos
 dsimp only
 rw [c1,c2,Bool.false_or]
attribute [go_sem] nPos_eq
def k172:Con
 | [.agg [.v (.int .i64 x),.v (.bool e),.v (.int .i64 y),.v (.bool f)],.agg [.v (.int .i64 z),.v (.bool g),.v (.int .i64 t),.v (.bool h)]] => some ([inR x,inR y,inR z,inR t],veA (vSub ((x,e),(y,f)) ((z,g),(t,h))))
 | _ => none
theorem kon172:ConOK Try.prog 69 k172:=ConOK.of (G:=[(81,k160)]) (H:=[(1,⟨[(11,.slot 4)],[]⟩)]) (.cons kon160 .nil) Try.func69 fun l ob r hc hob => by
 unfold k172 at hc
 split at hc
 ·rename_i x e y f z g t h
  cases hc
  have h_0:inR x:=hob _ (by simp)
  have h_1:inR y:=hob _ (by simp)
  have h_2:inR z:=hob _ (by simp)
  have h_3:inR t:=hob _ (by simp)
  refine ⟨by kernel_rfl,fnVC_go (rs:=[.cell 4 29]) rfl rfl ?_⟩
  simp only [go_sem,k160,h_0,h_1,h_2,h_3]
  rfl
 ·cases hc
end Go.Ax
end
section
set_option maxHeartbeats 4000000
set_option maxRecDepth 100000
namespace Go.Ax
open Go.Proofs
end Go.Ax
end
section
namespace Go.Ax
open Go.RowKit
section
variable {P:Program} {G:Ctx} {ops:Array Oper} {base:Nat} {hot:Hot} {w0:Base} {w:World} {ρ:Env} {m:Mem} {D:Nat → Prop} {t:Slots} {nt:Nat} {ds:Frm} {a:Act} {ro:Option Nat} {n:Nat} {Q:Exit → Act → World → Prop}
structure TodoK (ops:Array Oper) (k:Nat) (listed:Array Bool) (T:List (Nat × Oper)):Prop where
 size:listed.size = ops.size
 mem:∀ q,q ∈ T ↔ ops[q.1]? = some q.2 ∧ listed.getD q.1 true = false ∧ q.1 < k
 late:∀ i,k ≤ i → listed.getD i false = false
 sorted:T.Pairwise fun p q => p.1 < q.1
 closed:∀ i,listed.getD i false = true → ∀ b,((masks ops.toList []).getD i 0).testBit b = true → listed.getD b false = true
end
end Go.Ax
end
section
set_option maxHeartbeats 4000000
set_option maxRecDepth 100000
namespace Go.Ax
open Go.Proofs Go.RowKit
end Go.Ax
end
section
set_option maxHeartbeats 4000000
set_option maxRecDepth 100000
namespace Go.Ax
open Go.Proofs
def lo (x:Int):Prop:=-4096 ≤ x ∧ x ≤ 4096
instance {x:Int}:Decidable (lo x):=by unfold lo; infer_instance
abbrev shapeA (k r w t:Int) (n:Nat) (g:Nat → List AV):AV:=.agg [i64 k,i64 r,i64 w,i64 t,.ro n 2 g]
theorem Rs_shape {w:World} {ρ:Env} {k x y r:Int} {n:Nat} {g:Nat → List AV} (hs:spots n g) (v:Value) (h:R w ρ (shapeA k x y r n g) v):R w ρ (shapeA k x y r n fun i => [i64 (gx g 0 i),i64 (gx g 1 i)]) v:=Rs_form hs v h
end Go.Ax
end
section
set_option maxHeartbeats 4000000
set_option maxRecDepth 100000
namespace Go.Ax
open Go.Proofs
end Go.Ax
end
section
set_option maxHeartbeats 4000000
set_option maxRecDepth 100000
namespace Go.Ax
open Go.Proofs
end Go.Ax
end
section
set_option maxHeartbeats 4000000
set_option maxRecDepth 100000
namespace Go.Ax
open Go.Proofs
def alk (r r':AV):Prop:=∀ w ρ v,R w ρ r' v → R w ρ r v
theorem ConOK.goR {P:Program} {G:Ctx} {H:Hots} (hG:CtxOK P G) {f:FuncId} {fn:Func} (hf:P.funcs[f]? = some fn) {c:Con}
  (h:∀ es1 ob r,c es1 = some (ob,r) → (∀ p ∈ ob,p) → ∃ es,(∀ w I vs,Rs w (.ext I) es1 vs → Rs w (.ext I) es vs) ∧ funcOK P H fn es.length = true ∧ fnVC P G H fn es (alk r)):ConOK P f c:=by
 intro es0 ob r hc hob I w vs hI hRs
 obtain ⟨es,h0,h1,h2⟩:=h es0 ob r hc hob
 obtain ⟨k1,k2⟩:=fn_sound hG hf h1 h2 I w vs hI (h0 w I vs hRs)
 exact .inr ⟨k1,k2.mono fun e w' ⟨v,he,⟨r',hr,hR⟩,hb⟩ => ⟨v,he,hr _ _ _ hR,hb⟩⟩
theorem alk_nil {f:Nat → List AV}:alk (.ro 0 2 f) (.v (.slice none 0 0)):=fun w ρ v hR => by
 cases hR
 exact .ro 0 0 (Nat.le_refl _) (fun h => absurd h (by omega)) (fun h => absurd h (by omega)) (fun i h => absurd h (by omega)) (fun i k h => absurd h (by omega)) (fun i k c x h => absurd h (by omega))
end Go.Ax
end
section
namespace Go.Ax
def cleanC:AV → Bool
 | .v _ => true
 | .any => true
 | .ro _ _ _ => true
 | .rop _ => true
 | _ => false
theorem cleanC_ren {θ:Nat → Nat → Nat × Nat} {g:Nat → Nat → Prop} {B:Nat → Prop} {a:AV} (h:cleanC a = true) (d:Nat):renA θ d a = a ∧ kg g B d a:=by
 cases a <;> simp [cleanC] at h <;> (cases d <;> exact ⟨rfl,trivial⟩)
theorem cleanL_ren {θ:Nat → Nat → Nat × Nat} {g:Nat → Nat → Prop} {B:Nat → Prop}:∀ {l:List AV},(∀ c ∈ l,cleanC c = true) → l.map (renA θ 3) = l ∧ ∀ c ∈ l,kg g B 3 c
 | [],_ => ⟨rfl,by simp⟩
 | a :: l,h => by
  obtain ⟨h1,h2⟩:=cleanC_ren (θ:=θ) (g:=g) (B:=B) (h a (by simp)) 3
  obtain ⟨h3,h4⟩:=cleanL_ren (θ:=θ) (g:=g) (B:=B) (l:=l) (fun c hc => h c (by simp [hc]))
  refine ⟨by rw [List.map_cons,h1,h3],fun c hc => ?_⟩
  rcases List.mem_cons.1 hc with e | hc
  ·rw [e]; exact h2
  ·exact h4 c hc
theorem map_id_of {f:AV → AV}:∀ {l:List AV},(∀ a ∈ l,f a = a) → l.map f = l
 | [],_ => rfl
 | a :: l,h => by rw [List.map_cons,h a (by simp),map_id_of fun b hb => h b (by simp [hb])]
theorem clean_ren {θ:Nat → Nat → Nat × Nat} {g:Nat → Nat → Prop} {B:Nat → Prop}:∀ (d:Nat) (a:AV),clean d a = true → renA θ d a = a ∧ kg g B d a
 | d,.v _,_ => by cases d <;> exact ⟨rfl,trivial⟩
 | d,.any,_ => by cases d <;> exact ⟨rfl,trivial⟩
 | d,.ro _ _ _,_ => by cases d <;> exact ⟨rfl,trivial⟩
 | d,.rop _,_ => by cases d <;> exact ⟨rfl,trivial⟩
 | d + 1,.agg cs,h => by
  simp only [clean,List.all_eq_true] at h
  refine ⟨?_,fun c hc => (clean_ren (θ:=θ) d c (h c hc)).2⟩
  simp only [renA]
  rw [map_id_of fun a ha => (clean_ren (g:=g) (B:=B) d a (h a ha)).1]
 | d + 1,.tup cs,h => by
  simp only [clean,List.all_eq_true] at h
  refine ⟨?_,fun c hc => (clean_ren (θ:=θ) d c (h c hc)).2⟩
  simp only [renA]
  rw [map_id_of fun a ha => (clean_ren (g:=g) (B:=B) d a (h a ha)).1]
 | d + 1,.fn f cs,h => by
  simp only [clean,List.all_eq_true] at h
  refine ⟨?_,fun c hc => (clean_ren (θ:=θ) d c (h c hc)).2⟩
  simp only [renA]
  rw [map_id_of fun a ha => (clean_ren (g:=g) (B:=B) d a (h a ha)).1]
 | d + 1,.iface t x,h => by
  simp only [clean] at h
  obtain ⟨h1,h2⟩:=clean_ren (θ:=θ) (g:=g) (B:=B) d x h
  exact ⟨by simp only [renA]; rw [h1],h2⟩
 | d + 1,.cond b x,h => by
  simp only [clean] at h
  obtain ⟨h1,h2⟩:=clean_ren (θ:=θ) (g:=g) (B:=B) d x h
  exact ⟨by simp only [renA]; rw [h1],h2⟩
 | 0,.agg _,h => by simp [clean] at h
 | 0,.tup _,h => by simp [clean] at h
 | 0,.fn _ _,h => by simp [clean] at h
 | 0,.iface _ _,h => by simp [clean] at h
 | 0,.cond _ _,h => by simp [clean] at h
 | 0,.bx _ _,h => by simp [clean] at h
 | 0,.ptr _ _ _ _ _,h => by simp [clean] at h
 | 0,.own _ _ _ _,h => by simp [clean] at h
 | 0,.vw _ _ _ _ _,h => by simp [clean] at h
 | d + 1,.bx _ _,h => by simp [clean] at h
 | d + 1,.ptr _ _ _ _ _,h => by simp [clean] at h
 | d + 1,.own _ _ _ _,h => by simp [clean] at h
 | d + 1,.vw _ _ _ _ _,h => by simp [clean] at h
theorem cleans_ren {θ:Nat → Nat → Nat × Nat} {g:Nat → Nat → Prop} {B:Nat → Prop} {l:List AV} (h:∀ a ∈ l,clean 3 a = true):l.map (renA θ 3) = l ∧ ∀ a ∈ l,kg g B 3 a:=
 ⟨map_id_of fun a ha => (clean_ren (g:=g) (B:=B) 3 a (h a ha)).1,fun a ha => (clean_ren (θ:=θ) 3 a (h a ha)).2⟩
section
variable {P:Program} {G:Ctx} {H:Hots} {t:Slots} {m:Mem} {nx:Nat} {Q:AV → Mem → Prop} {rs:List ResultVar} {l:List AV} {a:AV}
def tupOf:List AV → AV
 | [a] => a
 | l => .tup l
theorem tupOf_nil:tupOf [] = .tup []:=(rfl)
theorem tupOf_one:tupOf [a] = a:=(rfl)
theorem tupOf_two {b:AV}:tupOf (a :: b :: l) = .tup (a :: b :: l):=(rfl)
def retML (P:Program) (t:Slots) (m:Mem) (Q:AV → Mem → Prop):List ResultVar → List AV → Prop
 | [],l => Q (tupOf l) m
 | r :: rs,l => match resE P t m r with
  | some e => conj e.ob (retML P t m Q rs (l ++ [e.val]))
  | none => False
def retMS (P:Program) (t:Slots) (m:Mem) (Q:AV → Mem → Prop) (rs:List ResultVar) (l:List AV) (x:Option Eff):Prop:=match x with
 | some e => conj e.ob (retML P t m Q rs (l ++ [e.val]))
 | none => False
theorem retML_nil:retML P t m Q [] l = Q (tupOf l) m:=(rfl)
theorem retML_cons {r:ResultVar}:retML P t m Q (r :: rs) l = retMS P t m Q rs l (resE P t m r):=(rfl)
theorem retMS_some {ob:List Prop} {u:Upd}:retMS P t m Q rs l (some ⟨ob,a,u⟩) = conj ob (retML P t m Q rs (l ++ [a])):=(rfl)
def endMR (P:Program) (rs:List ResultVar) (Q:AV → Mem → Prop) (e:AEx) (s:St):Prop:=match e with
 | .exit _ => False
 | _ => retML P s.t s.m Q rs []
theorem endMR_ret:endMR P rs Q .ret ⟨t,m,nx⟩ = retML P t m Q rs []:=(rfl)
theorem endMR_normal:endMR P rs Q .normal ⟨t,m,nx⟩ = retML P t m Q rs []:=(rfl)
theorem retML_sound {s:St}:∀ {rs:List ResultVar} {l:List AV},retML P s.t s.m Q rs l → ∃ ob es,resList P s rs = some (ob,es) ∧ (∀ p ∈ ob,p) ∧ Q (tupOf (l ++ es)) s.m
 | [],l,h => ⟨[],[],rfl,by simp,by simpa [retML] using h⟩
 | r :: rs,l,h => by
  simp only [retML] at h
  split at h
  ·rename_i e he
   obtain ⟨ob,es,h1,h2,h3⟩:=retML_sound (rs:=rs) (conj_iff.1 h).2
   refine ⟨e.ob ++ ob,e.val :: es,?_,fun p hp => ?_,by simpa using h3⟩
   ·simp only [resList,resOf_E he,h1]
   ·rcases List.mem_append.1 hp with hp | hp
    ·exact (conj_iff.1 h).1 p hp
    ·exact h2 p hp
  ·exact h.elim
theorem endMR_sound {s:St} {fn:Func} (hr:fn.results.toList = rs) {e:AEx} (h:endMR P rs Q e s):endM P fn Q e s:=by
 have key:retML P s.t s.m Q rs [] → match resAll P s fn.results.toList with
   | some (ob,a) => conj ob (Q a s.m)
   | none => False:=fun h => by
  obtain ⟨ob,es,h1,h2,h3⟩:=retML_sound h
  rw [hr]
  simp only [resAll,h1]
  rw [List.nil_append] at h3
  cases es with
  | nil => exact conj_iff.2 ⟨h2,h3⟩
  | cons a es => cases es with
   | nil => exact conj_iff.2 ⟨h2,h3⟩
   | cons b es => exact conj_iff.2 ⟨h2,h3⟩
 cases e with
 | exit j => exact h.elim
 | normal => exact key h
 | ret => exact key h
def bodyM (P:Program) (G:Ctx) (H:Hots) (fn:Func) (es:List AV) (m:Mem) (nx:Nat) (Q:AV → Mem → Prop):Prop:=∃ cd,fn.body = some cd ∧ awp P G H cd ⟨argSlots 0 es,m,nx⟩ (endM P fn Q)
theorem bodyM_go {fn:Func} {c:Code} {es:List AV} (hb:fn.body = some c) (hr:fn.results.toList = rs) (h:goC P G H (endMR P rs Q) c [] ⟨argSlots 0 es,m,nx⟩):bodyM P G H fn es m nx Q:=
 ⟨c,hb,awp_mono (fun e s h => endMR_sound hr h) h⟩
theorem bodyM.mono {fn:Func} {es:List AV} {Q':AV → Mem → Prop} (h:bodyM P G H fn es m nx Q) (hq:∀ a m,Q a m → Q' a m):bodyM P G H fn es m nx Q':=by
 obtain ⟨cd,h1,h2⟩:=h
 refine ⟨cd,h1,awp_mono (fun e s h => ?_) h2⟩
 cases e with
 | exit j => exact h
 | normal =>
  simp only [endM] at h ⊢
  split at h
  ·rename_i ob x hx; exact conj_mono (hq _ _) h
  ·exact h
 | ret =>
  simp only [endM] at h ⊢
  split at h
  ·rename_i ob x hx; exact conj_mono (hq _ _) h
  ·exact h
end
def alike (x y:Row):Prop:=y.n = x.n ∧ y.sz = x.sz ∧ y.ty = x.ty ∧ y.g = x.g ∧ ∀ i,i < x.n → y.get i = x.get i
theorem alike.refl (x:Row):alike x x:=⟨rfl,rfl,rfl,rfl,fun _ _ => rfl⟩
def cleanCs:List AV → Bool
 | [] => true
 | a :: l => cleanC a && cleanCs l
theorem cleanCs_mem:∀ {l:List AV},cleanCs l = true → ∀ c ∈ l,cleanC c = true
 | [],_,c,h => by cases h
 | a :: l,h,c,hc => by
  simp only [cleanCs,Bool.and_eq_true] at h
  rcases List.mem_cons.1 hc with e | hc
  ·rw [e]; exact h.1
  ·exact cleanCs_mem h.2 c hc
def selfC (r:Nat):AV → Bool
 | .ptr q _ _ _ _ => decide (q = r)
 | a => cleanC a
def bk:AV → AV
 | .ptr _ f i sz k => .ptr 0 f i sz k
 | a => a
def famBk (fam:Fam):Fam:=fun f => { fam f with get:=fun j => ((fam f).get j).map bk }
def famOK (r:Nat) (fam:Fam):Prop:=∀ f,(fam f).g = none ∧ ∀ j,j < (fam f).n → ∀ c ∈ (fam f).get j,selfC r c = true
theorem bk_clean {c:AV} (h:cleanC c = true):bk c = c:=by cases c <;> first | rfl | simp [cleanC] at h
theorem bks_clean:∀ {l:List AV},(∀ c ∈ l,cleanC c = true) → l.map bk = l
 | [],_ => rfl
 | a :: l,h => by rw [List.map_cons,bk_clean (h a (by simp)),bks_clean fun c hc => h c (by simp [hc])]
theorem selfC_ren {r:Nat} {θ:Nat → Nat → Nat × Nat} {g:Nat → Nat → Prop} {B:Nat → Prop} (hθ:∀ f,θ 0 f = (r,f)) (hg:∀ f,g 0 f) {c:AV} (h:selfC r c = true):renA θ 3 (bk c) = c ∧ kg g B 3 (bk c):=by
 cases c with
 | ptr q f i sz k =>
  simp only [selfC,decide_eq_true_eq] at h
  subst h
  refine ⟨?_,hg f⟩
  show AV.ptr (θ 0 f).1 (θ 0 f).2 i sz k = _
  rw [hθ]
 | v x => exact ⟨rfl,trivial⟩
 | any => exact ⟨rfl,trivial⟩
 | ro n sz get => exact ⟨rfl,trivial⟩
 | rop cs => exact ⟨rfl,trivial⟩
 | _ => simp [selfC,cleanC] at h
theorem rowRen_self {r:Nat} {θ:Nat → Nat → Nat × Nat} {g:Nat → Nat → Prop} {B:Nat → Prop} (hθ:∀ f,θ 0 f = (r,f)) (hg:∀ f,g 0 f) {x:Row} (h:∀ j,j < x.n → ∀ c ∈ x.get j,selfC r c = true):rowRen θ g B { x with get:=fun j => (x.get j).map bk } x:=by
 refine ⟨rfl,rfl,rfl,rfl,fun j hj => ?_⟩
 have h1:=h j hj
 refine ⟨?_,fun c hc => ?_⟩
 ·dsimp only
  rw [List.map_map]
  exact (map_id_of fun a ha => (selfC_ren (g:=g) (B:=B) hθ hg (h1 a ha)).1).symm
 ·dsimp only at hc
  obtain ⟨c0,hc0,rfl⟩:=List.mem_map.1 hc
  exact (selfC_ren (θ:=θ) hθ hg (h1 c0 hc0)).2
theorem famBk_E {fam:Fam} {f i:Nat} {cs:List AV} (h:∀ c ∈ cs,cleanC c = true):famBk (famE fam f i cs) = famE (famBk fam) f i cs:=by
 funext f'
 unfold famBk famE
 by_cases e:f' = f
 ·subst e
  simp only [if_true]
  congr 1
  funext j
  by_cases e:j = i
  ·simp only [e,if_true]; exact bks_clean h
  ·simp [e]
 ·simp [e]
theorem famOK_E {r:Nat} {fam:Fam} {f i:Nat} {cs:List AV} (h:famOK r fam) (hc:∀ c ∈ cs,cleanC c = true):famOK r (famE fam f i cs):=fun f' => by
 refine ⟨by rw [famE_g]; exact (h f').1,fun j hj c hcm => ?_⟩
 rw [famE_n] at hj
 by_cases e:f' = f
 ·subst e
  simp only [famE,if_true] at hcm
  split at hcm
  ·have:=hc c hcm
   cases c <;> first | exact this | simp [cleanC] at this
  ·exact (h f').2 j hj c hcm
 ·rw [famE_off e] at hcm
  exact (h f').2 j hj c hcm
theorem famOK_bk {r:Nat} {fam:Fam} (h:famOK r fam):famOK 0 (famBk fam):=fun f => by
 refine ⟨(h f).1,fun j hj c hc => ?_⟩
 obtain ⟨c0,h0,rfl⟩:=List.mem_map.1 hc
 have:=(h f).2 j hj c0 h0
 cases c0 <;> first | rfl | exact this | simp [selfC,cleanC] at this
theorem rowRen_clean' {θ:Nat → Nat → Nat × Nat} {g:Nat → Nat → Prop} {B:Nat → Prop} {x0 x:Row} (h:alike x0 x) (hc:∀ j,j < x0.n → ∀ c ∈ x0.get j,cleanC c = true):rowRen θ g B x0 x:=by
 obtain ⟨h1,h2,h3,h4,h5⟩:=h
 refine ⟨h1,h2,h3,h4,fun j hj => ?_⟩
 obtain ⟨k1,k2⟩:=cleanL_ren (θ:=θ) (g:=g) (B:=B) (hc j hj)
 exact ⟨by rw [k1]; exact h5 j hj,k2⟩
theorem look_one {k:Nat} {x:Fam}:look [(k,x)] k = some x:=by simp [look]
theorem thE_0 {r:Nat}:∀ f,thE [r] 0 f = (r,f):=fun f => rfl
theorem thL_0 {r key:Nat} {l:List Nat} {th:Nat → Nat → Nat}:∀ f,thL (r :: l) key th 0 f = (r,f):=fun f => by simp [thL]
theorem lowG_0:∀ f,lowG 1 0 f:=fun _ => Nat.zero_lt_one
theorem newG_0 {N:Nat} {σ:Nat → Option (Nat × Nat)} {th:Nat → Nat → Nat} (h:0 < N):∀ f,newG N σ th 0 f:=fun _ => .inl h
section
variable {P:Program} {G:Ctx} {H:Hots} {f:FuncId} {fn:Func}
theorem one_okG {r key:Nat} {fam fam' x0 y0:Fam} {m:Mem} {es es0:List AV} {val val0:AV} {ob:List Prop} (hl:look m r = some fam) (h1:∀ f,(fam f).g = none ∧ rowRen (thE [r]) (lowG 1) (lowB 1) (x0 f) (fam f))
  (h2:∀ th σ f,rowRen (thL [r] key th) (newG 1 σ th) (newB 1 σ) (y0 f) (fam' f) ∧ (y0 f).g ≠ some false) (ha:es = es0.map (renA (thE [r]) 3)) (hak:∀ a ∈ es0,kg (lowG 1) (lowB 1) 3 a)
  (hfn:funcOK P H fn es0.length = true) (hv:∀ th:Nat → Nat → Nat,∀ σ:Nat → Option (Nat × Nat),val = renA (thL [r] key th) 3 val0 ∧ kg (newG 1 σ th) (newB 1 σ) 3 val0)
  (hb:bodyM P G H fn es0 [(0,x0)] 1 fun a m1 => a = val0 ∧ look m1 0 = some y0) :
  ∃ ks m0 as0,Entry ks m m0 es as0 ∧ funcOK P H fn as0.length = true ∧ bodyM P G H fn as0 m0 ks.length fun a m1 => ∃ σ th ys nw,(⟨ob,val,.many [(r,fam')] none⟩:Eff).u = .many (ks.zip ys) nw ∧ Leave key ks σ th m1 a ys nw val:=by
 refine ⟨[r],[(0,x0)],es0,⟨by simp,ha,hak,fun j hj => ?_,fun q x hq => ?_⟩,hfn,hb.mono fun a m1 ⟨q1,q2⟩ => ?_⟩
 ·have:j = 0:=by simp at hj; omega
  subst this
  exact ⟨_,fam,look_one,hl,h1⟩
 ·by_cases e:q = 0
  ·subst e; simp
  ·simp [look,Ne.symm e] at hq
 ·obtain ⟨v1,v2⟩:=hv (fun _ _ => 0) (fun _ => none)
  refine ⟨fun _ => none,fun _ _ => 0,[fam'],none,rfl,⟨fun f r g h => by simp at h,by rw [q1]; exact v1,by rw [q1]; exact v2,rfl,fun j hj => ?_,fun _ => rfl⟩⟩
  have:j = 0:=by simp at hj; omega
  subst this
  exact ⟨_,_,q2,rfl,h2 _ _⟩
theorem one_ok {r key:Nat} {fam fam':Fam} {m:Mem} {es es0:List AV} {val val0:AV} {ob:List Prop} (hl:look m r = some fam) (h1:famOK r fam) (h2:famOK r fam') (ha:es = es0.map (renA (thE [r]) 3)) (hak:∀ a ∈ es0,kg (lowG 1) (lowB 1) 3 a)
  (hfn:funcOK P H fn es0.length = true) (hv:∀ th:Nat → Nat → Nat,∀ σ:Nat → Option (Nat × Nat),val = renA (thL [r] key th) 3 val0 ∧ kg (newG 1 σ th) (newB 1 σ) 3 val0)
  (hb:bodyM P G H fn es0 [(0,famBk fam)] 1 fun a m1 => a = val0 ∧ look m1 0 = some (famBk fam')) :
  ∃ ks m0 as0,Entry ks m m0 es as0 ∧ funcOK P H fn as0.length = true ∧ bodyM P G H fn as0 m0 ks.length fun a m1 => ∃ σ th ys nw,(⟨ob,val,.many [(r,fam')] none⟩:Eff).u = .many (ks.zip ys) nw ∧ Leave key ks σ th m1 a ys nw val:=
 one_okG hl (fun f => ⟨(h1 f).1,rowRen_self thE_0 lowG_0 (h1 f).2⟩) (fun th σ f => ⟨rowRen_self thL_0 (newG_0 (by simp)) (h2 f).2,by show (fam' f).g ≠ _; rw [(h2 f).1]; simp⟩) ha hak hfn hv hb
def mcP (sz:Nat) (F:List AV → List AV → Option (List Prop × AV × List AV)):MCon:=fun key m es => match es with
 | .ptr r f i sz' 0 :: rest => match look m r with
  | some fam => match F ((fam f).get i) rest with
   | some (ob,val,cs) => some ⟨(i < (fam f).n) :: (sz' = sz) :: (sz = (fam f).sz) :: (cleanCs ((fam f).get i) = true) :: famOK r fam :: ob,val,.many [(r,famE fam f i cs)] none⟩
   | none => none
  | none => none
 | _ => none
def wb1 (fam:Fam) (cs:List AV):Fam:=fun f => if f = 0 then { fam 0 with get:=fun _ => cs } else fam f
def mc1 (sz:Nat) (F:List AV → List AV → Option (List Prop × AV × List AV)):MCon:=fun key m es => match es with
 | .bx r 0 :: rest => match look m r with
  | some fam => match F ((fam 0).get 0) rest with
   | some (ob,val,cs) => some ⟨((fam 0).n = 1) :: (sz = (fam 0).sz) :: (cleanCs ((fam 0).get 0) = true) :: famOK r fam :: ob,val,.many [(r,wb1 fam cs)] none⟩
   | none => none
  | none => none
 | es => mcP sz F key m es
def OneOK (P:Program) (G:Ctx) (H:Hots) (fn:Func) (sz:Nat) (F:List AV → List AV → Option (List Prop × AV × List AV)):Prop:=
 ∀ cells rest ob val cs,F cells rest = some (ob,val,cs) → (∀ p ∈ ob,p) → (∀ a ∈ rest,clean 3 a = true) ∧ clean 3 val = true ∧ (∀ c ∈ cs,cleanC c = true) ∧ funcOK P H fn (rest.length + 1) = true ∧
  ∀ (fam:Fam) (f i:Nat),i < (fam f).n → sz = (fam f).sz → (∀ f,(fam f).g = none) → famOK 0 fam → bodyM P G H fn (.ptr 0 f i sz 0 :: rest) [(0,famE fam f i cells)] 1 fun a m1 => a = val ∧ look m1 0 = some (famE fam f i cs)
theorem MConOK.mcP (hG:CtxOK P G) (hf:P.funcs[f]? = some fn) {sz:Nat} {F:List AV → List AV → Option (List Prop × AV × List AV)} (h:OneOK P G H fn sz F):MConOK P f (mcP sz F):=by
 refine MConOK.of (H:=H) hG hf fun key m es e hc hob => ?_
 unfold Ax.mcP at hc
 split at hc
 ·rename_i r f' i sz' rest
  split at hc
  ·rename_i fam hl
   split at hc
   ·rename_i ob val cs hF
    cases hc
    have hi:i < (fam f').n:=hob _ (by simp)
    have hsz':sz' = sz:=hob _ (by simp)
    have hsz:sz = (fam f').sz:=hob _ (by simp)
    have hcl:cleanCs ((fam f').get i) = true:=hob _ (by simp)
    have hok:famOK r fam:=hob _ (by simp)
    subst hsz'
    obtain ⟨h1,h2,h3,h4,h5⟩:=h _ _ _ _ _ hF fun p hp => hob p (by simp [hp])
    obtain ⟨a1,a2⟩:=cleans_ren (θ:=thE [r]) (g:=lowG 1) (B:=lowB 1) h1
    refine one_ok hl hok (famOK_E hok h3) (es0:=.ptr 0 f' i sz' 0 :: rest) (val0:=val) ?_ ?_ h4 (fun th σ => ?_) ?_
    ·rw [List.map_cons,a1]; rfl
    ·intro a ha
     rcases List.mem_cons.1 ha with e | ha
     ·rw [e]; exact Nat.zero_lt_one
     ·exact a2 a ha
    ·obtain ⟨b1,b2⟩:=clean_ren (θ:=thL [r] key th) (g:=newG 1 σ th) (B:=newB 1 σ) 3 val h2
     exact ⟨b1.symm,b2⟩
    ·have e1:famBk fam = famE (famBk fam) f' i ((fam f').get i):=by
      have:=famBk_E (fam:=fam) (f:=f') (i:=i) (cleanCs_mem hcl)
      rw [famE_self] at this
      exact this
     rw [e1,famBk_E h3]
     exact h5 (famBk fam) f' i hi hsz (fun f => (hok f).1) (famOK_bk hok)
   ·cases hc
  ·cases hc
 ·cases hc
theorem MConOK.mc1 (hG:CtxOK P G) (hf:P.funcs[f]? = some fn) {sz:Nat} {F:List AV → List AV → Option (List Prop × AV × List AV)} (h:OneOK P G H fn sz F):MConOK P f (mc1 sz F):=by
 intro w0 ρ m m' D w key es vs e hR hk hm hRs hc hob hmany
 unfold Ax.mc1 at hc
 split at hc
 ·rename_i r rest
  split at hc
  ·rename_i fam hl
   split at hc
   ·rename_i ob val cs hF
    cases hc
    have hn:(fam 0).n = 1:=hob _ (by simp)
    have hsz:sz = (fam 0).sz:=hob _ (by simp)
    have hcl:cleanCs ((fam 0).get 0) = true:=hob _ (by simp)
    have hok:famOK r fam:=hob _ (by simp)
    have hRs':Rs w ρ (.ptr r 0 0 sz 0 :: rest) vs:=by
     obtain ⟨x,xs,rfl,h1,h2⟩:=hRs.inv
     refine .cons ?_ h2
     cases h1 with
     | bx hd =>
      have:R w ρ (.ptr r 0 0 sz 0) (.pointer (some ⟨ρ.blk r 0,0 * sz + 0,none⟩)):=.ptr hd
      rw [Nat.zero_mul] at this
      exact this
    have:=MConOK.mcP hG hf h w0 ρ m m' D w key _ vs ⟨(0 < (fam 0).n) :: (sz = sz) :: (sz = (fam 0).sz) :: (cleanCs ((fam 0).get 0) = true) :: famOK r fam :: ob,val,.many [(r,famE fam 0 0 cs)] none⟩ hR hk hm hRs'
     (by simp only [Ax.mcP,hl,hF]) (fun p hp => by
      simp only [List.mem_cons] at hp
      rcases hp with rfl | rfl | rfl | rfl | rfl | hp
      ·omega
      ·trivial
      ·exact hsz
      ·exact hcl
      ·exact hok
      ·exact hob p (by simp [hp])) ⟨_,_,rfl⟩
    refine this.mono fun v w' ⟨ρ',p1,p2,p3,p4⟩ => ⟨ρ',p1,?_,p3,p4⟩
    have p2:Rel w0 ρ' (setRow r (famE fam 0 0 cs) m) (fun r => D r ∨ r = key) w':=p2
    refine Rel.alike p2 fun f => ?_
    by_cases e:f = 0
    ·subst e
     refine ⟨rfl,rfl,rfl,rfl,fun i hi => ?_⟩
     rw [famE_n,hn] at hi
     have:i = 0:=by omega
     subst this
     rw [famE_get]; rfl
    ·unfold wb1
     rw [if_neg e,famE_off e]
     exact ⟨rfl,rfl,rfl,rfl,fun _ _ => rfl⟩
   ·cases hc
  ·cases hc
 ·exact MConOK.mcP hG hf h w0 ρ m m' D w key es vs e hR hk hm hRs hc hob hmany
def mcPP (sz:Nat) (F:List AV → List AV → List AV → Option (List Prop × AV × List AV × List AV)):MCon:=fun key m es => match es with
 | .ptr r f i sz1 0 :: .ptr r' f' i' sz2 0 :: rest => match look m r with
  | some fam => match F ((fam f).get i) ((fam f').get i') rest with
   | some (ob,val,cs,cs') => some ⟨(r' = r) :: (f ≠ f') :: (i < (fam f).n) :: (i' < (fam f').n) :: (sz1 = sz) :: (sz2 = sz) :: (sz = (fam f).sz) :: (sz = (fam f').sz) :: (cleanCs ((fam f).get i) = true) :: (cleanCs ((fam f').get i') = true) :: famOK r fam :: ob,val,.many [(r,famE (famE fam f i cs) f' i' cs')] none⟩
   | none => none
  | none => none
 | _ => none
def TwoOK (P:Program) (G:Ctx) (H:Hots) (fn:Func) (sz:Nat) (F:List AV → List AV → List AV → Option (List Prop × AV × List AV × List AV)):Prop:=
 ∀ c1 c2 rest ob val cs cs',F c1 c2 rest = some (ob,val,cs,cs') → (∀ p ∈ ob,p) → (∀ a ∈ rest,clean 3 a = true) ∧ clean 3 val = true ∧ (∀ c ∈ cs,cleanC c = true) ∧ (∀ c ∈ cs',cleanC c = true) ∧ funcOK P H fn (rest.length + 2) = true ∧
  ∀ (fam:Fam) (f i f' i':Nat),f ≠ f' → i < (fam f).n → i' < (fam f').n → sz = (fam f).sz → sz = (fam f').sz → (∀ f,(fam f).g = none) → famOK 0 fam →
   bodyM P G H fn (.ptr 0 f i sz 0 :: .ptr 0 f' i' sz 0 :: rest) [(0,famE (famE fam f i c1) f' i' c2)] 1 fun a m1 => a = val ∧ look m1 0 = some (famE (famE fam f i cs) f' i' cs')
theorem MConOK.mcPP (hG:CtxOK P G) (hf:P.funcs[f]? = some fn) {sz:Nat} {F:List AV → List AV → List AV → Option (List Prop × AV × List AV × List AV)} (h:TwoOK P G H fn sz F):MConOK P f (mcPP sz F):=by
 refine MConOK.of (H:=H) hG hf fun key m es e hc hob => ?_
 unfold Ax.mcPP at hc
 split at hc
 ·rename_i r f1 i1 s1 r' f2 i2 s2 rest
  split at hc
  ·rename_i fam hl
   split at hc
   ·rename_i ob val cs cs' hF
    cases hc
    have hr:r' = r:=hob _ (by simp)
    have hne:f1 ≠ f2:=hob _ (by simp)
    have hi:i1 < (fam f1).n:=hob _ (by simp)
    have hi':i2 < (fam f2).n:=hob _ (by simp)
    have hs1:s1 = sz:=hob _ (by simp)
    have hs2:s2 = sz:=hob _ (by simp)
    have hz1:sz = (fam f1).sz:=hob _ (by simp)
    have hz2:sz = (fam f2).sz:=hob _ (by simp)
    have hc1:cleanCs ((fam f1).get i1) = true:=hob _ (by simp)
    have hc2:cleanCs ((fam f2).get i2) = true:=hob _ (by simp)
    have hok:famOK r fam:=hob _ (by simp)
    subst hr hs1 hs2
    obtain ⟨h1,h2,h3,h3',h4,h5⟩:=h _ _ _ _ _ _ _ hF fun p hp => hob p (by simp [hp])
    obtain ⟨a1,a2⟩:=cleans_ren (θ:=thE [r']) (g:=lowG 1) (B:=lowB 1) h1
    refine one_ok hl hok (famOK_E (famOK_E hok h3) h3') (es0:=.ptr 0 f1 i1 s2 0 :: .ptr 0 f2 i2 s2 0 :: rest) (val0:=val) ?_ ?_ h4 (fun th σ => ?_) ?_
    ·rw [List.map_cons,List.map_cons,a1]; rfl
    ·intro a ha
     rcases List.mem_cons.1 ha with e | ha
     ·rw [e]; exact Nat.zero_lt_one
     ·rcases List.mem_cons.1 ha with e | ha
      ·rw [e]; exact Nat.zero_lt_one
      ·exact a2 a ha
    ·obtain ⟨b1,b2⟩:=clean_ren (θ:=thL [r'] key th) (g:=newG 1 σ th) (B:=newB 1 σ) 3 val h2
     exact ⟨b1.symm,b2⟩
    ·have e1:famBk fam = famE (famE (famBk fam) f1 i1 ((fam f1).get i1)) f2 i2 ((fam f2).get i2):=by
      have k1:=famBk_E (fam:=fam) (f:=f1) (i:=i1) (cleanCs_mem hc1)
      rw [famE_self] at k1
      have k2:=famBk_E (fam:=fam) (f:=f2) (i:=i2) (cleanCs_mem hc2)
      rw [famE_self] at k2
      rw [← k1,← k2]
     rw [e1,famBk_E h3',famBk_E h3]
     exact h5 (famBk fam) f1 i1 f2 i2 hne hi hi' hz1 hz2 (fun f => (hok f).1) (famOK_bk hok)
   ·cases hc
  ·cases hc
 ·cases hc
def tabOK (K N sz:Nat) (tp ty:TypeId) (fam:Fam):Prop:=(∀ f,alike (famT K N sz tp ty (fun i => (fam (i + 1)).get 0) f) (fam f)) ∧ ∀ i,i < N → cleanCs ((fam (i + 1)).get 0) = true
theorem rowRen_T {θ:Nat → Nat → Nat × Nat} {g:Nat → Nat → Prop} {B:Nat → Prop} {K N sz:Nat} {tp ty:TypeId} {get:Nat → List AV} (hθ:∀ f,θ 0 f = (K,f)) (hg:∀ f,g 0 f) (hc:∀ i,i < N → cleanCs (get i) = true) (f:Nat) :
  rowRen θ g B (famT 0 N sz tp ty get f) (famT K N sz tp ty get f):=by
 cases f with
 | zero =>
  refine ⟨rfl,rfl,rfl,rfl,fun j hj => ⟨?_,fun c hc => ?_⟩⟩
  ·show [AV.ptr K (j + 1) 0 sz 0] = [AV.ptr (θ 0 (j + 1)).1 (θ 0 (j + 1)).2 0 sz 0]
   rw [hθ]
  ·simp only [famT,List.mem_singleton] at hc
   rw [hc]; exact hg _
 | succ f =>
  refine rowRen_clean' ⟨rfl,rfl,rfl,rfl,fun _ _ => rfl⟩ fun j hj c hcm => ?_
  simp only [famT] at hj hcm
  split at hj
  ·rename_i hf
   have:j = 0:=by omega
   subst this
   exact cleanCs_mem (hc f hf) c (by simpa using hcm)
  ·omega
theorem rowRen_alike {θ:Nat → Nat → Nat × Nat} {g:Nat → Nat → Prop} {B:Nat → Prop} {x0 x y:Row} (h:rowRen θ g B x0 x) (k:alike x y):rowRen θ g B x0 y:=by
 obtain ⟨h1,h2,h3,h4,h5⟩:=h
 obtain ⟨k1,k2,k3,k4,k5⟩:=k
 refine ⟨k1.trans h1,k2.trans h2,k3.trans h3,k4.trans h4,fun j hj => ?_⟩
 obtain ⟨a,b⟩:=h5 j hj
 exact ⟨(k5 j (by omega)).trans a,b⟩
theorem famT_g {K N sz:Nat} {tp ty:TypeId} {get:Nat → List AV} {f:Nat}:(famT K N sz tp ty get f).g = none:=by cases f <;> rfl
theorem tabOK_in {K N sz:Nat} {tp ty:TypeId} {fam:Fam} (h:tabOK K N sz tp ty fam) (f:Nat):(fam f).g = none ∧ rowRen (thE [K]) (lowG 1) (lowB 1) (famT 0 N sz tp ty (fun i => (fam (i + 1)).get 0) f) (fam f):=
 ⟨(h.1 f).2.2.2.1.trans famT_g,rowRen_alike (rowRen_T thE_0 lowG_0 h.2 f) (h.1 f)⟩
def mcT (sz:Nat) (tp ty:TypeId) (F:Nat → (Nat → List AV) → List AV → Option (List Prop × AV × (Nat → List AV))):MCon:=fun key m es => match es with
 | .own K 0 N 1 :: rest => match look m K with
  | some fam => match F N (fun i => (fam (i + 1)).get 0) rest with
   | some (ob,val,get') => some ⟨tabOK K N sz tp ty fam :: ob,val,.many [(K,famT K N sz tp ty get')] none⟩
   | none => none
  | none => none
 | _ => none
def TabOK (P:Program) (G:Ctx) (H:Hots) (fn:Func) (sz:Nat) (tp ty:TypeId) (F:Nat → (Nat → List AV) → List AV → Option (List Prop × AV × (Nat → List AV))):Prop:=
 ∀ N get rest ob val get',F N get rest = some (ob,val,get') → (∀ p ∈ ob,p) → (∀ i,i < N → cleanCs (get i) = true) → (∀ a ∈ rest,clean 3 a = true) ∧ clean 3 val = true ∧ (∀ i,i < N → cleanCs (get' i) = true) ∧ funcOK P H fn (rest.length + 1) = true ∧
  bodyM P G H fn (.own 0 0 N 1 :: rest) [(0,famT 0 N sz tp ty get)] 1 fun a m1 => a = val ∧ look m1 0 = some (famT 0 N sz tp ty get')
theorem MConOK.mcT (hG:CtxOK P G) (hf:P.funcs[f]? = some fn) {sz:Nat} {tp ty:TypeId} {F:Nat → (Nat → List AV) → List AV → Option (List Prop × AV × (Nat → List AV))} (h:TabOK P G H fn sz tp ty F):MConOK P f (mcT sz tp ty F):=by
 refine MConOK.of (H:=H) hG hf fun key m es e hc hob => ?_
 unfold Ax.mcT at hc
 split at hc
 ·rename_i K N rest
  split at hc
  ·rename_i fam hl
   split at hc
   ·rename_i ob val get' hF
    cases hc
    have hok:tabOK K N sz tp ty fam:=hob _ (by simp)
    obtain ⟨h1,h2,h3,h4,h5⟩:=h _ _ _ _ _ _ hF (fun p hp => hob p (by simp [hp])) hok.2
    obtain ⟨a1,a2⟩:=cleans_ren (θ:=thE [K]) (g:=lowG 1) (B:=lowB 1) h1
    refine one_okG hl (tabOK_in hok) (fun th σ f => ⟨rowRen_T thL_0 (newG_0 (by simp)) h3 f,by rw [famT_g]; simp⟩) (es0:=.own 0 0 N 1 :: rest) (val0:=val) ?_ ?_ h4 (fun th σ => ?_) h5
    ·rw [List.map_cons,a1]; rfl
    ·intro a ha
     rcases List.mem_cons.1 ha with e | ha
     ·rw [e]; exact Nat.zero_lt_one
     ·exact a2 a ha
    ·obtain ⟨b1,b2⟩:=clean_ren (θ:=thL [K] key th) (g:=newG 1 σ th) (B:=newB 1 σ) 3 val h2
     exact ⟨b1.symm,b2⟩
   ·cases hc
  ·cases hc
 ·cases hc
def whole (K:Nat) (f:Nat):Option (Nat × Nat):=some (K,f)
def idTh (_ f:Nat):Nat:=f
def mcN (ty:TypeId) (F:List AV → Option (List Prop × List AV)):MCon:=fun key m es => match F es with
 | some (ob,cs) => some ⟨ob,.bx key 0,.many [] (some (fam1 ty cs.length cs none))⟩
 | none => none
def NewOK (P:Program) (G:Ctx) (H:Hots) (fn:Func) (ty:TypeId) (F:List AV → Option (List Prop × List AV)):Prop:=
 ∀ es ob cs,F es = some (ob,cs) → (∀ p ∈ ob,p) → (∀ a ∈ es,clean 3 a = true) ∧ cleanCs cs = true ∧ funcOK P H fn es.length = true ∧
  bodyM P G H fn es [] 0 fun a m1 => ∃ L,a = .bx L 0 ∧ look m1 L = some (fam1 ty cs.length cs none)
theorem MConOK.mcN (hG:CtxOK P G) (hf:P.funcs[f]? = some fn) {ty:TypeId} {F:List AV → Option (List Prop × List AV)} (h:NewOK P G H fn ty F):MConOK P f (mcN ty F):=by
 refine MConOK.of (H:=H) hG hf fun key m es e hc hob => ?_
 unfold Ax.mcN at hc
 split at hc
 ·rename_i ob cs hF
  cases hc
  obtain ⟨h1,h2,h3,h4⟩:=h _ _ _ hF fun p hp => hob p hp
  obtain ⟨a1,a2⟩:=cleans_ren (θ:=thE []) (g:=lowG 0) (B:=lowB 0) h1
  refine ⟨[],[],es,⟨by simp,a1.symm,a2,fun j hj => by simp at hj,fun q x hq => by simp [look] at hq⟩,h3,h4.mono fun a m1 ⟨L,q1,q2⟩ => ?_⟩
  refine ⟨whole L,idTh,[],some _,rfl,⟨fun f r g h => ?_,?_,?_,rfl,fun j hj => by simp at hj,fun f => ?_⟩⟩
  ·cases h; exact ⟨Nat.zero_le _,rfl⟩
  ·rw [q1]; rfl
  ·rw [q1]; exact .inr rfl
  ·refine ⟨_,q2,rowRen_clean' (.refl _) fun j hj c hc => ?_,?_⟩
   ·unfold fam1 at hj hc
    by_cases e:f = 0
    ·subst e
     exact cleanCs_mem h2 c (by simpa using hc)
    ·simp [e] at hj
   ·unfold fam1
    split <;> simp
 ·cases hc
end
section
variable {K N sz n r f i:Nat} {tp ty:TypeId} {get:Nat → List AV} {cs l:List AV} {g:Option Bool} {a:AV}
theorem cleanCs_nil:cleanCs [] = true:=(rfl)
theorem cleanCs_v {x:Value}:cleanCs (.v x :: l) = cleanCs l:=by simp [cleanCs,cleanC]
theorem cleanCs_any:cleanCs (.any :: l) = cleanCs l:=by simp [cleanCs,cleanC]
theorem cleanCs_ro {q:Nat → List AV}:cleanCs (.ro n sz q :: l) = cleanCs l:=by simp [cleanCs,cleanC]
theorem cleanCs_rop:cleanCs (.rop cs :: l) = cleanCs l:=by simp [cleanCs,cleanC]
theorem self_of_clean {c:AV} (h:cleanC c = true):selfC r c = true:=by cases c <;> first | exact h | simp [cleanC] at h
theorem famOK_1 (h:cleanCs cs = true):famOK r (fam1 ty sz cs none) = True:=eq_true fun f => by
 unfold fam1
 by_cases e:f = 0
 ·subst e
  exact ⟨rfl,fun j _ c hc => self_of_clean (cleanCs_mem h c (by simpa using hc))⟩
 ·simp only [e,if_false]
  exact ⟨trivial,fun j hj => by omega⟩
theorem famOK_N (h:∀ i,i < n → cleanCs (get i) = true):famOK r (famN n sz ty get none) = True:=eq_true fun f => by
 unfold famN
 by_cases e:f = 0
 ·subst e
  exact ⟨rfl,fun j hj c hc => self_of_clean (cleanCs_mem (h j (by simpa using hj)) c (by simpa using hc))⟩
 ·simp only [e,if_false]
  exact ⟨trivial,fun j hj => by omega⟩
theorem famOK_T (h:∀ i,i < N → cleanCs (get i) = true):famOK K (famT K N sz tp ty get) = True:=eq_true fun f => by
 cases f with
 | zero =>
  refine ⟨rfl,fun j _ c hc => ?_⟩
  simp only [famT,List.mem_singleton] at hc
  rw [hc]; simp [selfC]
 | succ f =>
  refine ⟨rfl,fun j hj c hc => ?_⟩
  simp only [famT] at hj hc
  split at hj
  ·rename_i hf
   have:j = 0:=by omega
   subst this
   exact self_of_clean (cleanCs_mem (h f hf) c (by simpa using hc))
  ·omega
theorem tabOK_T (h:∀ i,i < N → cleanCs (get i) = true):tabOK K N sz tp ty (famT K N sz tp ty get) = True:=eq_true ⟨fun f => by
 cases f <;> exact ⟨rfl,rfl,rfl,rfl,fun _ _ => rfl⟩,h⟩
theorem famT_get:(famT K N sz tp ty get (i + 1)).get 0 = get i:=(rfl)
theorem famT_n:(famT K N sz tp ty get (i + 1)).n = if i < N then 1 else 0:=(rfl)
theorem famT_sz:(famT K N sz tp ty get (i + 1)).sz = sz:=(rfl)
theorem fam1_get:(fam1 ty sz cs g 0).get i = cs:=(rfl)
theorem fam1_n:(fam1 ty sz cs g 0).n = 1:=(rfl)
theorem fam1_sz:(fam1 ty sz cs g 0).sz = sz:=(rfl)
theorem famN_get:(famN n sz ty get g 0).get i = get i:=(rfl)
theorem famN_n:(famN n sz ty get g 0).n = n:=(rfl)
theorem famN_sz:(famN n sz ty get g 0).sz = sz:=(rfl)
theorem famOK_Es {fam:Fam} (h:famOK r fam) (hc:cleanCs cs = true):famOK r (famE fam f i cs) = True:=eq_true (famOK_E h (cleanCs_mem hc))
theorem wb1_1:wb1 (fam1 ty sz cs g) l = fam1 ty sz l g:=by
 funext f
 unfold wb1 fam1
 by_cases e:f = 0 <;> simp [e]
theorem wb1_N {get:Nat → List AV}:wb1 (famN 1 sz ty get g) l = famN 1 sz ty (fun _ => l) g:=by
 funext f
 unfold wb1 famN
 by_cases e:f = 0 <;> simp [e]
end
attribute [go_sem] cleanCs_nil cleanCs_v cleanCs_any cleanCs_ro cleanCs_rop famOK_1 famOK_N famOK_T famOK_Es famE_n famE_sz famE_g famE_get famE_twice tabOK_T famT_get famT_n famT_sz fam1_get fam1_n fam1_sz famN_get famN_n famN_sz wb1_1 wb1_N famE_T lt_ite tupOf_nil tupOf_one tupOf_two retML_nil retML_cons retMS_some endMR_ret endMR_normal
end Go.Ax
end
section
set_option maxHeartbeats 4000000
set_option maxRecDepth 100000
namespace Go.Ax
open Go.Proofs
def nWh (a:Nb):Nb:=(whV a.1,whF a.1 a.2)
theorem iWh {a:Nb} (h:inR a.1):inR (nWh a).1 = True:=inR_of (whV_rg h)
theorem sum1 {g:Nat → List AV} (h:nums 1 g):(nu (suS (wvS g) 1) (wfS 1 g):AV) = nbA (nWh (gx g 0 0,gb g 1 0)):=by
 have h0:=(h 0 (by omega)).2
 have e1:suS (wvS g) 1 = whV (gx g 0 0):=by simp [suS,wvS]
 have e2:wfS 1 g = whF (gx g 0 0) (gb g 1 0):=by simp [wfS,anyB]
 unfold nu nbA nWh
 rw [e1,e2,ftV_of (whV_rg h0),ftF_of (whV_rg h0)]
 rfl
theorem sum2' {g:Nat → List AV}:(nu (suS (wvS g) 2) (wfS 2 g):AV) = nbA (nAdd (gx g 0 0,gb g 1 0) (gx g 0 1,gb g 1 1)):=by
 have e1:suS (wvS g) 2 = whV (gx g 0 0) + whV (gx g 0 1):=by simp [suS,wvS]
 have e2:wfS 2 g = (whF (gx g 0 0) (gb g 1 0) || whF (gx g 0 1) (gb g 1 1)):=by simp [wfS,anyB]
 unfold nu nbA nAdd
 rw [e1,e2]
def kSum:Con
 | [.ro 1 2 g] => some ([nums 1 g],nbA (nWh (gx g 0 0,gb g 1 0)))
 | [.ro 2 2 g] => some ([nums 2 g],nbA (nAdd (gx g 0 0,gb g 1 0) (gx g 0 1,gb g 1 1)))
 | _ => none
theorem kSum_go {P:Program} {f:FuncId} {c:Con} (hc:ConOK P f c) (h:∀ n g,c [.ro n 2 g] = some ([nums n g,n ≤ 1000],nu (suS (wvS g) n) (wfS n g))):ConOK P f kSum:=fun l ob r he hob => by
 unfold kSum at he
 split at he
 ·rename_i g
  cases he
  have hn:nums 1 g:=hob _ (by simp)
  have:=hc [.ro 1 2 g] _ _ (h 1 g) (owe2 hn (by omega))
  rw [sum1 hn] at this
  exact this
 ·rename_i g
  cases he
  have hn:nums 2 g:=hob _ (by simp)
  have:=hc [.ro 2 2 g] _ _ (h 2 g) (owe2 hn (by omega))
  rw [sum2'] at this
  exact this
 ·cases he
theorem konS179:ConOK Try.prog 35 kSum:=kSum_go con35 fun _ _ => rfl
def kw153:Con
 | [.agg [.v (.int .i64 a),.v (.bool e)],.agg [.v (.int .i64 b),.v (.bool f)]] => some ([inR a,inR b],nbA (nAdd (a,e) (b,f)))
 | _ => none
theorem konw153:ConOK Try.prog 48 kw153:=ConOK.of (G:=[(35,kSum)]) (H:=[]) (.cons konS179 .nil) Try.func48 fun l ob rr hc hob => by
 unfold kw153 at hc
 split at hc
 ·rename_i a e b f
  cases hc
  have h_0:inR a:=hob _ (by simp)
  have h_1:inR b:=hob _ (by simp)
  refine ⟨by kernel_rfl,fnVC_go (rs:=[.cell 4 27]) rfl rfl ?_⟩
  simp only [go_sem,kSum,iMul,iDiv,iInt,iAdd,iSub,iRat,iDot,iHyp,iSq,iNeg,iPos,iAbs,iMx,iMn,iCl,iWh,iLoc1,iLoc2,iVAdd1,iVAdd2,iVSub1,iVSub2,iScale1,iScale2,iVDot,iVCross,iLen,iOf1,iOf2,iUnit1,iUnit2,h_0,h_1]
  rfl
 ·cases hc
def vPerp (v:V2):V2:=(nNeg v.2,nWh v.1)
def vTurn (k:Nb) (v:V2):V2:=vScale (vPerp v) k
def limS (x:Nb) (n:Int):Nb:=((nCl x (nInt (-n)) (nInt n)).1,false)
def limV (v:V2):V2:=(limS v.1 256,limS v.2 256)
def kw177:Con
 | [.agg [.v (.int .i64 x),.v (.bool e)],.rop [.v (.int .i64 n)]] => some ([inR x,0 ≤ n ∧ n ≤ 65536],nbA (limS (x,e) n))
 | _ => none
theorem konw177:ConOK Try.prog 70 kw177:=ConOK.of (G:=[(72,k127),(71,k171)]) (H:=[(1,⟨[(7,.slot 2)],[]⟩)]) (.cons kon127 (.cons kon171 .nil)) Try.func70 fun l ob rr hc hob => by
 unfold kw177 at hc
 split at hc
 ·rename_i x e n
  cases hc
  have h_0:inR x:=hob _ (by simp)
  have h_1:0 ≤ n ∧ n ≤ 65536:=hob _ (by simp)
  refine ⟨by kernel_rfl,fnVC_go (rs:=[.cell 3 27]) rfl rfl ?_⟩
  simp only [go_sem,k127,k171,iMul,iDiv,iInt,iAdd,iSub,iRat,iDot,iHyp,iSq,iNeg,iPos,iAbs,iMx,iMn,iCl,iWh,iLoc1,iLoc2,iVAdd1,iVAdd2,iVSub1,iVSub2,iScale1,iScale2,iVDot,iVCross,iLen,iOf1,iOf2,iUnit1,iUnit2,h_0,h_1]
  intro z hz
  rw [wrap_in (by unfold inR; omega)] at hz
  subst hz
  have e:(0 - n) = -n:=by omega
  rw [e]
  exact ⟨by unfold inR; omega,by unfold inR; omega,rfl⟩
 ·cases hc
def kw239:Con
 | [.agg [.v (.int .i64 x),.v (.bool e)],.rop [.v (.int .i64 n)]] => some ([inR x,0 ≤ n ∧ n ≤ 65536],nbA (limS (x,e) n))
 | _ => none
theorem konw239:ConOK Try.prog 73 kw239:=ConOK.of (G:=[(72,k127),(71,k171)]) (H:=[(1,⟨[(7,.slot 2)],[]⟩)]) (.cons kon127 (.cons kon171 .nil)) Try.func73 fun l ob rr hc hob => by
 unfold kw239 at hc
 split at hc
 ·rename_i x e n
  cases hc
  have h_0:inR x:=hob _ (by simp)
  have h_1:0 ≤ n ∧ n ≤ 65536:=hob _ (by simp)
  refine ⟨by kernel_rfl,fnVC_go (rs:=[.cell 3 27]) rfl rfl ?_⟩
  simp only [go_sem,k127,k171,iMul,iDiv,iInt,iAdd,iSub,iRat,iDot,iHyp,iSq,iNeg,iPos,iAbs,iMx,iMn,iCl,iWh,iLoc1,iLoc2,iVAdd1,iVAdd2,iVSub1,iVSub2,iScale1,iScale2,iVDot,iVCross,iLen,iOf1,iOf2,iUnit1,iUnit2,h_0,h_1]
  intro z hz
  rw [wrap_in (by unfold inR; omega)] at hz
  subst hz
  have e:(0 - n) = -n:=by omega
  rw [e]
  exact ⟨by unfold inR; omega,by unfold inR; omega,rfl⟩
 ·cases hc
def kw120:Con
 | [.agg [.v (.int .i64 x),.v (.bool e),.v (.int .i64 y),.v (.bool f)],.v (.int .i64 n)] => some ([inR x,inR y,0 ≤ n ∧ n ≤ 65536],veA (limS (x,e) n,limS (y,f) n))
 | _ => none
theorem konw120:ConOK Try.prog 45 kw120:=ConOK.of (G:=[(70,kw177)]) (H:=[(8,⟨[(16,.slot 7),(19,.slot 7)],[]⟩)]) (.cons konw177 .nil) Try.func45 fun l ob rr hc hob => by
 unfold kw120 at hc
 split at hc
 ·rename_i x e y f n
  cases hc
  have h_0:inR x:=hob _ (by simp)
  have h_1:inR y:=hob _ (by simp)
  have h_2:0 ≤ n ∧ n ≤ 65536:=hob _ (by simp)
  refine ⟨by kernel_rfl,fnVC_go (rs:=[.cell 4 29]) rfl rfl ?_⟩
  simp only [go_sem,kw177,iMul,iDiv,iInt,iAdd,iSub,iRat,iDot,iHyp,iSq,iNeg,iPos,iAbs,iMx,iMn,iCl,iWh,iLoc1,iLoc2,iVAdd1,iVAdd2,iVSub1,iVSub2,iScale1,iScale2,iVDot,iVCross,iLen,iOf1,iOf2,iUnit1,iUnit2,h_0,h_1,h_2]
  exact ⟨False.elim,fun _ => ⟨fun _ => rfl,fun h => by cases h⟩⟩
 ·cases hc
def kw176l:Con
 | [.agg [.v (.int .i64 x),.v (.bool e)],.v (.int .i64 n)] => some ([inR x,0 ≤ n ∧ n ≤ 65536],nbA (limS (x,e) n))
 | _ => none
theorem konw176l:ConOK Try.prog 47 kw176l:=ConOK.of (G:=[(73,kw239)]) (H:=[(8,⟨[(16,.slot 7),(19,.slot 7)],[]⟩)]) (.cons konw239 .nil) Try.func47 fun l ob rr hc hob => by
 unfold kw176l at hc
 split at hc
 ·rename_i x e n
  cases hc
  have h_0:inR x:=hob _ (by simp)
  have h_1:0 ≤ n ∧ n ≤ 65536:=hob _ (by simp)
  refine ⟨by kernel_rfl,fnVC_go (rs:=[.cell 4 27]) rfl rfl ?_⟩
  simp only [go_sem,kw239,iMul,iDiv,iInt,iAdd,iSub,iRat,iDot,iHyp,iSq,iNeg,iPos,iAbs,iMx,iMn,iCl,iWh,iLoc1,iLoc2,iVAdd1,iVAdd2,iVSub1,iVSub2,iScale1,iScale2,iVDot,iVCross,iLen,iOf1,iOf2,iUnit1,iUnit2,h_0,h_1]
  exact ⟨fun _ => rfl,fun h => by cases h⟩
 ·cases hc
def withS (a:Nb) (n:Int):Bool:=!whF a.1 a.2 && decide (-(n * 4294967296) ≤ a.1 ∧ a.1 ≤ n * 4294967296)
def kw55:Con
 | [] => some ([],.agg [i64 4294967296,bo false])
 | _ => none
theorem konw55:ConOK Try.prog 16 kw55:=ConOK.of (G:=[]) (H:=[]) .nil Try.func16 fun l ob rr hc hob => by
 unfold kw55 at hc
 split at hc
 ·skip
  cases hc
  refine ⟨by kernel_rfl,fnVC_go (rs:=[.cell 0 27]) rfl rfl ?_⟩
  simp only [go_sem,iMul,iDiv,iInt,iAdd,iSub,iRat,iDot,iHyp,iSq,iNeg,iPos,iAbs,iMx,iMn,iCl,iWh,iLoc1,iLoc2,iVAdd1,iVAdd2,iVSub1,iVSub2,iScale1,iScale2,iVDot,iVCross,iLen,iOf1,iOf2,iUnit1,iUnit2]
  skip
 ·cases hc
structure Bd where
 k:Int
 r:Int
 wd:Int
 ht:Int
 n:Nat
 X:Nat → Int
 Y:Nat → Int
 pl:V2
 rot:V2
 v:V2
 w:Nb
 m:Nb
 i:Nb
 st:Int
 sl:Bool
 fa:Bool
 ve:Int
abbrev ptsA (n:Nat) (X Y:Nat → Int):AV:=.ro n 2 fun j => [i64 (X j),i64 (Y j)]
def bodyC (b:Bd):List AV:=[i64 b.k,i64 b.r,i64 b.wd,i64 b.ht,ptsA b.n b.X b.Y,i64 b.pl.1.1,bo b.pl.1.2,i64 b.pl.2.1,bo b.pl.2.2,i64 b.rot.1.1,bo b.rot.1.2,i64 b.rot.2.1,bo b.rot.2.2,
 i64 b.v.1.1,bo b.v.1.2,i64 b.v.2.1,bo b.v.2.2,i64 b.w.1,bo b.w.2,i64 b.m.1,bo b.m.2,i64 b.i.1,bo b.i.2,i64 b.st,bo b.sl,bo b.fa,i64 b.ve]
def roN (cs:List AV) (k:Nat):Nat:=match cs[k]? with
 | some (.ro n _ _) => n
 | _ => 0
def roG (cs:List AV) (k:Nat):Nat → List AV:=match cs[k]? with
 | some (.ro _ _ g) => g
 | _ => fun _ => []
def bodyD (l:List AV):Bd:=
 ⟨gi l 0,gi l 1,gi l 2,gi l 3,roN l 4,gx (roG l 4) 0,gx (roG l 4) 1,((gi l 5,gib l 6),(gi l 7,gib l 8)),((gi l 9,gib l 10),(gi l 11,gib l 12)),((gi l 13,gib l 14),(gi l 15,gib l 16)),(gi l 17,gib l 18),(gi l 19,gib l 20),(gi l 21,gib l 22),gi l 23,gib l 24,gib l 25,gi l 26⟩
theorem bodyD_C (b:Bd):bodyD (bodyC b) = b:=rfl
section
variable {k r wd ht a1 a2 r1 r2 v1 v2 w m i st ve:Int} {n:Nat} {g:Nat → List AV} {f1 f2 s1 s2 u1 u2 fw fm fi sl fa:Bool}
theorem bodyD_lit:bodyD [i64 k,i64 r,i64 wd,i64 ht,.ro n 2 g,i64 a1,bo f1,i64 a2,bo f2,i64 r1,bo s1,i64 r2,bo s2,i64 v1,bo u1,i64 v2,bo u2,i64 w,bo fw,i64 m,bo fm,i64 i,bo fi,i64 st,bo sl,bo fa,i64 ve] =
 ⟨k,r,wd,ht,n,gx g 0,gx g 1,((a1,f1),(a2,f2)),((r1,s1),(r2,s2)),((v1,u1),(v2,u2)),(w,fw),(m,fm),(i,fi),st,sl,fa,ve⟩:=(rfl)
end
theorem gx_pts0 {X Y:Nat → Int}:gx (fun j => [i64 (X j),i64 (Y j)]) 0 = X:=(rfl)
theorem gx_pts1 {X Y:Nat → Int}:gx (fun j => [i64 (X j),i64 (Y j)]) 1 = Y:=(rfl)
theorem bd_eta {b:Bd}:(⟨b.k,b.r,b.wd,b.ht,b.n,b.X,b.Y,b.pl,b.rot,b.v,b.w,b.m,b.i,b.st,b.sl,b.fa,b.ve⟩:Bd) = b:=(rfl)
theorem cleanC_body {b:Bd}:∀ c ∈ bodyC b,cleanC c = true:=fun c hc => by
 simp only [bodyC,List.mem_cons,List.not_mem_nil,or_false] at hc
 rcases hc with h | h | h | h | h | h | h | h | h | h | h | h | h | h | h | h | h | h | h | h | h | h | h | h | h | h | h <;> (rw [h]; rfl)
theorem clean_body {b:Bd}:clean 3 (.agg (bodyC b)) = true:=(rfl)
theorem len_body {b:Bd}:(bodyC b).length = 27:=(rfl)
def inB (b:Bd):Prop:=inR b.k ∧ inR b.r ∧ inR b.wd ∧ inR b.ht ∧ (∀ j,j < b.n → inR (b.X j) ∧ inR (b.Y j)) ∧ inR b.pl.1.1 ∧ inR b.pl.2.1 ∧ inR b.rot.1.1 ∧ inR b.rot.2.1 ∧ inR b.v.1.1 ∧ inR b.v.2.1 ∧ inR b.w.1 ∧ inR b.m.1 ∧ inR b.i.1 ∧ inR b.st ∧ inR b.ve
def cB (F:Bd → List AV → Option (List Prop × AV)):Con
 | .agg l :: rest => match F (bodyD l) rest with
  | some (ob,r) => some ((l = bodyC (bodyD l)) :: ob,r)
  | none => none
 | _ => none
theorem cB_eq {F:Bd → List AV → Option (List Prop × AV)} {l rest:List AV}:cB F (.agg l :: rest) = (match F (bodyD l) rest with
  | some (ob,r) => some ((l = bodyC (bodyD l)) :: ob,r)
  | none => none):=(rfl)
theorem ConOK.cB {P:Program} {G:Ctx} {H:Hots} (hG:CtxOK P G) {f:FuncId} {fn:Func} (hf:P.funcs[f]? = some fn) {F:Bd → List AV → Option (List Prop × AV)}
  (h:∀ b rest ob r,F b rest = some (ob,r) → (∀ p ∈ ob,p) → funcOK P H fn (rest.length + 1) = true ∧ fnVC P G H fn (.agg (bodyC b) :: rest) (· = r)):ConOK P f (Ax.cB F):=ConOK.of hG hf fun l ob r hc hob => by
 unfold Ax.cB at hc
 split at hc
 ·rename_i l rest
  split at hc
  ·rename_i ob' r' hF
   cases hc
   have e:l = bodyC (bodyD l):=hob _ (by simp)
   obtain ⟨h1,h2⟩:=h _ _ _ _ hF fun p hp => hob p (by simp [hp])
   rw [← e] at h2
   exact ⟨h1,h2⟩
  ·cases hc
 ·cases hc
def cBR (F:Bd → List AV → Option (List Prop × AV)):Con
 | .rop l :: rest => match F (bodyD l) rest with
  | some (ob,r) => some ((l = bodyC (bodyD l)) :: ob,r)
  | none => none
 | _ => none
theorem cBR_eq {F:Bd → List AV → Option (List Prop × AV)} {l rest:List AV}:cBR F (.rop l :: rest) = (match F (bodyD l) rest with
  | some (ob,r) => some ((l = bodyC (bodyD l)) :: ob,r)
  | none => none):=(rfl)
theorem ConOK.cBR {P:Program} {G:Ctx} {H:Hots} (hG:CtxOK P G) {f:FuncId} {fn:Func} (hf:P.funcs[f]? = some fn) {F:Bd → List AV → Option (List Prop × AV)}
  (h:∀ b rest ob r,F b rest = some (ob,r) → (∀ p ∈ ob,p) → funcOK P H fn (rest.length + 1) = true ∧ fnVC P G H fn (.rop (bodyC b) :: rest) (· = r)):ConOK P f (Ax.cBR F):=ConOK.of hG hf fun l ob r hc hob => by
 unfold Ax.cBR at hc
 split at hc
 ·rename_i l rest
  split at hc
  ·rename_i ob' r' hF
   cases hc
   have e:l = bodyC (bodyD l):=hob _ (by simp)
   obtain ⟨h1,h2⟩:=h _ _ _ _ hF fun p hp => hob p (by simp [hp])
   rw [← e] at h2
   exact ⟨h1,h2⟩
  ·cases hc
 ·cases hc
def bodyR (b:Bd):List AV:=bodyC b
def mB (F:Bd → List AV → Option (List Prop × Bd)):MCon:=mc1 27 fun l rest => match F (bodyD l) rest with
 | some (ob,b) => some ((l = bodyC (bodyD l)) :: ob,.tup [],bodyC b)
 | none => none
theorem MConOK.mB {P:Program} {G:Ctx} {H:Hots} (hG:CtxOK P G) {f:FuncId} {fn:Func} (hf:P.funcs[f]? = some fn) {F:Bd → List AV → Option (List Prop × Bd)}
  (h:∀ b rest ob b',F b rest = some (ob,b') → (∀ p ∈ ob,p) → (∀ a ∈ rest,clean 3 a = true) ∧ funcOK P H fn (rest.length + 1) = true ∧
   ∀ (fam:Fam) (f i:Nat),i < (fam f).n → 27 = (fam f).sz → (∀ f,(fam f).g = none) → famOK 0 fam → bodyM P G H fn (.ptr 0 f i 27 0 :: rest) [(0,famE fam f i (bodyC b))] 1 fun a m1 => a = .tup [] ∧ look m1 0 = some (famE fam f i (bodyR b'))):MConOK P f (Ax.mB F):=by
 refine MConOK.mc1 (H:=H) hG hf fun cells rest ob val cs hF hob => ?_
 split at hF
 ·rename_i ob' b' hF'
  cases hF
  have e:cells = bodyC (bodyD cells):=hob _ (by simp)
  obtain ⟨h1,h2,h3⟩:=h _ _ _ _ hF' fun p hp => hob p (by simp [hp])
  refine ⟨h1,rfl,cleanC_body,h2,fun fam f i k1 k2 k3 k4 => ?_⟩
  have:=h3 fam f i k1 k2 k3 k4
  rw [← e] at this
  exact this
 ·cases hF
def mbQ (r:Nat) (fam fam':Bd → Fam) (pre:List Prop):Option (List Prop × Bd) → Option Eff
 | some (ob,b) => some ⟨pre ++ ob,.tup [],.many [(r,fam' b)] none⟩
 | none => none
def mbP (F:Bd → List AV → Option (List Prop × Bd)) (r f i sz:Nat) (rest:List AV):Option Fam → Option Eff
 | some fam => mbQ r (fun _ => fam) (fun b => famE fam f i (bodyC b)) [i < (fam f).n,sz = 27,27 = (fam f).sz,cleanCs ((fam f).get i) = true,famOK r fam,(fam f).get i = bodyC (bodyD ((fam f).get i))] (F (bodyD ((fam f).get i)) rest)
 | none => none
def mbB (F:Bd → List AV → Option (List Prop × Bd)) (r:Nat) (rest:List AV):Option Fam → Option Eff
 | some fam => mbQ r (fun _ => fam) (fun b => wb1 fam (bodyC b)) [(fam 0).n = 1,27 = (fam 0).sz,cleanCs ((fam 0).get 0) = true,famOK r fam,(fam 0).get 0 = bodyC (bodyD ((fam 0).get 0))] (F (bodyD ((fam 0).get 0)) rest)
 | none => none
theorem mbP_some {F:Bd → List AV → Option (List Prop × Bd)} {r f i sz:Nat} {rest:List AV} {fam:Fam}:mbP F r f i sz rest (some fam) = mbQ r (fun _ => fam) (fun b => famE fam f i (bodyC b)) [i < (fam f).n,sz = 27,27 = (fam f).sz,cleanCs ((fam f).get i) = true,famOK r fam,(fam f).get i = bodyC (bodyD ((fam f).get i))] (F (bodyD ((fam f).get i)) rest):=(rfl)
theorem mbB_some {F:Bd → List AV → Option (List Prop × Bd)} {r:Nat} {rest:List AV} {fam:Fam}:mbB F r rest (some fam) = mbQ r (fun _ => fam) (fun b => wb1 fam (bodyC b)) [(fam 0).n = 1,27 = (fam 0).sz,cleanCs ((fam 0).get 0) = true,famOK r fam,(fam 0).get 0 = bodyC (bodyD ((fam 0).get 0))] (F (bodyD ((fam 0).get 0)) rest):=(rfl)
theorem mB_ptr {F:Bd → List AV → Option (List Prop × Bd)} {key:Nat} {m:Mem} {r f i sz:Nat} {rest:List AV}:mB F key m (.ptr r f i sz 0 :: rest) = mbP F r f i sz rest (look m r):=by
 show (match look m r with
  | some fam => (match (match F (bodyD ((fam f).get i)) rest with
    | some (ob,b) => some (((fam f).get i = bodyC (bodyD ((fam f).get i))) :: ob,AV.tup [],bodyC b)
    | none => none) with
   | some (ob,val,cs) => some (⟨(i < (fam f).n) :: (sz = 27) :: (27 = (fam f).sz) :: (cleanCs ((fam f).get i) = true) :: famOK r fam :: ob,val,.many [(r,famE fam f i cs)] none⟩:Eff)
   | none => none)
  | none => none) = _
 generalize look m r = x
 cases x with
 | none => rfl
 | some fam =>
  unfold mbP
  dsimp only
  generalize F (bodyD ((fam f).get i)) rest = y
  cases y <;> rfl
theorem mB_bx {F:Bd → List AV → Option (List Prop × Bd)} {key:Nat} {m:Mem} {r:Nat} {rest:List AV}:mB F key m (.bx r 0 :: rest) = mbB F r rest (look m r):=by
 show (match look m r with
  | some fam => (match (match F (bodyD ((fam 0).get 0)) rest with
    | some (ob,b) => some (((fam 0).get 0 = bodyC (bodyD ((fam 0).get 0))) :: ob,AV.tup [],bodyC b)
    | none => none) with
   | some (ob,val,cs) => some (⟨((fam 0).n = 1) :: (27 = (fam 0).sz) :: (cleanCs ((fam 0).get 0) = true) :: famOK r fam :: ob,val,.many [(r,wb1 fam cs)] none⟩:Eff)
   | none => none)
  | none => none) = _
 generalize look m r = x
 cases x with
 | none => rfl
 | some fam =>
  unfold mbB
  dsimp only
  generalize F (bodyD ((fam 0).get 0)) rest = y
  cases y <;> rfl
section
variable {P:Program} {G:Ctx} {H:Hots} {K0:AEx → St → Prop} {hot:Option Hot} {ops:Array Oper} {d:Option Tmp} {rest:List Oper} {i:Nat} {st:List Fr} {t:Slots} {m:Mem} {nx r:Nat} {fam fam':Bd → Fam} {o pre ob:List Prop} {b:Bd}
theorem stepC_mbQ:stepC P G H K0 hot ops d rest i st t m nx (withOb o (bndE (aMut none (mbQ r fam fam' pre (some (ob,b)))))) = (∀ b',b' = b → stepC P G H K0 hot ops d rest i st t m nx (withOb o (some ⟨pre ++ ob,.tup [],.many [(r,fam' b')] none⟩))):=by
 rw [bndE_eq]
 apply propext
 constructor
 ·rintro h b' rfl; exact h
 ·intro h; exact h b rfl
end
theorem iLim {x:Nb} {n:Int} (h:inR x.1):inR (limS x n).1 = True:=by
 refine inR_of ?_
 have h1:=whV_rg h
 have h2:=whV_rg (rg_inR (ftV_rg (-n * 4294967296)))
 have h3:=whV_rg (rg_inR (ftV_rg (n * 4294967296)))
 unfold limS nCl nInt rg at *
 dsimp only
 omega
theorem inB_push {b:Bd} (h:inB b) {v:V2} {w:Nb} (h1:inR v.1.1) (h2:inR v.2.1) (h3:inR w.1):inB { b with v:=v,w:=w }:=by
 obtain ⟨b1,b2,b3,b4,b5,b6,b7,b8,b9,b10,b11,b12,b13,b14,b15,b16⟩:=h
 exact ⟨b1,b2,b3,b4,b5,b6,b7,b8,b9,h1,h2,h3,b13,b14,b15,b16⟩
def boA (b:Bd):AV:=.agg (bodyC b)
theorem plain_boA {b:Bd}:plain 3 (boA b) = false:=(rfl)
section
variable {P:Program} {G:Ctx} {H:Hots} {K0:AEx → St → Prop} {hot:Option Hot} {ops:Array Oper} {d:Option Tmp} {rest:List Oper} {i:Nat} {st:List Fr} {t:Slots} {m:Mem} {nx:Nat} {o:List Prop} {u:Upd} {b:Bd}
theorem bindC_bbx {r k:Nat}:bindC P G H K0 hot ops d rest i st t m nx o u (bnd (.bx r k)) = bindC P G H K0 hot ops d rest i st t m nx o u (.bx r k):=(rfl)
theorem bindC_bptr {r f j sz k:Nat}:bindC P G H K0 hot ops d rest i st t m nx o u (bnd (.ptr r f j sz k)) = bindC P G H K0 hot ops d rest i st t m nx o u (.ptr r f j sz k):=(rfl)
theorem bindC_bown {r f n sz:Nat}:bindC P G H K0 hot ops d rest i st t m nx o u (bnd (.own r f n sz)) = bindC P G H K0 hot ops d rest i st t m nx o u (.own r f n sz):=(rfl)
theorem bindC_bnilP {x:Option Addr}:bindC P G H K0 hot ops d rest i st t m nx o u (bnd (.v (.pointer x))) = bindC P G H K0 hot ops d rest i st t m nx o u (.v (.pointer x)):=(rfl)
theorem bindL_bx {tag:Bool} {l cs:List AV} {r k:Nat}:bindL P G H K0 hot ops d rest i st t m nx o u tag l (.bx r k :: cs) = bindL P G H K0 hot ops d rest i st t m nx o u tag (l ++ [.bx r k]) cs:=bindL_skip
theorem bindL_ptr {tag:Bool} {l cs:List AV} {r f j sz k:Nat}:bindL P G H K0 hot ops d rest i st t m nx o u tag l (.ptr r f j sz k :: cs) = bindL P G H K0 hot ops d rest i st t m nx o u tag (l ++ [.ptr r f j sz k]) cs:=bindL_skip
theorem bindL_own {tag:Bool} {l cs:List AV} {r f n sz:Nat}:bindL P G H K0 hot ops d rest i st t m nx o u tag l (.own r f n sz :: cs) = bindL P G H K0 hot ops d rest i st t m nx o u tag (l ++ [.own r f n sz]) cs:=bindL_skip
theorem bindL_nilP {tag:Bool} {l cs:List AV} {x:Option Addr}:bindL P G H K0 hot ops d rest i st t m nx o u tag l (.v (.pointer x) :: cs) = bindL P G H K0 hot ops d rest i st t m nx o u tag (l ++ [.v (.pointer x)]) cs:=bindL_skip
theorem bindC_boA:bindC P G H K0 hot ops d rest i st t m nx o u (bnd (boA b)) = (∀ b',b' = b → bindC P G H K0 hot ops d rest i st t m nx o u (.agg (bodyC b'))):=by
 apply propext
 constructor
 ·rintro h b' rfl; exact h
 ·intro h; exact h b rfl
end
attribute [go_sem] plain_boA bindC_boA bindC_bbx bindC_bptr bindC_bown bindC_bnilP bindL_bx bindL_ptr bindL_own bindL_nilP
end Go.Ax
end