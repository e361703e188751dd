/-
  Ratios and roots.
-/
import Derived.Test.YtafigekkhpepkaaGreatCM3
set_option linter.unusedVariables false
set_option linter.unusedSimpArgs false
section
set_option maxHeartbeats 4000000
set_option maxRecDepth 100000
namespace Go.Ax
open Go.Proofs Go.Proofs.Tryz
def raV (a b:Int):Int:=if b = 0 then cmpS a 0 * 9223372036854775807 else ftV ((a * 4294967296).tdiv b)
def raF (a b:Int):Bool:=if b = 0 then true else ftF ((a * 4294967296).tdiv b)
abbrev ra (a b:Int) (f:Bool):AV:=.agg [i64 (raV a b),bo (raF a b || f)]
theorem raV_rg {a b:Int}:rg (raV a b):=by
 unfold raV
 split
 ·unfold cmpS rg; split
  ·omega
  ·split <;> omega
 ·exact ftV_rg _
theorem sgn_ratio {a b:Int} (hb:b≠0):sgn (decide (a < 0) != decide (b < 0)) (ab a * 4294967296 / ab b) = (a * 4294967296).tdiv b:=by
 have key:ab a * 4294967296 / ab b = (ab a * 4294967296).tdiv (ab b):=(Int.tdiv_eq_ediv_of_nonneg (by have:=ab_nonneg a; omega)).symm
 rw [key]
 unfold ab sgn
 by_cases ha:a < 0 <;> by_cases hb2:b < 0 <;> simp [ha,hb2]
 ·rw [Int.neg_mul,Int.neg_tdiv,Int.neg_neg]
 ·rw [Int.neg_mul,Int.neg_tdiv,Int.neg_neg]
theorem quo_word {m d:Int} (hm:0≤m) (hd:0 < d):jn (m / 18446744073709551616 / d) (jn (m / 18446744073709551616 % d) (m % 18446744073709551616) / d) = m / d:=by
 have e1:=Int.mul_ediv_add_emod m 18446744073709551616
 have e2:=Int.mul_ediv_add_emod (m / 18446744073709551616) d
 have key:m = (m / 18446744073709551616 % d * 18446744073709551616 + m % 18446744073709551616) + d * (m / 18446744073709551616 / d * 18446744073709551616):=by
  rw [← Int.mul_assoc]
  generalize d * (m / 18446744073709551616 / d) = w at *
  omega
 unfold jn
 conv => rhs; rw [key,Int.add_mul_ediv_left _ _ (by omega)]
 omega
theorem inU_quo {m d:Int} (hm:0≤m) (hd:0 < d) (hd2:d < 18446744073709551616):jn (m / 18446744073709551616 % d) (m % 18446744073709551616) / d < 18446744073709551616:=by
 have h1:=Int.emod_lt_of_pos (m / 18446744073709551616) hd
 refine Int.ediv_lt_of_lt_mul hd ?_
 unfold jn
 omega
def c132:Con
 | [.v (.int .i64 a),.v (.int .i64 b)] => some ([inR a,inR b],ra a b false)
 | _ => none
theorem con132:ConOK prog 132 c132:=ConOK.of (G:=[(189,c189),(190,c190),(191,c191),(192,c192),(183,c183)]) (H:=[]) (.cons con189 (.cons con190 (.cons con191 (.cons con192 (.cons con183 .nil))))) func132 fun l ob r hc hob => by
 unfold c132 at hc
 split at hc
 ·rename_i a b
  cases hc
  have h_0:=ob0 hob
  have h_1:=ob1 hob
  refine ⟨by kernel_rfl,fnVC_go (rs:=[.cell 4 24]) rfl rfl ?_⟩
  simp only [go_sem,c189,c190,c191,c192,c183]
  refine ⟨fun hb z hz z1 hz1 => ?_,fun hb => ?_⟩
  ·have hb:b = 0:=by simpa using hb
   refine agg2 (i64_eq ?_) (bo_eq ?_)
   ·unfold raV
    rw [if_pos hb,hz1,hz]
    have:cmpS a 0 = -1∨cmpS a 0 = 0∨cmpS a 0 = 1:=by unfold cmpS; split <;> (try split) <;> simp
    rw [wrap_in (inRo (by omega))]
   ·unfold raF; rw [if_pos hb]; rfl
  ·have hb:b≠0:=by simpa using hb
   have ha0:=ab_nonneg a
   have hb0:=ab_nonneg b
   have ha1:ab a≤9223372036854775808:=by unfold inR at h_0; exact ab_le (by omega) (by omega)
   have hb1:ab b≤9223372036854775808:=by unfold inR at h_1; exact ab_le (by omega) (by omega)
   have hb2:0 < ab b:=by unfold ab at hb0 ⊢; split <;> omega
   have eb:ab b % 18446744073709551616 = ab b:=by omega
   simp only [forall_eq,mod_jn,eb,Bool.or_false]
   obtain ⟨m,hm⟩:∃ m,m = ab a * 4294967296:=⟨_,rfl⟩
   rw [← hm]
   have m0:0≤m:=by omega
   have m1:m / 18446744073709551616 < 18446744073709551616:=by omega
   have t1:(m / 18446744073709551616).tmod (ab b) = m / 18446744073709551616 % ab b:=Int.tmod_eq_emod_of_nonneg (by omega)
   have t2:IntKind.u64.wrap ((m / 18446744073709551616).tdiv (ab b)) = m / 18446744073709551616 / ab b:=by
    have k0:0≤m / 18446744073709551616:=by omega
    have k1:m / 18446744073709551616 / ab b≤m / 18446744073709551616:=Int.ediv_le_self _ k0
    have k2:0≤m / 18446744073709551616 / ab b:=Int.ediv_nonneg k0 hb0
    rw [Int.tdiv_eq_ediv_of_nonneg k0,wrap_u (by unfold inU; omega)]
   rw [t1,t2]
   have k3:=Int.emod_nonneg (m / 18446744073709551616) (show ab b≠0 by omega)
   have k4:=Int.emod_lt_of_pos (m / 18446744073709551616) hb2
   have k5:0≤m / 18446744073709551616 / ab b:=Int.ediv_nonneg (by omega) hb0
   have k6:m / 18446744073709551616 / ab b≤m / 18446744073709551616:=Int.ediv_le_self _ (by omega)
   have k7:0≤jn (m / 18446744073709551616 % ab b) (m % 18446744073709551616) / ab b:=Int.ediv_nonneg (by unfold jn; omega) hb0
   have k8:=inU_quo m0 hb2 (by omega)
   rw [quo_word m0 hb2]
   refine ⟨h_0,inU_mod,inU_div ha0 (by omega),by omega,h_1,by omega,by omega,by unfold inU; omega,inU_mod,by unfold inU; omega,k4,⟨k7,k8⟩,by unfold inU; omega,?_⟩
   have e:(!decide (a < 0) == decide (b < 0)) = (decide (a < 0) != decide (b < 0)):=by cases decide (a < 0) <;> cases decide (b < 0) <;> rfl
   rw [e,hm,sgn_ratio hb]
   refine agg2 (i64_eq ?_) (bo_eq ?_)
   ·unfold raV; rw [if_neg hb]
   ·unfold raF; rw [if_neg hb,Bool.or_false]
 ·cases hc
def c155:Con
 | [.agg [.v (.int .i64 v),.v (.bool f)],.agg [.v (.int .i64 u),.v (.bool e)]] => some ([inR v,inR u],ra (whV v) (whV u) (whF v f || whF u e))
 | _ => none
theorem con155:ConOK prog 155 c155:=ConOK.of (G:=[(180,c180),(132,c132),(184,c184)]) (H:=[(1,⟨[(4,.slot 2),(5,.slot 3)],[]⟩)]) (.cons con180 (.cons con132 (.cons con184 .nil))) func155 fun l ob r hc hob => by
 unfold c155 at hc
 split at hc
 ·rename_i v f u e
  cases hc
  have h_0:=ob0 hob
  have h_1:=ob1 hob
  refine ⟨by kernel_rfl,fnVC_go (rs:=[.cell 4 24]) rfl rfl ?_⟩
  simp only [go_sem,c180,c132,c184]
  simp only [forall_eq]
  refine ⟨inR_wh h_0,inR_wh h_1,fun _ => nums2 rfl rfl (inR_wh h_0) (inR_wh h_1),fun _ => trivial,?_⟩
  rw [any2 rfl rfl,Bool.or_false]
 ·cases hc
theorem newton {m r:Nat} (hr:0 < r) (h:m < (r + 1) * (r + 1)) (hq:m / r < r):m < ((r + m / r) / 2 + 1) * ((r + m / r) / 2 + 1):=by
 have h1:m < r * (m / r + 1):=by
  have:=Nat.div_add_mod m r
  have:=Nat.mod_lt m hr
  rw [Nat.mul_add]; omega
 generalize m / r = q at *
 obtain ⟨d,hd⟩:=Nat.exists_eq_add_of_le (show q + 1≤r by omega)
 have h2:r + q + 1≤2 * ((r + q) / 2 + 1):=by omega
 generalize (r + q) / 2 + 1 = t at *
 have h3:=Nat.mul_le_mul h2 h2
 have h4:4 * (r * (q + 1))≤(r + q + 1) * (r + q + 1):=by
  subst hd
  have e1:(q + 1 + d + q + 1) * (q + 1 + d + q + 1) = 4 * ((q + 1 + d) * (q + 1)) + d * d:=by
   rw [show q + 1 + d + q + 1 = (q + 1 + d) + (q + 1) by omega]
   generalize q + 1 = p
   simp only [Nat.add_mul,Nat.mul_add]
   have:d * p = p * d:=Nat.mul_comm _ _
   omega
  omega
 have h5:2 * t * (2 * t) = 4 * (t * t):=by
  rw [Nat.mul_assoc,Nat.mul_left_comm t,← Nat.mul_assoc]
 omega
theorem newton_body {h l:Int} {m r:Nat} (hl:inU l) (hh:inU h) (hjm:jn h l = (m:Int)) (h0:0 < m) (hmK:m < 340282366920938463463374607431768211456) (hr:0 < r∧r < 18446744073709551616∧m < (r + 1) * (r + 1)) :
  ((r:Int)≤h→(r:Int) = (isq m:Nat)) ∧
  (¬(r:Int)≤h →
   ∀ (z:Int),z = jn h l / (r:Int)→∀ (z_1:Int),z_1 = jn h l % (r:Int) →
       inU h∧inU l∧inU (r:Int)∧h < (r:Int) ∧
             ((r:Int)≤z→(r:Int) = (isq m:Nat)) ∧
              (¬(r:Int)≤z →
               ∀ (z_2:Int),z_2 = ((r:Int) + z + 0) % 18446744073709551616 →
                 ∀ (z_3:Int),z_3 = ((r:Int) + z + 0) / 18446744073709551616 →
                   inU (r:Int)∧inU z ∧
                     ∀ (z:Int),z = z_2 / 2 →
                       ∀ (z_4:Int),z_4 = IntKind.u64.wrap (z_3 * 9223372036854775808) →
                         ∀ (z_5:Int),z_5 = orI IntKind.u64 z z_4 →
                           ∃ y:Nat,(0 < y∧y < 18446744073709551616∧m < (y + 1) * (y + 1))∧y < r∧z_5 = (y:Int))):=by
 obtain ⟨r1,r2,r3⟩:=hr
 have hru:inU (r:Int):=by unfold inU; omega
 refine ⟨fun h1 => ?_,fun h1 z hz z1 hz1 => ⟨hh,hl,hru,by omega,fun h2 => ?_,fun h2 z2 hz2 z3 hz3 => ⟨hru,?_,fun z4 hz4 z5 hz5 z6 hz6 => ⟨(r + m / r) / 2,?_,?_,?_⟩⟩⟩⟩
 ·have k1:r * r≤r * 18446744073709551615:=Nat.mul_le_mul_left r (by omega)
  have k2:r * r≤m:=by unfold jn at hjm; unfold inU at hl; omega
  rw [isq_eq hmK k2 r3]
 ·rw [hjm,← Int.natCast_ediv] at hz
  have k2:r * r≤m:=(Nat.le_div_iff_mul_le r1).1 (by omega)
  rw [isq_eq hmK k2 r3]
 all_goals (rw [hjm,← Int.natCast_ediv] at hz; have hq:m / r < r:=by omega)
 ·generalize m / r = q at *
  rw [hz]; unfold inU; omega
 ·have hn:=newton r1 r3 hq
  refine ⟨?_,?_,hn⟩
  ·by_cases e:r = 1
   ·subst e; rw [Nat.div_one] at hq; omega
   ·clear hn
    generalize m / r = q at *
    omega
  ·clear hn
   generalize m / r = q at *
   omega
 ·generalize m / r = q at *
  omega
 ·generalize m / r = q at *
  have e3:z3 = (((r + q) / 18446744073709551616:Nat):Int):=by rw [hz3,hz]; omega
  have e5:z5 = ((2 ^ 63 * ((r + q) / 18446744073709551616):Nat):Int):=by
   have p:(2:Nat) ^ 63 = 9223372036854775808:=by decide
   rw [hz5,e3,p,wrap_u (by unfold inU; omega)]; omega
  have e4:z4 = (((r + q) % 18446744073709551616 / 2:Nat):Int):=by rw [hz4,hz2,hz]; omega
  have p:(2:Nat) ^ 63 = 9223372036854775808:=by decide
  rw [hz6,e4,e5]
  unfold orI
  rw [BitVec.toNat_or,toNat_u (by omega),toNat_u (by rw [p]; omega),Nat.or_comm,← Nat.two_pow_add_eq_or_of_lt (by rw [p]; omega),wrap_u (by rw [p]; unfold inU; omega),p]
  omega
theorem root_start {m len k:Nat} (h:m < 2 ^ len) (hk:len≤2 * k):m < (2 ^ k + 1) * (2 ^ k + 1):=by
 have h1:2 ^ len≤2 ^ (2 * k):=Nat.pow_le_pow_right (by omega) hk
 have h2:2 ^ (2 * k) = 2 ^ k * 2 ^ k:=by rw [Nat.two_mul,Nat.pow_add]
 generalize 2 ^ k = a at *
 simp only [Nat.add_mul,Nat.mul_add]
 omega
theorem root_len {h l:Int} {m:Nat} (hl:inU l) (hh:inU h) (hjm:jn h l = (m:Int)):m < 2 ^ (64 + blen h):=by
 have k:=(blen_ok hh).1
 have p:(2:Nat) ^ 64 = 18446744073709551616:=by decide
 rw [Nat.pow_add,p]
 unfold jn at hjm; unfold inU at hl hh
 omega
def c279:Con
 | [.agg [.v (.int .u64 l),.v (.int .u64 h)]] => some ([inU l,inU h],u64 (isq (jn h l).toNat))
 | _ => none
theorem con279:ConOK prog 279 c279:=ConOK.of (G:=[(282,c282),(192,c192),(234,c234)]) (H:=[]) (.cons con282 (.cons con192 (.cons con234 .nil))) func279 fun l ob r hc hob => by
 unfold c279 at hc
 split at hc
 ·rename_i l h
  cases hc
  have hl:inU l:=hob _ (by simp)
  have hh:inU h:=hob _ (by simp)
  refine ⟨by kernel_rfl,fnVC_go (rs:=[.tmp 2]) rfl rfl ?_⟩
  simp only [go_sem,c282,c192,c234]
  obtain ⟨m,hm⟩:∃ m,m = (jn h l).toNat:=⟨_,rfl⟩
  have hjm:jn h l = (m:Int):=by rw [hm]; unfold jn; unfold inU at hl hh; omega
  have hmK:m < 340282366920938463463374607431768211456:=by unfold jn at hjm; unfold inU at hl hh; omega
  rw [← hm]
  refine ⟨fun _ => trivial,fun _ => trivial,fun h0 => ?_,fun h0 z hz => ⟨hl,fun hh0 z1 hz1 => ⟨hh,fun z2 hz2 z3 hz3 z4 hz4 => ⟨fun hlt => ⟨?_,fun z5 hz5 => ?_⟩,fun hlt => ?_⟩⟩,fun hh0 z3 hz3 z4 hz4 => ⟨fun hlt => ⟨?_,fun z5 hz5 => ?_⟩,fun hlt => ?_⟩⟩⟩
  ·have h1:h = 0:=by simpa using h0.1
   have h2:l = 0:=by simpa using h0.2
   subst h1 h2
   rw [hm]; decide
  all_goals (
   have hm0:0 < m:=by
    refine Nat.pos_of_ne_zero fun hz => ?_
    subst hz
    unfold jn at hjm; unfold inU at hl hh
    have h1:h = 0:=by omega
    have h2:l = 0:=by omega
    subst h1 h2
    simp at h0
   have bl:=(blen_ok hl).2.2
   have bh:=(blen_ok hh).2.2)
  ·rw [hz4,hz3,hz2,hz1,wrap_in (x:=64 + (blen h:Int)) (inRo (by omega)),wrap_in (x:=64 + (blen h:Int) + 1) (inRo (by omega)),Int.tdiv_eq_ediv_of_nonneg (by omega),wrap_in (inRo (by omega))]; omega
  ·have e4:z4 = (((64 + blen h + 1) / 2:Nat):Int):=by
    rw [hz4,hz3,hz2,hz1,wrap_in (x:=64 + (blen h:Int)) (inRo (by omega)),wrap_in (x:=64 + (blen h:Int) + 1) (inRo (by omega)),Int.tdiv_eq_ediv_of_nonneg (by omega),wrap_in (inRo (by omega))]; omega
   obtain ⟨k,hk⟩:∃ k,k = (64 + blen h + 1) / 2:=⟨_,rfl⟩
   have k2:k < 64:=by omega
   have k3:2 ^ k≤2 ^ 63:=Nat.pow_le_pow_right (by omega) (by omega)
   have p:(2:Nat) ^ 63 = 9223372036854775808:=by decide
   have e5:z5 = ((2 ^ k:Nat):Int):=by
    rw [hz5,e4,← hk,Int.toNat_natCast,Nat.min_eq_left (by omega),Int.one_mul,show ((2:Int) ^ k) = ((2 ^ k:Nat):Int) by simp,wrap_u ⟨Int.natCast_nonneg _,Int.ofNat_lt.2 (show 2 ^ k < 18446744073709551616 by omega)⟩]
   refine loopC_go (fun (r:Nat) => 0 < r∧r < 18446744073709551616∧m < (r + 1) * (r + 1)) (fun r => r) (fun r => [(4,u64 r)]) (fun _ => []) [0] [35,36,37,38,39,2,41,42,43,44,45,46,40,47,48,6,7,49,50,51,52,2,54,55,56,53,57,58,8,9,59,60,61,62,63,4] (2 ^ k) (by kernel_rfl) ?_ ⟨Nat.two_pow_pos k,by omega,root_start (root_len hl hh hjm) (by omega)⟩ ?_ ?_
   ·intro x _; simp [goodNames,asg]
   ·simp only [go_sem];
    exact e5
   ·intro r hr
    simp only [go_sem,c192,c234]
    exact newton_body hl hh hjm hm0 hmK hr
  ·have hm2:m < (18446744073709551615 + 1) * (18446744073709551615 + 1):=hmK
   refine loopC_go (fun (r:Nat) => 0 < r∧r < 18446744073709551616∧m < (r + 1) * (r + 1)) (fun r => r) (fun r => [(4,u64 r)]) (fun _ => []) [0] [35,36,37,38,39,2,41,42,43,44,45,46,40,47,48,6,7,49,50,51,52,2,54,55,56,53,57,58,8,9,59,60,61,62,63,4] 18446744073709551615 (by kernel_rfl) ?_ ⟨by decide,by decide,hm2⟩ ?_ ?_
   ·intro x _; simp [goodNames,asg]
   ·simp only [go_sem]
    try rfl
   ·intro r hr
    simp only [go_sem,c192,c234]
    exact newton_body hl hh hjm hm0 hmK hr
  ·rw [hz4,hz3,hz,wrap_in (x:=(blen l:Int) + 1) (inRo (by omega)),Int.tdiv_eq_ediv_of_nonneg (by omega),wrap_in (inRo (by omega))]; omega
  ·have e4:z4 = (((blen l + 1) / 2:Nat):Int):=by
    rw [hz4,hz3,hz,wrap_in (x:=(blen l:Int) + 1) (inRo (by omega)),Int.tdiv_eq_ediv_of_nonneg (by omega),wrap_in (inRo (by omega))]; omega
   obtain ⟨k,hk⟩:∃ k,k = (blen l + 1) / 2:=⟨_,rfl⟩
   have k2:k < 64:=by omega
   have k3:2 ^ k≤2 ^ 63:=Nat.pow_le_pow_right (by omega) (by omega)
   have p:(2:Nat) ^ 63 = 9223372036854775808:=by decide
   have e5:z5 = ((2 ^ k:Nat):Int):=by
    rw [hz5,e4,← hk,Int.toNat_natCast,Nat.min_eq_left (by omega),Int.one_mul,show ((2:Int) ^ k) = ((2 ^ k:Nat):Int) by simp,wrap_u ⟨Int.natCast_nonneg _,Int.ofNat_lt.2 (show 2 ^ k < 18446744073709551616 by omega)⟩]
   have hlm:m < 2 ^ blen l:=by
    have h1:h = 0:=by simpa using hh0
    have h2:=(blen_ok hl).1
    unfold jn at hjm
    omega
   refine loopC_go (fun (r:Nat) => 0 < r∧r < 18446744073709551616∧m < (r + 1) * (r + 1)) (fun r => r) (fun r => [(4,u64 r)]) (fun _ => []) [0] [35,36,37,38,39,2,41,42,43,44,45,46,40,47,48,6,7,49,50,51,52,2,54,55,56,53,57,58,8,9,59,60,61,62,63,4] (2 ^ k) (by kernel_rfl) ?_ ⟨Nat.two_pow_pos k,by omega,root_start hlm (by omega)⟩ ?_ ?_
   ·intro x _; simp [goodNames,asg]
   ·simp only [go_sem];
    exact e5
   ·intro r hr
    simp only [go_sem,c192,c234]
    exact newton_body hl hh hjm hm0 hmK hr
  ·exfalso
   apply hlt
   rw [hz4,hz3,hz,wrap_in (x:=(blen l:Int) + 1) (inRo (by omega)),Int.tdiv_eq_ediv_of_nonneg (by omega),wrap_in (inRo (by omega))]; omega
 ·cases hc
theorem isq_small {m:Nat} (h:m < 340282366920938463463374607431768211456):isq m < 18446744073709551616:=by
 have:=(isq_ok h).1
 refine Nat.lt_of_not_le fun hc => ?_
 have:=Nat.mul_le_mul hc hc
 omega
theorem sgn_f {x:Int}:sgn false x = x:=rfl
theorem jn_0 {x:Int}:jn 0 x = x:=by unfold jn; omega
def sqV (v:Int):Int:=if v < 0 then 0 else ftV (isq (v * 4294967296).toNat)
def sqF (v:Int) (f:Bool):Bool:=if v < 0 then true else (ftF (isq (v * 4294967296).toNat) || f)
theorem sq_nonneg {a:Int}:0≤a * a:=by
 rcases Int.lt_or_le a 0 with h | h
 ·have:=Int.mul_pos_of_neg_of_neg h h; omega
 ·exact Int.mul_nonneg h h
theorem ab_sq {a:Int}:ab (a * a) = a * a:=by have:=sq_nonneg (a:=a); unfold ab; rw [if_neg (by omega)]
theorem pl_sq {a b:Int}:plM (decide (a < 0) != decide (a < 0)) (a * a) (decide (b < 0) != decide (b < 0)) (b * b) = a * a + b * b:=by
 unfold plM; rw [if_pos (by simp)]
def c242:Con
 | [.agg [.v (.int .i64 v),.v (.bool f)],.agg [.v (.int .i64 u),.v (.bool e)]] => some ([inR v,inR u],nu (isq (whV v * whV v + whV u * whV u).toNat) (whF v f || whF u e))
 | _ => none
theorem con242:ConOK prog 242 c242:=ConOK.of (G:=[(180,c180),(181,c181),(241,c241),(279,c279),(184,c184),(183,c183)]) (H:=[(1,⟨[(4,.slot 2),(5,.slot 3)],[]⟩),(2,⟨[(20,.slot 4)],[]⟩)]) (.cons con180 (.cons con181 (.cons con241 (.cons con279 (.cons con184 (.cons con183 .nil)))))) func242 fun l ob r hc hob => by
 unfold c242 at hc
 split at hc
 ·rename_i v f u e
  cases hc
  have h_0:=ob0 hob
  have h_1:=ob1 hob
  refine ⟨by kernel_rfl,fnVC_go (rs:=[.cell 4 24]) rfl rfl ?_⟩
  simp only [go_sem,c180,c181,c241,c279,c184,c183]
  simp only [forall_eq,mod_jn,sgn_f,jn_0,ab_sq,pl_sq]
  have k:=mul_rg (inR_wh h_0) (inR_wh h_0)
  have k0:=sq_nonneg (a:=whV v)
  have j:=mul_rg (inR_wh h_1) (inR_wh h_1)
  have j0:=sq_nonneg (a:=whV u)
  rw [ab_sq] at k j
  have s:=isq_small (m:=(whV v * whV v + whV u * whV u).toNat) (by omega)
  refine ⟨inR_wh h_0,inR_wh h_0,inR_wh h_1,inR_wh h_1,inU_mod,inU_div k0 (by omega),inU_mod,inU_div j0 (by omega),by omega,inU_mod,inU_div (by omega) (by omega),nums2 rfl rfl (inR_wh h_0) (inR_wh h_1),by unfold inU; omega,by unfold inU; omega,?_⟩
  rw [any2 rfl rfl]
 ·cases hc
theorem eq140 {xo yo:Operand} {neg:Bool} {a b:Int} {g:Bool} {x y:Int} {e:Bool}:eqE prog neg 140 xo yo (.agg [bo g,u64 a,u64 b]) (.agg [bo e,u64 x,u64 y]) = some ⟨[],.v (.bool (negV neg ((g == e) && ((a == x) && ((b == y) && true))))),.none⟩:=eqE_agg (by kernel_rfl)
attribute [go_sem] eq140
def c100:Con
 | [.agg [.v (.int .i64 v),.v (.bool f)]] => some ([],.tup [i64 (whV v),bo (whF v f)])
 | _ => none
theorem con100:ConOK prog 100 c100:=ConOK.of (G:=[]) (H:=[]) .nil func100 fun l ob r hc hob => by
 unfold c100 at hc
 split at hc
 ·rename_i v f
  cases hc
  refine ⟨by kernel_rfl,fnVC_go (rs:=[.tmp 2,.tmp 3]) rfl rfl ?_⟩
  simp only [go_sem]
  unfold whV whF
  refine ⟨fun h => ?_,fun h => ?_⟩
  ·have h:v = -9223372036854775808:=by simpa using h
   rw [if_pos h,decide_eq_true h]; rfl
  ·have h:¬ v = -9223372036854775808:=by simpa using h
   rw [if_neg h,decide_eq_false h]; rfl
 ·cases hc
def c108:Con
 | [.v (.int .i64 v)] => some ([inR v],u64 (ab v))
 | _ => none
theorem con108:ConOK prog 108 c108:=ConOK.of (G:=[]) (H:=[]) .nil func108 fun l ob r hc hob => by
 unfold c108 at hc
 split at hc
 ·rename_i v
  cases hc
  have h_0:=ob0 hob
  refine ⟨by kernel_rfl,fnVC_go (rs:=[.tmp 2]) rfl rfl ?_⟩
  simp only [go_sem]
  unfold inR at h_0
  refine ⟨fun h z hz z1 hz1 => ?_,fun h z hz => ?_⟩
  ·rw [hz1,hz,wrap_u64,wrap_i64]; unfold ab; rw [if_pos h]; omega
  ·rw [hz,wrap_u64]; unfold ab; rw [if_neg h]; omega
 ·cases hc
def c107:Con
 | [.v (.int .i64 v)] => some ([inR v],wd (decide (v < 0)) (ab v))
 | _ => none
theorem con107:ConOK prog 107 c107:=ConOK.of (G:=[(108,c108)]) (H:=[]) (.cons con108 .nil) func107 fun l ob r hc hob => by
 unfold c107 at hc
 split at hc
 ·rename_i v
  cases hc
  have h_0:=ob0 hob
  refine ⟨by kernel_rfl,fnVC_go (rs:=[.cell 2 140]) rfl rfl ?_⟩
  simp only [go_sem,c108]
  intro z hz
  have h1:=ab_nonneg v
  have h2:ab v≤9223372036854775808:=by unfold inR at h_0; exact ab_le (by omega) (by omega)
  refine ⟨h_0,agg3 rfl (u64_eq (by omega)) (u64_eq (by omega))⟩
 ·cases hc
def c235:Con
 | [.agg [.v (.bool g),.v (.int .u64 h),.v (.int .u64 l)],.agg [.v (.bool e),.v (.int .u64 i),.v (.int .u64 k)]] => some ([inU l,inU h,inU k,inU i],bo (decide (jn h l < jn i k)))
 | _ => none
theorem con235:ConOK prog 235 c235:=ConOK.of (G:=[]) (H:=[]) .nil func235 fun l ob r hc hob => by
 unfold c235 at hc
 split at hc
 ·rename_i g h l e i k
  cases hc
  have h_0:=ob0 hob
  have h_1:=ob1 hob
  have h_2:=ob2 hob
  have h_3:=ob3 hob
  refine ⟨by kernel_rfl,fnVC_go (rs:=[.tmp 4]) rfl rfl ?_⟩
  simp only [go_sem]
  unfold inU at *
  refine ⟨fun h1 h2 => ⟨h1,h2⟩,?_⟩
  rw [Bool.eq_iff_iff]
  simp only [Bool.or_eq_true,Bool.and_eq_true,decide_eq_true_eq,beq_iff_eq]
  unfold jn
  omega
 ·cases hc
def c103:Con
 | [.v (.int .i64 a),.v (.int .i64 b)] => some ([inR a,inR b],wd (decide (a * b < 0)) (ab (a * b)))
 | _ => none
theorem con103:ConOK prog 103 c103:=ConOK.of (G:=[(108,c108),(171,c171)]) (H:=[]) (.cons con108 (.cons con171 .nil)) func103 fun l ob r hc hob => by
 unfold c103 at hc
 split at hc
 ·rename_i a b
  cases hc
  have h_0:=ob0 hob
  have h_1:=ob1 hob
  refine ⟨by kernel_rfl,fnVC_go (rs:=[.cell 4 140]) rfl rfl ?_⟩
  simp only [go_sem,c108,c171]
  simp only [forall_eq]
  have ha:=ab_nonneg a
  have hb:=ab_nonneg b
  have ka:ab a≤9223372036854775808:=by unfold inR at h_0; exact ab_le (by omega) (by omega)
  have kb:ab b≤9223372036854775808:=by unfold inR at h_1; exact ab_le (by omega) (by omega)
  have em:ab (a * b) = ab a * ab b:=by rw [ab_natAbs,ab_natAbs,ab_natAbs,Int.natAbs_mul,Int.natCast_mul]
  refine ⟨h_0,h_1,by unfold inU; omega,by unfold inU; omega,?_⟩
  rw [em]
  refine agg3 (bo_eq ?_) rfl rfl
  rcases Int.lt_trichotomy a 0 with h1 | h1 | h1 <;> rcases Int.lt_trichotomy b 0 with h2 | h2 | h2
  ·have:=Int.mul_pos_of_neg_of_neg h1 h2
   rw [decide_eq_true h1,decide_eq_true h2,decide_eq_false (show ¬ a * b < 0 by omega)]; rfl
  ·subst h2; simp
  ·have:=Int.mul_neg_of_neg_of_pos h1 h2
   rw [decide_eq_true h1,decide_eq_false (show ¬ b < 0 by omega),decide_eq_true this,bne_iff_ne.2 (show a≠0 by omega),bne_iff_ne.2 (show b≠0 by omega)]; rfl
  ·subst h1; simp
  ·subst h1; simp
  ·subst h1; simp
  ·have:=Int.mul_neg_of_pos_of_neg h1 h2
   rw [decide_eq_false (show ¬ a < 0 by omega),decide_eq_true h2,decide_eq_true this,bne_iff_ne.2 (show a≠0 by omega),bne_iff_ne.2 (show b≠0 by omega)]; rfl
  ·subst h2; simp
  ·have:=Int.mul_pos h1 h2
   rw [decide_eq_false (show ¬ a < 0 by omega),decide_eq_false (show ¬ b < 0 by omega),decide_eq_false (show ¬ a * b < 0 by omega)]; rfl
 ·cases hc
def c102:Con
 | [.agg [.v (.bool g),.v (.int .u64 h),.v (.int .u64 l)]] => some ([inU l,inU h],wd g (jn h l / 4294967296))
 | _ => none
theorem con102:ConOK prog 102 c102:=ConOK.of (G:=[]) (H:=[]) .nil func102 fun l ob r hc hob => by
 unfold c102 at hc
 split at hc
 ·rename_i g h l
  cases hc
  have h_0:=ob0 hob
  have h_1:=ob1 hob
  refine ⟨by kernel_rfl,fnVC_go (rs:=[.cell 2 140]) rfl rfl ?_⟩
  simp only [go_sem]
  intro z3 hz3 z hz z1 hz1 z2 hz2
  have e:=orI_u h_1 h_0
  unfold inU at h_0 h_1
  refine agg3 rfl (u64_eq ?_) (u64_eq ?_)
  ·rw [hz3]; unfold jn; omega
  ·rw [hz2,hz,hz1,e]; unfold jn; omega
 ·cases hc
def c106:Con
 | [.agg [.v (.bool g),.v (.int .u64 h),.v (.int .u64 l)]] => some ([inU l,inU h,h < 4294967296],wd g (jn h l * 4294967296))
 | _ => none
theorem con106:ConOK prog 106 c106:=ConOK.of (G:=[]) (H:=[]) .nil func106 fun l ob r hc hob => by
 unfold c106 at hc
 split at hc
 ·rename_i g h l
  cases hc
  have h_0:=ob0 hob
  have h_1:=ob1 hob
  have h_2:=ob2 hob
  refine ⟨by kernel_rfl,fnVC_go (rs:=[.cell 2 140]) rfl rfl ?_⟩
  simp only [go_sem]
  intro z1 hz1 z2 hz2 z3 hz3 z hz
  have e:=orI_u h_1 h_0
  unfold inU at h_0 h_1
  refine agg3 rfl (u64_eq ?_) (u64_eq ?_)
  ·rw [hz3,hz1,hz2,e]; unfold jn; omega
  ·rw [hz,wrap_u64]; unfold jn; omega
 ·cases hc
def rpG (g:Bool) (m:Int) (g':Bool) (m':Int):Bool:=if g = g' then g else (plG g m g' m' && decide (plM g m g' m'≠0))
def c172:Con
 | [.agg [.v (.bool g),.v (.int .u64 h),.v (.int .u64 l)],.agg [.v (.bool e),.v (.int .u64 i),.v (.int .u64 k)]] => some ([inU l,inU h,inU k,inU i,jn h l + jn i k < 340282366920938463463374607431768211456],wd (rpG g (jn h l) e (jn i k)) (plM g (jn h l) e (jn i k)))
 | _ => none
theorem con172:ConOK prog 172 c172:=ConOK.of (G:=[(234,c234),(236,c236),(235,c235)]) (H:=[]) (.cons con234 (.cons con236 (.cons con235 .nil))) func172 fun l ob r hc hob => by
 unfold c172 at hc
 split at hc
 ·rename_i g h l e i k
  cases hc
  have h_0:=ob0 hob
  have h_1:=ob1 hob
  have h_2:=ob2 hob
  have h_3:=ob3 hob
  have h_4:=ob4 hob
  refine ⟨by kernel_rfl,fnVC_go (rs:=[.cell 4 140]) rfl rfl ?_⟩
  simp only [go_sem,c234,c236,c235]
  have hl:=h_0
  have hh:=h_1
  have hk:=h_2
  have hi:=h_3
  have hs:=h_4
  refine ⟨fun hg z hz z1 hz1 => ⟨hl,hk,fun z2 hz2 z3 hz3 => ⟨hh,hi,?_⟩⟩,fun hg z hz => ⟨hl,hh,hk,hi,fun hc z4 hz4 z1 hz1 => ⟨hk,hl,fun z2 hz2 z3 hz3 => ⟨hi,hh,?_⟩⟩,fun hc z4 hz4 z1 hz1 => ⟨hl,hk,fun z2 hz2 z3 hz3 => ⟨hh,hi,?_⟩⟩⟩⟩
  ·have hg:g = e:=by simpa using hg
   unfold inU at hl hh hk hi
   unfold rpG plM
   rw [if_pos hg,if_pos hg]
   unfold jn at hs ⊢
   refine ⟨by omega,agg3 rfl (u64_eq (by omega)) (u64_eq (by omega))⟩
  ·have hg:¬ g = e:=by simpa using hg
   have hlt:jn h l < jn i k:=by rw [hz] at hc; simpa using hc
   unfold inU at hl hh hk hi
   unfold rpG plG plM
   rw [if_neg hg,if_neg hg,if_neg hg,if_pos hlt,if_pos hlt]
   unfold jn at hs hlt ⊢
   refine ⟨by split at hz1 <;> omega,fun h1 h2 => ⟨h1,h2⟩,agg3 (bo_eq ?_) (u64_eq (by split at hz1 <;> omega)) (u64_eq (by omega))⟩
   congr 1
   rw [Bool.eq_iff_iff]
   simp only [Bool.or_eq_true,bne_iff_ne,decide_eq_true_eq]
   split at hz1 <;> omega
  ·have hg:¬ g = e:=by simpa using hg
   have hlt:¬ jn h l < jn i k:=by rw [hz] at hc; simpa using hc
   unfold inU at hl hh hk hi
   unfold rpG plG plM
   rw [if_neg hg,if_neg hg,if_neg hg,if_neg hlt,if_neg hlt]
   unfold jn at hs hlt ⊢
   refine ⟨by split at hz1 <;> omega,fun h1 h2 => ⟨h1,h2⟩,agg3 (bo_eq ?_) (u64_eq (by split at hz1 <;> omega)) (u64_eq (by omega))⟩
   congr 1
   rw [Bool.eq_iff_iff]
   simp only [Bool.or_eq_true,bne_iff_ne,decide_eq_true_eq]
   split at hz1 <;> omega
 ·cases hc
def c101:Con
 | [.agg [.v (.bool g),.v (.int .u64 h),.v (.int .u64 l)],.v (.bool f)] => some ([inU l,inU h],.agg [i64 (ftV (sgn g (jn h l))),bo (ftF (sgn g (jn h l)) || f)])
 | _ => none
theorem con101:ConOK prog 101 c101:=ConOK.of (G:=[]) (H:=[]) .nil func101 fun l ob r hc hob => by
 unfold c101 at hc
 split at hc
 ·rename_i g h l f
  cases hc
  have h_0:=ob0 hob
  have h_1:=ob1 hob
  refine ⟨by kernel_rfl,fnVC_go (rs:=[.cell 4 24]) rfl rfl ?_⟩
  simp only [go_sem]
  have hl:=h_0
  have hh:=h_1
  unfold inU at hl hh
  have e:∀ {a a':Int} {b b':Bool},a = a'→b = b'→AV.agg [i64 a,bo b] = .agg [i64 a',bo b']:=fun h1 h2 => by rw [h1,h2]
  refine ⟨fun h2 => ?_,fun h2 z hz => ?_⟩
  ·have hb:9223372036854775807 < jn h l:=by
    unfold jn
    rcases h2 with h2 | h2
    ·rw [bne_iff_ne] at h2; omega
    ·omega
   refine ⟨fun hg z hz => ?_,fun hg => ?_⟩
   ·have:sgn g (jn h l) = -jn h l:=by unfold sgn; rw [if_pos hg]
    rw [this]
    refine e ?_ ?_
    ·rw [hz,wrap_in (inRo (by omega))]; unfold ftV; rw [if_neg (by omega),if_pos (by omega)]; rfl
    ·unfold ftF; rw [decide_eq_true (by omega)]; rfl
   ·have:sgn g (jn h l) = jn h l:=by unfold sgn; rw [hg]; simp
    rw [this]
    refine e ?_ ?_
    ·unfold ftV; rw [if_pos hb]
    ·unfold ftF; rw [decide_eq_true (by omega)]; rfl
  ·have h0:h = 0:=by simpa using h2.1
   have h3:=h2.2
   have hj:jn h l = l:=by unfold jn; omega
   have hw:z = l:=by rw [hz]; exact wrap_in (inRo (by omega))
   rw [hj]
   refine ⟨fun hg z1 hz1 => ?_,fun hg => ?_⟩
   ·have:sgn g l = -l:=by unfold sgn; rw [if_pos hg]
    rw [this]
    have hr:rg (-l):=by unfold rg; omega
    refine e ?_ (by rw [ftF_of hr]; rfl)
    rw [ftV_of hr,hz1,hw,wrap_in (inRo (by omega))]; omega
   ·have:sgn g l = l:=by unfold sgn; rw [hg]; simp
    rw [this]
    have hr:rg l:=by unfold rg; omega
    exact e (by rw [ftV_of hr,hw]) (by rw [ftF_of hr]; rfl)
 ·cases hc
def c104:Con
 | [.v (.int .i64 a)] => some ([],.agg [i64 (cmpS a 0 * 9223372036854775807),bo true])
 | _ => none
theorem con104:ConOK prog 104 c104:=ConOK.of (G:=[]) (H:=[]) .nil func104 fun l ob r hc hob => by
 unfold c104 at hc
 split at hc
 ·rename_i a
  cases hc
  refine ⟨by kernel_rfl,fnVC_go (rs:=[.cell 2 24]) rfl rfl ?_⟩
  simp only [go_sem]
  unfold cmpS
  refine ⟨fun h => ?_,fun h => ⟨fun h1 => ?_,fun h1 => ?_⟩⟩
  ·rw [if_neg (by omega),if_pos h]; rfl
  ·rw [if_pos h1]; rfl
  ·rw [if_neg h1,if_neg h]; rfl
 ·cases hc
theorem rp_sgn {g g':Bool} {m m':Int}:sgn (rpG g m g' m') (plM g m g' m') = sgn g m + sgn g' m':=by
 rw [← pl_sgn]
 unfold rpG
 by_cases h:g = g'
 ·rw [if_pos h]; unfold plG; rw [if_pos h]
 ·rw [if_neg h]
  by_cases h0:plM g m g' m' = 0
  ·rw [h0]; unfold sgn; split <;> split <;> rfl
  ·rw [decide_eq_true h0,Bool.and_true]
theorem sgn_rp_div {g:Bool} {e f:Bool} {x y d:Int}:sgn g (plM e (ab x) f (ab y) / d) = (sgn g (plM e (ab x) f (ab y))).tdiv d:=sgn_div (plM_nonneg (ab_nonneg x) (ab_nonneg y))
theorem andI_1 {x:Int} (hx:inR x):andI .i64 x 1 = x % 2:=by
 unfold andI
 have e1:(BitVec.ofInt IntKind.i64.bits 1).toNat = 1:=by decide
 have e2:(BitVec.ofInt IntKind.i64.bits x).toNat = (x % 18446744073709551616).toNat:=by
  show (BitVec.ofInt 64 x).toNat = _
  rw [BitVec.toNat_ofInt]
  have e:((2 ^ 64:Nat):Int) = 18446744073709551616:=by decide
  rw [e]
 rw [BitVec.toNat_and,e1,e2,Nat.and_one_is_mod,wrap_in (inRo (by omega))]
 omega
def c143:Con
 | [.v (.int .i64 n)] => some ([inR n],nu (n * 4294967296) false)
 | _ => none
theorem con143:ConOK prog 143 c143:=ConOK.of (G:=[(107,c107),(106,c106),(101,c101)]) (H:=[]) (.cons con107 (.cons con106 (.cons con101 .nil))) func143 fun l ob r hc hob => by
 unfold c143 at hc
 split at hc
 ·rename_i n
  cases hc
  have h_0:=ob0 hob
  refine ⟨by kernel_rfl,fnVC_go (rs:=[.cell 2 24]) rfl rfl ?_⟩
  simp only [go_sem,c107,c106,c101]
  simp only [forall_eq,mod_jn,Bool.or_false]
  have ha:=ab_nonneg n
  have hb:ab n≤9223372036854775808:=by unfold inR at h_0; exact ab_le (by omega) (by omega)
  refine ⟨h_0,inU_mod,inU_div ha (by omega),by omega,inU_mod,inU_div (by omega) (by omega),?_⟩
  have e:sgn (decide (n < 0)) (ab n * 4294967296) = n * 4294967296:=by
   unfold sgn ab
   by_cases h:n < 0
   ·simp [h,Int.neg_mul]
   ·simp [h]
  rw [e]
  refine agg2 rfl ?_
  simp
 ·cases hc
def c92:Con
 | [.agg [.v (.int .i64 v),.v (.bool f)]] => some ([inR v],.agg [i64 (-whV v),bo (whF v f)])
 | _ => none
theorem con92:ConOK prog 92 c92:=ConOK.of (G:=[(100,c100)]) (H:=[]) (.cons con100 .nil) func92 fun l ob r hc hob => by
 unfold c92 at hc
 split at hc
 ·rename_i v f
  cases hc
  have h_0:=ob0 hob
  refine ⟨by kernel_rfl,fnVC_go (rs:=[.cell 2 24]) rfl rfl ?_⟩
  simp only [go_sem,c100]
  simp only [forall_eq]
  have h2:=whV_rg h_0
  unfold rg at *
  rw [wrap_in (inRo (by omega))]
  refine agg2 (i64_eq (by omega)) rfl
 ·cases hc
def c30:Con
 | [.agg [.v (.int .i64 v),.v (.bool f)]] => some ([inR v],.agg [i64 (ab (whV v)),bo (whF v f)])
 | _ => none
theorem con30:ConOK prog 30 c30:=ConOK.of (G:=[(100,c100)]) (H:=[]) (.cons con100 .nil) func30 fun l ob r hc hob => by
 unfold c30 at hc
 split at hc
 ·rename_i v f
  cases hc
  have h_0:=ob0 hob
  refine ⟨by kernel_rfl,fnVC_go (rs:=[.cell 2 24]) rfl rfl ?_⟩
  simp only [go_sem,c100]
  simp only [forall_eq]
  have h2:=whV_rg h_0
  unfold rg at *
  rw [wrap_in (inRo (by omega))]
  refine ⟨fun h => agg2 (i64_eq (by unfold ab; rw [if_pos h]; omega)) rfl,fun h => agg2 (i64_eq (by unfold ab; rw [if_neg h])) rfl⟩
 ·cases hc
def c27:Con
 | [.agg [.v (.int .i64 v),.v (.bool f)],.agg [.v (.int .i64 u),.v (.bool e)]] => some ([inR v,inR u],nu ((whV v * whV u).tdiv 4294967296) (whF v f || whF u e))
 | _ => none
theorem con27:ConOK prog 27 c27:=ConOK.of (G:=[(100,c100),(103,c103),(102,c102),(101,c101)]) (H:=[]) (.cons con100 (.cons con103 (.cons con102 (.cons con101 .nil)))) func27 fun l ob r hc hob => by
 unfold c27 at hc
 split at hc
 ·rename_i v f u e
  cases hc
  have h_0:=ob0 hob
  have h_1:=ob1 hob
  refine ⟨by kernel_rfl,fnVC_go (rs:=[.cell 4 24]) rfl rfl ?_⟩
  simp only [go_sem,c100,c103,c102,c101]
  simp only [forall_eq,mod_jn,sgn_ab_div,sgn_ab]
  have k:=mul_rg (inR_wh h_0) (inR_wh h_1)
  have k0:=ab_nonneg (whV v * whV u)
  exact ⟨inR_wh h_0,inR_wh h_1,inU_mod,inU_div k0 (by omega),inU_mod,inU_div (by omega) (by omega),trivial⟩
 ·cases hc
def c111:Con
 | [.agg [.v (.int .i64 v),.v (.bool f)],.agg [.v (.int .i64 u),.v (.bool e)],.agg [.v (.int .i64 x),.v (.bool p)],.agg [.v (.int .i64 y),.v (.bool q)]] => some ([inR v,inR u,inR x,inR y],nu ((whV v * whV u + whV x * whV y).tdiv 4294967296) (whF v f || whF u e || whF x p || whF y q))
 | _ => none
theorem con111:ConOK prog 111 c111:=ConOK.of (G:=[(100,c100),(103,c103),(172,c172),(102,c102),(101,c101)]) (H:=[]) (.cons con100 (.cons con103 (.cons con172 (.cons con102 (.cons con101 .nil))))) func111 fun l ob r hc hob => by
 unfold c111 at hc
 split at hc
 ·rename_i v f u e x p y q
  cases hc
  have h_0:=ob0 hob
  have h_1:=ob1 hob
  have h_2:=ob2 hob
  have h_3:=ob3 hob
  refine ⟨by kernel_rfl,fnVC_go (rs:=[.cell 8 24]) rfl rfl ?_⟩
  simp only [go_sem,c100,c103,c172,c102,c101]
  simp only [forall_eq,mod_jn,sgn_rp_div,sgn_ab,rp_sgn]
  have k:=mul_rg (inR_wh h_0) (inR_wh h_1)
  have k0:=ab_nonneg (whV v * whV u)
  have j:=mul_rg (inR_wh h_2) (inR_wh h_3)
  have j0:=ab_nonneg (whV x * whV y)
  have p0:=plM_nonneg (g:=decide (whV v * whV u < 0)) (g':=decide (whV x * whV y < 0)) k0 j0
  have p1:=plM_le (g:=decide (whV v * whV u < 0)) (g':=decide (whV x * whV y < 0)) k0 j0
  refine ⟨inR_wh h_0,inR_wh h_1,inR_wh h_2,inR_wh h_3,inU_mod,inU_div k0 (by omega),inU_mod,inU_div j0 (by omega),by omega,inU_mod,inU_div p0 (by omega),inU_mod,inU_div (by omega) (by omega),?_⟩
  trivial
 ·cases hc
def c29:Con
 | [.agg [.v (.int .i64 v),.v (.bool f)],.agg [.v (.int .i64 u),.v (.bool e)]] => some ([],i64 (cmpS (whV v) (whV u)))
 | _ => none
theorem con29:ConOK prog 29 c29:=ConOK.of (G:=[(100,c100)]) (H:=[]) (.cons con100 .nil) func29 fun l ob r hc hob => by
 unfold c29 at hc
 split at hc
 ·rename_i v f u e
  cases hc
  refine ⟨by kernel_rfl,fnVC_go (rs:=[.tmp 4]) rfl rfl ?_⟩
  simp only [go_sem,c100]
  simp only [forall_eq]
  unfold cmpS
  exact ⟨fun h => by rw [if_pos h],fun h => ⟨fun h2 => by rw [if_neg h,if_pos h2],fun h2 => by rw [if_neg h,if_neg h2]⟩⟩
 ·cases hc
def c260:Con
 | [.agg [.v (.int .i64 v),.v (.bool f)]] => some ([inR v],i64 ((whV v + 2147483648) / 4294967296))
 | _ => none
theorem con260:ConOK prog 260 c260:=ConOK.of (G:=[(100,c100)]) (H:=[]) (.cons con100 .nil) func260 fun l ob r hc hob => by
 unfold c260 at hc
 split at hc
 ·rename_i v f
  cases hc
  have h_0:=ob0 hob
  refine ⟨by kernel_rfl,fnVC_go (rs:=[.tmp 2]) rfl rfl ?_⟩
  simp only [go_sem,c100]
  simp only [forall_eq]
  have h2:=whV_rg h_0
  unfold rg at h2
  rw [andI_1 (inRo (by omega)),wrap_in (inRo (by omega))]
  omega
 ·cases hc
def c295:Con
 | [.v (.int .i64 a),.v (.int .i64 b),.v (.int .i64 c),.v (.int .i64 d)] => some ([inR a,inR b,inR c,inR d],i64 (cmpS (a * b) (c * d)))
 | _ => none
theorem con295:ConOK prog 295 c295:=ConOK.of (G:=[(103,c103),(235,c235)]) (H:=[]) (.cons con103 (.cons con235 .nil)) func295 fun l ob r hc hob => by
 unfold c295 at hc
 split at hc
 ·rename_i a b c d
  cases hc
  have h_0:=ob0 hob
  have h_1:=ob1 hob
  have h_2:=ob2 hob
  have h_3:=ob3 hob
  refine ⟨by kernel_rfl,fnVC_go (rs:=[.tmp 8]) rfl rfl ?_⟩
  simp only [go_sem,c103,c235]
  simp only [forall_eq,mod_jn]
  have k:=mul_rg h_0 h_1
  have k0:=ab_nonneg (a * b)
  have j:=mul_rg h_2 h_3
  have j0:=ab_nonneg (c * d)
  have i1:=inU_div (x:=ab (a * b)) k0 (by omega)
  have i2:=inU_div (x:=ab (c * d)) j0 (by omega)
  generalize a * b = p at *
  generalize c * d = q at *
  refine ⟨h_0,h_1,h_2,h_3,fun h => ?_,fun h => ⟨fun hs => ⟨fun hp => ?_,fun hp => ?_⟩,fun hs => ⟨inU_mod,i1,inU_mod,i2,fun hc => ?_,fun hc => ?_⟩⟩⟩
  ·obtain ⟨h1,h2,h3⟩:=h
   have h1:decide (p < 0) = decide (q < 0):=by simpa using h1
   have h2:ab p / 18446744073709551616 = ab q / 18446744073709551616:=by simpa using h2
   have h3:ab p % 18446744073709551616 = ab q % 18446744073709551616:=by simpa using h3
   have e:ab p = ab q:=by omega
   have:p = q:=by rw [← sgn_ab p,← sgn_ab q,h1,e]
   subst this
   unfold cmpS; rw [if_neg (by omega),if_neg (by omega)]
  ·have hs:decide (p < 0)≠decide (q < 0):=by simpa using hs
   rw [hp] at hs
   have hq:¬ q < 0:=fun hc => hs (decide_eq_true hc).symm
   have hp:p < 0:=by simpa using hp
   unfold cmpS; rw [if_pos (by omega)]
  ·have hs:decide (p < 0)≠decide (q < 0):=by simpa using hs
   rw [hp] at hs
   have hq:q < 0:=by
    by_cases hc:q < 0
    ·exact hc
    ·exact absurd (decide_eq_false hc).symm hs
   have hp:¬ p < 0:=by simpa using hp
   unfold cmpS; rw [if_neg (by omega),if_pos (by omega)]
  all_goals (
   have hs:decide (p < 0) = decide (q < 0):=by simpa using hs
   have hn:¬ p = q:=by
    intro e
    subst e
    simp at h
   have hpq:p < 0 ↔ q < 0:=by
    have:=congrArg (· = true) hs
    simpa using this)
  ·have hc:decide (ab p < ab q)≠decide (p < 0):=by simpa using hc
   have hc:¬ (ab p < ab q ↔ p < 0):=fun hh => hc (by rw [decide_eq_decide]; exact hh)
   have:p < q:=by
    unfold ab at hc
    by_cases h1:p < 0
    ·rw [if_pos h1,if_pos (hpq.1 h1)] at hc; omega
    ·rw [if_neg h1,if_neg (fun h => h1 (hpq.2 h))] at hc; omega
   unfold cmpS; rw [if_pos this]
  ·have hc:decide (ab p < ab q) = decide (p < 0):=by simpa using hc
   have hc:ab p < ab q ↔ p < 0:=by rwa [decide_eq_decide] at hc
   have:q < p:=by
    unfold ab at hc
    by_cases h1:p < 0
    ·rw [if_pos h1,if_pos (hpq.1 h1)] at hc; omega
    ·rw [if_neg h1,if_neg (fun h => h1 (hpq.2 h))] at hc; omega
   unfold cmpS; rw [if_neg (by omega),if_pos this]
 ·cases hc
theorem andU_1 {x:Nat} (hx:x < 18446744073709551616):andI .u64 (x:Int) 1 = ((x % 2:Nat):Int):=by
 unfold andI
 have e1:(BitVec.ofInt IntKind.u64.bits 1).toNat = 1:=by decide
 rw [BitVec.toNat_and,e1,toNat_u hx,Nat.and_one_is_mod,wrap_u (by unfold inU; omega)]
theorem orI_add {x y s:Nat} (hy:y < 2 ^ s) (h:2 ^ s * x + y < 18446744073709551616):orI .u64 ((2 ^ s * x:Nat):Int) (y:Int) = ((2 ^ s * x + y:Nat):Int):=by
 unfold orI
 rw [BitVec.toNat_or,toNat_u (by omega),toNat_u (by omega),← Nat.two_pow_add_eq_or_of_lt hy,wrap_u (by unfold inU; omega)]
theorem or2 {x y:Nat} {p q:Int} (hp:p = ((2 * x:Nat):Int)) (hq:q = (y:Int)) (hy:y < 2) (h:2 * x + y < 18446744073709551616):orI .u64 p q = ((2 * x + y:Nat):Int):=by
 rw [hp,hq]
 have:=orI_add (x:=x) (y:=y) (s:=1) (by simpa using hy) (by simpa using h)
 simpa using this
theorem bit_high {h l:Int} {M k:Nat} (hl:inU l) (hh:inU h) (hjm:jn h l = (M:Int)) (hk:65≤k):M / 2 ^ (k - 1) = h.toNat / 2 ^ (k - 65):=by
 have p:(2:Nat) ^ 64 = 18446744073709551616:=by decide
 have e:2 ^ (k - 1) = 2 ^ 64 * 2 ^ (k - 65):=by rw [← Nat.pow_add]; congr 1; omega
 rw [e,← Nat.div_div_eq_div_mul,p]
 congr 1
 unfold jn at hjm; unfold inU at hl hh
 omega
theorem bit_low {h l:Int} {M k:Nat} (hl:inU l) (hh:inU h) (hjm:jn h l = (M:Int)) (hk0:0 < k) (hk:k < 65):M / 2 ^ (k - 1) % 2 = l.toNat / 2 ^ (k - 1) % 2:=by
 have p:(2:Nat) ^ 64 = 18446744073709551616:=by decide
 have e:(18446744073709551616:Nat) = 2 ^ (k - 1) * (2 * 2 ^ (64 - k)):=by
  rw [← p,Nat.mul_left_comm,← Nat.pow_add,← Nat.pow_succ']; congr 1; omega
 have e2:M = l.toNat + 2 ^ (k - 1) * (2 * 2 ^ (64 - k) * h.toNat):=by
  rw [← Nat.mul_assoc,← e]
  unfold jn at hjm; unfold inU at hl hh
  omega
 rw [e2,Nat.add_mul_div_left _ _ (Nat.two_pow_pos _),Nat.mul_assoc,Nat.add_mul_mod_self_left]
theorem over_step {M D k:Nat} (hk:0 < k) (hk2:k≤128) (hD:1≤D∧D≤9223372036854775808) (hM:M < 340282366920938463463374607431768211456) :
  ∀ (b:Int),b = ((M / 2 ^ (k - 1) % 2:Nat):Int) →
  ∀ (z:Int),z = IntKind.u64.wrap (((M / 2 ^ k % D:Nat):Int) * 2)→∀ (z4:Int),z4 = orI IntKind.u64 z b →
  ∀ (z:Int),z = IntKind.u64.wrap (((M / 2 ^ k / D / 18446744073709551616:Nat):Int) * 2) →
  ∀ (z5:Int),z5 = ((M / 2 ^ k / D % 18446744073709551616:Nat):Int) / 9223372036854775808→∀ (z6:Int),z6 = orI IntKind.u64 z z5 →
  ∀ (z:Int),z = IntKind.u64.wrap (((M / 2 ^ k / D % 18446744073709551616:Nat):Int) * 2) →
  ((D:Int)≤z4→∀ (z7:Int),z7 = IntKind.u64.wrap (z4 - D)→∀ (z8:Int),z8 = orI IntKind.u64 z 1→∀ (z:Int),z = IntKind.i64.wrap ((k:Int) - 1 - 1) →
   ∃ y:Nat,y≤128∧y < k∧(z = (y:Int) - 1∧z7 = ((M / 2 ^ y % D:Nat):Int))∧z6 = ((M / 2 ^ y / D / 18446744073709551616:Nat):Int)∧z8 = ((M / 2 ^ y / D % 18446744073709551616:Nat):Int)) ∧
  (¬(D:Int)≤z4→∀ (z7:Int),z7 = IntKind.i64.wrap ((k:Int) - 1 - 1) →
   ∃ y:Nat,y≤128∧y < k∧(z7 = (y:Int) - 1∧z4 = ((M / 2 ^ y % D:Nat):Int))∧z6 = ((M / 2 ^ y / D / 18446744073709551616:Nat):Int)∧z = ((M / 2 ^ y / D % 18446744073709551616:Nat):Int)):=by
 intro b hb z1 hz1 z4 hz4 z2 hz2 z5 hz5 z6 hz6 z3 hz3
 have hP:M / 2 ^ k = M / 2 ^ (k - 1) / 2:=by
  rw [Nat.div_div_eq_div_mul,← Nat.pow_succ]; congr 2; omega
 obtain ⟨Q,hQ⟩:∃ Q,Q = M / 2 ^ (k - 1):=⟨_,rfl⟩
 have hQM:Q≤M:=by rw [hQ]; exact Nat.div_le_self _ _
 rw [← hQ] at hP hb
 rw [hP] at hz1 hz2 hz3 hz5
 obtain ⟨P,hPd⟩:∃ P,P = Q / 2:=⟨_,rfl⟩
 rw [← hPd] at hz1 hz2 hz3 hz5
 have hqr:=Nat.div_add_mod P D
 have hr:=Nat.mod_lt P (show 0 < D by omega)
 have hqP:P / D≤P:=Nat.div_le_self _ _
 have hPM:P < 170141183460469231731687303715884105728:=by omega
 clear hP
 obtain ⟨q,hq⟩:∃ q,q = P / D:=⟨_,rfl⟩
 obtain ⟨r,hrr⟩:∃ r,r = P % D:=⟨_,rfl⟩
 rw [← hrr] at hz1 hqr hr
 rw [← hq] at hz2 hz3 hz5 hqr hqP
 have hw:∀ n:Nat,n < 18446744073709551616→IntKind.u64.wrap (n:Int) = n:=fun n hn => wrap_u (by unfold inU; omega)
 have e1:z1 = ((2 * r:Nat):Int):=by rw [hz1,show (r:Int) * 2 = ((2 * r:Nat):Int) by omega,hw _ (by omega)]
 have e4:z4 = ((2 * r + Q % 2:Nat):Int):=by rw [hz4]; exact or2 e1 hb (by omega) (by omega)
 have e2:z2 = ((2 * (q / 18446744073709551616):Nat):Int):=by
  rw [hz2,show ((q / 18446744073709551616:Nat):Int) * 2 = ((2 * (q / 18446744073709551616):Nat):Int) by omega,hw _ (by omega)]
 have e5:z5 = ((q % 18446744073709551616 / 9223372036854775808:Nat):Int):=by rw [hz5]; rfl
 have e6:z6 = ((2 * q / 18446744073709551616:Nat):Int):=by
  rw [hz6,or2 e2 e5 (by omega) (by omega)]
  omega
 have e3:z3 = ((2 * (q % 9223372036854775808):Nat):Int):=by
  rw [hz3,wrap_u64]; omega
 have hQe:Q = D * (2 * q) + (2 * r + Q % 2):=by
  have:D * (2 * q) = 2 * (D * q):=Nat.mul_left_comm _ _ _
  omega
 have hki:IntKind.i64.wrap ((k:Int) - 1 - 1) = ((k - 1:Nat):Int) - 1:=by rw [wrap_in (inRo (by omega))]; omega
 refine ⟨fun hc z7 hz7 z8 hz8 z9 hz9 => ⟨k - 1,by omega,by omega,⟨by rw [hz9,hki],?_⟩,?_,?_⟩,fun hc z7 hz7 => ⟨k - 1,by omega,by omega,⟨by rw [hz7,hki],?_⟩,?_,?_⟩⟩
 all_goals rw [← hQ]
 all_goals clear hz1 hz2 hz3 hz4 hz5 hz6 hb
 ·have hm:Q % D = 2 * r + Q % 2 - D:=by
   have:Q = (2 * r + Q % 2 - D) + D * (2 * q + 1):=by rw [Nat.mul_add]; omega
   conv => lhs; rw [this]
   rw [Nat.add_mul_mod_self_left,Nat.mod_eq_of_lt (by omega)]
  rw [hm,hz7,e4,show ((2 * r + Q % 2:Nat):Int) - (D:Int) = ((2 * r + Q % 2 - D:Nat):Int) by omega,hw _ (by omega)]
 ·have hd:Q / D = 2 * q + 1:=by
   have:Q = (2 * r + Q % 2 - D) + D * (2 * q + 1):=by rw [Nat.mul_add]; omega
   conv => lhs; rw [this]
   rw [Nat.add_mul_div_left _ _ (by omega),Nat.div_eq_of_lt (by omega)]; omega
  rw [hd,e6]; omega
 ·have hd:Q / D = 2 * q + 1:=by
   have:Q = (2 * r + Q % 2 - D) + D * (2 * q + 1):=by rw [Nat.mul_add]; omega
   conv => lhs; rw [this]
   rw [Nat.add_mul_div_left _ _ (by omega),Nat.div_eq_of_lt (by omega)]; omega
  rw [hd,hz8,or2 (q:=1) e3 (y:=1) rfl (by omega) (by omega)]; omega
 ·have hm:Q % D = 2 * r + Q % 2:=by
   conv => lhs; rw [hQe]
   rw [Nat.mul_add_mod,Nat.mod_eq_of_lt (by omega)]
  rw [hm,e4]
 ·have hd:Q / D = 2 * q:=by
   conv => lhs; rw [hQe]
   rw [Nat.mul_add_div (by omega),Nat.div_eq_of_lt (by omega)]; omega
  rw [hd,e6]
 ·have hd:Q / D = 2 * q:=by
   conv => lhs; rw [hQe]
   rw [Nat.mul_add_div (by omega),Nat.div_eq_of_lt (by omega)]; omega
  rw [hd,e3]; omega
def c105:Con
 | [.agg [.v (.bool g),.v (.int .u64 h),.v (.int .u64 l)],.v (.int .u64 d)] => some ([inU l,inU h,1≤d∧d≤9223372036854775808],wd g (jn h l / d))
 | _ => none
theorem con105:ConOK prog 105 c105:=ConOK.of (G:=[]) (H:=[]) .nil func105 fun l ob r hc hob => by
 unfold c105 at hc
 split at hc
 ·rename_i g h l d
  cases hc
  have hl:inU l:=hob _ (by simp)
  have hh:inU h:=hob _ (by simp)
  have hd:1≤d∧d≤9223372036854775808:=hob _ (by simp)
  refine ⟨by kernel_rfl,fnVC_go (rs:=[.cell 4 140]) rfl rfl ?_⟩
  simp only [go_sem]
  obtain ⟨D,rfl⟩:∃ n:Nat,d = n:=⟨d.toNat,by omega⟩
  obtain ⟨M,hM⟩:∃ M:Nat,M = (jn h l).toNat:=⟨_,rfl⟩
  have hjm:jn h l = (M:Int):=by rw [hM]; unfold jn; unfold inU at hl hh; omega
  have hMK:M < 340282366920938463463374607431768211456:=by unfold jn at hjm; unfold inU at hl hh; omega
  refine loopC_go (fun (k:Nat) => k≤128) (fun k => k) (fun k => [(7,i64 ((k:Int) - 1)),(6,u64 ((M / 2 ^ k % D:Nat):Int))]) (fun k => [(5,fam1 140 3 [bo g,u64 ((M / 2 ^ k / D / 18446744073709551616:Nat):Int),u64 ((M / 2 ^ k / D % 18446744073709551616:Nat):Int)] none)]) [1,0] [12,13,16,17,18,19,20,21,8,22,23,24,25,26,27,28,29,30,8,31,32,33,34,6,35,36,37,38,39,40,41,42,43,44,45,46,47,48,49,50,51,52,6,53,54,55,56,14,15,7] 128 (by kernel_rfl) ?_ (Nat.le_refl _) ?_ ?_
  ·intro x _; simp [goodNames,asg]
  ·simp only [go_sem]
   have e:M / 340282366920938463463374607431768211456 = 0:=Nat.div_eq_of_lt hMK
   rw [e,Nat.zero_mod,Nat.zero_div]
   exact ⟨⟨by decide,rfl⟩,rfl,rfl⟩
  intro k hk
  simp only [go_sem]
  have hD:1≤D∧D≤9223372036854775808:=by omega
  refine ⟨fun hk0 z hz => ?_,fun hk0 => ?_⟩
  ·have ez:z = ((k - 1:Nat):Int):=by rw [hz,show (k:Int) - 1 = ((k - 1:Nat):Int) by omega,wrap_u (by unfold inU; omega)]
   refine ⟨by rw [ez]; omega,fun z1 hz1 z2 hz2 => ⟨fun h64 z3 hz3 z4 hz4 => ?_,fun h64 => ?_⟩⟩
   ·have e3:z4 = ((k - 65:Nat):Int):=by
     rw [hz4,hz3,wrap_in (inRo (by omega)),show (k:Int) - 1 - 64 = ((k - 65:Nat):Int) by omega,wrap_u (by unfold inU; omega)]
    refine ⟨by rw [e3]; omega,fun z5 hz5 z6 hz6 => ?_⟩
    refine over_step (by omega) hk hD hMK z6 ?_
    rw [hz6,hz5,e3,Int.toNat_natCast,Nat.min_eq_left (by omega),bit_high hl hh hjm (by omega)]
    have hhn:h = ((h.toNat:Nat):Int):=by unfold inU at hh; omega
    have hle:h.toNat / 2 ^ (k - 65)≤h.toNat:=Nat.div_le_self _ _
    rw [show h.fdiv (2 ^ (k - 65)) = ((h.toNat / 2 ^ (k - 65):Nat):Int) by
     conv => lhs; rw [hhn]
     rw [show ((2:Int) ^ (k - 65)) = ((2 ^ (k - 65):Nat):Int) by simp,Int.fdiv_eq_ediv_of_nonneg _ (Int.natCast_nonneg _)]; rfl]
    exact andU_1 (by unfold inU at hh; omega)
   ·refine over_step (by omega) hk hD hMK z2 ?_
    rw [hz2,hz1,ez,Int.toNat_natCast,Nat.min_eq_left (by omega),bit_low hl hh hjm (by omega) (by omega)]
    have hhn:l = ((l.toNat:Nat):Int):=by unfold inU at hl; omega
    have hle:l.toNat / 2 ^ (k - 1)≤l.toNat:=Nat.div_le_self _ _
    rw [show l.fdiv (2 ^ (k - 1)) = ((l.toNat / 2 ^ (k - 1):Nat):Int) by
     conv => lhs; rw [hhn]
     rw [show ((2:Int) ^ (k - 1)) = ((2 ^ (k - 1):Nat):Int) by simp,Int.fdiv_eq_ediv_of_nonneg _ (Int.natCast_nonneg _)]; rfl]
    exact andU_1 (by unfold inU at hl; omega)
  ·have:k = 0:=by omega
   subst this
   rw [Nat.pow_zero,Nat.div_one,hjm]
   exact agg3 rfl (u64_eq (by omega)) (u64_eq (by omega))
 ·cases hc
def c254:Con
 | [.agg [.v (.bool g),.v (.int .u64 h),.v (.int .u64 l)]] => some ([inU l,inU h],wd false (isq (jn h l).toNat))
 | _ => none
theorem con254:ConOK prog 254 c254:=ConOK.of (G:=[(171,c171),(235,c235)]) (H:=[]) (.cons con171 (.cons con235 .nil)) func254 fun l ob r hc hob => by
 unfold c254 at hc
 split at hc
 ·rename_i g h l
  cases hc
  have hl:inU l:=hob _ (by simp)
  have hh:inU h:=hob _ (by simp)
  refine ⟨by kernel_rfl,fnVC_go (rs:=[.cell 2 140]) rfl rfl ?_⟩
  simp only [go_sem]
  obtain ⟨m,hm⟩:∃ m:Nat,m = (jn h l).toNat:=⟨_,rfl⟩
  have hjm:jn h l = (m:Int):=by rw [hm]; unfold jn; unfold inU at hl hh; omega
  have hmK:m < 340282366920938463463374607431768211456:=by unfold jn at hjm; unfold inU at hl hh; omega
  rw [← hm]
  refine loopC_go (fun (p:Nat×Nat) => p.1≤64∧isqB m p.1 p.2 = isq m∧p.2 % 2 ^ p.1 = 0∧p.2 + 2 ^ p.1≤18446744073709551616) (fun p => p.1) (fun p => [(4,i64 ((p.1:Int) - 1)),(3,u64 p.2)]) (fun _ => []) [1,0] [8,9,12,13,14,15,16,5,18,19,20,17,21,22,6,7,23,24,25,26,27,28,29,3,10,11,4] (64,0) (by kernel_rfl) ?_ ⟨by decide,rfl,by decide,by decide⟩ ?_ ?_
  ·intro x _; simp [goodNames,asg]
  ·simp only [go_sem]
   decide
  intro p hp
  obtain ⟨k,r⟩:=p
  obtain ⟨hk,hr1,hr2,hr3⟩:=hp
  dsimp only at hk hr1 hr2 hr3
  simp only [go_sem,c171,c235]
  refine ⟨fun hk0 z hz => ?_,fun hk0 => ?_⟩
  ·obtain ⟨j,rfl⟩:∃ j,k = j + 1:=⟨k - 1,by omega⟩
   have ez:z = (j:Int):=by rw [hz,show ((j + 1:Nat):Int) - 1 = (j:Int) by omega,wrap_u (by unfold inU; omega)]
   refine ⟨by rw [ez]; omega,fun z1 hz1 z2 hz2 z3 hz3 z4 hz4 => ?_⟩
   have pj:0 < 2 ^ j:=Nat.two_pow_pos j
   have pk:2 ^ (j + 1) = 2 * 2 ^ j:=by rw [Nat.pow_succ,Nat.mul_comm]
   obtain ⟨x,hx⟩:∃ x,r = 2 ^ (j + 1) * x:=⟨r / 2 ^ (j + 1),by have:=Nat.div_add_mod r (2 ^ (j + 1)); omega⟩
   have hj1:2 ^ j < 18446744073709551616:=by omega
   have e1:z1 = ((2 ^ j:Nat):Int):=by
    rw [hz1,ez,Int.toNat_natCast,Nat.min_eq_left (by omega),Int.one_mul,show ((2:Int) ^ j) = ((2 ^ j:Nat):Int) by simp,wrap_u ⟨Int.natCast_nonneg _,Int.ofNat_lt.2 hj1⟩]
   have e2:z2 = ((r + 2 ^ j:Nat):Int):=by
    rw [hz2,e1,hx]
    exact orI_add (by omega) (by rw [← hx]; omega)
   have hcU:inU z2:=by rw [e2]; exact ⟨Int.natCast_nonneg _,Int.ofNat_lt.2 (show r + 2 ^ j < 18446744073709551616 by omega)⟩
   refine ⟨hcU,hcU,fun z5 hz5 => ⟨hl,hh,?_,?_,fun h0 z6 hz6 => ⟨(j,r + 2 ^ j),⟨by dsimp only; omega,?_,?_,?_⟩,Nat.lt_succ_self j,?_,e2⟩,fun h0 z6 hz6 => ⟨(j,r),⟨by dsimp only; omega,?_,?_,?_⟩,Nat.lt_succ_self j,?_,rfl⟩⟩⟩
   all_goals (
    have hcc:z2 * z2 = (((r + 2 ^ j) * (r + 2 ^ j):Nat):Int):=by rw [e2,Int.natCast_mul]
    have hclt:r + 2 ^ j < 18446744073709551616:=by omega
    have hcK2:(r + 2 ^ j) * (r + 2 ^ j) < 18446744073709551616 * 18446744073709551616:=Nat.mul_lt_mul'' hclt hclt
    have hjc:jn z3 z4 = z2 * z2:=by rw [hz3,hz4,mod_jn]
    rw [hcc] at hz3 hz4 hjc
    generalize hcd:(r + 2 ^ j) * (r + 2 ^ j) = cc at *)
   ·rw [hz4]; exact inU_mod
   ·rw [hz3]; unfold inU; omega
   ·have:cc≤m:=by
     rw [hz5,hjc,hjm] at h0
     have:=of_decide_eq_false h0
     omega
    rw [← hr1]
    conv => rhs; unfold isqB
    rw [hcd,if_pos this]
   ·show (r + 2 ^ j) % 2 ^ j = 0
    rw [hx,pk,Nat.mul_comm 2,Nat.mul_assoc,← Nat.mul_succ,Nat.mul_mod_right]
   ·show r + 2 ^ j + 2 ^ j≤18446744073709551616
    omega
   ·rw [hz6,wrap_in (inRo (by omega))]; dsimp only; omega
   ·have:¬ cc≤m:=by
     rw [hz5,hjc,hjm] at h0
     have:=of_decide_eq_true h0
     omega
    rw [← hr1]
    conv => rhs; unfold isqB
    rw [hcd,if_neg this]
   ·show r % 2 ^ j = 0
    rw [hx,pk,Nat.mul_comm 2,Nat.mul_assoc,Nat.mul_mod_right]
   ·show r + 2 ^ j≤18446744073709551616
    omega
   ·rw [hz6,wrap_in (inRo (by omega))]; dsimp only; omega
  ·have:k = 0:=by omega
   subst this
   have e:r = isq m:=hr1
   have:=isq_small hmK
   rw [e]
   exact agg3 rfl (u64_eq (by omega)) (u64_eq (by omega))
 ·cases hc
def c28:Con
 | [.v (.int .i64 a),.v (.int .i64 b)] => some ([inR a,inR b],ra a b false)
 | _ => none
theorem con28:ConOK prog 28 c28:=ConOK.of (G:=[(104,c104),(107,c107),(106,c106),(108,c108),(105,c105),(101,c101)]) (H:=[]) (.cons con104 (.cons con107 (.cons con106 (.cons con108 (.cons con105 (.cons con101 .nil)))))) func28 fun l ob r hc hob => by
 unfold c28 at hc
 split at hc
 ·rename_i a b
  cases hc
  have h_0:=ob0 hob
  have h_1:=ob1 hob
  refine ⟨by kernel_rfl,fnVC_go (rs:=[.cell 4 24]) rfl rfl ?_⟩
  simp only [go_sem,c104,c107,c106,c108,c105,c101]
  simp only [forall_eq,mod_jn,Bool.or_false]
  refine ⟨fun hb => ?_,fun hb => ?_⟩
  ·have hb:b = 0:=by simpa using hb
   refine agg2 (i64_eq ?_) (bo_eq ?_)
   ·unfold raV; rw [if_pos hb]
   ·unfold raF; rw [if_pos hb]; rfl
  ·have hb:b≠0:=by simpa using hb
   have ha0:=ab_nonneg a
   have hb0:=ab_nonneg b
   have ha1:ab a≤9223372036854775808:=by unfold inR at h_0; exact ab_le (by omega) (by omega)
   have hb1:ab b≤9223372036854775808:=by unfold inR at h_1; exact ab_le (by omega) (by omega)
   have hb2:0 < ab b:=by unfold ab at hb0 ⊢; split <;> omega
   have e:(!decide (a < 0) == decide (b < 0)) = (decide (a < 0) != decide (b < 0)):=by cases decide (a < 0) <;> cases decide (b < 0) <;> rfl
   have k5:0≤ab a * 4294967296 / ab b:=Int.ediv_nonneg (by omega) hb0
   have k6:ab a * 4294967296 / ab b≤ab a * 4294967296:=Int.ediv_le_self _ (by omega)
   refine ⟨h_0,inU_mod,inU_div ha0 (by omega),by omega,h_1,inU_mod,inU_div (by omega) (by omega),⟨by omega,hb1⟩,inU_mod,inU_div k5 (by omega),?_⟩
   rw [e,sgn_ratio hb]
   refine agg2 (i64_eq ?_) (bo_eq ?_)
   ·unfold raV; rw [if_neg hb]
   ·unfold raF; rw [if_neg hb,Bool.or_false]
 ·cases hc
def c80:Con
 | [.agg [.v (.int .i64 v),.v (.bool f)],.agg [.v (.int .i64 u),.v (.bool e)]] => some ([inR v,inR u],ra (whV v) (whV u) (whF v f || whF u e))
 | _ => none
theorem con80:ConOK prog 80 c80:=ConOK.of (G:=[(100,c100),(104,c104),(28,c28)]) (H:=[]) (.cons con100 (.cons con104 (.cons con28 .nil))) func80 fun l ob r hc hob => by
 unfold c80 at hc
 split at hc
 ·rename_i v f u e
  cases hc
  have h_0:=ob0 hob
  have h_1:=ob1 hob
  refine ⟨by kernel_rfl,fnVC_go (rs:=[.cell 4 24]) rfl rfl ?_⟩
  simp only [go_sem,c100,c104,c28]
  simp only [forall_eq,Bool.or_false]
  refine ⟨fun hb => ?_,fun hb => ⟨inR_wh h_0,inR_wh h_1,?_⟩⟩
  ·have hb:whV u = 0:=by simpa using hb
   refine agg2 (i64_eq ?_) (bo_eq ?_)
   ·unfold raV; rw [if_pos hb]
   ·unfold raF; rw [if_pos hb]; rfl
  ·rw [Bool.or_assoc]
 ·cases hc
def c200:Con
 | [.agg [.v (.int .i64 v),.v (.bool f)],.agg [.v (.int .i64 u),.v (.bool e)]] => some ([inR v,inR u],nu (isq (whV v * whV v + whV u * whV u).toNat) (whF v f || whF u e))
 | _ => none
theorem con200:ConOK prog 200 c200:=ConOK.of (G:=[(100,c100),(103,c103),(172,c172),(254,c254),(101,c101)]) (H:=[]) (.cons con100 (.cons con103 (.cons con172 (.cons con254 (.cons con101 .nil))))) func200 fun l ob r hc hob => by
 unfold c200 at hc
 split at hc
 ·rename_i v f u e
  cases hc
  have h_0:=ob0 hob
  have h_1:=ob1 hob
  refine ⟨by kernel_rfl,fnVC_go (rs:=[.cell 4 24]) rfl rfl ?_⟩
  simp only [go_sem,c100,c103,c172,c254,c101]
  simp only [forall_eq,mod_jn,sgn_f,ab_sq]
  have k:=mul_rg (inR_wh h_0) (inR_wh h_0)
  have k0:=sq_nonneg (a:=whV v)
  have j:=mul_rg (inR_wh h_1) (inR_wh h_1)
  have j0:=sq_nonneg (a:=whV u)
  rw [ab_sq] at k j
  have e:plM (decide (whV v * whV v < 0)) (whV v * whV v) (decide (whV u * whV u < 0)) (whV u * whV u) = whV v * whV v + whV u * whV u:=by
   unfold plM; rw [if_pos (by rw [decide_eq_false (by omega),decide_eq_false (by omega)])]
  rw [e]
  have s:=isq_small (m:=(whV v * whV v + whV u * whV u).toNat) (by omega)
  refine ⟨inR_wh h_0,inR_wh h_0,inR_wh h_1,inR_wh h_1,inU_mod,inU_div k0 (by omega),inU_mod,inU_div j0 (by omega),by omega,inU_mod,inU_div (by omega) (by omega),inU_mod,inU_div (by omega) (by omega),?_⟩
  trivial
 ·cases hc
def c158:Con
 | [.ro n 2 g] => some ([nums n g,n≤1000],bo (wfS n g))
 | _ => none
theorem vc158 (n:Nat) (X:Nat→Int) (F:Nat→Bool) (hn:n≤1000):fnVC prog [(100,c100)] [] Tryz.f158 [.ro n 2 fun i => [i64 (X i),bo (F i)]] (· = bo (anyB (fun i => whF (X i) (F i)) n)):=by
 refine fnVC_go (rs:=[.tmp 2]) rfl rfl ?_
 simp only [go_sem]
 refine loopC_go (fun (i:Nat) => i≤n∧∀ j,j < i→whF (X j) (F j) = false) (fun i => n - i) (fun i => [(3,i64 i)]) (fun _ => []) [] [6,7,8,9,13,14,15,16,17,12,18,19,4,5,20,2,10,11,3] 0 (by kernel_rfl) ?_ ⟨Nat.zero_le _,fun j h => by omega⟩ ?_ ?_
 ·intro x _; simp [goodNames]
 ·simp only [go_sem]
 ·intro i hi
  simp only [go_sem,c100]
  refine ⟨fun h => ⟨by omega,h,fun z hz z1 hz1 => ⟨fun hx => ?_,fun hx z2 hz2 => ⟨i + 1,⟨by omega,fun j hj => ?_⟩,by omega,?_⟩⟩⟩,fun h => false_of' fun hc => ?_⟩
  ·exact (anyB_iff.2 ⟨i,by omega,by rw [hz1] at hx; exact hx⟩).symm
  ·by_cases e:j = i
   ·subst e; rw [hz1] at hx; exact hx
   ·exact hi.2 j (by omega)
  ·rw [hz2,wrap_in (inRo (by omega))]; rfl
  ·obtain ⟨j,h1,h2⟩:=anyB_iff.1 hc
   rw [hi.2 j (by omega)] at h2; cases h2
theorem con158:ConOK prog 158 c158:=ConOK.go (G:=[(100,c100)]) (H:=[]) (.cons con100 .nil) func158 fun l ob r hc hob => by
 unfold c158 at hc
 split at hc
 ·rename_i n g
  cases hc
  have hs:nums n g:=hob _ (by simp)
  refine ⟨[.ro n 2 fun i => [i64 (gx g 0 i),bo (gb g 1 i)]],fun w I vs h => Rs_one (fun v => ro_alike fun i hi => (hs i hi).1) h,by kernel_rfl,vc158 n _ _ (hob _ (by simp))⟩
 ·cases hc
def smR (X:Nat→Int):Nat→Bool×Int
 | 0 => (false,0)
 | i + 1 => (rpG (smR X i).1 (smR X i).2 (decide (X i < 0)) (ab (X i)),plM (smR X i).1 (smR X i).2 (decide (X i < 0)) (ab (X i)))
theorem smR_ok {X:Nat→Int}:∀ i,sgn (smR X i).1 (smR X i).2 = suS X i∧0≤(smR X i).2
 | 0 => ⟨rfl,Int.le_refl 0⟩
 | i + 1 => by
  obtain ⟨h1,h2⟩:=smR_ok (X:=X) i
  unfold smR suS
  exact ⟨by rw [rp_sgn,h1,sgn_ab],plM_nonneg h2 (ab_nonneg _)⟩
theorem smR_le {X:Nat→Int} {n:Nat} (h:∀ i,i < n→rg (X i)):∀ i,i≤n→(smR X i).2≤9223372036854775807 * i
 | 0,_ => by simp [smR]
 | i + 1,hi => by
  have h0:=smR_le h i (by omega)
  have h1:=h i (by omega)
  unfold rg at h1
  have h2:ab (X i)≤9223372036854775807:=ab_le (by omega) (by omega)
  have h3:=plM_le (g:=(smR X i).1) (g':=decide (X i < 0)) (smR_ok (X:=X) i).2 (ab_nonneg (X i))
  unfold smR
  dsimp only
  omega
def c159:Con
 | [.ro n 2 g] => some ([nums n g,n≤1000],nu (suS (wvS g) n) (wfS n g))
 | _ => none
theorem vc159 (n:Nat) (X:Nat→Int) (F:Nat→Bool) (hX:∀ i,i < n→inR (X i)) (hn:n≤1000):fnVC prog [(100,c100),(107,c107),(172,c172),(158,c158),(101,c101)] [(6,⟨[(4,.slot 3)],[]⟩),(7,⟨[(4,.slot 2)],[]⟩)] Tryz.f159 [.ro n 2 fun i => [i64 (X i),bo (F i)]] (· = nu (suS (fun i => whV (X i)) n) (anyB (fun i => whF (X i) (F i)) n)):=by
 refine fnVC_go (rs:=[.cell 2 24]) rfl rfl ?_
 simp only [go_sem]
 have hr:∀ i,i < n→rg (whV (X i)):=fun i hi => whV_rg (hX i hi)
 refine loopC_go (fun (i:Nat) => i≤n) (fun i => n - i) (fun i => [(4,i64 i)]) (fun i => [(2,fam1 140 3 [bo (smR (fun i => whV (X i)) i).1,u64 ((smR (fun i => whV (X i)) i).2 / 18446744073709551616),u64 ((smR (fun i => whV (X i)) i).2 % 18446744073709551616)] none)]) [0] [8,9,10,11,15,16,17,18,19,14,20,21,5,6,22,23,24,25,12,13,4] 0 (by kernel_rfl) ?_ (Nat.zero_le _) ?_ ?_
 ·intro x _; simp [goodNames,asg]
 ·simp only [go_sem,smR]
  simp
 ·intro i hi
  simp only [go_sem,c100,c107,c172,c158,c101]
  have h1:=smR_ok (X:=fun i => whV (X i)) i
  have h2:=smR_le (X:=fun i => whV (X i)) hr i hi
  refine ⟨fun hin => ?_,fun hin => ?_⟩
  ·have h3:=hr i (by omega)
   have h4:=ab_nonneg (whV (X i))
   have h5:ab (whV (X i))≤9223372036854775807:=by unfold rg at h3; exact ab_le (by omega) (by omega)
   simp only [forall_eq,mod_jn]
   refine ⟨by omega,hin,rg_inR h3,inU_mod,inU_div h1.2 (by omega),inU_mod,inU_div h4 (by omega),by omega,⟨i + 1,by omega,by omega,?_,rfl,rfl,rfl⟩⟩
   rw [wrap_in (inRo (by omega))]; rfl
  ·have e:i = n:=by omega
   subst e
   simp only [forall_eq,mod_jn]
   refine ⟨fun k hk => ⟨rfl,hX k hk⟩,hn,inU_mod,inU_div h1.2 (by omega),?_⟩
   rw [h1.1]
   rfl
theorem con159:ConOK prog 159 c159:=ConOK.go (G:=[(100,c100),(107,c107),(172,c172),(158,c158),(101,c101)]) (H:=[(6,⟨[(4,.slot 3)],[]⟩),(7,⟨[(4,.slot 2)],[]⟩)]) (.cons con100 (.cons con107 (.cons con172 (.cons con158 (.cons con101 .nil))))) func159 fun l ob r hc hob => by
 unfold c159 at hc
 split at hc
 ·rename_i n g
  cases hc
  have hs:nums n g:=hob _ (by simp)
  exact ⟨[.ro n 2 fun i => [i64 (gx g 0 i),bo (gb g 1 i)]],fun w I vs h => Rs_one (fun v => ro_alike fun i hi => (hs i hi).1) h,by kernel_rfl,vc159 n _ _ (fun i hi => (hs i hi).2) (hob _ (by simp))⟩
 ·cases hc
def c165:Con
 | [.ro n 2 g] => some ([nums n g,n≤1000],moS 1 n g)
 | _ => none
theorem vc165 (n:Nat) (X:Nat→Int) (F:Nat→Bool) (hX:∀ i,i < n→inR (X i)) (hn:n≤1000):fnVC prog [(100,c100),(158,c158)] [] Tryz.f165 [.ro n 2 fun i => [i64 (X i),bo (F i)]] (· = .agg [i64 (if n = 0 then 0 else msS 1 (fun i => whV (X i)) n),bo (anyB (fun i => whF (X i) (F i)) n)]):=by
 refine fnVC_go (rs:=[.cell 2 24]) rfl rfl ?_
 simp only [go_sem,c100]
 refine ⟨fun h => ?_,fun h => ?_⟩
 ·have:n = 0:=by simpa using h
  subst this
  rfl
 have h:n≠0:=by simpa using h
 refine ⟨by omega,fun z hz z1 hz1 => ?_⟩
 refine loopC_go (fun (i:Nat) => i + 1≤n) (fun i => n - i) (fun i => [(5,i64 ((i + 1:Nat):Int)),(3,i64 (exS 1 (whV (X 0)) (fun i => whV (X (i + 1))) i))]) (fun _ => []) [0] [19,20,21,22,26,27,28,29,30,25,31,32,6,7,33,34,35,36,3,23,24,5] 0 (by kernel_rfl) ?_ (by omega) ?_ ?_
 ·intro x _; simp [goodNames,asg]
 ·simp only [go_sem,exS]
  exact hz
 ·intro i hi
  simp only [go_sem,c100,c158]
  have hw:IntKind.i64.wrap (((i + 1:Nat):Int) + 1) = ((i + 1 + 1:Nat):Int):=by rw [wrap_in (inRo (by omega))]; rfl
  refine ⟨fun hin => ⟨by omega,hin,fun z2 hz2 z3 hz3 => ⟨fun h2 z4 hz4 => ⟨i + 1,by omega,by omega,by rw [hz4,hw],?_⟩,fun h2 z4 hz4 => ⟨i + 1,by omega,by omega,by rw [hz4,hw],?_⟩⟩⟩,fun hin z2 hz2 => ⟨fun k hk => ⟨rfl,hX k hk⟩,hn,?_⟩⟩
  ·conv => rhs; unfold exS
   rw [hz2] at h2
   rw [if_pos (.inl ⟨rfl,h2⟩),hz2]
  ·conv => rhs; unfold exS
   rw [hz2] at h2
   rw [if_neg ?_]
   rintro (⟨_,k⟩ | ⟨k,_⟩)
   ·exact h2 k
   ·exact absurd k (by decide)
  ·have e:i = n - 1:=by omega
   refine agg2 (i64_eq ?_) (bo_eq hz2)
   rw [if_neg h,e]
   rfl
theorem con165:ConOK prog 165 c165:=ConOK.go (G:=[(100,c100),(158,c158)]) (H:=[]) (.cons con100 (.cons con158 .nil)) func165 fun l ob r hc hob => by
 unfold c165 at hc
 split at hc
 ·rename_i n g
  cases hc
  have hs:nums n g:=hob _ (by simp)
  exact ⟨[.ro n 2 fun i => [i64 (gx g 0 i),bo (gb g 1 i)]],fun w I vs h => Rs_one (fun v => ro_alike fun i hi => (hs i hi).1) h,by kernel_rfl,vc165 n _ _ (fun i hi => (hs i hi).2) (hob _ (by simp))⟩
 ·cases hc
def c78:Con
 | [.ro n 2 g] => some ([nums n g,n≤1000],moS (-1) n g)
 | _ => none
theorem vc78 (n:Nat) (X:Nat→Int) (F:Nat→Bool) (hX:∀ i,i < n→inR (X i)) (hn:n≤1000):fnVC prog [(100,c100),(158,c158)] [] Tryz.f78 [.ro n 2 fun i => [i64 (X i),bo (F i)]] (· = .agg [i64 (if n = 0 then 0 else msS (-1) (fun i => whV (X i)) n),bo (anyB (fun i => whF (X i) (F i)) n)]):=by
 refine fnVC_go (rs:=[.cell 2 24]) rfl rfl ?_
 simp only [go_sem,c100]
 refine ⟨fun h => ?_,fun h => ?_⟩
 ·have:n = 0:=by simpa using h
  subst this
  rfl
 have h:n≠0:=by simpa using h
 refine ⟨by omega,fun z hz z1 hz1 => ?_⟩
 refine loopC_go (fun (i:Nat) => i + 1≤n) (fun i => n - i) (fun i => [(5,i64 ((i + 1:Nat):Int)),(3,i64 (exS (-1) (whV (X 0)) (fun i => whV (X (i + 1))) i))]) (fun _ => []) [0] [19,20,21,22,26,27,28,29,30,25,31,32,6,7,33,34,35,36,3,23,24,5] 0 (by kernel_rfl) ?_ (by omega) ?_ ?_
 ·intro x _; simp [goodNames,asg]
 ·simp only [go_sem,exS]
  exact hz
 ·intro i hi
  simp only [go_sem,c100,c158]
  have hw:IntKind.i64.wrap (((i + 1:Nat):Int) + 1) = ((i + 1 + 1:Nat):Int):=by rw [wrap_in (inRo (by omega))]; rfl
  refine ⟨fun hin => ⟨by omega,hin,fun z2 hz2 z3 hz3 => ⟨fun h2 z4 hz4 => ⟨i + 1,by omega,by omega,by rw [hz4,hw],?_⟩,fun h2 z4 hz4 => ⟨i + 1,by omega,by omega,by rw [hz4,hw],?_⟩⟩⟩,fun hin z2 hz2 => ⟨fun k hk => ⟨rfl,hX k hk⟩,hn,?_⟩⟩
  ·conv => rhs; unfold exS
   rw [hz2] at h2
   rw [if_pos (.inr ⟨rfl,h2⟩),hz2]
  ·conv => rhs; unfold exS
   rw [hz2] at h2
   rw [if_neg ?_]
   rintro (⟨k,_⟩ | ⟨_,k⟩)
   ·exact absurd k (by decide)
   ·exact h2 k
  ·have e:i = n - 1:=by omega
   refine agg2 (i64_eq ?_) (bo_eq hz2)
   rw [if_neg h,e]
   rfl
theorem con78:ConOK prog 78 c78:=ConOK.go (G:=[(100,c100),(158,c158)]) (H:=[]) (.cons con100 (.cons con158 .nil)) func78 fun l ob r hc hob => by
 unfold c78 at hc
 split at hc
 ·rename_i n g
  cases hc
  have hs:nums n g:=hob _ (by simp)
  exact ⟨[.ro n 2 fun i => [i64 (gx g 0 i),bo (gb g 1 i)]],fun w I vs h => Rs_one (fun v => ro_alike fun i hi => (hs i hi).1) h,by kernel_rfl,vc78 n _ _ (fun i hi => (hs i hi).2) (hob _ (by simp))⟩
 ·cases hc
def c79:Con
 | [.agg [.v (.int .i64 v),.v (.bool f)],.agg [.v (.int .i64 u),.v (.bool e)]] => some ([inR v,inR u],nu (whV v + whV u) (whF v f || whF u e))
 | _ => none
theorem con79:ConOK prog 79 c79:=ConOK.of (G:=[(159,c159)]) (H:=[]) (.cons con159 .nil) func79 fun l ob r hc hob => by
 unfold c79 at hc
 split at hc
 ·rename_i v f u e
  cases hc
  have h_0:=ob0 hob
  have h_1:=ob1 hob
  refine ⟨by kernel_rfl,fnVC_go (rs:=[.cell 4 24]) rfl rfl ?_⟩
  simp only [go_sem,c159]
  simp only [forall_eq]
  obtain ⟨e1,e2⟩:=sum2 (g:=rowsOf 2 [i64 v,bo f,i64 u,bo e]) rfl rfl
  refine ⟨nums2 rfl rfl h_0 h_1,?_⟩
  rw [e1,e2]
 ·cases hc
def c81:Con
 | [.agg [.v (.int .i64 v),.v (.bool f)],.agg [.v (.int .i64 u),.v (.bool e)]] => some ([inR v,inR u],nu (whV v - whV u) (whF v f || whF u e))
 | _ => none
theorem con81:ConOK prog 81 c81:=ConOK.of (G:=[(92,c92),(159,c159)]) (H:=[(1,⟨[(5,.slot 4)],[]⟩)]) (.cons con92 (.cons con159 .nil)) func81 fun l ob r hc hob => by
 unfold c81 at hc
 split at hc
 ·rename_i v f u e
  cases hc
  have h_0:=ob0 hob
  have h_1:=ob1 hob
  refine ⟨by kernel_rfl,fnVC_go (rs:=[.cell 4 24]) rfl rfl ?_⟩
  simp only [go_sem,c92,c159]
  simp only [forall_eq]
  have k:=whV_rg h_1
  have k2:rg (-whV u):=by unfold rg at *; omega
  refine ⟨h_1,nums2 rfl rfl h_0 (rg_inR k2),?_⟩
  obtain ⟨e1,e2⟩:=sum2 (g:=rowsOf 2 [i64 v,bo f,i64 (-whV u),bo (whF u e)]) rfl rfl
  rw [e1,e2,whV_of k2,whF_of k2]
  rfl
 ·cases hc
def c95:Con
 | [.agg [.v (.int .i64 x),.v (.bool f)],.agg [.v (.int .i64 l),.v (.bool p)],.agg [.v (.int .i64 h),.v (.bool q)]] => some ([inR x,inR l,inR h],.agg [i64 (max (whV l) (min (whV x) (whV h))),bo (whF l p || (whF x f || whF h q))])
 | _ => none
theorem con95:ConOK prog 95 c95:=ConOK.of (G:=[(165,c165),(78,c78)]) (H:=[(1,⟨[(7,.slot 6)],[]⟩)]) (.cons con165 (.cons con78 .nil)) func95 fun l ob r hc hob => by
 unfold c95 at hc
 split at hc
 ·rename_i x f l p h q
  cases hc
  have h_0:=ob0 hob
  have h_1:=ob1 hob
  have h_2:=ob2 hob
  refine ⟨by kernel_rfl,fnVC_go (rs:=[.cell 6 24]) rfl rfl ?_⟩
  simp only [go_sem,c165,c78]
  intro z hz z1 hz1
  refine ⟨nums2 rfl rfl h_0 h_2,fun z2 hz2 z3 hz3 => ?_⟩
  rw [mo2 rfl rfl] at hz
  rw [(sum2 (a:=x) (b:=h) (e:=f) (f:=q) rfl rfl).2] at hz1
  have kx:=whV_rg h_0
  have kl:=whV_rg h_1
  have kh:=whV_rg h_2
  have kz:rg z:=by rw [hz]; split <;> assumption
  refine ⟨nums2 rfl rfl h_1 (rg_inR kz),?_⟩
  rw [mo2 rfl rfl,whV_of kz] at hz2
  rw [(sum2 (a:=l) (b:=z) (e:=p) (f:=z1) rfl rfl).2,whF_of kz] at hz3
  refine agg2 (i64_eq ?_) (bo_eq (by rw [hz3,hz1]))
  rw [hz2,hz]
  simp only [Int.reduceNeg]
  have e1:((1:Int) = -1) = False:=by decide
  have e2:((-1:Int) = 1) = False:=by decide
  simp only [e1,e2,eq_self,true_and,false_and,or_false,false_or,Int.max_def,Int.min_def]
  repeat' split
  all_goals omega
 ·cases hc
def c197:Con
 | [.v (.int .i64 v)] => some ([],.agg [i64 (whV v),bo (whF v false)])
 | _ => none
theorem con197:ConOK prog 197 c197:=ConOK.of (G:=[(100,c100)]) (H:=[]) (.cons con100 .nil) func197 fun l ob r hc hob => by
 unfold c197 at hc
 split at hc
 ·rename_i v
  cases hc
  refine ⟨by kernel_rfl,fnVC_go (rs:=[.cell 2 24]) rfl rfl ?_⟩
  simp only [go_sem,c100]
  simp only [forall_eq]
 ·cases hc
def wpV (v:Int):Int:=if 13493037704 < v.tmod 26986075409 then v.tmod 26986075409 - 26986075409 else if v.tmod 26986075409 < -13493037704 then v.tmod 26986075409 + 26986075409 else v.tmod 26986075409
def c267:Con
 | [.agg [.v (.int .i64 v),.v (.bool f)]] => some ([inR v],.agg [i64 (wpV (whV v)),bo (whF v f)])
 | _ => none
theorem con267:ConOK prog 267 c267:=ConOK.of (G:=[(100,c100)]) (H:=[]) (.cons con100 .nil) func267 fun l ob r hc hob => by
 unfold c267 at hc
 split at hc
 ·rename_i v f
  cases hc
  have h_0:=ob0 hob
  refine ⟨by kernel_rfl,fnVC_go (rs:=[.cell 2 24]) rfl rfl ?_⟩
  simp only [go_sem,c100]
  simp only [forall_eq]
  have h1:=Int.tmod_lt_of_pos (whV v) (show (0:Int) < 26986075409 by decide)
  have h2:-26986075409 < (whV v).tmod 26986075409:=by
   have:=Int.neg_emod_two
   rcases Int.le_total 0 (whV v) with h | h
   ·have:=Int.tmod_nonneg 26986075409 h; omega
   ·have e:(whV v).tmod 26986075409 = -((-whV v).tmod 26986075409):=by rw [Int.neg_tmod,Int.neg_neg]
    have:=Int.tmod_lt_of_pos (-whV v) (show (0:Int) < 26986075409 by decide)
    omega
  unfold wpV
  generalize (whV v).tmod 26986075409 = t at *
  rw [wrap_in (x:=t - 26986075409) (inRo (by omega)),wrap_in (x:=t + 26986075409) (inRo (by omega)),wrap_in (x:=t - 26986075409 + 26986075409) (inRo (by omega))]
  refine ⟨fun h => ⟨fun h3 => agg2 (i64_eq (by rw [if_pos h]; omega)) rfl,fun h3 => agg2 (i64_eq (by rw [if_pos h])) rfl⟩,fun h => ⟨fun h3 => agg2 (i64_eq (by rw [if_neg h,if_pos h3])) rfl,fun h3 => agg2 (i64_eq (by rw [if_neg h,if_neg h3])) rfl⟩⟩
 ·cases hc
abbrev Nb:=Int×Bool
def nMul (a b:Nb):Nb:=(ftV ((whV a.1 * whV b.1).tdiv 4294967296),ftF ((whV a.1 * whV b.1).tdiv 4294967296) || (whF a.1 a.2 || whF b.1 b.2))
def nInt (n:Int):Nb:=(ftV (n * 4294967296),ftF (n * 4294967296) || false)
def nDiv (a b:Nb):Nb:=(raV (whV a.1) (whV b.1),raF (whV a.1) (whV b.1) || (whF a.1 a.2 || whF b.1 b.2))
def nNeg (a:Nb):Nb:=(-whV a.1,whF a.1 a.2)
def nAdd (a b:Nb):Nb:=(ftV (whV a.1 + whV b.1),ftF (whV a.1 + whV b.1) || (whF a.1 a.2 || whF b.1 b.2))
def snT (y:Nb):Nat→Nb
 | 0 => y
 | k + 1 => nNeg (nDiv (nMul (nMul (snT y k) y) y) (nInt (2 * ((k:Int) + 1) * (2 * ((k:Int) + 1) + 1))))
def snS (y:Nb):Nat→Nb
 | 0 => y
 | k + 1 => nAdd (snS y k) (snT y (k + 1))
theorem nMul_rg {a b:Nb}:rg (nMul a b).1:=ftV_rg _
theorem nInt_rg {n:Int}:rg (nInt n).1:=ftV_rg _
theorem nDiv_rg {a b:Nb}:rg (nDiv a b).1:=raV_rg
theorem nNeg_rg {a:Nb} (h:inR a.1):rg (nNeg a).1:=by have:=whV_rg h; unfold nNeg rg at *; dsimp only; omega
theorem nAdd_rg {a b:Nb}:rg (nAdd a b).1:=ftV_rg _
theorem snT_in {y:Nb} (h:inR y.1):∀ k,inR (snT y k).1
 | 0 => h
 | k + 1 => rg_inR (nNeg_rg (rg_inR nDiv_rg))
theorem snS_in {y:Nb} (h:inR y.1):∀ k,inR (snS y k).1
 | 0 => h
 | k + 1 => rg_inR nAdd_rg
def qtV (y:Int):Int:=if (if 6746518852 < y then 13493037704 - y else y) < -6746518852 then -13493037704 - (if 6746518852 < y then 13493037704 - y else y) else (if 6746518852 < y then 13493037704 - y else y)
theorem wpV_le {v:Int}:-13493037704≤wpV v∧wpV v≤13493037704:=by
 have h1:=Int.tmod_lt_of_pos v (show (0:Int) < 26986075409 by decide)
 have h2:-26986075409 < v.tmod 26986075409:=by
  rcases Int.le_total 0 v with h | h
  ·have:=Int.tmod_nonneg 26986075409 h; omega
  ·have e:v.tmod 26986075409 = -((-v).tmod 26986075409):=by rw [Int.neg_tmod,Int.neg_neg]
   have:=Int.tmod_lt_of_pos (-v) (show (0:Int) < 26986075409 by decide)
   omega
 unfold wpV
 split
 ·omega
 ·split <;> omega
def snY (v:Int) (f:Bool):Nb:=(qtV (wpV (whV v)),whF v f)
def snV (v:Int) (f:Bool):Int:=max (-4294967296) (min (whV (snS (snY v f) 8).1) 4294967296)
def snF (v:Int) (f:Bool):Bool:=whF (snS (snY v f) 8).1 (snS (snY v f) 8).2
def c227:Con
 | [.agg [.v (.int .i64 v),.v (.bool f)]] => some ([inR v],.agg [i64 (snV v f),bo (snF v f)])
 | _ => none
theorem con227:ConOK prog 227 c227:=ConOK.of (G:=[(267,c267),(27,c27),(143,c143),(80,c80),(92,c92),(79,c79),(95,c95)]) (H:=[(6,⟨[(4,.made 2),(5,.made 3)],[(1,[.made 2])]⟩),(10,⟨[(14,.slot 4)],[]⟩)]) (.cons con267 (.cons con27 (.cons con143 (.cons con80 (.cons con92 (.cons con79 (.cons con95 .nil))))))) func227 fun l ob r hc hob => by
 unfold c227 at hc
 split at hc
 ·rename_i v f
  cases hc
  have h_0:=ob0 hob
  refine ⟨by kernel_rfl,fnVC_go (rs:=[.cell 2 24]) rfl rfl ?_⟩
  simp only [go_sem,c267]
  intro z hz z1 hz1
  have hw:=wpV_le (v:=whV v)
  rw [← hz] at hw
  obtain ⟨y,hy⟩:∃ y:Nb,y = snY v f:=⟨_,rfl⟩
  have y2:z1 = y.2:=by rw [hy]; exact hz1
  have yq:y.1 = qtV z:=by rw [hy,hz]; rfl
  have yi:inR y.1:=by rw [yq]; unfold qtV inR; (repeat' split) <;> omega
  have ev:snV v f = max (-4294967296) (min (whV (snS y 8).1) 4294967296):=by rw [hy]; rfl
  have ef:snF v f = whF (snS y 8).1 (snS y 8).2:=by rw [hy]; rfl
  rw [ev,ef]
  clear ev ef hy hz hz1
  refine ⟨h_0,fun h z2 hz2 => ⟨fun h2 => ?_,fun h2 => ?_⟩,fun h => ⟨fun h2 z3 hz3 => ?_,fun h2 => ?_⟩⟩
  ·exfalso
   rw [hz2,wrap_in (inRo (by omega))] at h2; omega
  ·have e:z2 = y.1:=by rw [hz2,wrap_in (inRo (by omega)),yq]; unfold qtV; rw [if_pos h,if_neg (by omega)]
   subst e
   subst y2
   refine loopC_go (fun (k:Nat) => k≤8) (fun k => 8 - k) (fun k => [(6,i64 ((k:Int) + 1))]) (fun k => [(20,fam1 24 2 [i64 (snS y k).1,bo (snS y k).2] none),(19,fam1 24 2 [i64 (snT y k).1,bo (snT y k).2] none)]) [4,1,0] [25,26,29,30,31,32,33,34,35,36,37,38,39,40,41,42,43,44,45,27,28,6] 0 (by kernel_rfl) ?_ (Nat.zero_le _) ?_ ?_
   ·intro x _; simp [goodNames,asg]
   ·simp only [go_sem,snT,snS]
   intro k hk
   simp only [go_sem,c27,c143,c80,c92,c79,c95]
   refine ⟨fun hk8 => ?_,fun hk8 => ?_⟩
   ·have n1:0≤2 * ((k:Int) + 1) * (2 * ((k:Int) + 1) + 1):=Int.mul_nonneg (by omega) (by omega)
    have n2:2 * ((k:Int) + 1) * (2 * ((k:Int) + 1) + 1)≤16 * 17:=Int.mul_le_mul (by omega) (by omega) (by omega) (by omega)
    have w1:IntKind.i64.wrap (2 * ((k:Int) + 1)) = 2 * ((k:Int) + 1):=wrap_in (inRo (by omega))
    have w2:IntKind.i64.wrap (2 * ((k:Int) + 1) + 1) = 2 * ((k:Int) + 1) + 1:=wrap_in (inRo (by omega))
    have w3:IntKind.i64.wrap (2 * ((k:Int) + 1) * (2 * ((k:Int) + 1) + 1)) = 2 * ((k:Int) + 1) * (2 * ((k:Int) + 1) + 1):=wrap_in (inRo (by omega))
    have w4:IntKind.i64.wrap ((k:Int) + 1 + 1) = ((k + 1:Nat):Int) + 1:=by rw [wrap_in (inRo (by omega))]; rfl
    simp only [forall_eq,w1,w2,w3,w4]
    exact ⟨snT_in yi k,yi,rg_inR (ftV_rg _),yi,inRo (by omega),rg_inR (ftV_rg _),rg_inR (ftV_rg _),rg_inR raV_rg,snS_in yi k,rg_inR (nNeg_rg (a:=nDiv (nMul (nMul (snT y k) y) y) (nInt (2 * ((k:Int) + 1) * (2 * ((k:Int) + 1) + 1)))) (rg_inR nDiv_rg)),k + 1,by omega,by omega,rfl,⟨rfl,rfl⟩,rfl,rfl⟩
   ·have e8:k = 8:=by omega
    subst e8
    have c1:whV (-4294967296) = -4294967296:=by decide
    have c2:whV 4294967296 = 4294967296:=by decide
    have c3:whF (-4294967296) false = false:=by decide
    have c4:whF 4294967296 false = false:=by decide
    simp only [forall_eq,c1,c2,c3,c4,Bool.false_or,Bool.or_false]
    exact ⟨snS_in yi 8,inRo (by omega),inRo (by omega),trivial⟩
  ·have e:z3 = y.1:=by rw [hz3,wrap_in (inRo (by omega)),yq]; unfold qtV; rw [if_neg h,if_pos h2]
   subst e
   subst y2
   refine loopC_go (fun (k:Nat) => k≤8) (fun k => 8 - k) (fun k => [(6,i64 ((k:Int) + 1))]) (fun k => [(20,fam1 24 2 [i64 (snS y k).1,bo (snS y k).2] none),(19,fam1 24 2 [i64 (snT y k).1,bo (snT y k).2] none)]) [4,1,0] [25,26,29,30,31,32,33,34,35,36,37,38,39,40,41,42,43,44,45,27,28,6] 0 (by kernel_rfl) ?_ (Nat.zero_le _) ?_ ?_
   ·intro x _; simp [goodNames,asg]
   ·simp only [go_sem,snT,snS]
   intro k hk
   simp only [go_sem,c27,c143,c80,c92,c79,c95]
   refine ⟨fun hk8 => ?_,fun hk8 => ?_⟩
   ·have n1:0≤2 * ((k:Int) + 1) * (2 * ((k:Int) + 1) + 1):=Int.mul_nonneg (by omega) (by omega)
    have n2:2 * ((k:Int) + 1) * (2 * ((k:Int) + 1) + 1)≤16 * 17:=Int.mul_le_mul (by omega) (by omega) (by omega) (by omega)
    have w1:IntKind.i64.wrap (2 * ((k:Int) + 1)) = 2 * ((k:Int) + 1):=wrap_in (inRo (by omega))
    have w2:IntKind.i64.wrap (2 * ((k:Int) + 1) + 1) = 2 * ((k:Int) + 1) + 1:=wrap_in (inRo (by omega))
    have w3:IntKind.i64.wrap (2 * ((k:Int) + 1) * (2 * ((k:Int) + 1) + 1)) = 2 * ((k:Int) + 1) * (2 * ((k:Int) + 1) + 1):=wrap_in (inRo (by omega))
    have w4:IntKind.i64.wrap ((k:Int) + 1 + 1) = ((k + 1:Nat):Int) + 1:=by rw [wrap_in (inRo (by omega))]; rfl
    simp only [forall_eq,w1,w2,w3,w4]
    exact ⟨snT_in yi k,yi,rg_inR (ftV_rg _),yi,inRo (by omega),rg_inR (ftV_rg _),rg_inR (ftV_rg _),rg_inR raV_rg,snS_in yi k,rg_inR (nNeg_rg (a:=nDiv (nMul (nMul (snT y k) y) y) (nInt (2 * ((k:Int) + 1) * (2 * ((k:Int) + 1) + 1)))) (rg_inR nDiv_rg)),k + 1,by omega,by omega,rfl,⟨rfl,rfl⟩,rfl,rfl⟩
   ·have e8:k = 8:=by omega
    subst e8
    have c1:whV (-4294967296) = -4294967296:=by decide
    have c2:whV 4294967296 = 4294967296:=by decide
    have c3:whF (-4294967296) false = false:=by decide
    have c4:whF 4294967296 false = false:=by decide
    simp only [forall_eq,c1,c2,c3,c4,Bool.false_or,Bool.or_false]
    exact ⟨snS_in yi 8,inRo (by omega),inRo (by omega),trivial⟩
  ·have e:z = y.1:=by rw [yq]; unfold qtV; rw [if_neg h,if_neg h2]
   subst e
   subst y2
   refine loopC_go (fun (k:Nat) => k≤8) (fun k => 8 - k) (fun k => [(6,i64 ((k:Int) + 1))]) (fun k => [(15,fam1 24 2 [i64 (snS y k).1,bo (snS y k).2] none),(14,fam1 24 2 [i64 (snT y k).1,bo (snT y k).2] none)]) [4,1,0] [25,26,29,30,31,32,33,34,35,36,37,38,39,40,41,42,43,44,45,27,28,6] 0 (by kernel_rfl) ?_ (Nat.zero_le _) ?_ ?_
   ·intro x _; simp [goodNames,asg]
   ·simp only [go_sem,snT,snS]
   intro k hk
   simp only [go_sem,c27,c143,c80,c92,c79,c95]
   refine ⟨fun hk8 => ?_,fun hk8 => ?_⟩
   ·have n1:0≤2 * ((k:Int) + 1) * (2 * ((k:Int) + 1) + 1):=Int.mul_nonneg (by omega) (by omega)
    have n2:2 * ((k:Int) + 1) * (2 * ((k:Int) + 1) + 1)≤16 * 17:=Int.mul_le_mul (by omega) (by omega) (by omega) (by omega)
    have w1:IntKind.i64.wrap (2 * ((k:Int) + 1)) = 2 * ((k:Int) + 1):=wrap_in (inRo (by omega))
    have w2:IntKind.i64.wrap (2 * ((k:Int) + 1) + 1) = 2 * ((k:Int) + 1) + 1:=wrap_in (inRo (by omega))
    have w3:IntKind.i64.wrap (2 * ((k:Int) + 1) * (2 * ((k:Int) + 1) + 1)) = 2 * ((k:Int) + 1) * (2 * ((k:Int) + 1) + 1):=wrap_in (inRo (by omega))
    have w4:IntKind.i64.wrap ((k:Int) + 1 + 1) = ((k + 1:Nat):Int) + 1:=by rw [wrap_in (inRo (by omega))]; rfl
    simp only [forall_eq,w1,w2,w3,w4]
    exact ⟨snT_in yi k,yi,rg_inR (ftV_rg _),yi,inRo (by omega),rg_inR (ftV_rg _),rg_inR (ftV_rg _),rg_inR raV_rg,snS_in yi k,rg_inR (nNeg_rg (a:=nDiv (nMul (nMul (snT y k) y) y) (nInt (2 * ((k:Int) + 1) * (2 * ((k:Int) + 1) + 1)))) (rg_inR nDiv_rg)),k + 1,by omega,by omega,rfl,⟨rfl,rfl⟩,rfl,rfl⟩
   ·have e8:k = 8:=by omega
    subst e8
    have c1:whV (-4294967296) = -4294967296:=by decide
    have c2:whV 4294967296 = 4294967296:=by decide
    have c3:whF (-4294967296) false = false:=by decide
    have c4:whF 4294967296 false = false:=by decide
    simp only [forall_eq,c1,c2,c3,c4,Bool.false_or,Bool.or_false]
    exact ⟨snS_in yi 8,inRo (by omega),inRo (by omega),trivial⟩
 ·cases hc
theorem snV_rg {v:Int} {f:Bool}:rg (snV v f):=by unfold snV rg; omega
def csV (v:Int) (f:Bool):Int:=snV (nAdd (wpV (whV v),whF v f) (6746518852,false)).1 (nAdd (wpV (whV v),whF v f) (6746518852,false)).2
def csF (v:Int) (f:Bool):Bool:=snF (nAdd (wpV (whV v),whF v f) (6746518852,false)).1 (nAdd (wpV (whV v),whF v f) (6746518852,false)).2
def c226:Con
 | [.agg [.v (.int .i64 v),.v (.bool f)]] => some ([inR v],.agg [i64 (csV v f),bo (csF v f)])
 | _ => none
theorem con226:ConOK prog 226 c226:=ConOK.of (G:=[(267,c267),(79,c79),(227,c227)]) (H:=[]) (.cons con267 (.cons con79 (.cons con227 .nil))) func226 fun l ob r hc hob => by
 unfold c226 at hc
 split at hc
 ·rename_i v f
  cases hc
  have h_0:=ob0 hob
  refine ⟨by kernel_rfl,fnVC_go (rs:=[.cell 2 24]) rfl rfl ?_⟩
  simp only [go_sem,c267,c79,c227]
  simp only [forall_eq]
  have hw:=wpV_le (v:=whV v)
  exact ⟨h_0,inRo (by omega),inRo (by omega),rg_inR (ftV_rg _),rfl⟩
 ·cases hc
abbrev nb (a:Nb):AV:=.agg [i64 a.1,bo a.2]
abbrev ve (a b:Nb):AV:=.agg [i64 a.1,bo a.2,i64 b.1,bo b.2]
def nRat (a b:Int):Nb:=(raV a b,raF a b || false)
def nDot (a b c d:Nb):Nb:=(ftV ((whV a.1 * whV b.1 + whV c.1 * whV d.1).tdiv 4294967296),ftF ((whV a.1 * whV b.1 + whV c.1 * whV d.1).tdiv 4294967296) || (whF a.1 a.2 || whF b.1 b.2 || whF c.1 c.2 || whF d.1 d.2))
def nHyp (a b:Nb):Nb:=(ftV (isq (whV a.1 * whV a.1 + whV b.1 * whV b.1).toNat),ftF (isq (whV a.1 * whV a.1 + whV b.1 * whV b.1).toNat) || (whF a.1 a.2 || whF b.1 b.2))
def nSub (a b:Nb):Nb:=(ftV (whV a.1 - whV b.1),ftF (whV a.1 - whV b.1) || (whF a.1 a.2 || whF b.1 b.2))
def nPos (a:Nb):Nb:=(if 0 < whV a.1 then whV a.1 else 0,whF a.1 a.2)
theorem nRat_rg {a b:Int}:rg (nRat a b).1:=raV_rg
theorem nDot_rg {a b c d:Nb}:rg (nDot a b c d).1:=ftV_rg _
theorem nHyp_rg {a b:Nb}:rg (nHyp a b).1:=ftV_rg _
theorem nSub_rg {a b:Nb}:rg (nSub a b).1:=ftV_rg _
def c251:Con
 | [.agg [.v (.int .i64 x),.v (.bool e),.v (.int .i64 y),.v (.bool f)]] => some ([inR x,inR y],nb (nHyp (x,e) (y,f)))
 | _ => none
theorem con251:ConOK prog 251 c251:=ConOK.of (G:=[(242,c242)]) (H:=[]) (.cons con242 .nil) func251 fun l ob r hc hob => by
 unfold c251 at hc
 split at hc
 ·rename_i x e y f
  cases hc
  have h_0:=ob0 hob
  have h_1:=ob1 hob
  refine ⟨by kernel_rfl,fnVC_go (rs:=[.cell 2 24]) rfl rfl ?_⟩
  simp only [go_sem,c242]
  simp only [forall_eq]
  exact ⟨h_0,h_1,rfl⟩
 ·cases hc
def c122:Con
 | [.agg [.v (.int .i64 x),.v (.bool e),.v (.int .i64 y),.v (.bool f)],.agg [.v (.int .i64 k),.v (.bool g)]] => some ([inR x,inR y,inR k],ve (nMul (x,e) (k,g)) (nMul (y,f) (k,g)))
 | _ => none
theorem con122:ConOK prog 122 c122:=ConOK.of (G:=[(125,c125)]) (H:=[(1,⟨[(9,.slot 4)],[]⟩)]) (.cons con125 .nil) func122 fun l ob r hc hob => by
 unfold c122 at hc
 split at hc
 ·rename_i x e y f k g
  cases hc
  have h_0:=ob0 hob
  have h_1:=ob1 hob
  have h_2:=ob2 hob
  refine ⟨by kernel_rfl,fnVC_go (rs:=[.cell 4 26]) rfl rfl ?_⟩
  simp only [go_sem,c125]
  simp only [forall_eq]
  exact ⟨h_0,h_2,h_1,h_2,rfl⟩
 ·cases hc
def c219:Con
 | [.agg [.v (.int .i64 x),.v (.bool e),.v (.int .i64 y),.v (.bool f)],.agg [.v (.int .i64 z),.v (.bool g),.v (.int .i64 t),.v (.bool h)]] => some ([inR x,inR y,inR z,inR t],nb (nDot (x,e) (z,g) (y,f) (t,h)))
 | _ => none
theorem con219:ConOK prog 219 c219:=ConOK.of (G:=[(238,c238)]) (H:=[]) (.cons con238 .nil) func219 fun l ob r hc hob => by
 unfold c219 at hc
 split at hc
 ·rename_i x e y f z g t h
  cases hc
  have h_0:=ob0 hob
  have h_1:=ob1 hob
  have h_2:=ob2 hob
  have h_3:=ob3 hob
  refine ⟨by kernel_rfl,fnVC_go (rs:=[.cell 4 24]) rfl rfl ?_⟩
  simp only [go_sem,c238]
  simp only [forall_eq]
  exact ⟨h_0,h_2,h_1,h_3,rfl⟩
 ·cases hc
def c174:Con
 | [.agg [.v (.int .i64 x),.v (.bool e),.v (.int .i64 y),.v (.bool f)],.agg [.v (.int .i64 z),.v (.bool g),.v (.int .i64 t),.v (.bool h)]] => some ([inR x,inR y,inR z,inR t],nb (nDot (x,e) (t,h) (nNeg (y,f)) (z,g)))
 | _ => none
theorem con174:ConOK prog 174 c174:=ConOK.of (G:=[(238,c238),(164,c164)]) (H:=[(1,⟨[(10,.slot 4)],[]⟩)]) (.cons con238 (.cons con164 .nil)) func174 fun l ob r hc hob => by
 unfold c174 at hc
 split at hc
 ·rename_i x e y f z g t h
  cases hc
  have h_0:=ob0 hob
  have h_1:=ob1 hob
  have h_2:=ob2 hob
  have h_3:=ob3 hob
  refine ⟨by kernel_rfl,fnVC_go (rs:=[.cell 4 24]) rfl rfl ?_⟩
  simp only [go_sem,c238,c164]
  simp only [forall_eq]
  exact ⟨h_1,h_0,h_3,rg_inR (nNeg_rg (a:=(y,f)) h_1),h_2,rfl⟩
 ·cases hc
def c213:Con
 | [.agg [.v (.int .i64 x),.v (.int .i64 y)]] => some ([inR x,inR y],ve (nRat x 256) (nRat y 256))
 | _ => none
theorem con213:ConOK prog 213 c213:=ConOK.of (G:=[(28,c28)]) (H:=[(1,⟨[(7,.slot 2)],[]⟩)]) (.cons con28 .nil) func213 fun l ob r hc hob => by
 unfold c213 at hc
 split at hc
 ·rename_i x y
  cases hc
  have h_0:=ob0 hob
  have h_1:=ob1 hob
  refine ⟨by kernel_rfl,fnVC_go (rs:=[.cell 2 26]) rfl rfl ?_⟩
  simp only [go_sem,c28]
  simp only [forall_eq]
  exact ⟨h_0,inRo (by omega),h_1,inRo (by omega),rfl⟩
 ·cases hc
def c169:Con
 | [.agg [.v (.int .i64 v),.v (.bool f)]] => some ([inR v],ve (csV v f,csF v f) (snV v f,snF v f))
 | _ => none
theorem con169:ConOK prog 169 c169:=ConOK.of (G:=[(226,c226),(227,c227)]) (H:=[(1,⟨[(5,.slot 2)],[]⟩)]) (.cons con226 (.cons con227 .nil)) func169 fun l ob r hc hob => by
 unfold c169 at hc
 split at hc
 ·rename_i v f
  cases hc
  have h_0:=ob0 hob
  refine ⟨by kernel_rfl,fnVC_go (rs:=[.cell 2 51]) rfl rfl ?_⟩
  simp only [go_sem,c226,c227]
  simp only [forall_eq]
  exact ⟨h_0,h_0,trivial⟩
 ·cases hc
def c198:Con
 | [.agg [.v (.int .i64 x),.v (.bool e),.v (.int .i64 y),.v (.bool f)],.agg [.v (.int .i64 z),.v (.bool g),.v (.int .i64 t),.v (.bool h)]] => some ([inR x,inR y,inR z,inR t],ve (nDot (x,e) (z,g) (nNeg (y,f)) (t,h)) (nDot (y,f) (z,g) (x,e) (t,h)))
 | _ => none
theorem con198:ConOK prog 198 c198:=ConOK.of (G:=[(92,c92),(111,c111)]) (H:=[(1,⟨[(20,.slot 4)],[]⟩)]) (.cons con92 (.cons con111 .nil)) func198 fun l ob r hc hob => by
 unfold c198 at hc
 split at hc
 ·rename_i x e y f z g t h
  cases hc
  have h_0:=ob0 hob
  have h_1:=ob1 hob
  have h_2:=ob2 hob
  have h_3:=ob3 hob
  refine ⟨by kernel_rfl,fnVC_go (rs:=[.cell 4 26]) rfl rfl ?_⟩
  simp only [go_sem,c92,c111]
  simp only [forall_eq]
  exact ⟨h_1,h_0,h_2,rg_inR (nNeg_rg (a:=(y,f)) h_1),h_3,h_1,h_2,h_0,h_3,rfl⟩
 ·cases hc
theorem nums1 {a:Int} {e:Bool} {g:Nat→List AV} (h0:g 0 = [i64 a,bo e]) (ha:inR a):nums 1 g:=by
 intro i hi
 have:i = 0:=by omega
 subst this
 simp only [gx,gb,h0,gi_0,gib_1]; exact ⟨trivial,ha⟩
def c253:Con
 | [.agg [.v (.int .i64 x),.v (.bool f)]] => some ([inR x],bo (whF x f))
 | _ => none
theorem con253:ConOK prog 253 c253:=ConOK.of (G:=[(159,c159)]) (H:=[]) (.cons con159 .nil) func253 fun l ob r hc hob => by
 unfold c253 at hc
 split at hc
 ·rename_i x f
  cases hc
  have h_0:=ob0 hob
  refine ⟨by kernel_rfl,fnVC_go (rs:=[.tmp 2]) rfl rfl ?_⟩
  simp only [go_sem,c159]
  simp only [forall_eq]
  have e:suS (wvS (rowsOf 2 [i64 x,bo f])) 1 = whV x:=by
   show 0 + whV (gx (rowsOf 2 [i64 x,bo f]) 0 0) = _
   rw [Int.zero_add]; rfl
  have e2:wfS 1 (rowsOf 2 [i64 x,bo f]) = whF x f:=by
   show (false || whF (gx (rowsOf 2 [i64 x,bo f]) 0 0) (gb (rowsOf 2 [i64 x,bo f]) 1 0)) = _
   rfl
  rw [e,e2,ftF_of (whV_rg h_0)]
  exact ⟨nums1 rfl h_0,rfl⟩
 ·cases hc
def c209:Con
 | [.agg [.v (.int .i64 x),.v (.bool e),.v (.int .i64 y),.v (.bool f)]] => some ([inR x,inR y],i64 (if (whF x e = true∨whF y f = true)∨(65536 < (nDot (x,e) (x,e) (y,f) (y,f)).1 - 4294967296∨65536 < 4294967296 - (nDot (x,e) (x,e) (y,f) (y,f)).1) then 3 else 0))
 | _ => none
theorem con209:ConOK prog 209 c209:=ConOK.of (G:=[(111,c111),(253,c253)]) (H:=[]) (.cons con111 (.cons con253 .nil)) func209 fun l ob r hc hob => by
 unfold c209 at hc
 split at hc
 ·rename_i x e y f
  cases hc
  have h_0:=ob0 hob
  have h_1:=ob1 hob
  refine ⟨by kernel_rfl,fnVC_go (rs:=[.tmp 2]) rfl rfl ?_⟩
  simp only [go_sem,c111,c253]
  simp only [forall_eq]
  have k0:0≤(whV x * whV x + whV y * whV y).tdiv 4294967296:=Int.tdiv_nonneg (by have:=sq_nonneg (a:=whV x); have:=sq_nonneg (a:=whV y); omega) (by omega)
  have k1:0≤ftV ((whV x * whV x + whV y * whV y).tdiv 4294967296)∧ftV ((whV x * whV x + whV y * whV y).tdiv 4294967296)≤9223372036854775807:=by unfold ftV; (repeat' split) <;> omega
  have e:(nDot (x,e) (x,e) (y,f) (y,f)).1 = ftV ((whV x * whV x + whV y * whV y).tdiv 4294967296):=rfl
  rw [e]
  generalize ftV ((whV x * whV x + whV y * whV y).tdiv 4294967296) = n at *
  rw [wrap_in (x:=n - 4294967296) (inRo (by omega)),wrap_in (x:=4294967296 - n) (inRo (by omega))]
  refine ⟨h_0,h_0,h_1,h_1,h_0,fun _ => h_1,fun h => ?_,fun h => ?_⟩
  ·rw [if_pos (by rcases h with (h | h) | h
                  ·exact .inl h
                  ·exact .inr (.inl h)
                  ·exact .inr (.inr h))]
  ·rw [if_neg (by
    rintro ((k | k) | (k | k))
    ·rw [h.1.1.1] at k; cases k
    ·rw [h.1.1.2] at k; cases k
    ·exact h.1.2 k
    ·exact h.2 k)]
 ·cases hc
def c53:Con
 | [.v (.int .i64 n),.v (.int .i64 s)] => some ([inR n,1≤s∧s≤1000000],.agg [i64 (n.tmod (s * 4294967296)),bo false])
 | _ => none
theorem con53:ConOK prog 53 c53:=ConOK.of (G:=[]) (H:=[]) .nil func53 fun l ob r hc hob => by
 unfold c53 at hc
 split at hc
 ·rename_i n s
  cases hc
  have h_0:=ob0 hob
  have h_1:=ob1 hob
  refine ⟨by kernel_rfl,fnVC_go (rs:=[.cell 4 24]) rfl rfl ?_⟩
  simp only [go_sem]
  intro z hz
  rw [wrap_in (inRo (by omega))] at hz
  rw [hz]
  exact ⟨by omega,fun z1 hz1 => by rw [hz1]⟩
 ·cases hc
def c221:Con
 | [.v (.int .i64 n)] => some ([],bo (decide (16≤n∧n≤4096)))
 | _ => none
theorem con221:ConOK prog 221 c221:=ConOK.of (G:=[]) (H:=[]) .nil func221 fun l ob r hc hob => by
 unfold c221 at hc
 split at hc
 ·rename_i n
  cases hc
  refine ⟨by kernel_rfl,fnVC_go (rs:=[.tmp 2]) rfl rfl ?_⟩
  simp only [go_sem]
  rw [Bool.eq_iff_iff]; simp
 ·cases hc
def c222:Con
 | [.v (.int .i64 n)] => some ([],bo (decide (-4096≤n∧n≤4096)))
 | _ => none
theorem con222:ConOK prog 222 c222:=ConOK.of (G:=[]) (H:=[]) .nil func222 fun l ob r hc hob => by
 unfold c222 at hc
 split at hc
 ·rename_i n
  cases hc
  refine ⟨by kernel_rfl,fnVC_go (rs:=[.tmp 2]) rfl rfl ?_⟩
  simp only [go_sem]
  rw [Bool.eq_iff_iff]; simp
 ·cases hc
def c224:Con
 | [.agg [.v (.int .i64 a),.v (.int .i64 b)],.agg [.v (.int .i64 c),.v (.int .i64 d)]] => some ([],i64 (IntKind.i64.wrap (a * d - b * c)))
 | _ => none
theorem con224:ConOK prog 224 c224:=ConOK.of (G:=[]) (H:=[]) .nil func224 fun l ob r hc hob => by
 unfold c224 at hc
 split at hc
 ·rename_i a b c d
  cases hc
  refine ⟨by kernel_rfl,fnVC_go (rs:=[.tmp 4]) rfl rfl ?_⟩
  simp only [go_sem]
  simp only [forall_eq]
  rw [wrap_i64,wrap_i64,wrap_i64,wrap_i64]
  generalize a * d = p
  generalize b * c = q
  omega
 ·cases hc
def c265:Con
 | [.agg [.v (.int .i64 a),.v (.int .i64 b)],.agg [.v (.int .i64 c),.v (.int .i64 d)]] => some ([],.agg [i64 (IntKind.i64.wrap (a - c)),i64 (IntKind.i64.wrap (b - d))])
 | _ => none
theorem con265:ConOK prog 265 c265:=ConOK.of (G:=[]) (H:=[]) .nil func265 fun l ob r hc hob => by
 unfold c265 at hc
 split at hc
 ·rename_i a b c d
  cases hc
  refine ⟨by kernel_rfl,fnVC_go (rs:=[.cell 4 101]) rfl rfl ?_⟩
  simp only [go_sem]
  simp only [forall_eq]
 ·cases hc
def c266:Con
 | [.agg [.v (.int .i64 a),.v (.int .i64 b)]] => some ([-1000000≤a∧a≤1000000,-1000000≤b∧b≤1000000],i64 (ab a + ab b))
 | _ => none
theorem con266:ConOK prog 266 c266:=ConOK.of (G:=[]) (H:=[]) .nil func266 fun l ob r hc hob => by
 unfold c266 at hc
 split at hc
 ·rename_i a b
  cases hc
  have h_0:=ob0 hob
  have h_1:=ob1 hob
  refine ⟨by kernel_rfl,fnVC_go (rs:=[.tmp 2]) rfl rfl ?_⟩
  simp only [go_sem]
  simp only [forall_eq]
  rw [wrap_in (x:=0 - a) (inRo (by omega)),wrap_in (x:=0 - b) (inRo (by omega)),wrap_in (inRo (by omega))]
  unfold ab
  split <;> split <;> omega
 ·cases hc
def c210:Con
 | [.agg [.v (.int .i64 a),.v (.bool e)]] => some ([inR a],bo (whF a e || decide (17592186044416 < ab (whV a))))
 | _ => none
theorem con210:ConOK prog 210 c210:=ConOK.of (G:=[(30,c30)]) (H:=[]) (.cons con30 .nil) func210 fun l ob r hc hob => by
 unfold c210 at hc
 split at hc
 ·rename_i a e
  cases hc
  have h_0:=ob0 hob
  refine ⟨by kernel_rfl,fnVC_go (rs:=[.tmp 2]) rfl rfl ?_⟩
  simp only [go_sem,c30]
  simp only [forall_eq]
  exact ⟨h_0,trivial⟩
 ·cases hc
def spV (a:Nb):Int:=(whV (nMul a (nInt 256)).1 + 2147483648) / 4294967296
def c211:Con
 | [.agg [.v (.int .i64 a),.v (.bool e),.v (.int .i64 b),.v (.bool f)]] => some ([inR a,inR b],.agg [i64 (spV (a,e)),i64 (spV (b,f))])
 | _ => none
theorem con211:ConOK prog 211 c211:=ConOK.of (G:=[(143,c143),(260,c260),(27,c27)]) (H:=[(2,⟨[(11,.slot 2)],[]⟩)]) (.cons con143 (.cons con260 (.cons con27 .nil))) func211 fun l ob r hc hob => by
 unfold c211 at hc
 split at hc
 ·rename_i a e b f
  cases hc
  have h_0:=ob0 hob
  have h_1:=ob1 hob
  refine ⟨by kernel_rfl,fnVC_go (rs:=[.cell 2 101]) rfl rfl ?_⟩
  simp only [go_sem,c143,c260,c27]
  simp only [forall_eq]
  exact ⟨inRo (by omega),h_0,rg_inR (ftV_rg _),rg_inR (ftV_rg _),h_1,rg_inR (ftV_rg _),rg_inR (ftV_rg _),rfl⟩
 ·cases hc
def vfS (n:Nat) (g:Nat→List AV):Bool:=anyB (fun i => whF (gx g 0 i) (gb g 1 i) || whF (gx g 2 i) (gb g 3 i)) n
theorem gib_3 {a b c:AV} {x:Bool} {l:List AV}:gib (a :: b :: c :: .v (.bool x) :: l) 3 = x:=(rfl)
attribute [go_sem] gib_3
def vecs (n:Nat) (g:Nat→List AV):Prop:=∀ i,i < n→g i = [i64 (gx g 0 i),bo (gb g 1 i),i64 (gx g 2 i),bo (gb g 3 i)]∧inR (gx g 0 i)∧inR (gx g 2 i)
def c289:Con
 | [.agg [.v (.int .i64 x),.v (.bool e),.v (.int .i64 y),.v (.bool f)]] => some ([inR x,inR y],bo (whF x e || whF y f))
 | _ => none
theorem con289:ConOK prog 289 c289:=ConOK.of (G:=[(164,c164)]) (H:=[]) (.cons con164 .nil) func289 fun l ob r hc hob => by
 unfold c289 at hc
 split at hc
 ·rename_i x e y f
  cases hc
  have h_0:=ob0 hob
  have h_1:=ob1 hob
  refine ⟨by kernel_rfl,fnVC_go (rs:=[.tmp 2]) rfl rfl ?_⟩
  simp only [go_sem,c164]
  simp only [forall_eq]
  exact ⟨h_0,fun _ => h_1,trivial⟩
 ·cases hc
def ixS (G:Nat→Bool):Nat→Nat→Int
 | _,0 => -1
 | i,k + 1 => if G i = true then i else ixS G (i + 1) k
theorem ixS_any {G:Nat→Bool} {n:Nat}:∀ (k i:Nat),i + k = n→(∀ j,j < i→G j = false)→decide (0≤ixS G i k) = anyB G n
 | 0,i,h,hj => by
  have:anyB G n = false:=by
   rw [Bool.eq_false_iff]
   intro hc
   obtain ⟨j,h1,h2⟩:=anyB_iff.1 hc
   rw [hj j (by omega)] at h2; cases h2
  rw [this]; rfl
 | k + 1,i,h,hj => by
  unfold ixS
  by_cases hg:G i = true
  ·rw [if_pos hg,decide_eq_true (by omega)]
   exact (anyB_iff.2 ⟨i,by omega,hg⟩).symm
  ·rw [if_neg hg]
   exact ixS_any k (i + 1) (by omega) fun j hj2 => by
    by_cases e:j = i
    ·subst e; exact Bool.eq_false_iff.2 hg
    ·exact hj j (by omega)
def vflS (g:Nat→List AV) (i:Nat):Bool:=whF (gx g 0 i) (gb g 1 i) || whF (gx g 2 i) (gb g 3 i)
def c301:Con
 | [.ro n 4 g,.fn 289 []] => some ([vecs n g,n≤1000],i64 (ixS (vflS g) 0 n))
 | _ => none
theorem vc301 (n:Nat) (X Y:Nat→Int) (E F:Nat→Bool) (hX:∀ i,i < n→inR (X i)∧inR (Y i)) (hn:n≤1000):fnVC prog [(289,c289)] [] Tryz.f301 [.ro n 4 fun i => [i64 (X i),bo (E i),i64 (Y i),bo (F i)],.fn 289 []] (· = i64 (ixS (fun i => whF (X i) (E i) || whF (Y i) (F i)) 0 n)):=by
 refine fnVC_go (rs:=[.tmp 4]) rfl rfl ?_
 simp only [go_sem]
 refine loopC_go (fun (i:Nat) => i≤n∧ixS (fun i => whF (X i) (E i) || whF (Y i) (F i)) 0 n = ixS (fun i => whF (X i) (E i) || whF (Y i) (F i)) i (n - i)) (fun i => n - i) (fun i => [(8,i64 i)]) (fun _ => []) [] [9,10,5,11,12,13,14,15,16,17,4,18,8] 0 (by kernel_rfl) ?_ ⟨Nat.zero_le _,rfl⟩ ?_ ?_
 ·intro x _; simp [goodNames]
 ·simp only [go_sem]
 ·intro i hi
  simp only [go_sem,c289]
  generalize hG:(fun i => whF (X i) (E i) || whF (Y i) (F i)) = G at *
  have hGi:G i = (whF (X i) (E i) || whF (Y i) (F i)):=by rw [← hG]
  rw [← hGi]
  refine ⟨fun h => ⟨by omega,h,fun z hz => ⟨(hX i (by omega)).1,(hX i (by omega)).2,fun hz1 => ?_,fun hz1 z2 hz2 => ⟨i + 1,⟨by omega,?_⟩,by omega,?_⟩⟩⟩,fun h => ?_⟩
  ·rw [hi.2,show n - i = (n - i - 1) + 1 by omega]
   unfold ixS
   rw [if_pos (by rw [← hz]; exact hz1)]
  ·rw [hi.2,show n - i = (n - i - 1) + 1 by omega]
   conv => lhs; unfold ixS
   rw [if_neg (by rw [← hz,hz1]; decide),show n - (i + 1) = n - i - 1 by omega]
  ·rw [hz2,wrap_in (inRo (by omega))]; rfl
  ·rw [hi.2,show n - i = 0 by omega]; rfl
theorem con301:ConOK prog 301 c301:=ConOK.go (G:=[(289,c289)]) (H:=[]) (.cons con289 .nil) func301 fun l ob r hc hob => by
 unfold c301 at hc
 split at hc
 ·rename_i n g
  cases hc
  have hs:vecs n g:=hob _ (by simp)
  refine ⟨[.ro n 4 fun i => [i64 (gx g 0 i),bo (gb g 1 i),i64 (gx g 2 i),bo (gb g 3 i)],.fn 289 []],fun w I vs h => ?_,by kernel_rfl,vc301 n _ _ _ _ (fun i hi => (hs i hi).2) (hob _ (by simp))⟩
  obtain ⟨x,xs,rfl,h1,h2⟩:=h.inv
  exact .cons (ro_alike (fun i hi => (hs i hi).1) h1) h2
 ·cases hc
def c288:Con
 | [.ro n 4 g,.fn 289 []] => some ([vecs n g,n≤1000],bo (vfS n g))
 | _ => none
theorem con288:ConOK prog 288 c288:=ConOK.of (G:=[(301,c301)]) (H:=[]) (.cons con301 .nil) func288 fun l ob r hc hob => by
 unfold c288 at hc
 split at hc
 ·rename_i n g
  cases hc
  have h_0:=ob0 hob
  have h_1:=ob1 hob
  refine ⟨by kernel_rfl,fnVC_go (rs:=[.tmp 4]) rfl rfl ?_⟩
  simp only [go_sem,c301]
  simp only [forall_eq]
  exact ⟨h_0,h_1,ixS_any n 0 (by omega) fun j hj => by omega⟩
 ·cases hc
def c257:Con
 | [.ro n 4 g] => some ([vecs n g,n≤1000],bo (vfS n g))
 | _ => none
theorem con257:ConOK prog 257 c257:=ConOK.of (G:=[(288,c288)]) (H:=[]) (.cons con288 .nil) func257 fun l ob r hc hob => by
 unfold c257 at hc
 split at hc
 ·rename_i n g
  cases hc
  have h_0:=ob0 hob
  have h_1:=ob1 hob
  refine ⟨by kernel_rfl,fnVC_go (rs:=[.tmp 2]) rfl rfl ?_⟩
  simp only [go_sem,c288]
  simp only [forall_eq]
  exact ⟨h_0,h_1,trivial⟩
 ·cases hc
theorem vecs1 {a b:Int} {e f:Bool} {g:Nat→List AV} (h0:g 0 = [i64 a,bo e,i64 b,bo f]) (ha:inR a) (hb:inR b):vecs 1 g:=by
 intro i hi
 have:i = 0:=by omega
 subst this
 simp only [gx,gb,h0,gi_0,gib_1,gi_2,gib_3]; exact ⟨trivial,ha,hb⟩
theorem vf1 {a b:Int} {e f:Bool} {g:Nat→List AV} (h0:g 0 = [i64 a,bo e,i64 b,bo f]):vfS 1 g = (whF a e || whF b f):=by
 simp only [vfS,anyB,gx,gb,h0,gi_0,gib_1,gi_2,gib_3,Bool.false_or]
def unB (x y:Int):Nb×Nb:=if ab x < 16777216∧ab y < 16777216 then ((x * 16777216,false),(y * 16777216,false)) else ((x,false),(y,false))
def unS (x:Int) (e:Bool) (y:Int) (f:Bool):Bool×Nb×Nb:=
 if whF x e = true∨whF y f = true then (false,(0,false),(0,false))
 else if (nHyp (unB x y).1 (unB x y).2).2 = true∨(nHyp (unB x y).1 (unB x y).2).1 = 0 then (false,(0,false),(0,false))
 else (true,nDiv (unB x y).1 (nHyp (unB x y).1 (unB x y).2),nDiv (unB x y).2 (nHyp (unB x y).1 (unB x y).2))
theorem wh_split {v:Int} {f:Bool} (h:whF v f = false):v≠-9223372036854775808∧f = false:=by
 unfold whF at h
 rw [Bool.or_eq_false_iff] at h
 exact ⟨of_decide_eq_false h.1,h.2⟩
theorem unS_none {x y:Int} {e f:Bool} (h:whF x e = true∨whF y f = true):unS x e y f = (false,(0,false),(0,false)):=by unfold unS; rw [if_pos h]
theorem unS_nul {x y:Int} {e f:Bool} {a b:Nb} (h:¬ (whF x e = true∨whF y f = true)) (hb:unB x y = (a,b)) (h2:(nHyp a b).2 = true∨(nHyp a b).1 = 0):unS x e y f = (false,(0,false),(0,false)):=by unfold unS; rw [if_neg h,hb,if_pos h2]
theorem unS_some {x y:Int} {e f:Bool} {a b:Nb} (h:¬ (whF x e = true∨whF y f = true)) (hb:unB x y = (a,b)) (h2:¬ ((nHyp a b).2 = true∨(nHyp a b).1 = 0)):unS x e y f = (true,nDiv a (nHyp a b),nDiv b (nHyp a b)):=by unfold unS; rw [if_neg h,hb,if_neg h2]
def c250:Con
 | [.agg [.v (.int .i64 x),.v (.bool e),.v (.int .i64 y),.v (.bool f)]] => some ([inR x,inR y],.tup [ve (unS x e y f).2.1 (unS x e y f).2.2,bo (unS x e y f).1])
 | _ => none
theorem con250:ConOK prog 250 c250:=ConOK.of (G:=[(257,c257),(251,c251),(155,c155)]) (H:=[(8,⟨[(9,.slot 2)],[]⟩)]) (.cons con257 (.cons con251 (.cons con155 .nil))) func250 fun l ob r hc hob => by
 unfold c250 at hc
 split at hc
 ·rename_i x e y f
  cases hc
  have h_0:=ob0 hob
  have h_1:=ob1 hob
  refine ⟨by kernel_rfl,fnVC_go (rs:=[.cell 2 26,.tmp 3]) rfl rfl ?_⟩
  simp only [go_sem,c257,c251,c155]
  intro z hz
  refine ⟨vecs1 rfl h_0 h_1,fun ht => ?_,fun ht z1 hz1 z2 hz2 z3 hz3 => ?_⟩
  ·rw [hz,vf1 rfl] at ht
   have ht:whF x e = true∨whF y f = true:=by simpa using ht
   rw [unS_none ht]
  ·rw [hz,vf1 rfl] at ht
   have ht2:whF x e = false∧whF y f = false:=by simpa using ht
   have ht:¬ (whF x e = true∨whF y f = true):=by rw [ht2.1,ht2.2]; simp
   obtain ⟨hx,rfl⟩:=wh_split ht2.1
   obtain ⟨hy,rfl⟩:=wh_split ht2.2
   have hm:z3 < 16777216 ↔ ab x < 16777216∧ab y < 16777216:=by
    rw [hz3,hz1,hz2,wrap_in (by unfold inR at *; omega),wrap_in (by unfold inR at *; omega)]
    unfold ab
    split <;> split <;> omega
   refine ⟨fun hs => ?_,fun hs => ?_⟩
   ·have hs:=hm.1 hs
    have hxb:-16777216 < x∧x < 16777216:=by unfold ab at hs; have:=hs.1; split at this <;> omega
    have hyb:-16777216 < y∧y < 16777216:=by unfold ab at hs; have:=hs.2; split at this <;> omega
    have hb:unB x y = ((x * 16777216,false),(y * 16777216,false)):=by unfold unB; rw [if_pos hs]
    rw [wrap_in (x:=x * 16777216) (inRo (by omega)),wrap_in (x:=y * 16777216) (inRo (by omega))]
    simp only [forall_eq]
    refine ⟨inRo (by omega),inRo (by omega),fun h => ?_,fun h => ⟨inRo (by omega),rg_inR nHyp_rg,inRo (by omega),rg_inR nHyp_rg,?_⟩⟩
    ·rw [unS_nul ht hb (by simpa using h)]
    ·rw [unS_some ht hb (by simpa using h)]
     rfl
   ·have hs:¬ (ab x < 16777216∧ab y < 16777216):=fun h => hs (hm.2 h)
    have hb:unB x y = ((x,false),(y,false)):=by unfold unB; rw [if_neg hs]
    simp only [forall_eq]
    refine ⟨h_0,h_1,fun h => ?_,fun h => ⟨h_0,rg_inR nHyp_rg,h_1,rg_inR nHyp_rg,?_⟩⟩
    ·rw [unS_nul ht hb (by simpa using h)]
    ·rw [unS_some ht hb (by simpa using h)]
     rfl
 ·cases hc
theorem unS_rg {x y:Int} {e f:Bool}:rg (unS x e y f).2.1.1∧rg (unS x e y f).2.2.1:=by
 have z:rg 0:=by unfold rg; omega
 unfold unS
 split
 ·exact ⟨z,z⟩
 ·split
  ·exact ⟨z,z⟩
  ·exact ⟨nDiv_rg,nDiv_rg⟩
theorem suS_congr {X Y:Nat→Int}:∀ {n:Nat},(∀ i,i < n→X i = Y i)→suS X n = suS Y n
 | 0,_ => rfl
 | n + 1,h => by unfold suS; rw [suS_congr (n:=n) fun i hi => h i (by omega),h n (by omega)]
theorem anyB_congr {X Y:Nat→Bool}:∀ {n:Nat},(∀ i,i < n→X i = Y i)→anyB X n = anyB Y n
 | 0,_ => rfl
 | n + 1,h => by unfold anyB; rw [anyB_congr (n:=n) fun i hi => h i (by omega),h n (by omega)]
def upB (i:Nat) (Z:Nat→Bool) (j:Nat):Bool:=if j < i then Z j else false
theorem upB_zero {Z:Nat→Bool} {j:Nat}:upB 0 Z j = false:=by unfold upB; rw [if_neg (by omega)]
theorem upB_self {i:Nat} {Z:Nat→Bool}:upB (i + 1) Z i = Z i:=by unfold upB; rw [if_pos (by omega)]
theorem upB_lt {i j:Nat} {Z:Nat→Bool} (h:j < i):upB i Z j = Z j:=by unfold upB; rw [if_pos h]
theorem upB_ne {i j:Nat} {Z:Nat→Bool} (h:j≠i):upB (i + 1) Z j = upB i Z j:=by
 unfold upB
 by_cases e:j < i
 ·rw [if_pos e,if_pos (by omega)]
 ·rw [if_neg e,if_neg (by omega)]
def su1 (n:Nat) (X:Nat→Int) (E:Nat→Bool):Nb:=(ftV (suS (fun i => whV (X i)) n),ftF (suS (fun i => whV (X i)) n) || anyB (fun i => whF (X i) (E i)) n)
theorem wvS_up {n:Nat} {X:Nat→Int} {E:Nat→Bool} {g:Nat→List AV} (h:∀ j,j < n→g j = [i64 (X j),bo (E j)]):suS (wvS g) n = suS (fun i => whV (X i)) n∧wfS n g = anyB (fun i => whF (X i) (E i)) n:=
 ⟨suS_congr fun i hi => by simp only [wvS,gx,h i hi,gi_0],anyB_congr fun i hi => by simp only [gx,gb,h i hi,gi_0,gib_1]⟩
theorem nums_up {n:Nat} {X:Nat→Int} {E:Nat→Bool} {g:Nat→List AV} (h:∀ j,j < n→g j = [i64 (X j),bo (E j)]) (hX:∀ j,j < n→inR (X j)):nums n g:=fun i hi => by
 simp only [gx,gb,h i hi,gi_0,gib_1]; exact ⟨trivial,hX i hi⟩
def c121:Con
 | [.ro n 4 g] => some ([vecs n g,n≤1000],ve (su1 n (gx g 0) (gb g 1)) (su1 n (gx g 2) (gb g 3)))
 | _ => none
theorem vc121 (n:Nat) (X Y:Nat→Int) (E F:Nat→Bool) (hX:∀ i,i < n→inR (X i)∧inR (Y i)) (hn:n≤1000):fnVC prog [(179,c179)] [(5,⟨[(9,.slot 3),(11,.slot 4)],[(7,[.slot 3])]⟩)] Tryz.f121 [.ro n 4 fun i => [i64 (X i),bo (E i),i64 (Y i),bo (F i)]] (· = ve (su1 n X E) (su1 n Y F)):=by
 refine fnVC_go (rs:=[.cell 2 26]) rfl rfl ?_
 simp only [go_sem]
 have hb:((bytesT prog 24:Nat):Int) * (n:Int)≤281474976710656:=by rw [show bytesT prog 24 = 16 by kernel_rfl]; omega
 refine ⟨by omega,by omega,hb,by omega,by omega,hb,?_⟩
 refine loopC_go (fun (i:Nat) => i≤n) (fun i => n - i) (fun i => [(15,i64 i)]) (fun i => [(6,famN n 2 24 (fun j => [i64 (uptN i Y j),bo (upB i F j)]) none),(3,famN n 2 24 (fun j => [i64 (uptN i X j),bo (upB i E j)]) none)]) [0] [16,17,18,19,6,5,20,21,22,23,24,25,26,27,28,29,30,15] 0 (by kernel_rfl) ?_ (Nat.zero_le _) ?_ ?_
 ·intro x _; simp [goodNames,asg]
 ·simp only [go_sem,uptN_zero,upB_zero,implies_true]
 ·intro i hi
  simp only [go_sem,c179]
  have hw:IntKind.i64.wrap ((i:Int) + 1) = ((i + 1:Nat):Int):=by rw [wrap_in (inRo (by omega))]; rfl
  refine ⟨fun hin => ⟨by omega,hin,by omega,hin,by omega,by omega,hin,by omega,fun z hz => ⟨i + 1,by omega,by omega,by rw [hz,hw],fun j hj => ?_,fun j hj => ?_⟩⟩,fun hin => ?_⟩
  ·by_cases e:j = i
   ·subst e
    rw [if_pos rfl]
    simp only [go_sem,uptN_self,upB_self]
   ·rw [if_neg e]
    have h1:∀ Z,uptN (i + 1) Z j = uptN i Z j:=fun Z => uptN_ne e
    have h2:∀ Z,upB (i + 1) Z j = upB i Z j:=fun Z => upB_ne e
    simp only [go_sem,h1,h2]
  ·by_cases e:j = i
   ·subst e
    rw [if_pos rfl]
    simp only [go_sem,uptN_self,upB_self]
   ·rw [if_neg e]
    have h1:∀ Z,uptN (i + 1) Z j = uptN i Z j:=fun Z => uptN_ne e
    have h2:∀ Z,upB (i + 1) Z j = upB i Z j:=fun Z => upB_ne e
    simp only [go_sem,h1,h2]
  ·have e:i = n:=by omega
   subst e
   have hx:∀ j,j < i→(fun j => [i64 (uptN i X j),bo (upB i E j)]) j = [i64 (X j),bo (E j)]:=fun j hj => by dsimp only; rw [uptN_lt hj,upB_lt hj]
   have hy:∀ j,j < i→(fun j => [i64 (uptN i Y j),bo (upB i F j)]) j = [i64 (Y j),bo (F j)]:=fun j hj => by dsimp only; rw [uptN_lt hj,upB_lt hj]
   obtain ⟨e1,e2⟩:=wvS_up hx
   obtain ⟨e3,e4⟩:=wvS_up hy
   simp only [forall_eq,e1,e2,e3,e4]
   exact ⟨nums_up hx fun j hj => (hX j hj).1,hn,nums_up hy fun j hj => (hX j hj).2,hn,rfl⟩
theorem con121:ConOK prog 121 c121:=ConOK.go (G:=[(179,c179)]) (H:=[(5,⟨[(9,.slot 3),(11,.slot 4)],[(7,[.slot 3])]⟩)]) (.cons con179 .nil) func121 fun l ob r hc hob => by
 unfold c121 at hc
 split at hc
 ·rename_i n g
  cases hc
  have hs:vecs n g:=hob _ (by simp)
  exact ⟨[.ro n 4 fun i => [i64 (gx g 0 i),bo (gb g 1 i),i64 (gx g 2 i),bo (gb g 3 i)]],fun w I vs h => Rs_one (fun v => ro_alike fun i hi => (hs i hi).1) h,by kernel_rfl,vc121 n _ _ _ _ (fun i hi => (hs i hi).2) (hob _ (by simp))⟩
 ·cases hc
theorem vecs2 {a b c d:Int} {e f p q:Bool} {g:Nat→List AV} (h0:g 0 = [i64 a,bo e,i64 b,bo f]) (h1:g 1 = [i64 c,bo p,i64 d,bo q]) (ha:inR a) (hb:inR b) (hc:inR c) (hd:inR d):vecs 2 g:=by
 intro i hi
 have:i = 0∨i = 1:=by omega
 rcases this with rfl | rfl
 ·simp only [gx,gb,h0,gi_0,gib_1,gi_2,gib_3]; exact ⟨trivial,ha,hb⟩
 ·simp only [gx,gb,h1,gi_0,gib_1,gi_2,gib_3]; exact ⟨trivial,hc,hd⟩
theorem su2x {a b c d:Int} {e f p q:Bool} {g:Nat→List AV} (h0:g 0 = [i64 a,bo e,i64 b,bo f]) (h1:g 1 = [i64 c,bo p,i64 d,bo q]):su1 2 (gx g 0) (gb g 1) = nAdd (a,e) (c,p):=by
 unfold su1 nAdd
 simp only [suS,anyB,gx,gb,h0,h1,gi_0,gib_1,Bool.false_or,Int.zero_add]
theorem su2y {a b c d:Int} {e f p q:Bool} {g:Nat→List AV} (h0:g 0 = [i64 a,bo e,i64 b,bo f]) (h1:g 1 = [i64 c,bo p,i64 d,bo q]):su1 2 (gx g 2) (gb g 3) = nAdd (b,f) (d,q):=by
 unfold su1 nAdd
 simp only [suS,anyB,gx,gb,h0,h1,gi_2,gib_3,Bool.false_or,Int.zero_add]
section
variable {N M q:Nat} {σ:Names} {m rows:Mem} {x:Fam} {a b:AV} {n sz f k r:Nat} {ty:TypeId} {get:Nat→List AV}
def emptyF (x:Fam):Prop:=∀ f,(x f).n = 0∧(x f).g = none
def fitQ (N M:Nat) (σ:Names) (m:Mem) (x:Fam):Option Nat→Prop
 | some k => fitF N M σ x (look m k)
 | none => emptyF x
theorem fitRows_z:fitRows N M σ m [] = True:=(rfl)
theorem fitRows_c:fitRows N M σ m ((q,x) :: rows) = (fitQ N M σ m x (asg σ q)∧fitRows N M σ m rows):=by
 show ((match asg σ q with
  | some k => ∃ y,look m k = some y∧∀ f,fitRow N M σ (x f) (y f)
  | none => ∀ f,(x f).n = 0∧(x f).g = none)∧_) = _
 unfold fitQ fitF emptyF
 cases asg σ q with
 | none => rfl
 | some k => cases h:look m k <;> simp [h]
theorem fitQ_some:fitQ N M σ m x (some k) = fitF N M σ x (look m k):=(rfl)
theorem fitQ_none:fitQ N M σ m x none = emptyF x:=(rfl)
theorem emptyF_N:emptyF (famN n sz ty get none) = (n = 0):=by
 unfold emptyF
 apply propext
 constructor
 ·intro h; have:=(h 0).1; simpa [famN] using this
 ·intro h f
  subst h
  unfold famN
  split <;> exact ⟨rfl,rfl⟩
def ownA (f n sz:Nat) (a:AV):Option Nat→Prop
 | some k => a = .own k f n sz
 | none => n = 0∧a = .v (.slice none 0 0)
theorem fit1_ownA:fit1 N M σ (.own q f n sz) a = (q < M∧ownA f n sz a (asg σ q)):=by
 simp only [fit1,ownA]
 cases asg σ q <;> rfl
theorem ownA_some:ownA f n sz (.own r f k sz) (some r) = (k = n):=by simp [ownA]
theorem ownA_none:ownA f n sz (.v (.slice none 0 0)) none = (n = 0):=by simp [ownA]
theorem asg_z:asg [] r = some r:=(rfl)
theorem asg_c {y:Option Nat}:asg ((k,y) :: σ) r = if k = r then y else asg σ r:=(rfl)
end
attribute [go_sem] fitRows_z fitRows_c fitQ_some fitQ_none emptyF_N fit1_ownA ownA_some ownA_none asg_z asg_c
def c86:Con
 | [.ro n 4 g] => some ([vecs n g,n≤1000],ve (su1 n (gx g 0) (gb g 1)) (su1 n (gx g 2) (gb g 3)))
 | _ => none
theorem vc86 (n:Nat) (X Y:Nat→Int) (E F:Nat→Bool) (hX:∀ i,i < n→inR (X i)∧inR (Y i)) (hn:n≤1000):fnVC prog [(159,c159)] [(5,⟨[(7,.slot 3)],[(13,[.slot 3]),(14,[.slot 3])]⟩)] Tryz.f86 [.ro n 4 fun i => [i64 (X i),bo (E i),i64 (Y i),bo (F i)]] (· = ve (su1 n X E) (su1 n Y F)):=by
 refine fnVC_go (rs:=[.cell 2 26]) rfl rfl ?_
 simp only [go_sem]
 refine loopN_go (fun (i:Nat) => i≤n) (fun i => n - i) (fun i => [(5,i64 i),(3,.own 4 0 i 2),(4,.own 5 0 i 2)]) (fun i => [(4,famN i 2 24 (fun k => [i64 (X k),bo (E k)]) none),(5,famN i 2 24 (fun k => [i64 (Y k),bo (F k)]) none)]) [0] [6,7,8,9,12,13,14,15,16,17,18,19,20,21,22,23,24,25,26,27,3,4,10,11,5] 2 0 (by kernel_rfl) (Nat.zero_le _) ⟨[(4,none),(5,none)],?_,?_,?_,?_⟩ ?_
 ·simp only [go_sem]
 ·simp only [go_sem]
 ·simp only [go_sem]
 ·simp [goodNames,asg]
 intro i hi
 simp only [go_sem,c159]
 have hb:bytesT prog 24 = 16:=by kernel_rfl
 rw [hb]
 refine ⟨fun h => ⟨by omega,h,by omega,by omega,by omega,h,by omega,by omega,fun z hz => ⟨i + 1,by omega,by omega,[(4,some 17),(5,some 25)],?_⟩⟩,fun h => ?_⟩
 ·simp only [go_sem]
  refine ⟨by rw [hz,wrap_in (inRo (by omega))]; rfl,⟨fun k hk => ?_,fun k hk => ?_⟩,by simp [goodNames,asg]⟩
  ·by_cases e:k < i
   ·rw [if_pos e]; simp only [go_sem]
   ·have e:k = i:=by omega
    subst e
    rw [if_neg (by omega),Nat.sub_self]
    simp only [Nat.zero_mul,go_sem]
  ·by_cases e:k < i
   ·rw [if_pos e]; simp only [go_sem]
   ·have e:k = i:=by omega
    subst e
    rw [if_neg (by omega),Nat.sub_self]
    simp only [Nat.zero_mul,go_sem]
 ·have e:i = n:=by omega
  subst e
  have hx:∀ j,j < i→(fun j => [i64 (X j),bo (E j)]) j = [i64 (X j),bo (E j)]:=fun j hj => rfl
  have hy:∀ j,j < i→(fun j => [i64 (Y j),bo (F j)]) j = [i64 (Y j),bo (F j)]:=fun j hj => rfl
  obtain ⟨e1,e2⟩:=wvS_up hx
  obtain ⟨e3,e4⟩:=wvS_up hy
  simp only [forall_eq,e1,e2,e3,e4]
  exact ⟨nums_up hx fun j hj => (hX j hj).1,hn,nums_up hy fun j hj => (hX j hj).2,hn,rfl⟩
theorem con86:ConOK prog 86 c86:=ConOK.go (G:=[(159,c159)]) (H:=[(5,⟨[(7,.slot 3)],[(13,[.slot 3]),(14,[.slot 3])]⟩)]) (.cons con159 .nil) func86 fun l ob r hc hob => by
 unfold c86 at hc
 split at hc
 ·rename_i n g
  cases hc
  have hs:vecs n g:=hob _ (by simp)
  exact ⟨[.ro n 4 fun i => [i64 (gx g 0 i),bo (gb g 1 i),i64 (gx g 2 i),bo (gb g 3 i)]],fun w I vs h => Rs_one (fun v => ro_alike fun i hi => (hs i hi).1) h,by kernel_rfl,vc86 n _ _ _ _ (fun i hi => (hs i hi).2) (hob _ (by simp))⟩
 ·cases hc
def nSq (a:Nb):Nb:=(sqV (whV a.1),sqF (whV a.1) (whF a.1 a.2))
def nCl (x l h:Nb):Nb:=(max (whV l.1) (min (whV x.1) (whV h.1)),whF l.1 l.2 || (whF x.1 x.2 || whF h.1 h.2))
theorem sqV_rg {v:Int}:rg (sqV v):=by
 unfold sqV; split
 ·unfold rg; omega
 ·exact ftV_rg _
theorem nPos_rg {a:Nb} (h:inR a.1):rg (nPos a).1:=by
 have:=whV_rg h
 unfold nPos rg at *; dsimp only; split <;> omega
end Go.Ax
end