/-
  Words: lengths, quotients, roots.
-/
import Derived.Test.YtempjfjppjfciaaGreatCM3
set_option linter.unusedVariables false
set_option linter.unusedSimpArgs false
section
set_option maxHeartbeats 4000000
set_option maxRecDepth 100000
namespace Go.Ax
open Go.Proofs Go.Proofs.Tryz
theorem digit_low {y a b u v q r B:Nat} (hy:y = a * B + b) (hu:u * B + v < y * B) (hq:q * a + r = u) (ht:(u * B + v) / y ≤ q) (hv:v < B) (hb:b < B) (ha:0 < a)
  (hc:B ≤ q ∨ B * r + v < q * b):(u * B + v) / y + 1 ≤ q:=by
 have hyp:0 < y:=by
  rw [hy]; have:=Nat.mul_pos ha (show 0 < B by omega); omega
 rcases hc with hc | hc
 ·have:(u * B + v) / y < B:=Nat.div_lt_of_lt_mul hu
  omega
 ·have h1:u * B + v < q * y:=by
   rw [hy,← hq,Nat.add_mul,Nat.mul_add]
   have e1:q * (a * B) = q * a * B:=by rw [Nat.mul_assoc]
   have e2:r * B = B * r:=Nat.mul_comm _ _
   omega
  have h2:=Nat.div_lt_of_lt_mul (by rw [Nat.mul_comm]; exact h1)
  omega
theorem digit_done {y a b u v q r B:Nat} (hy:y = a * B + b) (hq:q * a + r = u) (ht:(u * B + v) / y ≤ q) (hyp:0 < y)
  (hc:q * b ≤ B * r + v):(u * B + v) / y = q:=by
 have h1:q * y ≤ u * B + v:=by
  rw [hy,← hq,Nat.add_mul,Nat.mul_add]
  have e1:q * (a * B) = q * a * B:=by rw [Nat.mul_assoc]
  have e2:r * B = B * r:=Nat.mul_comm _ _
  omega
 have h2:q ≤ (u * B + v) / y:=(Nat.le_div_iff_mul_le hyp).2 h1
 omega
theorem digit_break {y a b u v q r B:Nat} (hy:y = a * B + b) (hu:u * B + v < y * B) (hq:q * a + r = u) (ht:(u * B + v) / y ≤ q) (hv:v < B) (hb:b < B) (ha:0 < a) (hB:0 < B)
  (hr:B ≤ r):(u * B + v) / y = q:=by
 have hyp:0 < y:=by
  rw [hy]; have:=Nat.mul_pos ha hB; omega
 have hqB:q < B:=by
  refine Nat.lt_of_not_le fun hc => ?_
  have h1:B * a ≤ q * a:=Nat.mul_le_mul_right a hc
  have h2:(a * B + B) ≤ u:=by rw [Nat.mul_comm a B]; omega
  have h3:u < y:=by
   have:u * B < y * B:=by omega
   exact Nat.lt_of_mul_lt_mul_right this
  omega
 refine digit_done hy hq ht hyp ?_
 have h4:q * b ≤ B * B:=Nat.mul_le_mul (by omega) (by omega)
 have h5:B * B ≤ B * r:=Nat.mul_le_mul_left B hr
 omega
theorem digit_high {y a b u v B:Nat} (hy:y = a * B + b) (hv:v < B) (ha:0 < a) (hB:0 < B):(u * B + v) / y ≤ u / a:=by
 have hyp:0 < y:=by
  rw [hy]; have:=Nat.mul_pos ha hB; omega
 rw [Nat.le_div_iff_mul_le ha]
 have h1:(u * B + v) / y * y ≤ u * B + v:=Nat.div_mul_le_self _ _
 generalize (u * B + v) / y = k at *
 have h2:k * (a * B) ≤ k * y:=Nat.mul_le_mul_left k (by omega)
 have h3:k * a * B < (u + 1) * B:=by
  rw [Nat.mul_assoc,Nat.add_mul]; omega
 have:=Nat.lt_of_mul_lt_mul_right h3
 omega
theorem digits {y u v w B:Nat} (hy:0 < y):((u * B + v) * B + w) / y = (u * B + v) / y * B + ((u * B + v) % y * B + w) / y ∧ ((u * B + v) * B + w) % y = ((u * B + v) % y * B + w) % y:=by
 have e:(u * B + v) * B + w = y * ((u * B + v) / y * B) + ((u * B + v) % y * B + w):=by
  have:=Nat.div_add_mod (u * B + v) y
  conv => lhs; rw [← this]
  rw [Nat.add_mul,Nat.mul_assoc]; omega
 rw [e,Nat.mul_add_div hy,Nat.mul_add_mod]
 exact ⟨rfl,rfl⟩
theorem shifted {n y p:Nat} (hp:0 < p):n * p / (y * p) = n / y ∧ n * p % (y * p) = n % y * p:=⟨Nat.mul_div_mul_right _ _ hp,Nat.mul_mod_mul_right _ _ _⟩
abbrev blen (x:Int):Nat:=Lib.bitLen x.toNat
theorem lenAux_ok:∀ (f x:Nat),x < 2 ^ f → x < 2 ^ Lib.bitLenAux f x ∧ (x ≠ 0 → 0 < Lib.bitLenAux f x ∧ 2 ^ (Lib.bitLenAux f x - 1) ≤ x) ∧ Lib.bitLenAux f x ≤ f
 | 0,x,h => by
  have:x = 0:=by simpa using h
  subst this
  exact ⟨by simp [Lib.bitLenAux],fun h => absurd rfl h,by simp [Lib.bitLenAux]⟩
 | f + 1,x,h => by
  unfold Lib.bitLenAux
  by_cases h0:x = 0
  ·subst h0; simp
  ·rw [if_neg h0]
   obtain ⟨k1,k2,k3⟩:=lenAux_ok f (x / 2) (by rw [Nat.pow_succ] at h; omega)
   refine ⟨by rw [Nat.add_comm,Nat.pow_succ]; omega,fun _ => ⟨by omega,?_⟩,by omega⟩
   by_cases h1:x / 2 = 0
   ·have h2:x = 1:=by omega
    subst h2
    have:Lib.bitLenAux f (1 / 2) = 0:=by cases f <;> simp [Lib.bitLenAux]
    rw [this]; simp
   ·obtain ⟨j1,j2⟩:=k2 h1
    have e:1 + Lib.bitLenAux f (x / 2) - 1 = (Lib.bitLenAux f (x / 2) - 1) + 1:=by omega
    rw [e,Nat.pow_succ]; omega
theorem blen_ok {x:Int} (h:inU x):x.toNat < 2 ^ blen x ∧ (x ≠ 0 → 0 < blen x ∧ 2 ^ (blen x - 1) ≤ x.toNat) ∧ blen x ≤ 64:=by
 unfold inU at h
 have:=lenAux_ok 64 x.toNat (by have:(2:Nat) ^ 64 = 18446744073709551616:=by decide
                                omega)
 exact ⟨this.1,fun h0 => this.2.1 (by omega),this.2.2⟩
def c245:Con
 | [.v (.int .u64 x)] => some ([inU x],i64 (blen x))
 | _ => none
theorem con245:ConOK prog 245 c245:=fun es ob r hc hob => by
 unfold c245 at hc
 split at hc
 ·rename_i x
  cases hc
  have hx:inU x:=hob _ (by simp)
  intro I w vs hI hR
  obtain ⟨v1,xs,rfl,h1,hR⟩:=hR.inv
  cases R_v h1
  have:xs = []:=by have:=hR.1; simpa using this
  subst this
  refine .inr ⟨callFunc_enter func245 (by kernel_rfl) rfl _ _,?_⟩
  refine (len64 x w hx.1 (by unfold inU at hx; omega)).mono fun e w' h => ?_
  obtain ⟨he,rfl⟩:=h
  exact ⟨_,he,.v,RowKit.Below.refl _ _⟩
 ·cases hc
def c167:Con
 | [.v (.int .u64 x)] => some ([inU x],i64 (64 - blen x))
 | _ => none
theorem con167:ConOK prog 167 c167:=ConOK.of (G:=[(245,c245)]) (H:=[]) (.cons con245 .nil) func167 fun l ob r hc hob => by
 unfold c167 at hc
 split at hc
 ·rename_i x
  cases hc
  have h_0:=ob0 hob
  refine ⟨by kernel_rfl,fnVC_go (rs:=[.tmp 2]) rfl rfl ?_⟩
  simp only [go_sem,c245]
  intro z hz
  refine ⟨h_0,fun z1 hz1 => ?_⟩
  have:=(blen_ok h_0).2.2
  rw [hz1,hz,wrap_in (inRo (by omega))]
 ·cases hc
theorem digit_bound {w Y B x:Nat} (hw:w < Y) (hx:x < B):w * B + x < Y * B:=by
 have:=Nat.mul_le_mul_right B (show w + 1 ≤ Y from hw)
 rw [Nat.add_mul] at this
 omega
theorem rem_bound {n y p Y K:Nat} (hy:0 < y) (hp:0 < p) (hY:Y = y * p) (h:Y < K):n % y * p < K:=by
 have:=Nat.mul_lt_mul_of_pos_right (Nat.mod_lt n hy) hp
 omega
theorem fin_quo {p q n:Nat} (h:n = p * 4294967296 + q) (hn:n < 18446744073709551616):IntKind.u64.wrap (IntKind.u64.wrap ((p:Int) * 4294967296) + q) = n:=by
 rw [wrap_u64,wrap_u64]; omega
theorem fin_rem {w x g r:Nat} (h:g + r = w * 4294967296 + x) (hr:r < 18446744073709551616):IntKind.u64.wrap (IntKind.u64.wrap (IntKind.u64.wrap ((w:Int) * 4294967296) + x) - IntKind.u64.wrap (g:Int)) = r:=by
 rw [wrap_u64,wrap_u64,wrap_u64,wrap_u64]; omega
def c100:Con
 | [.v (.int .u64 h),.v (.int .u64 l),.v (.int .u64 y)] => some ([inU h,inU l,inU y,h < y],.tup [u64 (jn h l / y),u64 (jn h l % y)])
 | _ => none
theorem con100:ConOK prog 100 c100:=ConOK.of (G:=[(167,c167)]) (H:=[]) (.cons con167 .nil) func100 fun l ob r hc hob => by
 unfold c100 at hc
 split at hc
 ·rename_i h l y
  cases hc
  have hh:inU h:=hob _ (by simp)
  have hl:inU l:=hob _ (by simp)
  have hy:inU y:=hob _ (by simp)
  have hlt:h < y:=hob _ (by simp)
  refine ⟨by kernel_rfl,fnVC_go (rs:=[.tmp 6,.tmp 7]) rfl rfl ?_⟩
  simp only [go_sem,c167]
  refine ⟨fun hc => absurd (show y = 0 by simpa using hc) (by unfold inU at *; omega),fun hc => ⟨fun hc1 => absurd hc1 (by omega),fun hc1 => ⟨fun h2 => ?_,fun h2 => ?_⟩⟩⟩
  ·have hy0:¬ y = 0:=by simpa using hc
   have h2:h = 0:=by simpa using h2
   subst h2
   refine ⟨hy0,fun z hz => ⟨hy0,fun z1 hz1 => tup2 (u64_eq ?_) (u64_eq ?_)⟩⟩
   ·unfold inU at hl hy
    have hj:jn 0 l = l:=by unfold jn; omega
    rw [hj,hz,Int.tdiv_eq_ediv_of_nonneg hl.1]
    have k1:0 ≤ l / y:=Int.ediv_nonneg hl.1 hy.1
    have k2:l / y ≤ l:=Int.ediv_le_self _ hl.1
    exact wrap_u (by unfold inU; omega)
   ·unfold inU at hl hy
    have hj:jn 0 l = l:=by unfold jn; omega
    rw [hj,hz1,Int.tmod_eq_emod_of_nonneg hl.1]
  have hy0:¬ y = 0:=by simpa using hc
  obtain ⟨b1,b2,b3⟩:=blen_ok hy
  obtain ⟨b4,b5⟩:=b2 hy0
  obtain ⟨H,rfl⟩:∃ n:Nat,h = n:=⟨h.toNat,by unfold inU at hh; omega⟩
  obtain ⟨L,rfl⟩:∃ n:Nat,l = n:=⟨l.toNat,by unfold inU at hl; omega⟩
  obtain ⟨y,rfl⟩:∃ n:Nat,y = n:=⟨y.toNat,by unfold inU at hy; omega⟩
  have hH:H < 18446744073709551616:=by unfold inU at hh; omega
  have hL:L < 18446744073709551616:=by unfold inU at hl; omega
  have hyy:y < 18446744073709551616:=by unfold inU at hy; omega
  generalize hs:64 - blen (y:Int) = s at *
  have hs2:blen (y:Int) = 64 - s:=by omega
  have hs3:s < 64:=by omega
  rw [hs2] at b1 b5
  rw [Int.toNat_natCast] at b1 b5
  have p64:(2:Nat) ^ 64 = 18446744073709551616:=by decide
  have p63:(2:Nat) ^ 63 = 9223372036854775808:=by decide
  have pp:2 ^ (64 - s) * 2 ^ s = 18446744073709551616:=by rw [← Nat.pow_add,← p64]; congr 1; omega
  have pq:2 ^ (64 - s - 1) * 2 ^ s = 9223372036854775808:=by rw [← Nat.pow_add,← p63]; congr 1; omega
  have ps:0 < 2 ^ s:=Nat.two_pow_pos s
  obtain ⟨Y,hY⟩:∃ Y,Y = y * 2 ^ s:=⟨_,rfl⟩
  have Y1:Y < 18446744073709551616:=by rw [hY,← pp]; exact Nat.mul_lt_mul_of_pos_right b1 ps
  have Y2:9223372036854775808 ≤ Y:=by rw [hY,← pq]; exact Nat.mul_le_mul_right _ b5
  have hw:∀ n:Nat,n < 18446744073709551616 → IntKind.u64.wrap (n:Int) = n:=fun n hn => wrap_u (by unfold inU; omega)
  intro z hz
  refine ⟨hy,fun z1 hz1 => ?_⟩
  have e1:z1 = (s:Int):=by rw [hz1,hz,hs2,show (64:Int) - ((64 - s:Nat):Int) = (s:Int) by omega,hw _ (by omega)]
  have m1:min z1.toNat 64 = s:=by rw [e1]; omega
  have n1:¬ z1 < 0:=by rw [e1]; omega
  rw [m1]
  refine ⟨n1,fun z2 hz2 z3 hz3 z4 hz4 => ⟨n1,fun z5 hz5 z6 hz6 => ?_⟩⟩
  have cP:((2:Int) ^ s) = ((2 ^ s:Nat):Int):=by simp
  have e2:z2 = (Y:Int):=by rw [hz2,cP,← Int.natCast_mul,← hY,hw _ Y1]
  have e3:z3 = ((Y / 4294967296:Nat):Int):=by rw [hz3,e2]; omega
  have e4:z4 = ((Y % 4294967296:Nat):Int):=by rw [hz4,e2,andI_32 (by unfold inU; omega)]; omega
  have hHY:H * 2 ^ s < Y:=by rw [hY]; exact Nat.mul_lt_mul_of_pos_right (by omega) ps
  have e5:z5 = ((H * 2 ^ s:Nat):Int):=by rw [hz5,cP,← Int.natCast_mul,hw _ (by omega)]
  have e6:z6 = ((64 - s:Nat):Int):=by rw [hz6,e1,show (64:Int) - (s:Int) = ((64 - s:Nat):Int) by omega,hw _ (by omega)]
  have m6:min z6.toNat 64 = 64 - s:=by rw [e6]; omega
  rw [m6]
  refine ⟨by rw [e6]; omega,fun z7 hz7 z8 hz8 => ⟨n1,fun z9 hz9 z10 hz10 z11 hz11 => ?_⟩⟩
  have e7:z7 = ((L / 2 ^ (64 - s):Nat):Int):=by
   have c2:((2:Int) ^ (64 - s)) = ((2 ^ (64 - s):Nat):Int):=by simp
   rw [hz7,c2,Int.fdiv_eq_ediv_of_nonneg _ (by omega)]; rfl
  have l7:L / 2 ^ (64 - s) < 2 ^ s:=Nat.div_lt_of_lt_mul (by rw [pp]; exact hL)
  obtain ⟨u,hu⟩:∃ u,u = H * 2 ^ s + L / 2 ^ (64 - s):=⟨_,rfl⟩
  have u1:u < Y:=by
   have:(H + 1) * 2 ^ s ≤ Y:=by rw [hY]; exact Nat.mul_le_mul_right _ (by omega)
   rw [Nat.add_mul] at this
   omega
  have e8:z8 = (u:Int):=by
   rw [hz8,e5,e7]
   unfold orI
   rw [BitVec.toNat_or,toNat_u (by omega),toNat_u (by omega),Nat.mul_comm H,← Nat.two_pow_add_eq_or_of_lt l7,Nat.mul_comm (2 ^ s),← hu,hw _ (by omega)]
  obtain ⟨t,ht⟩:∃ t,t = L * 2 ^ s % 18446744073709551616:=⟨_,rfl⟩
  have e9:z9 = (t:Int):=by rw [hz9,cP,← Int.natCast_mul,wrap_u64,ht]; omega
  have t1:t < 18446744073709551616:=by rw [ht]; omega
  have e10:z10 = ((t / 4294967296:Nat):Int):=by rw [hz10,e9]; omega
  have e11:z11 = ((t % 4294967296:Nat):Int):=by rw [hz11,e9,andI_32 (by unfold inU; omega)]; omega
  have hN:(H * 18446744073709551616 + L) * 2 ^ s = u * 18446744073709551616 + t:=by
   have k1:L * 2 ^ s = L / 2 ^ (64 - s) * 18446744073709551616 + L % 2 ^ (64 - s) * 2 ^ s:=by
    have:=Nat.div_add_mod' L (2 ^ (64 - s))
    conv => lhs; rw [← this]
    rw [Nat.add_mul,Nat.mul_assoc,pp]
   have k2:L % 2 ^ (64 - s) * 2 ^ s < 18446744073709551616:=by
    rw [← pp]; exact Nat.mul_lt_mul_of_pos_right (Nat.mod_lt _ (Nat.two_pow_pos _)) ps
   rw [ht,hu,Nat.add_mul,Nat.add_mul,Nat.mul_right_comm]
   omega
  clear hz hz1 hz2 hz3 hz4 hz5 hz6 hz7 hz8 hz9 hz10 hz11 m1 m6 n1 e5 e6 e7
  subst e3 e4 e8 e10 e11 e2
  obtain ⟨a,ha⟩:∃ a,a = Y / 4294967296:=⟨_,rfl⟩
  obtain ⟨b,hb⟩:∃ b,b = Y % 4294967296:=⟨_,rfl⟩
  obtain ⟨v,hv⟩:∃ v,v = t / 4294967296:=⟨_,rfl⟩
  obtain ⟨x,hx⟩:∃ x,x = t % 4294967296:=⟨_,rfl⟩
  rw [← ha,← hb,← hv,← hx]
  have a1:2147483648 ≤ a ∧ a < 4294967296:=by omega
  have hYab:Y = a * 4294967296 + b:=by omega
  refine ⟨by omega,fun z12 hz12 z13 hz13 z14 hz14 => ?_⟩
  have hq0:u / a ≤ u:=Nat.div_le_self _ _
  have hqa:=Nat.div_mul_le_self u a
  have e12:z12 = ((u / a:Nat):Int):=by
   rw [hz12,Int.tdiv_eq_ediv_of_nonneg (by omega),← Int.natCast_ediv,hw _ (by omega)]
  have e13:z13 = ((u / a * a:Nat):Int):=by rw [hz13,e12,← Int.natCast_mul,hw _ (by omega)]
  have e14:z14 = ((u % a:Nat):Int):=by
   have:=Nat.div_add_mod' u a
   rw [hz14,e13,show ((u:Int) - ((u / a * a:Nat):Int)) = ((u % a:Nat):Int) by omega,hw _ (by have:=Nat.mod_lt u (show 0 < a by omega); omega)]
  subst e12 e13 e14
  have hu2:u * 4294967296 + v < Y * 4294967296:=by omega
  have f0:(u * 4294967296 + v) / Y ≤ u / a:=digit_high hYab (by omega) (by omega) (by omega)
  have hN2:(H * 18446744073709551616 + L) * 2 ^ s = (u * 4294967296 + v) * 4294967296 + x:=by rw [hN]; omega
  have hYp:0 < Y:=by omega
  have hxB:x < 4294967296:=by omega
  have hNd:(H * 18446744073709551616 + L) / y < 18446744073709551616:=Nat.div_lt_of_lt_mul (digit_bound (Int.ofNat_lt.1 hlt) hL)
  have hNm:(H * 18446744073709551616 + L) % y * 2 ^ s < 18446744073709551616:=rem_bound (Nat.pos_of_ne_zero fun h => hy0 (by rw [h]; rfl)) ps hY Y1
  have hJ:jn (H:Int) (L:Int) = ((H * 18446744073709551616 + L:Nat):Int):=by unfold jn; omega
  have F1:(H * 18446744073709551616 + L) / y = (u * 4294967296 + v) / Y * 4294967296 + ((u * 4294967296 + v) % Y * 4294967296 + x) / Y:=by
   rw [← (digits hYp).1,← hN2,hY,(shifted ps).1]
  have F2:(H * 18446744073709551616 + L) % y * 2 ^ s = ((u * 4294967296 + v) % Y * 4294967296 + x) % Y:=by
   rw [← (digits hYp).2,← hN2,hY,(shifted ps).2]
  obtain ⟨D1,hD1⟩:∃ D,D = (u * 4294967296 + v) / Y:=⟨_,rfl⟩
  rw [← hD1] at f0
  refine loopC_go (fun (p:Nat × Nat) => p.1 * a + p.2 = u ∧ D1 ≤ p.1 ∧ p.2 < 4294967296) (fun p => p.1) (fun p => [(15,u64 p.1),(16,u64 p.2)]) (fun _ => []) [] [67,68,69,70,71,72,73,74,75,76,77,78,79,80,15,81,82,83,16,84,85] (u / a,u % a) (by kernel_rfl) ?_ ⟨Nat.div_add_mod' u a,f0,by have:=Nat.mod_lt u (show 0 < a by omega); omega⟩ ?_ ?_
  ·intro x _; simp [goodNames]
  ·simp only [go_sem]
  intro p hp
  obtain ⟨q1,r⟩:=p
  obtain ⟨hq,hq2,hr⟩:=hp
  dsimp only at hq hq2 hr
  simp only [go_sem]
  intro z1 hz1 z2 hz2 z3 hz3
  have hqu:q1 ≤ u:=by
   have:=Nat.mul_le_mul_left q1 (show 1 ≤ a by omega)
   omega
  have hc:(4294967296 ≤ (q1:Int) ∨ z3 < z1) ↔ (4294967296 ≤ q1 ∨ 4294967296 * r + v < q1 * b):=by
   by_cases h:4294967296 ≤ q1
   ·exact ⟨fun _ => .inl h,fun _ => .inl (by omega)⟩
   ·have h5:q1 * b < 4294967296 * 4294967296:=Nat.mul_lt_mul'' (by omega) (by omega)
    have k1:z1 = ((q1 * b:Nat):Int):=by rw [hz1,← Int.natCast_mul,hw _ (by omega)]
    have k2:z2 = ((4294967296 * r:Nat):Int):=by rw [hz2,show (4294967296:Int) * (r:Int) = ((4294967296 * r:Nat):Int) by omega,hw _ (by omega)]
    have k3:z3 = ((4294967296 * r + v:Nat):Int):=by rw [hz3,k2,← Int.natCast_add,hw _ (by omega)]
    rw [k1,k3]
    omega
  clear hz1 hz2 hz3
  refine ⟨fun h z4 hz4 z5 hz5 => ?_,fun h => ?_⟩
  ·have h:=hc.1 h
   clear hc
   have hd:=digit_low hYab hu2 hq (hD1 ▸ hq2) (by omega) (by omega) (by omega) h
   rw [← hD1] at hd
   have k4:z4 = ((q1 - 1:Nat):Int):=by rw [hz4,show (q1:Int) - 1 = ((q1 - 1:Nat):Int) by omega,hw _ (by omega)]
   have k5:z5 = ((r + a:Nat):Int):=by rw [hz5,← Int.natCast_add,hw _ (by omega)]
   have hqn:(q1 - 1) * a + (r + a) = u:=by
    rw [Nat.sub_mul,Nat.one_mul]
    have:=Nat.mul_le_mul_right a (show 1 ≤ q1 by omega)
    omega
   clear hz4 hz5
   subst k4 k5
   refine ⟨fun h5 => ?_,fun h5 => ⟨(q1 - 1,r + a),⟨hqn,by dsimp only; omega,by dsimp only; omega⟩,by dsimp only; omega,rfl,rfl⟩⟩
   have hQ:=digit_break hYab hu2 hqn (by rw [← hD1]; omega) (by omega) (by omega) (by omega) (by omega) (by omega)
   generalize q1 - 1 = Q1 at hQ ⊢
   have hQd:=Nat.div_add_mod' (u * 4294967296 + v) Y
   rw [hQ] at hQd
   have hw1:=Nat.mod_lt (u * 4294967296 + v) (show 0 < Y by omega)
   rw [hQ] at F1
   obtain ⟨w,hwd⟩:∃ w,w = (u * 4294967296 + v) % Y:=⟨_,rfl⟩
   rw [← hwd] at hQd hw1 F1 F2
   clear hwd
   intro y1 hy1 y2 hy2 y3 hy3 y4 hy4
   have e4:y4 = (w:Int):=by
    rw [hy4,hy3,hy2,hy1,← Int.natCast_mul,fin_rem hQd (Nat.lt_trans hw1 Y1)]
   clear hy1 hy2 hy3 hy4
   subst e4
   refine ⟨by omega,fun y5 hy5 y6 hy6 y7 hy7 => ?_⟩
   have g5:y5 = ((w / a:Nat):Int):=by
    have:=Nat.div_le_self w a
    rw [hy5,Int.tdiv_eq_ediv_of_nonneg (by omega),← Int.natCast_ediv,hw _ (by omega)]
   have g6:y6 = ((w / a * a:Nat):Int):=by
    have:=Nat.div_mul_le_self w a
    rw [hy6,g5,← Int.natCast_mul,hw _ (by omega)]
   have g7:y7 = ((w % a:Nat):Int):=by
    have:=Nat.div_add_mod' w a
    rw [hy7,g6,show ((w:Int) - ((w / a * a:Nat):Int)) = ((w % a:Nat):Int) by omega,hw _ (by have:=Nat.mod_lt w (show 0 < a by omega); omega)]
   clear hy5 hy6 hy7
   subst g5 g6 g7
   have hw2:w * 4294967296 + x < Y * 4294967296:=digit_bound hw1 hxB
   have f2:(w * 4294967296 + x) / Y ≤ w / a:=digit_high hYab (by omega) (by omega) (by omega)
   obtain ⟨D2,hD2⟩:∃ D,D = (w * 4294967296 + x) / Y:=⟨_,rfl⟩
   rw [← hD2] at f2
   refine loopC_go (fun (p:Nat × Nat) => p.1 * a + p.2 = w ∧ D2 ≤ p.1 ∧ p.2 < 4294967296) (fun p => p.1) (fun p => [(18,u64 p.1),(16,u64 p.2)]) (fun _ => []) [] [102,103,104,105,106,107,108,109,110,111,112,113,114,115,18,116,117,118,16,119,120] (w / a,w % a) (by kernel_rfl) ?_ ⟨Nat.div_add_mod' w a,f2,by have:=Nat.mod_lt w (show 0 < a by omega); omega⟩ ?_ ?_
   ·intro x _; simp [goodNames]
   ·simp only [go_sem]
   intro p hp
   obtain ⟨q2,r⟩:=p
   obtain ⟨hq,hq2,hr⟩:=hp
   dsimp only at hq hq2 hr
   simp only [go_sem]
   intro z1 hz1 z2 hz2 z3 hz3
   have hqu:q2 ≤ w:=by
    have:=Nat.mul_le_mul_left q2 (show 1 ≤ a by omega)
    omega
   have hc:(4294967296 ≤ (q2:Int) ∨ z3 < z1) ↔ (4294967296 ≤ q2 ∨ 4294967296 * r + x < q2 * b):=by
    by_cases h:4294967296 ≤ q2
    ·exact ⟨fun _ => .inl h,fun _ => .inl (by omega)⟩
    ·have h5:q2 * b < 4294967296 * 4294967296:=Nat.mul_lt_mul'' (by omega) (by omega)
     have k1:z1 = ((q2 * b:Nat):Int):=by rw [hz1,← Int.natCast_mul,hw _ (by omega)]
     have k2:z2 = ((4294967296 * r:Nat):Int):=by rw [hz2,show (4294967296:Int) * (r:Int) = ((4294967296 * r:Nat):Int) by omega,hw _ (by omega)]
     have k3:z3 = ((4294967296 * r + x:Nat):Int):=by rw [hz3,k2,← Int.natCast_add,hw _ (by omega)]
     rw [k1,k3]
     omega
   clear hz1 hz2 hz3
   refine ⟨fun h z4 hz4 z5 hz5 => ?_,fun h => ?_⟩
   ·have h:=hc.1 h
    clear hc
    have hd:=digit_low hYab hw2 hq (hD2 ▸ hq2) (by omega) (by omega) (by omega) h
    rw [← hD2] at hd
    have k4:z4 = ((q2 - 1:Nat):Int):=by rw [hz4,show (q2:Int) - 1 = ((q2 - 1:Nat):Int) by omega,hw _ (by omega)]
    have k5:z5 = ((r + a:Nat):Int):=by rw [hz5,← Int.natCast_add,hw _ (by omega)]
    have hqn:(q2 - 1) * a + (r + a) = w:=by
     rw [Nat.sub_mul,Nat.one_mul]
     have:=Nat.mul_le_mul_right a (show 1 ≤ q2 by omega)
     omega
    clear hz4 hz5
    subst k4 k5
    refine ⟨fun h5 => ?_,fun h5 => ⟨(q2 - 1,r + a),⟨hqn,by dsimp only; omega,by dsimp only; omega⟩,by dsimp only; omega,rfl,rfl⟩⟩
    have hQ:=digit_break hYab hw2 hqn (by rw [← hD2]; omega) (by omega) (by omega) (by omega) (by omega) (by omega)
    generalize q2 - 1 = Q2 at hQ ⊢
    rw [hQ] at F1
    have hQe:=Nat.div_add_mod' (w * 4294967296 + x) Y
    rw [hQ,← F2] at hQe
    intro y1 hy1 y2 hy2 y3 hy3 y4 hy4 y5 hy5 y6 hy6
    refine ⟨by rw [e1]; exact Int.not_lt.2 (Int.natCast_nonneg s),fun y7 hy7 => ?_⟩
    rw [e1,Int.toNat_natCast,Nat.min_eq_left (Nat.le_of_lt hs3),cP,hy6,hy5,hy4,hy3,← Int.natCast_mul,fin_rem hQe hNm,Int.fdiv_eq_ediv_of_nonneg _ (Int.natCast_nonneg _),← Int.natCast_ediv,Nat.mul_div_cancel _ ps] at hy7
    rw [hy1,fin_quo F1 hNd] at hy2
    rw [hy2,hy7,hJ]
    exact tup2 rfl rfl
   ·have h:¬ (4294967296 ≤ q2 ∨ 4294967296 * r + x < q2 * b):=fun hh => not_or.2 h (hc.2 hh)
    clear hc
    have hQ:=digit_done (v:=x) hYab hq (hD2 ▸ hq2) (by omega) (by omega)
    generalize q2 = Q2 at hQ ⊢
    rw [hQ] at F1
    have hQe:=Nat.div_add_mod' (w * 4294967296 + x) Y
    rw [hQ,← F2] at hQe
    intro y1 hy1 y2 hy2 y3 hy3 y4 hy4 y5 hy5 y6 hy6
    refine ⟨by rw [e1]; exact Int.not_lt.2 (Int.natCast_nonneg s),fun y7 hy7 => ?_⟩
    rw [e1,Int.toNat_natCast,Nat.min_eq_left (Nat.le_of_lt hs3),cP,hy6,hy5,hy4,hy3,← Int.natCast_mul,fin_rem hQe hNm,Int.fdiv_eq_ediv_of_nonneg _ (Int.natCast_nonneg _),← Int.natCast_ediv,Nat.mul_div_cancel _ ps] at hy7
    rw [hy1,fin_quo F1 hNd] at hy2
    rw [hy2,hy7,hJ]
    exact tup2 rfl rfl
  ·have h:¬ (4294967296 ≤ q1 ∨ 4294967296 * r + v < q1 * b):=fun hh => not_or.2 h (hc.2 hh)
   clear hc
   have hQ:=digit_done (v:=v) hYab hq (hD1 ▸ hq2) (by omega) (by omega)
   generalize q1 = Q1 at hQ ⊢
   have hQd:=Nat.div_add_mod' (u * 4294967296 + v) Y
   rw [hQ] at hQd
   have hw1:=Nat.mod_lt (u * 4294967296 + v) (show 0 < Y by omega)
   rw [hQ] at F1
   obtain ⟨w,hwd⟩:∃ w,w = (u * 4294967296 + v) % Y:=⟨_,rfl⟩
   rw [← hwd] at hQd hw1 F1 F2
   clear hwd
   intro y1 hy1 y2 hy2 y3 hy3 y4 hy4
   have e4:y4 = (w:Int):=by
    rw [hy4,hy3,hy2,hy1,← Int.natCast_mul,fin_rem hQd (Nat.lt_trans hw1 Y1)]
   clear hy1 hy2 hy3 hy4
   subst e4
   refine ⟨by omega,fun y5 hy5 y6 hy6 y7 hy7 => ?_⟩
   have g5:y5 = ((w / a:Nat):Int):=by
    have:=Nat.div_le_self w a
    rw [hy5,Int.tdiv_eq_ediv_of_nonneg (by omega),← Int.natCast_ediv,hw _ (by omega)]
   have g6:y6 = ((w / a * a:Nat):Int):=by
    have:=Nat.div_mul_le_self w a
    rw [hy6,g5,← Int.natCast_mul,hw _ (by omega)]
   have g7:y7 = ((w % a:Nat):Int):=by
    have:=Nat.div_add_mod' w a
    rw [hy7,g6,show ((w:Int) - ((w / a * a:Nat):Int)) = ((w % a:Nat):Int) by omega,hw _ (by have:=Nat.mod_lt w (show 0 < a by omega); omega)]
   clear hy5 hy6 hy7
   subst g5 g6 g7
   have hw2:w * 4294967296 + x < Y * 4294967296:=digit_bound hw1 hxB
   have f2:(w * 4294967296 + x) / Y ≤ w / a:=digit_high hYab (by omega) (by omega) (by omega)
   obtain ⟨D2,hD2⟩:∃ D,D = (w * 4294967296 + x) / Y:=⟨_,rfl⟩
   rw [← hD2] at f2
   refine loopC_go (fun (p:Nat × Nat) => p.1 * a + p.2 = w ∧ D2 ≤ p.1 ∧ p.2 < 4294967296) (fun p => p.1) (fun p => [(18,u64 p.1),(16,u64 p.2)]) (fun _ => []) [] [102,103,104,105,106,107,108,109,110,111,112,113,114,115,18,116,117,118,16,119,120] (w / a,w % a) (by kernel_rfl) ?_ ⟨Nat.div_add_mod' w a,f2,by have:=Nat.mod_lt w (show 0 < a by omega); omega⟩ ?_ ?_
   ·intro x _; simp [goodNames]
   ·simp only [go_sem]
   intro p hp
   obtain ⟨q2,r⟩:=p
   obtain ⟨hq,hq2,hr⟩:=hp
   dsimp only at hq hq2 hr
   simp only [go_sem]
   intro z1 hz1 z2 hz2 z3 hz3
   have hqu:q2 ≤ w:=by
    have:=Nat.mul_le_mul_left q2 (show 1 ≤ a by omega)
    omega
   have hc:(4294967296 ≤ (q2:Int) ∨ z3 < z1) ↔ (4294967296 ≤ q2 ∨ 4294967296 * r + x < q2 * b):=by
    by_cases h:4294967296 ≤ q2
    ·exact ⟨fun _ => .inl h,fun _ => .inl (by omega)⟩
    ·have h5:q2 * b < 4294967296 * 4294967296:=Nat.mul_lt_mul'' (by omega) (by omega)
     have k1:z1 = ((q2 * b:Nat):Int):=by rw [hz1,← Int.natCast_mul,hw _ (by omega)]
     have k2:z2 = ((4294967296 * r:Nat):Int):=by rw [hz2,show (4294967296:Int) * (r:Int) = ((4294967296 * r:Nat):Int) by omega,hw _ (by omega)]
     have k3:z3 = ((4294967296 * r + x:Nat):Int):=by rw [hz3,k2,← Int.natCast_add,hw _ (by omega)]
     rw [k1,k3]
     omega
   clear hz1 hz2 hz3
   refine ⟨fun h z4 hz4 z5 hz5 => ?_,fun h => ?_⟩
   ·have h:=hc.1 h
    clear hc
    have hd:=digit_low hYab hw2 hq (hD2 ▸ hq2) (by omega) (by omega) (by omega) h
    rw [← hD2] at hd
    have k4:z4 = ((q2 - 1:Nat):Int):=by rw [hz4,show (q2:Int) - 1 = ((q2 - 1:Nat):Int) by omega,hw _ (by omega)]
    have k5:z5 = ((r + a:Nat):Int):=by rw [hz5,← Int.natCast_add,hw _ (by omega)]
    have hqn:(q2 - 1) * a + (r + a) = w:=by
     rw [Nat.sub_mul,Nat.one_mul]
     have:=Nat.mul_le_mul_right a (show 1 ≤ q2 by omega)
     omega
    clear hz4 hz5
    subst k4 k5
    refine ⟨fun h5 => ?_,fun h5 => ⟨(q2 - 1,r + a),⟨hqn,by dsimp only; omega,by dsimp only; omega⟩,by dsimp only; omega,rfl,rfl⟩⟩
    have hQ:=digit_break hYab hw2 hqn (by rw [← hD2]; omega) (by omega) (by omega) (by omega) (by omega) (by omega)
    generalize q2 - 1 = Q2 at hQ ⊢
    rw [hQ] at F1
    have hQe:=Nat.div_add_mod' (w * 4294967296 + x) Y
    rw [hQ,← F2] at hQe
    intro y1 hy1 y2 hy2 y3 hy3 y4 hy4 y5 hy5 y6 hy6
    refine ⟨by rw [e1]; exact Int.not_lt.2 (Int.natCast_nonneg s),fun y7 hy7 => ?_⟩
    rw [e1,Int.toNat_natCast,Nat.min_eq_left (Nat.le_of_lt hs3),cP,hy6,hy5,hy4,hy3,← Int.natCast_mul,fin_rem hQe hNm,Int.fdiv_eq_ediv_of_nonneg _ (Int.natCast_nonneg _),← Int.natCast_ediv,Nat.mul_div_cancel _ ps] at hy7
    rw [hy1,fin_quo F1 hNd] at hy2
    rw [hy2,hy7,hJ]
    exact tup2 rfl rfl
   ·have h:¬ (4294967296 ≤ q2 ∨ 4294967296 * r + x < q2 * b):=fun hh => not_or.2 h (hc.2 hh)
    clear hc
    have hQ:=digit_done (v:=x) hYab hq (hD2 ▸ hq2) (by omega) (by omega)
    generalize q2 = Q2 at hQ ⊢
    rw [hQ] at F1
    have hQe:=Nat.div_add_mod' (w * 4294967296 + x) Y
    rw [hQ,← F2] at hQe
    intro y1 hy1 y2 hy2 y3 hy3 y4 hy4 y5 hy5 y6 hy6
    refine ⟨by rw [e1]; exact Int.not_lt.2 (Int.natCast_nonneg s),fun y7 hy7 => ?_⟩
    rw [e1,Int.toNat_natCast,Nat.min_eq_left (Nat.le_of_lt hs3),cP,hy6,hy5,hy4,hy3,← Int.natCast_mul,fin_rem hQe hNm,Int.fdiv_eq_ediv_of_nonneg _ (Int.natCast_nonneg _),← Int.natCast_ediv,Nat.mul_div_cancel _ ps] at hy7
    rw [hy1,fin_quo F1 hNd] at hy2
    rw [hy2,hy7,hJ]
    exact tup2 rfl rfl
 ·cases hc
def raV (a b:Int):Int:=if b = 0 then cmpS a 0 * 9223372036854775807 else ftV ((a * 4294967296).tdiv b)
def raF (a b:Int):Bool:=if b = 0 then true else ftF ((a * 4294967296).tdiv b)
abbrev ra (a b:Int) (f:Bool):AV:=.agg [i64 (raV a b),bo (raF a b || f)]
theorem raV_rg {a b:Int}:rg (raV a b):=by
 unfold raV
 split
 ·unfold cmpS rg; split
  ·omega
  ·split <;> omega
 ·exact ftV_rg _
theorem sgn_ratio {a b:Int} (hb:b ≠ 0):sgn (decide (a < 0) != decide (b < 0)) (ab a * 4294967296 / ab b) = (a * 4294967296).tdiv b:=by
 have key:ab a * 4294967296 / ab b = (ab a * 4294967296).tdiv (ab b):=(Int.tdiv_eq_ediv_of_nonneg (by have:=ab_nonneg a; omega)).symm
 rw [key]
 unfold ab sgn
 by_cases ha:a < 0 <;> by_cases hb2:b < 0 <;> simp [ha,hb2]
 ·rw [Int.neg_mul,Int.neg_tdiv,Int.neg_neg]
 ·rw [Int.neg_mul,Int.neg_tdiv,Int.neg_neg]
theorem quo_word {m d:Int} (hm:0 ≤ m) (hd:0 < d):jn (m / 18446744073709551616 / d) (jn (m / 18446744073709551616 % d) (m % 18446744073709551616) / d) = m / d:=by
 have e1:=Int.mul_ediv_add_emod m 18446744073709551616
 have e2:=Int.mul_ediv_add_emod (m / 18446744073709551616) d
 have key:m = (m / 18446744073709551616 % d * 18446744073709551616 + m % 18446744073709551616) + d * (m / 18446744073709551616 / d * 18446744073709551616):=by
  rw [← Int.mul_assoc]
  generalize d * (m / 18446744073709551616 / d) = w at *
  omega
 unfold jn
 conv => rhs; rw [key,Int.add_mul_ediv_left _ _ (by omega)]
 omega
theorem inU_quo {m d:Int} (hm:0 ≤ m) (hd:0 < d) (hd2:d < 18446744073709551616):jn (m / 18446744073709551616 % d) (m % 18446744073709551616) / d < 18446744073709551616:=by
 have h1:=Int.emod_lt_of_pos (m / 18446744073709551616) hd
 refine Int.ediv_lt_of_lt_mul hd ?_
 unfold jn
 omega
def c52:Con
 | [.v (.int .i64 a),.v (.int .i64 b)] => some ([inR a,inR b],ra a b false)
 | _ => none
theorem con52:ConOK prog 52 c52:=ConOK.of (G:=[(97,c97),(98,c98),(99,c99),(100,c100),(92,c92)]) (H:=[]) (.cons con97 (.cons con98 (.cons con99 (.cons con100 (.cons con92 .nil))))) func52 fun l ob r hc hob => by
 unfold c52 at hc
 split at hc
 ·rename_i a b
  cases hc
  have h_0:=ob0 hob
  have h_1:=ob1 hob
  refine ⟨by kernel_rfl,fnVC_go (rs:=[.cell 4 27]) rfl rfl ?_⟩
  simp only [go_sem,c97,c98,c99,c100,c92]
  refine ⟨fun hb z hz z1 hz1 => ?_,fun hb => ?_⟩
  ·have hb:b = 0:=by simpa using hb
   refine agg2 (i64_eq ?_) (bo_eq ?_)
   ·unfold raV
    rw [if_pos hb,hz1,hz]
    have:cmpS a 0 = -1 ∨ cmpS a 0 = 0 ∨ cmpS a 0 = 1:=by unfold cmpS; split <;> (try split) <;> simp
    rw [wrap_in (inRo (by omega))]
   ·unfold raF; rw [if_pos hb]; rfl
  ·have hb:b ≠ 0:=by simpa using hb
   have ha0:=ab_nonneg a
   have hb0:=ab_nonneg b
   have ha1:ab a ≤ 9223372036854775808:=by unfold inR at h_0; exact ab_le (by omega) (by omega)
   have hb1:ab b ≤ 9223372036854775808:=by unfold inR at h_1; exact ab_le (by omega) (by omega)
   have hb2:0 < ab b:=by unfold ab at hb0 ⊢; split <;> omega
   have eb:ab b % 18446744073709551616 = ab b:=by omega
   simp only [forall_eq,mod_jn,eb,Bool.or_false]
   obtain ⟨m,hm⟩:∃ m,m = ab a * 4294967296:=⟨_,rfl⟩
   rw [← hm]
   have m0:0 ≤ m:=by omega
   have m1:m / 18446744073709551616 < 18446744073709551616:=by omega
   have t1:(m / 18446744073709551616).tmod (ab b) = m / 18446744073709551616 % ab b:=Int.tmod_eq_emod_of_nonneg (by omega)
   have t2:IntKind.u64.wrap ((m / 18446744073709551616).tdiv (ab b)) = m / 18446744073709551616 / ab b:=by
    have k0:0 ≤ m / 18446744073709551616:=by omega
    have k1:m / 18446744073709551616 / ab b ≤ m / 18446744073709551616:=Int.ediv_le_self _ k0
    have k2:0 ≤ m / 18446744073709551616 / ab b:=Int.ediv_nonneg k0 hb0
    rw [Int.tdiv_eq_ediv_of_nonneg k0,wrap_u (by unfold inU; omega)]
   rw [t1,t2]
   have k3:=Int.emod_nonneg (m / 18446744073709551616) (show ab b ≠ 0 by omega)
   have k4:=Int.emod_lt_of_pos (m / 18446744073709551616) hb2
   have k5:0 ≤ m / 18446744073709551616 / ab b:=Int.ediv_nonneg (by omega) hb0
   have k6:m / 18446744073709551616 / ab b ≤ m / 18446744073709551616:=Int.ediv_le_self _ (by omega)
   have k7:0 ≤ jn (m / 18446744073709551616 % ab b) (m % 18446744073709551616) / ab b:=Int.ediv_nonneg (by unfold jn; omega) hb0
   have k8:=inU_quo m0 hb2 (by omega)
   rw [quo_word m0 hb2]
   refine ⟨h_0,inU_mod,inU_div ha0 (by omega),by omega,h_1,by omega,by omega,by unfold inU; omega,inU_mod,by unfold inU; omega,k4,⟨k7,k8⟩,by unfold inU; omega,?_⟩
   have e:(!decide (a < 0) == decide (b < 0)) = (decide (a < 0) != decide (b < 0)):=by cases decide (a < 0) <;> cases decide (b < 0) <;> rfl
   rw [e,hm,sgn_ratio hb]
   refine agg2 (i64_eq ?_) (bo_eq ?_)
   ·unfold raV; rw [if_neg hb]
   ·unfold raF; rw [if_neg hb,Bool.or_false]
 ·cases hc
def c78:Con
 | [.agg [.v (.int .i64 v),.v (.bool f)],.agg [.v (.int .i64 u),.v (.bool e)]] => some ([inR v,inR u],ra (whV v) (whV u) (whF v f || whF u e))
 | _ => none
theorem con78:ConOK prog 78 c78:=ConOK.of (G:=[(89,c89),(52,c52),(93,c93)]) (H:=[(1,⟨[(4,.slot 2),(5,.slot 3)],[]⟩)]) (.cons con89 (.cons con52 (.cons con93 .nil))) func78 fun l ob r hc hob => by
 unfold c78 at hc
 split at hc
 ·rename_i v f u e
  cases hc
  have h_0:=ob0 hob
  have h_1:=ob1 hob
  refine ⟨by kernel_rfl,fnVC_go (rs:=[.cell 4 27]) rfl rfl ?_⟩
  simp only [go_sem,c89,c52,c93]
  simp only [forall_eq]
  refine ⟨inR_wh h_0,inR_wh h_1,fun _ => nums2 rfl rfl (inR_wh h_0) (inR_wh h_1),fun _ => trivial,?_⟩
  rw [any2 rfl rfl,Bool.or_false]
 ·cases hc
theorem newton {m r:Nat} (hr:0 < r) (h:m < (r + 1) * (r + 1)) (hq:m / r < r):m < ((r + m / r) / 2 + 1) * ((r + m / r) / 2 + 1):=by
 have h1:m < r * (m / r + 1):=by
  have:=Nat.div_add_mod m r
  have:=Nat.mod_lt m hr
  rw [Nat.mul_add]; omega
 generalize m / r = q at *
 obtain ⟨d,hd⟩:=Nat.exists_eq_add_of_le (show q + 1 ≤ r by omega)
 have h2:r + q + 1 ≤ 2 * ((r + q) / 2 + 1):=by omega
 generalize (r + q) / 2 + 1 = t at *
 have h3:=Nat.mul_le_mul h2 h2
 have h4:4 * (r * (q + 1)) ≤ (r + q + 1) * (r + q + 1):=by
  subst hd
  have e1:(q + 1 + d + q + 1) * (q + 1 + d + q + 1) = 4 * ((q + 1 + d) * (q + 1)) + d * d:=by
   rw [show q + 1 + d + q + 1 = (q + 1 + d) + (q + 1) by omega]
   generalize q + 1 = p
   simp only [Nat.add_mul,Nat.mul_add]
   have:d * p = p * d:=Nat.mul_comm _ _
   omega
  omega
 have h5:2 * t * (2 * t) = 4 * (t * t):=by
  rw [Nat.mul_assoc,Nat.mul_left_comm t,← Nat.mul_assoc]
 omega
theorem newton_body {h l:Int} {m r:Nat} (hl:inU l) (hh:inU h) (hjm:jn h l = (m:Int)) (h0:0 < m) (hmK:m < 340282366920938463463374607431768211456) (hr:0 < r ∧ r < 18446744073709551616 ∧ m < (r + 1) * (r + 1)) :
  ((r:Int) ≤ h → (r:Int) = (isq m:Nat)) ∧
  (¬(r:Int) ≤ h →
   ∀ (z:Int),z = jn h l / (r:Int) → ∀ (z_1:Int),z_1 = jn h l % (r:Int) →
       inU h ∧ inU l ∧ inU (r:Int) ∧ h < (r:Int) ∧
               ((r:Int) ≤ z → (r:Int) = (isq m:Nat)) ∧
                (¬(r:Int) ≤ z →
                 ∀ (z_2:Int),z_2 = ((r:Int) + z + 0) % 18446744073709551616 →
                   ∀ (z_3:Int),z_3 = ((r:Int) + z + 0) / 18446744073709551616 →
                     inU (r:Int) ∧ inU z ∧
                       ∀ (z:Int),z = z_2 / 2 →
                         ∀ (z_4:Int),z_4 = IntKind.u64.wrap (z_3 * 9223372036854775808) →
                           ∀ (z_5:Int),z_5 = orI IntKind.u64 z z_4 →
                             ∃ y:Nat,(0 < y ∧ y < 18446744073709551616 ∧ m < (y + 1) * (y + 1)) ∧ y < r ∧ z_5 = (y:Int))):=by
 obtain ⟨r1,r2,r3⟩:=hr
 have hru:inU (r:Int):=by unfold inU; omega
 refine ⟨fun h1 => ?_,fun h1 z hz z1 hz1 => ⟨hh,hl,hru,by omega,fun h2 => ?_,fun h2 z2 hz2 z3 hz3 => ⟨hru,?_,fun z4 hz4 z5 hz5 z6 hz6 => ⟨(r + m / r) / 2,?_,?_,?_⟩⟩⟩⟩
 ·have k1:r * r ≤ r * 18446744073709551615:=Nat.mul_le_mul_left r (by omega)
  have k2:r * r ≤ m:=by unfold jn at hjm; unfold inU at hl; omega
  rw [isq_eq hmK k2 r3]
 ·rw [hjm,← Int.natCast_ediv] at hz
  have k2:r * r ≤ m:=(Nat.le_div_iff_mul_le r1).1 (by omega)
  rw [isq_eq hmK k2 r3]
 all_goals (rw [hjm,← Int.natCast_ediv] at hz; have hq:m / r < r:=by omega)
 ·generalize m / r = q at *
  rw [hz]; unfold inU; omega
 ·have hn:=newton r1 r3 hq
  refine ⟨?_,?_,hn⟩
  ·by_cases e:r = 1
   ·subst e; rw [Nat.div_one] at hq; omega
   ·clear hn
    generalize m / r = q at *
    omega
  ·clear hn
   generalize m / r = q at *
   omega
 ·generalize m / r = q at *
  omega
 ·generalize m / r = q at *
  have e3:z3 = (((r + q) / 18446744073709551616:Nat):Int):=by rw [hz3,hz]; omega
  have e5:z5 = ((2 ^ 63 * ((r + q) / 18446744073709551616):Nat):Int):=by
   have p:(2:Nat) ^ 63 = 9223372036854775808:=by decide
   rw [hz5,e3,p,wrap_u (by unfold inU; omega)]; omega
  have e4:z4 = (((r + q) % 18446744073709551616 / 2:Nat):Int):=by rw [hz4,hz2,hz]; omega
  have p:(2:Nat) ^ 63 = 9223372036854775808:=by decide
  rw [hz6,e4,e5]
  unfold orI
  rw [BitVec.toNat_or,toNat_u (by omega),toNat_u (by rw [p]; omega),Nat.or_comm,← Nat.two_pow_add_eq_or_of_lt (by rw [p]; omega),wrap_u (by rw [p]; unfold inU; omega),p]
  omega
theorem root_start {m len k:Nat} (h:m < 2 ^ len) (hk:len ≤ 2 * k):m < (2 ^ k + 1) * (2 ^ k + 1):=by
 have h1:2 ^ len ≤ 2 ^ (2 * k):=Nat.pow_le_pow_right (by omega) hk
 have h2:2 ^ (2 * k) = 2 ^ k * 2 ^ k:=by rw [Nat.two_mul,Nat.pow_add]
 generalize 2 ^ k = a at *
 simp only [Nat.add_mul,Nat.mul_add]
 omega
theorem root_len {h l:Int} {m:Nat} (hl:inU l) (hh:inU h) (hjm:jn h l = (m:Int)):m < 2 ^ (64 + blen h):=by
 have k:=(blen_ok hh).1
 have p:(2:Nat) ^ 64 = 18446744073709551616:=by decide
 rw [Nat.pow_add,p]
 unfold jn at hjm; unfold inU at hl hh
 omega
def c243:Con
 | [.agg [.v (.int .u64 l),.v (.int .u64 h)]] => some ([inU l,inU h],u64 (isq (jn h l).toNat))
 | _ => none
theorem con243:ConOK prog 243 c243:=ConOK.of (G:=[(245,c245),(100,c100),(189,c189)]) (H:=[]) (.cons con245 (.cons con100 (.cons con189 .nil))) func243 fun l ob r hc hob => by
 unfold c243 at hc
 split at hc
 ·rename_i l h
  cases hc
  have hl:inU l:=hob _ (by simp)
  have hh:inU h:=hob _ (by simp)
  refine ⟨by kernel_rfl,fnVC_go (rs:=[.tmp 2]) rfl rfl ?_⟩
  simp only [go_sem,c245,c100,c189]
  obtain ⟨m,hm⟩:∃ m,m = (jn h l).toNat:=⟨_,rfl⟩
  have hjm:jn h l = (m:Int):=by rw [hm]; unfold jn; unfold inU at hl hh; omega
  have hmK:m < 340282366920938463463374607431768211456:=by unfold jn at hjm; unfold inU at hl hh; omega
  rw [← hm]
  refine ⟨fun _ => trivial,fun _ => trivial,fun h0 => ?_,fun h0 z hz => ⟨hl,fun hh0 z1 hz1 => ⟨hh,fun z2 hz2 z3 hz3 z4 hz4 => ⟨fun hlt => ⟨?_,fun z5 hz5 => ?_⟩,fun hlt => ?_⟩⟩,fun hh0 z3 hz3 z4 hz4 => ⟨fun hlt => ⟨?_,fun z5 hz5 => ?_⟩,fun hlt => ?_⟩⟩⟩
  ·have h1:h = 0:=by simpa using h0.1
   have h2:l = 0:=by simpa using h0.2
   subst h1 h2
   rw [hm]; decide
  all_goals (
   have hm0:0 < m:=by
    refine Nat.pos_of_ne_zero fun hz => ?_
    subst hz
    unfold jn at hjm; unfold inU at hl hh
    have h1:h = 0:=by omega
    have h2:l = 0:=by omega
    subst h1 h2
    simp at h0
   have bl:=(blen_ok hl).2.2
   have bh:=(blen_ok hh).2.2)
  ·rw [hz4,hz3,hz2,hz1,wrap_in (x:=64 + (blen h:Int)) (inRo (by omega)),wrap_in (x:=64 + (blen h:Int) + 1) (inRo (by omega)),Int.tdiv_eq_ediv_of_nonneg (by omega),wrap_in (inRo (by omega))]; omega
  ·have e4:z4 = (((64 + blen h + 1) / 2:Nat):Int):=by
    rw [hz4,hz3,hz2,hz1,wrap_in (x:=64 + (blen h:Int)) (inRo (by omega)),wrap_in (x:=64 + (blen h:Int) + 1) (inRo (by omega)),Int.tdiv_eq_ediv_of_nonneg (by omega),wrap_in (inRo (by omega))]; omega
   obtain ⟨k,hk⟩:∃ k,k = (64 + blen h + 1) / 2:=⟨_,rfl⟩
   have k2:k < 64:=by omega
   have k3:2 ^ k ≤ 2 ^ 63:=Nat.pow_le_pow_right (by omega) (by omega)
   have p:(2:Nat) ^ 63 = 9223372036854775808:=by decide
   have e5:z5 = ((2 ^ k:Nat):Int):=by
    rw [hz5,e4,← hk,Int.toNat_natCast,Nat.min_eq_left (by omega),Int.one_mul,show ((2:Int) ^ k) = ((2 ^ k:Nat):Int) by simp,wrap_u ⟨Int.natCast_nonneg _,Int.ofNat_lt.2 (show 2 ^ k < 18446744073709551616 by omega)⟩]
   refine loopC_go (fun (r:Nat) => 0 < r ∧ r < 18446744073709551616 ∧ m < (r + 1) * (r + 1)) (fun r => r) (fun r => [(4,u64 r)]) (fun _ => []) [0] [35,36,37,38,39,2,41,42,43,44,45,46,40,47,48,6,7,49,50,51,52,2,54,55,56,53,57,58,8,9,59,60,61,62,63,4] (2 ^ k) (by kernel_rfl) ?_ ⟨Nat.two_pow_pos k,by omega,root_start (root_len hl hh hjm) (by omega)⟩ ?_ ?_
   ·intro x _; simp [goodNames,asg]
   ·simp only [go_sem];
    exact e5
   ·intro r hr
    simp only [go_sem,c100,c189]
    exact newton_body hl hh hjm hm0 hmK hr
  ·have hm2:m < (18446744073709551615 + 1) * (18446744073709551615 + 1):=hmK
   refine loopC_go (fun (r:Nat) => 0 < r ∧ r < 18446744073709551616 ∧ m < (r + 1) * (r + 1)) (fun r => r) (fun r => [(4,u64 r)]) (fun _ => []) [0] [35,36,37,38,39,2,41,42,43,44,45,46,40,47,48,6,7,49,50,51,52,2,54,55,56,53,57,58,8,9,59,60,61,62,63,4] 18446744073709551615 (by kernel_rfl) ?_ ⟨by decide,by decide,hm2⟩ ?_ ?_
   ·intro x _; simp [goodNames,asg]
   ·simp only [go_sem]
    try rfl
   ·intro r hr
    simp only [go_sem,c100,c189]
    exact newton_body hl hh hjm hm0 hmK hr
  ·rw [hz4,hz3,hz,wrap_in (x:=(blen l:Int) + 1) (inRo (by omega)),Int.tdiv_eq_ediv_of_nonneg (by omega),wrap_in (inRo (by omega))]; omega
  ·have e4:z4 = (((blen l + 1) / 2:Nat):Int):=by
    rw [hz4,hz3,hz,wrap_in (x:=(blen l:Int) + 1) (inRo (by omega)),Int.tdiv_eq_ediv_of_nonneg (by omega),wrap_in (inRo (by omega))]; omega
   obtain ⟨k,hk⟩:∃ k,k = (blen l + 1) / 2:=⟨_,rfl⟩
   have k2:k < 64:=by omega
   have k3:2 ^ k ≤ 2 ^ 63:=Nat.pow_le_pow_right (by omega) (by omega)
   have p:(2:Nat) ^ 63 = 9223372036854775808:=by decide
   have e5:z5 = ((2 ^ k:Nat):Int):=by
    rw [hz5,e4,← hk,Int.toNat_natCast,Nat.min_eq_left (by omega),Int.one_mul,show ((2:Int) ^ k) = ((2 ^ k:Nat):Int) by simp,wrap_u ⟨Int.natCast_nonneg _,Int.ofNat_lt.2 (show 2 ^ k < 18446744073709551616 by omega)⟩]
   have hlm:m < 2 ^ blen l:=by
    have h1:h = 0:=by simpa using hh0
    have h2:=(blen_ok hl).1
    unfold jn at hjm
    omega
   refine loopC_go (fun (r:Nat) => 0 < r ∧ r < 18446744073709551616 ∧ m < (r + 1) * (r + 1)) (fun r => r) (fun r => [(4,u64 r)]) (fun _ => []) [0] [35,36,37,38,39,2,41,42,43,44,45,46,40,47,48,6,7,49,50,51,52,2,54,55,56,53,57,58,8,9,59,60,61,62,63,4] (2 ^ k) (by kernel_rfl) ?_ ⟨Nat.two_pow_pos k,by omega,root_start hlm (by omega)⟩ ?_ ?_
   ·intro x _; simp [goodNames,asg]
   ·simp only [go_sem];
    exact e5
   ·intro r hr
    simp only [go_sem,c100,c189]
    exact newton_body hl hh hjm hm0 hmK hr
  ·exfalso
   apply hlt
   rw [hz4,hz3,hz,wrap_in (x:=(blen l:Int) + 1) (inRo (by omega)),Int.tdiv_eq_ediv_of_nonneg (by omega),wrap_in (inRo (by omega))]; omega
 ·cases hc
theorem isq_small {m:Nat} (h:m < 340282366920938463463374607431768211456):isq m < 18446744073709551616:=by
 have:=(isq_ok h).1
 refine Nat.lt_of_not_le fun hc => ?_
 have:=Nat.mul_le_mul hc hc
 omega
theorem sgn_f {x:Int}:sgn false x = x:=rfl
theorem jn_0 {x:Int}:jn 0 x = x:=by unfold jn; omega
def sqV (v:Int):Int:=if v < 0 then 0 else ftV (isq (v * 4294967296).toNat)
def sqF (v:Int) (f:Bool):Bool:=if v < 0 then true else (ftF (isq (v * 4294967296).toNat) || f)
theorem sq_nonneg {a:Int}:0 ≤ a * a:=by
 rcases Int.lt_or_le a 0 with h | h
 ·have:=Int.mul_pos_of_neg_of_neg h h; omega
 ·exact Int.mul_nonneg h h
theorem ab_sq {a:Int}:ab (a * a) = a * a:=by have:=sq_nonneg (a:=a); unfold ab; rw [if_neg (by omega)]
theorem pl_sq {a b:Int}:plM (decide (a < 0) != decide (a < 0)) (a * a) (decide (b < 0) != decide (b < 0)) (b * b) = a * a + b * b:=by
 unfold plM; rw [if_pos (by simp)]
def c162:Con
 | [.agg [.v (.int .i64 v),.v (.bool f)],.agg [.v (.int .i64 u),.v (.bool e)]] => some ([inR v,inR u],nu (isq (whV v * whV v + whV u * whV u).toNat) (whF v f || whF u e))
 | _ => none
theorem con162:ConOK prog 162 c162:=ConOK.of (G:=[(89,c89),(90,c90),(131,c131),(243,c243),(93,c93),(92,c92)]) (H:=[(1,⟨[(4,.slot 2),(5,.slot 3)],[]⟩),(2,⟨[(20,.slot 4)],[]⟩)]) (.cons con89 (.cons con90 (.cons con131 (.cons con243 (.cons con93 (.cons con92 .nil)))))) func162 fun l ob r hc hob => by
 unfold c162 at hc
 split at hc
 ·rename_i v f u e
  cases hc
  have h_0:=ob0 hob
  have h_1:=ob1 hob
  refine ⟨by kernel_rfl,fnVC_go (rs:=[.cell 4 27]) rfl rfl ?_⟩
  simp only [go_sem,c89,c90,c131,c243,c93,c92]
  simp only [forall_eq,mod_jn,sgn_f,jn_0,ab_sq,pl_sq]
  have k:=mul_rg (inR_wh h_0) (inR_wh h_0)
  have k0:=sq_nonneg (a:=whV v)
  have j:=mul_rg (inR_wh h_1) (inR_wh h_1)
  have j0:=sq_nonneg (a:=whV u)
  rw [ab_sq] at k j
  have s:=isq_small (m:=(whV v * whV v + whV u * whV u).toNat) (by omega)
  refine ⟨inR_wh h_0,inR_wh h_0,inR_wh h_1,inR_wh h_1,inU_mod,inU_div k0 (by omega),inU_mod,inU_div j0 (by omega),by omega,inU_mod,inU_div (by omega) (by omega),nums2 rfl rfl (inR_wh h_0) (inR_wh h_1),by unfold inU; omega,by unfold inU; omega,?_⟩
  rw [any2 rfl rfl]
 ·cases hc
theorem eq133 {xo yo:Operand} {neg:Bool} {a b:Int} {g:Bool} {x y:Int} {e:Bool}:eqE prog neg 133 xo yo (.agg [bo g,u64 a,u64 b]) (.agg [bo e,u64 x,u64 y]) = some ⟨[],.v (.bool (negV neg ((g == e) && ((a == x) && ((b == y) && true))))),.none⟩:=eqE_agg (by kernel_rfl)
attribute [go_sem] eq133
def c235:Con
 | [.agg [.v (.int .i64 v),.v (.bool f)]] => some ([],.tup [i64 (whV v),bo (whF v f)])
 | _ => none
theorem con235:ConOK prog 235 c235:=ConOK.of (G:=[]) (H:=[]) .nil func235 fun l ob r hc hob => by
 unfold c235 at hc
 split at hc
 ·rename_i v f
  cases hc
  refine ⟨by kernel_rfl,fnVC_go (rs:=[.tmp 2,.tmp 3]) rfl rfl ?_⟩
  simp only [go_sem]
  unfold whV whF
  refine ⟨fun h => ?_,fun h => ?_⟩
  ·have h:v = -9223372036854775808:=by simpa using h
   rw [if_pos h,decide_eq_true h]; rfl
  ·have h:¬ v = -9223372036854775808:=by simpa using h
   rw [if_neg h,decide_eq_false h]; rfl
 ·cases hc
def c146:Con
 | [.v (.int .i64 v)] => some ([inR v],u64 (ab v))
 | _ => none
theorem con146:ConOK prog 146 c146:=ConOK.of (G:=[]) (H:=[]) .nil func146 fun l ob r hc hob => by
 unfold c146 at hc
 split at hc
 ·rename_i v
  cases hc
  have h_0:=ob0 hob
  refine ⟨by kernel_rfl,fnVC_go (rs:=[.tmp 2]) rfl rfl ?_⟩
  simp only [go_sem]
  unfold inR at h_0
  refine ⟨fun h z hz z1 hz1 => ?_,fun h z hz => ?_⟩
  ·rw [hz1,hz,wrap_u64,wrap_i64]; unfold ab; rw [if_pos h]; omega
  ·rw [hz,wrap_u64]; unfold ab; rw [if_neg h]; omega
 ·cases hc
def c77:Con
 | [.v (.int .i64 v)] => some ([inR v],wd (decide (v < 0)) (ab v))
 | _ => none
theorem con77:ConOK prog 77 c77:=ConOK.of (G:=[(146,c146)]) (H:=[]) (.cons con146 .nil) func77 fun l ob r hc hob => by
 unfold c77 at hc
 split at hc
 ·rename_i v
  cases hc
  have h_0:=ob0 hob
  refine ⟨by kernel_rfl,fnVC_go (rs:=[.cell 2 133]) rfl rfl ?_⟩
  simp only [go_sem,c146]
  intro z hz
  have h1:=ab_nonneg v
  have h2:ab v ≤ 9223372036854775808:=by unfold inR at h_0; exact ab_le (by omega) (by omega)
  refine ⟨h_0,agg3 rfl (u64_eq (by omega)) (u64_eq (by omega))⟩
 ·cases hc
def c275:Con
 | [.agg [.v (.bool g),.v (.int .u64 h),.v (.int .u64 l)],.agg [.v (.bool e),.v (.int .u64 i),.v (.int .u64 k)]] => some ([inU l,inU h,inU k,inU i],bo (decide (jn h l < jn i k)))
 | _ => none
theorem con275:ConOK prog 275 c275:=ConOK.of (G:=[]) (H:=[]) .nil func275 fun l ob r hc hob => by
 unfold c275 at hc
 split at hc
 ·rename_i g h l e i k
  cases hc
  have h_0:=ob0 hob
  have h_1:=ob1 hob
  have h_2:=ob2 hob
  have h_3:=ob3 hob
  refine ⟨by kernel_rfl,fnVC_go (rs:=[.tmp 4]) rfl rfl ?_⟩
  simp only [go_sem]
  unfold inU at *
  refine ⟨fun h1 h2 => ⟨h1,h2⟩,?_⟩
  rw [Bool.eq_iff_iff]
  simp only [Bool.or_eq_true,Bool.and_eq_true,decide_eq_true_eq,beq_iff_eq]
  unfold jn
  omega
 ·cases hc
def c250:Con
 | [.v (.int .i64 a),.v (.int .i64 b)] => some ([inR a,inR b],wd (decide (a * b < 0)) (ab (a * b)))
 | _ => none
theorem con250:ConOK prog 250 c250:=ConOK.of (G:=[(146,c146),(161,c161)]) (H:=[]) (.cons con146 (.cons con161 .nil)) func250 fun l ob r hc hob => by
 unfold c250 at hc
 split at hc
 ·rename_i a b
  cases hc
  have h_0:=ob0 hob
  have h_1:=ob1 hob
  refine ⟨by kernel_rfl,fnVC_go (rs:=[.cell 4 133]) rfl rfl ?_⟩
  simp only [go_sem,c146,c161]
  simp only [forall_eq]
  have ha:=ab_nonneg a
  have hb:=ab_nonneg b
  have ka:ab a ≤ 9223372036854775808:=by unfold inR at h_0; exact ab_le (by omega) (by omega)
  have kb:ab b ≤ 9223372036854775808:=by unfold inR at h_1; exact ab_le (by omega) (by omega)
  have em:ab (a * b) = ab a * ab b:=by rw [ab_natAbs,ab_natAbs,ab_natAbs,Int.natAbs_mul,Int.natCast_mul]
  refine ⟨h_0,h_1,by unfold inU; omega,by unfold inU; omega,?_⟩
  rw [em]
  refine agg3 (bo_eq ?_) rfl rfl
  rcases Int.lt_trichotomy a 0 with h1 | h1 | h1 <;> rcases Int.lt_trichotomy b 0 with h2 | h2 | h2
  ·have:=Int.mul_pos_of_neg_of_neg h1 h2
   rw [decide_eq_true h1,decide_eq_true h2,decide_eq_false (show ¬ a * b < 0 by omega)]; rfl
  ·subst h2; simp
  ·have:=Int.mul_neg_of_neg_of_pos h1 h2
   rw [decide_eq_true h1,decide_eq_false (show ¬ b < 0 by omega),decide_eq_true this,bne_iff_ne.2 (show a ≠ 0 by omega),bne_iff_ne.2 (show b ≠ 0 by omega)]; rfl
  ·subst h1; simp
  ·subst h1; simp
  ·subst h1; simp
  ·have:=Int.mul_neg_of_pos_of_neg h1 h2
   rw [decide_eq_false (show ¬ a < 0 by omega),decide_eq_true h2,decide_eq_true this,bne_iff_ne.2 (show a ≠ 0 by omega),bne_iff_ne.2 (show b ≠ 0 by omega)]; rfl
  ·subst h2; simp
  ·have:=Int.mul_pos h1 h2
   rw [decide_eq_false (show ¬ a < 0 by omega),decide_eq_false (show ¬ b < 0 by omega),decide_eq_false (show ¬ a * b < 0 by omega)]; rfl
 ·cases hc
def c249:Con
 | [.agg [.v (.bool g),.v (.int .u64 h),.v (.int .u64 l)]] => some ([inU l,inU h],wd g (jn h l / 4294967296))
 | _ => none
theorem con249:ConOK prog 249 c249:=ConOK.of (G:=[]) (H:=[]) .nil func249 fun l ob r hc hob => by
 unfold c249 at hc
 split at hc
 ·rename_i g h l
  cases hc
  have h_0:=ob0 hob
  have h_1:=ob1 hob
  refine ⟨by kernel_rfl,fnVC_go (rs:=[.cell 2 133]) rfl rfl ?_⟩
  simp only [go_sem]
  intro z3 hz3 z hz z1 hz1 z2 hz2
  have e:=orI_u h_1 h_0
  unfold inU at h_0 h_1
  refine agg3 rfl (u64_eq ?_) (u64_eq ?_)
  ·rw [hz3]; unfold jn; omega
  ·rw [hz2,hz,hz1,e]; unfold jn; omega
 ·cases hc
def c76:Con
 | [.agg [.v (.bool g),.v (.int .u64 h),.v (.int .u64 l)]] => some ([inU l,inU h,h < 4294967296],wd g (jn h l * 4294967296))
 | _ => none
theorem con76:ConOK prog 76 c76:=ConOK.of (G:=[]) (H:=[]) .nil func76 fun l ob r hc hob => by
 unfold c76 at hc
 split at hc
 ·rename_i g h l
  cases hc
  have h_0:=ob0 hob
  have h_1:=ob1 hob
  have h_2:=ob2 hob
  refine ⟨by kernel_rfl,fnVC_go (rs:=[.cell 2 133]) rfl rfl ?_⟩
  simp only [go_sem]
  intro z1 hz1 z2 hz2 z3 hz3 z hz
  have e:=orI_u h_1 h_0
  unfold inU at h_0 h_1
  refine agg3 rfl (u64_eq ?_) (u64_eq ?_)
  ·rw [hz3,hz1,hz2,e]; unfold jn; omega
  ·rw [hz,wrap_u64]; unfold jn; omega
 ·cases hc
def rpG (g:Bool) (m:Int) (g':Bool) (m':Int):Bool:=if g = g' then g else (plG g m g' m' && decide (plM g m g' m' ≠ 0))
def c269:Con
 | [.agg [.v (.bool g),.v (.int .u64 h),.v (.int .u64 l)],.agg [.v (.bool e),.v (.int .u64 i),.v (.int .u64 k)]] => some ([inU l,inU h,inU k,inU i,jn h l + jn i k < 340282366920938463463374607431768211456],wd (rpG g (jn h l) e (jn i k)) (plM g (jn h l) e (jn i k)))
 | _ => none
theorem con269:ConOK prog 269 c269:=ConOK.of (G:=[(189,c189),(191,c191),(275,c275)]) (H:=[]) (.cons con189 (.cons con191 (.cons con275 .nil))) func269 fun l ob r hc hob => by
 unfold c269 at hc
 split at hc
 ·rename_i g h l e i k
  cases hc
  have h_0:=ob0 hob
  have h_1:=ob1 hob
  have h_2:=ob2 hob
  have h_3:=ob3 hob
  have h_4:=ob4 hob
  refine ⟨by kernel_rfl,fnVC_go (rs:=[.cell 4 133]) rfl rfl ?_⟩
  simp only [go_sem,c189,c191,c275]
  have hl:=h_0
  have hh:=h_1
  have hk:=h_2
  have hi:=h_3
  have hs:=h_4
  refine ⟨fun hg z hz z1 hz1 => ⟨hl,hk,fun z2 hz2 z3 hz3 => ⟨hh,hi,?_⟩⟩,fun hg z hz => ⟨hl,hh,hk,hi,fun hc z4 hz4 z1 hz1 => ⟨hk,hl,fun z2 hz2 z3 hz3 => ⟨hi,hh,?_⟩⟩,fun hc z4 hz4 z1 hz1 => ⟨hl,hk,fun z2 hz2 z3 hz3 => ⟨hh,hi,?_⟩⟩⟩⟩
  ·have hg:g = e:=by simpa using hg
   unfold inU at hl hh hk hi
   unfold rpG plM
   rw [if_pos hg,if_pos hg]
   unfold jn at hs ⊢
   refine ⟨by omega,agg3 rfl (u64_eq (by omega)) (u64_eq (by omega))⟩
  ·have hg:¬ g = e:=by simpa using hg
   have hlt:jn h l < jn i k:=by rw [hz] at hc; simpa using hc
   unfold inU at hl hh hk hi
   unfold rpG plG plM
   rw [if_neg hg,if_neg hg,if_neg hg,if_pos hlt,if_pos hlt]
   unfold jn at hs hlt ⊢
   refine ⟨by split at hz1 <;> omega,fun h1 h2 => ⟨h1,h2⟩,agg3 (bo_eq ?_) (u64_eq (by split at hz1 <;> omega)) (u64_eq (by omega))⟩
   congr 1
   rw [Bool.eq_iff_iff]
   simp only [Bool.or_eq_true,bne_iff_ne,decide_eq_true_eq]
   split at hz1 <;> omega
  ·have hg:¬ g = e:=by simpa using hg
   have hlt:¬ jn h l < jn i k:=by rw [hz] at hc; simpa using hc
   unfold inU at hl hh hk hi
   unfold rpG plG plM
   rw [if_neg hg,if_neg hg,if_neg hg,if_neg hlt,if_neg hlt]
   unfold jn at hs hlt ⊢
   refine ⟨by split at hz1 <;> omega,fun h1 h2 => ⟨h1,h2⟩,agg3 (bo_eq ?_) (u64_eq (by split at hz1 <;> omega)) (u64_eq (by omega))⟩
   congr 1
   rw [Bool.eq_iff_iff]
   simp only [Bool.or_eq_true,bne_iff_ne,decide_eq_true_eq]
   split at hz1 <;> omega
 ·cases hc
def c75:Con
 | [.agg [.v (.bool g),.v (.int .u64 h),.v (.int .u64 l)],.v (.bool f)] => some ([inU l,inU h],.agg [i64 (ftV (sgn g (jn h l))),bo (ftF (sgn g (jn h l)) || f)])
 | _ => none
theorem con75:ConOK prog 75 c75:=ConOK.of (G:=[]) (H:=[]) .nil func75 fun l ob r hc hob => by
 unfold c75 at hc
 split at hc
 ·rename_i g h l f
  cases hc
  have h_0:=ob0 hob
  have h_1:=ob1 hob
  refine ⟨by kernel_rfl,fnVC_go (rs:=[.cell 4 27]) rfl rfl ?_⟩
  simp only [go_sem]
  have hl:=h_0
  have hh:=h_1
  unfold inU at hl hh
  have e:∀ {a a':Int} {b b':Bool},a = a' → b = b' → AV.agg [i64 a,bo b] = .agg [i64 a',bo b']:=fun h1 h2 => by rw [h1,h2]
  refine ⟨fun h2 => ?_,fun h2 z hz => ?_⟩
  ·have hb:9223372036854775807 < jn h l:=by
    unfold jn
    rcases h2 with h2 | h2
    ·rw [bne_iff_ne] at h2; omega
    ·omega
   refine ⟨fun hg z hz => ?_,fun hg => ?_⟩
   ·have:sgn g (jn h l) = -jn h l:=by unfold sgn; rw [if_pos hg]
    rw [this]
    refine e ?_ ?_
    ·rw [hz,wrap_in (inRo (by omega))]; unfold ftV; rw [if_neg (by omega),if_pos (by omega)]; rfl
    ·unfold ftF; rw [decide_eq_true (by omega)]; rfl
   ·have:sgn g (jn h l) = jn h l:=by unfold sgn; rw [hg]; simp
    rw [this]
    refine e ?_ ?_
    ·unfold ftV; rw [if_pos hb]
    ·unfold ftF; rw [decide_eq_true (by omega)]; rfl
  ·have h0:h = 0:=by simpa using h2.1
   have h3:=h2.2
   have hj:jn h l = l:=by unfold jn; omega
   have hw:z = l:=by rw [hz]; exact wrap_in (inRo (by omega))
   rw [hj]
   refine ⟨fun hg z1 hz1 => ?_,fun hg => ?_⟩
   ·have:sgn g l = -l:=by unfold sgn; rw [if_pos hg]
    rw [this]
    have hr:rg (-l):=by unfold rg; omega
    refine e ?_ (by rw [ftF_of hr]; rfl)
    rw [ftV_of hr,hz1,hw,wrap_in (inRo (by omega))]; omega
   ·have:sgn g l = l:=by unfold sgn; rw [hg]; simp
    rw [this]
    have hr:rg l:=by unfold rg; omega
    exact e (by rw [ftV_of hr,hw]) (by rw [ftF_of hr]; rfl)
 ·cases hc
def c236:Con
 | [.v (.int .i64 a)] => some ([],.agg [i64 (cmpS a 0 * 9223372036854775807),bo true])
 | _ => none
theorem con236:ConOK prog 236 c236:=ConOK.of (G:=[]) (H:=[]) .nil func236 fun l ob r hc hob => by
 unfold c236 at hc
 split at hc
 ·rename_i a
  cases hc
  refine ⟨by kernel_rfl,fnVC_go (rs:=[.cell 2 27]) rfl rfl ?_⟩
  simp only [go_sem]
  unfold cmpS
  refine ⟨fun h => ?_,fun h => ⟨fun h1 => ?_,fun h1 => ?_⟩⟩
  ·rw [if_neg (by omega),if_pos h]; rfl
  ·rw [if_pos h1]; rfl
  ·rw [if_neg h1,if_neg h]; rfl
 ·cases hc
theorem rp_sgn {g g':Bool} {m m':Int}:sgn (rpG g m g' m') (plM g m g' m') = sgn g m + sgn g' m':=by
 rw [← pl_sgn]
 unfold rpG
 by_cases h:g = g'
 ·rw [if_pos h]; unfold plG; rw [if_pos h]
 ·rw [if_neg h]
  by_cases h0:plM g m g' m' = 0
  ·rw [h0]; unfold sgn; split <;> split <;> rfl
  ·rw [decide_eq_true h0,Bool.and_true]
theorem sgn_rp_div {g:Bool} {e f:Bool} {x y d:Int}:sgn g (plM e (ab x) f (ab y) / d) = (sgn g (plM e (ab x) f (ab y))).tdiv d:=sgn_div (plM_nonneg (ab_nonneg x) (ab_nonneg y))
theorem andI_1 {x:Int} (hx:inR x):andI .i64 x 1 = x % 2:=by
 unfold andI
 have e1:(BitVec.ofInt IntKind.i64.bits 1).toNat = 1:=by decide
 have e2:(BitVec.ofInt IntKind.i64.bits x).toNat = (x % 18446744073709551616).toNat:=by
  show (BitVec.ofInt 64 x).toNat = _
  rw [BitVec.toNat_ofInt]
  have e:((2 ^ 64:Nat):Int) = 18446744073709551616:=by decide
  rw [e]
 rw [BitVec.toNat_and,e1,e2,Nat.and_one_is_mod,wrap_in (inRo (by omega))]
 omega
def c33:Con
 | [.v (.int .i64 n)] => some ([inR n],nu (n * 4294967296) false)
 | _ => none
theorem con33:ConOK prog 33 c33:=ConOK.of (G:=[(77,c77),(76,c76),(75,c75)]) (H:=[]) (.cons con77 (.cons con76 (.cons con75 .nil))) func33 fun l ob r hc hob => by
 unfold c33 at hc
 split at hc
 ·rename_i n
  cases hc
  have h_0:=ob0 hob
  refine ⟨by kernel_rfl,fnVC_go (rs:=[.cell 2 27]) rfl rfl ?_⟩
  simp only [go_sem,c77,c76,c75]
  simp only [forall_eq,mod_jn,Bool.or_false]
  have ha:=ab_nonneg n
  have hb:ab n ≤ 9223372036854775808:=by unfold inR at h_0; exact ab_le (by omega) (by omega)
  refine ⟨h_0,inU_mod,inU_div ha (by omega),by omega,inU_mod,inU_div (by omega) (by omega),?_⟩
  have e:sgn (decide (n < 0)) (ab n * 4294967296) = n * 4294967296:=by
   unfold sgn ab
   by_cases h:n < 0
   ·simp [h,Int.neg_mul]
   ·simp [h]
  rw [e]
  refine agg2 rfl ?_
  simp
 ·cases hc
def c184:Con
 | [.agg [.v (.int .i64 v),.v (.bool f)]] => some ([inR v],.agg [i64 (-whV v),bo (whF v f)])
 | _ => none
theorem con184:ConOK prog 184 c184:=ConOK.of (G:=[(235,c235)]) (H:=[]) (.cons con235 .nil) func184 fun l ob r hc hob => by
 unfold c184 at hc
 split at hc
 ·rename_i v f
  cases hc
  have h_0:=ob0 hob
  refine ⟨by kernel_rfl,fnVC_go (rs:=[.cell 2 27]) rfl rfl ?_⟩
  simp only [go_sem,c235]
  simp only [forall_eq]
  have h2:=whV_rg h_0
  unfold rg at *
  rw [wrap_in (inRo (by omega))]
  refine agg2 (i64_eq (by omega)) rfl
 ·cases hc
def c240:Con
 | [.agg [.v (.int .i64 v),.v (.bool f)]] => some ([inR v],.agg [i64 (ab (whV v)),bo (whF v f)])
 | _ => none
theorem con240:ConOK prog 240 c240:=ConOK.of (G:=[(235,c235)]) (H:=[]) (.cons con235 .nil) func240 fun l ob r hc hob => by
 unfold c240 at hc
 split at hc
 ·rename_i v f
  cases hc
  have h_0:=ob0 hob
  refine ⟨by kernel_rfl,fnVC_go (rs:=[.cell 2 27]) rfl rfl ?_⟩
  simp only [go_sem,c235]
  simp only [forall_eq]
  have h2:=whV_rg h_0
  unfold rg at *
  rw [wrap_in (inRo (by omega))]
  refine ⟨fun h => agg2 (i64_eq (by unfold ab; rw [if_pos h]; omega)) rfl,fun h => agg2 (i64_eq (by unfold ab; rw [if_neg h])) rfl⟩
 ·cases hc
def c185:Con
 | [.agg [.v (.int .i64 v),.v (.bool f)],.agg [.v (.int .i64 u),.v (.bool e)]] => some ([inR v,inR u],nu ((whV v * whV u).tdiv 4294967296) (whF v f || whF u e))
 | _ => none
theorem con185:ConOK prog 185 c185:=ConOK.of (G:=[(235,c235),(250,c250),(249,c249),(75,c75)]) (H:=[]) (.cons con235 (.cons con250 (.cons con249 (.cons con75 .nil)))) func185 fun l ob r hc hob => by
 unfold c185 at hc
 split at hc
 ·rename_i v f u e
  cases hc
  have h_0:=ob0 hob
  have h_1:=ob1 hob
  refine ⟨by kernel_rfl,fnVC_go (rs:=[.cell 4 27]) rfl rfl ?_⟩
  simp only [go_sem,c235,c250,c249,c75]
  simp only [forall_eq,mod_jn,sgn_ab_div,sgn_ab]
  have k:=mul_rg (inR_wh h_0) (inR_wh h_1)
  have k0:=ab_nonneg (whV v * whV u)
  exact ⟨inR_wh h_0,inR_wh h_1,inU_mod,inU_div k0 (by omega),inU_mod,inU_div (by omega) (by omega),trivial⟩
 ·cases hc
def c238:Con
 | [.agg [.v (.int .i64 v),.v (.bool f)],.agg [.v (.int .i64 u),.v (.bool e)],.agg [.v (.int .i64 x),.v (.bool p)],.agg [.v (.int .i64 y),.v (.bool q)]] => some ([inR v,inR u,inR x,inR y],nu ((whV v * whV u + whV x * whV y).tdiv 4294967296) (whF v f || whF u e || whF x p || whF y q))
 | _ => none
theorem con238:ConOK prog 238 c238:=ConOK.of (G:=[(235,c235),(250,c250),(269,c269),(249,c249),(75,c75)]) (H:=[]) (.cons con235 (.cons con250 (.cons con269 (.cons con249 (.cons con75 .nil))))) func238 fun l ob r hc hob => by
 unfold c238 at hc
 split at hc
 ·rename_i v f u e x p y q
  cases hc
  have h_0:=ob0 hob
  have h_1:=ob1 hob
  have h_2:=ob2 hob
  have h_3:=ob3 hob
  refine ⟨by kernel_rfl,fnVC_go (rs:=[.cell 8 27]) rfl rfl ?_⟩
  simp only [go_sem,c235,c250,c269,c249,c75]
  simp only [forall_eq,mod_jn,sgn_rp_div,sgn_ab,rp_sgn]
  have k:=mul_rg (inR_wh h_0) (inR_wh h_1)
  have k0:=ab_nonneg (whV v * whV u)
  have j:=mul_rg (inR_wh h_2) (inR_wh h_3)
  have j0:=ab_nonneg (whV x * whV y)
  have p0:=plM_nonneg (g:=decide (whV v * whV u < 0)) (g':=decide (whV x * whV y < 0)) k0 j0
  have p1:=plM_le (g:=decide (whV v * whV u < 0)) (g':=decide (whV x * whV y < 0)) k0 j0
  refine ⟨inR_wh h_0,inR_wh h_1,inR_wh h_2,inR_wh h_3,inU_mod,inU_div k0 (by omega),inU_mod,inU_div j0 (by omega),by omega,inU_mod,inU_div p0 (by omega),inU_mod,inU_div (by omega) (by omega),?_⟩
  trivial
 ·cases hc
def c228:Con
 | [.agg [.v (.int .i64 v),.v (.bool f)],.agg [.v (.int .i64 u),.v (.bool e)]] => some ([],i64 (cmpS (whV v) (whV u)))
 | _ => none
theorem con228:ConOK prog 228 c228:=ConOK.of (G:=[(235,c235)]) (H:=[]) (.cons con235 .nil) func228 fun l ob r hc hob => by
 unfold c228 at hc
 split at hc
 ·rename_i v f u e
  cases hc
  refine ⟨by kernel_rfl,fnVC_go (rs:=[.tmp 4]) rfl rfl ?_⟩
  simp only [go_sem,c235]
  simp only [forall_eq]
  unfold cmpS
  exact ⟨fun h => by rw [if_pos h],fun h => ⟨fun h2 => by rw [if_neg h,if_pos h2],fun h2 => by rw [if_neg h,if_neg h2]⟩⟩
 ·cases hc
def c241:Con
 | [.agg [.v (.int .i64 v),.v (.bool f)]] => some ([inR v],i64 ((whV v + 2147483648) / 4294967296))
 | _ => none
theorem con241:ConOK prog 241 c241:=ConOK.of (G:=[(235,c235)]) (H:=[]) (.cons con235 .nil) func241 fun l ob r hc hob => by
 unfold c241 at hc
 split at hc
 ·rename_i v f
  cases hc
  have h_0:=ob0 hob
  refine ⟨by kernel_rfl,fnVC_go (rs:=[.tmp 2]) rfl rfl ?_⟩
  simp only [go_sem,c235]
  simp only [forall_eq]
  have h2:=whV_rg h_0
  unfold rg at h2
  rw [andI_1 (inRo (by omega)),wrap_in (inRo (by omega))]
  omega
 ·cases hc
def c262:Con
 | [.v (.int .i64 a),.v (.int .i64 b),.v (.int .i64 c),.v (.int .i64 d)] => some ([inR a,inR b,inR c,inR d],i64 (cmpS (a * b) (c * d)))
 | _ => none
theorem con262:ConOK prog 262 c262:=ConOK.of (G:=[(250,c250),(275,c275)]) (H:=[]) (.cons con250 (.cons con275 .nil)) func262 fun l ob r hc hob => by
 unfold c262 at hc
 split at hc
 ·rename_i a b c d
  cases hc
  have h_0:=ob0 hob
  have h_1:=ob1 hob
  have h_2:=ob2 hob
  have h_3:=ob3 hob
  refine ⟨by kernel_rfl,fnVC_go (rs:=[.tmp 8]) rfl rfl ?_⟩
  simp only [go_sem,c250,c275]
  simp only [forall_eq,mod_jn]
  have k:=mul_rg h_0 h_1
  have k0:=ab_nonneg (a * b)
  have j:=mul_rg h_2 h_3
  have j0:=ab_nonneg (c * d)
  have i1:=inU_div (x:=ab (a * b)) k0 (by omega)
  have i2:=inU_div (x:=ab (c * d)) j0 (by omega)
  generalize a * b = p at *
  generalize c * d = q at *
  refine ⟨h_0,h_1,h_2,h_3,fun h => ?_,fun h => ⟨fun hs => ⟨fun hp => ?_,fun hp => ?_⟩,fun hs => ⟨inU_mod,i1,inU_mod,i2,fun hc => ?_,fun hc => ?_⟩⟩⟩
  ·obtain ⟨h1,h2,h3⟩:=h
   have h1:decide (p < 0) = decide (q < 0):=by simpa using h1
   have h2:ab p / 18446744073709551616 = ab q / 18446744073709551616:=by simpa using h2
   have h3:ab p % 18446744073709551616 = ab q % 18446744073709551616:=by simpa using h3
   have e:ab p = ab q:=by omega
   have:p = q:=by rw [← sgn_ab p,← sgn_ab q,h1,e]
   subst this
   unfold cmpS; rw [if_neg (by omega),if_neg (by omega)]
  ·have hs:decide (p < 0) ≠ decide (q < 0):=by simpa using hs
   rw [hp] at hs
   have hq:¬ q < 0:=fun hc => hs (decide_eq_true hc).symm
   have hp:p < 0:=by simpa using hp
   unfold cmpS; rw [if_pos (by omega)]
  ·have hs:decide (p < 0) ≠ decide (q < 0):=by simpa using hs
   rw [hp] at hs
   have hq:q < 0:=by
    by_cases hc:q < 0
    ·exact hc
    ·exact absurd (decide_eq_false hc).symm hs
   have hp:¬ p < 0:=by simpa using hp
   unfold cmpS; rw [if_neg (by omega),if_pos (by omega)]
  all_goals (
   have hs:decide (p < 0) = decide (q < 0):=by simpa using hs
   have hn:¬ p = q:=by
    intro e
    subst e
    simp at h
   have hpq:p < 0 ↔ q < 0:=by
    have:=congrArg (· = true) hs
    simpa using this)
  ·have hc:decide (ab p < ab q) ≠ decide (p < 0):=by simpa using hc
   have hc:¬ (ab p < ab q ↔ p < 0):=fun hh => hc (by rw [decide_eq_decide]; exact hh)
   have:p < q:=by
    unfold ab at hc
    by_cases h1:p < 0
    ·rw [if_pos h1,if_pos (hpq.1 h1)] at hc; omega
    ·rw [if_neg h1,if_neg (fun h => h1 (hpq.2 h))] at hc; omega
   unfold cmpS; rw [if_pos this]
  ·have hc:decide (ab p < ab q) = decide (p < 0):=by simpa using hc
   have hc:ab p < ab q ↔ p < 0:=by rwa [decide_eq_decide] at hc
   have:q < p:=by
    unfold ab at hc
    by_cases h1:p < 0
    ·rw [if_pos h1,if_pos (hpq.1 h1)] at hc; omega
    ·rw [if_neg h1,if_neg (fun h => h1 (hpq.2 h))] at hc; omega
   unfold cmpS; rw [if_neg (by omega),if_pos this]
 ·cases hc
theorem andU_1 {x:Nat} (hx:x < 18446744073709551616):andI .u64 (x:Int) 1 = ((x % 2:Nat):Int):=by
 unfold andI
 have e1:(BitVec.ofInt IntKind.u64.bits 1).toNat = 1:=by decide
 rw [BitVec.toNat_and,e1,toNat_u hx,Nat.and_one_is_mod,wrap_u (by unfold inU; omega)]
theorem orI_add {x y s:Nat} (hy:y < 2 ^ s) (h:2 ^ s * x + y < 18446744073709551616):orI .u64 ((2 ^ s * x:Nat):Int) (y:Int) = ((2 ^ s * x + y:Nat):Int):=by
 unfold orI
 rw [BitVec.toNat_or,toNat_u (by omega),toNat_u (by omega),← Nat.two_pow_add_eq_or_of_lt hy,wrap_u (by unfold inU; omega)]
theorem or2 {x y:Nat} {p q:Int} (hp:p = ((2 * x:Nat):Int)) (hq:q = (y:Int)) (hy:y < 2) (h:2 * x + y < 18446744073709551616):orI .u64 p q = ((2 * x + y:Nat):Int):=by
 rw [hp,hq]
 have:=orI_add (x:=x) (y:=y) (s:=1) (by simpa using hy) (by simpa using h)
 simpa using this
theorem bit_high {h l:Int} {M k:Nat} (hl:inU l) (hh:inU h) (hjm:jn h l = (M:Int)) (hk:65 ≤ k):M / 2 ^ (k - 1) = h.toNat / 2 ^ (k - 65):=by
 have p:(2:Nat) ^ 64 = 18446744073709551616:=by decide
 have e:2 ^ (k - 1) = 2 ^ 64 * 2 ^ (k - 65):=by rw [← Nat.pow_add]; congr 1; omega
 rw [e,← Nat.div_div_eq_div_mul,p]
 congr 1
 unfold jn at hjm; unfold inU at hl hh
 omega
theorem bit_low {h l:Int} {M k:Nat} (hl:inU l) (hh:inU h) (hjm:jn h l = (M:Int)) (hk0:0 < k) (hk:k < 65):M / 2 ^ (k - 1) % 2 = l.toNat / 2 ^ (k - 1) % 2:=by
 have p:(2:Nat) ^ 64 = 18446744073709551616:=by decide
 have e:(18446744073709551616:Nat) = 2 ^ (k - 1) * (2 * 2 ^ (64 - k)):=by
  rw [← p,Nat.mul_left_comm,← Nat.pow_add,← Nat.pow_succ']; congr 1; omega
 have e2:M = l.toNat + 2 ^ (k - 1) * (2 * 2 ^ (64 - k) * h.toNat):=by
  rw [← Nat.mul_assoc,← e]
  unfold jn at hjm; unfold inU at hl hh
  omega
 rw [e2,Nat.add_mul_div_left _ _ (Nat.two_pow_pos _),Nat.mul_assoc,Nat.add_mul_mod_self_left]
theorem over_step {M D k:Nat} (hk:0 < k) (hk2:k ≤ 128) (hD:1 ≤ D ∧ D ≤ 9223372036854775808) (hM:M < 340282366920938463463374607431768211456) :
  ∀ (b:Int),b = ((M / 2 ^ (k - 1) % 2:Nat):Int) →
  ∀ (z:Int),z = IntKind.u64.wrap (((M / 2 ^ k % D:Nat):Int) * 2) → ∀ (z4:Int),z4 = orI IntKind.u64 z b →
  ∀ (z:Int),z = IntKind.u64.wrap (((M / 2 ^ k / D / 18446744073709551616:Nat):Int) * 2) →
  ∀ (z5:Int),z5 = ((M / 2 ^ k / D % 18446744073709551616:Nat):Int) / 9223372036854775808 → ∀ (z6:Int),z6 = orI IntKind.u64 z z5 →
  ∀ (z:Int),z = IntKind.u64.wrap (((M / 2 ^ k / D % 18446744073709551616:Nat):Int) * 2) →
  ((D:Int) ≤ z4 → ∀ (z7:Int),z7 = IntKind.u64.wrap (z4 - D) → ∀ (z8:Int),z8 = orI IntKind.u64 z 1 → ∀ (z:Int),z = IntKind.i64.wrap ((k:Int) - 1 - 1) →
   ∃ y:Nat,y ≤ 128 ∧ y < k ∧ (z = (y:Int) - 1 ∧ z7 = ((M / 2 ^ y % D:Nat):Int)) ∧ z6 = ((M / 2 ^ y / D / 18446744073709551616:Nat):Int) ∧ z8 = ((M / 2 ^ y / D % 18446744073709551616:Nat):Int)) ∧
  (¬(D:Int) ≤ z4 → ∀ (z7:Int),z7 = IntKind.i64.wrap ((k:Int) - 1 - 1) →
   ∃ y:Nat,y ≤ 128 ∧ y < k ∧ (z7 = (y:Int) - 1 ∧ z4 = ((M / 2 ^ y % D:Nat):Int)) ∧ z6 = ((M / 2 ^ y / D / 18446744073709551616:Nat):Int) ∧ z = ((M / 2 ^ y / D % 18446744073709551616:Nat):Int)):=by
 intro b hb z1 hz1 z4 hz4 z2 hz2 z5 hz5 z6 hz6 z3 hz3
 have hP:M / 2 ^ k = M / 2 ^ (k - 1) / 2:=by
  rw [Nat.div_div_eq_div_mul,← Nat.pow_succ]; congr 2; omega
 obtain ⟨Q,hQ⟩:∃ Q,Q = M / 2 ^ (k - 1):=⟨_,rfl⟩
 have hQM:Q ≤ M:=by rw [hQ]; exact Nat.div_le_self _ _
 rw [← hQ] at hP hb
 rw [hP] at hz1 hz2 hz3 hz5
 obtain ⟨P,hPd⟩:∃ P,P = Q / 2:=⟨_,rfl⟩
 rw [← hPd] at hz1 hz2 hz3 hz5
 have hqr:=Nat.div_add_mod P D
 have hr:=Nat.mod_lt P (show 0 < D by omega)
 have hqP:P / D ≤ P:=Nat.div_le_self _ _
 have hPM:P < 170141183460469231731687303715884105728:=by omega
 clear hP
 obtain ⟨q,hq⟩:∃ q,q = P / D:=⟨_,rfl⟩
 obtain ⟨r,hrr⟩:∃ r,r = P % D:=⟨_,rfl⟩
 rw [← hrr] at hz1 hqr hr
 rw [← hq] at hz2 hz3 hz5 hqr hqP
 have hw:∀ n:Nat,n < 18446744073709551616 → IntKind.u64.wrap (n:Int) = n:=fun n hn => wrap_u (by unfold inU; omega)
 have e1:z1 = ((2 * r:Nat):Int):=by rw [hz1,show (r:Int) * 2 = ((2 * r:Nat):Int) by omega,hw _ (by omega)]
 have e4:z4 = ((2 * r + Q % 2:Nat):Int):=by rw [hz4]; exact or2 e1 hb (by omega) (by omega)
 have e2:z2 = ((2 * (q / 18446744073709551616):Nat):Int):=by
  rw [hz2,show ((q / 18446744073709551616:Nat):Int) * 2 = ((2 * (q / 18446744073709551616):Nat):Int) by omega,hw _ (by omega)]
 have e5:z5 = ((q % 18446744073709551616 / 9223372036854775808:Nat):Int):=by rw [hz5]; rfl
 have e6:z6 = ((2 * q / 18446744073709551616:Nat):Int):=by
  rw [hz6,or2 e2 e5 (by omega) (by omega)]
  omega
 have e3:z3 = ((2 * (q % 9223372036854775808):Nat):Int):=by
  rw [hz3,wrap_u64]; omega
 have hQe:Q = D * (2 * q) + (2 * r + Q % 2):=by
  have:D * (2 * q) = 2 * (D * q):=Nat.mul_left_comm _ _ _
  omega
 have hki:IntKind.i64.wrap ((k:Int) - 1 - 1) = ((k - 1:Nat):Int) - 1:=by rw [wrap_in (inRo (by omega))]; omega
 refine ⟨fun hc z7 hz7 z8 hz8 z9 hz9 => ⟨k - 1,by omega,by omega,⟨by rw [hz9,hki],?_⟩,?_,?_⟩,fun hc z7 hz7 => ⟨k - 1,by omega,by omega,⟨by rw [hz7,hki],?_⟩,?_,?_⟩⟩
 all_goals rw [← hQ]
 all_goals clear hz1 hz2 hz3 hz4 hz5 hz6 hb
 ·have hm:Q % D = 2 * r + Q % 2 - D:=by
   have:Q = (2 * r + Q % 2 - D) + D * (2 * q + 1):=by rw [Nat.mul_add]; omega
   conv => lhs; rw [this]
   rw [Nat.add_mul_mod_self_left,Nat.mod_eq_of_lt (by omega)]
  rw [hm,hz7,e4,show ((2 * r + Q % 2:Nat):Int) - (D:Int) = ((2 * r + Q % 2 - D:Nat):Int) by omega,hw _ (by omega)]
 ·have hd:Q / D = 2 * q + 1:=by
   have:Q = (2 * r + Q % 2 - D) + D * (2 * q + 1):=by rw [Nat.mul_add]; omega
   conv => lhs; rw [this]
   rw [Nat.add_mul_div_left _ _ (by omega),Nat.div_eq_of_lt (by omega)]; omega
  rw [hd,e6]; omega
 ·have hd:Q / D = 2 * q + 1:=by
   have:Q = (2 * r + Q % 2 - D) + D * (2 * q + 1):=by rw [Nat.mul_add]; omega
   conv => lhs; rw [this]
   rw [Nat.add_mul_div_left _ _ (by omega),Nat.div_eq_of_lt (by omega)]; omega
  rw [hd,hz8,or2 (q:=1) e3 (y:=1) rfl (by omega) (by omega)]; omega
 ·have hm:Q % D = 2 * r + Q % 2:=by
   conv => lhs; rw [hQe]
   rw [Nat.mul_add_mod,Nat.mod_eq_of_lt (by omega)]
  rw [hm,e4]
 ·have hd:Q / D = 2 * q:=by
   conv => lhs; rw [hQe]
   rw [Nat.mul_add_div (by omega),Nat.div_eq_of_lt (by omega)]; omega
  rw [hd,e6]
 ·have hd:Q / D = 2 * q:=by
   conv => lhs; rw [hQe]
   rw [Nat.mul_add_div (by omega),Nat.div_eq_of_lt (by omega)]; omega
  rw [hd,e3]; omega
def c237:Con
 | [.agg [.v (.bool g),.v (.int .u64 h),.v (.int .u64 l)],.v (.int .u64 d)] => some ([inU l,inU h,1 ≤ d ∧ d ≤ 9223372036854775808],wd g (jn h l / d))
 | _ => none
theorem con237:ConOK prog 237 c237:=ConOK.of (G:=[]) (H:=[]) .nil func237 fun l ob r hc hob => by
 unfold c237 at hc
 split at hc
 ·rename_i g h l d
  cases hc
  have hl:inU l:=hob _ (by simp)
  have hh:inU h:=hob _ (by simp)
  have hd:1 ≤ d ∧ d ≤ 9223372036854775808:=hob _ (by simp)
  refine ⟨by kernel_rfl,fnVC_go (rs:=[.cell 4 133]) rfl rfl ?_⟩
  simp only [go_sem]
  obtain ⟨D,rfl⟩:∃ n:Nat,d = n:=⟨d.toNat,by omega⟩
  obtain ⟨M,hM⟩:∃ M:Nat,M = (jn h l).toNat:=⟨_,rfl⟩
  have hjm:jn h l = (M:Int):=by rw [hM]; unfold jn; unfold inU at hl hh; omega
  have hMK:M < 340282366920938463463374607431768211456:=by unfold jn at hjm; unfold inU at hl hh; omega
  refine loopC_go (fun (k:Nat) => k ≤ 128) (fun k => k) (fun k => [(7,i64 ((k:Int) - 1)),(6,u64 ((M / 2 ^ k % D:Nat):Int))]) (fun k => [(5,fam1 133 3 [bo g,u64 ((M / 2 ^ k / D / 18446744073709551616:Nat):Int),u64 ((M / 2 ^ k / D % 18446744073709551616:Nat):Int)] none)]) [1,0] [12,13,16,17,18,19,20,21,8,22,23,24,25,26,27,28,29,30,8,31,32,33,34,6,35,36,37,38,39,40,41,42,43,44,45,46,47,48,49,50,51,52,6,53,54,55,56,14,15,7] 128 (by kernel_rfl) ?_ (Nat.le_refl _) ?_ ?_
  ·intro x _; simp [goodNames,asg]
  ·simp only [go_sem]
   have e:M / 340282366920938463463374607431768211456 = 0:=Nat.div_eq_of_lt hMK
   rw [e,Nat.zero_mod,Nat.zero_div]
   exact ⟨⟨by decide,rfl⟩,rfl,rfl⟩
  intro k hk
  simp only [go_sem]
  have hD:1 ≤ D ∧ D ≤ 9223372036854775808:=by omega
  refine ⟨fun hk0 z hz => ?_,fun hk0 => ?_⟩
  ·have ez:z = ((k - 1:Nat):Int):=by rw [hz,show (k:Int) - 1 = ((k - 1:Nat):Int) by omega,wrap_u (by unfold inU; omega)]
   refine ⟨by rw [ez]; omega,fun z1 hz1 z2 hz2 => ⟨fun h64 z3 hz3 z4 hz4 => ?_,fun h64 => ?_⟩⟩
   ·have e3:z4 = ((k - 65:Nat):Int):=by
     rw [hz4,hz3,wrap_in (inRo (by omega)),show (k:Int) - 1 - 64 = ((k - 65:Nat):Int) by omega,wrap_u (by unfold inU; omega)]
    refine ⟨by rw [e3]; omega,fun z5 hz5 z6 hz6 => ?_⟩
    refine over_step (by omega) hk hD hMK z6 ?_
    rw [hz6,hz5,e3,Int.toNat_natCast,Nat.min_eq_left (by omega),bit_high hl hh hjm (by omega)]
    have hhn:h = ((h.toNat:Nat):Int):=by unfold inU at hh; omega
    have hle:h.toNat / 2 ^ (k - 65) ≤ h.toNat:=Nat.div_le_self _ _
    rw [show h.fdiv (2 ^ (k - 65)) = ((h.toNat / 2 ^ (k - 65):Nat):Int) by
     conv => lhs; rw [hhn]
     rw [show ((2:Int) ^ (k - 65)) = ((2 ^ (k - 65):Nat):Int) by simp,Int.fdiv_eq_ediv_of_nonneg _ (Int.natCast_nonneg _)]; rfl]
    exact andU_1 (by unfold inU at hh; omega)
   ·refine over_step (by omega) hk hD hMK z2 ?_
    rw [hz2,hz1,ez,Int.toNat_natCast,Nat.min_eq_left (by omega),bit_low hl hh hjm (by omega) (by omega)]
    have hhn:l = ((l.toNat:Nat):Int):=by unfold inU at hl; omega
    have hle:l.toNat / 2 ^ (k - 1) ≤ l.toNat:=Nat.div_le_self _ _
    rw [show l.fdiv (2 ^ (k - 1)) = ((l.toNat / 2 ^ (k - 1):Nat):Int) by
     conv => lhs; rw [hhn]
     rw [show ((2:Int) ^ (k - 1)) = ((2 ^ (k - 1):Nat):Int) by simp,Int.fdiv_eq_ediv_of_nonneg _ (Int.natCast_nonneg _)]; rfl]
    exact andU_1 (by unfold inU at hl; omega)
  ·have:k = 0:=by omega
   subst this
   rw [Nat.pow_zero,Nat.div_one,hjm]
   exact agg3 rfl (u64_eq (by omega)) (u64_eq (by omega))
 ·cases hc
def c276:Con
 | [.agg [.v (.bool g),.v (.int .u64 h),.v (.int .u64 l)]] => some ([inU l,inU h],wd false (isq (jn h l).toNat))
 | _ => none
theorem con276:ConOK prog 276 c276:=ConOK.of (G:=[(161,c161),(275,c275)]) (H:=[]) (.cons con161 (.cons con275 .nil)) func276 fun l ob r hc hob => by
 unfold c276 at hc
 split at hc
 ·rename_i g h l
  cases hc
  have hl:inU l:=hob _ (by simp)
  have hh:inU h:=hob _ (by simp)
  refine ⟨by kernel_rfl,fnVC_go (rs:=[.cell 2 133]) rfl rfl ?_⟩
  simp only [go_sem]
  obtain ⟨m,hm⟩:∃ m:Nat,m = (jn h l).toNat:=⟨_,rfl⟩
  have hjm:jn h l = (m:Int):=by rw [hm]; unfold jn; unfold inU at hl hh; omega
  have hmK:m < 340282366920938463463374607431768211456:=by unfold jn at hjm; unfold inU at hl hh; omega
  rw [← hm]
  refine loopC_go (fun (p:Nat × Nat) => p.1 ≤ 64 ∧ isqB m p.1 p.2 = isq m ∧ p.2 % 2 ^ p.1 = 0 ∧ p.2 + 2 ^ p.1 ≤ 18446744073709551616) (fun p => p.1) (fun p => [(4,i64 ((p.1:Int) - 1)),(3,u64 p.2)]) (fun _ => []) [1,0] [8,9,12,13,14,15,16,5,18,19,20,17,21,22,6,7,23,24,25,26,27,28,29,3,10,11,4] (64,0) (by kernel_rfl) ?_ ⟨by decide,rfl,by decide,by decide⟩ ?_ ?_
  ·intro x _; simp [goodNames,asg]
  ·simp only [go_sem]
   decide
  intro p hp
  obtain ⟨k,r⟩:=p
  obtain ⟨hk,hr1,hr2,hr3⟩:=hp
  dsimp only at hk hr1 hr2 hr3
  simp only [go_sem,c161,c275]
  refine ⟨fun hk0 z hz => ?_,fun hk0 => ?_⟩
  ·obtain ⟨j,rfl⟩:∃ j,k = j + 1:=⟨k - 1,by omega⟩
   have ez:z = (j:Int):=by rw [hz,show ((j + 1:Nat):Int) - 1 = (j:Int) by omega,wrap_u (by unfold inU; omega)]
   refine ⟨by rw [ez]; omega,fun z1 hz1 z2 hz2 z3 hz3 z4 hz4 => ?_⟩
   have pj:0 < 2 ^ j:=Nat.two_pow_pos j
   have pk:2 ^ (j + 1) = 2 * 2 ^ j:=by rw [Nat.pow_succ,Nat.mul_comm]
   obtain ⟨x,hx⟩:∃ x,r = 2 ^ (j + 1) * x:=⟨r / 2 ^ (j + 1),by have:=Nat.div_add_mod r (2 ^ (j + 1)); omega⟩
   have hj1:2 ^ j < 18446744073709551616:=by omega
   have e1:z1 = ((2 ^ j:Nat):Int):=by
    rw [hz1,ez,Int.toNat_natCast,Nat.min_eq_left (by omega),Int.one_mul,show ((2:Int) ^ j) = ((2 ^ j:Nat):Int) by simp,wrap_u ⟨Int.natCast_nonneg _,Int.ofNat_lt.2 hj1⟩]
   have e2:z2 = ((r + 2 ^ j:Nat):Int):=by
    rw [hz2,e1,hx]
    exact orI_add (by omega) (by rw [← hx]; omega)
   have hcU:inU z2:=by rw [e2]; exact ⟨Int.natCast_nonneg _,Int.ofNat_lt.2 (show r + 2 ^ j < 18446744073709551616 by omega)⟩
   refine ⟨hcU,hcU,fun z5 hz5 => ⟨hl,hh,?_,?_,fun h0 z6 hz6 => ⟨(j,r + 2 ^ j),⟨by dsimp only; omega,?_,?_,?_⟩,Nat.lt_succ_self j,?_,e2⟩,fun h0 z6 hz6 => ⟨(j,r),⟨by dsimp only; omega,?_,?_,?_⟩,Nat.lt_succ_self j,?_,rfl⟩⟩⟩
   all_goals (
    have hcc:z2 * z2 = (((r + 2 ^ j) * (r + 2 ^ j):Nat):Int):=by rw [e2,Int.natCast_mul]
    have hclt:r + 2 ^ j < 18446744073709551616:=by omega
    have hcK2:(r + 2 ^ j) * (r + 2 ^ j) < 18446744073709551616 * 18446744073709551616:=Nat.mul_lt_mul'' hclt hclt
    have hjc:jn z3 z4 = z2 * z2:=by rw [hz3,hz4,mod_jn]
    rw [hcc] at hz3 hz4 hjc
    generalize hcd:(r + 2 ^ j) * (r + 2 ^ j) = cc at *)
   ·rw [hz4]; exact inU_mod
   ·rw [hz3]; unfold inU; omega
   ·have:cc ≤ m:=by
     rw [hz5,hjc,hjm] at h0
     have:=of_decide_eq_false h0
     omega
    rw [← hr1]
    conv => rhs; unfold isqB
    rw [hcd,if_pos this]
   ·show (r + 2 ^ j) % 2 ^ j = 0
    rw [hx,pk,Nat.mul_comm 2,Nat.mul_assoc,← Nat.mul_succ,Nat.mul_mod_right]
   ·show r + 2 ^ j + 2 ^ j ≤ 18446744073709551616
    omega
   ·rw [hz6,wrap_in (inRo (by omega))]; dsimp only; omega
   ·have:¬ cc ≤ m:=by
     rw [hz5,hjc,hjm] at h0
     have:=of_decide_eq_true h0
     omega
    rw [← hr1]
    conv => rhs; unfold isqB
    rw [hcd,if_neg this]
   ·show r % 2 ^ j = 0
    rw [hx,pk,Nat.mul_comm 2,Nat.mul_assoc,Nat.mul_mod_right]
   ·show r + 2 ^ j ≤ 18446744073709551616
    omega
   ·rw [hz6,wrap_in (inRo (by omega))]; dsimp only; omega
  ·have:k = 0:=by omega
   subst this
   have e:r = isq m:=hr1
   have:=isq_small hmK
   rw [e]
   exact agg3 rfl (u64_eq (by omega)) (u64_eq (by omega))
 ·cases hc
def c151:Con
 | [.v (.int .i64 a),.v (.int .i64 b)] => some ([inR a,inR b],ra a b false)
 | _ => none
theorem con151:ConOK prog 151 c151:=ConOK.of (G:=[(236,c236),(77,c77),(76,c76),(146,c146),(237,c237),(75,c75)]) (H:=[]) (.cons con236 (.cons con77 (.cons con76 (.cons con146 (.cons con237 (.cons con75 .nil)))))) func151 fun l ob r hc hob => by
 unfold c151 at hc
 split at hc
 ·rename_i a b
  cases hc
  have h_0:=ob0 hob
  have h_1:=ob1 hob
  refine ⟨by kernel_rfl,fnVC_go (rs:=[.cell 4 27]) rfl rfl ?_⟩
  simp only [go_sem,c236,c77,c76,c146,c237,c75]
  simp only [forall_eq,mod_jn,Bool.or_false]
  refine ⟨fun hb => ?_,fun hb => ?_⟩
  ·have hb:b = 0:=by simpa using hb
   refine agg2 (i64_eq ?_) (bo_eq ?_)
   ·unfold raV; rw [if_pos hb]
   ·unfold raF; rw [if_pos hb]; rfl
  ·have hb:b ≠ 0:=by simpa using hb
   have ha0:=ab_nonneg a
   have hb0:=ab_nonneg b
   have ha1:ab a ≤ 9223372036854775808:=by unfold inR at h_0; exact ab_le (by omega) (by omega)
   have hb1:ab b ≤ 9223372036854775808:=by unfold inR at h_1; exact ab_le (by omega) (by omega)
   have hb2:0 < ab b:=by unfold ab at hb0 ⊢; split <;> omega
   have e:(!decide (a < 0) == decide (b < 0)) = (decide (a < 0) != decide (b < 0)):=by cases decide (a < 0) <;> cases decide (b < 0) <;> rfl
   have k5:0 ≤ ab a * 4294967296 / ab b:=Int.ediv_nonneg (by omega) hb0
   have k6:ab a * 4294967296 / ab b ≤ ab a * 4294967296:=Int.ediv_le_self _ (by omega)
   refine ⟨h_0,inU_mod,inU_div ha0 (by omega),by omega,h_1,inU_mod,inU_div (by omega) (by omega),⟨by omega,hb1⟩,inU_mod,inU_div k5 (by omega),?_⟩
   rw [e,sgn_ratio hb]
   refine agg2 (i64_eq ?_) (bo_eq ?_)
   ·unfold raV; rw [if_neg hb]
   ·unfold raF; rw [if_neg hb,Bool.or_false]
 ·cases hc
def c150:Con
 | [.agg [.v (.int .i64 v),.v (.bool f)],.agg [.v (.int .i64 u),.v (.bool e)]] => some ([inR v,inR u],ra (whV v) (whV u) (whF v f || whF u e))
 | _ => none
theorem con150:ConOK prog 150 c150:=ConOK.of (G:=[(235,c235),(236,c236),(151,c151)]) (H:=[]) (.cons con235 (.cons con236 (.cons con151 .nil))) func150 fun l ob r hc hob => by
 unfold c150 at hc
 split at hc
 ·rename_i v f u e
  cases hc
  have h_0:=ob0 hob
  have h_1:=ob1 hob
  refine ⟨by kernel_rfl,fnVC_go (rs:=[.cell 4 27]) rfl rfl ?_⟩
  simp only [go_sem,c235,c236,c151]
  simp only [forall_eq,Bool.or_false]
  refine ⟨fun hb => ?_,fun hb => ⟨inR_wh h_0,inR_wh h_1,?_⟩⟩
  ·have hb:whV u = 0:=by simpa using hb
   refine agg2 (i64_eq ?_) (bo_eq ?_)
   ·unfold raV; rw [if_pos hb]
   ·unfold raF; rw [if_pos hb]; rfl
  ·rw [Bool.or_assoc]
 ·cases hc
def c267:Con
 | [.agg [.v (.int .i64 v),.v (.bool f)],.agg [.v (.int .i64 u),.v (.bool e)]] => some ([inR v,inR u],nu (isq (whV v * whV v + whV u * whV u).toNat) (whF v f || whF u e))
 | _ => none
theorem con267:ConOK prog 267 c267:=ConOK.of (G:=[(235,c235),(250,c250),(269,c269),(276,c276),(75,c75)]) (H:=[]) (.cons con235 (.cons con250 (.cons con269 (.cons con276 (.cons con75 .nil))))) func267 fun l ob r hc hob => by
 unfold c267 at hc
 split at hc
 ·rename_i v f u e
  cases hc
  have h_0:=ob0 hob
  have h_1:=ob1 hob
  refine ⟨by kernel_rfl,fnVC_go (rs:=[.cell 4 27]) rfl rfl ?_⟩
  simp only [go_sem,c235,c250,c269,c276,c75]
  simp only [forall_eq,mod_jn,sgn_f,ab_sq]
  have k:=mul_rg (inR_wh h_0) (inR_wh h_0)
  have k0:=sq_nonneg (a:=whV v)
  have j:=mul_rg (inR_wh h_1) (inR_wh h_1)
  have j0:=sq_nonneg (a:=whV u)
  rw [ab_sq] at k j
  have e:plM (decide (whV v * whV v < 0)) (whV v * whV v) (decide (whV u * whV u < 0)) (whV u * whV u) = whV v * whV v + whV u * whV u:=by
   unfold plM; rw [if_pos (by rw [decide_eq_false (by omega),decide_eq_false (by omega)])]
  rw [e]
  have s:=isq_small (m:=(whV v * whV v + whV u * whV u).toNat) (by omega)
  refine ⟨inR_wh h_0,inR_wh h_0,inR_wh h_1,inR_wh h_1,inU_mod,inU_div k0 (by omega),inU_mod,inU_div j0 (by omega),by omega,inU_mod,inU_div (by omega) (by omega),inU_mod,inU_div (by omega) (by omega),?_⟩
  trivial
 ·cases hc
def c266:Con
 | [.ro n 2 g] => some ([nums n g,n ≤ 1000],bo (wfS n g))
 | _ => none
theorem vc266 (n:Nat) (X:Nat → Int) (F:Nat → Bool) (hn:n ≤ 1000):fnVC prog [(235,c235)] [] Tryz.f266 [.ro n 2 fun i => [i64 (X i),bo (F i)]] (· = bo (anyB (fun i => whF (X i) (F i)) n)):=by
 refine fnVC_go (rs:=[.tmp 2]) rfl rfl ?_
 simp only [go_sem]
 refine loopC_go (fun (i:Nat) => i ≤ n ∧ ∀ j,j < i → whF (X j) (F j) = false) (fun i => n - i) (fun i => [(3,i64 i)]) (fun _ => []) [] [6,7,8,9,13,14,15,16,17,12,18,19,4,5,20,2,10,11,3] 0 (by kernel_rfl) ?_ ⟨Nat.zero_le _,fun j h => by omega⟩ ?_ ?_
 ·intro x _; simp [goodNames]
 ·simp only [go_sem]
 ·intro i hi
  simp only [go_sem,c235]
  refine ⟨fun h => ⟨by omega,h,fun z hz z1 hz1 => ⟨fun hx => ?_,fun hx z2 hz2 => ⟨i + 1,⟨by omega,fun j hj => ?_⟩,by omega,?_⟩⟩⟩,fun h => false_of' fun hc => ?_⟩
  ·exact (anyB_iff.2 ⟨i,by omega,by rw [hz1] at hx; exact hx⟩).symm
  ·by_cases e:j = i
   ·subst e; rw [hz1] at hx; exact hx
   ·exact hi.2 j (by omega)
  ·rw [hz2,wrap_in (inRo (by omega))]; rfl
  ·obtain ⟨j,h1,h2⟩:=anyB_iff.1 hc
   rw [hi.2 j (by omega)] at h2; cases h2
theorem con266:ConOK prog 266 c266:=ConOK.go (G:=[(235,c235)]) (H:=[]) (.cons con235 .nil) func266 fun l ob r hc hob => by
 unfold c266 at hc
 split at hc
 ·rename_i n g
  cases hc
  have hs:nums n g:=hob _ (by simp)
  refine ⟨[.ro n 2 fun i => [i64 (gx g 0 i),bo (gb g 1 i)]],fun w I vs h => Rs_one (fun v => ro_alike fun i hi => (hs i hi).1) h,by kernel_rfl,vc266 n _ _ (hob _ (by simp))⟩
 ·cases hc
def smR (X:Nat → Int):Nat → Bool × Int
 | 0 => (false,0)
 | i + 1 => (rpG (smR X i).1 (smR X i).2 (decide (X i < 0)) (ab (X i)),plM (smR X i).1 (smR X i).2 (decide (X i < 0)) (ab (X i)))
theorem smR_ok {X:Nat → Int}:∀ i,sgn (smR X i).1 (smR X i).2 = suS X i ∧ 0 ≤ (smR X i).2
 | 0 => ⟨rfl,Int.le_refl 0⟩
 | i + 1 => by
  obtain ⟨h1,h2⟩:=smR_ok (X:=X) i
  unfold smR suS
  exact ⟨by rw [rp_sgn,h1,sgn_ab],plM_nonneg h2 (ab_nonneg _)⟩
theorem smR_le {X:Nat → Int} {n:Nat} (h:∀ i,i < n → rg (X i)):∀ i,i ≤ n → (smR X i).2 ≤ 9223372036854775807 * i
 | 0,_ => by simp [smR]
 | i + 1,hi => by
  have h0:=smR_le h i (by omega)
  have h1:=h i (by omega)
  unfold rg at h1
  have h2:ab (X i) ≤ 9223372036854775807:=ab_le (by omega) (by omega)
  have h3:=plM_le (g:=(smR X i).1) (g':=decide (X i < 0)) (smR_ok (X:=X) i).2 (ab_nonneg (X i))
  unfold smR
  dsimp only
  omega
def c248:Con
 | [.ro n 2 g] => some ([nums n g,n ≤ 1000],nu (suS (wvS g) n) (wfS n g))
 | _ => none
theorem vc248 (n:Nat) (X:Nat → Int) (F:Nat → Bool) (hX:∀ i,i < n → inR (X i)) (hn:n ≤ 1000):fnVC prog [(235,c235),(77,c77),(269,c269),(266,c266),(75,c75)] [(6,⟨[(4,.slot 3)],[]⟩),(7,⟨[(4,.slot 2)],[]⟩)] Tryz.f248 [.ro n 2 fun i => [i64 (X i),bo (F i)]] (· = nu (suS (fun i => whV (X i)) n) (anyB (fun i => whF (X i) (F i)) n)):=by
 refine fnVC_go (rs:=[.cell 2 27]) rfl rfl ?_
 simp only [go_sem]
 have hr:∀ i,i < n → rg (whV (X i)):=fun i hi => whV_rg (hX i hi)
 refine loopC_go (fun (i:Nat) => i ≤ n) (fun i => n - i) (fun i => [(4,i64 i)]) (fun i => [(2,fam1 133 3 [bo (smR (fun i => whV (X i)) i).1,u64 ((smR (fun i => whV (X i)) i).2 / 18446744073709551616),u64 ((smR (fun i => whV (X i)) i).2 % 18446744073709551616)] none)]) [0] [8,9,10,11,15,16,17,18,19,14,20,21,5,6,22,23,24,25,12,13,4] 0 (by kernel_rfl) ?_ (Nat.zero_le _) ?_ ?_
 ·intro x _; simp [goodNames,asg]
 ·simp only [go_sem,smR]
  simp
 ·intro i hi
  simp only [go_sem,c235,c77,c269,c266,c75]
  have h1:=smR_ok (X:=fun i => whV (X i)) i
  have h2:=smR_le (X:=fun i => whV (X i)) hr i hi
  refine ⟨fun hin => ?_,fun hin => ?_⟩
  ·have h3:=hr i (by omega)
   have h4:=ab_nonneg (whV (X i))
   have h5:ab (whV (X i)) ≤ 9223372036854775807:=by unfold rg at h3; exact ab_le (by omega) (by omega)
   simp only [forall_eq,mod_jn]
   refine ⟨by omega,hin,rg_inR h3,inU_mod,inU_div h1.2 (by omega),inU_mod,inU_div h4 (by omega),by omega,⟨i + 1,by omega,by omega,?_,rfl,rfl,rfl⟩⟩
   rw [wrap_in (inRo (by omega))]; rfl
  ·have e:i = n:=by omega
   subst e
   simp only [forall_eq,mod_jn]
   refine ⟨fun k hk => ⟨rfl,hX k hk⟩,hn,inU_mod,inU_div h1.2 (by omega),?_⟩
   rw [h1.1]
   rfl
theorem con248:ConOK prog 248 c248:=ConOK.go (G:=[(235,c235),(77,c77),(269,c269),(266,c266),(75,c75)]) (H:=[(6,⟨[(4,.slot 3)],[]⟩),(7,⟨[(4,.slot 2)],[]⟩)]) (.cons con235 (.cons con77 (.cons con269 (.cons con266 (.cons con75 .nil))))) func248 fun l ob r hc hob => by
 unfold c248 at hc
 split at hc
 ·rename_i n g
  cases hc
  have hs:nums n g:=hob _ (by simp)
  exact ⟨[.ro n 2 fun i => [i64 (gx g 0 i),bo (gb g 1 i)]],fun w I vs h => Rs_one (fun v => ro_alike fun i hi => (hs i hi).1) h,by kernel_rfl,vc248 n _ _ (fun i hi => (hs i hi).2) (hob _ (by simp))⟩
 ·cases hc
def c251:Con
 | [.ro n 2 g] => some ([nums n g,n ≤ 1000],moS 1 n g)
 | _ => none
theorem vc251 (n:Nat) (X:Nat → Int) (F:Nat → Bool) (hX:∀ i,i < n → inR (X i)) (hn:n ≤ 1000):fnVC prog [(235,c235),(266,c266)] [] Tryz.f251 [.ro n 2 fun i => [i64 (X i),bo (F i)]] (· = .agg [i64 (if n = 0 then 0 else msS 1 (fun i => whV (X i)) n),bo (anyB (fun i => whF (X i) (F i)) n)]):=by
 refine fnVC_go (rs:=[.cell 2 27]) rfl rfl ?_
 simp only [go_sem,c235]
 refine ⟨fun h => ?_,fun h => ?_⟩
 ·have:n = 0:=by simpa using h
  subst this
  rfl
 have h:n ≠ 0:=by simpa using h
 refine ⟨by omega,fun z hz z1 hz1 => ?_⟩
 refine loopC_go (fun (i:Nat) => i + 1 ≤ n) (fun i => n - i) (fun i => [(5,i64 ((i + 1:Nat):Int)),(3,i64 (exS 1 (whV (X 0)) (fun i => whV (X (i + 1))) i))]) (fun _ => []) [0] [19,20,21,22,26,27,28,29,30,25,31,32,6,7,33,34,35,36,3,23,24,5] 0 (by kernel_rfl) ?_ (by omega) ?_ ?_
 ·intro x _; simp [goodNames,asg]
 ·simp only [go_sem,exS]
  exact hz
 ·intro i hi
  simp only [go_sem,c235,c266]
  have hw:IntKind.i64.wrap (((i + 1:Nat):Int) + 1) = ((i + 1 + 1:Nat):Int):=by rw [wrap_in (inRo (by omega))]; rfl
  refine ⟨fun hin => ⟨by omega,hin,fun z2 hz2 z3 hz3 => ⟨fun h2 z4 hz4 => ⟨i + 1,by omega,by omega,by rw [hz4,hw],?_⟩,fun h2 z4 hz4 => ⟨i + 1,by omega,by omega,by rw [hz4,hw],?_⟩⟩⟩,fun hin z2 hz2 => ⟨fun k hk => ⟨rfl,hX k hk⟩,hn,?_⟩⟩
  ·conv => rhs; unfold exS
   rw [hz2] at h2
   rw [if_pos (.inl ⟨rfl,h2⟩),hz2]
  ·conv => rhs; unfold exS
   rw [hz2] at h2
   rw [if_neg ?_]
   rintro (⟨_,k⟩ | ⟨k,_⟩)
   ·exact h2 k
   ·exact absurd k (by decide)
  ·have e:i = n - 1:=by omega
   refine agg2 (i64_eq ?_) (bo_eq hz2)
   rw [if_neg h,e]
   rfl
theorem con251:ConOK prog 251 c251:=ConOK.go (G:=[(235,c235),(266,c266)]) (H:=[]) (.cons con235 (.cons con266 .nil)) func251 fun l ob r hc hob => by
 unfold c251 at hc
 split at hc
 ·rename_i n g
  cases hc
  have hs:nums n g:=hob _ (by simp)
  exact ⟨[.ro n 2 fun i => [i64 (gx g 0 i),bo (gb g 1 i)]],fun w I vs h => Rs_one (fun v => ro_alike fun i hi => (hs i hi).1) h,by kernel_rfl,vc251 n _ _ (fun i hi => (hs i hi).2) (hob _ (by simp))⟩
 ·cases hc
def c219:Con
 | [.ro n 2 g] => some ([nums n g,n ≤ 1000],moS (-1) n g)
 | _ => none
theorem vc219 (n:Nat) (X:Nat → Int) (F:Nat → Bool) (hX:∀ i,i < n → inR (X i)) (hn:n ≤ 1000):fnVC prog [(235,c235),(266,c266)] [] Tryz.f219 [.ro n 2 fun i => [i64 (X i),bo (F i)]] (· = .agg [i64 (if n = 0 then 0 else msS (-1) (fun i => whV (X i)) n),bo (anyB (fun i => whF (X i) (F i)) n)]):=by
 refine fnVC_go (rs:=[.cell 2 27]) rfl rfl ?_
 simp only [go_sem,c235]
 refine ⟨fun h => ?_,fun h => ?_⟩
 ·have:n = 0:=by simpa using h
  subst this
  rfl
 have h:n ≠ 0:=by simpa using h
 refine ⟨by omega,fun z hz z1 hz1 => ?_⟩
 refine loopC_go (fun (i:Nat) => i + 1 ≤ n) (fun i => n - i) (fun i => [(5,i64 ((i + 1:Nat):Int)),(3,i64 (exS (-1) (whV (X 0)) (fun i => whV (X (i + 1))) i))]) (fun _ => []) [0] [19,20,21,22,26,27,28,29,30,25,31,32,6,7,33,34,35,36,3,23,24,5] 0 (by kernel_rfl) ?_ (by omega) ?_ ?_
 ·intro x _; simp [goodNames,asg]
 ·simp only [go_sem,exS]
  exact hz
 ·intro i hi
  simp only [go_sem,c235,c266]
  have hw:IntKind.i64.wrap (((i + 1:Nat):Int) + 1) = ((i + 1 + 1:Nat):Int):=by rw [wrap_in (inRo (by omega))]; rfl
  refine ⟨fun hin => ⟨by omega,hin,fun z2 hz2 z3 hz3 => ⟨fun h2 z4 hz4 => ⟨i + 1,by omega,by omega,by rw [hz4,hw],?_⟩,fun h2 z4 hz4 => ⟨i + 1,by omega,by omega,by rw [hz4,hw],?_⟩⟩⟩,fun hin z2 hz2 => ⟨fun k hk => ⟨rfl,hX k hk⟩,hn,?_⟩⟩
  ·conv => rhs; unfold exS
   rw [hz2] at h2
   rw [if_pos (.inr ⟨rfl,h2⟩),hz2]
  ·conv => rhs; unfold exS
   rw [hz2] at h2
   rw [if_neg ?_]
   rintro (⟨k,_⟩ | ⟨_,k⟩)
   ·exact absurd k (by decide)
   ·exact h2 k
  ·have e:i = n - 1:=by omega
   refine agg2 (i64_eq ?_) (bo_eq hz2)
   rw [if_neg h,e]
   rfl
theorem con219:ConOK prog 219 c219:=ConOK.go (G:=[(235,c235),(266,c266)]) (H:=[]) (.cons con235 (.cons con266 .nil)) func219 fun l ob r hc hob => by
 unfold c219 at hc
 split at hc
 ·rename_i n g
  cases hc
  have hs:nums n g:=hob _ (by simp)
  exact ⟨[.ro n 2 fun i => [i64 (gx g 0 i),bo (gb g 1 i)]],fun w I vs h => Rs_one (fun v => ro_alike fun i hi => (hs i hi).1) h,by kernel_rfl,vc219 n _ _ (fun i hi => (hs i hi).2) (hob _ (by simp))⟩
 ·cases hc
def c182:Con
 | [.agg [.v (.int .i64 v),.v (.bool f)],.agg [.v (.int .i64 u),.v (.bool e)]] => some ([inR v,inR u],nu (whV v + whV u) (whF v f || whF u e))
 | _ => none
theorem con182:ConOK prog 182 c182:=ConOK.of (G:=[(248,c248)]) (H:=[]) (.cons con248 .nil) func182 fun l ob r hc hob => by
 unfold c182 at hc
 split at hc
 ·rename_i v f u e
  cases hc
  have h_0:=ob0 hob
  have h_1:=ob1 hob
  refine ⟨by kernel_rfl,fnVC_go (rs:=[.cell 4 27]) rfl rfl ?_⟩
  simp only [go_sem,c248]
  simp only [forall_eq]
  obtain ⟨e1,e2⟩:=sum2 (g:=rowsOf 2 [i64 v,bo f,i64 u,bo e]) rfl rfl
  refine ⟨nums2 rfl rfl h_0 h_1,?_⟩
  rw [e1,e2]
 ·cases hc
def c220:Con
 | [.agg [.v (.int .i64 v),.v (.bool f)],.agg [.v (.int .i64 u),.v (.bool e)]] => some ([inR v,inR u],nu (whV v - whV u) (whF v f || whF u e))
 | _ => none
theorem con220:ConOK prog 220 c220:=ConOK.of (G:=[(184,c184),(248,c248)]) (H:=[(1,⟨[(5,.slot 4)],[]⟩)]) (.cons con184 (.cons con248 .nil)) func220 fun l ob r hc hob => by
 unfold c220 at hc
 split at hc
 ·rename_i v f u e
  cases hc
  have h_0:=ob0 hob
  have h_1:=ob1 hob
  refine ⟨by kernel_rfl,fnVC_go (rs:=[.cell 4 27]) rfl rfl ?_⟩
  simp only [go_sem,c184,c248]
  simp only [forall_eq]
  have k:=whV_rg h_1
  have k2:rg (-whV u):=by unfold rg at *; omega
  refine ⟨h_1,nums2 rfl rfl h_0 (rg_inR k2),?_⟩
  obtain ⟨e1,e2⟩:=sum2 (g:=rowsOf 2 [i64 v,bo f,i64 (-whV u),bo (whF u e)]) rfl rfl
  rw [e1,e2,whV_of k2,whF_of k2]
  rfl
 ·cases hc
def c186:Con
 | [.agg [.v (.int .i64 x),.v (.bool f)],.agg [.v (.int .i64 l),.v (.bool p)],.agg [.v (.int .i64 h),.v (.bool q)]] => some ([inR x,inR l,inR h],.agg [i64 (max (whV l) (min (whV x) (whV h))),bo (whF l p || (whF x f || whF h q))])
 | _ => none
theorem con186:ConOK prog 186 c186:=ConOK.of (G:=[(251,c251),(219,c219)]) (H:=[(1,⟨[(7,.slot 6)],[]⟩)]) (.cons con251 (.cons con219 .nil)) func186 fun l ob r hc hob => by
 unfold c186 at hc
 split at hc
 ·rename_i x f l p h q
  cases hc
  have h_0:=ob0 hob
  have h_1:=ob1 hob
  have h_2:=ob2 hob
  refine ⟨by kernel_rfl,fnVC_go (rs:=[.cell 6 27]) rfl rfl ?_⟩
  simp only [go_sem,c251,c219]
  intro z hz z1 hz1
  refine ⟨nums2 rfl rfl h_0 h_2,fun z2 hz2 z3 hz3 => ?_⟩
  rw [mo2 rfl rfl] at hz
  rw [(sum2 (a:=x) (b:=h) (e:=f) (f:=q) rfl rfl).2] at hz1
  have kx:=whV_rg h_0
  have kl:=whV_rg h_1
  have kh:=whV_rg h_2
  have kz:rg z:=by rw [hz]; split <;> assumption
  refine ⟨nums2 rfl rfl h_1 (rg_inR kz),?_⟩
  rw [mo2 rfl rfl,whV_of kz] at hz2
  rw [(sum2 (a:=l) (b:=z) (e:=p) (f:=z1) rfl rfl).2,whF_of kz] at hz3
  refine agg2 (i64_eq ?_) (bo_eq (by rw [hz3,hz1]))
  rw [hz2,hz]
  simp only [Int.reduceNeg]
  have e1:((1:Int) = -1) = False:=by decide
  have e2:((-1:Int) = 1) = False:=by decide
  simp only [e1,e2,eq_self,true_and,false_and,or_false,false_or,Int.max_def,Int.min_def]
  repeat' split
  all_goals omega
 ·cases hc
def c265:Con
 | [.v (.int .i64 v)] => some ([],.agg [i64 (whV v),bo (whF v false)])
 | _ => none
theorem con265:ConOK prog 265 c265:=ConOK.of (G:=[(235,c235)]) (H:=[]) (.cons con235 .nil) func265 fun l ob r hc hob => by
 unfold c265 at hc
 split at hc
 ·rename_i v
  cases hc
  refine ⟨by kernel_rfl,fnVC_go (rs:=[.cell 2 27]) rfl rfl ?_⟩
  simp only [go_sem,c235]
  simp only [forall_eq]
 ·cases hc
def wpV (v:Int):Int:=if 13493037704 < v.tmod 26986075409 then v.tmod 26986075409 - 26986075409 else if v.tmod 26986075409 < -13493037704 then v.tmod 26986075409 + 26986075409 else v.tmod 26986075409
def c183:Con
 | [.agg [.v (.int .i64 v),.v (.bool f)]] => some ([inR v],.agg [i64 (wpV (whV v)),bo (whF v f)])
 | _ => none
theorem con183:ConOK prog 183 c183:=ConOK.of (G:=[(235,c235)]) (H:=[]) (.cons con235 .nil) func183 fun l ob r hc hob => by
 unfold c183 at hc
 split at hc
 ·rename_i v f
  cases hc
  have h_0:=ob0 hob
  refine ⟨by kernel_rfl,fnVC_go (rs:=[.cell 2 27]) rfl rfl ?_⟩
  simp only [go_sem,c235]
  simp only [forall_eq]
  have h1:=Int.tmod_lt_of_pos (whV v) (show (0:Int) < 26986075409 by decide)
  have h2:-26986075409 < (whV v).tmod 26986075409:=by
   have:=Int.neg_emod_two
   rcases Int.le_total 0 (whV v) with h | h
   ·have:=Int.tmod_nonneg 26986075409 h; omega
   ·have e:(whV v).tmod 26986075409 = -((-whV v).tmod 26986075409):=by rw [Int.neg_tmod,Int.neg_neg]
    have:=Int.tmod_lt_of_pos (-whV v) (show (0:Int) < 26986075409 by decide)
    omega
  unfold wpV
  generalize (whV v).tmod 26986075409 = t at *
  rw [wrap_in (x:=t - 26986075409) (inRo (by omega)),wrap_in (x:=t + 26986075409) (inRo (by omega)),wrap_in (x:=t - 26986075409 + 26986075409) (inRo (by omega))]
  refine ⟨fun h => ⟨fun h3 => agg2 (i64_eq (by rw [if_pos h]; omega)) rfl,fun h3 => agg2 (i64_eq (by rw [if_pos h])) rfl⟩,fun h => ⟨fun h3 => agg2 (i64_eq (by rw [if_neg h,if_pos h3])) rfl,fun h3 => agg2 (i64_eq (by rw [if_neg h,if_neg h3])) rfl⟩⟩
 ·cases hc
abbrev Nb:=Int × Bool
def nMul (a b:Nb):Nb:=(ftV ((whV a.1 * whV b.1).tdiv 4294967296),ftF ((whV a.1 * whV b.1).tdiv 4294967296) || (whF a.1 a.2 || whF b.1 b.2))
def nInt (n:Int):Nb:=(ftV (n * 4294967296),ftF (n * 4294967296) || false)
def nDiv (a b:Nb):Nb:=(raV (whV a.1) (whV b.1),raF (whV a.1) (whV b.1) || (whF a.1 a.2 || whF b.1 b.2))
def nNeg (a:Nb):Nb:=(-whV a.1,whF a.1 a.2)
def nAdd (a b:Nb):Nb:=(ftV (whV a.1 + whV b.1),ftF (whV a.1 + whV b.1) || (whF a.1 a.2 || whF b.1 b.2))
def snT (y:Nb):Nat → Nb
 | 0 => y
 | k + 1 => nNeg (nDiv (nMul (nMul (snT y k) y) y) (nInt (2 * ((k:Int) + 1) * (2 * ((k:Int) + 1) + 1))))
def snS (y:Nb):Nat → Nb
 | 0 => y
 | k + 1 => nAdd (snS y k) (snT y (k + 1))
theorem nMul_rg {a b:Nb}:rg (nMul a b).1:=ftV_rg _
theorem nInt_rg {n:Int}:rg (nInt n).1:=ftV_rg _
theorem nDiv_rg {a b:Nb}:rg (nDiv a b).1:=raV_rg
theorem nNeg_rg {a:Nb} (h:inR a.1):rg (nNeg a).1:=by have:=whV_rg h; unfold nNeg rg at *; dsimp only; omega
theorem nAdd_rg {a b:Nb}:rg (nAdd a b).1:=ftV_rg _
theorem snT_in {y:Nb} (h:inR y.1):∀ k,inR (snT y k).1
 | 0 => h
 | k + 1 => rg_inR (nNeg_rg (rg_inR nDiv_rg))
theorem snS_in {y:Nb} (h:inR y.1):∀ k,inR (snS y k).1
 | 0 => h
 | k + 1 => rg_inR nAdd_rg
def qtV (y:Int):Int:=if (if 6746518852 < y then 13493037704 - y else y) < -6746518852 then -13493037704 - (if 6746518852 < y then 13493037704 - y else y) else (if 6746518852 < y then 13493037704 - y else y)
theorem wpV_le {v:Int}:-13493037704 ≤ wpV v ∧ wpV v ≤ 13493037704:=by
 have h1:=Int.tmod_lt_of_pos v (show (0:Int) < 26986075409 by decide)
 have h2:-26986075409 < v.tmod 26986075409:=by
  rcases Int.le_total 0 v with h | h
  ·have:=Int.tmod_nonneg 26986075409 h; omega
  ·have e:v.tmod 26986075409 = -((-v).tmod 26986075409):=by rw [Int.neg_tmod,Int.neg_neg]
   have:=Int.tmod_lt_of_pos (-v) (show (0:Int) < 26986075409 by decide)
   omega
 unfold wpV
 split
 ·omega
 ·split <;> omega
def snY (v:Int) (f:Bool):Nb:=(qtV (wpV (whV v)),whF v f)
def snV (v:Int) (f:Bool):Int:=max (-4294967296) (min (whV (snS (snY v f) 8).1) 4294967296)
def snF (v:Int) (f:Bool):Bool:=whF (snS (snY v f) 8).1 (snS (snY v f) 8).2
def c127:Con
 | [.agg [.v (.int .i64 v),.v (.bool f)]] => some ([inR v],.agg [i64 (snV v f),bo (snF v f)])
 | _ => none
theorem con127:ConOK prog 127 c127:=ConOK.of (G:=[(183,c183),(185,c185),(33,c33),(150,c150),(184,c184),(182,c182),(186,c186)]) (H:=[(6,⟨[(4,.made 2),(5,.made 3)],[(1,[.made 2])]⟩),(10,⟨[(14,.slot 4)],[]⟩)]) (.cons con183 (.cons con185 (.cons con33 (.cons con150 (.cons con184 (.cons con182 (.cons con186 .nil))))))) func127 fun l ob r hc hob => by
 unfold c127 at hc
 split at hc
 ·rename_i v f
  cases hc
  have h_0:=ob0 hob
  refine ⟨by kernel_rfl,fnVC_go (rs:=[.cell 2 27]) rfl rfl ?_⟩
  simp only [go_sem,c183]
  intro z hz z1 hz1
  have hw:=wpV_le (v:=whV v)
  rw [← hz] at hw
  obtain ⟨y,hy⟩:∃ y:Nb,y = snY v f:=⟨_,rfl⟩
  have y2:z1 = y.2:=by rw [hy]; exact hz1
  have yq:y.1 = qtV z:=by rw [hy,hz]; rfl
  have yi:inR y.1:=by rw [yq]; unfold qtV inR; (repeat' split) <;> omega
  have ev:snV v f = max (-4294967296) (min (whV (snS y 8).1) 4294967296):=by rw [hy]; rfl
  have ef:snF v f = whF (snS y 8).1 (snS y 8).2:=by rw [hy]; rfl
  rw [ev,ef]
  clear ev ef hy hz hz1
  refine ⟨h_0,fun h z2 hz2 => ⟨fun h2 => ?_,fun h2 => ?_⟩,fun h => ⟨fun h2 z3 hz3 => ?_,fun h2 => ?_⟩⟩
  ·exfalso
   rw [hz2,wrap_in (inRo (by omega))] at h2; omega
  ·have e:z2 = y.1:=by rw [hz2,wrap_in (inRo (by omega)),yq]; unfold qtV; rw [if_pos h,if_neg (by omega)]
   subst e
   subst y2
   refine loopC_go (fun (k:Nat) => k ≤ 8) (fun k => 8 - k) (fun k => [(6,i64 ((k:Int) + 1))]) (fun k => [(20,fam1 27 2 [i64 (snS y k).1,bo (snS y k).2] none),(19,fam1 27 2 [i64 (snT y k).1,bo (snT y k).2] none)]) [4,1,0] [25,26,29,30,31,32,33,34,35,36,37,38,39,40,41,42,43,44,45,27,28,6] 0 (by kernel_rfl) ?_ (Nat.zero_le _) ?_ ?_
   ·intro x _; simp [goodNames,asg]
   ·simp only [go_sem,snT,snS]
   intro k hk
   simp only [go_sem,c185,c33,c150,c184,c182,c186]
   refine ⟨fun hk8 => ?_,fun hk8 => ?_⟩
   ·have n1:0 ≤ 2 * ((k:Int) + 1) * (2 * ((k:Int) + 1) + 1):=Int.mul_nonneg (by omega) (by omega)
    have n2:2 * ((k:Int) + 1) * (2 * ((k:Int) + 1) + 1) ≤ 16 * 17:=Int.mul_le_mul (by omega) (by omega) (by omega) (by omega)
    have w1:IntKind.i64.wrap (2 * ((k:Int) + 1)) = 2 * ((k:Int) + 1):=wrap_in (inRo (by omega))
    have w2:IntKind.i64.wrap (2 * ((k:Int) + 1) + 1) = 2 * ((k:Int) + 1) + 1:=wrap_in (inRo (by omega))
    have w3:IntKind.i64.wrap (2 * ((k:Int) + 1) * (2 * ((k:Int) + 1) + 1)) = 2 * ((k:Int) + 1) * (2 * ((k:Int) + 1) + 1):=wrap_in (inRo (by omega))
    have w4:IntKind.i64.wrap ((k:Int) + 1 + 1) = ((k + 1:Nat):Int) + 1:=by rw [wrap_in (inRo (by omega))]; rfl
    simp only [forall_eq,w1,w2,w3,w4]
    exact ⟨snT_in yi k,yi,rg_inR (ftV_rg _),yi,inRo (by omega),rg_inR (ftV_rg _),rg_inR (ftV_rg _),rg_inR raV_rg,snS_in yi k,rg_inR (nNeg_rg (a:=nDiv (nMul (nMul (snT y k) y) y) (nInt (2 * ((k:Int) + 1) * (2 * ((k:Int) + 1) + 1)))) (rg_inR nDiv_rg)),k + 1,by omega,by omega,rfl,⟨rfl,rfl⟩,rfl,rfl⟩
   ·have e8:k = 8:=by omega
    subst e8
    have c1:whV (-4294967296) = -4294967296:=by decide
    have c2:whV 4294967296 = 4294967296:=by decide
    have c3:whF (-4294967296) false = false:=by decide
    have c4:whF 4294967296 false = false:=by decide
    simp only [forall_eq,c1,c2,c3,c4,Bool.false_or,Bool.or_false]
    exact ⟨snS_in yi 8,inRo (by omega),inRo (by omega),trivial⟩
  ·have e:z3 = y.1:=by rw [hz3,wrap_in (inRo (by omega)),yq]; unfold qtV; rw [if_neg h,if_pos h2]
   subst e
   subst y2
   refine loopC_go (fun (k:Nat) => k ≤ 8) (fun k => 8 - k) (fun k => [(6,i64 ((k:Int) + 1))]) (fun k => [(20,fam1 27 2 [i64 (snS y k).1,bo (snS y k).2] none),(19,fam1 27 2 [i64 (snT y k).1,bo (snT y k).2] none)]) [4,1,0] [25,26,29,30,31,32,33,34,35,36,37,38,39,40,41,42,43,44,45,27,28,6] 0 (by kernel_rfl) ?_ (Nat.zero_le _) ?_ ?_
   ·intro x _; simp [goodNames,asg]
   ·simp only [go_sem,snT,snS]
   intro k hk
   simp only [go_sem,c185,c33,c150,c184,c182,c186]
   refine ⟨fun hk8 => ?_,fun hk8 => ?_⟩
   ·have n1:0 ≤ 2 * ((k:Int) + 1) * (2 * ((k:Int) + 1) + 1):=Int.mul_nonneg (by omega) (by omega)
    have n2:2 * ((k:Int) + 1) * (2 * ((k:Int) + 1) + 1) ≤ 16 * 17:=Int.mul_le_mul (by omega) (by omega) (by omega) (by omega)
    have w1:IntKind.i64.wrap (2 * ((k:Int) + 1)) = 2 * ((k:Int) + 1):=wrap_in (inRo (by omega))
    have w2:IntKind.i64.wrap (2 * ((k:Int) + 1) + 1) = 2 * ((k:Int) + 1) + 1:=wrap_in (inRo (by omega))
    have w3:IntKind.i64.wrap (2 * ((k:Int) + 1) * (2 * ((k:Int) + 1) + 1)) = 2 * ((k:Int) + 1) * (2 * ((k:Int) + 1) + 1):=wrap_in (inRo (by omega))
    have w4:IntKind.i64.wrap ((k:Int) + 1 + 1) = ((k + 1:Nat):Int) + 1:=by rw [wrap_in (inRo (by omega))]; rfl
    simp only [forall_eq,w1,w2,w3,w4]
    exact ⟨snT_in yi k,yi,rg_inR (ftV_rg _),yi,inRo (by omega),rg_inR (ftV_rg _),rg_inR (ftV_rg _),rg_inR raV_rg,snS_in yi k,rg_inR (nNeg_rg (a:=nDiv (nMul (nMul (snT y k) y) y) (nInt (2 * ((k:Int) + 1) * (2 * ((k:Int) + 1) + 1)))) (rg_inR nDiv_rg)),k + 1,by omega,by omega,rfl,⟨rfl,rfl⟩,rfl,rfl⟩
   ·have e8:k = 8:=by omega
    subst e8
    have c1:whV (-4294967296) = -4294967296:=by decide
    have c2:whV 4294967296 = 4294967296:=by decide
    have c3:whF (-4294967296) false = false:=by decide
    have c4:whF 4294967296 false = false:=by decide
    simp only [forall_eq,c1,c2,c3,c4,Bool.false_or,Bool.or_false]
    exact ⟨snS_in yi 8,inRo (by omega),inRo (by omega),trivial⟩
  ·have e:z = y.1:=by rw [yq]; unfold qtV; rw [if_neg h,if_neg h2]
   subst e
   subst y2
   refine loopC_go (fun (k:Nat) => k ≤ 8) (fun k => 8 - k) (fun k => [(6,i64 ((k:Int) + 1))]) (fun k => [(15,fam1 27 2 [i64 (snS y k).1,bo (snS y k).2] none),(14,fam1 27 2 [i64 (snT y k).1,bo (snT y k).2] none)]) [4,1,0] [25,26,29,30,31,32,33,34,35,36,37,38,39,40,41,42,43,44,45,27,28,6] 0 (by kernel_rfl) ?_ (Nat.zero_le _) ?_ ?_
   ·intro x _; simp [goodNames,asg]
   ·simp only [go_sem,snT,snS]
   intro k hk
   simp only [go_sem,c185,c33,c150,c184,c182,c186]
   refine ⟨fun hk8 => ?_,fun hk8 => ?_⟩
   ·have n1:0 ≤ 2 * ((k:Int) + 1) * (2 * ((k:Int) + 1) + 1):=Int.mul_nonneg (by omega) (by omega)
    have n2:2 * ((k:Int) + 1) * (2 * ((k:Int) + 1) + 1) ≤ 16 * 17:=Int.mul_le_mul (by omega) (by omega) (by omega) (by omega)
    have w1:IntKind.i64.wrap (2 * ((k:Int) + 1)) = 2 * ((k:Int) + 1):=wrap_in (inRo (by omega))
    have w2:IntKind.i64.wrap (2 * ((k:Int) + 1) + 1) = 2 * ((k:Int) + 1) + 1:=wrap_in (inRo (by omega))
    have w3:IntKind.i64.wrap (2 * ((k:Int) + 1) * (2 * ((k:Int) + 1) + 1)) = 2 * ((k:Int) + 1) * (2 * ((k:Int) + 1) + 1):=wrap_in (inRo (by omega))
    have w4:IntKind.i64.wrap ((k:Int) + 1 + 1) = ((k + 1:Nat):Int) + 1:=by rw [wrap_in (inRo (by omega))]; rfl
    simp only [forall_eq,w1,w2,w3,w4]
    exact ⟨snT_in yi k,yi,rg_inR (ftV_rg _),yi,inRo (by omega),rg_inR (ftV_rg _),rg_inR (ftV_rg _),rg_inR raV_rg,snS_in yi k,rg_inR (nNeg_rg (a:=nDiv (nMul (nMul (snT y k) y) y) (nInt (2 * ((k:Int) + 1) * (2 * ((k:Int) + 1) + 1)))) (rg_inR nDiv_rg)),k + 1,by omega,by omega,rfl,⟨rfl,rfl⟩,rfl,rfl⟩
   ·have e8:k = 8:=by omega
    subst e8
    have c1:whV (-4294967296) = -4294967296:=by decide
    have c2:whV 4294967296 = 4294967296:=by decide
    have c3:whF (-4294967296) false = false:=by decide
    have c4:whF 4294967296 false = false:=by decide
    simp only [forall_eq,c1,c2,c3,c4,Bool.false_or,Bool.or_false]
    exact ⟨snS_in yi 8,inRo (by omega),inRo (by omega),trivial⟩
 ·cases hc
theorem snV_rg {v:Int} {f:Bool}:rg (snV v f):=by unfold snV rg; omega
def csV (v:Int) (f:Bool):Int:=snV (nAdd (wpV (whV v),whF v f) (6746518852,false)).1 (nAdd (wpV (whV v),whF v f) (6746518852,false)).2
def csF (v:Int) (f:Bool):Bool:=snF (nAdd (wpV (whV v),whF v f) (6746518852,false)).1 (nAdd (wpV (whV v),whF v f) (6746518852,false)).2
def c126:Con
 | [.agg [.v (.int .i64 v),.v (.bool f)]] => some ([inR v],.agg [i64 (csV v f),bo (csF v f)])
 | _ => none
theorem con126:ConOK prog 126 c126:=ConOK.of (G:=[(183,c183),(182,c182),(127,c127)]) (H:=[]) (.cons con183 (.cons con182 (.cons con127 .nil))) func126 fun l ob r hc hob => by
 unfold c126 at hc
 split at hc
 ·rename_i v f
  cases hc
  have h_0:=ob0 hob
  refine ⟨by kernel_rfl,fnVC_go (rs:=[.cell 2 27]) rfl rfl ?_⟩
  simp only [go_sem,c183,c182,c127]
  simp only [forall_eq]
  have hw:=wpV_le (v:=whV v)
  exact ⟨h_0,inRo (by omega),inRo (by omega),rg_inR (ftV_rg _),rfl⟩
 ·cases hc
end Go.Ax
end
section
set_option maxHeartbeats 1000000
set_option maxRecDepth 100000
namespace Go.Ax
open Go.Proofs Go.Proofs.Tryz
theorem okX_iff {x:Int}:okX x = true ↔ -2097152 ≤ x ∧ x ≤ 2097152:=by unfold okX; simp
theorem validS_iff {x y:Int}:validS x y = true ↔ -2097152 ≤ x ∧ x ≤ 2097152 ∧ -2097152 ≤ y ∧ y ≤ 2097152:=by
 unfold validS; rw [Bool.and_eq_true,okX_iff,okX_iff]; omega
theorem false_of {b:Bool} (h:¬ b = true):false = b:=by cases b <;> simp_all
def c210:Con
 | [.agg [.v (.int .i64 x),.v (.int .i64 y)]] => some ([],bo (validS x y))
 | _ => none
theorem con210:ConOK prog 210 c210:=ConOK.of (G:=[]) (H:=[]) .nil func210 fun l ob r hc hob => by
 unfold c210 at hc
 split at hc
 ·rename_i x y
  cases hc
  refine ⟨by kernel_rfl,fnVC_go (rs:=[.tmp 2]) rfl rfl ?_⟩
  simp only [go_sem]
  unfold validS okX
  rw [Bool.eq_iff_iff]
  simp
  omega
 ·cases hc
def checkBoxS (a b c d:Int):Int:=if validS a b = true ∧ validS c d = true then (if c < a ∨ d < b then 5 else 0) else 3
def c211:Con
 | [.agg [.v (.int .i64 a),.v (.int .i64 b),.v (.int .i64 c),.v (.int .i64 d)]] => some ([],i64 (checkBoxS a b c d))
 | _ => none
theorem con211:ConOK prog 211 c211:=ConOK.of (G:=[(210,c210)]) (H:=[]) (.cons con210 .nil) func211 fun l ob r hc hob => by
 unfold c211 at hc
 split at hc
 ·rename_i a b c d
  cases hc
  refine ⟨by kernel_rfl,fnVC_go (rs:=[.tmp 2]) rfl rfl ?_⟩
  simp only [go_sem,c210]
  intro z hz z1 hz1
  subst hz hz1
  unfold checkBoxS
  refine ⟨fun h => ?_,fun h => ⟨fun h2 => ?_,fun h2 => ?_⟩⟩
  ·rw [if_neg (by rintro ⟨h1,h2⟩; rcases h with h | h <;> simp_all)]
  ·rw [if_pos h,if_pos h2]
  ·rw [if_pos h,if_neg (by omega)]
 ·cases hc
def c273:Con
 | [.agg [.v (.int .i64 x),.v (.int .i64 y)],.v (.int .i64 r)] => some ([],.agg [i64 (IntKind.i64.wrap (x - r)),i64 (IntKind.i64.wrap (y - r)),i64 (IntKind.i64.wrap (x + r)),i64 (IntKind.i64.wrap (y + r))])
 | _ => none
def boxes (n:Nat) (g:Nat → List AV):Prop:=∀ i,i < n → g i = [i64 (gx g 0 i),i64 (gx g 1 i),i64 (gx g 2 i),i64 (gx g 3 i)] ∧ inR (gx g 0 i) ∧ inR (gx g 1 i) ∧ inR (gx g 2 i) ∧ inR (gx g 3 i)
def mnS (A:Nat → Int):Nat → Int
 | 0 => 0
 | i + 1 => if i = 0 then A 0 else min (mnS A i) (A i)
def mxS (A:Nat → Int):Nat → Int
 | 0 => 0
 | i + 1 => if i = 0 then A 0 else max (mxS A i) (A i)
def okB (n:Nat) (A B C D:Nat → Int):Prop:=∀ i,i < n → checkBoxS (A i) (B i) (C i) (D i) = 0
instance {n:Nat} {A B C D:Nat → Int}:Decidable (okB n A B C D):=by unfold okB; exact inferInstance
def joinS (n:Nat) (A B C D:Nat → Int) (k:Nat):Int:=if okB n A B C D then (match k with
 | 0 => mnS A n
 | 1 => mnS B n
 | 2 => mxS C n
 | _ => mxS D n) else 0
def modS (n m:Int):Int:=if n.tmod m < 0 then n.tmod m + m else n.tmod m
def c26:Con
 | [.v (.int .i64 n),.v (.int .i64 m)] => some ([0 < m,inR n,inR m],i64 (modS n m))
 | _ => none
theorem con26:ConOK prog 26 c26:=ConOK.of (G:=[]) (H:=[]) .nil func26 fun l ob r hc hob => by
 unfold c26 at hc
 split at hc
 ·rename_i n m
  cases hc
  refine ⟨by kernel_rfl,fnVC_go (rs:=[.tmp 4]) rfl rfl ?_⟩
  have h0:0 < m:=hob _ (by simp)
  have h1:inR n:=hob _ (by simp)
  have h2:inR m:=hob _ (by simp)
  simp only [go_sem]
  refine ⟨by omega,fun z hz => ⟨fun hn z1 k1 => ?_,fun hn => ?_⟩⟩
  ·have hb:-m < z:=by rw [hz]; have:=Int.lt_tmod_of_pos n h0; omega
   unfold inR at h2
   rw [wrap_in (inRo (by omega))] at k1
   unfold modS
   rw [← hz,if_pos hn,k1]
  ·unfold modS
   rw [← hz,if_neg hn]
 ·cases hc
theorem mul_bd {x y A B:Int} (hA:0 ≤ A) (hx:-A ≤ x ∧ x ≤ A) (hy:-B ≤ y ∧ y ≤ B):-(A * B) ≤ x * y ∧ x * y ≤ A * B:=by
 have h1:(x * y).natAbs = x.natAbs * y.natAbs:=Int.natAbs_mul x y
 have h2:x.natAbs * y.natAbs ≤ A.natAbs * B.natAbs:=Nat.mul_le_mul (by omega) (by omega)
 have h3:(A * B).natAbs = A.natAbs * B.natAbs:=Int.natAbs_mul A B
 have h4:0 ≤ A * B:=Int.mul_nonneg hA (by omega)
 omega
def sm (x:Int):Prop:=-4194304 ≤ x ∧ x ≤ 4194304
theorem sm_mul {x y:Int} (hx:sm x) (hy:sm y):-17592186044416 ≤ x * y ∧ x * y ≤ 17592186044416:=by
 have:=mul_bd (A:=4194304) (B:=4194304) (by omega) hx hy
 omega
def c214:Con
 | [.agg [.v (.int .i64 a),.v (.int .i64 b)],.agg [.v (.int .i64 c),.v (.int .i64 d)]] => some ([],.agg [i64 (IntKind.i64.wrap (a - c)),i64 (IntKind.i64.wrap (b - d))])
 | _ => none
theorem con214:ConOK prog 214 c214:=ConOK.of (G:=[]) (H:=[]) .nil func214 fun l ob r hc hob => by
 unfold c214 at hc
 split at hc
 ·cases hc
  refine ⟨by kernel_rfl,fnVC_go (rs:=[.cell 4 116]) rfl rfl ?_⟩
  simp only [go_sem]
  intro z h z1 h1
  subst h h1
  rfl
 ·cases hc
def c258:Con
 | [.agg [.v (.int .i64 a),.v (.int .i64 b)],.agg [.v (.int .i64 c),.v (.int .i64 d)]] => some ([],i64 (IntKind.i64.wrap (IntKind.i64.wrap (a * d) - IntKind.i64.wrap (b * c))))
 | _ => none
theorem con263:ConOK prog 263 c258:=ConOK.of (G:=[]) (H:=[]) .nil func263 fun l ob r hc hob => by
 unfold c258 at hc
 split at hc
 ·cases hc
  refine ⟨by kernel_rfl,fnVC_go (rs:=[.tmp 4]) rfl rfl ?_⟩
  simp only [go_sem]
  intro z h z1 h1 z2 h2
  rw [h2,h1,h]
 ·cases hc
def turnS (ax ay bx byy cx cy:Int):Int:=(bx - ax) * (cy - ay) - (byy - ay) * (cx - ax)
theorem turn_wrap {ax ay bx byy cx cy:Int} (ha:validS ax ay = true) (hb:validS bx byy = true) (hc:validS cx cy = true) :
  IntKind.i64.wrap (IntKind.i64.wrap (IntKind.i64.wrap (bx - ax) * IntKind.i64.wrap (cy - ay)) - IntKind.i64.wrap (IntKind.i64.wrap (byy - ay) * IntKind.i64.wrap (cx - ax))) = turnS ax ay bx byy cx cy:=by
 rw [validS_iff] at ha hb hc
 rw [wrap_in (x:=bx - ax) (inRo (by omega)),wrap_in (x:=cy - ay) (inRo (by omega)),wrap_in (x:=byy - ay) (inRo (by omega)),wrap_in (x:=cx - ax) (inRo (by omega))]
 have h1:=sm_mul (x:=bx - ax) (y:=cy - ay) (by unfold sm; omega) (by unfold sm; omega)
 have h2:=sm_mul (x:=byy - ay) (y:=cx - ax) (by unfold sm; omega) (by unfold sm; omega)
 rw [wrap_in (x:=(bx - ax) * (cy - ay)) (inRo (by omega)),wrap_in (x:=(byy - ay) * (cx - ax)) (inRo (by omega)),wrap_in (inRo (by omega))]
 rfl
def sideS (a b c d e f:Int):Int:=if validS a b = true ∧ validS c d = true ∧ validS e f = true then (if 0 < turnS a b c d e f then 1 else if turnS a b c d e f < 0 then -1 else 0) else 0
end Go.Ax
end