/-
  Words: lengths, quotients, roots.
-/
import Derived.Test.YtempjfjppjfciaaGreatCM3
set_option linter.unusedVariables false
set_option linter.unusedSimpArgs false
section
set_option maxHeartbeats 4000000
set_option maxRecDepth 100000
namespace Go.Ax
open Go.Proofs
theorem digit_low {y a b u v q r B:Nat} (hy:y = a * B + b) (hu:u * B + v < y * B) (hq:q * a + r = u) (ht:(u * B + v) / y ≤ q) (hv:v < B) (hb:b < B) (ha:0 < a)
  (hc:B ≤ q ∨ B * r + v < q * b):(u * B + v) / y + 1 ≤ q:=by
 have hyp:0 < y:=by
  rw [hy]; have:=Nat.mul_pos ha (show 0 < B by omega); omega
 rcases hc with hc | hc
 ·have:(u * B + v) / y < B:=Nat.div_lt_of_lt_mul hu
  omega
 ·have h1:u * B + v < q * y:=by
   rw [hy,← hq,Nat.add_mul,Nat.mul_add]
   have e1:q * (a * B) = q * a * B:=by rw [Nat.mul_assoc]
   have e2:r * B = B * r:=Nat.mul_comm _ _
   omega
  have h2:=Nat.div_lt_of_lt_mul (by rw [Nat.mul_comm]; exact h1)
  omega
theorem digit_done {y a b u v q r B:Nat} (hy:y = a * B + b) (hq:q * a + r = u) (ht:(u * B + v) / y ≤ q) (hyp:0 < y)
  (hc:q * b ≤ B * r + v):(u * B + v) / y = q:=by
 have h1:q * y ≤ u * B + v:=by
  rw [hy,← hq,Nat.add_mul,Nat.mul_add]
  have e1:q * (a * B) = q * a * B:=by rw [Nat.mul_assoc]
  have e2:r * B = B * r:=Nat.mul_comm _ _
  omega
 have h2:q ≤ (u * B + v) / y:=(Nat.le_div_iff_mul_le hyp).2 h1
 omega
theorem digit_break {y a b u v q r B:Nat} (hy:y = a * B + b) (hu:u * B + v < y * B) (hq:q * a + r = u) (ht:(u * B + v) / y ≤ q) (hv:v < B) (hb:b < B) (ha:0 < a) (hB:0 < B)
  (hr:B ≤ r):(u * B + v) / y = q:=by
 have hyp:0 < y:=by
  rw [hy]; have:=Nat.mul_pos ha hB; omega
 have hqB:q < B:=by
  refine Nat.lt_of_not_le fun hc => ?_
  have h1:B * a ≤ q * a:=Nat.mul_le_mul_right a hc
  have h2:(a * B + B) ≤ u:=by rw [Nat.mul_comm a B]; omega
  have h3:u < y:=by
   have:u * B < y * B:=by omega
   exact Nat.lt_of_mul_lt_mul_right this
  omega
 refine digit_done hy hq ht hyp ?_
 have h4:q * b ≤ B * B:=Nat.mul_le_mul (by omega) (by omega)
 have h5:B * B ≤ B * r:=Nat.mul_le_mul_left B hr
 omega
theorem digit_high {y a b u v B:Nat} (hy:y = a * B + b) (hv:v < B) (ha:0 < a) (hB:0 < B):(u * B + v) / y ≤ u / a:=by
 have hyp:0 < y:=by
  rw [hy]; have:=Nat.mul_pos ha hB; omega
 rw [Nat.le_div_iff_mul_le ha]
 have h1:(u * B + v) / y * y ≤ u * B + v:=Nat.div_mul_le_self _ _
 generalize (u * B + v) / y = k at *
 have h2:k * (a * B) ≤ k * y:=Nat.mul_le_mul_left k (by omega)
 have h3:k * a * B < (u + 1) * B:=by
  rw [Nat.mul_assoc,Nat.add_mul]; omega
 have:=Nat.lt_of_mul_lt_mul_right h3
 omega
theorem digits {y u v w B:Nat} (hy:0 < y):((u * B + v) * B + w) / y = (u * B + v) / y * B + ((u * B + v) % y * B + w) / y ∧ ((u * B + v) * B + w) % y = ((u * B + v) % y * B + w) % y:=by
 have e:(u * B + v) * B + w = y * ((u * B + v) / y * B) + ((u * B + v) % y * B + w):=by
  have:=Nat.div_add_mod (u * B + v) y
  conv => lhs; rw [← this]
  rw [Nat.add_mul,Nat.mul_assoc]; omega
 rw [e,Nat.mul_add_div hy,Nat.mul_add_mod]
 exact ⟨rfl,rfl⟩
theorem shifted {n y p:Nat} (hp:0 < p):n * p / (y * p) = n / y ∧ n * p % (y * p) = n % y * p:=⟨Nat.mul_div_mul_right _ _ hp,Nat.mul_mod_mul_right _ _ _⟩
abbrev blen (x:Int):Nat:=Lib.bitLen x.toNat
theorem lenAux_ok:∀ (f x:Nat),x < 2 ^ f → x < 2 ^ Lib.bitLenAux f x ∧ (x ≠ 0 → 0 < Lib.bitLenAux f x ∧ 2 ^ (Lib.bitLenAux f x - 1) ≤ x) ∧ Lib.bitLenAux f x ≤ f
 | 0,x,h => by
  have:x = 0:=by simpa using h
  subst this
  exact ⟨by simp [Lib.bitLenAux],fun h => absurd rfl h,by simp [Lib.bitLenAux]⟩
 | f + 1,x,h => by
  unfold Lib.bitLenAux
  by_cases h0:x = 0
  ·subst h0; simp
  ·rw [if_neg h0]
   obtain ⟨k1,k2,k3⟩:=lenAux_ok f (x / 2) (by rw [Nat.pow_succ] at h; omega)
   refine ⟨by rw [Nat.add_comm,Nat.pow_succ]; omega,fun _ => ⟨by omega,?_⟩,by omega⟩
   by_cases h1:x / 2 = 0
   ·have h2:x = 1:=by omega
    subst h2
    have:Lib.bitLenAux f (1 / 2) = 0:=by cases f <;> simp [Lib.bitLenAux]
    rw [this]; simp
   ·obtain ⟨j1,j2⟩:=k2 h1
    have e:1 + Lib.bitLenAux f (x / 2) - 1 = (Lib.bitLenAux f (x / 2) - 1) + 1:=by omega
    rw [e,Nat.pow_succ]; omega
theorem blen_ok {x:Int} (h:inU x):x.toNat < 2 ^ blen x ∧ (x ≠ 0 → 0 < blen x ∧ 2 ^ (blen x - 1) ≤ x.toNat) ∧ blen x ≤ 64:=by
 unfold inU at h
 have:=lenAux_ok 64 x.toNat (by have:(2:Nat) ^ 64 = 18446744073709551616:=by decide
                                omega)
 exact ⟨this.1,fun h0 => this.2.1 (by omega),this.2.2⟩
def c245:Con
 | [.v (.int .u64 x)] => some ([inU x],i64 (blen x))
 | _ => none
theorem con245:ConOK Tryz.prog 245 c245:=fun es ob r hc hob => by
 unfold c245 at hc
 split at hc
 ·rename_i x
  cases hc
  have hx:inU x:=hob _ (by simp)
  intro I w vs hI hR
  obtain ⟨v1,xs,rfl,h1,hR⟩:=hR.inv
  cases R_v h1
  have:xs = []:=by have:=hR.1; simpa using this
  subst this
  refine .inr ⟨callFunc_enter Tryz.func245 (by kernel_rfl) rfl _ _,?_⟩
  refine (Tryz.len64 x w hx.1 (by unfold inU at hx; omega)).mono fun e w' h => ?_
  obtain ⟨he,rfl⟩:=h
  exact ⟨_,he,.v,RowKit.Below.refl _ _⟩
 ·cases hc
def c167:Con
 | [.v (.int .u64 x)] => some ([inU x],i64 (64 - blen x))
 | _ => none
theorem con167:ConOK Tryz.prog 167 c167:=ConOK.of (G:=[(245,c245)]) (H:=[]) (.cons con245 .nil) Tryz.func167 fun l ob r hc hob => by
 unfold c167 at hc
 split at hc
 ·rename_i x
  cases hc
  have h_0:inU x:=hob _ (by simp)
  refine ⟨by kernel_rfl,fnVC_go (rs:=[.tmp 2]) rfl rfl ?_⟩
  simp only [go_sem,c245]
  intro z hz
  refine ⟨h_0,fun z1 hz1 => ?_⟩
  have:=(blen_ok h_0).2.2
  rw [hz1,hz,wrap_in (by unfold inR; omega)]
 ·cases hc
theorem digit_bound {w Y B x:Nat} (hw:w < Y) (hx:x < B):w * B + x < Y * B:=by
 have:=Nat.mul_le_mul_right B (show w + 1 ≤ Y from hw)
 rw [Nat.add_mul] at this
 omega
theorem rem_bound {n y p Y K:Nat} (hy:0 < y) (hp:0 < p) (hY:Y = y * p) (h:Y < K):n % y * p < K:=by
 have:=Nat.mul_lt_mul_of_pos_right (Nat.mod_lt n hy) hp
 omega
theorem fin_quo {p q n:Nat} (h:n = p * 4294967296 + q) (hn:n < 18446744073709551616):IntKind.u64.wrap (IntKind.u64.wrap ((p:Int) * 4294967296) + q) = n:=by
 rw [wrap_u64,wrap_u64]; omega
theorem fin_rem {w x g r:Nat} (h:g + r = w * 4294967296 + x) (hr:r < 18446744073709551616):IntKind.u64.wrap (IntKind.u64.wrap (IntKind.u64.wrap ((w:Int) * 4294967296) + x) - IntKind.u64.wrap (g:Int)) = r:=by
 rw [wrap_u64,wrap_u64,wrap_u64,wrap_u64]; omega
def c100:Con
 | [.v (.int .u64 h),.v (.int .u64 l),.v (.int .u64 y)] => some ([inU h,inU l,inU y,h < y],.tup [u64 (jn h l / y),u64 (jn h l % y)])
 | _ => none
theorem con100:ConOK Tryz.prog 100 c100:=ConOK.of (G:=[(167,c167)]) (H:=[]) (.cons con167 .nil) Tryz.func100 fun l ob r hc hob => by
 unfold c100 at hc
 split at hc
 ·rename_i h l y
  cases hc
  have hh:inU h:=hob _ (by simp)
  have hl:inU l:=hob _ (by simp)
  have hy:inU y:=hob _ (by simp)
  have hlt:h < y:=hob _ (by simp)
  refine ⟨by kernel_rfl,fnVC_go (rs:=[.tmp 6,.tmp 7]) rfl rfl ?_⟩
  simp only [go_sem,c167]
  refine ⟨fun hc => absurd (show y = 0 by simpa using hc) (by unfold inU at *; omega),fun hc => ⟨fun hc1 => absurd hc1 (by omega),fun hc1 => ⟨fun h2 => ?_,fun h2 => ?_⟩⟩⟩
  ·have hy0:¬ y = 0:=by simpa using hc
   have h2:h = 0:=by simpa using h2
   subst h2
   refine ⟨hy0,fun z hz => ⟨hy0,fun z1 hz1 => tup2 (u64_eq ?_) (u64_eq ?_)⟩⟩
   ·unfold inU at hl hy
    have hj:jn 0 l = l:=by unfold jn; omega
    rw [hj,hz,Int.tdiv_eq_ediv_of_nonneg hl.1]
    have k1:0 ≤ l / y:=Int.ediv_nonneg hl.1 hy.1
    have k2:l / y ≤ l:=Int.ediv_le_self _ hl.1
    exact wrap_u (by unfold inU; omega)
   ·unfold inU at hl hy
    have hj:jn 0 l = l:=by unfold jn; omega
    rw [hj,hz1,Int.tmod_eq_emod_of_nonneg hl.1]
  have hy0:¬ y = 0:=by simpa using hc
  obtain ⟨b1,b2,b3⟩:=blen_ok hy
  obtain ⟨b4,b5⟩:=b2 hy0
  obtain ⟨H,rfl⟩:∃ n:Nat,h = n:=⟨h.toNat,by unfold inU at hh; omega⟩
  obtain ⟨L,rfl⟩:∃ n:Nat,l = n:=⟨l.toNat,by unfold inU at hl; omega⟩
  obtain ⟨y,rfl⟩:∃ n:Nat,y = n:=⟨y.toNat,by unfold inU at hy; omega⟩
  have hH:H < 18446744073709551616:=by unfold inU at hh; omega
  have hL:L < 18446744073709551616:=by unfold inU at hl; omega
  have hyy:y < 18446744073709551616:=by unfold inU at hy; omega
  generalize hs:64 - blen (y:Int) = s at *
  have hs2:blen (y:Int) = 64 - s:=by omega
  have hs3:s < 64:=by omega
  rw [hs2] at b1 b5
  rw [Int.toNat_natCast] at b1 b5
  have p64:(2:Nat) ^ 64 = 18446744073709551616:=by decide
  have p63:(2:Nat) ^ 63 = 9223372036854775808:=by decide
  have pp:2 ^ (64 - s) * 2 ^ s = 18446744073709551616:=by rw [← Nat.pow_add,← p64]; congr 1; omega
  have pq:2 ^ (64 - s - 1) * 2 ^ s = 9223372036854775808:=by rw [← Nat.pow_add,← p63]; congr 1; omega
  have ps:0 < 2 ^ s:=Nat.two_pow_pos s
  obtain ⟨Y,hY⟩:∃ Y,Y = y * 2 ^ s:=⟨_,rfl⟩
  have Y1:Y < 18446744073709551616:=by rw [hY,← pp]; exact Nat.mul_lt_mul_of_pos_right b1 ps
  have Y2:9223372036854775808 ≤ Y:=by rw [hY,← pq]; exact Nat.mul_le_mul_right _ b5
  have hw:∀ n:Nat,n < 18446744073709551616 → IntKind.u64.wrap (n:Int) = n:=fun n hn => wrap_u (by unfold inU; omega)
  intro z hz
  refine ⟨hy,fun z1 hz1 => ?_⟩
  have e1:z1 = (s:Int):=by rw [hz1,hz,hs2,show (64:Int) - ((64 - s:Nat):Int) = (s:Int) by omega,hw _ (by omega)]
  have m1:min z1.toNat 64 = s:=by rw [e1]; omega
  have n1:¬ z1 < 0:=by rw [e1]; omega
  rw [m1]
  refine ⟨n1,fun z2 hz2 z3 hz3 z4 hz4 => ⟨n1,fun z5 hz5 z6 hz6 => ?_⟩⟩
  have cP:((2:Int) ^ s) = ((2 ^ s:Nat):Int):=by simp
  have e2:z2 = (Y:Int):=by rw [hz2,cP,← Int.natCast_mul,← hY,hw _ Y1]
  have e3:z3 = ((Y / 4294967296:Nat):Int):=by rw [hz3,e2]; omega
  have e4:z4 = ((Y % 4294967296:Nat):Int):=by rw [hz4,e2,andI_32 (by unfold inU; omega)]; omega
  have hHY:H * 2 ^ s < Y:=by rw [hY]; exact Nat.mul_lt_mul_of_pos_right (by omega) ps
  have e5:z5 = ((H * 2 ^ s:Nat):Int):=by rw [hz5,cP,← Int.natCast_mul,hw _ (by omega)]
  have e6:z6 = ((64 - s:Nat):Int):=by rw [hz6,e1,show (64:Int) - (s:Int) = ((64 - s:Nat):Int) by omega,hw _ (by omega)]
  have m6:min z6.toNat 64 = 64 - s:=by rw [e6]; omega
  rw [m6]
  refine ⟨by rw [e6]; omega,fun z7 hz7 z8 hz8 => ⟨n1,fun z9 hz9 z10 hz10 z11 hz11 => ?_⟩⟩
  have e7:z7 = ((L / 2 ^ (64 - s):Nat):Int):=by
   have c2:((2:Int) ^ (64 - s)) = ((2 ^ (64 - s):Nat):Int):=by simp
   rw [hz7,c2,Int.fdiv_eq_ediv_of_nonneg _ (by omega)]; rfl
  have l7:L / 2 ^ (64 - s) < 2 ^ s:=Nat.div_lt_of_lt_mul (by rw [pp]; exact hL)
  obtain ⟨u,hu⟩:∃ u,u = H * 2 ^ s + L / 2 ^ (64 - s):=⟨_,rfl⟩
  have u1:u < Y:=by
   have:(H + 1) * 2 ^ s ≤ Y:=by rw [hY]; exact Nat.mul_le_mul_right _ (by omega)
   rw [Nat.add_mul] at this
   omega
  have e8:z8 = (u:Int):=by
   rw [hz8,e5,e7]
   unfold orI
   rw [BitVec.toNat_or,toNat_u (by omega),toNat_u (by omega),Nat.mul_comm H,← Nat.two_pow_add_eq_or_of_lt l7,Nat.mul_comm (2 ^ s),← hu,hw _ (by omega)]
  obtain ⟨t,ht⟩:∃ t,t = L * 2 ^ s % 18446744073709551616:=⟨_,rfl⟩
  have e9:z9 = (t:Int):=by rw [hz9,cP,← Int.natCast_mul,wrap_u64,ht]; omega
  have t1:t < 18446744073709551616:=by rw [ht]; omega
  have e10:z10 = ((t / 4294967296:Nat):Int):=by rw [hz10,e9]; omega
  have e11:z11 = ((t % 4294967296:Nat):Int):=by rw [hz11,e9,andI_32 (by unfold inU; omega)]; omega
  have hN:(H * 18446744073709551616 + L) * 2 ^ s = u * 18446744073709551616 + t:=by
   have k1:L * 2 ^ s = L / 2 ^ (64 - s) * 18446744073709551616 + L % 2 ^ (64 - s) * 2 ^ s:=by
    have:=Nat.div_add_mod' L (2 ^ (64 - s))
    conv => lhs; rw [← this]
    rw [Nat.add_mul,Nat.mul_assoc,pp]
   have k2:L % 2 ^ (64 - s) * 2 ^ s < 18446744073709551616:=by
    rw [← pp]; exact Nat.mul_lt_mul_of_pos_right (Nat.mod_lt _ (Nat.two_pow_pos _)) ps
   rw [ht,hu,Nat.add_mul,Nat.add_mul,Nat.mul_right_comm]
   omega
  clear hz hz1 hz2 hz3 hz4 hz5 hz6 hz7 hz8 hz9 hz10 hz11 m1 m6 n1 e5 e6 e7
  subst e3 e4 e8 e10 e11 e2
  obtain ⟨a,ha⟩:∃ a,a = Y / 4294967296:=⟨_,rfl⟩
  obtain ⟨b,hb⟩:∃ b,b = Y % 4294967296:=⟨_,rfl⟩
  obtain ⟨v,hv⟩:∃ v,v = t / 4294967296:=⟨_,rfl⟩
  obtain ⟨x,hx⟩:∃ x,x = t % 4294967296:=⟨_,rfl⟩
  rw [← ha,← hb,← hv,← hx]
  have a1:2147483648 ≤ a ∧ a < 4294967296:=by omega
  have hYab:Y = a * 4294967296 + b:=by omega
  refine ⟨by omega,fun z12 hz12 z13 hz13 z14 hz14 => ?_⟩
  have hq0:u / a ≤ u:=Nat.div_le_self _ _
  have hqa:=Nat.div_mul_le_self u a
  have e12:z12 = ((u / a:Nat):Int):=by
   rw [hz12,Int.tdiv_eq_ediv_of_nonneg (by omega),← Int.natCast_ediv,hw _ (by omega)]
  have e13:z13 = ((u / a * a:Nat):Int):=by rw [hz13,e12,← Int.natCast_mul,hw _ (by omega)]
  have e14:z14 = ((u % a:Nat):Int):=by
   have:=Nat.div_add_mod' u a
   rw [hz14,e13,show ((u:Int) - ((u / a * a:Nat):Int)) = ((u % a:Nat):Int) by omega,hw _ (by have:=Nat.mod_lt u (show 0 < a by omega); omega)]
  subst e12 e13 e14
  have hu2:u * 4294967296 + v < Y * 4294967296:=by omega
  have f0:(u * 4294967296 + v) / Y ≤ u / a:=digit_high hYab (by omega) (by omega) (by omega)
  have hN2:(H * 18446744073709551616 + L) * 2 ^ s = (u * 4294967296 + v) * 4294967296 + x:=by rw [hN]; omega
  have hYp:0 < Y:=by omega
  have hxB:x < 4294967296:=by omega
  have hNd:(H * 18446744073709551616 + L) / y < 18446744073709551616:=Nat.div_lt_of_lt_mul (digit_bound (Int.ofNat_lt.1 hlt) hL)
  have hNm:(H * 18446744073709551616 + L) % y * 2 ^ s < 18446744073709551616:=rem_bound (Nat.pos_of_ne_zero fun h => hy0 (by rw [h]; rfl)) ps hY Y1
  have hJ:jn (H:Int) (L:Int) = ((H * 18446744073709551616 + L:Nat):Int):=by unfold jn; omega
  have F1:(H * 18446744073709551616 + L) / y = (u * 4294967296 + v) / Y * 4294967296 + ((u * 4294967296 + v) % Y * 4294967296 + x) / Y:=by
   rw [← (digits hYp).1,← hN2,hY,(shifted ps).1]
  have F2:(H * 18446744073709551616 + L) % y * 2 ^ s = ((u * 4294967296 + v) % Y * 4294967296 + x) % Y:=by
   rw [← (digits hYp).2,← hN2,hY,(shifted ps).2]
  obtain ⟨D1,hD1⟩:∃ D,D = (u * 4294967296 + v) / Y:=⟨_,rfl⟩
  rw [← hD1] at f0
  refine loopC_go (fun (p:Nat × Nat) => p.1 * a + p.2 = u ∧ D1 ≤ p.1 ∧ p.2 < 4294967296) (fun p => p.1) (fun p => [(15,u64 p.1),(16,u64 p.2)]) (fun _ => []) [] [67,68,69,70,71,72,73,74,75,76,77,78,79,80,15,81,82,83,16,84,85] (u / a,u % a) (by kernel_rfl) ?_ ⟨Nat.div_add_mod' u a,f0,by have:=Nat.mod_lt u (show 0 < a by omega); omega⟩ ?_ ?_
  ·intro x _; simp [goodNames]
  ·simp only [go_sem]
  intro p hp
  obtain ⟨q1,r⟩:=p
  obtain ⟨hq,hq2,hr⟩:=hp
  dsimp only at hq hq2 hr
  simp only [go_sem]
  intro z1 hz1 z2 hz2 z3 hz3
  have hqu:q1 ≤ u:=by
   have:=Nat.mul_le_mul_left q1 (show 1 ≤ a by omega)
   omega
  have hc:(4294967296 ≤ (q1:Int) ∨ z3 < z1) ↔ (4294967296 ≤ q1 ∨ 4294967296 * r + v < q1 * b):=by
   by_cases h:4294967296 ≤ q1
   ·exact ⟨fun _ => .inl h,fun _ => .inl (by omega)⟩
   ·have h5:q1 * b < 4294967296 * 4294967296:=Nat.mul_lt_mul'' (by omega) (by omega)
    have k1:z1 = ((q1 * b:Nat):Int):=by rw [hz1,← Int.natCast_mul,hw _ (by omega)]
    have k2:z2 = ((4294967296 * r:Nat):Int):=by rw [hz2,show (4294967296:Int) * (r:Int) = ((4294967296 * r:Nat):Int) by omega,hw _ (by omega)]
    have k3:z3 = ((4294967296 * r + v:Nat):Int):=by rw [hz3,k2,← Int.natCast_add,hw _ (by omega)]
    rw [k1,k3]
    omega
  clear hz1 hz2 hz3
  refine ⟨fun h z4 hz4 z5 hz5 => ?_,fun h => ?_⟩
  ·have h:=hc.1 h
   clear hc
   have hd:=digit_low hYab hu2 hq (hD1 ▸ hq2) (by omega) (by omega) (by omega) h
   rw [← hD1] at hd
   have k4:z4 = ((q1 - 1:Nat):Int):=by rw [hz4,show (q1:Int) - 1 = ((q1 - 1:Nat):Int) by omega,hw _ (by omega)]
   have k5:z5 = ((r + a:Nat):Int):=by rw [hz5,← Int.natCast_add,hw _ (by omega)]
   have hqn:(q1 - 1) * a + (r + a) = u:=by
    rw [Nat.sub_mul,Nat.one_mul]
    have:=Nat.mul_le_mul_right a (show 1 ≤ q1 by omega)
    omega
   clear hz4 hz5
   subst k4 k5
   refine ⟨fun h5 => ?_,fun h5 => ⟨(q1 - 1,r + a),⟨hqn,by dsimp only; omega,by dsimp only; omega⟩,by dsimp only; omega,rfl,rfl⟩⟩
   have hQ:=digit_break hYab hu2 hqn (by rw [← hD1]; omega) (by omega) (by omega) (by omega) (by omega) (by omega)
   generalize q1 - 1 = Q1 at hQ ⊢
   have hQd:=Nat.div_add_mod' (u * 4294967296 + v) Y
   rw [hQ] at hQd
   have hw1:=Nat.mod_lt (u * 4294967296 + v) (show 0 < Y by omega)
   rw [hQ] at F1
   obtain ⟨w,hwd⟩:∃ w,w = (u * 4294967296 + v) % Y:=⟨_,rfl⟩
   rw [← hwd] at hQd hw1 F1 F2
   clear hwd
   intro y1 hy1 y2 hy2 y3 hy3 y4 hy4
   have e4:y4 = (w:Int):=by
    rw [hy4,hy3,hy2,hy1,← Int.natCast_mul,fin_rem hQd (Nat.lt_trans hw1 Y1)]
   clear hy1 hy2 hy3 hy4
   subst e4
   refine ⟨by omega,fun y5 hy5 y6 hy6 y7 hy7 => ?_⟩
   have g5:y5 = ((w / a:Nat):Int):=by
    have:=Nat.div_le_self w a
    rw [hy5,Int.tdiv_eq_ediv_of_nonneg (by omega),← Int.natCast_ediv,hw _ (by omega)]
   have g6:y6 = ((w / a * a:Nat):Int):=by
    have:=Nat.div_mul_le_self w a
    rw [hy6,g5,← Int.natCast_mul,hw _ (by omega)]
   have g7:y7 = ((w % a:Nat):Int):=by
    have:=Nat.div_add_mod' w a
    rw [hy7,g6,show ((w:Int) - ((w / a * a:Nat):Int)) = ((w % a:Nat):Int) by omega,hw _ (by have:=Nat.mod_lt w (show 0 < a by omega); omega)]
   clear hy5 hy6 hy7
   subst g5 g6 g7
   have hw2:w * 4294967296 + x < Y * 4294967296:=digit_bound hw1 hxB
   have f2:(w * 4294967296 + x) / Y ≤ w / a:=digit_high hYab (by omega) (by omega) (by omega)
   obtain ⟨D2,hD2⟩:∃ D,D = (w * 4294967296 + x) / Y:=⟨_,rfl⟩
   rw [← hD2] at f2
   refine loopC_go (fun (p:Nat × Nat) => p.1 * a + p.2 = w ∧ D2 ≤ p.1 ∧ p.2 < 4294967296) (fun p => p.1) (fun p => [(18,u64 p.1),(16,u64 p.2)]) (fun _ => []) [] [102,103,104,105,106,107,108,109,110,111,112,113,114,115,18,116,117,118,16,119,120] (w / a,w % a) (by kernel_rfl) ?_ ⟨Nat.div_add_mod' w a,f2,by have:=Nat.mod_lt w (show 0 < a by omega); omega⟩ ?_ ?_
   ·intro x _; simp [goodNames]
   ·simp only [go_sem]
   intro p hp
   obtain ⟨q2,r⟩:=p
   obtain ⟨hq,hq2,hr⟩:=hp
   dsimp only at hq hq2 hr
   simp only [go_sem]
   intro z1 hz1 z2 hz2 z3 hz3
   have hqu:q2 ≤ w:=by
    have:=Nat.mul_le_mul_left q2 (show 1 ≤ a by omega)
    omega
   have hc:(4294967296 ≤ (q2:Int) ∨ z3 < z1) ↔ (4294967296 ≤ q2 ∨ 4294967296 * r + x < q2 * b):=by
    by_cases h:4294967296 ≤ q2
    ·exact ⟨fun _ => .inl h,fun _ => .inl (by omega)⟩
    ·have h5:q2 * b < 4294967296 * 4294967296:=Nat.mul_lt_mul'' (by omega) (by omega)
     have k1:z1 = ((q2 * b:Nat):Int):=by rw [hz1,← Int.natCast_mul,hw _ (by omega)]
     have k2:z2 = ((4294967296 * r:Nat):Int):=by rw [hz2,show (4294967296:Int) * (r:Int) = ((4294967296 * r:Nat):Int) by omega,hw _ (by omega)]
     have k3:z3 = ((4294967296 * r + x:Nat):Int):=by rw [hz3,k2,← Int.natCast_add,hw _ (by omega)]
     rw [k1,k3]
     omega
   clear hz1 hz2 hz3
   refine ⟨fun h z4 hz4 z5 hz5 => ?_,fun h => ?_⟩
   ·have h:=hc.1 h
    clear hc
    have hd:=digit_low hYab hw2 hq (hD2 ▸ hq2) (by omega) (by omega) (by omega) h
    rw [← hD2] at hd
    have k4:z4 = ((q2 - 1:Nat):Int):=by rw [hz4,show (q2:Int) - 1 = ((q2 - 1:Nat):Int) by omega,hw _ (by omega)]
    have k5:z5 = ((r + a:Nat):Int):=by rw [hz5,← Int.natCast_add,hw _ (by omega)]
    have hqn:(q2 - 1) * a + (r + a) = w:=by
     rw [Nat.sub_mul,Nat.one_mul]
     have:=Nat.mul_le_mul_right a (show 1 ≤ q2 by omega)
     omega
    clear hz4 hz5
    subst k4 k5
    refine ⟨fun h5 => ?_,fun h5 => ⟨(q2 - 1,r + a),⟨hqn,by dsimp only; omega,by dsimp only; omega⟩,by dsimp only; omega,rfl,rfl⟩⟩
    have hQ:=digit_break hYab hw2 hqn (by rw [← hD2]; omega) (by omega) (by omega) (by omega) (by omega) (by omega)
    generalize q2 - 1 = Q2 at hQ ⊢
    rw [hQ] at F1
    have hQe:=Nat.div_add_mod' (w * 4294967296 + x) Y
    rw [hQ,← F2] at hQe
    intro y1 hy1 y2 hy2 y3 hy3 y4 hy4 y5 hy5 y6 hy6
    refine ⟨by rw [e1]; exact Int.not_lt.2 (Int.natCast_nonneg s),fun y7 hy7 => ?_⟩
    rw [e1,Int.toNat_natCast,Nat.min_eq_left (Nat.le_of_lt hs3),cP,hy6,hy5,hy4,hy3,← Int.natCast_mul,fin_rem hQe hNm,Int.fdiv_eq_ediv_of_nonneg _ (Int.natCast_nonneg _),← Int.natCast_ediv,Nat.mul_div_cancel _ ps] at hy7
    rw [hy1,fin_quo F1 hNd] at hy2
    rw [hy2,hy7,hJ]
    exact tup2 rfl rfl
   ·have h:¬ (4294967296 ≤ q2 ∨ 4294967296 * r + x < q2 * b):=fun hh => not_or.2 h (hc.2 hh)
    clear hc
    have hQ:=digit_done (v:=x) hYab hq (hD2 ▸ hq2) (by omega) (by omega)
    generalize q2 = Q2 at hQ ⊢
    rw [hQ] at F1
    have hQe:=Nat.div_add_mod' (w * 4294967296 + x) Y
    rw [hQ,← F2] at hQe
    intro y1 hy1 y2 hy2 y3 hy3 y4 hy4 y5 hy5 y6 hy6
    refine ⟨by rw [e1]; exact Int.not_lt.2 (Int.natCast_nonneg s),fun y7 hy7 => ?_⟩
    rw [e1,Int.toNat_natCast,Nat.min_eq_left (Nat.le_of_lt hs3),cP,hy6,hy5,hy4,hy3,← Int.natCast_mul,fin_rem hQe hNm,Int.fdiv_eq_ediv_of_nonneg _ (Int.natCast_nonneg _),← Int.natCast_ediv,Nat.mul_div_cancel _ ps] at hy7
    rw [hy1,fin_quo F1 hNd] at hy2
    rw [hy2,hy7,hJ]
    exact tup2 rfl rfl
  ·have h:¬ (4294967296 ≤ q1 ∨ 4294967296 * r + v < q1 * b):=fun hh => not_or.2 h (hc.2 hh)
   clear hc
   have hQ:=digit_done (v:=v) hYab hq (hD1 ▸ hq2) (by omega) (by omega)
   generalize q1 = Q1 at hQ ⊢
   have hQd:=Nat.div_add_mod' (u * 4294967296 + v) Y
   rw [hQ] at hQd
   have hw1:=Nat.mod_lt (u * 4294967296 + v) (show 0 < Y by omega)
   rw [hQ] at F1
   obtain ⟨w,hwd⟩:∃ w,w = (u * 4294967296 + v) % Y:=⟨_,rfl⟩
   rw [← hwd] at hQd hw1 F1 F2
   clear hwd
   intro y1 hy1 y2 hy2 y3 hy3 y4 hy4
   have e4:y4 = (w:Int):=by
    rw [hy4,hy3,hy2,hy1,← Int.natCast_mul,fin_rem hQd (Nat.lt_trans hw1 Y1)]
   clear hy1 hy2 hy3 hy4
   subst e4
   refine ⟨by omega,fun y5 hy5 y6 hy6 y7 hy7 => ?_⟩
   have g5:y5 = ((w / a:Nat):Int):=by
    have:=Nat.div_le_self w a
    rw [hy5,Int.tdiv_eq_ediv_of_nonneg (by omega),← Int.natCast_ediv,hw _ (by omega)]
   have g6:y6 = ((w / a * a:Nat):Int):=by
    have:=Nat.div_mul_le_self w a
    rw [hy6,g5,← Int.natCast_mul,hw _ (by omega)]
   have g7:y7 = ((w % a:Nat):Int):=by
    have:=Nat.div_add_mod' w a
    rw [hy7,g6,show ((w:Int) - ((w / a * a:Nat):Int)) = ((w % a:Nat):Int) by omega,hw _ (by have:=Nat.mod_lt w (show 0 < a by omega); omega)]
   clear hy5 hy6 hy7
   subst g5 g6 g7
   have hw2:w * 4294967296 + x < Y * 4294967296:=digit_bound hw1 hxB
   have f2:(w * 4294967296 + x) / Y ≤ w / a:=digit_high hYab (by omega) (by omega) (by omega)
   obtain ⟨D2,hD2⟩:∃ D,D = (w * 4294967296 + x) / Y:=⟨_,rfl⟩
   rw [← hD2] at f2
   refine loopC_go (fun (p:Nat × Nat) => p.1 * a + p.2 = w ∧ D2 ≤ p.1 ∧ p.2 < 4294967296) (fun p => p.1) (fun p => [(18,u64 p.1),(16,u64 p.2)]) (fun _ => []) [] [102,103,104,105,106,107,108,109,110,111,112,113,114,115,18,116,117,118,16,119,120] (w / a,w % a) (by kernel_rfl) ?_ ⟨Nat.div_add_mod' w a,f2,by have:=Nat.mod_lt w (show 0 < a by omega); omega⟩ ?_ ?_
   ·intro x _; simp [goodNames]
   ·simp only [go_sem]
   intro p hp
   obtain ⟨q2,r⟩:=p
   obtain ⟨hq,hq2,hr⟩:=hp
   dsimp only at hq hq2 hr
   simp only [go_sem]
   intro z1 hz1 z2 hz2 z3 hz3
   have hqu:q2 ≤ w:=by
    have:=Nat.mul_le_mul_left q2 (show 1 ≤ a by omega)
    omega
   have hc:(4294967296 ≤ (q2:Int) ∨ z3 < z1) ↔ (4294967296 ≤ q2 ∨ 4294967296 * r + x < q2 * b):=by
    by_cases h:4294967296 ≤ q2
    ·exact ⟨fun _ => .inl h,fun _ => .inl (by omega)⟩
    ·have h5:q2 * b < 4294967296 * 4294967296:=Nat.mul_lt_mul'' (by omega) (by omega)
     have k1:z1 = ((q2 * b:Nat):Int):=by rw [hz1,← Int.natCast_mul,hw _ (by omega)]
     have k2:z2 = ((4294967296 * r:Nat):Int):=by rw [hz2,show (4294967296:Int) * (r:Int) = ((4294967296 * r:Nat):Int) by omega,hw _ (by omega)]
     have k3:z3 = ((4294967296 * r + x:Nat):Int):=by rw [hz3,k2,← Int.natCast_add,hw _ (by omega)]
     rw [k1,k3]
     omega
   clear hz1 hz2 hz3
   refine ⟨fun h z4 hz4 z5 hz5 => ?_,fun h => ?_⟩
   ·have h:=hc.1 h
    clear hc
    have hd:=digit_low hYab hw2 hq (hD2 ▸ hq2) (by omega) (by omega) (by omega) h
    rw [← hD2] at hd
    have k4:z4 = ((q2 - 1:Nat):Int):=by rw [hz4,show (q2:Int) - 1 = ((q2 - 1:Nat):Int) by omega,hw _ (by omega)]
    have k5:z5 = ((r + a:Nat):Int):=by rw [hz5,← Int.natCast_add,hw _ (by omega)]
    have hqn:(q2 - 1) * a + (r + a) = w:=by
     rw [Nat.sub_mul,Nat.one_mul]
     have:=Nat.mul_le_mul_right a (show 1 ≤ q2 by omega)
     omega
    clear hz4 hz5
    subst k4 k5
    refine ⟨fun h5 => ?_,fun h5 => ⟨(q2 - 1,r + a),⟨hqn,by dsimp only; omega,by dsimp only; omega⟩,by dsimp only; omega,rfl,rfl⟩⟩
    have hQ:=digit_break hYab hw2 hqn (by rw [← hD2]; omega) (by omega) (by omega) (by omega) (by omega) (by omega)
    generalize q2 - 1 = Q2 at hQ ⊢
    rw [hQ] at F1
    have hQe:=Nat.div_add_mod' (w * 4294967296 + x) Y
    rw [hQ,← F2] at hQe
    intro y1 hy1 y2 hy2 y3 hy3 y4 hy4 y5 hy5 y6 hy6
    refine ⟨by rw [e1]; exact Int.not_lt.2 (Int.natCast_nonneg s),fun y7 hy7 => ?_⟩
    rw [e1,Int.toNat_natCast,Nat.min_eq_left (Nat.le_of_lt hs3),cP,hy6,hy5,hy4,hy3,← Int.natCast_mul,fin_rem hQe hNm,Int.fdiv_eq_ediv_of_nonneg _ (Int.natCast_nonneg _),← Int.natCast_ediv,Nat.mul_div_cancel _ ps] at hy7
    rw [hy1,fin_quo F1 hNd] at hy2
    rw [hy2,hy7,hJ]
    exact tup2 rfl rfl
   ·have h:¬ (4294967296 ≤ q2 ∨ 4294967296 * r + x < q2 * b):=fun hh => not_or.2 h (hc.2 hh)
    clear hc
    have hQ:=digit_done (v:=x) hYab hq (hD2 ▸ hq2) (by omega) (by omega)
    generalize q2 = Q2 at hQ ⊢
    rw [hQ] at F1
    have hQe:=Nat.div_add_mod' (w * 4294967296 + x) Y
    rw [hQ,← F2] at hQe
    intro y1 hy1 y2 hy2 y3 hy3 y4 hy4 y5 hy5 y6 hy6
    refine ⟨by rw [e1]; exact Int.not_lt.2 (Int.natCast_nonneg s),fun y7 hy7 => ?_⟩
    rw [e1,Int.toNat_natCast,Nat.min_eq_left (Nat.le_of_lt hs3),cP,hy6,hy5,hy4,hy3,← Int.natCast_mul,fin_rem hQe hNm,Int.fdiv_eq_ediv_of_nonneg _ (Int.natCast_nonneg _),← Int.natCast_ediv,Nat.mul_div_cancel _ ps] at hy7
    rw [hy1,fin_quo F1 hNd] at hy2
    rw [hy2,hy7,hJ]
    exact tup2 rfl rfl
 ·cases hc
def raV (a b:Int):Int:=if b = 0 then cmpS a 0 * 9223372036854775807 else ftV ((a * 4294967296).tdiv b)
def raF (a b:Int):Bool:=if b = 0 then true else ftF ((a * 4294967296).tdiv b)
abbrev ra (a b:Int) (f:Bool):AV:=.agg [i64 (raV a b),bo (raF a b || f)]
theorem raV_rg {a b:Int}:rg (raV a b):=by
 unfold raV
 split
 ·unfold cmpS rg; split
  ·omega
  ·split <;> omega
 ·exact ftV_rg _
theorem sgn_ratio {a b:Int} (hb:b ≠ 0):sgn (decide (a < 0) != decide (b < 0)) (ab a * 4294967296 / ab b) = (a * 4294967296).tdiv b:=by
 have key:ab a * 4294967296 / ab b = (ab a * 4294967296).tdiv (ab b):=(Int.tdiv_eq_ediv_of_nonneg (by have:=ab_nonneg a; omega)).symm
 rw [key]
 unfold ab sgn
 by_cases ha:a < 0 <;> by_cases hb2:b < 0 <;> simp [ha,hb2]
 ·rw [Int.neg_mul,Int.neg_tdiv,Int.neg_neg]
 ·rw [Int.neg_mul,Int.neg_tdiv,Int.neg_neg]
theorem quo_word {m d:Int} (hm:0 ≤ m) (hd:0 < d):jn (m / 18446744073709551616 / d) (jn (m / 18446744073709551616 % d) (m % 18446744073709551616) / d) = m / d:=by
 have e1:=Int.mul_ediv_add_emod m 18446744073709551616
 have e2:=Int.mul_ediv_add_emod (m / 18446744073709551616) d
 have key:m = (m / 18446744073709551616 % d * 18446744073709551616 + m % 18446744073709551616) + d * (m / 18446744073709551616 / d * 18446744073709551616):=by
  rw [← Int.mul_assoc]
  generalize d * (m / 18446744073709551616 / d) = w at *
  omega
 unfold jn
 conv => rhs; rw [key,Int.add_mul_ediv_left _ _ (by omega)]
 omega
theorem inU_quo {m d:Int} (hm:0 ≤ m) (hd:0 < d) (hd2:d < 18446744073709551616):jn (m / 18446744073709551616 % d) (m % 18446744073709551616) / d < 18446744073709551616:=by
 have h1:=Int.emod_lt_of_pos (m / 18446744073709551616) hd
 refine Int.ediv_lt_of_lt_mul hd ?_
 unfold jn
 omega
def c52:Con
 | [.v (.int .i64 a),.v (.int .i64 b)] => some ([inR a,inR b],ra a b false)
 | _ => none
theorem con52:ConOK Tryz.prog 52 c52:=ConOK.of (G:=[(97,c97),(98,c98),(99,c99),(100,c100),(92,c92)]) (H:=[]) (.cons con97 (.cons con98 (.cons con99 (.cons con100 (.cons con92 .nil))))) Tryz.func52 fun l ob r hc hob => by
 unfold c52 at hc
 split at hc
 ·rename_i a b
  cases hc
  have h_0:inR a:=hob _ (by simp)
  have h_1:inR b:=hob _ (by simp)
  refine ⟨by kernel_rfl,fnVC_go (rs:=[.cell 4 27]) rfl rfl ?_⟩
  simp only [go_sem,c97,c98,c99,c100,c92]
  refine ⟨fun hb z hz z1 hz1 => ?_,fun hb => ?_⟩
  ·have hb:b = 0:=by simpa using hb
   refine agg2 (i64_eq ?_) (bo_eq ?_)
   ·unfold raV
    rw [if_pos hb,hz1,hz]
    have:cmpS a 0 = -1 ∨ cmpS a 0 = 0 ∨ cmpS a 0 = 1:=by unfold cmpS; split <;> (try split) <;> simp
    rw [wrap_in (by unfold inR; omega)]
   ·unfold raF; rw [if_pos hb]; rfl
  ·have hb:b ≠ 0:=by simpa using hb
   have ha0:=ab_nonneg a
   have hb0:=ab_nonneg b
   have ha1:ab a ≤ 9223372036854775808:=by unfold inR at h_0; exact ab_le (by omega) (by omega)
   have hb1:ab b ≤ 9223372036854775808:=by unfold inR at h_1; exact ab_le (by omega) (by omega)
   have hb2:0 < ab b:=by unfold ab at hb0 ⊢; split <;> omega
   have eb:ab b % 18446744073709551616 = ab b:=by omega
   simp only [forall_eq,mod_jn,eb,Bool.or_false]
   obtain ⟨m,hm⟩:∃ m,m = ab a * 4294967296:=⟨_,rfl⟩
   rw [← hm]
   have m0:0 ≤ m:=by omega
   have m1:m / 18446744073709551616 < 18446744073709551616:=by omega
   have t1:(m / 18446744073709551616).tmod (ab b) = m / 18446744073709551616 % ab b:=Int.tmod_eq_emod_of_nonneg (by omega)
   have t2:IntKind.u64.wrap ((m / 18446744073709551616).tdiv (ab b)) = m / 18446744073709551616 / ab b:=by
    have k0:0 ≤ m / 18446744073709551616:=by omega
    have k1:m / 18446744073709551616 / ab b ≤ m / 18446744073709551616:=Int.ediv_le_self _ k0
    have k2:0 ≤ m / 18446744073709551616 / ab b:=Int.ediv_nonneg k0 hb0
    rw [Int.tdiv_eq_ediv_of_nonneg k0,wrap_u (by unfold inU; omega)]
   rw [t1,t2]
   have k3:=Int.emod_nonneg (m / 18446744073709551616) (show ab b ≠ 0 by omega)
   have k4:=Int.emod_lt_of_pos (m / 18446744073709551616) hb2
   have k5:0 ≤ m / 18446744073709551616 / ab b:=Int.ediv_nonneg (by omega) hb0
   have k6:m / 18446744073709551616 / ab b ≤ m / 18446744073709551616:=Int.ediv_le_self _ (by omega)
   have k7:0 ≤ jn (m / 18446744073709551616 % ab b) (m % 18446744073709551616) / ab b:=Int.ediv_nonneg (by unfold jn; omega) hb0
   have k8:=inU_quo m0 hb2 (by omega)
   rw [quo_word m0 hb2]
   refine ⟨h_0,inU_mod,inU_div ha0 (by omega),by omega,h_1,by omega,by omega,by unfold inU; omega,inU_mod,by unfold inU; omega,k4,⟨k7,k8⟩,by unfold inU; omega,?_⟩
   have e:(!decide (a < 0) == decide (b < 0)) = (decide (a < 0) != decide (b < 0)):=by cases decide (a < 0) <;> cases decide (b < 0) <;> rfl
   rw [e,hm,sgn_ratio hb]
   refine agg2 (i64_eq ?_) (bo_eq ?_)
   ·unfold raV; rw [if_neg hb]
   ·unfold raF; rw [if_neg hb,Bool.or_false]
 ·cases hc
def c78:Con
 | [.agg [.v (.int .i64 v),.v (.bool f)],.agg [.v (.int .i64 u),.v (.bool e)]] => some ([inR v,inR u],ra (whV v) (whV u) (whF v f || whF u e))
 | _ => none
theorem con78:ConOK Tryz.prog 78 c78:=ConOK.of (G:=[(89,c89),(52,c52),(93,c93)]) (H:=[(1,⟨[(4,.slot 2),(5,.slot 3)],[]⟩)]) (.cons con89 (.cons con52 (.cons con93 .nil))) Tryz.func78 fun l ob r hc hob => by
 unfold c78 at hc
 split at hc
 ·rename_i v f u e
  cases hc
  have h_0:inR v:=hob _ (by simp)
  have h_1:inR u:=hob _ (by simp)
  refine ⟨by kernel_rfl,fnVC_go (rs:=[.cell 4 27]) rfl rfl ?_⟩
  simp only [go_sem,c89,c52,c93]
  simp only [forall_eq]
  refine ⟨inR_wh h_0,inR_wh h_1,fun _ => nums2 rfl rfl (inR_wh h_0) (inR_wh h_1),fun _ => trivial,?_⟩
  rw [any2 rfl rfl,Bool.or_false]
 ·cases hc
theorem newton {m r:Nat} (hr:0 < r) (h:m < (r + 1) * (r + 1)) (hq:m / r < r):m < ((r + m / r) / 2 + 1) * ((r + m / r) / 2 + 1):=by
 have h1:m < r * (m / r + 1):=by
  have:=Nat.div_add_mod m r
  have:=Nat.mod_lt m hr
  rw [Nat.mul_add]; omega
 generalize m / r = q at *
 obtain ⟨d,hd⟩:=Nat.exists_eq_add_of_le (show q + 1 ≤ r by omega)
 have h2:r + q + 1 ≤ 2 * ((r + q) / 2 + 1):=by omega
 generalize (r + q) / 2 + 1 = t at *
 have h3:=Nat.mul_le_mul h2 h2
 have h4:4 * (r * (q + 1)) ≤ (r + q + 1) * (r + q + 1):=by
  subst hd
  have e1:(q + 1 + d + q + 1) * (q + 1 + d + q + 1) = 4 * ((q + 1 + d) * (q + 1)) + d * d:=by
   rw [show q + 1 + d + q + 1 = (q + 1 + d) + (q + 1) by omega]
   generalize q + 1 = p
   simp only [Nat.add_mul,Nat.mul_add]
   have:d * p = p * d:=Nat.mul_comm _ _
   omega
  omega
 have h5:2 * t * (2 * t) = 4 * (t * t):=by
  rw [Nat.mul_assoc,Nat.mul_left_comm t,← Nat.mul_assoc]
 omega
theorem newton_body {h l:Int} {m r:Nat} (hl:inU l) (hh:inU h) (hjm:jn h l = (m:Int)) (h0:0 < m) (hmK:m < 340282366920938463463374607431768211456) (hr:0 < r ∧ r < 18446744073709551616 ∧ m < (r + 1) * (r + 1)) :
  ((r:Int) ≤ h → (r:Int) = (isq m:Nat)) ∧
  (¬(r:Int) ≤ h →
   ∀ (z:Int),z = jn h l / (r:Int) → ∀ (z_1:Int),z_1 = jn h l % (r:Int) →
       inU h ∧ inU l ∧ inU (r:Int) ∧ h < (r:Int) ∧
               ((r:Int) ≤ z → (r:Int) = (isq m:Nat)) ∧
                (¬(r:Int) ≤ z →
                 ∀ (z_2:Int),z_2 = ((r:Int) + z + 0) % 18446744073709551616 →
                   ∀ (z_3:Int),z_3 = ((r:Int) + z + 0) / 18446744073709551616 →
                     inU (r:Int) ∧ inU z ∧
                       ∀ (z:Int),z = z_2 / 2 →
                         ∀ (z_4:Int),z_4 = IntKind.u64.wrap (z_3 * 9223372036854775808) →
                           ∀ (z_5:Int),z_5 = orI IntKind.u64 z z_4 →
                             ∃ y:Nat,(0 < y ∧ y < 18446744073709551616 ∧ m < (y + 1) * (y + 1)) ∧ y < r ∧ z_5 = (y:Int))):=by
 obtain ⟨r1,r2,r3⟩:=hr
 have hru:inU (r:Int):=by unfold inU; omega
 refine ⟨fun h1 => ?_,fun h1 z hz z1 hz1 => ⟨hh,hl,hru,by omega,fun h2 => ?_,fun h2 z2 hz2 z3 hz3 => ⟨hru,?_,fun z4 hz4 z5 hz5 z6 hz6 => ⟨(r + m / r) / 2,?_,?_,?_⟩⟩⟩⟩
 ·have k1:r * r ≤ r * 18446744073709551615:=Nat.mul_le_mul_left r (by omega)
  have k2:r * r ≤ m:=by unfold jn at hjm; unfold inU at hl; omega
  rw [isq_eq hmK k2 r3]
 ·rw [hjm,← Int.natCast_ediv] at hz
  have k2:r * r ≤ m:=(Nat.le_div_iff_mul_le r1).1 (by omega)
  rw [isq_eq hmK k2 r3]
 all_goals (rw [hjm,← Int.natCast_ediv] at hz; have hq:m / r < r:=by omega)
 ·generalize m / r = q at *
  rw [hz]; unfold inU; omega
 ·have hn:=newton r1 r3 hq
  refine ⟨?_,?_,hn⟩
  ·by_cases e:r = 1
   ·subst e; rw [Nat.div_one] at hq; omega
   ·clear hn
    generalize m / r = q at *
    omega
  ·clear hn
   generalize m / r = q at *
   omega
 ·generalize m / r = q at *
  omega
 ·generalize m / r = q at *
  have e3:z3 = (((r + q) / 18446744073709551616:Nat):Int):=by rw [hz3,hz]; omega
  have e5:z5 = ((2 ^ 63 * ((r + q) / 18446744073709551616):Nat):Int):=by
   have p:(2:Nat) ^ 63 = 9223372036854775808:=by decide
   rw [hz5,e3,p,wrap_u (by unfold inU; omega)]; omega
  have e4:z4 = (((r + q) % 18446744073709551616 / 2:Nat):Int):=by rw [hz4,hz2,hz]; omega
  have p:(2:Nat) ^ 63 = 9223372036854775808:=by decide
  rw [hz6,e4,e5]
  unfold orI
  rw [BitVec.toNat_or,toNat_u (by omega),toNat_u (by rw [p]; omega),Nat.or_comm,← Nat.two_pow_add_eq_or_of_lt (by rw [p]; omega),wrap_u (by rw [p]; unfold inU; omega),p]
  omega
theorem root_start {m len k:Nat} (h:m < 2 ^ len) (hk:len ≤ 2 * k):m < (2 ^ k + 1) * (2 ^ k + 1):=by
 have h1:2 ^ len ≤ 2 ^ (2 * k):=Nat.pow_le_pow_right (by omega) hk
 have h2:2 ^ (2 * k) = 2 ^ k * 2 ^ k:=by rw [Nat.two_mul,Nat.pow_add]
 generalize 2 ^ k = a at *
 simp only [Nat.add_mul,Nat.mul_add]
 omega
theorem root_len {h l:Int} {m:Nat} (hl:inU l) (hh:inU h) (hjm:jn h l = (m:Int)):m < 2 ^ (64 + blen h):=by
 have k:=(blen_ok hh).1
 have p:(2:Nat) ^ 64 = 18446744073709551616:=by decide
 rw [Nat.pow_add,p]
 unfold jn at hjm; unfold inU at hl hh
 omega
def c243:Con
 | [.agg [.v (.int .u64 l),.v (.int .u64 h)]] => some ([inU l,inU h],u64 (isq (jn h l).toNat))
 | _ => none
theorem con243:ConOK Tryz.prog 243 c243:=ConOK.of (G:=[(245,c245),(100,c100),(189,c189)]) (H:=[]) (.cons con245 (.cons con100 (.cons con189 .nil))) Tryz.func243 fun l ob r hc hob => by
 unfold c243 at hc
 split at hc
 ·rename_i l h
  cases hc
  have hl:inU l:=hob _ (by simp)
  have hh:inU h:=hob _ (by simp)
  refine ⟨by kernel_rfl,fnVC_go (rs:=[.tmp 2]) rfl rfl ?_⟩
  simp only [go_sem,c245,c100,c189]
  obtain ⟨m,hm⟩:∃ m,m = (jn h l).toNat:=⟨_,rfl⟩
  have hjm:jn h l = (m:Int):=by rw [hm]; unfold jn; unfold inU at hl hh; omega
  have hmK:m < 340282366920938463463374607431768211456:=by unfold jn at hjm; unfold inU at hl hh; omega
  rw [← hm]
  refine ⟨fun _ => trivial,fun _ => trivial,fun h0 => ?_,fun h0 z hz => ⟨hl,fun hh0 z1 hz1 => ⟨hh,fun z2 hz2 z3 hz3 z4 hz4 => ⟨fun hlt => ⟨?_,fun z5 hz5 => ?_⟩,fun hlt => ?_⟩⟩,fun hh0 z3 hz3 z4 hz4 => ⟨fun hlt => ⟨?_,fun z5 hz5 => ?_⟩,fun hlt => ?_⟩⟩⟩
  ·have h1:h = 0:=by simpa using h0.1
   have h2:l = 0:=by simpa using h0.2
   subst h1 h2
   rw [hm]; decide
  all_goals (
   have hm0:0 < m:=by
    refine Nat.pos_of_ne_zero fun hz => ?_
    subst hz
    unfold jn at hjm; unfold inU at hl hh
    have h1:h = 0:=by omega
    have h2:l = 0:=by omega
    subst h1 h2
    simp at h0
   have bl:=(blen_ok hl).2.2
   have bh:=(blen_ok hh).2.2)
  ·rw [hz4,hz3,hz2,hz1,wrap_in (x:=64 + (blen h:Int)) (by unfold inR; omega),wrap_in (x:=64 + (blen h:Int) + 1) (by unfold inR; omega),Int.tdiv_eq_ediv_of_nonneg (by omega),wrap_in (by unfold inR; omega)]; omega
  ·have e4:z4 = (((64 + blen h + 1) / 2:Nat):Int):=by
    rw [hz4,hz3,hz2,hz1,wrap_in (x:=64 + (blen h:Int)) (by unfold inR; omega),wrap_in (x:=64 + (blen h:Int) + 1) (by unfold inR; omega),Int.tdiv_eq_ediv_of_nonneg (by omega),wrap_in (by unfold inR; omega)]; omega
   obtain ⟨k,hk⟩:∃ k,k = (64 + blen h + 1) / 2:=⟨_,rfl⟩
   have k2:k < 64:=by omega
   have k3:2 ^ k ≤ 2 ^ 63:=Nat.pow_le_pow_right (by omega) (by omega)
   have p:(2:Nat) ^ 63 = 9223372036854775808:=by decide
   have e5:z5 = ((2 ^ k:Nat):Int):=by
    rw [hz5,e4,← hk,Int.toNat_natCast,Nat.min_eq_left (by omega),Int.one_mul,show ((2:Int) ^ k) = ((2 ^ k:Nat):Int) by simp,wrap_u ⟨Int.natCast_nonneg _,Int.ofNat_lt.2 (show 2 ^ k < 18446744073709551616 by omega)⟩]
   refine loopC_go (fun (r:Nat) => 0 < r ∧ r < 18446744073709551616 ∧ m < (r + 1) * (r + 1)) (fun r => r) (fun r => [(4,u64 r)]) (fun _ => []) [0] [35,36,37,38,39,2,41,42,43,44,45,46,40,47,48,6,7,49,50,51,52,2,54,55,56,53,57,58,8,9,59,60,61,62,63,4] (2 ^ k) (by kernel_rfl) ?_ ⟨Nat.two_pow_pos k,by omega,root_start (root_len hl hh hjm) (by omega)⟩ ?_ ?_
   ·intro x _; simp [goodNames,asg]
   ·simp only [go_sem];
    exact e5
   ·intro r hr
    simp only [go_sem,c100,c189]
    exact newton_body hl hh hjm hm0 hmK hr
  ·have hm2:m < (18446744073709551615 + 1) * (18446744073709551615 + 1):=hmK
   refine loopC_go (fun (r:Nat) => 0 < r ∧ r < 18446744073709551616 ∧ m < (r + 1) * (r + 1)) (fun r => r) (fun r => [(4,u64 r)]) (fun _ => []) [0] [35,36,37,38,39,2,41,42,43,44,45,46,40,47,48,6,7,49,50,51,52,2,54,55,56,53,57,58,8,9,59,60,61,62,63,4] 18446744073709551615 (by kernel_rfl) ?_ ⟨by decide,by decide,hm2⟩ ?_ ?_
   ·intro x _; simp [goodNames,asg]
   ·simp only [go_sem]
    try rfl
   ·intro r hr
    simp only [go_sem,c100,c189]
    exact newton_body hl hh hjm hm0 hmK hr
  ·rw [hz4,hz3,hz,wrap_in (x:=(blen l:Int) + 1) (by unfold inR; omega),Int.tdiv_eq_ediv_of_nonneg (by omega),wrap_in (by unfold inR; omega)]; omega
  ·have e4:z4 = (((blen l + 1) / 2:Nat):Int):=by
    rw [hz4,hz3,hz,wrap_in (x:=(blen l:Int) + 1) (by unfold inR; omega),Int.tdiv_eq_ediv_of_nonneg (by omega),wrap_in (by unfold inR; omega)]; omega
   obtain ⟨k,hk⟩:∃ k,k = (blen l + 1) / 2:=⟨_,rfl⟩
   have k2:k < 64:=by omega
   have k3:2 ^ k ≤ 2 ^ 63:=Nat.pow_le_pow_right (by omega) (by omega)
   have p:(2:Nat) ^ 63 = 9223372036854775808:=by decide
   have e5:z5 = ((2 ^ k:Nat):Int):=by
    rw [hz5,e4,← hk,Int.toNat_natCast,Nat.min_eq_left (by omega),Int.one_mul,show ((2:Int) ^ k) = ((2 ^ k:Nat):Int) by simp,wrap_u ⟨Int.natCast_nonneg _,Int.ofNat_lt.2 (show 2 ^ k < 18446744073709551616 by omega)⟩]
   have hlm:m < 2 ^ blen l:=by
    have h1:h = 0:=by simpa using hh0
    have h2:=(blen_ok hl).1
    unfold jn at hjm
    omega
   refine loopC_go (fun (r:Nat) => 0 < r ∧ r < 18446744073709551616 ∧ m < (r + 1) * (r + 1)) (fun r => r) (fun r => [(4,u64 r)]) (fun _ => []) [0] [35,36,37,38,39,2,41,42,43,44,45,46,40,47,48,6,7,49,50,51,52,2,54,55,56,53,57,58,8,9,59,60,61,62,63,4] (2 ^ k) (by kernel_rfl) ?_ ⟨Nat.two_pow_pos k,by omega,root_start hlm (by omega)⟩ ?_ ?_
   ·intro x _; simp [goodNames,asg]
   ·simp only [go_sem];
    exact e5
   ·intro r hr
    simp only [go_sem,c100,c189]
    exact newton_body hl hh hjm hm0 hmK hr
  ·exfalso
   apply hlt
   rw [hz4,hz3,hz,wrap_in (x:=(blen l:Int) + 1) (by unfold inR; omega),Int.tdiv_eq_ediv_of_nonneg (by omega),wrap_in (by unfold inR; omega)]; omega
 ·cases hc
theorem isq_small {m:Nat} (h:m < 340282366920938463463374607431768211456):isq m < 18446744073709551616:=by
 have:=(isq_ok h).1
 refine Nat.lt_of_not_le fun hc => ?_
 have:=Nat.mul_le_mul hc hc
 omega
theorem sgn_f {x:Int}:sgn false x = x:=rfl
theorem jn_0 {x:Int}:jn 0 x = x:=by unfold jn; omega
def sqV (v:Int):Int:=if v < 0 then 0 else ftV (isq (v * 4294967296).toNat)
def sqF (v:Int) (f:Bool):Bool:=if v < 0 then true else (ftF (isq (v * 4294967296).toNat) || f)
theorem sq_nonneg {a:Int}:0 ≤ a * a:=by
 rcases Int.lt_or_le a 0 with h | h
 ·have:=Int.mul_pos_of_neg_of_neg h h; omega
 ·exact Int.mul_nonneg h h
theorem ab_sq {a:Int}:ab (a * a) = a * a:=by have:=sq_nonneg (a:=a); unfold ab; rw [if_neg (by omega)]
theorem pl_sq {a b:Int}:plM (decide (a < 0) != decide (a < 0)) (a * a) (decide (b < 0) != decide (b < 0)) (b * b) = a * a + b * b:=by
 unfold plM; rw [if_pos (by simp)]
def c162:Con
 | [.agg [.v (.int .i64 v),.v (.bool f)],.agg [.v (.int .i64 u),.v (.bool e)]] => some ([inR v,inR u],nu (isq (whV v * whV v + whV u * whV u).toNat) (whF v f || whF u e))
 | _ => none
theorem con162:ConOK Tryz.prog 162 c162:=ConOK.of (G:=[(89,c89),(90,c90),(131,c131),(243,c243),(93,c93),(92,c92)]) (H:=[(1,⟨[(4,.slot 2),(5,.slot 3)],[]⟩),(2,⟨[(20,.slot 4)],[]⟩)]) (.cons con89 (.cons con90 (.cons con131 (.cons con243 (.cons con93 (.cons con92 .nil)))))) Tryz.func162 fun l ob r hc hob => by
 unfold c162 at hc
 split at hc
 ·rename_i v f u e
  cases hc
  have h_0:inR v:=hob _ (by simp)
  have h_1:inR u:=hob _ (by simp)
  refine ⟨by kernel_rfl,fnVC_go (rs:=[.cell 4 27]) rfl rfl ?_⟩
  simp only [go_sem,c89,c90,c131,c243,c93,c92]
  simp only [forall_eq,mod_jn,sgn_f,jn_0,ab_sq,pl_sq]
  have k:=mul_rg (inR_wh h_0) (inR_wh h_0)
  have k0:=sq_nonneg (a:=whV v)
  have j:=mul_rg (inR_wh h_1) (inR_wh h_1)
  have j0:=sq_nonneg (a:=whV u)
  rw [ab_sq] at k j
  have s:=isq_small (m:=(whV v * whV v + whV u * whV u).toNat) (by omega)
  refine ⟨inR_wh h_0,inR_wh h_0,inR_wh h_1,inR_wh h_1,inU_mod,inU_div k0 (by omega),inU_mod,inU_div j0 (by omega),by omega,inU_mod,inU_div (by omega) (by omega),nums2 rfl rfl (inR_wh h_0) (inR_wh h_1),by unfold inU; omega,by unfold inU; omega,?_⟩
  rw [any2 rfl rfl]
 ·cases hc
theorem eq133 {xo yo:Operand} {neg:Bool} {a b:Int} {g:Bool} {x y:Int} {e:Bool}:eqE Tryz.prog neg 133 xo yo (.agg [bo g,u64 a,u64 b]) (.agg [bo e,u64 x,u64 y]) = some ⟨[],.v (.bool (negV neg ((g == e) && ((a == x) && ((b == y) && true))))),.none⟩:=eqE_agg (by kernel_rfl)
attribute [go_sem] eq133
def c146:Con
 | [.v (.int .i64 v)] => some ([inR v],u64 (ab v))
 | _ => none
theorem con146:ConOK Tryz.prog 146 c146:=ConOK.of (G:=[]) (H:=[]) .nil Tryz.func146 fun l ob r hc hob => by
 unfold c146 at hc
 split at hc
 ·rename_i v
  cases hc
  have h_0:inR v:=hob _ (by simp)
  refine ⟨by kernel_rfl,fnVC_go (rs:=[.tmp 2]) rfl rfl ?_⟩
  simp only [go_sem]
  unfold inR at h_0
  refine ⟨fun h z hz z1 hz1 => ?_,fun h z hz => ?_⟩
  ·rw [hz1,hz,wrap_u64,wrap_i64]; unfold ab; rw [if_pos h]; omega
  ·rw [hz,wrap_u64]; unfold ab; rw [if_neg h]; omega
 ·cases hc
def c77:Con
 | [.v (.int .i64 v)] => some ([inR v],wd (decide (v < 0)) (ab v))
 | _ => none
theorem con77:ConOK Tryz.prog 77 c77:=ConOK.of (G:=[(146,c146)]) (H:=[]) (.cons con146 .nil) Tryz.func77 fun l ob r hc hob => by
 unfold c77 at hc
 split at hc
 ·rename_i v
  cases hc
  have h_0:inR v:=hob _ (by simp)
  refine ⟨by kernel_rfl,fnVC_go (rs:=[.cell 2 133]) rfl rfl ?_⟩
  simp only [go_sem,c146]
  intro z hz
  have h1:=ab_nonneg v
  have h2:ab v ≤ 9223372036854775808:=by unfold inR at h_0; exact ab_le (by omega) (by omega)
  refine ⟨h_0,agg3 rfl (u64_eq (by omega)) (u64_eq (by omega))⟩
 ·cases hc
def c76:Con
 | [.agg [.v (.bool g),.v (.int .u64 h),.v (.int .u64 l)]] => some ([inU l,inU h,h < 4294967296],wd g (jn h l * 4294967296))
 | _ => none
theorem con76:ConOK Tryz.prog 76 c76:=ConOK.of (G:=[]) (H:=[]) .nil Tryz.func76 fun l ob r hc hob => by
 unfold c76 at hc
 split at hc
 ·rename_i g h l
  cases hc
  have h_0:inU l:=hob _ (by simp)
  have h_1:inU h:=hob _ (by simp)
  have h_2:h < 4294967296:=hob _ (by simp)
  refine ⟨by kernel_rfl,fnVC_go (rs:=[.cell 2 133]) rfl rfl ?_⟩
  simp only [go_sem]
  intro z1 hz1 z2 hz2 z3 hz3 z hz
  have e:=orI_u h_1 h_0
  unfold inU at h_0 h_1
  refine agg3 rfl (u64_eq ?_) (u64_eq ?_)
  ·rw [hz3,hz1,hz2,e]; unfold jn; omega
  ·rw [hz,wrap_u64]; unfold jn; omega
 ·cases hc
def c75:Con
 | [.agg [.v (.bool g),.v (.int .u64 h),.v (.int .u64 l)],.v (.bool f)] => some ([inU l,inU h],.agg [i64 (ftV (sgn g (jn h l))),bo (ftF (sgn g (jn h l)) || f)])
 | _ => none
theorem con75:ConOK Tryz.prog 75 c75:=ConOK.of (G:=[]) (H:=[]) .nil Tryz.func75 fun l ob r hc hob => by
 unfold c75 at hc
 split at hc
 ·rename_i g h l f
  cases hc
  have h_0:inU l:=hob _ (by simp)
  have h_1:inU h:=hob _ (by simp)
  refine ⟨by kernel_rfl,fnVC_go (rs:=[.cell 4 27]) rfl rfl ?_⟩
  simp only [go_sem]
  have hl:=h_0
  have hh:=h_1
  unfold inU at hl hh
  have e:∀ {a a':Int} {b b':Bool},a = a' → b = b' → AV.agg [i64 a,bo b] = .agg [i64 a',bo b']:=fun h1 h2 => by rw [h1,h2]
  refine ⟨fun h2 => ?_,fun h2 z hz => ?_⟩
  ·have hb:9223372036854775807 < jn h l:=by
    unfold jn
    rcases h2 with h2 | h2
    ·rw [bne_iff_ne] at h2; omega
    ·omega
   refine ⟨fun hg z hz => ?_,fun hg => ?_⟩
   ·have:sgn g (jn h l) = -jn h l:=by unfold sgn; rw [if_pos hg]
    rw [this]
    refine e ?_ ?_
    ·rw [hz,wrap_in (by unfold inR; omega)]; unfold ftV; rw [if_neg (by omega),if_pos (by omega)]; rfl
    ·unfold ftF; rw [decide_eq_true (by omega)]; rfl
   ·have:sgn g (jn h l) = jn h l:=by unfold sgn; rw [hg]; simp
    rw [this]
    refine e ?_ ?_
    ·unfold ftV; rw [if_pos hb]
    ·unfold ftF; rw [decide_eq_true (by omega)]; rfl
  ·have h0:h = 0:=by simpa using h2.1
   have h3:=h2.2
   have hj:jn h l = l:=by unfold jn; omega
   have hw:z = l:=by rw [hz]; exact wrap_in (by unfold inR; omega)
   rw [hj]
   refine ⟨fun hg z1 hz1 => ?_,fun hg => ?_⟩
   ·have:sgn g l = -l:=by unfold sgn; rw [if_pos hg]
    rw [this]
    have hr:rg (-l):=by unfold rg; omega
    refine e ?_ (by rw [ftF_of hr]; rfl)
    rw [ftV_of hr,hz1,hw,wrap_in (by unfold inR; omega)]; omega
   ·have:sgn g l = l:=by unfold sgn; rw [hg]; simp
    rw [this]
    have hr:rg l:=by unfold rg; omega
    exact e (by rw [ftV_of hr,hw]) (by rw [ftF_of hr]; rfl)
 ·cases hc
def c33:Con
 | [.v (.int .i64 n)] => some ([inR n],nu (n * 4294967296) false)
 | _ => none
theorem con33:ConOK Tryz.prog 33 c33:=ConOK.of (G:=[(77,c77),(76,c76),(75,c75)]) (H:=[]) (.cons con77 (.cons con76 (.cons con75 .nil))) Tryz.func33 fun l ob r hc hob => by
 unfold c33 at hc
 split at hc
 ·rename_i n
  cases hc
  have h_0:inR n:=hob _ (by simp)
  refine ⟨by kernel_rfl,fnVC_go (rs:=[.cell 2 27]) rfl rfl ?_⟩
  simp only [go_sem,c77,c76,c75]
  simp only [forall_eq,mod_jn,Bool.or_false]
  have ha:=ab_nonneg n
  have hb:ab n ≤ 9223372036854775808:=by unfold inR at h_0; exact ab_le (by omega) (by omega)
  refine ⟨h_0,inU_mod,inU_div ha (by omega),by omega,inU_mod,inU_div (by omega) (by omega),?_⟩
  have e:sgn (decide (n < 0)) (ab n * 4294967296) = n * 4294967296:=by
   unfold sgn ab
   by_cases h:n < 0
   ·simp [h,Int.neg_mul]
   ·simp [h]
  rw [e]
  refine agg2 rfl ?_
  simp
 ·cases hc
def wpV (v:Int):Int:=if 13493037704 < v.tmod 26986075409 then v.tmod 26986075409 - 26986075409 else if v.tmod 26986075409 < -13493037704 then v.tmod 26986075409 + 26986075409 else v.tmod 26986075409
abbrev Nb:=Int × Bool
def nMul (a b:Nb):Nb:=(ftV ((whV a.1 * whV b.1).tdiv 4294967296),ftF ((whV a.1 * whV b.1).tdiv 4294967296) || (whF a.1 a.2 || whF b.1 b.2))
def nInt (n:Int):Nb:=(ftV (n * 4294967296),ftF (n * 4294967296) || false)
def nDiv (a b:Nb):Nb:=(raV (whV a.1) (whV b.1),raF (whV a.1) (whV b.1) || (whF a.1 a.2 || whF b.1 b.2))
def nNeg (a:Nb):Nb:=(-whV a.1,whF a.1 a.2)
def nAdd (a b:Nb):Nb:=(ftV (whV a.1 + whV b.1),ftF (whV a.1 + whV b.1) || (whF a.1 a.2 || whF b.1 b.2))
def snT (y:Nb):Nat → Nb
 | 0 => y
 | k + 1 => nNeg (nDiv (nMul (nMul (snT y k) y) y) (nInt (2 * ((k:Int) + 1) * (2 * ((k:Int) + 1) + 1))))
def snS (y:Nb):Nat → Nb
 | 0 => y
 | k + 1 => nAdd (snS y k) (snT y (k + 1))
theorem nMul_rg {a b:Nb}:rg (nMul a b).1:=ftV_rg _
theorem nInt_rg {n:Int}:rg (nInt n).1:=ftV_rg _
theorem nDiv_rg {a b:Nb}:rg (nDiv a b).1:=raV_rg
theorem nNeg_rg {a:Nb} (h:inR a.1):rg (nNeg a).1:=by have:=whV_rg h; unfold nNeg rg at *; dsimp only; omega
theorem nAdd_rg {a b:Nb}:rg (nAdd a b).1:=ftV_rg _
theorem snT_in {y:Nb} (h:inR y.1):∀ k,inR (snT y k).1
 | 0 => h
 | k + 1 => rg_inR (nNeg_rg (rg_inR nDiv_rg))
theorem snS_in {y:Nb} (h:inR y.1):∀ k,inR (snS y k).1
 | 0 => h
 | k + 1 => rg_inR nAdd_rg
def qtV (y:Int):Int:=if (if 6746518852 < y then 13493037704 - y else y) < -6746518852 then -13493037704 - (if 6746518852 < y then 13493037704 - y else y) else (if 6746518852 < y then 13493037704 - y else y)
theorem wpV_le {v:Int}:-13493037704 ≤ wpV v ∧ wpV v ≤ 13493037704:=by
 have h1:=Int.tmod_lt_of_pos v (show (0:Int) < 26986075409 by decide)
 have h2:-26986075409 < v.tmod 26986075409:=by
  rcases Int.le_total 0 v with h | h
  ·have:=Int.tmod_nonneg 26986075409 h; omega
  ·have e:v.tmod 26986075409 = -((-v).tmod 26986075409):=by rw [Int.neg_tmod,Int.neg_neg]
   have:=Int.tmod_lt_of_pos (-v) (show (0:Int) < 26986075409 by decide)
   omega
 unfold wpV
 split
 ·omega
 ·split <;> omega
def snY (v:Int) (f:Bool):Nb:=(qtV (wpV (whV v)),whF v f)
def snV (v:Int) (f:Bool):Int:=max (-4294967296) (min (whV (snS (snY v f) 8).1) 4294967296)
def snF (v:Int) (f:Bool):Bool:=whF (snS (snY v f) 8).1 (snS (snY v f) 8).2
theorem snV_rg {v:Int} {f:Bool}:rg (snV v f):=by unfold snV rg; omega
def csV (v:Int) (f:Bool):Int:=snV (nAdd (wpV (whV v),whF v f) (6746518852,false)).1 (nAdd (wpV (whV v),whF v f) (6746518852,false)).2
def csF (v:Int) (f:Bool):Bool:=snF (nAdd (wpV (whV v),whF v f) (6746518852,false)).1 (nAdd (wpV (whV v),whF v f) (6746518852,false)).2
end Go.Ax
end
section
set_option maxHeartbeats 1000000
set_option maxRecDepth 100000
namespace Go.Ax
open Go.Proofs
theorem okX_iff {x:Int}:okX x = true ↔ -2097152 ≤ x ∧ x ≤ 2097152:=by unfold okX; simp
theorem validS_iff {x y:Int}:validS x y = true ↔ -2097152 ≤ x ∧ x ≤ 2097152 ∧ -2097152 ≤ y ∧ y ≤ 2097152:=by
 unfold validS; rw [Bool.and_eq_true,okX_iff,okX_iff]; omega
theorem fairS_iff {n:Nat} {X Y:Nat → Int}:fairS n X Y = true ↔ ∀ i,i < n → validS (X i) (Y i) = true:=by unfold fairS; simp
theorem false_of {b:Bool} (h:¬ b = true):false = b:=by cases b <;> simp_all
def c271:Con
 | [.ro n 2 g] => some ([spots n g,n ≤ 9223372036854775807],bo (fairS n (gx g 0) (gx g 1)))
 | _ => none
theorem vc271 (n:Nat) (X Y:Nat → Int) (hX:∀ i,i < n → inR (X i) ∧ inR (Y i)) (hn:n ≤ 9223372036854775807):fnVC Tryz.prog [] [] Tryz.f271 [.ro n 2 fun i => [i64 (X i),i64 (Y i)]] (· = bo (fairS n X Y)):=by
 refine fnVC_go (rs:=[.tmp 2]) rfl rfl ?_
 simp only [go_sem]
 refine loopC_go (fun (i:Nat) => i ≤ n ∧ ∀ k < i,validS (X k) (Y k) = true) (fun i => n - i) (fun i => [(7,i64 i)]) (fun _ => []) [] [8,9,10,4,11,12,13,14,15,16,17,18,19,20,21,22,23,24,25,26,27,28,29,30,31,32,2,33,7] 0 (by kernel_rfl) ?_ ?_ ?_ ?_
 ·intro x _; simp [goodNames]
 ·simp
 ·simp only [go_sem]
 ·intro i hi
  simp only [go_sem]
  obtain ⟨hi1,hi2⟩:=hi
  refine ⟨fun h => ?_,fun h => (fairS_iff.2 fun k hk => hi2 k (by omega)).symm⟩
  have h1:i < n:=by omega
  have hr:=hX i h1
  unfold inR at hr
  refine ⟨by omega,h,fun z hz z1 hz1 z2 hz2 => ?_⟩
  rw [wrap_i64] at hz hz1
  have hv:=validS_iff (x:=X i) (y:=Y i)
  refine ⟨fun hb => false_of fun hf => ?_,fun hg z hz => ⟨i + 1,⟨by omega,fun k hk => ?_⟩,by omega,?_⟩⟩
  ·have:=hv.1 (fairS_iff.1 hf i h1)
   omega
  ·by_cases e:k = i
   ·subst e; exact hv.2 (by omega)
   ·exact hi2 k (by omega)
  ·rw [wrap_i64] at hz; omega
theorem con271:ConOK Tryz.prog 271 c271:=ConOK.go (G:=[]) (H:=[]) .nil Tryz.func271 fun l ob r hc hob => by
 unfold c271 at hc
 split at hc
 ·rename_i n g
  cases hc
  have hs:spots n g:=hob _ (by simp)
  refine ⟨[.ro n 2 fun i => [i64 (gx g 0 i),i64 (gx g 1 i)]],fun w I vs h => Rs_one (fun v => ro_alike fun i hi => (hs i hi).1) h,by kernel_rfl,vc271 n _ _ (fun i hi => (hs i hi).2) (hob _ (by simp))⟩
 ·cases hc
def checkBoxS (a b c d:Int):Int:=if validS a b = true ∧ validS c d = true then (if c < a ∨ d < b then 5 else 0) else 3
def c272:Con
 | [.agg [.v (.int .i64 a),.v (.int .i64 b),.v (.int .i64 c),.v (.int .i64 d)]] => some ([inR a,inR b,inR c,inR d],i64 (checkBoxS a b c d))
 | _ => none
theorem fair2 {a b c d:Int} {g:Nat → List AV} (h0:g 0 = [i64 a,i64 b]) (h1:g 1 = [i64 c,i64 d]):fairS 2 (gx g 0) (gx g 1) = (validS a b && validS c d):=by
 rw [Bool.eq_iff_iff,fairS_iff,Bool.and_eq_true]
 constructor
 ·intro h
  have k0:=h 0 (by omega)
  have k1:=h 1 (by omega)
  simp only [gx,h0,h1,gi_0,gi_1] at k0 k1
  exact ⟨k0,k1⟩
 ·intro h i hi
  have:i = 0 ∨ i = 1:=by omega
  rcases this with rfl | rfl
  ·simp only [gx,h0,gi_0,gi_1]; exact h.1
  ·simp only [gx,h1,gi_0,gi_1]; exact h.2
theorem spots2 {a b c d:Int} {g:Nat → List AV} (h0:g 0 = [i64 a,i64 b]) (h1:g 1 = [i64 c,i64 d]) (ha:inR a) (hb:inR b) (hc:inR c) (hd:inR d):spots 2 g:=by
 intro i hi
 have:i = 0 ∨ i = 1:=by omega
 rcases this with rfl | rfl
 ·simp only [gx,h0,gi_0,gi_1]; exact ⟨trivial,ha,hb⟩
 ·simp only [gx,h1,gi_0,gi_1]; exact ⟨trivial,hc,hd⟩
theorem con272:ConOK Tryz.prog 272 c272:=ConOK.of (G:=[(271,c271)]) (H:=[(1,⟨[(12,.made 10),(13,.made 11)],[(6,[.made 10]),(8,[.made 10])]⟩)]) (.cons con271 .nil) Tryz.func272 fun l ob r hc hob => by
 unfold c272 at hc
 split at hc
 ·rename_i a b c d
  cases hc
  refine ⟨by kernel_rfl,fnVC_go (rs:=[.tmp 2]) rfl rfl ?_⟩
  simp only [go_sem,c271]
  have ha:inR a:=hob _ (by simp)
  have hb:inR b:=hob _ (by simp)
  have hc:inR c:=hob _ (by simp)
  have hd:inR d:=hob _ (by simp)
  intro z hz
  refine ⟨spots2 (a:=a) (b:=b) (c:=c) (d:=d) rfl rfl ha hb hc hd,?_⟩
  rw [fair2 (a:=a) (b:=b) (c:=c) (d:=d) rfl rfl] at hz
  subst hz
  simp only [checkBoxS,Bool.and_eq_true,Bool.and_eq_false_iff]
  refine ⟨fun h => ?_,fun h => ⟨fun h2 => ?_,fun h2 => ?_⟩⟩
  ·rw [if_neg (by rintro ⟨h1,h2⟩; rcases h with h | h <;> simp_all)]
  ·rw [if_pos h,if_pos h2]
  ·rw [if_pos h,if_neg (by omega)]
 ·cases hc
def c273:Con
 | [.agg [.v (.int .i64 x),.v (.int .i64 y)],.v (.int .i64 r)] => some ([],.agg [i64 (IntKind.i64.wrap (x - r)),i64 (IntKind.i64.wrap (y - r)),i64 (IntKind.i64.wrap (x + r)),i64 (IntKind.i64.wrap (y + r))])
 | _ => none
theorem con273:ConOK Tryz.prog 273 c273:=ConOK.of (G:=[]) (H:=[]) .nil Tryz.func273 fun l ob r hc hob => by
 unfold c273 at hc
 split at hc
 ·cases hc
  refine ⟨by kernel_rfl,fnVC_go (rs:=[.cell 4 257]) rfl rfl ?_⟩
  simp only [go_sem]
  intro z h z1 h1 z2 h2 z3 h3
  subst h h1 h2 h3
  rfl
 ·cases hc
def boxes (n:Nat) (g:Nat → List AV):Prop:=∀ i,i < n → g i = [i64 (gx g 0 i),i64 (gx g 1 i),i64 (gx g 2 i),i64 (gx g 3 i)] ∧ inR (gx g 0 i) ∧ inR (gx g 1 i) ∧ inR (gx g 2 i) ∧ inR (gx g 3 i)
def mnS (A:Nat → Int):Nat → Int
 | 0 => 0
 | i + 1 => if i = 0 then A 0 else min (mnS A i) (A i)
def mxS (A:Nat → Int):Nat → Int
 | 0 => 0
 | i + 1 => if i = 0 then A 0 else max (mxS A i) (A i)
def okB (n:Nat) (A B C D:Nat → Int):Prop:=∀ i,i < n → checkBoxS (A i) (B i) (C i) (D i) = 0
instance {n:Nat} {A B C D:Nat → Int}:Decidable (okB n A B C D):=by unfold okB; exact inferInstance
def joinS (n:Nat) (A B C D:Nat → Int) (k:Nat):Int:=if okB n A B C D then (match k with
 | 0 => mnS A n
 | 1 => mnS B n
 | 2 => mxS C n
 | _ => mxS D n) else 0
theorem mul_bd {x y A B:Int} (hA:0 ≤ A) (hx:-A ≤ x ∧ x ≤ A) (hy:-B ≤ y ∧ y ≤ B):-(A * B) ≤ x * y ∧ x * y ≤ A * B:=by
 have h1:(x * y).natAbs = x.natAbs * y.natAbs:=Int.natAbs_mul x y
 have h2:x.natAbs * y.natAbs ≤ A.natAbs * B.natAbs:=Nat.mul_le_mul (by omega) (by omega)
 have h3:(A * B).natAbs = A.natAbs * B.natAbs:=Int.natAbs_mul A B
 have h4:0 ≤ A * B:=Int.mul_nonneg hA (by omega)
 omega
def sm (x:Int):Prop:=-4194304 ≤ x ∧ x ≤ 4194304
theorem sm_mul {x y:Int} (hx:sm x) (hy:sm y):-17592186044416 ≤ x * y ∧ x * y ≤ 17592186044416:=by
 have:=mul_bd (A:=4194304) (B:=4194304) (by omega) hx hy
 omega
def c193:Con
 | [.agg [.v (.int .i64 a),.v (.int .i64 b)],.agg [.v (.int .i64 c),.v (.int .i64 d)]] => some ([],.agg [i64 (IntKind.i64.wrap (c - a)),i64 (IntKind.i64.wrap (d - b))])
 | _ => none
theorem con193:ConOK Tryz.prog 193 c193:=ConOK.of (G:=[]) (H:=[]) .nil Tryz.func193 fun l ob r hc hob => by
 unfold c193 at hc
 split at hc
 ·cases hc
  refine ⟨by kernel_rfl,fnVC_go (rs:=[.cell 4 116]) rfl rfl ?_⟩
  simp only [go_sem]
  intro z h z1 h1
  subst h h1
  rfl
 ·cases hc
def c258:Con
 | [.agg [.v (.int .i64 a),.v (.int .i64 b)],.agg [.v (.int .i64 c),.v (.int .i64 d)]] => some ([],i64 (IntKind.i64.wrap (IntKind.i64.wrap (a * d) - IntKind.i64.wrap (b * c))))
 | _ => none
theorem con258:ConOK Tryz.prog 258 c258:=ConOK.of (G:=[]) (H:=[]) .nil Tryz.func258 fun l ob r hc hob => by
 unfold c258 at hc
 split at hc
 ·cases hc
  refine ⟨by kernel_rfl,fnVC_go (rs:=[.tmp 4]) rfl rfl ?_⟩
  simp only [go_sem]
  intro z h z1 h1 z2 h2
  rw [h2,h1,h]
 ·cases hc
def turnS (ax ay bx byy cx cy:Int):Int:=(bx - ax) * (cy - ay) - (byy - ay) * (cx - ax)
theorem turn_wrap {ax ay bx byy cx cy:Int} (ha:validS ax ay = true) (hb:validS bx byy = true) (hc:validS cx cy = true) :
  IntKind.i64.wrap (IntKind.i64.wrap (IntKind.i64.wrap (bx - ax) * IntKind.i64.wrap (cy - ay)) - IntKind.i64.wrap (IntKind.i64.wrap (byy - ay) * IntKind.i64.wrap (cx - ax))) = turnS ax ay bx byy cx cy:=by
 rw [validS_iff] at ha hb hc
 rw [wrap_in (x:=bx - ax) (by unfold inR; omega),wrap_in (x:=cy - ay) (by unfold inR; omega),wrap_in (x:=byy - ay) (by unfold inR; omega),wrap_in (x:=cx - ax) (by unfold inR; omega)]
 have h1:=sm_mul (x:=bx - ax) (y:=cy - ay) (by unfold sm; omega) (by unfold sm; omega)
 have h2:=sm_mul (x:=byy - ay) (y:=cx - ax) (by unfold sm; omega) (by unfold sm; omega)
 rw [wrap_in (x:=(bx - ax) * (cy - ay)) (by unfold inR; omega),wrap_in (x:=(byy - ay) * (cx - ax)) (by unfold inR; omega),wrap_in (by unfold inR; omega)]
 rfl
def c256:Con
 | [.agg [.v (.int .i64 a),.v (.int .i64 b)],.agg [.v (.int .i64 c),.v (.int .i64 d)],.agg [.v (.int .i64 e),.v (.int .i64 f)]] => some ([validS a b = true,validS c d = true,validS e f = true],i64 (turnS a b c d e f))
 | _ => none
theorem con256:ConOK Tryz.prog 256 c256:=ConOK.of (G:=[(258,c258),(193,c193)]) (H:=[]) (.cons con258 (.cons con193 .nil)) Tryz.func256 fun l ob r hc hob => by
 unfold c256 at hc
 split at hc
 ·rename_i a b c d e f
  cases hc
  have h1:validS a b = true:=hob _ (by simp)
  have h2:validS c d = true:=hob _ (by simp)
  have h3:validS e f = true:=hob _ (by simp)
  refine ⟨by kernel_rfl,fnVC_go (rs:=[.tmp 6]) rfl rfl ?_⟩
  simp only [go_sem,c258,c193]
  intro z k z1 k1 z2 k2 z3 k3 z4 k4
  subst k k1 k2 k3
  rw [k4,turn_wrap h1 h2 h3]
 ·cases hc
end Go.Ax
end
section
set_option maxHeartbeats 4000000
set_option maxRecDepth 100000
namespace Go.Ax
open Go.Proofs
abbrev nb (a:Nb):AV:=.agg [i64 a.1,bo a.2]
abbrev ve (a b:Nb):AV:=.agg [i64 a.1,bo a.2,i64 b.1,bo b.2]
def nRat (a b:Int):Nb:=(raV a b,raF a b || false)
def nDot (a b c d:Nb):Nb:=(ftV ((whV a.1 * whV b.1 + whV c.1 * whV d.1).tdiv 4294967296),ftF ((whV a.1 * whV b.1 + whV c.1 * whV d.1).tdiv 4294967296) || (whF a.1 a.2 || whF b.1 b.2 || whF c.1 c.2 || whF d.1 d.2))
def nHyp (a b:Nb):Nb:=(ftV (isq (whV a.1 * whV a.1 + whV b.1 * whV b.1).toNat),ftF (isq (whV a.1 * whV a.1 + whV b.1 * whV b.1).toNat) || (whF a.1 a.2 || whF b.1 b.2))
def nSub (a b:Nb):Nb:=(ftV (whV a.1 - whV b.1),ftF (whV a.1 - whV b.1) || (whF a.1 a.2 || whF b.1 b.2))
def nPos (a:Nb):Nb:=(if 0 < whV a.1 then whV a.1 else 0,whF a.1 a.2)
theorem nRat_rg {a b:Int}:rg (nRat a b).1:=raV_rg
theorem nDot_rg {a b c d:Nb}:rg (nDot a b c d).1:=ftV_rg _
theorem nHyp_rg {a b:Nb}:rg (nHyp a b).1:=ftV_rg _
theorem nSub_rg {a b:Nb}:rg (nSub a b).1:=ftV_rg _
def c125:Con
 | [.agg [.v (.int .i64 x),.v (.int .i64 y)]] => some ([inR x,inR y],ve (nRat x 256) (nRat y 256))
 | _ => none
theorem con125:ConOK Tryz.prog 125 c125:=ConOK.of (G:=[(52,c52)]) (H:=[(1,⟨[(7,.slot 2)],[]⟩)]) (.cons con52 .nil) Tryz.func125 fun l ob r hc hob => by
 unfold c125 at hc
 split at hc
 ·rename_i x y
  cases hc
  have h_0:inR x:=hob _ (by simp)
  have h_1:inR y:=hob _ (by simp)
  refine ⟨by kernel_rfl,fnVC_go (rs:=[.cell 2 29]) rfl rfl ?_⟩
  simp only [go_sem,c52]
  simp only [forall_eq]
  exact ⟨h_0,by unfold inR; omega,h_1,by unfold inR; omega,rfl⟩
 ·cases hc
def c201:Con
 | [.v (.int .i64 x)] => some ([inR x],nb (nRat x 256))
 | _ => none
theorem con201:ConOK Tryz.prog 201 c201:=ConOK.of (G:=[(52,c52)]) (H:=[]) (.cons con52 .nil) Tryz.func201 fun l ob r hc hob => by
 unfold c201 at hc
 split at hc
 ·rename_i x
  cases hc
  have h_0:inR x:=hob _ (by simp)
  refine ⟨by kernel_rfl,fnVC_go (rs:=[.cell 2 27]) rfl rfl ?_⟩
  simp only [go_sem,c52]
  simp only [forall_eq]
  exact ⟨h_0,by unfold inR; omega,rfl⟩
 ·cases hc
def c175:Con
 | [.agg [.v (.int .i64 x),.v (.bool e),.v (.int .i64 y),.v (.bool f)]] => some ([inR x,inR y],nb (nHyp (x,e) (y,f)))
 | _ => none
theorem con175:ConOK Tryz.prog 175 c175:=ConOK.of (G:=[(162,c162)]) (H:=[]) (.cons con162 .nil) Tryz.func175 fun l ob r hc hob => by
 unfold c175 at hc
 split at hc
 ·rename_i x e y f
  cases hc
  have h_0:inR x:=hob _ (by simp)
  have h_1:inR y:=hob _ (by simp)
  refine ⟨by kernel_rfl,fnVC_go (rs:=[.cell 2 27]) rfl rfl ?_⟩
  simp only [go_sem,c162]
  simp only [forall_eq]
  exact ⟨h_0,h_1,rfl⟩
 ·cases hc
def c44:Con
 | [.agg [.v (.int .i64 x),.v (.bool e),.v (.int .i64 y),.v (.bool f)],.agg [.v (.int .i64 k),.v (.bool g)]] => some ([inR x,inR y,inR k],ve (nMul (x,e) (k,g)) (nMul (y,f) (k,g)))
 | _ => none
theorem con44:ConOK Tryz.prog 44 c44:=ConOK.of (G:=[(47,c47)]) (H:=[(1,⟨[(9,.slot 4)],[]⟩)]) (.cons con47 .nil) Tryz.func44 fun l ob r hc hob => by
 unfold c44 at hc
 split at hc
 ·rename_i x e y f k g
  cases hc
  have h_0:inR x:=hob _ (by simp)
  have h_1:inR y:=hob _ (by simp)
  have h_2:inR k:=hob _ (by simp)
  refine ⟨by kernel_rfl,fnVC_go (rs:=[.cell 4 29]) rfl rfl ?_⟩
  simp only [go_sem,c47]
  simp only [forall_eq]
  exact ⟨h_0,h_2,h_1,h_2,rfl⟩
 ·cases hc
def c174:Con
 | [.agg [.v (.int .i64 x),.v (.bool e),.v (.int .i64 y),.v (.bool f)],.agg [.v (.int .i64 z),.v (.bool g),.v (.int .i64 t),.v (.bool h)]] => some ([inR x,inR y,inR z,inR t],nb (nDot (x,e) (z,g) (y,f) (t,h)))
 | _ => none
theorem con174:ConOK Tryz.prog 174 c174:=ConOK.of (G:=[(129,c129)]) (H:=[]) (.cons con129 .nil) Tryz.func174 fun l ob r hc hob => by
 unfold c174 at hc
 split at hc
 ·rename_i x e y f z g t h
  cases hc
  have h_0:inR x:=hob _ (by simp)
  have h_1:inR y:=hob _ (by simp)
  have h_2:inR z:=hob _ (by simp)
  have h_3:inR t:=hob _ (by simp)
  refine ⟨by kernel_rfl,fnVC_go (rs:=[.cell 4 27]) rfl rfl ?_⟩
  simp only [go_sem,c129]
  simp only [forall_eq]
  exact ⟨h_0,h_2,h_1,h_3,rfl⟩
 ·cases hc
def c85:Con
 | [.agg [.v (.int .i64 x),.v (.bool e),.v (.int .i64 y),.v (.bool f)],.agg [.v (.int .i64 z),.v (.bool g),.v (.int .i64 t),.v (.bool h)]] => some ([inR x,inR y,inR z,inR t],nb (nDot (x,e) (t,h) (nNeg (y,f)) (z,g)))
 | _ => none
theorem con85:ConOK Tryz.prog 85 c85:=ConOK.of (G:=[(129,c129),(112,c112)]) (H:=[(1,⟨[(10,.slot 4)],[]⟩)]) (.cons con129 (.cons con112 .nil)) Tryz.func85 fun l ob r hc hob => by
 unfold c85 at hc
 split at hc
 ·rename_i x e y f z g t h
  cases hc
  have h_0:inR x:=hob _ (by simp)
  have h_1:inR y:=hob _ (by simp)
  have h_2:inR z:=hob _ (by simp)
  have h_3:inR t:=hob _ (by simp)
  refine ⟨by kernel_rfl,fnVC_go (rs:=[.cell 4 27]) rfl rfl ?_⟩
  simp only [go_sem,c129,c112]
  simp only [forall_eq]
  exact ⟨h_1,h_0,h_3,rg_inR (nNeg_rg (a:=(y,f)) h_1),h_2,rfl⟩
 ·cases hc
def c199:Con
 | [.v (.int .i64 x),.v (.int .i64 y)] => some ([inR x,inR y],ve (nInt x) (nInt y))
 | _ => none
theorem con199:ConOK Tryz.prog 199 c199:=ConOK.of (G:=[(103,c103)]) (H:=[]) (.cons con103 .nil) Tryz.func199 fun l ob r hc hob => by
 unfold c199 at hc
 split at hc
 ·rename_i x y
  cases hc
  have h_0:inR x:=hob _ (by simp)
  have h_1:inR y:=hob _ (by simp)
  refine ⟨by kernel_rfl,fnVC_go (rs:=[.cell 4 29]) rfl rfl ?_⟩
  simp only [go_sem,c103]
  simp only [forall_eq]
  exact ⟨h_0,h_1,rfl⟩
 ·cases hc
def c207:Con
 | [.agg [.v (.int .i64 x),.v (.int .i64 y)]] => some ([inR x,inR y],ve (nInt x) (nInt y))
 | _ => none
theorem con207:ConOK Tryz.prog 207 c207:=ConOK.of (G:=[(199,c199)]) (H:=[]) (.cons con199 .nil) Tryz.func207 fun l ob r hc hob => by
 unfold c207 at hc
 split at hc
 ·rename_i x y
  cases hc
  have h_0:inR x:=hob _ (by simp)
  have h_1:inR y:=hob _ (by simp)
  refine ⟨by kernel_rfl,fnVC_go (rs:=[.cell 2 29]) rfl rfl ?_⟩
  simp only [go_sem,c199]
  simp only [forall_eq]
  exact ⟨h_0,h_1,trivial⟩
 ·cases hc
def c200:Con
 | [.agg [.v (.int .i64 x),.v (.bool f)]] => some ([inR x],nb (nPos (x,f)))
 | _ => none
theorem con200:ConOK Tryz.prog 200 c200:=ConOK.of (G:=[(49,c49)]) (H:=[]) (.cons con49 .nil) Tryz.func200 fun l ob r hc hob => by
 unfold c200 at hc
 split at hc
 ·rename_i x f
  cases hc
  have h_0:inR x:=hob _ (by simp)
  refine ⟨by kernel_rfl,fnVC_go (rs:=[.cell 2 27]) rfl rfl ?_⟩
  simp only [go_sem,c49]
  simp only [forall_eq]
  refine ⟨nums2 rfl rfl (by unfold inR; omega) h_0,?_⟩
  rw [mo2 rfl rfl,(sum2 (a:=0) (b:=x) (e:=false) (f:=f) rfl rfl).2]
  have c1:whV 0 = 0:=by decide
  have c2:whF 0 false = false:=by decide
  have e1:((-1:Int) = 1) = False:=by decide
  simp only [c1,c2,e1,false_and,false_or,eq_self,true_and,Bool.false_or]
  rfl
 ·cases hc
theorem nums1 {a:Int} {e:Bool} {g:Nat → List AV} (h0:g 0 = [i64 a,bo e]) (ha:inR a):nums 1 g:=by
 intro i hi
 have:i = 0:=by omega
 subst this
 simp only [gx,gb,h0,gi_0,gib_1]; exact ⟨trivial,ha⟩
def spV (a:Nb):Int:=(whV (nMul a (nInt 256)).1 + 2147483648) / 4294967296
def vfS (n:Nat) (g:Nat → List AV):Bool:=anyB (fun i => whF (gx g 0 i) (gb g 1 i) || whF (gx g 2 i) (gb g 3 i)) n
theorem gib_3 {a b c:AV} {x:Bool} {l:List AV}:gib (a :: b :: c :: .v (.bool x) :: l) 3 = x:=(rfl)
attribute [go_sem] gib_3
def vecs (n:Nat) (g:Nat → List AV):Prop:=∀ i,i < n → g i = [i64 (gx g 0 i),bo (gb g 1 i),i64 (gx g 2 i),bo (gb g 3 i)] ∧ inR (gx g 0 i) ∧ inR (gx g 2 i)
def c188:Con
 | [.agg [.v (.int .i64 x),.v (.bool e),.v (.int .i64 y),.v (.bool f)]] => some ([inR x,inR y],bo (whF x e || whF y f))
 | _ => none
theorem con188:ConOK Tryz.prog 188 c188:=ConOK.of (G:=[(112,c112)]) (H:=[]) (.cons con112 .nil) Tryz.func188 fun l ob r hc hob => by
 unfold c188 at hc
 split at hc
 ·rename_i x e y f
  cases hc
  have h_0:inR x:=hob _ (by simp)
  have h_1:inR y:=hob _ (by simp)
  refine ⟨by kernel_rfl,fnVC_go (rs:=[.tmp 2]) rfl rfl ?_⟩
  simp only [go_sem,c112]
  simp only [forall_eq]
  exact ⟨h_0,fun _ => h_1,trivial⟩
 ·cases hc
def ixS (G:Nat → Bool):Nat → Nat → Int
 | _,0 => -1
 | i,k + 1 => if G i = true then i else ixS G (i + 1) k
theorem ixS_any {G:Nat → Bool} {n:Nat}:∀ (k i:Nat),i + k = n → (∀ j,j < i → G j = false) → decide (0 ≤ ixS G i k) = anyB G n
 | 0,i,h,hj => by
  have:anyB G n = false:=by
   rw [Bool.eq_false_iff]
   intro hc
   obtain ⟨j,h1,h2⟩:=anyB_iff.1 hc
   rw [hj j (by omega)] at h2; cases h2
  rw [this]; rfl
 | k + 1,i,h,hj => by
  unfold ixS
  by_cases hg:G i = true
  ·rw [if_pos hg,decide_eq_true (by omega)]
   exact (anyB_iff.2 ⟨i,by omega,hg⟩).symm
  ·rw [if_neg hg]
   exact ixS_any k (i + 1) (by omega) fun j hj2 => by
    by_cases e:j = i
    ·subst e; exact Bool.eq_false_iff.2 hg
    ·exact hj j (by omega)
def vflS (g:Nat → List AV) (i:Nat):Bool:=whF (gx g 0 i) (gb g 1 i) || whF (gx g 2 i) (gb g 3 i)
def c252:Con
 | [.ro n 4 g,.fn 188 []] => some ([vecs n g,n ≤ 1000],i64 (ixS (vflS g) 0 n))
 | _ => none
theorem vc252 (n:Nat) (X Y:Nat → Int) (E F:Nat → Bool) (hX:∀ i,i < n → inR (X i) ∧ inR (Y i)) (hn:n ≤ 1000):fnVC Tryz.prog [(188,c188)] [] Tryz.f252 [.ro n 4 fun i => [i64 (X i),bo (E i),i64 (Y i),bo (F i)],.fn 188 []] (· = i64 (ixS (fun i => whF (X i) (E i) || whF (Y i) (F i)) 0 n)):=by
 refine fnVC_go (rs:=[.tmp 4]) rfl rfl ?_
 simp only [go_sem]
 refine loopC_go (fun (i:Nat) => i ≤ n ∧ ixS (fun i => whF (X i) (E i) || whF (Y i) (F i)) 0 n = ixS (fun i => whF (X i) (E i) || whF (Y i) (F i)) i (n - i)) (fun i => n - i) (fun i => [(8,i64 i)]) (fun _ => []) [] [9,10,5,11,12,13,14,15,16,17,4,18,8] 0 (by kernel_rfl) ?_ ⟨Nat.zero_le _,rfl⟩ ?_ ?_
 ·intro x _; simp [goodNames]
 ·simp only [go_sem]
 ·intro i hi
  simp only [go_sem,c188]
  generalize hG:(fun i => whF (X i) (E i) || whF (Y i) (F i)) = G at *
  have hGi:G i = (whF (X i) (E i) || whF (Y i) (F i)):=by rw [← hG]
  rw [← hGi]
  refine ⟨fun h => ⟨by omega,h,fun z hz => ⟨(hX i (by omega)).1,(hX i (by omega)).2,fun hz1 => ?_,fun hz1 z2 hz2 => ⟨i + 1,⟨by omega,?_⟩,by omega,?_⟩⟩⟩,fun h => ?_⟩
  ·rw [hi.2,show n - i = (n - i - 1) + 1 by omega]
   unfold ixS
   rw [if_pos (by rw [← hz]; exact hz1)]
  ·rw [hi.2,show n - i = (n - i - 1) + 1 by omega]
   conv => lhs; unfold ixS
   rw [if_neg (by rw [← hz,hz1]; decide),show n - (i + 1) = n - i - 1 by omega]
  ·rw [hz2,wrap_in (by unfold inR; omega)]; rfl
  ·rw [hi.2,show n - i = 0 by omega]; rfl
theorem con252:ConOK Tryz.prog 252 c252:=ConOK.go (G:=[(188,c188)]) (H:=[]) (.cons con188 .nil) Tryz.func252 fun l ob r hc hob => by
 unfold c252 at hc
 split at hc
 ·rename_i n g
  cases hc
  have hs:vecs n g:=hob _ (by simp)
  refine ⟨[.ro n 4 fun i => [i64 (gx g 0 i),bo (gb g 1 i),i64 (gx g 2 i),bo (gb g 3 i)],.fn 188 []],fun w I vs h => ?_,by kernel_rfl,vc252 n _ _ _ _ (fun i hi => (hs i hi).2) (hob _ (by simp))⟩
  obtain ⟨x,xs,rfl,h1,h2⟩:=h.inv
  exact .cons (ro_alike (fun i hi => (hs i hi).1) h1) h2
 ·cases hc
def c187:Con
 | [.ro n 4 g,.fn 188 []] => some ([vecs n g,n ≤ 1000],bo (vfS n g))
 | _ => none
theorem con187:ConOK Tryz.prog 187 c187:=ConOK.of (G:=[(252,c252)]) (H:=[]) (.cons con252 .nil) Tryz.func187 fun l ob r hc hob => by
 unfold c187 at hc
 split at hc
 ·rename_i n g
  cases hc
  have h_0:vecs n g:=hob _ (by simp)
  have h_1:n ≤ 1000:=hob _ (by simp)
  refine ⟨by kernel_rfl,fnVC_go (rs:=[.tmp 4]) rfl rfl ?_⟩
  simp only [go_sem,c252]
  simp only [forall_eq]
  exact ⟨h_0,h_1,ixS_any n 0 (by omega) fun j hj => by omega⟩
 ·cases hc
def c128:Con
 | [.ro n 4 g] => some ([vecs n g,n ≤ 1000],bo (vfS n g))
 | _ => none
theorem con128:ConOK Tryz.prog 128 c128:=ConOK.of (G:=[(187,c187)]) (H:=[]) (.cons con187 .nil) Tryz.func128 fun l ob r hc hob => by
 unfold c128 at hc
 split at hc
 ·rename_i n g
  cases hc
  have h_0:vecs n g:=hob _ (by simp)
  have h_1:n ≤ 1000:=hob _ (by simp)
  refine ⟨by kernel_rfl,fnVC_go (rs:=[.tmp 2]) rfl rfl ?_⟩
  simp only [go_sem,c187]
  simp only [forall_eq]
  exact ⟨h_0,h_1,trivial⟩
 ·cases hc
theorem vecs1 {a b:Int} {e f:Bool} {g:Nat → List AV} (h0:g 0 = [i64 a,bo e,i64 b,bo f]) (ha:inR a) (hb:inR b):vecs 1 g:=by
 intro i hi
 have:i = 0:=by omega
 subst this
 simp only [gx,gb,h0,gi_0,gib_1,gi_2,gib_3]; exact ⟨trivial,ha,hb⟩
theorem vf1 {a b:Int} {e f:Bool} {g:Nat → List AV} (h0:g 0 = [i64 a,bo e,i64 b,bo f]):vfS 1 g = (whF a e || whF b f):=by
 simp only [vfS,anyB,gx,gb,h0,gi_0,gib_1,gi_2,gib_3,Bool.false_or]
def unB (x y:Int):Nb × Nb:=if ab x < 16777216 ∧ ab y < 16777216 then ((x * 16777216,false),(y * 16777216,false)) else ((x,false),(y,false))
def unS (x:Int) (e:Bool) (y:Int) (f:Bool):Bool × Nb × Nb:=
 if whF x e = true ∨ whF y f = true then (false,(0,false),(0,false))
 else if (nHyp (unB x y).1 (unB x y).2).2 = true ∨ (nHyp (unB x y).1 (unB x y).2).1 = 0 then (false,(0,false),(0,false))
 else (true,nDiv (unB x y).1 (nHyp (unB x y).1 (unB x y).2),nDiv (unB x y).2 (nHyp (unB x y).1 (unB x y).2))
theorem wh_split {v:Int} {f:Bool} (h:whF v f = false):v ≠ -9223372036854775808 ∧ f = false:=by
 unfold whF at h
 rw [Bool.or_eq_false_iff] at h
 exact ⟨of_decide_eq_false h.1,h.2⟩
theorem unS_none {x y:Int} {e f:Bool} (h:whF x e = true ∨ whF y f = true):unS x e y f = (false,(0,false),(0,false)):=by unfold unS; rw [if_pos h]
theorem unS_nul {x y:Int} {e f:Bool} {a b:Nb} (h:¬ (whF x e = true ∨ whF y f = true)) (hb:unB x y = (a,b)) (h2:(nHyp a b).2 = true ∨ (nHyp a b).1 = 0):unS x e y f = (false,(0,false),(0,false)):=by unfold unS; rw [if_neg h,hb,if_pos h2]
theorem unS_some {x y:Int} {e f:Bool} {a b:Nb} (h:¬ (whF x e = true ∨ whF y f = true)) (hb:unB x y = (a,b)) (h2:¬ ((nHyp a b).2 = true ∨ (nHyp a b).1 = 0)):unS x e y f = (true,nDiv a (nHyp a b),nDiv b (nHyp a b)):=by unfold unS; rw [if_neg h,hb,if_neg h2]
def c172:Con
 | [.agg [.v (.int .i64 x),.v (.bool e),.v (.int .i64 y),.v (.bool f)]] => some ([inR x,inR y],.tup [ve (unS x e y f).2.1 (unS x e y f).2.2,bo (unS x e y f).1])
 | _ => none
theorem con172:ConOK Tryz.prog 172 c172:=ConOK.of (G:=[(128,c128),(175,c175),(78,c78)]) (H:=[(8,⟨[(9,.slot 2)],[]⟩)]) (.cons con128 (.cons con175 (.cons con78 .nil))) Tryz.func172 fun l ob r hc hob => by
 unfold c172 at hc
 split at hc
 ·rename_i x e y f
  cases hc
  have h_0:inR x:=hob _ (by simp)
  have h_1:inR y:=hob _ (by simp)
  refine ⟨by kernel_rfl,fnVC_go (rs:=[.cell 2 29,.tmp 3]) rfl rfl ?_⟩
  simp only [go_sem,c128,c175,c78]
  intro z hz
  refine ⟨vecs1 rfl h_0 h_1,fun ht => ?_,fun ht z1 hz1 z2 hz2 z3 hz3 => ?_⟩
  ·rw [hz,vf1 rfl] at ht
   have ht:whF x e = true ∨ whF y f = true:=by simpa using ht
   rw [unS_none ht]
  ·rw [hz,vf1 rfl] at ht
   have ht2:whF x e = false ∧ whF y f = false:=by simpa using ht
   have ht:¬ (whF x e = true ∨ whF y f = true):=by rw [ht2.1,ht2.2]; simp
   obtain ⟨hx,rfl⟩:=wh_split ht2.1
   obtain ⟨hy,rfl⟩:=wh_split ht2.2
   have hm:z3 < 16777216 ↔ ab x < 16777216 ∧ ab y < 16777216:=by
    rw [hz3,hz1,hz2,wrap_in (by unfold inR at *; omega),wrap_in (by unfold inR at *; omega)]
    unfold ab
    split <;> split <;> omega
   refine ⟨fun hs => ?_,fun hs => ?_⟩
   ·have hs:=hm.1 hs
    have hxb:-16777216 < x ∧ x < 16777216:=by unfold ab at hs; have:=hs.1; split at this <;> omega
    have hyb:-16777216 < y ∧ y < 16777216:=by unfold ab at hs; have:=hs.2; split at this <;> omega
    have hb:unB x y = ((x * 16777216,false),(y * 16777216,false)):=by unfold unB; rw [if_pos hs]
    rw [wrap_in (x:=x * 16777216) (by unfold inR; omega),wrap_in (x:=y * 16777216) (by unfold inR; omega)]
    simp only [forall_eq]
    refine ⟨by unfold inR; omega,by unfold inR; omega,fun h => ?_,fun h => ⟨by unfold inR; omega,rg_inR nHyp_rg,by unfold inR; omega,rg_inR nHyp_rg,?_⟩⟩
    ·rw [unS_nul ht hb (by simpa using h)]
    ·rw [unS_some ht hb (by simpa using h)]
     rfl
   ·have hs:¬ (ab x < 16777216 ∧ ab y < 16777216):=fun h => hs (hm.2 h)
    have hb:unB x y = ((x,false),(y,false)):=by unfold unB; rw [if_neg hs]
    simp only [forall_eq]
    refine ⟨h_0,h_1,fun h => ?_,fun h => ⟨h_0,rg_inR nHyp_rg,h_1,rg_inR nHyp_rg,?_⟩⟩
    ·rw [unS_nul ht hb (by simpa using h)]
    ·rw [unS_some ht hb (by simpa using h)]
     rfl
 ·cases hc
theorem unS_rg {x y:Int} {e f:Bool}:rg (unS x e y f).2.1.1 ∧ rg (unS x e y f).2.2.1:=by
 have z:rg 0:=by unfold rg; omega
 unfold unS
 split
 ·exact ⟨z,z⟩
 ·split
  ·exact ⟨z,z⟩
  ·exact ⟨nDiv_rg,nDiv_rg⟩
def noS (a b c d:Int):Bool × Nb × Nb:=unS (nInt (d - b)).1 (nInt (d - b)).2 (nInt (-(c - a))).1 (nInt (-(c - a))).2
def c203:Con
 | [.agg [.v (.int .i64 a),.v (.int .i64 b)],.agg [.v (.int .i64 c),.v (.int .i64 d)]] => some ([validS a b = true,validS c d = true],ve (noS a b c d).2.1 (noS a b c d).2.2)
 | _ => none
theorem con203:ConOK Tryz.prog 203 c203:=ConOK.of (G:=[(193,c193),(207,c207),(172,c172)]) (H:=[]) (.cons con193 (.cons con207 (.cons con172 .nil))) Tryz.func203 fun l ob r hc hob => by
 unfold c203 at hc
 split at hc
 ·rename_i a b c d
  cases hc
  have h_0:validS a b = true:=hob _ (by simp)
  have h_1:validS c d = true:=hob _ (by simp)
  refine ⟨by kernel_rfl,fnVC_go (rs:=[.cell 4 29]) rfl rfl ?_⟩
  simp only [go_sem,c193,c207,c172]
  have v1:=validS_iff.1 h_0
  have v2:=validS_iff.1 h_1
  simp only [forall_eq]
  rw [wrap_in (x:=c - a) (by unfold inR; omega),wrap_in (x:=d - b) (by unfold inR; omega),wrap_in (x:=0 - (c - a)) (by unfold inR; omega),show (0:Int) - (c - a) = -(c - a) by omega]
  exact ⟨by unfold inR; omega,by unfold inR; omega,rg_inR nInt_rg,rg_inR nInt_rg,rfl⟩
 ·cases hc
theorem suS_congr {X Y:Nat → Int}:∀ {n:Nat},(∀ i,i < n → X i = Y i) → suS X n = suS Y n
 | 0,_ => rfl
 | n + 1,h => by unfold suS; rw [suS_congr (n:=n) fun i hi => h i (by omega),h n (by omega)]
theorem anyB_congr {X Y:Nat → Bool}:∀ {n:Nat},(∀ i,i < n → X i = Y i) → anyB X n = anyB Y n
 | 0,_ => rfl
 | n + 1,h => by unfold anyB; rw [anyB_congr (n:=n) fun i hi => h i (by omega),h n (by omega)]
def upB (i:Nat) (Z:Nat → Bool) (j:Nat):Bool:=if j < i then Z j else false
theorem upB_zero {Z:Nat → Bool} {j:Nat}:upB 0 Z j = false:=by unfold upB; rw [if_neg (by omega)]
theorem upB_self {i:Nat} {Z:Nat → Bool}:upB (i + 1) Z i = Z i:=by unfold upB; rw [if_pos (by omega)]
theorem upB_lt {i j:Nat} {Z:Nat → Bool} (h:j < i):upB i Z j = Z j:=by unfold upB; rw [if_pos h]
theorem upB_ne {i j:Nat} {Z:Nat → Bool} (h:j ≠ i):upB (i + 1) Z j = upB i Z j:=by
 unfold upB
 by_cases e:j < i
 ·rw [if_pos e,if_pos (by omega)]
 ·rw [if_neg e,if_neg (by omega)]
def su1 (n:Nat) (X:Nat → Int) (E:Nat → Bool):Nb:=(ftV (suS (fun i => whV (X i)) n),ftF (suS (fun i => whV (X i)) n) || anyB (fun i => whF (X i) (E i)) n)
theorem wvS_up {n:Nat} {X:Nat → Int} {E:Nat → Bool} {g:Nat → List AV} (h:∀ j,j < n → g j = [i64 (X j),bo (E j)]):suS (wvS g) n = suS (fun i => whV (X i)) n ∧ wfS n g = anyB (fun i => whF (X i) (E i)) n:=
 ⟨suS_congr fun i hi => by simp only [wvS,gx,h i hi,gi_0],anyB_congr fun i hi => by simp only [gx,gb,h i hi,gi_0,gib_1]⟩
theorem nums_up {n:Nat} {X:Nat → Int} {E:Nat → Bool} {g:Nat → List AV} (h:∀ j,j < n → g j = [i64 (X j),bo (E j)]) (hX:∀ j,j < n → inR (X j)):nums n g:=fun i hi => by
 simp only [gx,gb,h i hi,gi_0,gib_1]; exact ⟨trivial,hX i hi⟩
def c43:Con
 | [.ro n 4 g] => some ([vecs n g,n ≤ 1000],ve (su1 n (gx g 0) (gb g 1)) (su1 n (gx g 2) (gb g 3)))
 | _ => none
theorem vc43 (n:Nat) (X Y:Nat → Int) (E F:Nat → Bool) (hX:∀ i,i < n → inR (X i) ∧ inR (Y i)) (hn:n ≤ 1000):fnVC Tryz.prog [(68,c68)] [(5,⟨[(9,.slot 3),(11,.slot 4)],[(7,[.slot 3])]⟩)] Tryz.f43 [.ro n 4 fun i => [i64 (X i),bo (E i),i64 (Y i),bo (F i)]] (· = ve (su1 n X E) (su1 n Y F)):=by
 refine fnVC_go (rs:=[.cell 2 29]) rfl rfl ?_
 simp only [go_sem]
 have hb:((bytesT Tryz.prog 27:Nat):Int) * (n:Int) ≤ 281474976710656:=by rw [show bytesT Tryz.prog 27 = 16 by kernel_rfl]; omega
 refine ⟨by omega,by omega,hb,by omega,by omega,hb,?_⟩
 refine loopC_go (fun (i:Nat) => i ≤ n) (fun i => n - i) (fun i => [(15,i64 i)]) (fun i => [(6,famN n 2 27 (fun j => [i64 (uptN i Y j),bo (upB i F j)]) none),(3,famN n 2 27 (fun j => [i64 (uptN i X j),bo (upB i E j)]) none)]) [0] [16,17,18,19,6,5,20,21,22,23,24,25,26,27,28,29,30,15] 0 (by kernel_rfl) ?_ (Nat.zero_le _) ?_ ?_
 ·intro x _; simp [goodNames,asg]
 ·simp only [go_sem,uptN_zero,upB_zero,implies_true]
 ·intro i hi
  simp only [go_sem,c68]
  have hw:IntKind.i64.wrap ((i:Int) + 1) = ((i + 1:Nat):Int):=by rw [wrap_in (by unfold inR; omega)]; rfl
  refine ⟨fun hin => ⟨by omega,hin,by omega,hin,by omega,by omega,hin,by omega,fun z hz => ⟨i + 1,by omega,by omega,by rw [hz,hw],fun j hj => ?_,fun j hj => ?_⟩⟩,fun hin => ?_⟩
  ·by_cases e:j = i
   ·subst e
    rw [if_pos rfl]
    simp only [go_sem,uptN_self,upB_self]
   ·rw [if_neg e]
    have h1:∀ Z,uptN (i + 1) Z j = uptN i Z j:=fun Z => uptN_ne e
    have h2:∀ Z,upB (i + 1) Z j = upB i Z j:=fun Z => upB_ne e
    simp only [go_sem,h1,h2]
  ·by_cases e:j = i
   ·subst e
    rw [if_pos rfl]
    simp only [go_sem,uptN_self,upB_self]
   ·rw [if_neg e]
    have h1:∀ Z,uptN (i + 1) Z j = uptN i Z j:=fun Z => uptN_ne e
    have h2:∀ Z,upB (i + 1) Z j = upB i Z j:=fun Z => upB_ne e
    simp only [go_sem,h1,h2]
  ·have e:i = n:=by omega
   subst e
   have hx:∀ j,j < i → (fun j => [i64 (uptN i X j),bo (upB i E j)]) j = [i64 (X j),bo (E j)]:=fun j hj => by dsimp only; rw [uptN_lt hj,upB_lt hj]
   have hy:∀ j,j < i → (fun j => [i64 (uptN i Y j),bo (upB i F j)]) j = [i64 (Y j),bo (F j)]:=fun j hj => by dsimp only; rw [uptN_lt hj,upB_lt hj]
   obtain ⟨e1,e2⟩:=wvS_up hx
   obtain ⟨e3,e4⟩:=wvS_up hy
   simp only [forall_eq,e1,e2,e3,e4]
   exact ⟨nums_up hx fun j hj => (hX j hj).1,hn,nums_up hy fun j hj => (hX j hj).2,hn,rfl⟩
theorem con43:ConOK Tryz.prog 43 c43:=ConOK.go (G:=[(68,c68)]) (H:=[(5,⟨[(9,.slot 3),(11,.slot 4)],[(7,[.slot 3])]⟩)]) (.cons con68 .nil) Tryz.func43 fun l ob r hc hob => by
 unfold c43 at hc
 split at hc
 ·rename_i n g
  cases hc
  have hs:vecs n g:=hob _ (by simp)
  exact ⟨[.ro n 4 fun i => [i64 (gx g 0 i),bo (gb g 1 i),i64 (gx g 2 i),bo (gb g 3 i)]],fun w I vs h => Rs_one (fun v => ro_alike fun i hi => (hs i hi).1) h,by kernel_rfl,vc43 n _ _ _ _ (fun i hi => (hs i hi).2) (hob _ (by simp))⟩
 ·cases hc
theorem vecs2 {a b c d:Int} {e f p q:Bool} {g:Nat → List AV} (h0:g 0 = [i64 a,bo e,i64 b,bo f]) (h1:g 1 = [i64 c,bo p,i64 d,bo q]) (ha:inR a) (hb:inR b) (hc:inR c) (hd:inR d):vecs 2 g:=by
 intro i hi
 have:i = 0 ∨ i = 1:=by omega
 rcases this with rfl | rfl
 ·simp only [gx,gb,h0,gi_0,gib_1,gi_2,gib_3]; exact ⟨trivial,ha,hb⟩
 ·simp only [gx,gb,h1,gi_0,gib_1,gi_2,gib_3]; exact ⟨trivial,hc,hd⟩
theorem su2x {a b c d:Int} {e f p q:Bool} {g:Nat → List AV} (h0:g 0 = [i64 a,bo e,i64 b,bo f]) (h1:g 1 = [i64 c,bo p,i64 d,bo q]):su1 2 (gx g 0) (gb g 1) = nAdd (a,e) (c,p):=by
 unfold su1 nAdd
 simp only [suS,anyB,gx,gb,h0,h1,gi_0,gib_1,Bool.false_or,Int.zero_add]
theorem su2y {a b c d:Int} {e f p q:Bool} {g:Nat → List AV} (h0:g 0 = [i64 a,bo e,i64 b,bo f]) (h1:g 1 = [i64 c,bo p,i64 d,bo q]):su1 2 (gx g 2) (gb g 3) = nAdd (b,f) (d,q):=by
 unfold su1 nAdd
 simp only [suS,anyB,gx,gb,h0,h1,gi_2,gib_3,Bool.false_or,Int.zero_add]
end Go.Ax
end
section
set_option maxHeartbeats 2000000
set_option maxRecDepth 100000
namespace Go.Ax
open Go.Proofs
def joinT (a b c d e f g h:Int) (k:Nat):Int:=if checkBoxS a b c d = 0 ∧ checkBoxS e f g h = 0 then (match k with
 | 0 => min a e
 | 1 => min b f
 | 2 => max c g
 | _ => max d h) else 0
theorem rows_0 {a b c d:AV} {l:List AV}:rowsOf 4 (a :: b :: c :: d :: l) 0 = [a,b,c,d]:=(rfl)
theorem rows_1 {a b c d e f g h:AV} {l:List AV}:rowsOf 4 (a :: b :: c :: d :: e :: f :: g :: h :: l) 1 = [e,f,g,h]:=(rfl)
theorem boxes_2 {a b c d e f g h:Int}:boxes 2 (rowsOf 4 [i64 a,i64 b,i64 c,i64 d,i64 e,i64 f,i64 g,i64 h]) = ((inR a ∧ inR b ∧ inR c ∧ inR d) ∧ inR e ∧ inR f ∧ inR g ∧ inR h):=propext ⟨fun H => by
  have h0:=(H 0 (by omega)).2
  have h1:=(H 1 (by omega)).2
  simp only [gx,rows_0,rows_1,gi_0,gi_1,gi_2,gi_3] at h0 h1
  exact ⟨h0,h1⟩,fun ⟨h0,h1⟩ i hi => by
  have:i = 0 ∨ i = 1:=by omega
  rcases this with rfl | rfl
  ·simp only [gx,rows_0,gi_0,gi_1,gi_2,gi_3]; exact ⟨trivial,h0⟩
  ·simp only [gx,rows_1,gi_0,gi_1,gi_2,gi_3]; exact ⟨trivial,h1⟩⟩
theorem okB_2 {A B C D:Nat → Int}:okB 2 A B C D ↔ checkBoxS (A 0) (B 0) (C 0) (D 0) = 0 ∧ checkBoxS (A 1) (B 1) (C 1) (D 1) = 0:=
 ⟨fun h => ⟨h 0 (by omega),h 1 (by omega)⟩,fun ⟨h0,h1⟩ i hi => by
  have:i = 0 ∨ i = 1:=by omega
  rcases this with rfl | rfl <;> assumption⟩
theorem join_2 {a b c d e f g h:Int} {k:Nat} (hk:k < 4):joinS 2 (gx (rowsOf 4 [i64 a,i64 b,i64 c,i64 d,i64 e,i64 f,i64 g,i64 h]) 0) (gx (rowsOf 4 [i64 a,i64 b,i64 c,i64 d,i64 e,i64 f,i64 g,i64 h]) 1) (gx (rowsOf 4 [i64 a,i64 b,i64 c,i64 d,i64 e,i64 f,i64 g,i64 h]) 2) (gx (rowsOf 4 [i64 a,i64 b,i64 c,i64 d,i64 e,i64 f,i64 g,i64 h]) 3) k = joinT a b c d e f g h k:=by
 unfold joinS joinT
 simp only [okB_2,mnS,mxS,gx,rows_0,rows_1,gi_0,gi_1,gi_2,gi_3]
 have:k = 0 ∨ k = 1 ∨ k = 2 ∨ k = 3:=by omega
 rcases this with rfl | rfl | rfl | rfl <;> simp
attribute [go_sem] boxes_2 join_2 Nat.lt_irrefl
end Go.Ax
end
section
set_option maxHeartbeats 1000000
set_option maxRecDepth 100000
namespace Go.Ax
open Go.Proofs
def nxt (n i:Nat):Nat:=if i + 1 < n then i + 1 else 0
theorem nxt_lt {n i:Nat} (h:i < n):nxt n i < n:=by unfold nxt; split <;> omega
def edgeE (n:Nat) (g:Nat → List AV) (i:Nat):List AV:=[.agg [i64 (gx g 0 i),i64 (gx g 1 i)],.agg [i64 (gx g 0 (nxt n i)),i64 (gx g 1 (nxt n i))]]
def c257:Con
 | [.rop [.ro n 2 g]] => some ([spots n g,n ≤ 9223372036854775806],.ro n 2 (edgeE n g))
 | _ => none
structure At257 (I:Nat → Prop) (w:World) (J:Nat → World → Prop) (l n:Nat) (v1 x:Value) (i:Nat) (a:Act) (W:World):Prop where
 sz:a.tmps.size = 38
 de:a.defers = []
 t0:a.tmps.getD 0 undef = .func (.yield l) #[] #[]
 t1:a.tmps.getD 1 undef = v1
 t3:a.tmps.getD 3 undef = .int .i64 (IntKind.i64.wrap (n - 1))
 t12:a.tmps.getD 12 undef = x
 t13:a.tmps.getD 13 undef = .int .i64 n
 t14:a.tmps.getD 14 undef = .int .i64 i
 le:i ≤ n
 j:J i W
 same:Same I w W
def sg (g:Nat → List AV):Nat → List AV:=fun i => [i64 (gx g 0 i),i64 (gx g 1 i)]
theorem sg_eq {g:Nat → List AV}:sg g = fun i => [i64 (gx g 0 i),i64 (gx g 1 i)]:=(rfl)
theorem seq257:SeqOK Tryz.prog 257 c257:=by
 intro es ob N k sq hc hob
 unfold c257 at hc
 split at hc
 case h_2 => cases hc
 rename_i n g
 simp only [Option.some.injEq,Prod.mk.injEq,AV.ro.injEq] at hc
 obtain ⟨rfl,rfl,rfl,rfl⟩:=hc
 have hsp:spots n g:=hob _ (by simp)
 have hn:n ≤ 9223372036854775806:=hob _ (by simp)
 intro I w vs nn l J Jx hI hRs hJ hJx h0 hy
 obtain ⟨v1,rest,rfl,hv1,hrest⟩:=hRs.inv
 have:rest = []:=by have:=hrest.1; simpa using this
 subst this
 cases hv1 with
 | rop b o hib hex hr =>
 obtain ⟨x,hx⟩:=hex 0 (by simp)
 have hx:Has w b o x:=hx
 have hib:I b:=hib
 have hxr:R w (.ext I) (.ro n 2 (sg g)) x:=ro_alike (fun i hi => (hsp i hi).1) (hr 0 _ x rfl hx)
 have hvx:R w (.ext I) (.rop [.v x]) (.pointer (some ⟨b,o,none⟩)):=rop1 hib hx .v
 have hvr:R w (.ext I) (.rop [.ro n 2 (sg g)]) (.pointer (some ⟨b,o,none⟩)):=rop1 hib hx hxr
 refine ⟨callFunc_enter Tryz.func257 (by kernel_rfl) rfl,?_⟩
 refine callsIn_of_wp_marks (F:=Fence.wide) Tryz.func257 rfl trivial ?_
 have hm:Tryz.prog.follows .mixedOrders = true:=by kernel_rfl
 rw [show Tryz.f257.ntmps = 38 from by kernel_rfl]
 generalize hes:(#[Value.func (.yield l) #[] #[]] ++ [Value.pointer (some ⟨b,o,none⟩)].toArray:Array Value) = es
 have hes2:es.size = 2:=by rw [← hes]; rfl
 have hes0:es[0]? = some (.func (.yield l) #[] #[]):=by rw [← hes]; rfl
 have hes1:es[1]? = some (.pointer (some ⟨b,o,none⟩)):=by rw [← hes]; rfl
 generalize ha:(Act.mk (es ++ Array.replicate (38 - es.size) undef) []) = a
 have hsz:a.tmps.size = 38:=by rw [← ha]; exact start_size (by omega)
 have hde:a.defers = []:=by rw [← ha]
 have ht0:a.tmps.getD 0 undef = .func (.yield l) #[] #[]:=by rw [← ha]; exact start_get hes0
 have ht1:a.tmps.getD 1 undef = .pointer (some ⟨b,o,none⟩):=by rw [← ha]; exact start_get hes1
 clear ha hes hes0 hes1 hes2
 have keepR:∀ {av:AV} {v:Value} {W:World},R w (.ext I) av v → Same I w W → R W (.ext I) av v:=fun h hs => h.mono (.refl _) hs
 have ltI:∀ {W:World},Same I w W → ∀ b,I b → b < W.heap.size:=fun {W} hs b hb => by
  have h1:=hs b hb
  have h2:=hI b hb
  rw [Array.getElem?_eq_getElem h2] at h1
  exact (Array.getElem?_eq_some_iff.1 h1).1
 -- region 0
 refine wpIn_seq (pieceI (G:=[]) (H:=[]) .nil hm (l:=[(1,.rop [.ro n 2 (sg g)])]) (W:=[7,8,9,10,3]) (K:=fun e s => match e with | .normal => slot s.t 3 = i64 (IntKind.i64.wrap (n - 1)) | _ => False) (by kernel_rfl) (by kernel_rfl) (by kernel_rfl) ?_ hI hsz ?_ ?_)
 ·refine awp_go (K1:=fun e t _ => match e with | .normal => slot t 3 = i64 (IntKind.i64.wrap (n - 1)) | _ => False) ?_
  simp only [go_sem,List.range,List.range.loop]
  exact fun _ => trivial
 ·intro p hp; simp only [List.mem_singleton] at hp; subst hp; dsimp only; rw [ht1]; exact hvr
 intro e s1 ρ1 a1 w1 k1 k2
 cases e with
 | exit j => exact k1.elim
 | ret => exact k1.elim
 | normal =>
 have bel1:RowKit.Below w.heap.size w w1:=k2.rel.below
 have hs1:Same I w w1:=Same.of_below bel1 hI
 have hj1:J 0 w1:=hJ 0 w w1 h0 bel1
 have u0:a1.tmps.getD 0 undef = .func (.yield l) #[] #[]:=(k2.frame 0 (show ¬ (0:Nat) ∈ [7,8,9,10,3] by decide)).trans ht0
 have u1:a1.tmps.getD 1 undef = .pointer (some ⟨b,o,none⟩):=(k2.frame 1 (show ¬ (1:Nat) ∈ [7,8,9,10,3] by decide)).trans ht1
 have u3:=k2.val k1
 have usz:=k2.size
 have ude:a1.defers = []:=k2.defers.trans hde
 clear k1 k2 s1 ρ1 hsz hde ht0 ht1
 -- region 1
 refine wpIn_seq (region_split (G:=[]) (nt:=38) (s:=⟨[(1,.rop [.v x])] ++ anyS (List.range 38),[],0⟩) (ds:=⟨[],(· ∈ [11,12,13,14]),a1.tmps⟩) .nil 2 (by decide) (K:=fun s => slot s.t 12 = .v x) (by kernel_rfl) (fun j hj => hj) ?_ (SR.anew (ltI hs1) (slots_R usz ?_) usz ude (fun _ _ => rfl)) ?_)
 ·refine regP_go (K1:=fun t _ => slot t 12 = .v x) ?_
  simp only [go_sem,List.range,List.range.loop]
 ·intro p hp; simp only [List.mem_singleton] at hp; subst hp; dsimp only; rw [u1]; exact keepR hvx hs1
 intro s2 ρ2 a2 w2 k1 k2
 have bel2:RowKit.Below w1.heap.size w1 w2:=k2.rel.below
 have hs2:Same I w w2:=hs1.trans (Same.of_below bel2 (ltI hs1))
 have hj2:J 0 w2:=hJ 0 w1 w2 hj1 bel2
 have v0:=(k2.frame 0 (show ¬ (0:Nat) ∈ [11,12,13,14] by decide)).trans u0
 have v1:=(k2.frame 1 (show ¬ (1:Nat) ∈ [11,12,13,14] by decide)).trans u1
 have v3:=(k2.frame 3 (show ¬ (3:Nat) ∈ [11,12,13,14] by decide)).trans u3
 have v12:=k2.val k1
 have vsz:=k2.size
 have vde:a2.defers = []:=k2.defers
 clear k1 k2 s2 ρ2 usz ude u0 u1 u3 bel1 bel2 hj1 hs1
 refine region_rest (G:=[]) (nt:=38) (s:=⟨[(12,.ro n 2 (sg g))] ++ anyS (List.range 38),[],0⟩) (ds:=⟨[],(· ∈ [13,14]),a2.tmps⟩) .nil 2 (by decide) (K:=fun s => slot s.t 13 = i64 n ∧ slot s.t 14 = i64 0) (by kernel_rfl) (fun j hj => hj) ?_ (SR.anew (ltI hs2) (slots_R vsz ?_) vsz vde (fun _ _ => rfl)) ?_
 ·refine regP_go (K1:=fun t _ => slot t 13 = i64 n ∧ slot t 14 = i64 0) ?_
  simp only [go_sem,List.range,List.range.loop]
 ·intro p hp; simp only [List.mem_singleton] at hp; subst hp; dsimp only; rw [v12]; exact keepR hxr hs2
 intro s3 ρ3 a3 w3 k1 k2
 have bel3:RowKit.Below w2.heap.size w2 w3:=k2.rel.below
 have hs3:Same I w w3:=hs2.trans (Same.of_below bel3 (ltI hs2))
 have hAt0:At257 I w J l n (.pointer (some ⟨b,o,none⟩)) x 0 a3 w3:=
  ⟨k2.size,k2.defers,(k2.frame 0 (show ¬ (0:Nat) ∈ [13,14] by decide)).trans v0,(k2.frame 1 (show ¬ (1:Nat) ∈ [13,14] by decide)).trans v1,(k2.frame 3 (show ¬ (3:Nat) ∈ [13,14] by decide)).trans v3,
   (k2.frame 12 (show ¬ (12:Nat) ∈ [13,14] by decide)).trans v12,k2.val k1.1,k2.val k1.2,Nat.zero_le _,hJ 0 w2 w3 hj2 bel3,hs3⟩
 clear k1 k2 s3 ρ3 bel3 hs3 hj2 hs2 v0 v1 v3 v12 vsz vde
 refine wpIn_block (wpIn_loop_rounds (n + 1) ?_)
 obtain ⟨i,hAt,hlt⟩:∃ i,At257 I w J l n (.pointer (some ⟨b,o,none⟩)) x i a3 w3 ∧ n - i < n + 1:=⟨0,hAt0,by omega⟩
 clear hAt0
 generalize n + 1 = fuel at hlt ⊢
 induction fuel generalizing i a3 w3 with
 | zero => omega
 | succ fuel ih =>
 rw [roundsIn_succ]
 -- the guard
 refine wpIn_seq (pieceI (G:=[]) (H:=[]) .nil hm (l:=[(13,i64 n),(14,i64 i)]) (W:=[15]) (K:=fun e s => match e with | .normal => slot s.t 15 = bo (decide ((i:Int) < n)) | _ => False) (by kernel_rfl) (by kernel_rfl) (by kernel_rfl) ?_ (ltI hAt.same) hAt.sz ?_ ?_)
 ·refine awp_go (K1:=fun e t _ => match e with | .normal => slot t 15 = bo (decide ((i:Int) < n)) | _ => False) ?_
  simp only [go_sem,List.range,List.range.loop]
 ·intro p hp
  simp only [List.mem_cons,List.mem_singleton,List.not_mem_nil,or_false] at hp
  rcases hp with rfl | rfl
  ·dsimp only; rw [hAt.t13]; exact .v
  ·dsimp only; rw [hAt.t14]; exact .v
 intro e s1 ρ1 a1 w1 k1 k2
 cases e with
 | exit j => exact k1.elim
 | ret => exact k1.elim
 | normal =>
 have bel1:RowKit.Below w3.heap.size w3 w1:=k2.rel.below
 have hs1:Same I w w1:=hAt.same.trans (Same.of_below bel1 (ltI hAt.same))
 have hj1:J i w1:=hJ i w3 w1 hAt.j bel1
 have v15:=k2.val k1
 have d1:a1.defers = []:=k2.defers.trans hAt.de
 have z1:=k2.size
 have f1:∀ j,¬ j ∈ [15] → a1.tmps.getD j undef = a3.tmps.getD j undef:=k2.frame
 clear k1 k2 s1 ρ1
 refine wpIn_seq (wpIn_cond_split (t:=decide ((i:Int) < n)) v15 ?_ ?_)
 case refine_2 =>
  intro hf
  have hin:i = n:=by have:=hAt.le; simp at hf; omega
  subst hin
  refine wpIn_exit ?_
  show LeavesInM Fence.wide nn Tryz.prog Tryz.f257 a1.tmps _ a1.defers .returning w1
  exact leave_nil d1 rfl fun v => ⟨⟨v,rfl⟩,.inl hj1⟩
 intro ht
 have hin:i < n:=by simp at ht; omega
 refine wpIn_skip ?_
 have r0:gx (sg g) 0 i = gx g 0 i:=rfl
 obtain ⟨K1,hK1⟩:∃ K1:Slots → Prop,K1 = fun t => slot t 32 = .v (.func (.yield l) #[] #[]) ∧ [slot t 33,slot t 34] = edgeE n g i:=⟨_,rfl⟩
 refine wpIn_seq (wpIn_block (piece3 (G:=[]) (H:=[]) .nil hm (k:=3) (K1:=K1) (l:=[(0,.v (.func (.yield l) #[] #[])),(1,.rop [.ro n 2 (sg g)]),(3,i64 (IntKind.i64.wrap (n - 1))),(12,.ro n 2 (sg g)),(14,i64 i)]) (by decide) (by kernel_rfl) (by kernel_rfl) rfl ?_ (ltI hs1) z1 ?_ ?_))
 ·show goC Tryz.prog [] [] (preK Tryz.prog [] _ 3 K1) _ [] _
  simp only [go_sem,List.range,List.range.loop,preK_normal,sg_eq]
  have hw:IntKind.i64.wrap ((n:Int) - 1) = n - 1:=wrap_in (by unfold inR; omega)
  subst hK1
  refine ⟨by omega,by omega,by omega,fun h z hz => ?_,fun h => ?_⟩
  ·rw [hw] at h
   have e1:IntKind.i64.wrap ((i:Int) + 1) = i + 1:=wrap_in (by unfold inR; omega)
   rw [e1] at hz
   have e2:z.toNat = i + 1:=by omega
   have e3:nxt n i = i + 1:=by unfold nxt; rw [if_pos (by omega)]
   refine ⟨by omega,by omega,?_⟩
   simp only [slot_cons,Nat.reduceEqDiff,if_true,if_false,reduceIte,true_and,edgeE,e3,e2,gx]
  ·rw [hw] at h
   have e3:nxt n i = 0:=by unfold nxt; rw [if_neg (by omega)]
   simp only [slot_cons,Nat.reduceEqDiff,if_true,if_false,reduceIte,true_and,edgeE,e3,gx]
 ·intro p hp
  simp only [List.mem_cons,List.mem_singleton,List.not_mem_nil,or_false] at hp
  rcases hp with rfl | rfl | rfl | rfl | rfl
  ·dsimp only; rw [f1 0 (by decide),hAt.t0]; exact .v
  ·dsimp only; rw [f1 1 (by decide),hAt.t1]; exact keepR hvr hs1
  ·dsimp only; rw [f1 3 (by decide),hAt.t3]; exact .v
  ·dsimp only; rw [f1 12 (by decide),hAt.t12]; exact keepR hxr hs1
  ·dsimp only; rw [f1 14 (by decide),hAt.t14]; exact .v
 intro t' m' D' ρ' a2 w2 k1 k2
 subst hK1
 have bel2:RowKit.Below w1.heap.size w1 w2:=k2.rel.below
 have hs2:Same I w w2:=hs1.trans (Same.of_below bel2 (ltI hs1))
 have hj2:J i w2:=hJ i w1 w2 hj1 bel2
 have v32:=k2.val k1.1
 have e33:slot t' 33 = .agg [i64 (gx g 0 i),i64 (gx g 1 i)]:=by have:=k1.2; unfold edgeE at this; simpa using (List.cons.inj this).1
 have e34:slot t' 34 = .agg [i64 (gx g 0 (nxt n i)),i64 (gx g 1 (nxt n i))]:=by have:=k1.2; unfold edgeE at this; simpa using (List.cons.inj (List.cons.inj this).2).1
 have hargs:Rs w2 (.ext I) (edgeE n g i) [a2.tmps.getD 33 undef,a2.tmps.getD 34 undef]:=by
  have q33:=k2.slots 33
  have q34:=k2.slots 34
  rw [e33] at q33
  rw [e34] at q34
  exact .cons (plain_sound 3 rfl q33) (.cons (plain_sound 3 rfl q34) .nil)
 have d2:a2.defers = []:=k2.defers.trans d1
 have z2:=k2.size
 have f2:=k2.frame
 clear k1 e33 e34
 rw [show List.range' 3 (Array.size _ - 3) = [3,4] from rfl]
 have z35:35 < a2.tmps.size:=by rw [z2]; decide
 refine wpOps_free rfl rfl (yield_op (l:=l) [a2.tmps.getD 33 undef,a2.tmps.getD 34 undef] rfl v32 (by simp [Act.eval]) (hy i w2 _ hin hj2 hs2 hargs) ?_)
 intro e W hpost
 obtain ⟨r,he,hsm,hjt,hjf⟩:∃ r,e = .returned (.bool r) ∧ Same I w2 W ∧ (r = true → J (i + 1) W) ∧ (r = false → Jx W):=by
  obtain ⟨hsm,⟨rfl,hj⟩ | ⟨rfl,hj⟩⟩:=hpost
  ·exact ⟨true,rfl,hsm,fun _ => hj,fun h => (by cases h)⟩
  ·exact ⟨false,rfl,hsm,fun h => (by cases h),fun _ => hj⟩
 subst he
 refine ⟨_,rfl,?_⟩
 show wpOpsIn (Fw none) nn Tryz.prog _ _ [4] (a2.put (some 35) (.bool r)) W
 have hs4:Same I w W:=hs2.trans hsm
 refine region_rest (G:=[]) (nt:=38) (s:=⟨[(35,bo r)] ++ anyS (List.range 38),[],0⟩) (ds:=⟨[],(· ∈ [36]),(a2.put (some 35) (.bool r)).tmps⟩) .nil 4 (by decide) (K:=fun s => slot s.t 36 = bo (!r)) (by kernel_rfl) (fun j hj => hj) ?_ (SR.anew (ltI hs4) (slots_R ((put_size _ _).trans z2) ?_) ((put_size _ _).trans z2) d2 (fun _ _ => rfl)) ?_
 ·refine regP_go (K1:=fun t _ => slot t 36 = bo (!r)) ?_
  simp only [go_sem,List.range,List.range.loop]
 ·intro p hp; simp only [List.mem_singleton] at hp; subst hp; dsimp only; rw [put_at z35]; exact .v
 intro s5 ρ5 a5 w5 q1 q2
 have bel5:RowKit.Below W.heap.size W w5:=q2.rel.below
 have hs5:Same I w w5:=hs4.trans (Same.of_below bel5 (ltI hs4))
 have d5:a5.defers = []:=q2.defers
 have z5:=q2.size
 have f5:∀ j,¬ j ∈ [36] → 35 ≠ j → a5.tmps.getD j undef = a2.tmps.getD j undef:=fun j h1 h2 => (q2.frame j h1).trans (put_not z35 h2)
 have v36:=q2.val q1
 clear q1 q2
 refine wpIn_cond_split v36 (fun hb => ?_) (fun hb => ?_)
 ·have hr:r = false:=by simpa using hb
  have hjx:Jx w5:=hJx W w5 (hjf hr) bel5
  refine wpIn_ret ?_
  show LeavesInM Fence.wide nn Tryz.prog Tryz.f257 a5.tmps _ a5.defers .returning w5
  exact leave_nil d5 rfl fun v => ⟨⟨v,rfl⟩,.inr hjx⟩
 ·have hr:r = true:=by simpa using hb
  have hj5:J (i + 1) w5:=hJ (i + 1) W w5 (hjt hr) bel5
  refine wpIn_skip ?_
  show Code.wpIn Fence.wide nn Tryz.prog (Code.region 8 _ false) _ a5 w5
  have g2:∀ j,¬ j ∈ [15] → ¬ j ∈ [16,17,18,5,4,19,20,21,22,6,23,24,25,26,27,28,29,30,31,32,33,34,35,36] → a5.tmps.getD j undef = a3.tmps.getD j undef:=fun j h1 h2 => by
   rw [f5 j (fun h => h2 (by simp at h; subst h; decide)) (fun h => h2 (by subst h; decide)),f2 j h2,f1 j h1]
  refine pieceI (G:=[]) (H:=[]) .nil hm (l:=[(14,i64 i)]) (W:=[37,14]) (K:=fun e s => match e with | .normal => slot s.t 14 = i64 (i + 1) | _ => False) (by kernel_rfl) (by kernel_rfl) (by kernel_rfl) ?_ (ltI hs5) z5 ?_ ?_
  ·refine awp_go (K1:=fun e t _ => match e with | .normal => slot t 14 = i64 (i + 1) | _ => False) ?_
   simp only [go_sem,List.range,List.range.loop]
   intro z hz
   have e1:IntKind.i64.wrap ((i:Int) + 1) = i + 1:=wrap_in (by unfold inR; omega)
   rw [hz,e1]
  ·intro p hp; simp only [List.mem_singleton] at hp; subst hp; dsimp only; rw [g2 14 (by decide) (by decide),hAt.t14]; exact .v
  intro e s6 ρ6 a6 w6 q1 q2
  cases e with
  | exit j => exact q1.elim
  | ret => exact q1.elim
  | normal =>
  have bel6:RowKit.Below w5.heap.size w5 w6:=q2.rel.below
  have f6:∀ j,¬ j ∈ [37,14] → a6.tmps.getD j undef = a5.tmps.getD j undef:=q2.frame
  refine ih a6 w6 (i + 1) ⟨q2.size,q2.defers.trans d5,?_,?_,?_,?_,?_,?_,by omega,hJ (i + 1) w5 w6 hj5 bel6,hs5.trans (Same.of_below bel6 (ltI hs5))⟩ (by omega)
  ·rw [f6 0 (by decide),g2 0 (by decide) (by decide),hAt.t0]
  ·rw [f6 1 (by decide),g2 1 (by decide) (by decide),hAt.t1]
  ·rw [f6 3 (by decide),g2 3 (by decide) (by decide),hAt.t3]
  ·rw [f6 12 (by decide),g2 12 (by decide) (by decide),hAt.t12]
  ·rw [f6 13 (by decide),g2 13 (by decide) (by decide),hAt.t13]
  ·have:=q2.val q1; rw [this]; rfl
def c196:Con
 | [.agg [.ro n 2 g]] => some ([],.fn 257 [.rop [.ro n 2 g]])
 | _ => none
theorem con196:ConOK Tryz.prog 196 c196:=ConOK.of (G:=[]) (H:=[]) .nil Tryz.func196 fun l ob r hc hob => by
 unfold c196 at hc
 split at hc
 ·rename_i n g
  cases hc
  refine ⟨by kernel_rfl,fnVC_go (rs:=[.tmp 2]) rfl rfl ?_⟩
  simp only [go_sem]
 ·cases hc
theorem tmod_nxt {n i:Nat} (h:i < n):Int.tmod ((i:Int) + 1) n = (nxt n i:Nat):=by
 unfold nxt
 by_cases e:i + 1 < n
 ·rw [if_pos e,Int.tmod_eq_of_lt (by omega) (by omega)]; rfl
 ·have:i + 1 = n:=by omega
  rw [if_neg e,show (i:Int) + 1 = n by omega,Int.tmod_self]; rfl
def convexS (n:Nat) (X Y:Nat → Int):Bool:=decide (3 ≤ n ∧ (∀ i,i < n → validS (X i) (Y i) = true) ∧ ∀ i,i < n → ∀ k,k < n → k ≠ i → k ≠ nxt n i → 0 < turnS (X i) (Y i) (X (nxt n i)) (Y (nxt n i)) (X k) (Y k))
theorem convexS_iff {n:Nat} {X Y:Nat → Int}:convexS n X Y = true ↔ 3 ≤ n ∧ (∀ i,i < n → validS (X i) (Y i) = true) ∧ ∀ i,i < n → ∀ k,k < n → k ≠ i → k ≠ nxt n i → 0 < turnS (X i) (Y i) (X (nxt n i)) (Y (nxt n i)) (X k) (Y k):=by unfold convexS; simp
def c274:Con
 | [.ro n 2 g] => some ([spots n g,n ≤ 9223372036854775806],bo (convexS n (gx g 0) (gx g 1)))
 | _ => none
theorem vc274 (n:Nat) (X Y:Nat → Int) (hX:∀ i,i < n → inR (X i) ∧ inR (Y i)) (hn:n ≤ 9223372036854775806):fnVC Tryz.prog [(271,c271),(256,c256),(196,c196),(1000000 + 257,c257)] [] Tryz.f274 [.ro n 2 fun i => [i64 (X i),i64 (Y i)]] (· = bo (convexS n X Y)):=by
 refine fnVC_go (rs:=[.cell 2 4]) rfl rfl ?_
 simp only [go_sem,c271,c196]
 intro z hz
 have hg:spots n fun i => [i64 (X i),i64 (Y i)]:=fun i hi => ⟨rfl,hX i hi⟩
 have hzz:z = true ↔ ∀ i,i < n → validS (X i) (Y i) = true:=by rw [hz]; exact fairS_iff
 refine ⟨fun _ => hg,fun _ => by omega,fun h => false_of fun hc => ?_,fun h => ?_⟩
 ·have:=convexS_iff.1 hc
  rcases h with h | h
  ·omega
  ·rw [hzz.2 this.2.1] at h; cases h
 have hv:=hzz.1 h.2
 have h3:3 ≤ n:=by omega
 let good:Nat → Prop:=fun i => ∀ k,k < n → k ≠ i → k ≠ nxt n i → 0 < turnS (X i) (Y i) (X (nxt n i)) (Y (nxt n i)) (X k) (Y k)
 refine rangeC_go (fun (i:Nat) => i ≤ n ∧ ∀ j,j < i → good j) (fun i => i) (fun i => [(10,fam1 3 1 [i64 i] none)]) [1,0] [19,20,4,5,21,22,23,24,25,26,27,7,6,28,29,30,31,32,33,34,35,36,37,38,39,40,41,42,43,44,45,46,47,23,48,49] 0 0 (N:=n) (sq:=edgeE n fun i => [i64 (X i),i64 (Y i)]) (ob:=[spots n fun i => [i64 (X i),i64 (Y i)],n ≤ 9223372036854775806]) rfl (by simp [hg,hn]) (by kernel_rfl) rfl (fun i _ => ⟨rfl,rfl⟩) ⟨Nat.zero_le _,fun j hj => by omega⟩ rfl ⟨[],?_,?_,?_⟩ ?_ ?_
 ·simp only [go_sem]
 ·simp only [go_sem]
 ·simp [goodNames,asg]
 ·intro i hi hlt
  simp only [go_sem,edgeE]
  have hnl:nxt n i < n:=nxt_lt hlt
  have hin:i < n:=hlt
  refine loopC_go (fun (k:Nat) => k ≤ n ∧ ∀ q,q < k → q ≠ i → q ≠ nxt n i → 0 < turnS (X i) (Y i) (X (nxt n i)) (Y (nxt n i)) (X q) (Y q)) (fun k => n - k) (fun k => [(23,i64 k)]) (fun _ => []) [17,15,10,1,0] [24,25,26,27,7,6,28,29,30,31,32,33,34,35,36,37,38,39,40,41,42,43,44,45,46,47,23] 0 (by kernel_rfl) ?_ ⟨Nat.zero_le _,fun j hj => by omega⟩ ?_ ?_
  ·intro x _; simp [goodNames]
  ·simp only [go_sem]
  ·intro k hk
   have hn0:((n:Int) = 0) = False:=eq_false (by omega)
   simp only [go_sem,c256,hn0]
   have ei:IntKind.i64.wrap ((i:Int) + 1) = i + 1:=wrap_in (by unfold inR; omega)
   have ek:k < n → IntKind.i64.wrap ((k:Int) + 1) = k + 1:=fun h => wrap_in (by unfold inR; omega)
   have bn:∀ x y:Nat,((x:Int) != (y:Int)) = true ↔ x ≠ y:=fun x y => by rw [bne_iff_ne]; omega
   refine ⟨fun hkn => ⟨by omega,hkn,fun z1 hz1 z2 hz2 t ht => ?_⟩,fun hkn z1 hz1 => ⟨i + 1,⟨by omega,fun j hj => ?_⟩,rfl,[],?_,?_⟩⟩
   ·rw [ei] at hz1
    rw [hz1,tmod_nxt hin] at hz2
    subst hz2
    have hkn':k < n:=by omega
    refine ⟨fun _ => hv i hin,fun _ => hv _ hnl,fun _ => hv k hkn',fun hb => false_of fun hc => ?_,fun hb z3 hz3 => ⟨k + 1,⟨by omega,fun q hq h1 h2 => ?_⟩,by omega,?_⟩⟩
    ·have:=(convexS_iff.1 hc).2.2 i hin k hkn' ((bn _ _).1 hb.1.1) ((bn _ _).1 hb.1.2)
     omega
    ·by_cases e:q = k
     ·subst e
      rw [(bn q i).2 h1,(bn q (nxt n i)).2 h2] at hb
      simp at hb
      omega
     ·exact hk.2 q (by omega) h1 h2
    ·rw [hz3,ek hkn']; omega
   ·by_cases e:j = i
    ·subst e
     intro q hq h1 h2
     exact hk.2 q (by omega) h1 h2
    ·exact hi.2 j (by omega)
   ·simp only [go_sem]
    rw [hz1,ei]; rfl
   ·simp [goodNames,asg]
 ·intro i hi he
  simp only [go_sem]
  refine (convexS_iff.2 ⟨h3,hv,fun j hj => ?_⟩).symm ▸ rfl
  exact hi.2 j (by omega)
theorem con274:ConOK Tryz.prog 274 c274:=ConOK.go (G:=[(271,c271),(256,c256),(196,c196),(1000000 + 257,c257)]) (H:=[]) (.cons con271 (.cons con256 (.cons con196 (.seq seq257 .nil)))) Tryz.func274 fun l ob r hc hob => by
 unfold c274 at hc
 split at hc
 ·rename_i n g
  cases hc
  have hs:spots n g:=hob _ (by simp)
  refine ⟨[.ro n 2 fun i => [i64 (gx g 0 i),i64 (gx g 1 i)]],fun w I vs h => Rs_one (fun v => ro_alike fun i hi => (hs i hi).1) h,by kernel_rfl,vc274 n _ _ (fun i hi => (hs i hi).2) (hob _ (by simp))⟩
 ·cases hc
def c69:Con
 | [.ro n 2 g] => some ([spots n g,n ≤ 1000],.ro n 2 fun i => [i64 (gx g 0 i),i64 (gx g 1 i)])
 | _ => none
theorem vc69 (n:Nat) (X Y:Nat → Int) (hn:n ≤ 1000):fnVC Tryz.prog [] [] Tryz.f69 [.ro n 2 fun i => [i64 (X i),i64 (Y i)]] (· = .ro n 2 fun i => [i64 (X i),i64 (Y i)]):=by
 refine fnVC_go (rs:=[.tmp 2]) rfl rfl ?_
 simp only [go_sem]
 refine loopN_go (fun (i:Nat) => i ≤ n) (fun i => n - i) (fun i => [(4,i64 i),(3,.own 3 0 i 2)]) (fun i => [(3,famN i 2 116 (fun k => [i64 (X k),i64 (Y k)]) none)]) [] [5,6,7,8,11,12,13,14,15,16,17,3,9,10,4] 1 0 (by kernel_rfl) (Nat.zero_le _) ⟨[(3,none)],?_,?_,?_,?_⟩ ?_
 ·simp only [go_sem]
 ·simp only [go_sem]
 ·simp only [go_sem]
 ·exact goodNames_one (k:=0) (by decide) (fun z h => by cases h)
 intro i hi
 simp only [go_sem]
 refine ⟨fun hlt => ⟨by omega,hlt,?_,by omega,fun z hz => ⟨i + 1,by omega,by omega,[(3,some 14)],⟨?_,by rw [fit1_named (r:=0)]; exact ⟨by omega,rfl⟩⟩,?_,goodNames_one (k:=0) (by decide) (fun z h => by cases h; decide)⟩⟩,fun hge => ?_⟩
 ·rw [show bytesT Tryz.prog 116 = 16 by kernel_rfl]; omega
 ·rw [wrap_i64] at hz; omega
 ·rw [fitRows_some]
  simp only [go_sem]
  intro k hk
  by_cases e:k < i
  ·rw [if_pos e]; simp only [go_sem]
  ·have e:k = i:=by omega
   subst e
   rw [if_neg (by omega),Nat.sub_self]
   simp only [Nat.zero_mul,go_sem]
 ·have e:i = n:=by omega
  subst e; rfl
theorem con69:ConOK Tryz.prog 69 c69:=ConOK.go (G:=[]) (H:=[]) .nil Tryz.func69 fun l ob r hc hob => by
 unfold c69 at hc
 split at hc
 ·rename_i n g
  cases hc
  have hs:spots n g:=hob _ (by simp)
  refine ⟨[.ro n 2 fun i => [i64 (gx g 0 i),i64 (gx g 1 i)]],fun w I vs h => Rs_one (fun v => ro_alike fun i hi => (hs i hi).1) h,by kernel_rfl,vc69 n _ _ (hob _ (by simp))⟩
 ·cases hc
abbrev formA (k x y r:Int) (n:Nat) (g:Nat → List AV):AV:=.agg [i64 k,i64 x,i64 y,i64 r,.ro n 2 g]
theorem Rs_form {w:World} {ρ:Env} {k x y r:Int} {n:Nat} {g:Nat → List AV} (hs:spots n g) (v:Value) (h:R w ρ (formA k x y r n g) v):R w ρ (formA k x y r n fun i => [i64 (gx g 0 i),i64 (gx g 1 i)]) v:=by
 cases h with
 | agg hl hh =>
  refine .agg hl fun i a z h1 h2 => ?_
  match i with
  | 0 => exact hh 0 a z h1 h2
  | 1 => exact hh 1 a z h1 h2
  | 2 => exact hh 2 a z h1 h2
  | 3 => exact hh 3 a z h1 h2
  | 4 =>
   simp at h1; subst h1
   exact ro_alike (fun i hi => (hs i hi).1) (hh 4 _ z rfl h2)
  | j + 5 => simp at h1
theorem Rs_poly {w:World} {ρ:Env} {n:Nat} {g:Nat → List AV} (hs:spots n g) (v:Value) (h:R w ρ (.agg [.ro n 2 g]) v):R w ρ (.agg [.ro n 2 fun i => [i64 (gx g 0 i),i64 (gx g 1 i)]]) v:=by
 cases h with
 | agg hl hh =>
  refine .agg hl fun i a z h1 h2 => ?_
  match i with
  | 0 =>
   simp at h1; subst h1
   exact ro_alike (fun i hi => (hs i hi).1) (hh 0 _ z rfl h2)
  | j + 1 => simp at h1
theorem Rs_two {w:World} {ρ:Env} {a a' b b':AV} {vs:List Value} (h:∀ v,R w ρ a v → R w ρ a' v) (k:∀ v,R w ρ b v → R w ρ b' v) (hR:Rs w ρ [a,b] vs):Rs w ρ [a',b'] vs:=by
 obtain ⟨x,xs,rfl,h1,h2⟩:=hR.inv
 exact .cons (h x h1) (Rs_one k h2)
def c194:Con
 | [.agg [.v (.int .i64 a),.v (.int .i64 b)],.agg [.v (.int .i64 c),.v (.int .i64 d)]] => some ([],i64 (IntKind.i64.wrap (IntKind.i64.wrap (a * c) + IntKind.i64.wrap (b * d))))
 | _ => none
theorem con194:ConOK Tryz.prog 194 c194:=ConOK.of (G:=[]) (H:=[]) .nil Tryz.func194 fun l ob r hc hob => by
 unfold c194 at hc
 split at hc
 ·cases hc
  refine ⟨by kernel_rfl,fnVC_go (rs:=[.tmp 4]) rfl rfl ?_⟩
  simp only [go_sem]
  intro z h z1 h1 z2 h2
  rw [h2,h1,h]
 ·cases hc
theorem wrap_inR (x:Int):inR (IntKind.i64.wrap x):=by rw [wrap_i64]; unfold inR; omega
theorem fair1 {a b:Int} {g:Nat → List AV} (h0:g 0 = [i64 a,i64 b]):fairS 1 (gx g 0) (gx g 1) = validS a b:=by
 rw [Bool.eq_iff_iff,fairS_iff]
 constructor
 ·intro h
  have k0:=h 0 (by omega)
  simp only [gx,h0,gi_0,gi_1] at k0
  exact k0
 ·intro h i hi
  have:i = 0:=by omega
  subst this
  simp only [gx,h0,gi_0,gi_1]; exact h
theorem spots1 {a b:Int} {g:Nat → List AV} (h0:g 0 = [i64 a,i64 b]) (ha:inR a) (hb:inR b):spots 1 g:=by
 intro i hi
 have:i = 0:=by omega
 subst this
 simp only [gx,h0,gi_0,gi_1]; exact ⟨trivial,ha,hb⟩
def checkS (k x y r:Int) (n:Nat) (X Y:Nat → Int):Int:=
 if k ≠ 1 ∧ k ≠ 2 then 8
 else if ¬ (validS x y = true ∧ ∀ i,i < n → validS (X i) (Y i) = true) then 3
 else if k = 1 then (if 1 ≤ r ∧ (2097152 < r ∨ checkBoxS (x - r) (y - r) (x + r) (y + r) ≠ 0) then 3 else if r < 1 ∨ 0 < n then 5 else 0)
 else if r ≠ 0 ∨ 8 < n ∨ convexS n X Y = false then 5 else 0
instance {n:Nat} {X Y:Nat → Int}:Decidable (∀ i,i < n → validS (X i) (Y i) = true):=inferInstance
def c255:Con
 | [.agg [.v (.int .i64 k),.v (.int .i64 x),.v (.int .i64 y),.v (.int .i64 r),.ro n 2 g]] => some ([spots n g,n ≤ 9223372036854775806,inR x,inR y,inR r],i64 (checkS k x y r n (gx g 0) (gx g 1)))
 | _ => none
theorem con255:ConOK Tryz.prog 255 c255:=ConOK.of (G:=[(272,c272),(274,c274),(271,c271),(273,c273)]) (H:=[]) (.cons con272 (.cons con274 (.cons con271 (.cons con273 .nil)))) Tryz.func255 fun l ob r hc hob => by
 unfold c255 at hc
 split at hc
 ·rename_i k x y r n g
  cases hc
  have hs:spots n g:=hob _ (by simp)
  have hn:n ≤ 9223372036854775806:=hob _ (by simp)
  have hx:inR x:=hob _ (by simp)
  have hy:inR y:=hob _ (by simp)
  have hr:inR r:=hob _ (by simp)
  refine ⟨by kernel_rfl,fnVC_go (rs:=[.tmp 2]) rfl rfl ?_⟩
  simp only [go_sem,c272,c274,c271,c273]
  have hfa:fairS 1 (gx (rowsOf 2 [AV.v (Value.int IntKind.i64 x),AV.v (Value.int IntKind.i64 y)]) 0) (gx (rowsOf 2 [AV.v (Value.int IntKind.i64 x),AV.v (Value.int IntKind.i64 y)]) 1) = validS x y:=fair1 rfl
  have hsp:spots 1 (rowsOf 2 [AV.v (Value.int IntKind.i64 x),AV.v (Value.int IntKind.i64 y)]):=spots1 rfl hx hy
  rw [hfa]
  refine ⟨fun h => ?_,fun h z hz => ⟨hsp,fun z1 hz1 => ⟨fun _ => hs,fun _ => by omega,fun h3 => ?_,fun h3 z2 hz2 => ⟨fun _ => wrap_inR _,fun _ => wrap_inR _,fun _ => wrap_inR _,fun _ => wrap_inR _,fun a b => ⟨a,b⟩,fun h4 => ?_,fun h4 => ⟨fun a b => ⟨a,b⟩,fun h5 => ?_,fun h5 => ⟨fun a b => ⟨a,b⟩,fun z3 hz3 => ⟨fun _ => hs,fun _ => hn,fun a b => ⟨a,b⟩,fun h6 => ?_,fun h6 => ?_⟩⟩⟩⟩⟩⟩⟩
  ·have h1:k ≠ 1 ∧ k ≠ 2:=by simpa using h
   unfold checkS; rw [if_pos h1]
  ·have h1:¬ (k ≠ 1 ∧ k ≠ 2):=by simp at h; omega
   have h2:¬ (validS x y = true ∧ ∀ i,i < n → validS (gx g 0 i) (gx g 1 i) = true):=by
    rintro ⟨v1,v2⟩
    rw [← fairS_iff] at v2
    rw [v1] at hz; rw [v2] at hz1
    simp [hz,hz1] at h3
   unfold checkS; rw [if_neg h1,if_pos h2]
  all_goals
   have h1:¬ (k ≠ 1 ∧ k ≠ 2):=by simp at h; omega
   have v1:validS x y = true:=by rw [← hz]; exact h3.1
   have v2:∀ i,i < n → validS (gx g 0 i) (gx g 1 i) = true:=by rw [← fairS_iff,← hz1]; exact h3.2
   have v3:=validS_iff.1 v1
   have h2:¬ ¬ (validS x y = true ∧ ∀ i,i < n → validS (gx g 0 i) (gx g 1 i) = true):=fun hn => hn ⟨v1,v2⟩
   have hb:0 < r → ¬ 2097152 < r → z2 = checkBoxS (x - r) (y - r) (x + r) (y + r):=fun a b => by
    rw [hz2,wrap_in (x:=x - r) (by unfold inR; omega),wrap_in (x:=y - r) (by unfold inR; omega),wrap_in (x:=x + r) (by unfold inR; omega),wrap_in (x:=y + r) (by unfold inR; omega)]
   unfold checkS
   rw [if_neg h1,if_neg h2]
  ·simp only [beq_iff_eq,bne_iff_ne,ne_eq] at h4
   rw [if_pos h4.1.1,if_pos]
   refine ⟨by omega,?_⟩
   by_cases hr2:2097152 < r
   ·exact .inl hr2
   ·rw [← hb h4.1.2 hr2]; exact .inr (h4.2.resolve_left hr2)
  all_goals
   have h4':k = 1 → ¬ (1 ≤ r ∧ (2097152 < r ∨ checkBoxS (x - r) (y - r) (x + r) (y + r) ≠ 0)):=by
    rintro hk ⟨a,b⟩
    have a':0 < r:=by omega
    simp only [hk,beq_self_eq_true,Bool.true_and,a',decide_true,Bool.or_eq_false_iff,decide_eq_false_iff_not,bne_eq_false_iff_eq] at h4
    rw [← hb a' h4.1] at b
    rcases b with b | b
    ·exact h4.1 b
    ·exact b h4.2
  ·have hk:k = 1:=by simpa using h5.1
   rw [if_pos hk,if_neg (h4' hk),if_pos (by have:=h5.2; omega)]
  ·have hk:k ≠ 1:=by simpa using h6.1
   rw [if_neg hk,if_pos]
   rw [← hz3]
   have:=h6.2
   simp only [bne_iff_ne] at this
   rcases this with (a | a) | a
   ·exact .inl a
   ·exact .inr (.inl (by omega))
   ·exact .inr (.inr a)
  ·by_cases hk:k = 1
   ·simp only [hk,beq_self_eq_true,Bool.true_and,Bool.or_eq_false_iff,decide_eq_false_iff_not] at h5
    rw [if_pos hk,if_neg (h4' hk),if_neg (by omega)]
   ·have hk':(k == 1) = false:=by simpa using hk
    rw [if_neg hk,if_neg]
    rw [← hz3]
    simp only [hk',Bool.not_false,Bool.true_and,Bool.or_eq_false_iff,bne_eq_false_iff_eq,decide_eq_false_iff_not,Bool.not_eq_false'] at h6
    rintro (a | a | a)
    ·exact a h6.1.1
    ·exact h6.1.2 (by omega)
    ·rw [h6.2] at a; cases a
 ·cases hc
end Go.Ax
end