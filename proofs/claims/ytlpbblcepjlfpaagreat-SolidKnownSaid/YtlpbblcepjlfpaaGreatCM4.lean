/-
  Words: lengths, quotients, roots.
-/
import Derived.Test.YtlpbblcepjlfpaaGreatCM3
set_option linter.unusedVariables false
set_option linter.unusedSimpArgs false
section
set_option maxHeartbeats 4000000
set_option maxRecDepth 100000
namespace Go.Ax
open Go.Proofs
theorem digit_low {y a b u v q r B:Nat} (hy:y = a * B + b) (hu:u * B + v < y * B) (hq:q * a + r = u) (ht:(u * B + v) / y ≤ q) (hv:v < B) (hb:b < B) (ha:0 < a)
  (hc:B ≤ q ∨ B * r + v < q * b):(u * B + v) / y + 1 ≤ q:=by
 have hyp:0 < y:=by
  rw [hy]; have:=Nat.mul_pos ha (show 0 < B by omega); omega
 rcases hc with hc | hc
 ·have:(u * B + v) / y < B:=Nat.div_lt_of_lt_mul hu
  omega
 ·have h1:u * B + v < q * y:=by
   rw [hy,← hq,Nat.add_mul,Nat.mul_add]
   have e1:q * (a * B) = q * a * B:=by rw [Nat.mul_assoc]
   have e2:r * B = B * r:=Nat.mul_comm _ _
   omega
  have h2:=Nat.div_lt_of_lt_mul (by rw [Nat.mul_comm]; exact h1)
  omega
theorem digit_done {y a b u v q r B:Nat} (hy:y = a * B + b) (hq:q * a + r = u) (ht:(u * B + v) / y ≤ q) (hyp:0 < y)
  (hc:q * b ≤ B * r + v):(u * B + v) / y = q:=by
 have h1:q * y ≤ u * B + v:=by
  rw [hy,← hq,Nat.add_mul,Nat.mul_add]
  have e1:q * (a * B) = q * a * B:=by rw [Nat.mul_assoc]
  have e2:r * B = B * r:=Nat.mul_comm _ _
  omega
 have h2:q ≤ (u * B + v) / y:=(Nat.le_div_iff_mul_le hyp).2 h1
 omega
theorem digit_break {y a b u v q r B:Nat} (hy:y = a * B + b) (hu:u * B + v < y * B) (hq:q * a + r = u) (ht:(u * B + v) / y ≤ q) (hv:v < B) (hb:b < B) (ha:0 < a) (hB:0 < B)
  (hr:B ≤ r):(u * B + v) / y = q:=by
 have hyp:0 < y:=by
  rw [hy]; have:=Nat.mul_pos ha hB; omega
 have hqB:q < B:=by
  refine Nat.lt_of_not_le fun hc => ?_
  have h1:B * a ≤ q * a:=Nat.mul_le_mul_right a hc
  have h2:(a * B + B) ≤ u:=by rw [Nat.mul_comm a B]; omega
  have h3:u < y:=by
   have:u * B < y * B:=by omega
   exact Nat.lt_of_mul_lt_mul_right this
  omega
 refine digit_done hy hq ht hyp ?_
 have h4:q * b ≤ B * B:=Nat.mul_le_mul (by omega) (by omega)
 have h5:B * B ≤ B * r:=Nat.mul_le_mul_left B hr
 omega
theorem digit_high {y a b u v B:Nat} (hy:y = a * B + b) (hv:v < B) (ha:0 < a) (hB:0 < B):(u * B + v) / y ≤ u / a:=by
 have hyp:0 < y:=by
  rw [hy]; have:=Nat.mul_pos ha hB; omega
 rw [Nat.le_div_iff_mul_le ha]
 have h1:(u * B + v) / y * y ≤ u * B + v:=Nat.div_mul_le_self _ _
 generalize (u * B + v) / y = k at *
 have h2:k * (a * B) ≤ k * y:=Nat.mul_le_mul_left k (by omega)
 have h3:k * a * B < (u + 1) * B:=by
  rw [Nat.mul_assoc,Nat.add_mul]; omega
 have:=Nat.lt_of_mul_lt_mul_right h3
 omega
theorem digits {y u v w B:Nat} (hy:0 < y):((u * B + v) * B + w) / y = (u * B + v) / y * B + ((u * B + v) % y * B + w) / y ∧ ((u * B + v) * B + w) % y = ((u * B + v) % y * B + w) % y:=by
 have e:(u * B + v) * B + w = y * ((u * B + v) / y * B) + ((u * B + v) % y * B + w):=by
  have:=Nat.div_add_mod (u * B + v) y
  conv => lhs; rw [← this]
  rw [Nat.add_mul,Nat.mul_assoc]; omega
 rw [e,Nat.mul_add_div hy,Nat.mul_add_mod]
 exact ⟨rfl,rfl⟩
theorem shifted {n y p:Nat} (hp:0 < p):n * p / (y * p) = n / y ∧ n * p % (y * p) = n % y * p:=⟨Nat.mul_div_mul_right _ _ hp,Nat.mul_mod_mul_right _ _ _⟩
abbrev blen (x:Int):Nat:=Lib.bitLen x.toNat
theorem lenAux_ok:∀ (f x:Nat),x < 2 ^ f → x < 2 ^ Lib.bitLenAux f x ∧ (x ≠ 0 → 0 < Lib.bitLenAux f x ∧ 2 ^ (Lib.bitLenAux f x - 1) ≤ x) ∧ Lib.bitLenAux f x ≤ f
 | 0,x,h => by
  have:x = 0:=by simpa using h
  subst this
  exact ⟨by simp [Lib.bitLenAux],fun h => absurd rfl h,by simp [Lib.bitLenAux]⟩
 | f + 1,x,h => by
  unfold Lib.bitLenAux
  by_cases h0:x = 0
  ·subst h0; simp
  ·rw [if_neg h0]
   obtain ⟨k1,k2,k3⟩:=lenAux_ok f (x / 2) (by rw [Nat.pow_succ] at h; omega)
   refine ⟨by rw [Nat.add_comm,Nat.pow_succ]; omega,fun _ => ⟨by omega,?_⟩,by omega⟩
   by_cases h1:x / 2 = 0
   ·have h2:x = 1:=by omega
    subst h2
    have:Lib.bitLenAux f (1 / 2) = 0:=by cases f <;> simp [Lib.bitLenAux]
    rw [this]; simp
   ·obtain ⟨j1,j2⟩:=k2 h1
    have e:1 + Lib.bitLenAux f (x / 2) - 1 = (Lib.bitLenAux f (x / 2) - 1) + 1:=by omega
    rw [e,Nat.pow_succ]; omega
theorem blen_ok {x:Int} (h:inU x):x.toNat < 2 ^ blen x ∧ (x ≠ 0 → 0 < blen x ∧ 2 ^ (blen x - 1) ≤ x.toNat) ∧ blen x ≤ 64:=by
 unfold inU at h
 have:=lenAux_ok 64 x.toNat (by have:(2:Nat) ^ 64 = 18446744073709551616:=by decide
                                omega)
 exact ⟨this.1,fun h0 => this.2.1 (by omega),this.2.2⟩
def c213:Con
 | [.v (.int .u64 x)] => some ([inU x],i64 (blen x))
 | _ => none
theorem con213:ConOK Tryz.prog 213 c213:=fun es ob r hc hob => by
 unfold c213 at hc
 split at hc
 ·rename_i x
  cases hc
  have hx:inU x:=hob _ (by simp)
  intro I w vs hI hR
  obtain ⟨v1,xs,rfl,h1,hR⟩:=hR.inv
  cases R_v h1
  have:xs = []:=by have:=hR.1; simpa using this
  subst this
  refine .inr ⟨callFunc_enter Tryz.func213 (by kernel_rfl) rfl _ _,?_⟩
  refine (Tryz.len64 x w hx.1 (by unfold inU at hx; omega)).mono fun e w' h => ?_
  obtain ⟨he,rfl⟩:=h
  exact ⟨_,he,.v,RowKit.Below.refl _ _⟩
 ·cases hc
def c208:Con
 | [.v (.int .u64 x)] => some ([inU x],i64 (64 - blen x))
 | _ => none
theorem con208:ConOK Tryz.prog 208 c208:=ConOK.of (G:=[(213,c213)]) (H:=[]) (.cons con213 .nil) Tryz.func208 fun l ob r hc hob => by
 unfold c208 at hc
 split at hc
 ·rename_i x
  cases hc
  have h_0:inU x:=hob _ (by simp)
  refine ⟨by kernel_rfl,fnVC_go (rs:=[.tmp 2]) rfl rfl ?_⟩
  simp only [go_sem,c213]
  intro z hz
  refine ⟨h_0,fun z1 hz1 => ?_⟩
  have:=(blen_ok h_0).2.2
  rw [hz1,hz,wrap_in (by unfold inR; omega)]
 ·cases hc
theorem digit_bound {w Y B x:Nat} (hw:w < Y) (hx:x < B):w * B + x < Y * B:=by
 have:=Nat.mul_le_mul_right B (show w + 1 ≤ Y from hw)
 rw [Nat.add_mul] at this
 omega
theorem rem_bound {n y p Y K:Nat} (hy:0 < y) (hp:0 < p) (hY:Y = y * p) (h:Y < K):n % y * p < K:=by
 have:=Nat.mul_lt_mul_of_pos_right (Nat.mod_lt n hy) hp
 omega
theorem fin_quo {p q n:Nat} (h:n = p * 4294967296 + q) (hn:n < 18446744073709551616):IntKind.u64.wrap (IntKind.u64.wrap ((p:Int) * 4294967296) + q) = n:=by
 rw [wrap_u64,wrap_u64]; omega
theorem fin_rem {w x g r:Nat} (h:g + r = w * 4294967296 + x) (hr:r < 18446744073709551616):IntKind.u64.wrap (IntKind.u64.wrap (IntKind.u64.wrap ((w:Int) * 4294967296) + x) - IntKind.u64.wrap (g:Int)) = r:=by
 rw [wrap_u64,wrap_u64,wrap_u64,wrap_u64]; omega
def c179:Con
 | [.v (.int .u64 h),.v (.int .u64 l),.v (.int .u64 y)] => some ([inU h,inU l,inU y,h < y],.tup [u64 (jn h l / y),u64 (jn h l % y)])
 | _ => none
theorem con179:ConOK Tryz.prog 179 c179:=ConOK.of (G:=[(208,c208)]) (H:=[]) (.cons con208 .nil) Tryz.func179 fun l ob r hc hob => by
 unfold c179 at hc
 split at hc
 ·rename_i h l y
  cases hc
  have hh:inU h:=hob _ (by simp)
  have hl:inU l:=hob _ (by simp)
  have hy:inU y:=hob _ (by simp)
  have hlt:h < y:=hob _ (by simp)
  refine ⟨by kernel_rfl,fnVC_go (rs:=[.tmp 6,.tmp 7]) rfl rfl ?_⟩
  simp only [go_sem,c208]
  refine ⟨fun hc => absurd (show y = 0 by simpa using hc) (by unfold inU at *; omega),fun hc => ⟨fun hc1 => absurd hc1 (by omega),fun hc1 => ⟨fun h2 => ?_,fun h2 => ?_⟩⟩⟩
  ·have hy0:¬ y = 0:=by simpa using hc
   have h2:h = 0:=by simpa using h2
   subst h2
   refine ⟨hy0,fun z hz => ⟨hy0,fun z1 hz1 => tup2 (u64_eq ?_) (u64_eq ?_)⟩⟩
   ·unfold inU at hl hy
    have hj:jn 0 l = l:=by unfold jn; omega
    rw [hj,hz,Int.tdiv_eq_ediv_of_nonneg hl.1]
    have k1:0 ≤ l / y:=Int.ediv_nonneg hl.1 hy.1
    have k2:l / y ≤ l:=Int.ediv_le_self _ hl.1
    exact wrap_u (by unfold inU; omega)
   ·unfold inU at hl hy
    have hj:jn 0 l = l:=by unfold jn; omega
    rw [hj,hz1,Int.tmod_eq_emod_of_nonneg hl.1]
  have hy0:¬ y = 0:=by simpa using hc
  obtain ⟨b1,b2,b3⟩:=blen_ok hy
  obtain ⟨b4,b5⟩:=b2 hy0
  obtain ⟨H,rfl⟩:∃ n:Nat,h = n:=⟨h.toNat,by unfold inU at hh; omega⟩
  obtain ⟨L,rfl⟩:∃ n:Nat,l = n:=⟨l.toNat,by unfold inU at hl; omega⟩
  obtain ⟨y,rfl⟩:∃ n:Nat,y = n:=⟨y.toNat,by unfold inU at hy; omega⟩
  have hH:H < 18446744073709551616:=by unfold inU at hh; omega
  have hL:L < 18446744073709551616:=by unfold inU at hl; omega
  have hyy:y < 18446744073709551616:=by unfold inU at hy; omega
  generalize hs:64 - blen (y:Int) = s at *
  have hs2:blen (y:Int) = 64 - s:=by omega
  have hs3:s < 64:=by omega
  rw [hs2] at b1 b5
  rw [Int.toNat_natCast] at b1 b5
  have p64:(2:Nat) ^ 64 = 18446744073709551616:=by decide
  have p63:(2:Nat) ^ 63 = 9223372036854775808:=by decide
  have pp:2 ^ (64 - s) * 2 ^ s = 18446744073709551616:=by rw [← Nat.pow_add,← p64]; congr 1; omega
  have pq:2 ^ (64 - s - 1) * 2 ^ s = 9223372036854775808:=by rw [← Nat.pow_add,← p63]; congr 1; omega
  have ps:0 < 2 ^ s:=Nat.two_pow_pos s
  obtain ⟨Y,hY⟩:∃ Y,Y = y * 2 ^ s:=⟨_,rfl⟩
  have Y1:Y < 18446744073709551616:=by rw [hY,← pp]; exact Nat.mul_lt_mul_of_pos_right b1 ps
  have Y2:9223372036854775808 ≤ Y:=by rw [hY,← pq]; exact Nat.mul_le_mul_right _ b5
  have hw:∀ n:Nat,n < 18446744073709551616 → IntKind.u64.wrap (n:Int) = n:=fun n hn => wrap_u (by unfold inU; omega)
  intro z hz
  refine ⟨hy,fun z1 hz1 => ?_⟩
  have e1:z1 = (s:Int):=by rw [hz1,hz,hs2,show (64:Int) - ((64 - s:Nat):Int) = (s:Int) by omega,hw _ (by omega)]
  have m1:min z1.toNat 64 = s:=by rw [e1]; omega
  have n1:¬ z1 < 0:=by rw [e1]; omega
  rw [m1]
  refine ⟨n1,fun z2 hz2 z3 hz3 z4 hz4 => ⟨n1,fun z5 hz5 z6 hz6 => ?_⟩⟩
  have cP:((2:Int) ^ s) = ((2 ^ s:Nat):Int):=by simp
  have e2:z2 = (Y:Int):=by rw [hz2,cP,← Int.natCast_mul,← hY,hw _ Y1]
  have e3:z3 = ((Y / 4294967296:Nat):Int):=by rw [hz3,e2]; omega
  have e4:z4 = ((Y % 4294967296:Nat):Int):=by rw [hz4,e2,andI_32 (by unfold inU; omega)]; omega
  have hHY:H * 2 ^ s < Y:=by rw [hY]; exact Nat.mul_lt_mul_of_pos_right (by omega) ps
  have e5:z5 = ((H * 2 ^ s:Nat):Int):=by rw [hz5,cP,← Int.natCast_mul,hw _ (by omega)]
  have e6:z6 = ((64 - s:Nat):Int):=by rw [hz6,e1,show (64:Int) - (s:Int) = ((64 - s:Nat):Int) by omega,hw _ (by omega)]
  have m6:min z6.toNat 64 = 64 - s:=by rw [e6]; omega
  rw [m6]
  refine ⟨by rw [e6]; omega,fun z7 hz7 z8 hz8 => ⟨n1,fun z9 hz9 z10 hz10 z11 hz11 => ?_⟩⟩
  have e7:z7 = ((L / 2 ^ (64 - s):Nat):Int):=by
   have c2:((2:Int) ^ (64 - s)) = ((2 ^ (64 - s):Nat):Int):=by simp
   rw [hz7,c2,Int.fdiv_eq_ediv_of_nonneg _ (by omega)]; rfl
  have l7:L / 2 ^ (64 - s) < 2 ^ s:=Nat.div_lt_of_lt_mul (by rw [pp]; exact hL)
  obtain ⟨u,hu⟩:∃ u,u = H * 2 ^ s + L / 2 ^ (64 - s):=⟨_,rfl⟩
  have u1:u < Y:=by
   have:(H + 1) * 2 ^ s ≤ Y:=by rw [hY]; exact Nat.mul_le_mul_right _ (by omega)
   rw [Nat.add_mul] at this
   omega
  have e8:z8 = (u:Int):=by
   rw [hz8,e5,e7]
   unfold orI
   rw [BitVec.toNat_or,toNat_u (by omega),toNat_u (by omega),Nat.mul_comm H,← Nat.two_pow_add_eq_or_of_lt l7,Nat.mul_comm (2 ^ s),← hu,hw _ (by omega)]
  obtain ⟨t,ht⟩:∃ t,t = L * 2 ^ s % 18446744073709551616:=⟨_,rfl⟩
  have e9:z9 = (t:Int):=by rw [hz9,cP,← Int.natCast_mul,wrap_u64,ht]; omega
  have t1:t < 18446744073709551616:=by rw [ht]; omega
  have e10:z10 = ((t / 4294967296:Nat):Int):=by rw [hz10,e9]; omega
  have e11:z11 = ((t % 4294967296:Nat):Int):=by rw [hz11,e9,andI_32 (by unfold inU; omega)]; omega
  have hN:(H * 18446744073709551616 + L) * 2 ^ s = u * 18446744073709551616 + t:=by
   have k1:L * 2 ^ s = L / 2 ^ (64 - s) * 18446744073709551616 + L % 2 ^ (64 - s) * 2 ^ s:=by
    have:=Nat.div_add_mod' L (2 ^ (64 - s))
    conv => lhs; rw [← this]
    rw [Nat.add_mul,Nat.mul_assoc,pp]
   have k2:L % 2 ^ (64 - s) * 2 ^ s < 18446744073709551616:=by
    rw [← pp]; exact Nat.mul_lt_mul_of_pos_right (Nat.mod_lt _ (Nat.two_pow_pos _)) ps
   rw [ht,hu,Nat.add_mul,Nat.add_mul,Nat.mul_right_comm]
   omega
  clear hz hz1 hz2 hz3 hz4 hz5 hz6 hz7 hz8 hz9 hz10 hz11 m1 m6 n1 e5 e6 e7
  subst e3 e4 e8 e10 e11 e2
  obtain ⟨a,ha⟩:∃ a,a = Y / 4294967296:=⟨_,rfl⟩
  obtain ⟨b,hb⟩:∃ b,b = Y % 4294967296:=⟨_,rfl⟩
  obtain ⟨v,hv⟩:∃ v,v = t / 4294967296:=⟨_,rfl⟩
  obtain ⟨x,hx⟩:∃ x,x = t % 4294967296:=⟨_,rfl⟩
  rw [← ha,← hb,← hv,← hx]
  have a1:2147483648 ≤ a ∧ a < 4294967296:=by omega
  have hYab:Y = a * 4294967296 + b:=by omega
  refine ⟨by omega,fun z12 hz12 z13 hz13 z14 hz14 => ?_⟩
  have hq0:u / a ≤ u:=Nat.div_le_self _ _
  have hqa:=Nat.div_mul_le_self u a
  have e12:z12 = ((u / a:Nat):Int):=by
   rw [hz12,Int.tdiv_eq_ediv_of_nonneg (by omega),← Int.natCast_ediv,hw _ (by omega)]
  have e13:z13 = ((u / a * a:Nat):Int):=by rw [hz13,e12,← Int.natCast_mul,hw _ (by omega)]
  have e14:z14 = ((u % a:Nat):Int):=by
   have:=Nat.div_add_mod' u a
   rw [hz14,e13,show ((u:Int) - ((u / a * a:Nat):Int)) = ((u % a:Nat):Int) by omega,hw _ (by have:=Nat.mod_lt u (show 0 < a by omega); omega)]
  subst e12 e13 e14
  have hu2:u * 4294967296 + v < Y * 4294967296:=by omega
  have f0:(u * 4294967296 + v) / Y ≤ u / a:=digit_high hYab (by omega) (by omega) (by omega)
  have hN2:(H * 18446744073709551616 + L) * 2 ^ s = (u * 4294967296 + v) * 4294967296 + x:=by rw [hN]; omega
  have hYp:0 < Y:=by omega
  have hxB:x < 4294967296:=by omega
  have hNd:(H * 18446744073709551616 + L) / y < 18446744073709551616:=Nat.div_lt_of_lt_mul (digit_bound (Int.ofNat_lt.1 hlt) hL)
  have hNm:(H * 18446744073709551616 + L) % y * 2 ^ s < 18446744073709551616:=rem_bound (Nat.pos_of_ne_zero fun h => hy0 (by rw [h]; rfl)) ps hY Y1
  have hJ:jn (H:Int) (L:Int) = ((H * 18446744073709551616 + L:Nat):Int):=by unfold jn; omega
  have F1:(H * 18446744073709551616 + L) / y = (u * 4294967296 + v) / Y * 4294967296 + ((u * 4294967296 + v) % Y * 4294967296 + x) / Y:=by
   rw [← (digits hYp).1,← hN2,hY,(shifted ps).1]
  have F2:(H * 18446744073709551616 + L) % y * 2 ^ s = ((u * 4294967296 + v) % Y * 4294967296 + x) % Y:=by
   rw [← (digits hYp).2,← hN2,hY,(shifted ps).2]
  obtain ⟨D1,hD1⟩:∃ D,D = (u * 4294967296 + v) / Y:=⟨_,rfl⟩
  rw [← hD1] at f0
  refine loopC_go (fun (p:Nat × Nat) => p.1 * a + p.2 = u ∧ D1 ≤ p.1 ∧ p.2 < 4294967296) (fun p => p.1) (fun p => [(15,u64 p.1),(16,u64 p.2)]) (fun _ => []) [] [67,68,69,70,71,72,73,74,75,76,77,78,79,80,15,81,82,83,16,84,85] (u / a,u % a) (by kernel_rfl) ?_ ⟨Nat.div_add_mod' u a,f0,by have:=Nat.mod_lt u (show 0 < a by omega); omega⟩ ?_ ?_
  ·intro x _; simp [goodNames]
  ·simp only [go_sem]
  intro p hp
  obtain ⟨q1,r⟩:=p
  obtain ⟨hq,hq2,hr⟩:=hp
  dsimp only at hq hq2 hr
  simp only [go_sem]
  intro z1 hz1 z2 hz2 z3 hz3
  have hqu:q1 ≤ u:=by
   have:=Nat.mul_le_mul_left q1 (show 1 ≤ a by omega)
   omega
  have hc:(4294967296 ≤ (q1:Int) ∨ z3 < z1) ↔ (4294967296 ≤ q1 ∨ 4294967296 * r + v < q1 * b):=by
   by_cases h:4294967296 ≤ q1
   ·exact ⟨fun _ => .inl h,fun _ => .inl (by omega)⟩
   ·have h5:q1 * b < 4294967296 * 4294967296:=Nat.mul_lt_mul'' (by omega) (by omega)
    have k1:z1 = ((q1 * b:Nat):Int):=by rw [hz1,← Int.natCast_mul,hw _ (by omega)]
    have k2:z2 = ((4294967296 * r:Nat):Int):=by rw [hz2,show (4294967296:Int) * (r:Int) = ((4294967296 * r:Nat):Int) by omega,hw _ (by omega)]
    have k3:z3 = ((4294967296 * r + v:Nat):Int):=by rw [hz3,k2,← Int.natCast_add,hw _ (by omega)]
    rw [k1,k3]
    omega
  clear hz1 hz2 hz3
  refine ⟨fun h z4 hz4 z5 hz5 => ?_,fun h => ?_⟩
  ·have h:=hc.1 h
   clear hc
   have hd:=digit_low hYab hu2 hq (hD1 ▸ hq2) (by omega) (by omega) (by omega) h
   rw [← hD1] at hd
   have k4:z4 = ((q1 - 1:Nat):Int):=by rw [hz4,show (q1:Int) - 1 = ((q1 - 1:Nat):Int) by omega,hw _ (by omega)]
   have k5:z5 = ((r + a:Nat):Int):=by rw [hz5,← Int.natCast_add,hw _ (by omega)]
   have hqn:(q1 - 1) * a + (r + a) = u:=by
    rw [Nat.sub_mul,Nat.one_mul]
    have:=Nat.mul_le_mul_right a (show 1 ≤ q1 by omega)
    omega
   clear hz4 hz5
   subst k4 k5
   refine ⟨fun h5 => ?_,fun h5 => ⟨(q1 - 1,r + a),⟨hqn,by dsimp only; omega,by dsimp only; omega⟩,by dsimp only; omega,rfl,rfl⟩⟩
   have hQ:=digit_break hYab hu2 hqn (by rw [← hD1]; omega) (by omega) (by omega) (by omega) (by omega) (by omega)
   generalize q1 - 1 = Q1 at hQ ⊢
   have hQd:=Nat.div_add_mod' (u * 4294967296 + v) Y
   rw [hQ] at hQd
   have hw1:=Nat.mod_lt (u * 4294967296 + v) (show 0 < Y by omega)
   rw [hQ] at F1
   obtain ⟨w,hwd⟩:∃ w,w = (u * 4294967296 + v) % Y:=⟨_,rfl⟩
   rw [← hwd] at hQd hw1 F1 F2
   clear hwd
   intro y1 hy1 y2 hy2 y3 hy3 y4 hy4
   have e4:y4 = (w:Int):=by
    rw [hy4,hy3,hy2,hy1,← Int.natCast_mul,fin_rem hQd (Nat.lt_trans hw1 Y1)]
   clear hy1 hy2 hy3 hy4
   subst e4
   refine ⟨by omega,fun y5 hy5 y6 hy6 y7 hy7 => ?_⟩
   have g5:y5 = ((w / a:Nat):Int):=by
    have:=Nat.div_le_self w a
    rw [hy5,Int.tdiv_eq_ediv_of_nonneg (by omega),← Int.natCast_ediv,hw _ (by omega)]
   have g6:y6 = ((w / a * a:Nat):Int):=by
    have:=Nat.div_mul_le_self w a
    rw [hy6,g5,← Int.natCast_mul,hw _ (by omega)]
   have g7:y7 = ((w % a:Nat):Int):=by
    have:=Nat.div_add_mod' w a
    rw [hy7,g6,show ((w:Int) - ((w / a * a:Nat):Int)) = ((w % a:Nat):Int) by omega,hw _ (by have:=Nat.mod_lt w (show 0 < a by omega); omega)]
   clear hy5 hy6 hy7
   subst g5 g6 g7
   have hw2:w * 4294967296 + x < Y * 4294967296:=digit_bound hw1 hxB
   have f2:(w * 4294967296 + x) / Y ≤ w / a:=digit_high hYab (by omega) (by omega) (by omega)
   obtain ⟨D2,hD2⟩:∃ D,D = (w * 4294967296 + x) / Y:=⟨_,rfl⟩
   rw [← hD2] at f2
   refine loopC_go (fun (p:Nat × Nat) => p.1 * a + p.2 = w ∧ D2 ≤ p.1 ∧ p.2 < 4294967296) (fun p => p.1) (fun p => [(18,u64 p.1),(16,u64 p.2)]) (fun _ => []) [] [102,103,104,105,106,107,108,109,110,111,112,113,114,115,18,116,117,118,16,119,120] (w / a,w % a) (by kernel_rfl) ?_ ⟨Nat.div_add_mod' w a,f2,by have:=Nat.mod_lt w (show 0 < a by omega); omega⟩ ?_ ?_
   ·intro x _; simp [goodNames]
   ·simp only [go_sem]
   intro p hp
   obtain ⟨q2,r⟩:=p
   obtain ⟨hq,hq2,hr⟩:=hp
   dsimp only at hq hq2 hr
   simp only [go_sem]
   intro z1 hz1 z2 hz2 z3 hz3
   have hqu:q2 ≤ w:=by
    have:=Nat.mul_le_mul_left q2 (show 1 ≤ a by omega)
    omega
   have hc:(4294967296 ≤ (q2:Int) ∨ z3 < z1) ↔ (4294967296 ≤ q2 ∨ 4294967296 * r + x < q2 * b):=by
    by_cases h:4294967296 ≤ q2
    ·exact ⟨fun _ => .inl h,fun _ => .inl (by omega)⟩
    ·have h5:q2 * b < 4294967296 * 4294967296:=Nat.mul_lt_mul'' (by omega) (by omega)
     have k1:z1 = ((q2 * b:Nat):Int):=by rw [hz1,← Int.natCast_mul,hw _ (by omega)]
     have k2:z2 = ((4294967296 * r:Nat):Int):=by rw [hz2,show (4294967296:Int) * (r:Int) = ((4294967296 * r:Nat):Int) by omega,hw _ (by omega)]
     have k3:z3 = ((4294967296 * r + x:Nat):Int):=by rw [hz3,k2,← Int.natCast_add,hw _ (by omega)]
     rw [k1,k3]
     omega
   clear hz1 hz2 hz3
   refine ⟨fun h z4 hz4 z5 hz5 => ?_,fun h => ?_⟩
   ·have h:=hc.1 h
    clear hc
    have hd:=digit_low hYab hw2 hq (hD2 ▸ hq2) (by omega) (by omega) (by omega) h
    rw [← hD2] at hd
    have k4:z4 = ((q2 - 1:Nat):Int):=by rw [hz4,show (q2:Int) - 1 = ((q2 - 1:Nat):Int) by omega,hw _ (by omega)]
    have k5:z5 = ((r + a:Nat):Int):=by rw [hz5,← Int.natCast_add,hw _ (by omega)]
    have hqn:(q2 - 1) * a + (r + a) = w:=by
     rw [Nat.sub_mul,Nat.one_mul]
     have:=Nat.mul_le_mul_right a (show 1 ≤ q2 by omega)
     omega
    clear hz4 hz5
    subst k4 k5
    refine ⟨fun h5 => ?_,fun h5 => ⟨(q2 - 1,r + a),⟨hqn,by dsimp only; omega,by dsimp only; omega⟩,by dsimp only; omega,rfl,rfl⟩⟩
    have hQ:=digit_break hYab hw2 hqn (by rw [← hD2]; omega) (by omega) (by omega) (by omega) (by omega) (by omega)
    generalize q2 - 1 = Q2 at hQ ⊢
    rw [hQ] at F1
    have hQe:=Nat.div_add_mod' (w * 4294967296 + x) Y
    rw [hQ,← F2] at hQe
    intro y1 hy1 y2 hy2 y3 hy3 y4 hy4 y5 hy5 y6 hy6
    refine ⟨by rw [e1]; exact Int.not_lt.2 (Int.natCast_nonneg s),fun y7 hy7 => ?_⟩
    rw [e1,Int.toNat_natCast,Nat.min_eq_left (Nat.le_of_lt hs3),cP,hy6,hy5,hy4,hy3,← Int.natCast_mul,fin_rem hQe hNm,Int.fdiv_eq_ediv_of_nonneg _ (Int.natCast_nonneg _),← Int.natCast_ediv,Nat.mul_div_cancel _ ps] at hy7
    rw [hy1,fin_quo F1 hNd] at hy2
    rw [hy2,hy7,hJ]
    exact tup2 rfl rfl
   ·have h:¬ (4294967296 ≤ q2 ∨ 4294967296 * r + x < q2 * b):=fun hh => not_or.2 h (hc.2 hh)
    clear hc
    have hQ:=digit_done (v:=x) hYab hq (hD2 ▸ hq2) (by omega) (by omega)
    generalize q2 = Q2 at hQ ⊢
    rw [hQ] at F1
    have hQe:=Nat.div_add_mod' (w * 4294967296 + x) Y
    rw [hQ,← F2] at hQe
    intro y1 hy1 y2 hy2 y3 hy3 y4 hy4 y5 hy5 y6 hy6
    refine ⟨by rw [e1]; exact Int.not_lt.2 (Int.natCast_nonneg s),fun y7 hy7 => ?_⟩
    rw [e1,Int.toNat_natCast,Nat.min_eq_left (Nat.le_of_lt hs3),cP,hy6,hy5,hy4,hy3,← Int.natCast_mul,fin_rem hQe hNm,Int.fdiv_eq_ediv_of_nonneg _ (Int.natCast_nonneg _),← Int.natCast_ediv,Nat.mul_div_cancel _ ps] at hy7
    rw [hy1,fin_quo F1 hNd] at hy2
    rw [hy2,hy7,hJ]
    exact tup2 rfl rfl
  ·have h:¬ (4294967296 ≤ q1 ∨ 4294967296 * r + v < q1 * b):=fun hh => not_or.2 h (hc.2 hh)
   clear hc
   have hQ:=digit_done (v:=v) hYab hq (hD1 ▸ hq2) (by omega) (by omega)
   generalize q1 = Q1 at hQ ⊢
   have hQd:=Nat.div_add_mod' (u * 4294967296 + v) Y
   rw [hQ] at hQd
   have hw1:=Nat.mod_lt (u * 4294967296 + v) (show 0 < Y by omega)
   rw [hQ] at F1
   obtain ⟨w,hwd⟩:∃ w,w = (u * 4294967296 + v) % Y:=⟨_,rfl⟩
   rw [← hwd] at hQd hw1 F1 F2
   clear hwd
   intro y1 hy1 y2 hy2 y3 hy3 y4 hy4
   have e4:y4 = (w:Int):=by
    rw [hy4,hy3,hy2,hy1,← Int.natCast_mul,fin_rem hQd (Nat.lt_trans hw1 Y1)]
   clear hy1 hy2 hy3 hy4
   subst e4
   refine ⟨by omega,fun y5 hy5 y6 hy6 y7 hy7 => ?_⟩
   have g5:y5 = ((w / a:Nat):Int):=by
    have:=Nat.div_le_self w a
    rw [hy5,Int.tdiv_eq_ediv_of_nonneg (by omega),← Int.natCast_ediv,hw _ (by omega)]
   have g6:y6 = ((w / a * a:Nat):Int):=by
    have:=Nat.div_mul_le_self w a
    rw [hy6,g5,← Int.natCast_mul,hw _ (by omega)]
   have g7:y7 = ((w % a:Nat):Int):=by
    have:=Nat.div_add_mod' w a
    rw [hy7,g6,show ((w:Int) - ((w / a * a:Nat):Int)) = ((w % a:Nat):Int) by omega,hw _ (by have:=Nat.mod_lt w (show 0 < a by omega); omega)]
   clear hy5 hy6 hy7
   subst g5 g6 g7
   have hw2:w * 4294967296 + x < Y * 4294967296:=digit_bound hw1 hxB
   have f2:(w * 4294967296 + x) / Y ≤ w / a:=digit_high hYab (by omega) (by omega) (by omega)
   obtain ⟨D2,hD2⟩:∃ D,D = (w * 4294967296 + x) / Y:=⟨_,rfl⟩
   rw [← hD2] at f2
   refine loopC_go (fun (p:Nat × Nat) => p.1 * a + p.2 = w ∧ D2 ≤ p.1 ∧ p.2 < 4294967296) (fun p => p.1) (fun p => [(18,u64 p.1),(16,u64 p.2)]) (fun _ => []) [] [102,103,104,105,106,107,108,109,110,111,112,113,114,115,18,116,117,118,16,119,120] (w / a,w % a) (by kernel_rfl) ?_ ⟨Nat.div_add_mod' w a,f2,by have:=Nat.mod_lt w (show 0 < a by omega); omega⟩ ?_ ?_
   ·intro x _; simp [goodNames]
   ·simp only [go_sem]
   intro p hp
   obtain ⟨q2,r⟩:=p
   obtain ⟨hq,hq2,hr⟩:=hp
   dsimp only at hq hq2 hr
   simp only [go_sem]
   intro z1 hz1 z2 hz2 z3 hz3
   have hqu:q2 ≤ w:=by
    have:=Nat.mul_le_mul_left q2 (show 1 ≤ a by omega)
    omega
   have hc:(4294967296 ≤ (q2:Int) ∨ z3 < z1) ↔ (4294967296 ≤ q2 ∨ 4294967296 * r + x < q2 * b):=by
    by_cases h:4294967296 ≤ q2
    ·exact ⟨fun _ => .inl h,fun _ => .inl (by omega)⟩
    ·have h5:q2 * b < 4294967296 * 4294967296:=Nat.mul_lt_mul'' (by omega) (by omega)
     have k1:z1 = ((q2 * b:Nat):Int):=by rw [hz1,← Int.natCast_mul,hw _ (by omega)]
     have k2:z2 = ((4294967296 * r:Nat):Int):=by rw [hz2,show (4294967296:Int) * (r:Int) = ((4294967296 * r:Nat):Int) by omega,hw _ (by omega)]
     have k3:z3 = ((4294967296 * r + x:Nat):Int):=by rw [hz3,k2,← Int.natCast_add,hw _ (by omega)]
     rw [k1,k3]
     omega
   clear hz1 hz2 hz3
   refine ⟨fun h z4 hz4 z5 hz5 => ?_,fun h => ?_⟩
   ·have h:=hc.1 h
    clear hc
    have hd:=digit_low hYab hw2 hq (hD2 ▸ hq2) (by omega) (by omega) (by omega) h
    rw [← hD2] at hd
    have k4:z4 = ((q2 - 1:Nat):Int):=by rw [hz4,show (q2:Int) - 1 = ((q2 - 1:Nat):Int) by omega,hw _ (by omega)]
    have k5:z5 = ((r + a:Nat):Int):=by rw [hz5,← Int.natCast_add,hw _ (by omega)]
    have hqn:(q2 - 1) * a + (r + a) = w:=by
     rw [Nat.sub_mul,Nat.one_mul]
     have:=Nat.mul_le_mul_right a (show 1 ≤ q2 by omega)
     omega
    clear hz4 hz5
    subst k4 k5
    refine ⟨fun h5 => ?_,fun h5 => ⟨(q2 - 1,r + a),⟨hqn,by dsimp only; omega,by dsimp only; omega⟩,by dsimp only; omega,rfl,rfl⟩⟩
    have hQ:=digit_break hYab hw2 hqn (by rw [← hD2]; omega) (by omega) (by omega) (by omega) (by omega) (by omega)
    generalize q2 - 1 = Q2 at hQ ⊢
    rw [hQ] at F1
    have hQe:=Nat.div_add_mod' (w * 4294967296 + x) Y
    rw [hQ,← F2] at hQe
    intro y1 hy1 y2 hy2 y3 hy3 y4 hy4 y5 hy5 y6 hy6
    refine ⟨by rw [e1]; exact Int.not_lt.2 (Int.natCast_nonneg s),fun y7 hy7 => ?_⟩
    rw [e1,Int.toNat_natCast,Nat.min_eq_left (Nat.le_of_lt hs3),cP,hy6,hy5,hy4,hy3,← Int.natCast_mul,fin_rem hQe hNm,Int.fdiv_eq_ediv_of_nonneg _ (Int.natCast_nonneg _),← Int.natCast_ediv,Nat.mul_div_cancel _ ps] at hy7
    rw [hy1,fin_quo F1 hNd] at hy2
    rw [hy2,hy7,hJ]
    exact tup2 rfl rfl
   ·have h:¬ (4294967296 ≤ q2 ∨ 4294967296 * r + x < q2 * b):=fun hh => not_or.2 h (hc.2 hh)
    clear hc
    have hQ:=digit_done (v:=x) hYab hq (hD2 ▸ hq2) (by omega) (by omega)
    generalize q2 = Q2 at hQ ⊢
    rw [hQ] at F1
    have hQe:=Nat.div_add_mod' (w * 4294967296 + x) Y
    rw [hQ,← F2] at hQe
    intro y1 hy1 y2 hy2 y3 hy3 y4 hy4 y5 hy5 y6 hy6
    refine ⟨by rw [e1]; exact Int.not_lt.2 (Int.natCast_nonneg s),fun y7 hy7 => ?_⟩
    rw [e1,Int.toNat_natCast,Nat.min_eq_left (Nat.le_of_lt hs3),cP,hy6,hy5,hy4,hy3,← Int.natCast_mul,fin_rem hQe hNm,Int.fdiv_eq_ediv_of_nonneg _ (Int.natCast_nonneg _),← Int.natCast_ediv,Nat.mul_div_cancel _ ps] at hy7
    rw [hy1,fin_quo F1 hNd] at hy2
    rw [hy2,hy7,hJ]
    exact tup2 rfl rfl
 ·cases hc
end Go.Ax
end
section
/-
  Ratios and roots.
-/
set_option maxHeartbeats 4000000
set_option maxRecDepth 100000
namespace Go.Ax
open Go.Proofs
def raV (a b:Int):Int:=if b = 0 then cmpS a 0 * 9223372036854775807 else ftV ((a * 4294967296).tdiv b)
def raF (a b:Int):Bool:=if b = 0 then true else ftF ((a * 4294967296).tdiv b)
abbrev ra (a b:Int) (f:Bool):AV:=.agg [i64 (raV a b),bo (raF a b || f)]
theorem raV_rg {a b:Int}:rg (raV a b):=by
 unfold raV
 split
 ·unfold cmpS rg; split
  ·omega
  ·split <;> omega
 ·exact ftV_rg _
theorem sgn_ratio {a b:Int} (hb:b ≠ 0):sgn (decide (a < 0) != decide (b < 0)) (ab a * 4294967296 / ab b) = (a * 4294967296).tdiv b:=by
 have key:ab a * 4294967296 / ab b = (ab a * 4294967296).tdiv (ab b):=(Int.tdiv_eq_ediv_of_nonneg (by have:=ab_nonneg a; omega)).symm
 rw [key]
 unfold ab sgn
 by_cases ha:a < 0 <;> by_cases hb2:b < 0 <;> simp [ha,hb2]
 ·rw [Int.neg_mul,Int.neg_tdiv,Int.neg_neg]
 ·rw [Int.neg_mul,Int.neg_tdiv,Int.neg_neg]
theorem quo_word {m d:Int} (hm:0 ≤ m) (hd:0 < d):jn (m / 18446744073709551616 / d) (jn (m / 18446744073709551616 % d) (m % 18446744073709551616) / d) = m / d:=by
 have e1:=Int.mul_ediv_add_emod m 18446744073709551616
 have e2:=Int.mul_ediv_add_emod (m / 18446744073709551616) d
 have key:m = (m / 18446744073709551616 % d * 18446744073709551616 + m % 18446744073709551616) + d * (m / 18446744073709551616 / d * 18446744073709551616):=by
  rw [← Int.mul_assoc]
  generalize d * (m / 18446744073709551616 / d) = w at *
  omega
 unfold jn
 conv => rhs; rw [key,Int.add_mul_ediv_left _ _ (by omega)]
 omega
theorem inU_quo {m d:Int} (hm:0 ≤ m) (hd:0 < d) (hd2:d < 18446744073709551616):jn (m / 18446744073709551616 % d) (m % 18446744073709551616) / d < 18446744073709551616:=by
 have h1:=Int.emod_lt_of_pos (m / 18446744073709551616) hd
 refine Int.ediv_lt_of_lt_mul hd ?_
 unfold jn
 omega
def c98:Con
 | [.v (.int .i64 a),.v (.int .i64 b)] => some ([inR a,inR b],ra a b false)
 | _ => none
theorem con98:ConOK Tryz.prog 98 c98:=ConOK.of (G:=[(163,c163),(176,c176),(177,c177),(179,c179),(174,c174)]) (H:=[]) (.cons con163 (.cons con176 (.cons con177 (.cons con179 (.cons con174 .nil))))) Tryz.func98 fun l ob r hc hob => by
 unfold c98 at hc
 split at hc
 ·rename_i a b
  cases hc
  have h_0:inR a:=hob _ (by simp)
  have h_1:inR b:=hob _ (by simp)
  refine ⟨by kernel_rfl,fnVC_go (rs:=[.cell 4 36]) rfl rfl ?_⟩
  simp only [go_sem,c163,c176,c177,c179,c174]
  refine ⟨fun hb z hz z1 hz1 => ?_,fun hb => ?_⟩
  ·have hb:b = 0:=by simpa using hb
   refine agg2 (i64_eq ?_) (bo_eq ?_)
   ·unfold raV
    rw [if_pos hb,hz1,hz]
    have:cmpS a 0 = -1 ∨ cmpS a 0 = 0 ∨ cmpS a 0 = 1:=by unfold cmpS; split <;> (try split) <;> simp
    rw [wrap_in (by unfold inR; omega)]
   ·unfold raF; rw [if_pos hb]; rfl
  ·have hb:b ≠ 0:=by simpa using hb
   have ha0:=ab_nonneg a
   have hb0:=ab_nonneg b
   have ha1:ab a ≤ 9223372036854775808:=by unfold inR at h_0; exact ab_le (by omega) (by omega)
   have hb1:ab b ≤ 9223372036854775808:=by unfold inR at h_1; exact ab_le (by omega) (by omega)
   have hb2:0 < ab b:=by unfold ab at hb0 ⊢; split <;> omega
   have eb:ab b % 18446744073709551616 = ab b:=by omega
   simp only [forall_eq,mod_jn,eb,Bool.or_false]
   obtain ⟨m,hm⟩:∃ m,m = ab a * 4294967296:=⟨_,rfl⟩
   rw [← hm]
   have m0:0 ≤ m:=by omega
   have m1:m / 18446744073709551616 < 18446744073709551616:=by omega
   have t1:(m / 18446744073709551616).tmod (ab b) = m / 18446744073709551616 % ab b:=Int.tmod_eq_emod_of_nonneg (by omega)
   have t2:IntKind.u64.wrap ((m / 18446744073709551616).tdiv (ab b)) = m / 18446744073709551616 / ab b:=by
    have k0:0 ≤ m / 18446744073709551616:=by omega
    have k1:m / 18446744073709551616 / ab b ≤ m / 18446744073709551616:=Int.ediv_le_self _ k0
    have k2:0 ≤ m / 18446744073709551616 / ab b:=Int.ediv_nonneg k0 hb0
    rw [Int.tdiv_eq_ediv_of_nonneg k0,wrap_u (by unfold inU; omega)]
   rw [t1,t2]
   have k3:=Int.emod_nonneg (m / 18446744073709551616) (show ab b ≠ 0 by omega)
   have k4:=Int.emod_lt_of_pos (m / 18446744073709551616) hb2
   have k5:0 ≤ m / 18446744073709551616 / ab b:=Int.ediv_nonneg (by omega) hb0
   have k6:m / 18446744073709551616 / ab b ≤ m / 18446744073709551616:=Int.ediv_le_self _ (by omega)
   have k7:0 ≤ jn (m / 18446744073709551616 % ab b) (m % 18446744073709551616) / ab b:=Int.ediv_nonneg (by unfold jn; omega) hb0
   have k8:=inU_quo m0 hb2 (by omega)
   rw [quo_word m0 hb2]
   refine ⟨h_0,inU_mod,inU_div ha0 (by omega),by omega,h_1,by omega,by omega,by unfold inU; omega,inU_mod,by unfold inU; omega,k4,⟨k7,k8⟩,by unfold inU; omega,?_⟩
   have e:(!decide (a < 0) == decide (b < 0)) = (decide (a < 0) != decide (b < 0)):=by cases decide (a < 0) <;> cases decide (b < 0) <;> rfl
   rw [e,hm,sgn_ratio hb]
   refine agg2 (i64_eq ?_) (bo_eq ?_)
   ·unfold raV; rw [if_neg hb]
   ·unfold raF; rw [if_neg hb,Bool.or_false]
 ·cases hc
def c115:Con
 | [.agg [.v (.int .i64 v),.v (.bool f)],.agg [.v (.int .i64 u),.v (.bool e)]] => some ([inR v,inR u],ra (whV v) (whV u) (whF v f || whF u e))
 | _ => none
theorem con115:ConOK Tryz.prog 115 c115:=ConOK.of (G:=[(164,c164),(98,c98),(175,c175)]) (H:=[(1,⟨[(4,.slot 2),(5,.slot 3)],[]⟩)]) (.cons con164 (.cons con98 (.cons con175 .nil))) Tryz.func115 fun l ob r hc hob => by
 unfold c115 at hc
 split at hc
 ·rename_i v f u e
  cases hc
  have h_0:inR v:=hob _ (by simp)
  have h_1:inR u:=hob _ (by simp)
  refine ⟨by kernel_rfl,fnVC_go (rs:=[.cell 4 36]) rfl rfl ?_⟩
  simp only [go_sem,c164,c98,c175]
  simp only [forall_eq]
  refine ⟨inR_wh h_0,inR_wh h_1,fun _ => nums2 rfl rfl (inR_wh h_0) (inR_wh h_1),fun _ => trivial,?_⟩
  rw [any2 rfl rfl,Bool.or_false]
 ·cases hc
theorem newton {m r:Nat} (hr:0 < r) (h:m < (r + 1) * (r + 1)) (hq:m / r < r):m < ((r + m / r) / 2 + 1) * ((r + m / r) / 2 + 1):=by
 have h1:m < r * (m / r + 1):=by
  have:=Nat.div_add_mod m r
  have:=Nat.mod_lt m hr
  rw [Nat.mul_add]; omega
 generalize m / r = q at *
 obtain ⟨d,hd⟩:=Nat.exists_eq_add_of_le (show q + 1 ≤ r by omega)
 have h2:r + q + 1 ≤ 2 * ((r + q) / 2 + 1):=by omega
 generalize (r + q) / 2 + 1 = t at *
 have h3:=Nat.mul_le_mul h2 h2
 have h4:4 * (r * (q + 1)) ≤ (r + q + 1) * (r + q + 1):=by
  subst hd
  have e1:(q + 1 + d + q + 1) * (q + 1 + d + q + 1) = 4 * ((q + 1 + d) * (q + 1)) + d * d:=by
   rw [show q + 1 + d + q + 1 = (q + 1 + d) + (q + 1) by omega]
   generalize q + 1 = p
   simp only [Nat.add_mul,Nat.mul_add]
   have:d * p = p * d:=Nat.mul_comm _ _
   omega
  omega
 have h5:2 * t * (2 * t) = 4 * (t * t):=by
  rw [Nat.mul_assoc,Nat.mul_left_comm t,← Nat.mul_assoc]
 omega
theorem newton_body {h l:Int} {m r:Nat} (hl:inU l) (hh:inU h) (hjm:jn h l = (m:Int)) (h0:0 < m) (hmK:m < 340282366920938463463374607431768211456) (hr:0 < r ∧ r < 18446744073709551616 ∧ m < (r + 1) * (r + 1)) :
  ((r:Int) ≤ h → (r:Int) = (isq m:Nat)) ∧
  (¬(r:Int) ≤ h →
   ∀ (z:Int),z = jn h l / (r:Int) → ∀ (z_1:Int),z_1 = jn h l % (r:Int) →
       inU h ∧ inU l ∧ inU (r:Int) ∧ h < (r:Int) ∧
               ((r:Int) ≤ z → (r:Int) = (isq m:Nat)) ∧
                (¬(r:Int) ≤ z →
                 ∀ (z_2:Int),z_2 = ((r:Int) + z + 0) % 18446744073709551616 →
                   ∀ (z_3:Int),z_3 = ((r:Int) + z + 0) / 18446744073709551616 →
                     inU (r:Int) ∧ inU z ∧
                       ∀ (z:Int),z = z_2 / 2 →
                         ∀ (z_4:Int),z_4 = IntKind.u64.wrap (z_3 * 9223372036854775808) →
                           ∀ (z_5:Int),z_5 = orI IntKind.u64 z z_4 →
                             ∃ y:Nat,(0 < y ∧ y < 18446744073709551616 ∧ m < (y + 1) * (y + 1)) ∧ y < r ∧ z_5 = (y:Int))):=by
 obtain ⟨r1,r2,r3⟩:=hr
 have hru:inU (r:Int):=by unfold inU; omega
 refine ⟨fun h1 => ?_,fun h1 z hz z1 hz1 => ⟨hh,hl,hru,by omega,fun h2 => ?_,fun h2 z2 hz2 z3 hz3 => ⟨hru,?_,fun z4 hz4 z5 hz5 z6 hz6 => ⟨(r + m / r) / 2,?_,?_,?_⟩⟩⟩⟩
 ·have k1:r * r ≤ r * 18446744073709551615:=Nat.mul_le_mul_left r (by omega)
  have k2:r * r ≤ m:=by unfold jn at hjm; unfold inU at hl; omega
  rw [isq_eq hmK k2 r3]
 ·rw [hjm,← Int.natCast_ediv] at hz
  have k2:r * r ≤ m:=(Nat.le_div_iff_mul_le r1).1 (by omega)
  rw [isq_eq hmK k2 r3]
 all_goals (rw [hjm,← Int.natCast_ediv] at hz; have hq:m / r < r:=by omega)
 ·generalize m / r = q at *
  rw [hz]; unfold inU; omega
 ·have hn:=newton r1 r3 hq
  refine ⟨?_,?_,hn⟩
  ·by_cases e:r = 1
   ·subst e; rw [Nat.div_one] at hq; omega
   ·clear hn
    generalize m / r = q at *
    omega
  ·clear hn
   generalize m / r = q at *
   omega
 ·generalize m / r = q at *
  omega
 ·generalize m / r = q at *
  have e3:z3 = (((r + q) / 18446744073709551616:Nat):Int):=by rw [hz3,hz]; omega
  have e5:z5 = ((2 ^ 63 * ((r + q) / 18446744073709551616):Nat):Int):=by
   have p:(2:Nat) ^ 63 = 9223372036854775808:=by decide
   rw [hz5,e3,p,wrap_u (by unfold inU; omega)]; omega
  have e4:z4 = (((r + q) % 18446744073709551616 / 2:Nat):Int):=by rw [hz4,hz2,hz]; omega
  have p:(2:Nat) ^ 63 = 9223372036854775808:=by decide
  rw [hz6,e4,e5]
  unfold orI
  rw [BitVec.toNat_or,toNat_u (by omega),toNat_u (by rw [p]; omega),Nat.or_comm,← Nat.two_pow_add_eq_or_of_lt (by rw [p]; omega),wrap_u (by rw [p]; unfold inU; omega),p]
  omega
theorem root_start {m len k:Nat} (h:m < 2 ^ len) (hk:len ≤ 2 * k):m < (2 ^ k + 1) * (2 ^ k + 1):=by
 have h1:2 ^ len ≤ 2 ^ (2 * k):=Nat.pow_le_pow_right (by omega) hk
 have h2:2 ^ (2 * k) = 2 ^ k * 2 ^ k:=by rw [Nat.two_mul,Nat.pow_add]
 generalize 2 ^ k = a at *
 simp only [Nat.add_mul,Nat.mul_add]
 omega
theorem root_len {h l:Int} {m:Nat} (hl:inU l) (hh:inU h) (hjm:jn h l = (m:Int)):m < 2 ^ (64 + blen h):=by
 have k:=(blen_ok hh).1
 have p:(2:Nat) ^ 64 = 18446744073709551616:=by decide
 rw [Nat.pow_add,p]
 unfold jn at hjm; unfold inU at hl hh
 omega
def c210:Con
 | [.agg [.v (.int .u64 l),.v (.int .u64 h)]] => some ([inU l,inU h],u64 (isq (jn h l).toNat))
 | _ => none
theorem con210:ConOK Tryz.prog 210 c210:=ConOK.of (G:=[(213,c213),(179,c179),(200,c200)]) (H:=[]) (.cons con213 (.cons con179 (.cons con200 .nil))) Tryz.func210 fun l ob r hc hob => by
 unfold c210 at hc
 split at hc
 ·rename_i l h
  cases hc
  have hl:inU l:=hob _ (by simp)
  have hh:inU h:=hob _ (by simp)
  refine ⟨by kernel_rfl,fnVC_go (rs:=[.tmp 2]) rfl rfl ?_⟩
  simp only [go_sem,c213,c179,c200]
  obtain ⟨m,hm⟩:∃ m,m = (jn h l).toNat:=⟨_,rfl⟩
  have hjm:jn h l = (m:Int):=by rw [hm]; unfold jn; unfold inU at hl hh; omega
  have hmK:m < 340282366920938463463374607431768211456:=by unfold jn at hjm; unfold inU at hl hh; omega
  rw [← hm]
  refine ⟨fun _ => trivial,fun _ => trivial,fun h0 => ?_,fun h0 z hz => ⟨hl,fun hh0 z1 hz1 => ⟨hh,fun z2 hz2 z3 hz3 z4 hz4 => ⟨fun hlt => ⟨?_,fun z5 hz5 => ?_⟩,fun hlt => ?_⟩⟩,fun hh0 z3 hz3 z4 hz4 => ⟨fun hlt => ⟨?_,fun z5 hz5 => ?_⟩,fun hlt => ?_⟩⟩⟩
  ·have h1:h = 0:=by simpa using h0.1
   have h2:l = 0:=by simpa using h0.2
   subst h1 h2
   rw [hm]; decide
  all_goals (
   have hm0:0 < m:=by
    refine Nat.pos_of_ne_zero fun hz => ?_
    subst hz
    unfold jn at hjm; unfold inU at hl hh
    have h1:h = 0:=by omega
    have h2:l = 0:=by omega
    subst h1 h2
    simp at h0
   have bl:=(blen_ok hl).2.2
   have bh:=(blen_ok hh).2.2)
  ·rw [hz4,hz3,hz2,hz1,wrap_in (x:=64 + (blen h:Int)) (by unfold inR; omega),wrap_in (x:=64 + (blen h:Int) + 1) (by unfold inR; omega),Int.tdiv_eq_ediv_of_nonneg (by omega),wrap_in (by unfold inR; omega)]; omega
  ·have e4:z4 = (((64 + blen h + 1) / 2:Nat):Int):=by
    rw [hz4,hz3,hz2,hz1,wrap_in (x:=64 + (blen h:Int)) (by unfold inR; omega),wrap_in (x:=64 + (blen h:Int) + 1) (by unfold inR; omega),Int.tdiv_eq_ediv_of_nonneg (by omega),wrap_in (by unfold inR; omega)]; omega
   obtain ⟨k,hk⟩:∃ k,k = (64 + blen h + 1) / 2:=⟨_,rfl⟩
   have k2:k < 64:=by omega
   have k3:2 ^ k ≤ 2 ^ 63:=Nat.pow_le_pow_right (by omega) (by omega)
   have p:(2:Nat) ^ 63 = 9223372036854775808:=by decide
   have e5:z5 = ((2 ^ k:Nat):Int):=by
    rw [hz5,e4,← hk,Int.toNat_natCast,Nat.min_eq_left (by omega),Int.one_mul,show ((2:Int) ^ k) = ((2 ^ k:Nat):Int) by simp,wrap_u ⟨Int.natCast_nonneg _,Int.ofNat_lt.2 (show 2 ^ k < 18446744073709551616 by omega)⟩]
   refine loopC_go (fun (r:Nat) => 0 < r ∧ r < 18446744073709551616 ∧ m < (r + 1) * (r + 1)) (fun r => r) (fun r => [(4,u64 r)]) (fun _ => []) [0] [35,36,37,38,39,2,41,42,43,44,45,46,40,47,48,6,7,49,50,51,52,2,54,55,56,53,57,58,8,9,59,60,61,62,63,4] (2 ^ k) (by kernel_rfl) ?_ ⟨Nat.two_pow_pos k,by omega,root_start (root_len hl hh hjm) (by omega)⟩ ?_ ?_
   ·intro x _; simp [goodNames,asg]
   ·simp only [go_sem];
    exact e5
   ·intro r hr
    simp only [go_sem,c179,c200]
    exact newton_body hl hh hjm hm0 hmK hr
  ·have hm2:m < (18446744073709551615 + 1) * (18446744073709551615 + 1):=hmK
   refine loopC_go (fun (r:Nat) => 0 < r ∧ r < 18446744073709551616 ∧ m < (r + 1) * (r + 1)) (fun r => r) (fun r => [(4,u64 r)]) (fun _ => []) [0] [35,36,37,38,39,2,41,42,43,44,45,46,40,47,48,6,7,49,50,51,52,2,54,55,56,53,57,58,8,9,59,60,61,62,63,4] 18446744073709551615 (by kernel_rfl) ?_ ⟨by decide,by decide,hm2⟩ ?_ ?_
   ·intro x _; simp [goodNames,asg]
   ·simp only [go_sem]
    try rfl
   ·intro r hr
    simp only [go_sem,c179,c200]
    exact newton_body hl hh hjm hm0 hmK hr
  ·rw [hz4,hz3,hz,wrap_in (x:=(blen l:Int) + 1) (by unfold inR; omega),Int.tdiv_eq_ediv_of_nonneg (by omega),wrap_in (by unfold inR; omega)]; omega
  ·have e4:z4 = (((blen l + 1) / 2:Nat):Int):=by
    rw [hz4,hz3,hz,wrap_in (x:=(blen l:Int) + 1) (by unfold inR; omega),Int.tdiv_eq_ediv_of_nonneg (by omega),wrap_in (by unfold inR; omega)]; omega
   obtain ⟨k,hk⟩:∃ k,k = (blen l + 1) / 2:=⟨_,rfl⟩
   have k2:k < 64:=by omega
   have k3:2 ^ k ≤ 2 ^ 63:=Nat.pow_le_pow_right (by omega) (by omega)
   have p:(2:Nat) ^ 63 = 9223372036854775808:=by decide
   have e5:z5 = ((2 ^ k:Nat):Int):=by
    rw [hz5,e4,← hk,Int.toNat_natCast,Nat.min_eq_left (by omega),Int.one_mul,show ((2:Int) ^ k) = ((2 ^ k:Nat):Int) by simp,wrap_u ⟨Int.natCast_nonneg _,Int.ofNat_lt.2 (show 2 ^ k < 18446744073709551616 by omega)⟩]
   have hlm:m < 2 ^ blen l:=by
    have h1:h = 0:=by simpa using hh0
    have h2:=(blen_ok hl).1
    unfold jn at hjm
    omega
   refine loopC_go (fun (r:Nat) => 0 < r ∧ r < 18446744073709551616 ∧ m < (r + 1) * (r + 1)) (fun r => r) (fun r => [(4,u64 r)]) (fun _ => []) [0] [35,36,37,38,39,2,41,42,43,44,45,46,40,47,48,6,7,49,50,51,52,2,54,55,56,53,57,58,8,9,59,60,61,62,63,4] (2 ^ k) (by kernel_rfl) ?_ ⟨Nat.two_pow_pos k,by omega,root_start hlm (by omega)⟩ ?_ ?_
   ·intro x _; simp [goodNames,asg]
   ·simp only [go_sem];
    exact e5
   ·intro r hr
    simp only [go_sem,c179,c200]
    exact newton_body hl hh hjm hm0 hmK hr
  ·exfalso
   apply hlt
   rw [hz4,hz3,hz,wrap_in (x:=(blen l:Int) + 1) (by unfold inR; omega),Int.tdiv_eq_ediv_of_nonneg (by omega),wrap_in (by unfold inR; omega)]; omega
 ·cases hc
theorem isq_small {m:Nat} (h:m < 340282366920938463463374607431768211456):isq m < 18446744073709551616:=by
 have:=(isq_ok h).1
 refine Nat.lt_of_not_le fun hc => ?_
 have:=Nat.mul_le_mul hc hc
 omega
theorem sgn_f {x:Int}:sgn false x = x:=rfl
theorem jn_0 {x:Int}:jn 0 x = x:=by unfold jn; omega
def sqV (v:Int):Int:=if v < 0 then 0 else ftV (isq (v * 4294967296).toNat)
def sqF (v:Int) (f:Bool):Bool:=if v < 0 then true else (ftF (isq (v * 4294967296).toNat) || f)
def c236:Con
 | [.agg [.v (.int .i64 v),.v (.bool f)]] => some ([inR v],.agg [i64 (sqV (whV v)),bo (sqF (whV v) (whF v f))])
 | _ => none
theorem con236:ConOK Tryz.prog 236 c236:=ConOK.of (G:=[(164,c164),(176,c176),(177,c177),(210,c210),(174,c174)]) (H:=[(4,⟨[(11,.slot 2)],[]⟩)]) (.cons con164 (.cons con176 (.cons con177 (.cons con210 (.cons con174 .nil))))) Tryz.func236 fun l ob r hc hob => by
 unfold c236 at hc
 split at hc
 ·rename_i v f
  cases hc
  have h_0:inR v:=hob _ (by simp)
  refine ⟨by kernel_rfl,fnVC_go (rs:=[.cell 2 36]) rfl rfl ?_⟩
  simp only [go_sem,c164,c176,c177,c210,c174]
  have hr:=whV_rg h_0
  simp only [forall_eq,mod_jn,sgn_f,jn_0]
  refine ⟨fun h => ?_,fun h => ?_⟩
  ·refine agg2 (i64_eq ?_) (bo_eq ?_)
   ·unfold sqV; rw [if_pos h]
   ·unfold sqF; rw [if_pos h]
  ·have e:ab (whV v) = whV v:=by unfold ab; rw [if_neg h]
   rw [e]
   unfold rg at hr
   have k:=isq_small (m:=(whV v * 4294967296).toNat) (by omega)
   refine ⟨inR_wh h_0,inU_mod,inU_div (by omega) (by omega),by omega,inU_mod,inU_div (by omega) (by omega),by unfold inU; omega,by unfold inU; omega,?_⟩
   refine agg2 (i64_eq ?_) (bo_eq ?_)
   ·unfold sqV; rw [if_neg h]
   ·unfold sqF; rw [if_neg h]
 ·cases hc
theorem sq_nonneg {a:Int}:0 ≤ a * a:=by
 rcases Int.lt_or_le a 0 with h | h
 ·have:=Int.mul_pos_of_neg_of_neg h h; omega
 ·exact Int.mul_nonneg h h
theorem ab_sq {a:Int}:ab (a * a) = a * a:=by have:=sq_nonneg (a:=a); unfold ab; rw [if_neg (by omega)]
theorem pl_sq {a b:Int}:plM (decide (a < 0) != decide (a < 0)) (a * a) (decide (b < 0) != decide (b < 0)) (b * b) = a * a + b * b:=by
 unfold plM; rw [if_pos (by simp)]
def c187:Con
 | [.agg [.v (.int .i64 v),.v (.bool f)],.agg [.v (.int .i64 u),.v (.bool e)]] => some ([inR v,inR u],nu (isq (whV v * whV v + whV u * whV u).toNat) (whF v f || whF u e))
 | _ => none
theorem con187:ConOK Tryz.prog 187 c187:=ConOK.of (G:=[(164,c164),(171,c171),(172,c172),(210,c210),(175,c175),(174,c174)]) (H:=[(1,⟨[(4,.slot 2),(5,.slot 3)],[]⟩),(2,⟨[(20,.slot 4)],[]⟩)]) (.cons con164 (.cons con171 (.cons con172 (.cons con210 (.cons con175 (.cons con174 .nil)))))) Tryz.func187 fun l ob r hc hob => by
 unfold c187 at hc
 split at hc
 ·rename_i v f u e
  cases hc
  have h_0:inR v:=hob _ (by simp)
  have h_1:inR u:=hob _ (by simp)
  refine ⟨by kernel_rfl,fnVC_go (rs:=[.cell 4 36]) rfl rfl ?_⟩
  simp only [go_sem,c164,c171,c172,c210,c175,c174]
  simp only [forall_eq,mod_jn,sgn_f,jn_0,ab_sq,pl_sq]
  have k:=mul_rg (inR_wh h_0) (inR_wh h_0)
  have k0:=sq_nonneg (a:=whV v)
  have j:=mul_rg (inR_wh h_1) (inR_wh h_1)
  have j0:=sq_nonneg (a:=whV u)
  rw [ab_sq] at k j
  have s:=isq_small (m:=(whV v * whV v + whV u * whV u).toNat) (by omega)
  refine ⟨inR_wh h_0,inR_wh h_0,inR_wh h_1,inR_wh h_1,inU_mod,inU_div k0 (by omega),inU_mod,inU_div j0 (by omega),by omega,inU_mod,inU_div (by omega) (by omega),nums2 rfl rfl (inR_wh h_0) (inR_wh h_1),by unfold inU; omega,by unfold inU; omega,?_⟩
  rw [any2 rfl rfl]
 ·cases hc
end Go.Ax
end
section
/-
  Numbers: the reference's arithmetic.
-/
set_option maxHeartbeats 4000000
set_option maxRecDepth 100000
namespace Go.Ax
open Go.Proofs
theorem eq126 {xo yo:Operand} {neg:Bool} {a b:Int} {g:Bool} {x y:Int} {e:Bool}:eqE Tryz.prog neg 126 xo yo (.agg [bo g,u64 a,u64 b]) (.agg [bo e,u64 x,u64 y]) = some ⟨[],.v (.bool (negV neg ((g == e) && ((a == x) && ((b == y) && true))))),.none⟩:=eqE_agg (by kernel_rfl)
attribute [go_sem] eq126
def c84:Con
 | [.v (.int .i64 v)] => some ([inR v],u64 (ab v))
 | _ => none
theorem con84:ConOK Tryz.prog 84 c84:=ConOK.of (G:=[]) (H:=[]) .nil Tryz.func84 fun l ob r hc hob => by
 unfold c84 at hc
 split at hc
 ·rename_i v
  cases hc
  have h_0:inR v:=hob _ (by simp)
  refine ⟨by kernel_rfl,fnVC_go (rs:=[.tmp 2]) rfl rfl ?_⟩
  simp only [go_sem]
  unfold inR at h_0
  refine ⟨fun h z hz z1 hz1 => ?_,fun h z hz => ?_⟩
  ·rw [hz1,hz,wrap_u64,wrap_i64]; unfold ab; rw [if_pos h]; omega
  ·rw [hz,wrap_u64]; unfold ab; rw [if_neg h]; omega
 ·cases hc
def c79:Con
 | [.v (.int .i64 v)] => some ([inR v],wd (decide (v < 0)) (ab v))
 | _ => none
theorem con79:ConOK Tryz.prog 79 c79:=ConOK.of (G:=[(84,c84)]) (H:=[]) (.cons con84 .nil) Tryz.func79 fun l ob r hc hob => by
 unfold c79 at hc
 split at hc
 ·rename_i v
  cases hc
  have h_0:inR v:=hob _ (by simp)
  refine ⟨by kernel_rfl,fnVC_go (rs:=[.cell 2 126]) rfl rfl ?_⟩
  simp only [go_sem,c84]
  intro z hz
  have h1:=ab_nonneg v
  have h2:ab v ≤ 9223372036854775808:=by unfold inR at h_0; exact ab_le (by omega) (by omega)
  refine ⟨h_0,agg3 rfl (u64_eq (by omega)) (u64_eq (by omega))⟩
 ·cases hc
def c78:Con
 | [.agg [.v (.bool g),.v (.int .u64 h),.v (.int .u64 l)]] => some ([inU l,inU h,h < 4294967296],wd g (jn h l * 4294967296))
 | _ => none
theorem con78:ConOK Tryz.prog 78 c78:=ConOK.of (G:=[]) (H:=[]) .nil Tryz.func78 fun l ob r hc hob => by
 unfold c78 at hc
 split at hc
 ·rename_i g h l
  cases hc
  have h_0:inU l:=hob _ (by simp)
  have h_1:inU h:=hob _ (by simp)
  have h_2:h < 4294967296:=hob _ (by simp)
  refine ⟨by kernel_rfl,fnVC_go (rs:=[.cell 2 126]) rfl rfl ?_⟩
  simp only [go_sem]
  intro z1 hz1 z2 hz2 z3 hz3 z hz
  have e:=orI_u h_1 h_0
  unfold inU at h_0 h_1
  refine agg3 rfl (u64_eq ?_) (u64_eq ?_)
  ·rw [hz3,hz1,hz2,e]; unfold jn; omega
  ·rw [hz,wrap_u64]; unfold jn; omega
 ·cases hc
def c77:Con
 | [.agg [.v (.bool g),.v (.int .u64 h),.v (.int .u64 l)],.v (.bool f)] => some ([inU l,inU h],.agg [i64 (ftV (sgn g (jn h l))),bo (ftF (sgn g (jn h l)) || f)])
 | _ => none
theorem con77:ConOK Tryz.prog 77 c77:=ConOK.of (G:=[]) (H:=[]) .nil Tryz.func77 fun l ob r hc hob => by
 unfold c77 at hc
 split at hc
 ·rename_i g h l f
  cases hc
  have h_0:inU l:=hob _ (by simp)
  have h_1:inU h:=hob _ (by simp)
  refine ⟨by kernel_rfl,fnVC_go (rs:=[.cell 4 36]) rfl rfl ?_⟩
  simp only [go_sem]
  have hl:=h_0
  have hh:=h_1
  unfold inU at hl hh
  have e:∀ {a a':Int} {b b':Bool},a = a' → b = b' → AV.agg [i64 a,bo b] = .agg [i64 a',bo b']:=fun h1 h2 => by rw [h1,h2]
  refine ⟨fun h2 => ?_,fun h2 z hz => ?_⟩
  ·have hb:9223372036854775807 < jn h l:=by
    unfold jn
    rcases h2 with h2 | h2
    ·rw [bne_iff_ne] at h2; omega
    ·omega
   refine ⟨fun hg z hz => ?_,fun hg => ?_⟩
   ·have:sgn g (jn h l) = -jn h l:=by unfold sgn; rw [if_pos hg]
    rw [this]
    refine e ?_ ?_
    ·rw [hz,wrap_in (by unfold inR; omega)]; unfold ftV; rw [if_neg (by omega),if_pos (by omega)]; rfl
    ·unfold ftF; rw [decide_eq_true (by omega)]; rfl
   ·have:sgn g (jn h l) = jn h l:=by unfold sgn; rw [hg]; simp
    rw [this]
    refine e ?_ ?_
    ·unfold ftV; rw [if_pos hb]
    ·unfold ftF; rw [decide_eq_true (by omega)]; rfl
  ·have h0:h = 0:=by simpa using h2.1
   have h3:=h2.2
   have hj:jn h l = l:=by unfold jn; omega
   have hw:z = l:=by rw [hz]; exact wrap_in (by unfold inR; omega)
   rw [hj]
   refine ⟨fun hg z1 hz1 => ?_,fun hg => ?_⟩
   ·have:sgn g l = -l:=by unfold sgn; rw [if_pos hg]
    rw [this]
    have hr:rg (-l):=by unfold rg; omega
    refine e ?_ (by rw [ftF_of hr]; rfl)
    rw [ftV_of hr,hz1,hw,wrap_in (by unfold inR; omega)]; omega
   ·have:sgn g l = l:=by unfold sgn; rw [hg]; simp
    rw [this]
    have hr:rg l:=by unfold rg; omega
    exact e (by rw [ftV_of hr,hw]) (by rw [ftF_of hr]; rfl)
 ·cases hc
def c82:Con
 | [.v (.int .i64 a)] => some ([],.agg [i64 (cmpS a 0 * 9223372036854775807),bo true])
 | _ => none
theorem con82:ConOK Tryz.prog 82 c82:=ConOK.of (G:=[]) (H:=[]) .nil Tryz.func82 fun l ob r hc hob => by
 unfold c82 at hc
 split at hc
 ·rename_i a
  cases hc
  refine ⟨by kernel_rfl,fnVC_go (rs:=[.cell 2 36]) rfl rfl ?_⟩
  simp only [go_sem]
  unfold cmpS
  refine ⟨fun h => ?_,fun h => ⟨fun h1 => ?_,fun h1 => ?_⟩⟩
  ·rw [if_neg (by omega),if_pos h]; rfl
  ·rw [if_pos h1]; rfl
  ·rw [if_neg h1,if_neg h]; rfl
 ·cases hc
end Go.Ax
end
section
/-
  The reference's ratios and roots, bit by bit.
-/
set_option maxHeartbeats 4000000
set_option maxRecDepth 100000
namespace Go.Ax
open Go.Proofs
theorem andU_1 {x:Nat} (hx:x < 18446744073709551616):andI .u64 (x:Int) 1 = ((x % 2:Nat):Int):=by
 unfold andI
 have e1:(BitVec.ofInt IntKind.u64.bits 1).toNat = 1:=by decide
 rw [BitVec.toNat_and,e1,toNat_u hx,Nat.and_one_is_mod,wrap_u (by unfold inU; omega)]
theorem orI_add {x y s:Nat} (hy:y < 2 ^ s) (h:2 ^ s * x + y < 18446744073709551616):orI .u64 ((2 ^ s * x:Nat):Int) (y:Int) = ((2 ^ s * x + y:Nat):Int):=by
 unfold orI
 rw [BitVec.toNat_or,toNat_u (by omega),toNat_u (by omega),← Nat.two_pow_add_eq_or_of_lt hy,wrap_u (by unfold inU; omega)]
theorem or2 {x y:Nat} {p q:Int} (hp:p = ((2 * x:Nat):Int)) (hq:q = (y:Int)) (hy:y < 2) (h:2 * x + y < 18446744073709551616):orI .u64 p q = ((2 * x + y:Nat):Int):=by
 rw [hp,hq]
 have:=orI_add (x:=x) (y:=y) (s:=1) (by simpa using hy) (by simpa using h)
 simpa using this
theorem bit_high {h l:Int} {M k:Nat} (hl:inU l) (hh:inU h) (hjm:jn h l = (M:Int)) (hk:65 ≤ k):M / 2 ^ (k - 1) = h.toNat / 2 ^ (k - 65):=by
 have p:(2:Nat) ^ 64 = 18446744073709551616:=by decide
 have e:2 ^ (k - 1) = 2 ^ 64 * 2 ^ (k - 65):=by rw [← Nat.pow_add]; congr 1; omega
 rw [e,← Nat.div_div_eq_div_mul,p]
 congr 1
 unfold jn at hjm; unfold inU at hl hh
 omega
theorem bit_low {h l:Int} {M k:Nat} (hl:inU l) (hh:inU h) (hjm:jn h l = (M:Int)) (hk0:0 < k) (hk:k < 65):M / 2 ^ (k - 1) % 2 = l.toNat / 2 ^ (k - 1) % 2:=by
 have p:(2:Nat) ^ 64 = 18446744073709551616:=by decide
 have e:(18446744073709551616:Nat) = 2 ^ (k - 1) * (2 * 2 ^ (64 - k)):=by
  rw [← p,Nat.mul_left_comm,← Nat.pow_add,← Nat.pow_succ']; congr 1; omega
 have e2:M = l.toNat + 2 ^ (k - 1) * (2 * 2 ^ (64 - k) * h.toNat):=by
  rw [← Nat.mul_assoc,← e]
  unfold jn at hjm; unfold inU at hl hh
  omega
 rw [e2,Nat.add_mul_div_left _ _ (Nat.two_pow_pos _),Nat.mul_assoc,Nat.add_mul_mod_self_left]
theorem over_step {M D k:Nat} (hk:0 < k) (hk2:k ≤ 128) (hD:1 ≤ D ∧ D ≤ 9223372036854775808) (hM:M < 340282366920938463463374607431768211456) :
  ∀ (b:Int),b = ((M / 2 ^ (k - 1) % 2:Nat):Int) →
  ∀ (z:Int),z = IntKind.u64.wrap (((M / 2 ^ k % D:Nat):Int) * 2) → ∀ (z4:Int),z4 = orI IntKind.u64 z b →
  ∀ (z:Int),z = IntKind.u64.wrap (((M / 2 ^ k / D / 18446744073709551616:Nat):Int) * 2) →
  ∀ (z5:Int),z5 = ((M / 2 ^ k / D % 18446744073709551616:Nat):Int) / 9223372036854775808 → ∀ (z6:Int),z6 = orI IntKind.u64 z z5 →
  ∀ (z:Int),z = IntKind.u64.wrap (((M / 2 ^ k / D % 18446744073709551616:Nat):Int) * 2) →
  ((D:Int) ≤ z4 → ∀ (z7:Int),z7 = IntKind.u64.wrap (z4 - D) → ∀ (z8:Int),z8 = orI IntKind.u64 z 1 → ∀ (z:Int),z = IntKind.i64.wrap ((k:Int) - 1 - 1) →
   ∃ y:Nat,y ≤ 128 ∧ y < k ∧ (z = (y:Int) - 1 ∧ z7 = ((M / 2 ^ y % D:Nat):Int)) ∧ z6 = ((M / 2 ^ y / D / 18446744073709551616:Nat):Int) ∧ z8 = ((M / 2 ^ y / D % 18446744073709551616:Nat):Int)) ∧
  (¬(D:Int) ≤ z4 → ∀ (z7:Int),z7 = IntKind.i64.wrap ((k:Int) - 1 - 1) →
   ∃ y:Nat,y ≤ 128 ∧ y < k ∧ (z7 = (y:Int) - 1 ∧ z4 = ((M / 2 ^ y % D:Nat):Int)) ∧ z6 = ((M / 2 ^ y / D / 18446744073709551616:Nat):Int) ∧ z = ((M / 2 ^ y / D % 18446744073709551616:Nat):Int)):=by
 intro b hb z1 hz1 z4 hz4 z2 hz2 z5 hz5 z6 hz6 z3 hz3
 have hP:M / 2 ^ k = M / 2 ^ (k - 1) / 2:=by
  rw [Nat.div_div_eq_div_mul,← Nat.pow_succ]; congr 2; omega
 obtain ⟨Q,hQ⟩:∃ Q,Q = M / 2 ^ (k - 1):=⟨_,rfl⟩
 have hQM:Q ≤ M:=by rw [hQ]; exact Nat.div_le_self _ _
 rw [← hQ] at hP hb
 rw [hP] at hz1 hz2 hz3 hz5
 obtain ⟨P,hPd⟩:∃ P,P = Q / 2:=⟨_,rfl⟩
 rw [← hPd] at hz1 hz2 hz3 hz5
 have hqr:=Nat.div_add_mod P D
 have hr:=Nat.mod_lt P (show 0 < D by omega)
 have hqP:P / D ≤ P:=Nat.div_le_self _ _
 have hPM:P < 170141183460469231731687303715884105728:=by omega
 clear hP
 obtain ⟨q,hq⟩:∃ q,q = P / D:=⟨_,rfl⟩
 obtain ⟨r,hrr⟩:∃ r,r = P % D:=⟨_,rfl⟩
 rw [← hrr] at hz1 hqr hr
 rw [← hq] at hz2 hz3 hz5 hqr hqP
 have hw:∀ n:Nat,n < 18446744073709551616 → IntKind.u64.wrap (n:Int) = n:=fun n hn => wrap_u (by unfold inU; omega)
 have e1:z1 = ((2 * r:Nat):Int):=by rw [hz1,show (r:Int) * 2 = ((2 * r:Nat):Int) by omega,hw _ (by omega)]
 have e4:z4 = ((2 * r + Q % 2:Nat):Int):=by rw [hz4]; exact or2 e1 hb (by omega) (by omega)
 have e2:z2 = ((2 * (q / 18446744073709551616):Nat):Int):=by
  rw [hz2,show ((q / 18446744073709551616:Nat):Int) * 2 = ((2 * (q / 18446744073709551616):Nat):Int) by omega,hw _ (by omega)]
 have e5:z5 = ((q % 18446744073709551616 / 9223372036854775808:Nat):Int):=by rw [hz5]; rfl
 have e6:z6 = ((2 * q / 18446744073709551616:Nat):Int):=by
  rw [hz6,or2 e2 e5 (by omega) (by omega)]
  omega
 have e3:z3 = ((2 * (q % 9223372036854775808):Nat):Int):=by
  rw [hz3,wrap_u64]; omega
 have hQe:Q = D * (2 * q) + (2 * r + Q % 2):=by
  have:D * (2 * q) = 2 * (D * q):=Nat.mul_left_comm _ _ _
  omega
 have hki:IntKind.i64.wrap ((k:Int) - 1 - 1) = ((k - 1:Nat):Int) - 1:=by rw [wrap_in (by unfold inR; omega)]; omega
 refine ⟨fun hc z7 hz7 z8 hz8 z9 hz9 => ⟨k - 1,by omega,by omega,⟨by rw [hz9,hki],?_⟩,?_,?_⟩,fun hc z7 hz7 => ⟨k - 1,by omega,by omega,⟨by rw [hz7,hki],?_⟩,?_,?_⟩⟩
 all_goals rw [← hQ]
 all_goals clear hz1 hz2 hz3 hz4 hz5 hz6 hb
 ·have hm:Q % D = 2 * r + Q % 2 - D:=by
   have:Q = (2 * r + Q % 2 - D) + D * (2 * q + 1):=by rw [Nat.mul_add]; omega
   conv => lhs; rw [this]
   rw [Nat.add_mul_mod_self_left,Nat.mod_eq_of_lt (by omega)]
  rw [hm,hz7,e4,show ((2 * r + Q % 2:Nat):Int) - (D:Int) = ((2 * r + Q % 2 - D:Nat):Int) by omega,hw _ (by omega)]
 ·have hd:Q / D = 2 * q + 1:=by
   have:Q = (2 * r + Q % 2 - D) + D * (2 * q + 1):=by rw [Nat.mul_add]; omega
   conv => lhs; rw [this]
   rw [Nat.add_mul_div_left _ _ (by omega),Nat.div_eq_of_lt (by omega)]; omega
  rw [hd,e6]; omega
 ·have hd:Q / D = 2 * q + 1:=by
   have:Q = (2 * r + Q % 2 - D) + D * (2 * q + 1):=by rw [Nat.mul_add]; omega
   conv => lhs; rw [this]
   rw [Nat.add_mul_div_left _ _ (by omega),Nat.div_eq_of_lt (by omega)]; omega
  rw [hd,hz8,or2 (q:=1) e3 (y:=1) rfl (by omega) (by omega)]; omega
 ·have hm:Q % D = 2 * r + Q % 2:=by
   conv => lhs; rw [hQe]
   rw [Nat.mul_add_mod,Nat.mod_eq_of_lt (by omega)]
  rw [hm,e4]
 ·have hd:Q / D = 2 * q:=by
   conv => lhs; rw [hQe]
   rw [Nat.mul_add_div (by omega),Nat.div_eq_of_lt (by omega)]; omega
  rw [hd,e6]
 ·have hd:Q / D = 2 * q:=by
   conv => lhs; rw [hQe]
   rw [Nat.mul_add_div (by omega),Nat.div_eq_of_lt (by omega)]; omega
  rw [hd,e3]; omega
def c83:Con
 | [.agg [.v (.bool g),.v (.int .u64 h),.v (.int .u64 l)],.v (.int .u64 d)] => some ([inU l,inU h,1 ≤ d ∧ d ≤ 9223372036854775808],wd g (jn h l / d))
 | _ => none
theorem con83:ConOK Tryz.prog 83 c83:=ConOK.of (G:=[]) (H:=[]) .nil Tryz.func83 fun l ob r hc hob => by
 unfold c83 at hc
 split at hc
 ·rename_i g h l d
  cases hc
  have hl:inU l:=hob _ (by simp)
  have hh:inU h:=hob _ (by simp)
  have hd:1 ≤ d ∧ d ≤ 9223372036854775808:=hob _ (by simp)
  refine ⟨by kernel_rfl,fnVC_go (rs:=[.cell 4 126]) rfl rfl ?_⟩
  simp only [go_sem]
  obtain ⟨D,rfl⟩:∃ n:Nat,d = n:=⟨d.toNat,by omega⟩
  obtain ⟨M,hM⟩:∃ M:Nat,M = (jn h l).toNat:=⟨_,rfl⟩
  have hjm:jn h l = (M:Int):=by rw [hM]; unfold jn; unfold inU at hl hh; omega
  have hMK:M < 340282366920938463463374607431768211456:=by unfold jn at hjm; unfold inU at hl hh; omega
  refine loopC_go (fun (k:Nat) => k ≤ 128) (fun k => k) (fun k => [(7,i64 ((k:Int) - 1)),(6,u64 ((M / 2 ^ k % D:Nat):Int))]) (fun k => [(5,fam1 126 3 [bo g,u64 ((M / 2 ^ k / D / 18446744073709551616:Nat):Int),u64 ((M / 2 ^ k / D % 18446744073709551616:Nat):Int)] none)]) [1,0] [12,13,16,17,18,19,20,21,8,22,23,24,25,26,27,28,29,30,8,31,32,33,34,6,35,36,37,38,39,40,41,42,43,44,45,46,47,48,49,50,51,52,6,53,54,55,56,14,15,7] 128 (by kernel_rfl) ?_ (Nat.le_refl _) ?_ ?_
  ·intro x _; simp [goodNames,asg]
  ·simp only [go_sem]
   have e:M / 340282366920938463463374607431768211456 = 0:=Nat.div_eq_of_lt hMK
   rw [e,Nat.zero_mod,Nat.zero_div]
   exact ⟨⟨by decide,rfl⟩,rfl,rfl⟩
  intro k hk
  simp only [go_sem]
  have hD:1 ≤ D ∧ D ≤ 9223372036854775808:=by omega
  refine ⟨fun hk0 z hz => ?_,fun hk0 => ?_⟩
  ·have ez:z = ((k - 1:Nat):Int):=by rw [hz,show (k:Int) - 1 = ((k - 1:Nat):Int) by omega,wrap_u (by unfold inU; omega)]
   refine ⟨by rw [ez]; omega,fun z1 hz1 z2 hz2 => ⟨fun h64 z3 hz3 z4 hz4 => ?_,fun h64 => ?_⟩⟩
   ·have e3:z4 = ((k - 65:Nat):Int):=by
     rw [hz4,hz3,wrap_in (by unfold inR; omega),show (k:Int) - 1 - 64 = ((k - 65:Nat):Int) by omega,wrap_u (by unfold inU; omega)]
    refine ⟨by rw [e3]; omega,fun z5 hz5 z6 hz6 => ?_⟩
    refine over_step (by omega) hk hD hMK z6 ?_
    rw [hz6,hz5,e3,Int.toNat_natCast,Nat.min_eq_left (by omega),bit_high hl hh hjm (by omega)]
    have hhn:h = ((h.toNat:Nat):Int):=by unfold inU at hh; omega
    have hle:h.toNat / 2 ^ (k - 65) ≤ h.toNat:=Nat.div_le_self _ _
    rw [show h.fdiv (2 ^ (k - 65)) = ((h.toNat / 2 ^ (k - 65):Nat):Int) by
     conv => lhs; rw [hhn]
     rw [show ((2:Int) ^ (k - 65)) = ((2 ^ (k - 65):Nat):Int) by simp,Int.fdiv_eq_ediv_of_nonneg _ (Int.natCast_nonneg _)]; rfl]
    exact andU_1 (by unfold inU at hh; omega)
   ·refine over_step (by omega) hk hD hMK z2 ?_
    rw [hz2,hz1,ez,Int.toNat_natCast,Nat.min_eq_left (by omega),bit_low hl hh hjm (by omega) (by omega)]
    have hhn:l = ((l.toNat:Nat):Int):=by unfold inU at hl; omega
    have hle:l.toNat / 2 ^ (k - 1) ≤ l.toNat:=Nat.div_le_self _ _
    rw [show l.fdiv (2 ^ (k - 1)) = ((l.toNat / 2 ^ (k - 1):Nat):Int) by
     conv => lhs; rw [hhn]
     rw [show ((2:Int) ^ (k - 1)) = ((2 ^ (k - 1):Nat):Int) by simp,Int.fdiv_eq_ediv_of_nonneg _ (Int.natCast_nonneg _)]; rfl]
    exact andU_1 (by unfold inU at hl; omega)
  ·have:k = 0:=by omega
   subst this
   rw [Nat.pow_zero,Nat.div_one,hjm]
   exact agg3 rfl (u64_eq (by omega)) (u64_eq (by omega))
 ·cases hc
def c35:Con
 | [.v (.int .i64 a),.v (.int .i64 b)] => some ([inR a,inR b],ra a b false)
 | _ => none
theorem con35:ConOK Tryz.prog 35 c35:=ConOK.of (G:=[(82,c82),(79,c79),(78,c78),(84,c84),(83,c83),(77,c77)]) (H:=[]) (.cons con82 (.cons con79 (.cons con78 (.cons con84 (.cons con83 (.cons con77 .nil)))))) Tryz.func35 fun l ob r hc hob => by
 unfold c35 at hc
 split at hc
 ·rename_i a b
  cases hc
  have h_0:inR a:=hob _ (by simp)
  have h_1:inR b:=hob _ (by simp)
  refine ⟨by kernel_rfl,fnVC_go (rs:=[.cell 4 36]) rfl rfl ?_⟩
  simp only [go_sem,c82,c79,c78,c84,c83,c77]
  simp only [forall_eq,mod_jn,Bool.or_false]
  refine ⟨fun hb => ?_,fun hb => ?_⟩
  ·have hb:b = 0:=by simpa using hb
   refine agg2 (i64_eq ?_) (bo_eq ?_)
   ·unfold raV; rw [if_pos hb]
   ·unfold raF; rw [if_pos hb]; rfl
  ·have hb:b ≠ 0:=by simpa using hb
   have ha0:=ab_nonneg a
   have hb0:=ab_nonneg b
   have ha1:ab a ≤ 9223372036854775808:=by unfold inR at h_0; exact ab_le (by omega) (by omega)
   have hb1:ab b ≤ 9223372036854775808:=by unfold inR at h_1; exact ab_le (by omega) (by omega)
   have hb2:0 < ab b:=by unfold ab at hb0 ⊢; split <;> omega
   have e:(!decide (a < 0) == decide (b < 0)) = (decide (a < 0) != decide (b < 0)):=by cases decide (a < 0) <;> cases decide (b < 0) <;> rfl
   have k5:0 ≤ ab a * 4294967296 / ab b:=Int.ediv_nonneg (by omega) hb0
   have k6:ab a * 4294967296 / ab b ≤ ab a * 4294967296:=Int.ediv_le_self _ (by omega)
   refine ⟨h_0,inU_mod,inU_div ha0 (by omega),by omega,h_1,inU_mod,inU_div (by omega) (by omega),⟨by omega,hb1⟩,inU_mod,inU_div k5 (by omega),?_⟩
   rw [e,sgn_ratio hb]
   refine agg2 (i64_eq ?_) (bo_eq ?_)
   ·unfold raV; rw [if_neg hb]
   ·unfold raF; rw [if_neg hb,Bool.or_false]
 ·cases hc
end Go.Ax
end
section
/-
  The reference's sums, least and greatest numbers.
-/
set_option maxHeartbeats 4000000
set_option maxRecDepth 100000
namespace Go.Ax
open Go.Proofs
abbrev Nb:=Int × Bool
def nMul (a b:Nb):Nb:=(ftV ((whV a.1 * whV b.1).tdiv 4294967296),ftF ((whV a.1 * whV b.1).tdiv 4294967296) || (whF a.1 a.2 || whF b.1 b.2))
def nInt (n:Int):Nb:=(ftV (n * 4294967296),ftF (n * 4294967296) || false)
def nDiv (a b:Nb):Nb:=(raV (whV a.1) (whV b.1),raF (whV a.1) (whV b.1) || (whF a.1 a.2 || whF b.1 b.2))
def nNeg (a:Nb):Nb:=(-whV a.1,whF a.1 a.2)
def nAdd (a b:Nb):Nb:=(ftV (whV a.1 + whV b.1),ftF (whV a.1 + whV b.1) || (whF a.1 a.2 || whF b.1 b.2))
theorem nMul_rg {a b:Nb}:rg (nMul a b).1:=ftV_rg _
theorem nInt_rg {n:Int}:rg (nInt n).1:=ftV_rg _
theorem nDiv_rg {a b:Nb}:rg (nDiv a b).1:=raV_rg
theorem nNeg_rg {a:Nb} (h:inR a.1):rg (nNeg a).1:=by have:=whV_rg h; unfold nNeg rg at *; dsimp only; omega
theorem nAdd_rg {a b:Nb}:rg (nAdd a b).1:=ftV_rg _
end Go.Ax
end
section
/-
  Boxes: what is valid, what meets, what is within, what grows.
-/
set_option maxHeartbeats 1000000
set_option maxRecDepth 100000
namespace Go.Ax
open Go.Proofs
theorem okX_iff {x:Int}:okX x = true ↔ -2097152 ≤ x ∧ x ≤ 2097152:=by unfold okX; simp
theorem validS_iff {x y:Int}:validS x y = true ↔ -2097152 ≤ x ∧ x ≤ 2097152 ∧ -2097152 ≤ y ∧ y ≤ 2097152:=by
 unfold validS; rw [Bool.and_eq_true,okX_iff,okX_iff]; omega
theorem fairS_iff {n:Nat} {X Y:Nat → Int}:fairS n X Y = true ↔ ∀ i,i < n → validS (X i) (Y i) = true:=by unfold fairS; simp
theorem false_of {b:Bool} (h:¬ b = true):false = b:=by cases b <;> simp_all
def c50:Con
 | [.ro n 2 g] => some ([spots n g,n ≤ 9223372036854775807],bo (fairS n (gx g 0) (gx g 1)))
 | _ => none
theorem vc50 (n:Nat) (X Y:Nat → Int) (hX:∀ i,i < n → inR (X i) ∧ inR (Y i)) (hn:n ≤ 9223372036854775807):fnVC Tryz.prog [] [] Tryz.f50 [.ro n 2 fun i => [i64 (X i),i64 (Y i)]] (· = bo (fairS n X Y)):=by
 refine fnVC_go (rs:=[.tmp 2]) rfl rfl ?_
 simp only [go_sem]
 refine loopC_go (fun (i:Nat) => i ≤ n ∧ ∀ k < i,validS (X k) (Y k) = true) (fun i => n - i) (fun i => [(7,i64 i)]) (fun _ => []) [] [8,9,10,4,11,12,13,14,15,16,17,18,19,20,21,22,23,24,25,26,27,28,29,30,31,32,2,33,7] 0 (by kernel_rfl) ?_ ?_ ?_ ?_
 ·intro x _; simp [goodNames]
 ·simp
 ·simp only [go_sem]
 ·intro i hi
  simp only [go_sem]
  obtain ⟨hi1,hi2⟩:=hi
  refine ⟨fun h => ?_,fun h => (fairS_iff.2 fun k hk => hi2 k (by omega)).symm⟩
  have h1:i < n:=by omega
  have hr:=hX i h1
  unfold inR at hr
  refine ⟨by omega,h,fun z hz z1 hz1 z2 hz2 => ?_⟩
  rw [wrap_i64] at hz hz1
  have hv:=validS_iff (x:=X i) (y:=Y i)
  refine ⟨fun hb => false_of fun hf => ?_,fun hg z hz => ⟨i + 1,⟨by omega,fun k hk => ?_⟩,by omega,?_⟩⟩
  ·have:=hv.1 (fairS_iff.1 hf i h1)
   omega
  ·by_cases e:k = i
   ·subst e; exact hv.2 (by omega)
   ·exact hi2 k (by omega)
  ·rw [wrap_i64] at hz; omega
theorem con50:ConOK Tryz.prog 50 c50:=ConOK.go (G:=[]) (H:=[]) .nil Tryz.func50 fun l ob r hc hob => by
 unfold c50 at hc
 split at hc
 ·rename_i n g
  cases hc
  have hs:spots n g:=hob _ (by simp)
  refine ⟨[.ro n 2 fun i => [i64 (gx g 0 i),i64 (gx g 1 i)]],fun w I vs h => Rs_one (fun v => ro_alike fun i hi => (hs i hi).1) h,by kernel_rfl,vc50 n _ _ (fun i hi => (hs i hi).2) (hob _ (by simp))⟩
 ·cases hc
def checkBoxS (a b c d:Int):Int:=if validS a b = true ∧ validS c d = true then (if c < a ∨ d < b then 5 else 0) else 3
def c15:Con
 | [.agg [.v (.int .i64 a),.v (.int .i64 b),.v (.int .i64 c),.v (.int .i64 d)]] => some ([inR a,inR b,inR c,inR d],i64 (checkBoxS a b c d))
 | _ => none
theorem fair2 {a b c d:Int} {g:Nat → List AV} (h0:g 0 = [i64 a,i64 b]) (h1:g 1 = [i64 c,i64 d]):fairS 2 (gx g 0) (gx g 1) = (validS a b && validS c d):=by
 rw [Bool.eq_iff_iff,fairS_iff,Bool.and_eq_true]
 constructor
 ·intro h
  have k0:=h 0 (by omega)
  have k1:=h 1 (by omega)
  simp only [gx,h0,h1,gi_0,gi_1] at k0 k1
  exact ⟨k0,k1⟩
 ·intro h i hi
  have:i = 0 ∨ i = 1:=by omega
  rcases this with rfl | rfl
  ·simp only [gx,h0,gi_0,gi_1]; exact h.1
  ·simp only [gx,h1,gi_0,gi_1]; exact h.2
theorem spots2 {a b c d:Int} {g:Nat → List AV} (h0:g 0 = [i64 a,i64 b]) (h1:g 1 = [i64 c,i64 d]) (ha:inR a) (hb:inR b) (hc:inR c) (hd:inR d):spots 2 g:=by
 intro i hi
 have:i = 0 ∨ i = 1:=by omega
 rcases this with rfl | rfl
 ·simp only [gx,h0,gi_0,gi_1]; exact ⟨trivial,ha,hb⟩
 ·simp only [gx,h1,gi_0,gi_1]; exact ⟨trivial,hc,hd⟩
theorem con15:ConOK Tryz.prog 15 c15:=ConOK.of (G:=[(50,c50)]) (H:=[(1,⟨[(12,.made 10),(13,.made 11)],[(6,[.made 10]),(8,[.made 10])]⟩)]) (.cons con50 .nil) Tryz.func15 fun l ob r hc hob => by
 unfold c15 at hc
 split at hc
 ·rename_i a b c d
  cases hc
  refine ⟨by kernel_rfl,fnVC_go (rs:=[.tmp 2]) rfl rfl ?_⟩
  simp only [go_sem,c50]
  have ha:inR a:=hob _ (by simp)
  have hb:inR b:=hob _ (by simp)
  have hc:inR c:=hob _ (by simp)
  have hd:inR d:=hob _ (by simp)
  intro z hz
  refine ⟨spots2 (a:=a) (b:=b) (c:=c) (d:=d) rfl rfl ha hb hc hd,?_⟩
  rw [fair2 (a:=a) (b:=b) (c:=c) (d:=d) rfl rfl] at hz
  subst hz
  simp only [checkBoxS,Bool.and_eq_true,Bool.and_eq_false_iff]
  refine ⟨fun h => ?_,fun h => ⟨fun h2 => ?_,fun h2 => ?_⟩⟩
  ·rw [if_neg (by rintro ⟨h1,h2⟩; rcases h with h | h <;> simp_all)]
  ·rw [if_pos h,if_pos h2]
  ·rw [if_pos h,if_neg (by omega)]
 ·cases hc
theorem checkBoxS_iff {a b c d:Int}:checkBoxS a b c d = 0 ↔ -2097152 ≤ a ∧ a ≤ c ∧ c ≤ 2097152 ∧ -2097152 ≤ b ∧ b ≤ d ∧ d ≤ 2097152:=by
 simp only [checkBoxS,validS_iff]
 split
 ·split <;> omega
 ·omega
def meetsS (a b c d x y z t:Int):Bool:=decide (checkBoxS a b c d = 0 ∧ checkBoxS x y z t = 0 ∧ a ≤ z ∧ x ≤ c ∧ b ≤ t ∧ y ≤ d)
def c54:Con
 | [.agg [.v (.int .i64 a),.v (.int .i64 b),.v (.int .i64 c),.v (.int .i64 d)],.agg [.v (.int .i64 x),.v (.int .i64 y),.v (.int .i64 z),.v (.int .i64 t)]] => some ([inR a,inR b,inR c,inR d,inR x,inR y,inR z,inR t],bo (meetsS a b c d x y z t))
 | _ => none
theorem con54:ConOK Tryz.prog 54 c54:=ConOK.of (G:=[(15,c15)]) (H:=[]) (.cons con15 .nil) Tryz.func54 fun l ob r hc hob => by
 unfold c54 at hc
 split at hc
 ·rename_i a b c d x y z t
  cases hc
  refine ⟨by kernel_rfl,fnVC_go (rs:=[.tmp 4]) rfl rfl ?_⟩
  simp only [go_sem,c15]
  have ha:inR a:=hob _ (by simp)
  have hb:inR b:=hob _ (by simp)
  have hc:inR c:=hob _ (by simp)
  have hd:inR d:=hob _ (by simp)
  have hx:inR x:=hob _ (by simp)
  have hy:inR y:=hob _ (by simp)
  have hz:inR z:=hob _ (by simp)
  have ht:inR t:=hob _ (by simp)
  intro z1 h1
  refine ⟨ha,hb,hc,hd,fun z2 h2 => ⟨fun _ => hx,fun _ => hy,fun _ => hz,fun _ => ht,fun h => ?_,fun h z3 h3 z4 h4 z5 h5 z6 h6 => ?_⟩⟩
  ·refine false_of fun hf => ?_
   simp only [meetsS,decide_eq_true_eq] at hf
   rw [← h1,← h2] at hf
   simp only [bne_iff_ne] at h
   omega
  ·rw [Bool.eq_iff_iff]
   simp only [meetsS,Bool.and_eq_true,decide_eq_true_eq,bne_eq_false_iff_eq] at h ⊢
   have k1:=checkBoxS_iff.1 (h1.symm.trans h.1)
   have k2:=checkBoxS_iff.1 (h2.symm.trans h.2)
   rw [← h1,← h2]
   omega
 ·cases hc
def c51:Con
 | [.agg [.v (.int .i64 x),.v (.int .i64 y)],.v (.int .i64 r)] => some ([],.agg [i64 (IntKind.i64.wrap (x - r)),i64 (IntKind.i64.wrap (y - r)),i64 (IntKind.i64.wrap (x + r)),i64 (IntKind.i64.wrap (y + r))])
 | _ => none
theorem con51:ConOK Tryz.prog 51 c51:=ConOK.of (G:=[]) (H:=[]) .nil Tryz.func51 fun l ob r hc hob => by
 unfold c51 at hc
 split at hc
 ·cases hc
  refine ⟨by kernel_rfl,fnVC_go (rs:=[.cell 4 47]) rfl rfl ?_⟩
  simp only [go_sem]
  intro z h z1 h1 z2 h2 z3 h3
  subst h h1 h2 h3
  rfl
 ·cases hc
def growN (n:Int):Int:=max 0 (min n 4194304)
def growS (a b c d n:Int) (k:Nat):Int:=if checkBoxS a b c d = 0 then (match k with
 | 0 => max (a - growN n) (-2097152)
 | 1 => max (b - growN n) (-2097152)
 | 2 => min (c + growN n) 2097152
 | _ => min (d + growN n) 2097152) else (match k with
 | 0 => a
 | 1 => b
 | 2 => c
 | _ => d)
def c28:Con
 | [.agg [.v (.int .i64 a),.v (.int .i64 b),.v (.int .i64 c),.v (.int .i64 d)],.v (.int .i64 n)] => some ([inR a,inR b,inR c,inR d],.agg [i64 (growS a b c d n 0),i64 (growS a b c d n 1),i64 (growS a b c d n 2),i64 (growS a b c d n 3)])
 | _ => none
theorem con28:ConOK Tryz.prog 28 c28:=ConOK.of (G:=[(15,c15)]) (H:=[]) (.cons con15 .nil) Tryz.func28 fun l ob r hc hob => by
 unfold c28 at hc
 split at hc
 ·rename_i a b c d n
  cases hc
  refine ⟨by kernel_rfl,fnVC_go (rs:=[.cell 4 47]) rfl rfl ?_⟩
  simp only [go_sem,c15]
  have ha:inR a:=hob _ (by simp)
  have hb:inR b:=hob _ (by simp)
  have hc:inR c:=hob _ (by simp)
  have hd:inR d:=hob _ (by simp)
  intro z1 h1
  refine ⟨ha,hb,hc,hd,fun h => ?_,fun h z hz z2 h2 z3 h3 z4 h4 z5 h5 z6 h6 z7 h7 z8 h8 z9 h9 z10 h10 => ?_⟩
  ·have h0:¬ checkBoxS a b c d = 0:=by rw [← h1]; simpa using h
   simp only [growS,if_neg h0]
  ·have h0:checkBoxS a b c d = 0:=by rw [← h1]; simpa using h
   have hv:=checkBoxS_iff.1 h0
   have hz2:0 ≤ z2 ∧ z2 ≤ 4194304:=by omega
   rw [wrap_in (by unfold inR; omega)] at h3 h5 h7 h9
   simp only [growS,if_pos h0,growN]
   rw [hz] at h2
   subst h2 h3 h5 h7 h9
   rw [h4,h6,h8,h10]
 ·cases hc
end Go.Ax
end
section
/-
  The box of several boxes.
-/
set_option maxHeartbeats 1000000
set_option maxRecDepth 100000
namespace Go.Ax
open Go.Proofs
def boxes (n:Nat) (g:Nat → List AV):Prop:=∀ i,i < n → g i = [i64 (gx g 0 i),i64 (gx g 1 i),i64 (gx g 2 i),i64 (gx g 3 i)] ∧ inR (gx g 0 i) ∧ inR (gx g 1 i) ∧ inR (gx g 2 i) ∧ inR (gx g 3 i)
def mnS (A:Nat → Int):Nat → Int
 | 0 => 0
 | i + 1 => if i = 0 then A 0 else min (mnS A i) (A i)
def mxS (A:Nat → Int):Nat → Int
 | 0 => 0
 | i + 1 => if i = 0 then A 0 else max (mxS A i) (A i)
def okB (n:Nat) (A B C D:Nat → Int):Prop:=∀ i,i < n → checkBoxS (A i) (B i) (C i) (D i) = 0
instance {n:Nat} {A B C D:Nat → Int}:Decidable (okB n A B C D):=by unfold okB; exact inferInstance
def joinS (n:Nat) (A B C D:Nat → Int) (k:Nat):Int:=if okB n A B C D then (match k with
 | 0 => mnS A n
 | 1 => mnS B n
 | 2 => mxS C n
 | _ => mxS D n) else 0
def c29:Con
 | [.ro n 4 g] => some ([boxes n g,n ≤ 9223372036854775807],.agg [i64 (joinS n (gx g 0) (gx g 1) (gx g 2) (gx g 3) 0),i64 (joinS n (gx g 0) (gx g 1) (gx g 2) (gx g 3) 1),i64 (joinS n (gx g 0) (gx g 1) (gx g 2) (gx g 3) 2),i64 (joinS n (gx g 0) (gx g 1) (gx g 2) (gx g 3) 3)])
 | _ => none
theorem joinS_ok {n:Nat} {A B C D:Nat → Int} (h:okB n A B C D):joinS n A B C D 0 = mnS A n ∧ joinS n A B C D 1 = mnS B n ∧ joinS n A B C D 2 = mxS C n ∧ joinS n A B C D 3 = mxS D n:=by
 unfold joinS; rw [if_pos h,if_pos h,if_pos h,if_pos h]; exact ⟨rfl,rfl,rfl,rfl⟩
theorem joinS_no {n:Nat} {A B C D:Nat → Int} (h:¬ okB n A B C D) {k:Nat}:joinS n A B C D k = 0:=by
 simp only [joinS,if_neg h]
theorem okB_succ {i:Nat} {A B C D:Nat → Int} (h:okB i A B C D) (h0:checkBoxS (A i) (B i) (C i) (D i) = 0):okB (i + 1) A B C D:=fun k hk => by
 by_cases e:k = i
 ·subst e; exact h0
 ·exact h k (by omega)
theorem vc29 (n:Nat) (A B C D:Nat → Int) (hX:∀ i,i < n → inR (A i) ∧ inR (B i) ∧ inR (C i) ∧ inR (D i)) (hn:n ≤ 9223372036854775807):fnVC Tryz.prog [(15,c15)] [(9,⟨[(11,.slot 3),(13,.slot 3)],[(8,[.slot 3])]⟩),(10,⟨[(11,.slot 3),(13,.slot 3)],[(8,[.slot 3])]⟩)] Tryz.f29 [.ro n 4 fun i => [i64 (A i),i64 (B i),i64 (C i),i64 (D i)]] (· = .agg [i64 (joinS n A B C D 0),i64 (joinS n A B C D 1),i64 (joinS n A B C D 2),i64 (joinS n A B C D 3)]):=by
 refine fnVC_go (rs:=[.cell 2 47]) rfl rfl ?_
 simp only [go_sem]
 refine loopC_go (fun (i:Nat) => i ≤ n ∧ okB i A B C D) (fun i => n - i) (fun i => [(8,i64 i)]) (fun i => [(1,fam1 47 4 [i64 (mnS A i),i64 (mnS B i),i64 (mxS C i),i64 (mxS D i)] none)]) [0] [9,10,11,12,5,4,13,14,15,16,17,18,19,20,21,22,23,24,25,26,27,28,29,30,31,32,33,34,35,36,37,38,39,40,41,42,43,44,8] 0 (by kernel_rfl) ?_ ?_ ?_ ?_
 ·intro x _; simp [goodNames,asg]
 ·simp [okB]
 ·simp only [go_sem]; simp [mnS,mxS]
 ·intro i hi
  simp only [go_sem,c15]
  obtain ⟨hi1,hi2⟩:=hi
  refine ⟨fun h => ?_,fun h => ?_⟩
  ·have h1:i < n:=by omega
   obtain ⟨r1,r2,r3,r4⟩:=hX i h1
   refine ⟨by omega,h,fun z hz => ⟨r1,r2,r3,r4,fun hb => ?_,fun hb => ?_⟩⟩
   ·have hno:¬ okB n A B C D:=fun hf => by
     have:=hf i h1
     rw [← hz] at this
     simp [this] at hb
    simp only [joinS_no hno]
   ·have hz0:checkBoxS (A i) (B i) (C i) (D i) = 0:=by rw [← hz]; simpa using hb
    have hok:=okB_succ hi2 hz0
    refine ⟨fun h0 z hz' z1 k1 z2 k2 z3 k3 z4 k4 => ⟨i + 1,⟨by omega,hok⟩,by omega,by rw [wrap_i64] at k4; omega,?_⟩,fun h0 z hz' z1 k1 z2 k2 z3 k3 z4 k4 => ⟨i + 1,⟨by omega,hok⟩,by omega,by rw [wrap_i64] at k4; omega,?_⟩⟩
    ·have e:i = 0:=by simpa using h0
     subst e
     simp only [mnS,mxS,if_true]
     omega
    ·have e:¬ i = 0:=by simpa using h0
     simp only [mnS,mxS,if_neg e]
     exact ⟨hz',k1,k2,k3⟩
  ·have e:i = n:=by omega
   subst e
   obtain ⟨j1,j2,j3,j4⟩:=joinS_ok hi2
   rw [j1,j2,j3,j4]
theorem con29:ConOK Tryz.prog 29 c29:=ConOK.go (G:=[(15,c15)]) (H:=[(9,⟨[(11,.slot 3),(13,.slot 3)],[(8,[.slot 3])]⟩),(10,⟨[(11,.slot 3),(13,.slot 3)],[(8,[.slot 3])]⟩)]) (.cons con15 .nil) Tryz.func29 fun l ob r hc hob => by
 unfold c29 at hc
 split at hc
 ·rename_i n g
  cases hc
  have hs:boxes n g:=hob _ (by simp)
  exact ⟨[.ro n 4 fun i => [i64 (gx g 0 i),i64 (gx g 1 i),i64 (gx g 2 i),i64 (gx g 3 i)]],fun w I vs h => Rs_one (fun v => ro_alike fun i hi => (hs i hi).1) h,by kernel_rfl,vc29 n _ _ _ _ (fun i hi => (hs i hi).2) (hob _ (by simp))⟩
 ·cases hc
theorem mul_bd {x y A B:Int} (hA:0 ≤ A) (hx:-A ≤ x ∧ x ≤ A) (hy:-B ≤ y ∧ y ≤ B):-(A * B) ≤ x * y ∧ x * y ≤ A * B:=by
 have h1:(x * y).natAbs = x.natAbs * y.natAbs:=Int.natAbs_mul x y
 have h2:x.natAbs * y.natAbs ≤ A.natAbs * B.natAbs:=Nat.mul_le_mul (by omega) (by omega)
 have h3:(A * B).natAbs = A.natAbs * B.natAbs:=Int.natAbs_mul A B
 have h4:0 ≤ A * B:=Int.mul_nonneg hA (by omega)
 omega
def sm (x:Int):Prop:=-4194304 ≤ x ∧ x ≤ 4194304
theorem sm_mul {x y:Int} (hx:sm x) (hy:sm y):-17592186044416 ≤ x * y ∧ x * y ≤ 17592186044416:=by
 have:=mul_bd (A:=4194304) (B:=4194304) (by omega) hx hy
 omega
def c104:Con
 | [.agg [.v (.int .i64 a),.v (.int .i64 b)],.agg [.v (.int .i64 c),.v (.int .i64 d)]] => some ([],.agg [i64 (IntKind.i64.wrap (c - a)),i64 (IntKind.i64.wrap (d - b))])
 | _ => none
theorem con104:ConOK Tryz.prog 104 c104:=ConOK.of (G:=[]) (H:=[]) .nil Tryz.func104 fun l ob r hc hob => by
 unfold c104 at hc
 split at hc
 ·cases hc
  refine ⟨by kernel_rfl,fnVC_go (rs:=[.cell 4 29]) rfl rfl ?_⟩
  simp only [go_sem]
  intro z h z1 h1
  subst h h1
  rfl
 ·cases hc
def c162:Con
 | [.agg [.v (.int .i64 a),.v (.int .i64 b)],.agg [.v (.int .i64 c),.v (.int .i64 d)]] => some ([],i64 (IntKind.i64.wrap (IntKind.i64.wrap (a * d) - IntKind.i64.wrap (b * c))))
 | _ => none
theorem con162:ConOK Tryz.prog 162 c162:=ConOK.of (G:=[]) (H:=[]) .nil Tryz.func162 fun l ob r hc hob => by
 unfold c162 at hc
 split at hc
 ·cases hc
  refine ⟨by kernel_rfl,fnVC_go (rs:=[.tmp 4]) rfl rfl ?_⟩
  simp only [go_sem]
  intro z h z1 h1 z2 h2
  rw [h2,h1,h]
 ·cases hc
def turnS (ax ay bx byy cx cy:Int):Int:=(bx - ax) * (cy - ay) - (byy - ay) * (cx - ax)
theorem turn_wrap {ax ay bx byy cx cy:Int} (ha:validS ax ay = true) (hb:validS bx byy = true) (hc:validS cx cy = true) :
  IntKind.i64.wrap (IntKind.i64.wrap (IntKind.i64.wrap (bx - ax) * IntKind.i64.wrap (cy - ay)) - IntKind.i64.wrap (IntKind.i64.wrap (byy - ay) * IntKind.i64.wrap (cx - ax))) = turnS ax ay bx byy cx cy:=by
 rw [validS_iff] at ha hb hc
 rw [wrap_in (x:=bx - ax) (by unfold inR; omega),wrap_in (x:=cy - ay) (by unfold inR; omega),wrap_in (x:=byy - ay) (by unfold inR; omega),wrap_in (x:=cx - ax) (by unfold inR; omega)]
 have h1:=sm_mul (x:=bx - ax) (y:=cy - ay) (by unfold sm; omega) (by unfold sm; omega)
 have h2:=sm_mul (x:=byy - ay) (y:=cx - ax) (by unfold sm; omega) (by unfold sm; omega)
 rw [wrap_in (x:=(bx - ax) * (cy - ay)) (by unfold inR; omega),wrap_in (x:=(byy - ay) * (cx - ax)) (by unfold inR; omega),wrap_in (by unfold inR; omega)]
 rfl
def c86:Con
 | [.agg [.v (.int .i64 a),.v (.int .i64 b)],.agg [.v (.int .i64 c),.v (.int .i64 d)],.agg [.v (.int .i64 e),.v (.int .i64 f)]] => some ([validS a b = true,validS c d = true,validS e f = true],i64 (turnS a b c d e f))
 | _ => none
theorem con86:ConOK Tryz.prog 86 c86:=ConOK.of (G:=[(162,c162),(104,c104)]) (H:=[]) (.cons con162 (.cons con104 .nil)) Tryz.func86 fun l ob r hc hob => by
 unfold c86 at hc
 split at hc
 ·rename_i a b c d e f
  cases hc
  have h1:validS a b = true:=hob _ (by simp)
  have h2:validS c d = true:=hob _ (by simp)
  have h3:validS e f = true:=hob _ (by simp)
  refine ⟨by kernel_rfl,fnVC_go (rs:=[.tmp 6]) rfl rfl ?_⟩
  simp only [go_sem,c162,c104]
  intro z k z1 k1 z2 k2 z3 k3 z4 k4
  subst k k1 k2 k3
  rw [k4,turn_wrap h1 h2 h3]
 ·cases hc
def sideS (a b c d e f:Int):Int:=if validS a b = true ∧ validS c d = true ∧ validS e f = true then (if 0 < turnS a b c d e f then 1 else if turnS a b c d e f < 0 then -1 else 0) else 0
def c55:Con
 | [.agg [.v (.int .i64 a),.v (.int .i64 b)],.agg [.v (.int .i64 c),.v (.int .i64 d)],.agg [.v (.int .i64 e),.v (.int .i64 f)]] => some ([inR a,inR b,inR c,inR d,inR e,inR f],i64 (sideS a b c d e f))
 | _ => none
theorem fair3 {a b c d e f:Int} {g:Nat → List AV} (h0:g 0 = [i64 a,i64 b]) (h1:g 1 = [i64 c,i64 d]) (h2:g 2 = [i64 e,i64 f]):fairS 3 (gx g 0) (gx g 1) = true ↔ (validS a b = true ∧ validS c d = true ∧ validS e f = true):=by
 rw [fairS_iff]
 constructor
 ·intro h
  have k0:=h 0 (by omega)
  have k1:=h 1 (by omega)
  have k2:=h 2 (by omega)
  simp only [gx,h0,h1,h2,gi_0,gi_1] at k0 k1 k2
  exact ⟨k0,k1,k2⟩
 ·intro h i hi
  have:i = 0 ∨ i = 1 ∨ i = 2:=by omega
  rcases this with rfl | rfl | rfl
  ·simp only [gx,h0,gi_0,gi_1]; exact h.1
  ·simp only [gx,h1,gi_0,gi_1]; exact h.2.1
  ·simp only [gx,h2,gi_0,gi_1]; exact h.2.2
theorem spots3 {a b c d e f:Int} {g:Nat → List AV} (h0:g 0 = [i64 a,i64 b]) (h1:g 1 = [i64 c,i64 d]) (h2:g 2 = [i64 e,i64 f]) (ha:inR a) (hb:inR b) (hc:inR c) (hd:inR d) (he:inR e) (hf:inR f):spots 3 g:=by
 intro i hi
 have:i = 0 ∨ i = 1 ∨ i = 2:=by omega
 rcases this with rfl | rfl | rfl
 ·simp only [gx,h0,gi_0,gi_1]; exact ⟨trivial,ha,hb⟩
 ·simp only [gx,h1,gi_0,gi_1]; exact ⟨trivial,hc,hd⟩
 ·simp only [gx,h2,gi_0,gi_1]; exact ⟨trivial,he,hf⟩
theorem con55:ConOK Tryz.prog 55 c55:=ConOK.of (G:=[(50,c50),(86,c86)]) (H:=[]) (.cons con50 (.cons con86 .nil)) Tryz.func55 fun l ob r hc hob => by
 unfold c55 at hc
 split at hc
 ·rename_i a b c d e f
  cases hc
  have ha:inR a:=hob _ (by simp)
  have hb:inR b:=hob _ (by simp)
  have hc:inR c:=hob _ (by simp)
  have hd:inR d:=hob _ (by simp)
  have he:inR e:=hob _ (by simp)
  have hf:inR f:=hob _ (by simp)
  refine ⟨by kernel_rfl,fnVC_go (rs:=[.tmp 6]) rfl rfl ?_⟩
  simp only [go_sem,c50,c86]
  intro z hz
  have hfair:=(Bool.eq_iff_iff.1 hz).trans (fair3 (a:=a) (b:=b) (c:=c) (d:=d) (e:=e) (f:=f) rfl rfl rfl)
  refine ⟨spots3 (a:=a) (b:=b) (c:=c) (d:=d) (e:=e) (f:=f) rfl rfl rfl ha hb hc hd he hf,?_⟩
  clear hz
  refine ⟨fun h t ht => ?_,fun h => ⟨fun x => x.elim,fun _ => ⟨fun x => x.elim,fun _ => ?_⟩⟩⟩
  ·have hv:=hfair.1 h
   refine ⟨hv.1,hv.2.1,hv.2.2,fun k => ?_,fun k => ⟨fun k2 => ?_,fun k2 => ?_⟩⟩
   ·unfold sideS; rw [if_pos hv,← ht,if_pos k]
   ·unfold sideS; rw [if_pos hv,← ht,if_neg k,if_pos k2]
   ·unfold sideS; rw [if_pos hv,← ht,if_neg k,if_neg k2]
  ·unfold sideS
   rw [if_neg (fun hv => by rw [hfair.2 hv] at h; cases h)]
 ·cases hc
end Go.Ax
end
section
/-
  Vectors.
-/
set_option maxHeartbeats 4000000
set_option maxRecDepth 100000
namespace Go.Ax
open Go.Proofs
theorem lay243:layT Tryz.prog 243 = some (true,2):=by kernel_rfl
theorem siz243:sizeT Tryz.prog 243 = 2:=by kernel_rfl
theorem inf243:(Tryz.prog.info? 243).isSome = true:=by kernel_rfl
theorem zer243:zeroT Tryz.prog 243 = some (.agg #[.int .i64 0,.int .i64 0]):=by kernel_rfl
theorem cnc243:concreteT Tryz.prog 243 = true:=by kernel_rfl
theorem off243_0:fOff Tryz.prog 243 0 = some 0:=by kernel_rfl
theorem fty243_0:fTy Tryz.prog 243 0 = some 2:=by kernel_rfl
theorem off243_1:fOff Tryz.prog 243 1 = some 1:=by kernel_rfl
theorem fty243_1:fTy Tryz.prog 243 1 = some 2:=by kernel_rfl
theorem plc243:bPlaces Tryz.prog 243 = some [(0,1),(1,1)]:=by kernel_rfl
attribute [go_sem] lay243 siz243 inf243 zer243 cnc243 off243_0 fty243_0 off243_1 fty243_1 plc243
abbrev nb (a:Nb):AV:=.agg [i64 a.1,bo a.2]
abbrev ve (a b:Nb):AV:=.agg [i64 a.1,bo a.2,i64 b.1,bo b.2]
def nRat (a b:Int):Nb:=(raV a b,raF a b || false)
def nDot (a b c d:Nb):Nb:=(ftV ((whV a.1 * whV b.1 + whV c.1 * whV d.1).tdiv 4294967296),ftF ((whV a.1 * whV b.1 + whV c.1 * whV d.1).tdiv 4294967296) || (whF a.1 a.2 || whF b.1 b.2 || whF c.1 c.2 || whF d.1 d.2))
def nHyp (a b:Nb):Nb:=(ftV (isq (whV a.1 * whV a.1 + whV b.1 * whV b.1).toNat),ftF (isq (whV a.1 * whV a.1 + whV b.1 * whV b.1).toNat) || (whF a.1 a.2 || whF b.1 b.2))
def nSub (a b:Nb):Nb:=(ftV (whV a.1 - whV b.1),ftF (whV a.1 - whV b.1) || (whF a.1 a.2 || whF b.1 b.2))
def nPos (a:Nb):Nb:=(if 0 < whV a.1 then whV a.1 else 0,whF a.1 a.2)
theorem nRat_rg {a b:Int}:rg (nRat a b).1:=raV_rg
theorem nDot_rg {a b c d:Nb}:rg (nDot a b c d).1:=ftV_rg _
theorem nHyp_rg {a b:Nb}:rg (nHyp a b).1:=ftV_rg _
theorem nSub_rg {a b:Nb}:rg (nSub a b).1:=ftV_rg _
def c47:Con
 | [.agg [.v (.int .i64 x),.v (.int .i64 y)]] => some ([inR x,inR y],ve (nRat x 256) (nRat y 256))
 | _ => none
theorem con47:ConOK Tryz.prog 47 c47:=ConOK.of (G:=[(98,c98)]) (H:=[(1,⟨[(7,.slot 2)],[]⟩)]) (.cons con98 .nil) Tryz.func47 fun l ob r hc hob => by
 unfold c47 at hc
 split at hc
 ·rename_i x y
  cases hc
  have h_0:inR x:=hob _ (by simp)
  have h_1:inR y:=hob _ (by simp)
  refine ⟨by kernel_rfl,fnVC_go (rs:=[.cell 2 38]) rfl rfl ?_⟩
  simp only [go_sem,c98]
  simp only [forall_eq]
  exact ⟨h_0,by unfold inR; omega,h_1,by unfold inR; omega,rfl⟩
 ·cases hc
def c113:Con
 | [.v (.int .i64 x)] => some ([inR x],nb (nRat x 256))
 | _ => none
theorem con113:ConOK Tryz.prog 113 c113:=ConOK.of (G:=[(98,c98)]) (H:=[]) (.cons con98 .nil) Tryz.func113 fun l ob r hc hob => by
 unfold c113 at hc
 split at hc
 ·rename_i x
  cases hc
  have h_0:inR x:=hob _ (by simp)
  refine ⟨by kernel_rfl,fnVC_go (rs:=[.cell 2 36]) rfl rfl ?_⟩
  simp only [go_sem,c98]
  simp only [forall_eq]
  exact ⟨h_0,by unfold inR; omega,rfl⟩
 ·cases hc
def c114:Con
 | [.agg [.v (.int .i64 x),.v (.bool e),.v (.int .i64 y),.v (.bool f)]] => some ([inR x,inR y],nb (nHyp (x,e) (y,f)))
 | _ => none
theorem con114:ConOK Tryz.prog 114 c114:=ConOK.of (G:=[(187,c187)]) (H:=[]) (.cons con187 .nil) Tryz.func114 fun l ob r hc hob => by
 unfold c114 at hc
 split at hc
 ·rename_i x e y f
  cases hc
  have h_0:inR x:=hob _ (by simp)
  have h_1:inR y:=hob _ (by simp)
  refine ⟨by kernel_rfl,fnVC_go (rs:=[.cell 2 36]) rfl rfl ?_⟩
  simp only [go_sem,c187]
  simp only [forall_eq]
  exact ⟨h_0,h_1,rfl⟩
 ·cases hc
def c116:Con
 | [.agg [.v (.int .i64 x),.v (.bool e),.v (.int .i64 y),.v (.bool f)],.agg [.v (.int .i64 k),.v (.bool g)]] => some ([inR x,inR y,inR k],ve (nMul (x,e) (k,g)) (nMul (y,f) (k,g)))
 | _ => none
theorem con116:ConOK Tryz.prog 116 c116:=ConOK.of (G:=[(95,c95)]) (H:=[(1,⟨[(9,.slot 4)],[]⟩)]) (.cons con95 .nil) Tryz.func116 fun l ob r hc hob => by
 unfold c116 at hc
 split at hc
 ·rename_i x e y f k g
  cases hc
  have h_0:inR x:=hob _ (by simp)
  have h_1:inR y:=hob _ (by simp)
  have h_2:inR k:=hob _ (by simp)
  refine ⟨by kernel_rfl,fnVC_go (rs:=[.cell 4 38]) rfl rfl ?_⟩
  simp only [go_sem,c95]
  simp only [forall_eq]
  exact ⟨h_0,h_2,h_1,h_2,rfl⟩
 ·cases hc
def c126:Con
 | [.agg [.v (.int .i64 x),.v (.bool e),.v (.int .i64 y),.v (.bool f)],.agg [.v (.int .i64 z),.v (.bool g),.v (.int .i64 t),.v (.bool h)]] => some ([inR x,inR y,inR z,inR t],nb (nDot (x,e) (z,g) (y,f) (t,h)))
 | _ => none
theorem con126:ConOK Tryz.prog 126 c126:=ConOK.of (G:=[(91,c91)]) (H:=[]) (.cons con91 .nil) Tryz.func126 fun l ob r hc hob => by
 unfold c126 at hc
 split at hc
 ·rename_i x e y f z g t h
  cases hc
  have h_0:inR x:=hob _ (by simp)
  have h_1:inR y:=hob _ (by simp)
  have h_2:inR z:=hob _ (by simp)
  have h_3:inR t:=hob _ (by simp)
  refine ⟨by kernel_rfl,fnVC_go (rs:=[.cell 4 36]) rfl rfl ?_⟩
  simp only [go_sem,c91]
  simp only [forall_eq]
  exact ⟨h_0,h_2,h_1,h_3,rfl⟩
 ·cases hc
def c235:Con
 | [.agg [.v (.int .i64 x),.v (.bool e),.v (.int .i64 y),.v (.bool f)],.agg [.v (.int .i64 z),.v (.bool g),.v (.int .i64 t),.v (.bool h)]] => some ([inR x,inR y,inR z,inR t],nb (nDot (x,e) (t,h) (nNeg (y,f)) (z,g)))
 | _ => none
theorem con235:ConOK Tryz.prog 235 c235:=ConOK.of (G:=[(91,c91),(127,c127)]) (H:=[(1,⟨[(10,.slot 4)],[]⟩)]) (.cons con91 (.cons con127 .nil)) Tryz.func235 fun l ob r hc hob => by
 unfold c235 at hc
 split at hc
 ·rename_i x e y f z g t h
  cases hc
  have h_0:inR x:=hob _ (by simp)
  have h_1:inR y:=hob _ (by simp)
  have h_2:inR z:=hob _ (by simp)
  have h_3:inR t:=hob _ (by simp)
  refine ⟨by kernel_rfl,fnVC_go (rs:=[.cell 4 36]) rfl rfl ?_⟩
  simp only [go_sem,c91,c127]
  simp only [forall_eq]
  exact ⟨h_1,h_0,h_3,rg_inR (nNeg_rg (a:=(y,f)) h_1),h_2,rfl⟩
 ·cases hc
def c110:Con
 | [.v (.int .i64 x),.v (.int .i64 y)] => some ([inR x,inR y],ve (nInt x) (nInt y))
 | _ => none
theorem con110:ConOK Tryz.prog 110 c110:=ConOK.of (G:=[(93,c93)]) (H:=[]) (.cons con93 .nil) Tryz.func110 fun l ob r hc hob => by
 unfold c110 at hc
 split at hc
 ·rename_i x y
  cases hc
  have h_0:inR x:=hob _ (by simp)
  have h_1:inR y:=hob _ (by simp)
  refine ⟨by kernel_rfl,fnVC_go (rs:=[.cell 4 38]) rfl rfl ?_⟩
  simp only [go_sem,c93]
  simp only [forall_eq]
  exact ⟨h_0,h_1,rfl⟩
 ·cases hc
def c124:Con
 | [.agg [.v (.int .i64 x),.v (.int .i64 y)]] => some ([inR x,inR y],ve (nInt x) (nInt y))
 | _ => none
theorem con124:ConOK Tryz.prog 124 c124:=ConOK.of (G:=[(110,c110)]) (H:=[]) (.cons con110 .nil) Tryz.func124 fun l ob r hc hob => by
 unfold c124 at hc
 split at hc
 ·rename_i x y
  cases hc
  have h_0:inR x:=hob _ (by simp)
  have h_1:inR y:=hob _ (by simp)
  refine ⟨by kernel_rfl,fnVC_go (rs:=[.cell 2 38]) rfl rfl ?_⟩
  simp only [go_sem,c110]
  simp only [forall_eq]
  exact ⟨h_0,h_1,trivial⟩
 ·cases hc
def c111:Con
 | [.agg [.v (.int .i64 x),.v (.bool f)]] => some ([inR x],nb (nPos (x,f)))
 | _ => none
theorem con111:ConOK Tryz.prog 111 c111:=ConOK.of (G:=[(186,c186)]) (H:=[]) (.cons con186 .nil) Tryz.func111 fun l ob r hc hob => by
 unfold c111 at hc
 split at hc
 ·rename_i x f
  cases hc
  have h_0:inR x:=hob _ (by simp)
  refine ⟨by kernel_rfl,fnVC_go (rs:=[.cell 2 36]) rfl rfl ?_⟩
  simp only [go_sem,c186]
  simp only [forall_eq]
  refine ⟨nums2 rfl rfl (by unfold inR; omega) h_0,?_⟩
  rw [mo2 rfl rfl,(sum2 (a:=0) (b:=x) (e:=false) (f:=f) rfl rfl).2]
  have c1:whV 0 = 0:=by decide
  have c2:whF 0 false = false:=by decide
  have e1:((-1:Int) = 1) = False:=by decide
  simp only [c1,c2,e1,false_and,false_or,eq_self,true_and,Bool.false_or]
  rfl
 ·cases hc
def c239:Con
 | [.agg [.v (.int .i64 a),.v (.int .i64 b)],.agg [.v (.int .i64 c),.v (.int .i64 d)]] => some ([inR a,inR b,inR c,inR d],bo (decide (c * b < a * d)))
 | _ => none
theorem con239:ConOK Tryz.prog 239 c239:=ConOK.of (G:=[(185,c185)]) (H:=[]) (.cons con185 .nil) Tryz.func239 fun l ob r hc hob => by
 unfold c239 at hc
 split at hc
 ·rename_i a b c d
  cases hc
  have h_0:inR a:=hob _ (by simp)
  have h_1:inR b:=hob _ (by simp)
  have h_2:inR c:=hob _ (by simp)
  have h_3:inR d:=hob _ (by simp)
  refine ⟨by kernel_rfl,fnVC_go (rs:=[.tmp 4]) rfl rfl ?_⟩
  simp only [go_sem,c185]
  simp only [forall_eq]
  refine ⟨h_0,h_3,h_2,h_1,?_⟩
  rw [decide_eq_decide]
  unfold cmpS
  split
  ·omega
  ·split <;> omega
 ·cases hc
theorem nums1 {a:Int} {e:Bool} {g:Nat → List AV} (h0:g 0 = [i64 a,bo e]) (ha:inR a):nums 1 g:=by
 intro i hi
 have:i = 0:=by omega
 subst this
 simp only [gx,gb,h0,gi_0,gib_1]; exact ⟨trivial,ha⟩
def spV (a:Nb):Int:=(whV (nMul a (nInt 256)).1 + 2147483648) / 4294967296
def vfS (n:Nat) (g:Nat → List AV):Bool:=anyB (fun i => whF (gx g 0 i) (gb g 1 i) || whF (gx g 2 i) (gb g 3 i)) n
theorem gib_3 {a b c:AV} {x:Bool} {l:List AV}:gib (a :: b :: c :: .v (.bool x) :: l) 3 = x:=(rfl)
attribute [go_sem] gib_3
def vecs (n:Nat) (g:Nat → List AV):Prop:=∀ i,i < n → g i = [i64 (gx g 0 i),bo (gb g 1 i),i64 (gx g 2 i),bo (gb g 3 i)] ∧ inR (gx g 0 i) ∧ inR (gx g 2 i)
def c170:Con
 | [.agg [.v (.int .i64 x),.v (.bool e),.v (.int .i64 y),.v (.bool f)]] => some ([inR x,inR y],bo (whF x e || whF y f))
 | _ => none
theorem con170:ConOK Tryz.prog 170 c170:=ConOK.of (G:=[(127,c127)]) (H:=[]) (.cons con127 .nil) Tryz.func170 fun l ob r hc hob => by
 unfold c170 at hc
 split at hc
 ·rename_i x e y f
  cases hc
  have h_0:inR x:=hob _ (by simp)
  have h_1:inR y:=hob _ (by simp)
  refine ⟨by kernel_rfl,fnVC_go (rs:=[.tmp 2]) rfl rfl ?_⟩
  simp only [go_sem,c127]
  simp only [forall_eq]
  exact ⟨h_0,fun _ => h_1,trivial⟩
 ·cases hc
def ixS (G:Nat → Bool):Nat → Nat → Int
 | _,0 => -1
 | i,k + 1 => if G i = true then i else ixS G (i + 1) k
theorem ixS_any {G:Nat → Bool} {n:Nat}:∀ (k i:Nat),i + k = n → (∀ j,j < i → G j = false) → decide (0 ≤ ixS G i k) = anyB G n
 | 0,i,h,hj => by
  have:anyB G n = false:=by
   rw [Bool.eq_false_iff]
   intro hc
   obtain ⟨j,h1,h2⟩:=anyB_iff.1 hc
   rw [hj j (by omega)] at h2; cases h2
  rw [this]; rfl
 | k + 1,i,h,hj => by
  unfold ixS
  by_cases hg:G i = true
  ·rw [if_pos hg,decide_eq_true (by omega)]
   exact (anyB_iff.2 ⟨i,by omega,hg⟩).symm
  ·rw [if_neg hg]
   exact ixS_any k (i + 1) (by omega) fun j hj2 => by
    by_cases e:j = i
    ·subst e; exact Bool.eq_false_iff.2 hg
    ·exact hj j (by omega)
def vflS (g:Nat → List AV) (i:Nat):Bool:=whF (gx g 0 i) (gb g 1 i) || whF (gx g 2 i) (gb g 3 i)
def c205:Con
 | [.ro n 4 g,.fn 170 []] => some ([vecs n g,n ≤ 1000],i64 (ixS (vflS g) 0 n))
 | _ => none
theorem vc205 (n:Nat) (X Y:Nat → Int) (E F:Nat → Bool) (hX:∀ i,i < n → inR (X i) ∧ inR (Y i)) (hn:n ≤ 1000):fnVC Tryz.prog [(170,c170)] [] Tryz.f205 [.ro n 4 fun i => [i64 (X i),bo (E i),i64 (Y i),bo (F i)],.fn 170 []] (· = i64 (ixS (fun i => whF (X i) (E i) || whF (Y i) (F i)) 0 n)):=by
 refine fnVC_go (rs:=[.tmp 4]) rfl rfl ?_
 simp only [go_sem]
 refine loopC_go (fun (i:Nat) => i ≤ n ∧ ixS (fun i => whF (X i) (E i) || whF (Y i) (F i)) 0 n = ixS (fun i => whF (X i) (E i) || whF (Y i) (F i)) i (n - i)) (fun i => n - i) (fun i => [(8,i64 i)]) (fun _ => []) [] [9,10,5,11,12,13,14,15,16,17,4,18,8] 0 (by kernel_rfl) ?_ ⟨Nat.zero_le _,rfl⟩ ?_ ?_
 ·intro x _; simp [goodNames]
 ·simp only [go_sem]
 ·intro i hi
  simp only [go_sem,c170]
  generalize hG:(fun i => whF (X i) (E i) || whF (Y i) (F i)) = G at *
  have hGi:G i = (whF (X i) (E i) || whF (Y i) (F i)):=by rw [← hG]
  rw [← hGi]
  refine ⟨fun h => ⟨by omega,h,fun z hz => ⟨(hX i (by omega)).1,(hX i (by omega)).2,fun hz1 => ?_,fun hz1 z2 hz2 => ⟨i + 1,⟨by omega,?_⟩,by omega,?_⟩⟩⟩,fun h => ?_⟩
  ·rw [hi.2,show n - i = (n - i - 1) + 1 by omega]
   unfold ixS
   rw [if_pos (by rw [← hz]; exact hz1)]
  ·rw [hi.2,show n - i = (n - i - 1) + 1 by omega]
   conv => lhs; unfold ixS
   rw [if_neg (by rw [← hz,hz1]; decide),show n - (i + 1) = n - i - 1 by omega]
  ·rw [hz2,wrap_in (by unfold inR; omega)]; rfl
  ·rw [hi.2,show n - i = 0 by omega]; rfl
theorem con205:ConOK Tryz.prog 205 c205:=ConOK.go (G:=[(170,c170)]) (H:=[]) (.cons con170 .nil) Tryz.func205 fun l ob r hc hob => by
 unfold c205 at hc
 split at hc
 ·rename_i n g
  cases hc
  have hs:vecs n g:=hob _ (by simp)
  refine ⟨[.ro n 4 fun i => [i64 (gx g 0 i),bo (gb g 1 i),i64 (gx g 2 i),bo (gb g 3 i)],.fn 170 []],fun w I vs h => ?_,by kernel_rfl,vc205 n _ _ _ _ (fun i hi => (hs i hi).2) (hob _ (by simp))⟩
  obtain ⟨x,xs,rfl,h1,h2⟩:=h.inv
  exact .cons (ro_alike (fun i hi => (hs i hi).1) h1) h2
 ·cases hc
def c169:Con
 | [.ro n 4 g,.fn 170 []] => some ([vecs n g,n ≤ 1000],bo (vfS n g))
 | _ => none
theorem con169:ConOK Tryz.prog 169 c169:=ConOK.of (G:=[(205,c205)]) (H:=[]) (.cons con205 .nil) Tryz.func169 fun l ob r hc hob => by
 unfold c169 at hc
 split at hc
 ·rename_i n g
  cases hc
  have h_0:vecs n g:=hob _ (by simp)
  have h_1:n ≤ 1000:=hob _ (by simp)
  refine ⟨by kernel_rfl,fnVC_go (rs:=[.tmp 4]) rfl rfl ?_⟩
  simp only [go_sem,c205]
  simp only [forall_eq]
  exact ⟨h_0,h_1,ixS_any n 0 (by omega) fun j hj => by omega⟩
 ·cases hc
def c90:Con
 | [.ro n 4 g] => some ([vecs n g,n ≤ 1000],bo (vfS n g))
 | _ => none
theorem con90:ConOK Tryz.prog 90 c90:=ConOK.of (G:=[(169,c169)]) (H:=[]) (.cons con169 .nil) Tryz.func90 fun l ob r hc hob => by
 unfold c90 at hc
 split at hc
 ·rename_i n g
  cases hc
  have h_0:vecs n g:=hob _ (by simp)
  have h_1:n ≤ 1000:=hob _ (by simp)
  refine ⟨by kernel_rfl,fnVC_go (rs:=[.tmp 2]) rfl rfl ?_⟩
  simp only [go_sem,c169]
  simp only [forall_eq]
  exact ⟨h_0,h_1,trivial⟩
 ·cases hc
theorem vecs1 {a b:Int} {e f:Bool} {g:Nat → List AV} (h0:g 0 = [i64 a,bo e,i64 b,bo f]) (ha:inR a) (hb:inR b):vecs 1 g:=by
 intro i hi
 have:i = 0:=by omega
 subst this
 simp only [gx,gb,h0,gi_0,gib_1,gi_2,gib_3]; exact ⟨trivial,ha,hb⟩
theorem vf1 {a b:Int} {e f:Bool} {g:Nat → List AV} (h0:g 0 = [i64 a,bo e,i64 b,bo f]):vfS 1 g = (whF a e || whF b f):=by
 simp only [vfS,anyB,gx,gb,h0,gi_0,gib_1,gi_2,gib_3,Bool.false_or]
def unB (x y:Int):Nb × Nb:=if ab x < 16777216 ∧ ab y < 16777216 then ((x * 16777216,false),(y * 16777216,false)) else ((x,false),(y,false))
def unS (x:Int) (e:Bool) (y:Int) (f:Bool):Bool × Nb × Nb:=
 if whF x e = true ∨ whF y f = true then (false,(0,false),(0,false))
 else if (nHyp (unB x y).1 (unB x y).2).2 = true ∨ (nHyp (unB x y).1 (unB x y).2).1 = 0 then (false,(0,false),(0,false))
 else (true,nDiv (unB x y).1 (nHyp (unB x y).1 (unB x y).2),nDiv (unB x y).2 (nHyp (unB x y).1 (unB x y).2))
theorem wh_split {v:Int} {f:Bool} (h:whF v f = false):v ≠ -9223372036854775808 ∧ f = false:=by
 unfold whF at h
 rw [Bool.or_eq_false_iff] at h
 exact ⟨of_decide_eq_false h.1,h.2⟩
theorem unS_none {x y:Int} {e f:Bool} (h:whF x e = true ∨ whF y f = true):unS x e y f = (false,(0,false),(0,false)):=by unfold unS; rw [if_pos h]
theorem unS_nul {x y:Int} {e f:Bool} {a b:Nb} (h:¬ (whF x e = true ∨ whF y f = true)) (hb:unB x y = (a,b)) (h2:(nHyp a b).2 = true ∨ (nHyp a b).1 = 0):unS x e y f = (false,(0,false),(0,false)):=by unfold unS; rw [if_neg h,hb,if_pos h2]
theorem unS_some {x y:Int} {e f:Bool} {a b:Nb} (h:¬ (whF x e = true ∨ whF y f = true)) (hb:unB x y = (a,b)) (h2:¬ ((nHyp a b).2 = true ∨ (nHyp a b).1 = 0)):unS x e y f = (true,nDiv a (nHyp a b),nDiv b (nHyp a b)):=by unfold unS; rw [if_neg h,hb,if_neg h2]
def c109:Con
 | [.agg [.v (.int .i64 x),.v (.bool e),.v (.int .i64 y),.v (.bool f)]] => some ([inR x,inR y],.tup [ve (unS x e y f).2.1 (unS x e y f).2.2,bo (unS x e y f).1])
 | _ => none
theorem con109:ConOK Tryz.prog 109 c109:=ConOK.of (G:=[(90,c90),(114,c114),(115,c115)]) (H:=[(8,⟨[(9,.slot 2)],[]⟩)]) (.cons con90 (.cons con114 (.cons con115 .nil))) Tryz.func109 fun l ob r hc hob => by
 unfold c109 at hc
 split at hc
 ·rename_i x e y f
  cases hc
  have h_0:inR x:=hob _ (by simp)
  have h_1:inR y:=hob _ (by simp)
  refine ⟨by kernel_rfl,fnVC_go (rs:=[.cell 2 38,.tmp 3]) rfl rfl ?_⟩
  simp only [go_sem,c90,c114,c115]
  intro z hz
  refine ⟨vecs1 rfl h_0 h_1,fun ht => ?_,fun ht z1 hz1 z2 hz2 z3 hz3 => ?_⟩
  ·rw [hz,vf1 rfl] at ht
   have ht:whF x e = true ∨ whF y f = true:=by simpa using ht
   rw [unS_none ht]
  ·rw [hz,vf1 rfl] at ht
   have ht2:whF x e = false ∧ whF y f = false:=by simpa using ht
   have ht:¬ (whF x e = true ∨ whF y f = true):=by rw [ht2.1,ht2.2]; simp
   obtain ⟨hx,rfl⟩:=wh_split ht2.1
   obtain ⟨hy,rfl⟩:=wh_split ht2.2
   have hm:z3 < 16777216 ↔ ab x < 16777216 ∧ ab y < 16777216:=by
    rw [hz3,hz1,hz2,wrap_in (by unfold inR at *; omega),wrap_in (by unfold inR at *; omega)]
    unfold ab
    split <;> split <;> omega
   refine ⟨fun hs => ?_,fun hs => ?_⟩
   ·have hs:=hm.1 hs
    have hxb:-16777216 < x ∧ x < 16777216:=by unfold ab at hs; have:=hs.1; split at this <;> omega
    have hyb:-16777216 < y ∧ y < 16777216:=by unfold ab at hs; have:=hs.2; split at this <;> omega
    have hb:unB x y = ((x * 16777216,false),(y * 16777216,false)):=by unfold unB; rw [if_pos hs]
    rw [wrap_in (x:=x * 16777216) (by unfold inR; omega),wrap_in (x:=y * 16777216) (by unfold inR; omega)]
    simp only [forall_eq]
    refine ⟨by unfold inR; omega,by unfold inR; omega,fun h => ?_,fun h => ⟨by unfold inR; omega,rg_inR nHyp_rg,by unfold inR; omega,rg_inR nHyp_rg,?_⟩⟩
    ·rw [unS_nul ht hb (by simpa using h)]
    ·rw [unS_some ht hb (by simpa using h)]
     rfl
   ·have hs:¬ (ab x < 16777216 ∧ ab y < 16777216):=fun h => hs (hm.2 h)
    have hb:unB x y = ((x,false),(y,false)):=by unfold unB; rw [if_neg hs]
    simp only [forall_eq]
    refine ⟨h_0,h_1,fun h => ?_,fun h => ⟨h_0,rg_inR nHyp_rg,h_1,rg_inR nHyp_rg,?_⟩⟩
    ·rw [unS_nul ht hb (by simpa using h)]
    ·rw [unS_some ht hb (by simpa using h)]
     rfl
 ·cases hc
theorem unS_rg {x y:Int} {e f:Bool}:rg (unS x e y f).2.1.1 ∧ rg (unS x e y f).2.2.1:=by
 have z:rg 0:=by unfold rg; omega
 unfold unS
 split
 ·exact ⟨z,z⟩
 ·split
  ·exact ⟨z,z⟩
  ·exact ⟨nDiv_rg,nDiv_rg⟩
def noS (a b c d:Int):Bool × Nb × Nb:=unS (nInt (d - b)).1 (nInt (d - b)).2 (nInt (-(c - a))).1 (nInt (-(c - a))).2
def c120:Con
 | [.agg [.v (.int .i64 a),.v (.int .i64 b)],.agg [.v (.int .i64 c),.v (.int .i64 d)]] => some ([validS a b = true,validS c d = true],ve (noS a b c d).2.1 (noS a b c d).2.2)
 | _ => none
theorem con120:ConOK Tryz.prog 120 c120:=ConOK.of (G:=[(104,c104),(124,c124),(109,c109)]) (H:=[]) (.cons con104 (.cons con124 (.cons con109 .nil))) Tryz.func120 fun l ob r hc hob => by
 unfold c120 at hc
 split at hc
 ·rename_i a b c d
  cases hc
  have h_0:validS a b = true:=hob _ (by simp)
  have h_1:validS c d = true:=hob _ (by simp)
  refine ⟨by kernel_rfl,fnVC_go (rs:=[.cell 4 38]) rfl rfl ?_⟩
  simp only [go_sem,c104,c124,c109]
  have v1:=validS_iff.1 h_0
  have v2:=validS_iff.1 h_1
  simp only [forall_eq]
  rw [wrap_in (x:=c - a) (by unfold inR; omega),wrap_in (x:=d - b) (by unfold inR; omega),wrap_in (x:=0 - (c - a)) (by unfold inR; omega),show (0:Int) - (c - a) = -(c - a) by omega]
  exact ⟨by unfold inR; omega,by unfold inR; omega,rg_inR nInt_rg,rg_inR nInt_rg,rfl⟩
 ·cases hc
theorem suS_congr {X Y:Nat → Int}:∀ {n:Nat},(∀ i,i < n → X i = Y i) → suS X n = suS Y n
 | 0,_ => rfl
 | n + 1,h => by unfold suS; rw [suS_congr (n:=n) fun i hi => h i (by omega),h n (by omega)]
theorem anyB_congr {X Y:Nat → Bool}:∀ {n:Nat},(∀ i,i < n → X i = Y i) → anyB X n = anyB Y n
 | 0,_ => rfl
 | n + 1,h => by unfold anyB; rw [anyB_congr (n:=n) fun i hi => h i (by omega),h n (by omega)]
def upB (i:Nat) (Z:Nat → Bool) (j:Nat):Bool:=if j < i then Z j else false
theorem upB_zero {Z:Nat → Bool} {j:Nat}:upB 0 Z j = false:=by unfold upB; rw [if_neg (by omega)]
theorem upB_self {i:Nat} {Z:Nat → Bool}:upB (i + 1) Z i = Z i:=by unfold upB; rw [if_pos (by omega)]
theorem upB_lt {i j:Nat} {Z:Nat → Bool} (h:j < i):upB i Z j = Z j:=by unfold upB; rw [if_pos h]
theorem upB_ne {i j:Nat} {Z:Nat → Bool} (h:j ≠ i):upB (i + 1) Z j = upB i Z j:=by
 unfold upB
 by_cases e:j < i
 ·rw [if_pos e,if_pos (by omega)]
 ·rw [if_neg e,if_neg (by omega)]
def su1 (n:Nat) (X:Nat → Int) (E:Nat → Bool):Nb:=(ftV (suS (fun i => whV (X i)) n),ftF (suS (fun i => whV (X i)) n) || anyB (fun i => whF (X i) (E i)) n)
theorem wvS_up {n:Nat} {X:Nat → Int} {E:Nat → Bool} {g:Nat → List AV} (h:∀ j,j < n → g j = [i64 (X j),bo (E j)]):suS (wvS g) n = suS (fun i => whV (X i)) n ∧ wfS n g = anyB (fun i => whF (X i) (E i)) n:=
 ⟨suS_congr fun i hi => by simp only [wvS,gx,h i hi,gi_0],anyB_congr fun i hi => by simp only [gx,gb,h i hi,gi_0,gib_1]⟩
theorem nums_up {n:Nat} {X:Nat → Int} {E:Nat → Bool} {g:Nat → List AV} (h:∀ j,j < n → g j = [i64 (X j),bo (E j)]) (hX:∀ j,j < n → inR (X j)):nums n g:=fun i hi => by
 simp only [gx,gb,h i hi,gi_0,gib_1]; exact ⟨trivial,hX i hi⟩
def c96:Con
 | [.ro n 4 g] => some ([vecs n g,n ≤ 1000],ve (su1 n (gx g 0) (gb g 1)) (su1 n (gx g 2) (gb g 3)))
 | _ => none
theorem vc96 (n:Nat) (X Y:Nat → Int) (E F:Nat → Bool) (hX:∀ i,i < n → inR (X i) ∧ inR (Y i)) (hn:n ≤ 1000):fnVC Tryz.prog [(178,c178)] [(5,⟨[(9,.slot 3),(11,.slot 4)],[(7,[.slot 3])]⟩)] Tryz.f96 [.ro n 4 fun i => [i64 (X i),bo (E i),i64 (Y i),bo (F i)]] (· = ve (su1 n X E) (su1 n Y F)):=by
 refine fnVC_go (rs:=[.cell 2 38]) rfl rfl ?_
 simp only [go_sem]
 have hb:((bytesT Tryz.prog 36:Nat):Int) * (n:Int) ≤ 281474976710656:=by rw [show bytesT Tryz.prog 36 = 16 by kernel_rfl]; omega
 refine ⟨by omega,by omega,hb,by omega,by omega,hb,?_⟩
 refine loopC_go (fun (i:Nat) => i ≤ n) (fun i => n - i) (fun i => [(15,i64 i)]) (fun i => [(6,famN n 2 36 (fun j => [i64 (uptN i Y j),bo (upB i F j)]) none),(3,famN n 2 36 (fun j => [i64 (uptN i X j),bo (upB i E j)]) none)]) [0] [16,17,18,19,6,5,20,21,22,23,24,25,26,27,28,29,30,15] 0 (by kernel_rfl) ?_ (Nat.zero_le _) ?_ ?_
 ·intro x _; simp [goodNames,asg]
 ·simp only [go_sem,uptN_zero,upB_zero,implies_true]
 ·intro i hi
  simp only [go_sem,c178]
  have hw:IntKind.i64.wrap ((i:Int) + 1) = ((i + 1:Nat):Int):=by rw [wrap_in (by unfold inR; omega)]; rfl
  refine ⟨fun hin => ⟨by omega,hin,by omega,hin,by omega,by omega,hin,by omega,fun z hz => ⟨i + 1,by omega,by omega,by rw [hz,hw],fun j hj => ?_,fun j hj => ?_⟩⟩,fun hin => ?_⟩
  ·by_cases e:j = i
   ·subst e
    rw [if_pos rfl]
    simp only [go_sem,uptN_self,upB_self]
   ·rw [if_neg e]
    have h1:∀ Z,uptN (i + 1) Z j = uptN i Z j:=fun Z => uptN_ne e
    have h2:∀ Z,upB (i + 1) Z j = upB i Z j:=fun Z => upB_ne e
    simp only [go_sem,h1,h2]
  ·by_cases e:j = i
   ·subst e
    rw [if_pos rfl]
    simp only [go_sem,uptN_self,upB_self]
   ·rw [if_neg e]
    have h1:∀ Z,uptN (i + 1) Z j = uptN i Z j:=fun Z => uptN_ne e
    have h2:∀ Z,upB (i + 1) Z j = upB i Z j:=fun Z => upB_ne e
    simp only [go_sem,h1,h2]
  ·have e:i = n:=by omega
   subst e
   have hx:∀ j,j < i → (fun j => [i64 (uptN i X j),bo (upB i E j)]) j = [i64 (X j),bo (E j)]:=fun j hj => by dsimp only; rw [uptN_lt hj,upB_lt hj]
   have hy:∀ j,j < i → (fun j => [i64 (uptN i Y j),bo (upB i F j)]) j = [i64 (Y j),bo (F j)]:=fun j hj => by dsimp only; rw [uptN_lt hj,upB_lt hj]
   obtain ⟨e1,e2⟩:=wvS_up hx
   obtain ⟨e3,e4⟩:=wvS_up hy
   simp only [forall_eq,e1,e2,e3,e4]
   exact ⟨nums_up hx fun j hj => (hX j hj).1,hn,nums_up hy fun j hj => (hX j hj).2,hn,rfl⟩
theorem con96:ConOK Tryz.prog 96 c96:=ConOK.go (G:=[(178,c178)]) (H:=[(5,⟨[(9,.slot 3),(11,.slot 4)],[(7,[.slot 3])]⟩)]) (.cons con178 .nil) Tryz.func96 fun l ob r hc hob => by
 unfold c96 at hc
 split at hc
 ·rename_i n g
  cases hc
  have hs:vecs n g:=hob _ (by simp)
  exact ⟨[.ro n 4 fun i => [i64 (gx g 0 i),bo (gb g 1 i),i64 (gx g 2 i),bo (gb g 3 i)]],fun w I vs h => Rs_one (fun v => ro_alike fun i hi => (hs i hi).1) h,by kernel_rfl,vc96 n _ _ _ _ (fun i hi => (hs i hi).2) (hob _ (by simp))⟩
 ·cases hc
theorem vecs2 {a b c d:Int} {e f p q:Bool} {g:Nat → List AV} (h0:g 0 = [i64 a,bo e,i64 b,bo f]) (h1:g 1 = [i64 c,bo p,i64 d,bo q]) (ha:inR a) (hb:inR b) (hc:inR c) (hd:inR d):vecs 2 g:=by
 intro i hi
 have:i = 0 ∨ i = 1:=by omega
 rcases this with rfl | rfl
 ·simp only [gx,gb,h0,gi_0,gib_1,gi_2,gib_3]; exact ⟨trivial,ha,hb⟩
 ·simp only [gx,gb,h1,gi_0,gib_1,gi_2,gib_3]; exact ⟨trivial,hc,hd⟩
theorem su2x {a b c d:Int} {e f p q:Bool} {g:Nat → List AV} (h0:g 0 = [i64 a,bo e,i64 b,bo f]) (h1:g 1 = [i64 c,bo p,i64 d,bo q]):su1 2 (gx g 0) (gb g 1) = nAdd (a,e) (c,p):=by
 unfold su1 nAdd
 simp only [suS,anyB,gx,gb,h0,h1,gi_0,gib_1,Bool.false_or,Int.zero_add]
theorem su2y {a b c d:Int} {e f p q:Bool} {g:Nat → List AV} (h0:g 0 = [i64 a,bo e,i64 b,bo f]) (h1:g 1 = [i64 c,bo p,i64 d,bo q]):su1 2 (gx g 2) (gb g 3) = nAdd (b,f) (d,q):=by
 unfold su1 nAdd
 simp only [suS,anyB,gx,gb,h0,h1,gi_2,gib_3,Bool.false_or,Int.zero_add]
end Go.Ax
end
section
/-
  The laws of boxes: what the functions hand back.
-/
set_option maxHeartbeats 2000000
set_option maxRecDepth 100000
namespace Go.Ax
open Go.Proofs
def joinT (a b c d e f g h:Int) (k:Nat):Int:=if checkBoxS a b c d = 0 ∧ checkBoxS e f g h = 0 then (match k with
 | 0 => min a e
 | 1 => min b f
 | 2 => max c g
 | _ => max d h) else 0
theorem rows_0 {a b c d:AV} {l:List AV}:rowsOf 4 (a :: b :: c :: d :: l) 0 = [a,b,c,d]:=(rfl)
theorem rows_1 {a b c d e f g h:AV} {l:List AV}:rowsOf 4 (a :: b :: c :: d :: e :: f :: g :: h :: l) 1 = [e,f,g,h]:=(rfl)
theorem boxes_2 {a b c d e f g h:Int}:boxes 2 (rowsOf 4 [i64 a,i64 b,i64 c,i64 d,i64 e,i64 f,i64 g,i64 h]) = ((inR a ∧ inR b ∧ inR c ∧ inR d) ∧ inR e ∧ inR f ∧ inR g ∧ inR h):=propext ⟨fun H => by
  have h0:=(H 0 (by omega)).2
  have h1:=(H 1 (by omega)).2
  simp only [gx,rows_0,rows_1,gi_0,gi_1,gi_2,gi_3] at h0 h1
  exact ⟨h0,h1⟩,fun ⟨h0,h1⟩ i hi => by
  have:i = 0 ∨ i = 1:=by omega
  rcases this with rfl | rfl
  ·simp only [gx,rows_0,gi_0,gi_1,gi_2,gi_3]; exact ⟨trivial,h0⟩
  ·simp only [gx,rows_1,gi_0,gi_1,gi_2,gi_3]; exact ⟨trivial,h1⟩⟩
theorem okB_2 {A B C D:Nat → Int}:okB 2 A B C D ↔ checkBoxS (A 0) (B 0) (C 0) (D 0) = 0 ∧ checkBoxS (A 1) (B 1) (C 1) (D 1) = 0:=
 ⟨fun h => ⟨h 0 (by omega),h 1 (by omega)⟩,fun ⟨h0,h1⟩ i hi => by
  have:i = 0 ∨ i = 1:=by omega
  rcases this with rfl | rfl <;> assumption⟩
theorem join_2 {a b c d e f g h:Int} {k:Nat} (hk:k < 4):joinS 2 (gx (rowsOf 4 [i64 a,i64 b,i64 c,i64 d,i64 e,i64 f,i64 g,i64 h]) 0) (gx (rowsOf 4 [i64 a,i64 b,i64 c,i64 d,i64 e,i64 f,i64 g,i64 h]) 1) (gx (rowsOf 4 [i64 a,i64 b,i64 c,i64 d,i64 e,i64 f,i64 g,i64 h]) 2) (gx (rowsOf 4 [i64 a,i64 b,i64 c,i64 d,i64 e,i64 f,i64 g,i64 h]) 3) k = joinT a b c d e f g h k:=by
 unfold joinS joinT
 simp only [okB_2,mnS,mxS,gx,rows_0,rows_1,gi_0,gi_1,gi_2,gi_3]
 have:k = 0 ∨ k = 1 ∨ k = 2 ∨ k = 3:=by omega
 rcases this with rfl | rfl | rfl | rfl <;> simp
attribute [go_sem] boxes_2 join_2 Nat.lt_irrefl
def c16:Con
 | [] => some ([],bo true)
 | _ => none
theorem con16:ConOK Tryz.prog 16 c16:=ConOK.of (G:=[(28,c28),(55,c55)]) (H:=[]) (.cons con28 (.cons con55 .nil)) Tryz.func16 fun l ob r hc hob => by
 unfold c16 at hc
 split at hc
 ·cases hc
  refine ⟨by kernel_rfl,fnVC_go (rs:=[.tmp 0]) rfl rfl ?_⟩
  simp only [go_sem,c28,c55]
  intro z hz
  have e:z = 1:=by rw [hz]; decide
  subst e
  refine ⟨?_,?_,?_,?_,?_,?_,fun _ => ?_,fun _ => ?_,fun _ => ?_,fun _ => ?_,?_,?_,?_,?_,?_⟩ <;> first | (unfold inR; omega) | decide
 ·cases hc
def near (a b c d:Int):Prop:=-5000 ≤ a ∧ a ≤ c ∧ c ≤ 5000 ∧ -5000 ≤ b ∧ b ≤ d ∧ d ≤ 5000
end Go.Ax
end