/-
  Two bodies of one weight at a touch: plain numbers.
-/
import Derived.Test.YtafigekkhpepkaaGreatCM9
set_option linter.unusedVariables false
set_option linter.unusedSimpArgs false
section
set_option maxHeartbeats 4000000
set_option maxRecDepth 100000
namespace Go.Ax
open Go.Proofs Go.Proofs.Tryz
theorem sqr_le {a b:Int} (ha:0≤a) (hb:0≤b) (h:a * a≤b * b):a≤b:=by
 refine Int.not_lt.1 fun hn => ?_
 have h1:b * b≤b * a:=Int.mul_le_mul_of_nonneg_left (by omega) hb
 have h2:b * a < a * a:=Int.mul_lt_mul_of_pos_right hn (by omega)
 omega
theorem sqr_up {a b:Int} (ha:0≤a) (h:a≤b):a * a≤b * b:=Int.mul_le_mul h h ha (by omega)
theorem le_abs_sq {a b:Int} (hb:0≤b) (h:a * a≤b * b):a≤b:=by
 by_cases s:0≤a
 ·exact sqr_le s hb h
 ·omega
theorem ab2 (a:Int):ab a * ab a = a * a:=by unfold ab; split <;> grind
structure qb (m i a b:Int):Prop where
 a0:0≤a
 b0:0≤b
 le:m * i * (a * a)≤b * b
section
variable {m i a b a' b':Int}
theorem qb.mono (h:qb m i a b) (hmi:0≤m * i) (h0:0≤a') (h1:a'≤a) (h2:b≤b'):qb m i a' b':=by
 have:=h.b0
 refine ⟨h0,by omega,?_⟩
 have e1:m * i * (a' * a')≤m * i * (a * a):=Int.mul_le_mul_of_nonneg_left (sqr_up h0 h1) hmi
 have e2:=sqr_up h.b0 h2
 have:=h.le
 omega
theorem qb.add (h:qb m i a b) (h':qb m i a' b') (hmi:0≤m * i):qb m i (a + a') (b + b'):=by
 obtain ⟨a0,b0,l⟩:=h
 obtain ⟨a0',b0',l'⟩:=h'
 refine ⟨by omega,by omega,?_⟩
 generalize m * i = M at *
 have p0:0≤M * (a' * a'):=Int.mul_nonneg hmi (Int.mul_nonneg a0' a0')
 have hc:M * (a * a')≤b * b':=by
  refine sqr_le (Int.mul_nonneg hmi (Int.mul_nonneg a0 a0')) (Int.mul_nonneg b0 b0') ?_
  rw [show (M * (a * a')) * (M * (a * a')) = (M * (a * a)) * (M * (a' * a')) by grind,show (b * b') * (b * b') = (b * b) * (b' * b') by grind]
  exact Int.mul_le_mul l l' p0 (Int.mul_nonneg b0 b0)
 rw [show M * ((a + a') * (a + a')) = M * (a * a) + 2 * (M * (a * a')) + M * (a' * a') by grind,show (b + b') * (b + b') = b * b + 2 * (b * b') + b' * b' by grind]
 omega
theorem qb.scale (h:qb m i a b) {c:Int} (hc:0≤c):qb m i (c * a) (c * b):=by
 refine ⟨Int.mul_nonneg hc h.a0,Int.mul_nonneg hc h.b0,?_⟩
 rw [show m * i * (c * a * (c * a)) = c * c * (m * i * (a * a)) by grind,show c * b * (c * b) = c * c * (b * b) by grind]
 exact Int.mul_le_mul_of_nonneg_left h.le (Int.mul_nonneg hc hc)
theorem qb.cancel {c:Int} (hc:0 < c) (h:qb m i (c * a) (c * b)) (ha:0≤a) (hb:0≤b):qb m i a b:=by
 refine ⟨ha,hb,?_⟩
 have:=h.le
 rw [show m * i * (c * a * (c * a)) = c * c * (m * i * (a * a)) by grind,show c * b * (c * b) = c * c * (b * b) by grind] at this
 exact Int.le_of_mul_le_mul_left this (Int.mul_pos hc hc)
end
theorem turn_bd {m i Z T t P:Int} (hm:0≤m) (hi:0≤i) (hP:0 < P) (hT:0≤T) (h:qb m i Z (T * P)) (ht:ab t * P≤i * Z):m * (t * t)≤T * T * i:=by
 have h0:=ab_nonneg t
 have h1:=sqr_up (Int.mul_nonneg h0 (by omega:0≤P)) ht
 have h2:m * ((ab t * P) * (ab t * P))≤m * ((i * Z) * (i * Z)):=Int.mul_le_mul_of_nonneg_left h1 hm
 have h3:i * (m * i * (Z * Z))≤i * ((T * P) * (T * P)):=Int.mul_le_mul_of_nonneg_left h.le hi
 rw [show m * ((i * Z) * (i * Z)) = i * (m * i * (Z * Z)) by grind,show m * ((ab t * P) * (ab t * P)) = (m * (ab t * ab t)) * (P * P) by grind,ab2] at h2
 rw [show i * ((T * P) * (T * P)) = (T * T * i) * (P * P) by grind] at h3
 exact Int.le_of_mul_le_mul_right (Int.le_trans h2 h3) (Int.mul_pos hP hP)
theorem add_w {m i U T w t:Int} (hm:0≤m) (hi:0≤i) (hU:0≤U) (hT:0≤T) (h1:m * (w * w)≤U * U * i) (h2:m * (t * t)≤T * T * i):m * ((w + t) * (w + t))≤(U + T) * (U + T) * i:=by
 have hc:m * (w * t)≤U * T * i:=by
  refine le_abs_sq (Int.mul_nonneg (Int.mul_nonneg hU hT) hi) ?_
  rw [show (m * (w * t)) * (m * (w * t)) = (m * (w * w)) * (m * (t * t)) by grind,show (U * T * i) * (U * T * i) = (U * U * i) * (T * T * i) by grind]
  exact Int.mul_le_mul h1 h2 (Int.mul_nonneg hm (sq0 t)) (Int.mul_nonneg (Int.mul_nonneg hU hU) hi)
 rw [show m * ((w + t) * (w + t)) = m * (w * w) + 2 * (m * (w * t)) + m * (t * t) by grind,show (U + T) * (U + T) * i = U * U * i + 2 * (U * T * i) + T * T * i by grind]
 omega
theorem low_w {m w w' B:Int} (hm:0≤m) (h:ab w'≤ab w) (h1:m * (w * w)≤B):m * (w' * w')≤B:=by
 have h0:=ab_nonneg w'
 have:=Int.mul_le_mul_of_nonneg_left (sqr_up h0 h) hm
 rw [ab2,ab2] at this
 omega
structure Wts (m i:Int):Prop where
 m0:2000≤m
 m1:m≤562949953421312
 i0:8≤i
 i1:i≤211106232532992
 r1:m≤1024 * i
 r2:i≤134217728 * m
theorem two_le {X M Y U a:Int} (hM:0≤M) (hY:0≤Y) (hU:0≤U) (h:a * a≤U * U * (M * Y)):2 * a≤U * (M + Y):=by
 refine le_abs_sq (Int.mul_nonneg hU (by omega)) ?_
 have s:=sq0 (M - Y)
 have e:(M + Y) * (M + Y) = 4 * (M * Y) + (M - Y) * (M - Y):=by grind
 have k:U * U * (4 * (M * Y))≤U * U * ((M + Y) * (M + Y)):=Int.mul_le_mul_of_nonneg_left (by omega) (Int.mul_nonneg hU hU)
 rw [show 2 * a * (2 * a) = 4 * (a * a) by grind,show U * (M + Y) * (U * (M + Y)) = U * U * ((M + Y) * (M + Y)) by grind]
 rw [show U * U * (4 * (M * Y)) = 4 * (U * U * (M * Y)) by grind] at k
 omega
section
variable {m i U C W W' y y' R k d E T:Int}
theorem heft_lo (hw:Wts m i) (hk:18446744073709551616 * (2 * m) + i * (y * y) + i * (y' * y') - 2 * (i * 4294967296) - 2 * 18446744073709551616≤18446744073709551616 * k):1936 * (m * 18446744073709551616) + 1000 * (i * (y * y)) + 1000 * (i * (y' * y'))≤1000 * (18446744073709551616 * k):=by
 have:=hw.m0
 have:=hw.r2
 omega
theorem push_v (hw:Wts m i) (hU:0≤U) (hC:0≤C) (hW:0≤W) (hW':0≤W') (hy:0≤y) (hy':0≤y') (h1:m * (W * W)≤U * U * i) (h2:m * (W' * W')≤U * U * i)
  (hR:R * 4294967296≤4 * C * 4294967296 + W * y + W' * y' + 132 * 4294967296)
  (hk:18446744073709551616 * (2 * m) + i * (y * y) + i * (y' * y') - 2 * (i * 4294967296) - 2 * 18446744073709551616≤18446744073709551616 * k) (hd:d * k≤R * 4294967296)
  (hE:U≤2 * E∧4000 * C + 132000 + 1000 * U≤1936 * E):m * d≤E * 4294967296:=by
 have hL:=heft_lo hw hk
 have m0:=hw.m0
 have i0:=hw.i0
 have hY:0≤i * (y * y):=Int.mul_nonneg (by omega) (sq0 y)
 have hY':0≤i * (y' * y'):=Int.mul_nonneg (by omega) (sq0 y')
 have g:∀ W y:Int,m * (W * W)≤U * U * i→2 * (m * 4294967296 * (W * y))≤U * (m * 18446744073709551616 + i * (y * y)):=fun W y h => by
  refine two_le (X:=0) (by omega) (Int.mul_nonneg (by omega) (sq0 y)) hU ?_
  have:=Int.mul_le_mul_of_nonneg_right h (Int.mul_nonneg (by omega:0≤m * 18446744073709551616) (sq0 y))
  rw [show m * 4294967296 * (W * y) * (m * 4294967296 * (W * y)) = m * (W * W) * (m * 18446744073709551616 * (y * y)) by grind,show U * U * (m * 18446744073709551616 * (i * (y * y))) = U * U * i * (m * 18446744073709551616 * (y * y)) by grind]
  exact this
 have g1:=g W y h1
 have g2:=g W' y' h2
 have hK:0 < k:=by omega
 have c1:m * (d * k)≤m * (R * 4294967296):=Int.mul_le_mul_of_nonneg_left hd (by omega)
 have c2:m * (R * 4294967296)≤m * (4 * C * 4294967296 + W * y + W' * y' + 132 * 4294967296):=Int.mul_le_mul_of_nonneg_left hR (by omega)
 have p1:0≤(1936 * E - (4000 * C + 132000 + 1000 * U)) * m:=Int.mul_nonneg (by omega) (by omega)
 have p2:0≤(2 * E - U) * (i * (y * y) + i * (y' * y')):=Int.mul_nonneg (by omega) (by omega)
 have p3:0≤E * (1000 * (18446744073709551616 * k) - (1936 * (m * 18446744073709551616) + 1000 * (i * (y * y)) + 1000 * (i * (y' * y')))):=Int.mul_nonneg (by omega) (by omega)
 refine Int.le_of_mul_le_mul_right (a:=k) ?_ hK
 generalize i * (y * y) = Y at *
 generalize i * (y' * y') = Y' at *
 rw [show m * d * k = m * (d * k) by grind]
 rw [show m * (4 * C * 4294967296 + W * y + W' * y' + 132 * 4294967296) = 4 * 4294967296 * (C * m) + m * (W * y) + m * (W' * y') + 132 * 4294967296 * m by grind] at c2
 rw [show m * 4294967296 * (W * y) = 4294967296 * (m * (W * y)) by grind,show U * (m * 18446744073709551616 + Y) = 18446744073709551616 * (U * m) + U * Y by grind] at g1
 rw [show m * 4294967296 * (W' * y') = 4294967296 * (m * (W' * y')) by grind,show U * (m * 18446744073709551616 + Y') = 18446744073709551616 * (U * m) + U * Y' by grind] at g2
 rw [show (1936 * E - (4000 * C + 132000 + 1000 * U)) * m = 1936 * (E * m) - 4000 * (C * m) - 132000 * m - 1000 * (U * m) by grind] at p1
 rw [show (2 * E - U) * (Y + Y') = 2 * (E * Y) + 2 * (E * Y') - U * Y - U * Y' by grind] at p2
 rw [show E * (1000 * (18446744073709551616 * k) - (1936 * (m * 18446744073709551616) + 1000 * Y + 1000 * Y')) = 1000 * 18446744073709551616 * (E * k) - 1936 * 18446744073709551616 * (E * m) - 1000 * (E * Y) - 1000 * (E * Y') by grind] at p3
 rw [show E * 4294967296 * k = 4294967296 * (E * k) by grind]
 omega
theorem push_w (hw:Wts m i) (hU:0≤U) (hC:0≤C) (hW:0≤W) (hW':0≤W') (hy:0≤y) (hy':0≤y') (h1:m * (W * W)≤U * U * i) (h2:m * (W' * W')≤U * U * i)
  (hR0:0≤R) (hR:R * 4294967296≤4 * C * 4294967296 + W * y + W' * y' + 132 * 4294967296)
  (hk:18446744073709551616 * (2 * m) + i * (y * y) + i * (y' * y') - 2 * (i * 4294967296) - 2 * 18446744073709551616≤18446744073709551616 * k) (hd0:0≤d) (hd:d * k≤R * 4294967296)
  (hT:262144 * (4 * C + 132) + 786433 * U≤524288 * T):qb m i ((y + 1) * d) (T * 18446744073709551616):=by
 have hL:=heft_lo hw hk
 have m0:=hw.m0
 have i0:=hw.i0
 have r2:=hw.r2
 have hmi:0≤m * i:=Int.mul_nonneg (by omega) (by omega)
 have hyy:=sq0 y
 have hyy':=sq0 y'
 have hY:0≤i * (y * y):=Int.mul_nonneg (by omega) hyy
 have hY':0≤i * (y' * y'):=Int.mul_nonneg (by omega) hyy'
 have hK:0 < k:=by omega
 have hM:0≤m * 18446744073709551616:=by omega
 have q1:qb m i (2 * (4294967296 * y)) (m * 18446744073709551616 + i * (y * y)):=by
  refine ⟨by omega,by omega,?_⟩
  have s:=sq0 (m * 18446744073709551616 - i * (y * y))
  rw [show (m * 18446744073709551616 - i * (y * y)) * (m * 18446744073709551616 - i * (y * y)) = (m * 18446744073709551616 + i * (y * y)) * (m * 18446744073709551616 + i * (y * y)) - m * i * (2 * (4294967296 * y) * (2 * (4294967296 * y))) by grind] at s
  omega
 have q2:qb m i (262144 * 4294967296) (m * 18446744073709551616):=by
  refine ⟨by omega,by omega,?_⟩
  have:=Int.mul_le_mul_of_nonneg_left (show i * 1267650600228229401496703205376≤m * 340282366920938463463374607431768211456 by omega) (show 0≤m by omega)
  rw [show m * i * (262144 * 4294967296 * (262144 * 4294967296)) = m * (i * 1267650600228229401496703205376) by grind,show m * 18446744073709551616 * (m * 18446744073709551616) = m * (m * 340282366920938463463374607431768211456) by grind]
  exact this
 have q3:qb m i (W * y * y) (U * (i * (y * y))):=by
  refine ⟨Int.mul_nonneg (Int.mul_nonneg hW hy) hy,Int.mul_nonneg hU hY,?_⟩
  have:=Int.mul_le_mul_of_nonneg_right h1 (Int.mul_nonneg (by omega:0≤i) (Int.mul_nonneg hyy hyy))
  rw [show m * i * (W * y * y * (W * y * y)) = m * (W * W) * (i * (y * y * (y * y))) by grind,show U * (i * (y * y)) * (U * (i * (y * y))) = U * U * i * (i * (y * y * (y * y))) by grind]
  exact this
 have q4:qb m i (2 * (W' * y' * y)) (U * (i * (y' * y') + i * (y * y))):=by
  refine ⟨by have:=Int.mul_nonneg (Int.mul_nonneg hW' hy') hy; omega,Int.mul_nonneg hU (by omega),?_⟩
  have:=Int.mul_le_mul_of_nonneg_right h2 (Int.mul_nonneg (by omega:0≤i) (Int.mul_nonneg hyy' hyy))
  have s:=Int.mul_nonneg (Int.mul_nonneg hU hU) (sq0 (i * (y' * y') - i * (y * y)))
  rw [show U * U * ((i * (y' * y') - i * (y * y)) * (i * (y' * y') - i * (y * y))) = U * (i * (y' * y') + i * (y * y)) * (U * (i * (y' * y') + i * (y * y))) - 4 * (U * U * i * (i * (y' * y' * (y * y)))) by grind] at s
  rw [show m * i * (2 * (W' * y' * y) * (2 * (W' * y' * y))) = 4 * (m * (W' * W') * (i * (y' * y' * (y * y)))) by grind]
  omega
 have q5:∀ W y:Int,0≤W→0≤y→m * (W * W)≤U * U * i→qb m i (524288 * (W * y)) (U * (m * 18446744073709551616 + i * (y * y))):=fun W y hW hy h => by
  have hyy:=sq0 y
  have hY:0≤i * (y * y):=Int.mul_nonneg (by omega) hyy
  refine ⟨by have:=Int.mul_nonneg hW hy; omega,Int.mul_nonneg hU (by omega),?_⟩
  have h3:=Int.mul_le_mul_of_nonneg_right h (Int.mul_nonneg (by omega:0≤i) hyy)
  have h4:=Int.mul_le_mul_of_nonneg_right (show i * 68719476736≤m * 18446744073709551616 by omega) hY
  have h5:=Int.mul_le_mul_of_nonneg_left h4 (Int.mul_nonneg hU hU)
  have s:=Int.mul_nonneg (Int.mul_nonneg hU hU) (sq0 (m * 18446744073709551616 - i * (y * y)))
  rw [show U * U * ((m * 18446744073709551616 - i * (y * y)) * (m * 18446744073709551616 - i * (y * y))) = U * (m * 18446744073709551616 + i * (y * y)) * (U * (m * 18446744073709551616 + i * (y * y))) - 4 * (U * U * (m * 18446744073709551616 * (i * (y * y)))) by grind] at s
  rw [show m * i * (524288 * (W * y) * (524288 * (W * y))) = 274877906944 * (m * (W * W) * (i * (y * y))) by grind]
  rw [show U * U * (i * 68719476736 * (i * (y * y))) = 68719476736 * (U * U * i * (i * (y * y))) by grind] at h5
  omega
 have q6:=q5 W y hW hy h1
 have q7:=q5 W' y' hW' hy' h2
 have s1:=q1.scale (c:=262144 * (4 * C + 132)) (by omega)
 have s2:=q2.scale (c:=2 * (4 * C + 132)) (by omega)
 have s3:=q3.scale (c:=524288) (by omega)
 have s4:=q4.scale (c:=262144) (by omega)
 have sum:=((((s1.add s2 hmi).add s3 hmi).add s4 hmi).add q6 hmi).add q7 hmi
 have hl:(y + 1) * (R * 4294967296)≤(y + 1) * (4 * C * 4294967296 + W * y + W' * y' + 132 * 4294967296):=Int.mul_le_mul_of_nonneg_left hR (by omega)
 have h0:0≤(y + 1) * (R * 4294967296):=Int.mul_nonneg (by omega) (by omega)
 have hTK:0≤T * (18446744073709551616 * k):=Int.mul_nonneg (by omega) (by omega)
 have main:qb m i (524288 * ((y + 1) * (R * 4294967296))) (524288 * (T * (18446744073709551616 * k))):=by
  refine sum.mono hmi (by omega) ?_ ?_
  ·have e:262144 * (4 * C + 132) * (2 * (4294967296 * y)) + 2 * (4 * C + 132) * (262144 * 4294967296) + 524288 * (W * y * y) + 262144 * (2 * (W' * y' * y)) + 524288 * (W * y) + 524288 * (W' * y') = 524288 * ((y + 1) * (4 * C * 4294967296 + W * y + W' * y' + 132 * 4294967296)):=by grind
   rw [e]
   omega
  ·have p1:0≤(524288 * T - (262144 * (4 * C + 132) + 786433 * U)) * (m * 18446744073709551616):=Int.mul_nonneg (by omega) hM
   have p2:0≤(524288 * T - (262144 * (4 * C + 132) + 786433 * U)) * (i * (y * y)):=Int.mul_nonneg (by omega) hY
   have p3:0≤(524288 * T - (262144 * (4 * C + 132) + 786433 * U)) * (i * (y' * y')):=Int.mul_nonneg (by omega) hY'
   have p4:0≤T * (1000 * (18446744073709551616 * k) - (1936 * (m * 18446744073709551616) + 1000 * (i * (y * y)) + 1000 * (i * (y' * y')))):=Int.mul_nonneg (by omega) (by omega)
   have n1:0≤(4 * C + 132) * (m * 18446744073709551616):=Int.mul_nonneg (by omega) hM
   have n2:0≤U * (m * 18446744073709551616):=Int.mul_nonneg hU hM
   have n3:0≤(4 * C + 132) * (i * (y' * y')):=Int.mul_nonneg (by omega) hY'
   have n4:0≤U * (i * (y' * y')):=Int.mul_nonneg hU hY'
   have n5:0≤T * (m * 18446744073709551616):=Int.mul_nonneg (by omega) hM
   generalize m * 18446744073709551616 = Mu at *
   generalize i * (y * y) = Y at *
   generalize i * (y' * y') = Y' at *
   generalize 4 * C + 132 = C2 at *
   generalize 18446744073709551616 * k = K at *
   rw [show (524288 * T - (262144 * C2 + 786433 * U)) * Mu = 524288 * (T * Mu) - 262144 * (C2 * Mu) - 786433 * (U * Mu) by grind] at p1
   rw [show (524288 * T - (262144 * C2 + 786433 * U)) * Y = 524288 * (T * Y) - 262144 * (C2 * Y) - 786433 * (U * Y) by grind] at p2
   rw [show (524288 * T - (262144 * C2 + 786433 * U)) * Y' = 524288 * (T * Y') - 262144 * (C2 * Y') - 786433 * (U * Y') by grind] at p3
   rw [show T * (1000 * K - (1936 * Mu + 1000 * Y + 1000 * Y')) = 1000 * (T * K) - 1936 * (T * Mu) - 1000 * (T * Y) - 1000 * (T * Y') by grind] at p4
   rw [show 262144 * C2 * (Mu + Y) + 2 * C2 * Mu + 524288 * (U * Y) + 262144 * (U * (Y' + Y)) + U * (Mu + Y) + U * (Mu + Y') = 262146 * (C2 * Mu) + 262144 * (C2 * Y) + 786433 * (U * Y) + 262145 * (U * Y') + 2 * (U * Mu) by grind]
   omega
 have main2:=main.cancel (by omega) h0 hTK
 have hl2:(y + 1) * (d * k)≤(y + 1) * (R * 4294967296):=Int.mul_le_mul_of_nonneg_left hd (by omega)
 have main3:=main2.mono hmi (a':=(y + 1) * (d * k)) (Int.mul_nonneg (by omega) (Int.mul_nonneg hd0 (by omega))) hl2 (Int.le_refl _)
 rw [show (y + 1) * (d * k) = k * ((y + 1) * d) by grind,show T * (18446744073709551616 * k) = k * (T * 18446744073709551616) by grind] at main3
 exact main3.cancel hK (Int.mul_nonneg (by omega) hd0) (by omega)
end
theorem ftV_ab (x:Int):ab (ftV x)≤ab x:=by unfold ftV ab; (repeat' split) <;> omega
theorem ab_neg (x:Int):ab (-x) = ab x:=by unfold ab; (repeat' split) <;> omega
theorem abm' (x y:Int):ab (x * y) = ab x * ab y:=by rw [ab_natAbs,ab_natAbs,ab_natAbs,Int.natAbs_mul,Int.natCast_mul]
theorem ab_sum (x y:Int):ab (x + y)≤ab x + ab y:=by unfold ab; (repeat' split) <;> omega
theorem ab_iff {x B:Int}:ab x≤B ↔ -B≤x∧x≤B:=by unfold ab; split <;> omega
theorem tdv_ab {v k:Int} (hk:0 < k):ab (v.tdiv k) * k≤ab v:=by
 by_cases s:0≤v
 ·have q1:=Int.ediv_mul_le v (show k≠0 by omega)
  have q2:=Int.ediv_nonneg s (show 0≤k by omega)
  rw [Int.tdiv_eq_ediv_of_nonneg s]
  unfold ab
  rw [if_neg (by omega),if_neg (by omega)]
  exact q1
 ·have e:v.tdiv k = -((-v) / k):=by rw [← Int.tdiv_eq_ediv_of_nonneg (show 0≤-v by omega),Int.neg_tdiv,Int.neg_neg]
  have q1:=Int.ediv_mul_le (-v) (show k≠0 by omega)
  have q2:=Int.ediv_nonneg (show 0≤-v by omega) (show 0≤k by omega)
  rw [e,ab_neg]
  unfold ab
  rw [if_neg (by omega),if_pos (by omega)]
  exact q1
theorem tdv_le {v k B:Int} (hk:0 < k) (h:ab v≤B * k):ab (v.tdiv k)≤B:=by
 have:=tdv_ab (v:=v) hk
 exact Int.le_of_mul_le_mul_right (Int.le_trans this h) hk
structure Bal (m i C U:Int) (b:Bd) (v1 v2 w p1 p2:Int):Prop where
 ev:b.v = ((v1,false),(v2,false))
 ew:b.w = (w,false)
 ep:b.pl = ((p1,false),(p2,false))
 em:b.m = (m,false)
 ei:b.i = (i,false)
 sl:b.sl = false
 fa:b.fa = false
 c1:ab v1≤C
 c2:ab v2≤C
 w1:ab w≤274877906944
 w2:m * (w * w)≤U * U * i
 q1:-51539607552≤p1∧p1≤51539607552
 q2:-51539607552≤p2∧p2≤51539607552
structure Tch (x n:V2) (x1 x2 n1 n2:Int):Prop where
 ex:x = ((x1,false),(x2,false))
 en:n = ((n1,false),(n2,false))
 h1:-201326592000≤x1∧x1≤201326592000
 h2:-201326592000≤x2∧x2≤201326592000
 k1:-4294967296≤n1∧n1≤4294967296
 k2:-4294967296≤n2∧n2≤4294967296
def crN (p1 p2 x1 x2 n1 n2:Int):Int:=((x1 - p1) * n2 + -(x2 - p2) * n1).tdiv 4294967296
section
variable {m i C U v1 v2 w p1 p2 x1 x2 n1 n2:Int} {b:Bd} {x n:V2}
theorem side_bal (hw:Wts m i) (hb:Bal m i C U b v1 v2 w p1 p2) (hx:Tch x n x1 x2 n1 n2) (hC:C≤1099511627776):∃ u1 u2 k,spdS b x = ((u1,false),(u2,false))∧(-17592186044416≤u1 - v1∧u1 - v1≤17592186044416)∧(-17592186044416≤u2 - v2∧u2 - v2≤17592186044416)∧ab (u1 * n1 + u2 * n2)≤2 * C * 4294967296 + ab w * ab (crN p1 p2 x1 x2 n1 n2) + 66 * 4294967296∧hftS b x n = (k,false)∧(0≤k∧k≤4611686018427387903) ∧
  18446744073709551616 * m + i * (ab (crN p1 p2 x1 x2 n1 n2) * ab (crN p1 p2 x1 x2 n1 n2)) - i * 4294967296 - 18446744073709551616≤18446744073709551616 * k:=by
 obtain ⟨ev,ew,ep,em,ei,_,_,c1,c2,w1,_,hp1,hp2⟩:=hb
 obtain ⟨ex,en,hx1,hx2,hn1,hn2⟩:=hx
 obtain ⟨m0,m1,i0,i1,_,_⟩:=hw
 have c1:=ab_iff.1 c1
 have c2:=ab_iff.1 c2
 have hwb:=ab_iff.1 w1
 have hw0:=ab_nonneg w
 unfold crN
 have ea:vSub x b.pl = ((x1 - p1,false),(x2 - p2,false)):=by
  rw [ep,ex]
  unfold vSub
  rw [subN_eq (x:=x1) (y:=p1) (by omega) (by omega),subN_eq (x:=x2) (y:=p2) (by omega) (by omega)]
 generalize hA1:x1 - p1 = a1 at *
 generalize hA2:x2 - p2 = a2 at *
 have ha1:-274877906944≤a1∧a1≤274877906944:=by omega
 have ha2:-274877906944≤a2∧a2≤274877906944:=by omega
 clear hA1 hA2
 have k1:=mul_bd (A:=274877906944) (B:=274877906944) (x:=-a2) (y:=w) (by omega) (by omega) hwb
 have k2:=mul_bd (A:=274877906944) (B:=274877906944) (x:=a1) (y:=w) (by omega) ha1 hwb
 obtain ⟨r1,r1a,r1b⟩:=@mulN_eq (-a2) w 17592186044416 (by omega) (by omega) (by omega) (by omega)
 obtain ⟨r2,r2a,r2b⟩:=@mulN_eq a1 w 17592186044416 (by omega) (by omega) (by omega) (by omega)
 have et:vTurn b.w (vSub x b.pl) = (((-a2 * w).tdiv 4294967296,false),((a1 * w).tdiv 4294967296,false)):=by
  rw [ea,ew]
  unfold vTurn vScale vPerp
  dsimp only
  rw [negN_eq (x:=a2) (by omega),nwh_eq (x:=a1) (by omega),r1,r2]
 have k3:=mul_bd (A:=274877906944) (B:=4294967296) (x:=a1) (y:=n2) (by omega) ha1 hn2
 have k4:=mul_bd (A:=274877906944) (B:=4294967296) (x:=-a2) (y:=n1) (by omega) (by omega) hn1
 obtain ⟨r3,r3a,r3b⟩:=@dotN_eq a1 n2 (-a2) n1 549755813888 (by omega) (by omega) (by omega) (by omega) (by omega) (by omega)
 have ec:vCross (vSub x b.pl) n = ((a1 * n2 + -a2 * n1).tdiv 4294967296,false):=by
  rw [ea,en]
  unfold vCross
  dsimp only
  rw [negN_eq (x:=a2) (by omega),r3]
 obtain ⟨Tx,eT⟩:∃ z,z = (-a2 * w).tdiv 4294967296:=⟨_,rfl⟩
 obtain ⟨Ty,eU⟩:∃ z,z = (a1 * w).tdiv 4294967296:=⟨_,rfl⟩
 obtain ⟨c,eC⟩:∃ z,z = (a1 * n2 + -a2 * n1).tdiv 4294967296:=⟨_,rfl⟩
 rw [← eT] at et r1a r1b
 rw [← eU] at et r2a r2b
 rw [← eC] at ec r3a r3b ⊢
 have k5:=mul_bd (A:=549755813888) (B:=549755813888) (x:=c) (y:=c) (by omega) (by omega) (by omega)
 obtain ⟨r4,r4a,r4b⟩:=@mulN_eq c c 70368744177664 (by omega) (by omega) (by omega) (by omega)
 obtain ⟨q,eq⟩:∃ z,z = (c * c).tdiv 4294967296:=⟨_,rfl⟩
 rw [← eq] at r4 r4a r4b
 have hq:0≤q:=by rw [eq]; exact Int.tdiv_nonneg (sq0 c) (by decide)
 have k6:=mul_bd (A:=211106232532992) (B:=70368744177664) (x:=i) (y:=q) (by omega) (by omega) (by omega)
 obtain ⟨r5,r5a,r5b⟩:=@mulN_eq i q 3458764513820540928 (by omega) (by omega) (by omega) (by omega)
 obtain ⟨h',eh⟩:∃ z,z = (i * q).tdiv 4294967296:=⟨_,rfl⟩
 rw [← eh] at r5 r5a r5b
 have hh0:0≤h':=by rw [eh]; exact Int.tdiv_nonneg (Int.mul_nonneg (by omega) hq) (by decide)
 have es:spdS b x = ((v1 + Tx,false),(v2 + Ty,false)):=by
  unfold spdS
  rw [et,ev]
  unfold vAdd
  rw [addN_eq (x:=v1) (y:=Tx) (by omega) (by omega),addN_eq (x:=v2) (y:=Ty) (by omega) (by omega)]
 have ef:hftS b x n = (m + h',false):=by
  unfold hftS
  rw [ec,r4,em,ei,r5,addN_eq (x:=m) (y:=h') (by omega) (by omega)]
 refine ⟨v1 + Tx,v2 + Ty,m + h',es,by omega,by omega,?_,ef,by omega,?_⟩
 ·have t1:=@td_err (-a2 * w) 4294967296 (by omega)
  have t2:=@td_err (a1 * w) 4294967296 (by omega)
  have t3:=@td_err (a1 * n2 + -a2 * n1) 4294967296 (by omega)
  rw [← eT] at t1
  rw [← eU] at t2
  rw [← eC] at t3
  obtain ⟨e1,h1⟩:∃ e1,e1 = -a2 * w - Tx * 4294967296:=⟨_,rfl⟩
  obtain ⟨e2,h2⟩:∃ e2,e2 = a1 * w - Ty * 4294967296:=⟨_,rfl⟩
  obtain ⟨g,h3⟩:∃ g,g = a1 * n2 + -a2 * n1 - c * 4294967296:=⟨_,rfl⟩
  rw [← h1] at t1
  rw [← h2] at t2
  rw [← h3] at t3
  have key:4294967296 * (Tx * n1 + Ty * n2) = 4294967296 * (w * c) + w * g - e1 * n1 - e2 * n2:=by rw [h1,h2,h3]; grind
  have b1:=mul_bd (A:=4294967296) (B:=4294967296) (x:=e1) (y:=n1) (by omega) (by omega) hn1
  have b2:=mul_bd (A:=4294967296) (B:=4294967296) (x:=e2) (y:=n2) (by omega) (by omega) hn2
  have b3:=mul_bd (A:=274877906944) (B:=4294967296) (x:=w) (y:=g) (by omega) hwb (by omega)
  have b5:=mul_bd (A:=C) (B:=4294967296) (x:=v1) (y:=n1) (by omega) c1 hn1
  have b6:=mul_bd (A:=C) (B:=4294967296) (x:=v2) (y:=n2) (by omega) c2 hn2
  have b4:=ab_iff.1 (Int.le_of_eq (abm' w c))
  rw [ab_iff]
  rw [show (v1 + Tx) * n1 + (v2 + Ty) * n2 = (v1 * n1 + v2 * n2) + (Tx * n1 + Ty * n2) by grind,show 2 * C * 4294967296 = 2 * (C * 4294967296) by grind]
  generalize Tx * n1 + Ty * n2 = P at *
  generalize w * c = WC at *
  generalize ab w * ab c = AC at *
  generalize w * g = V at *
  generalize e1 * n1 = E1 at *
  generalize e2 * n2 = E2 at *
  generalize v1 * n1 = F1 at *
  generalize v2 * n2 = F2 at *
  omega
 ·have t4:=@td_err (c * c) 4294967296 (by omega)
  have t5:=@td_err (i * q) 4294967296 (by omega)
  rw [← eq] at t4
  rw [← eh] at t5
  rw [ab2]
  have l1:=Int.mul_le_mul_of_nonneg_left (show c * c - q * 4294967296≤4294967296 by omega) (show 0≤i by omega)
  rw [show i * (c * c - q * 4294967296) = i * (c * c) - 4294967296 * (i * q) by grind] at l1
  generalize i * (c * c) = Y at *
  generalize i * q = Q at *
  omega
theorem lim_lo {t:Nb} (h:rg t.1):∃ w',limS t 64 = (w',false)∧ab w'≤274877906944∧ab w'≤ab t.1:=by
 unfold limS nCl
 rw [int_in (k:=-64) (by omega),int_in (k:=64) (by omega)]
 dsimp only
 rw [whV_of h,whV_of (v:=-64 * 4294967296) (by unfold rg; omega),whV_of (v:=64 * 4294967296) (by unfold rg; omega)]
 refine ⟨_,rfl,?_,?_⟩ <;> unfold ab <;> (repeat' split) <;> omega
theorem mul_v {x:Int} {f:Bool} {t:Nb} (hx:rg x) (ht:rg t.1):(nMul (x,f) t).1 = ftV ((x * t.1).tdiv 4294967296):=by
 unfold nMul
 dsimp only
 rw [whV_of hx,whV_of ht]
theorem psh_bal (hw:Wts m i) (hb:Bal m i C U b v1 v2 w p1 p2) (hx:Tch x n x1 x2 n1 n2) {d:Nb} {E T:Int} (hU:0≤U) (hd:rg d.1) (hE:m * ab d.1≤E * 4294967296) (hQ:qb m i ((ab (crN p1 p2 x1 x2 n1 n2) + 1) * ab d.1) (T * 18446744073709551616)) (hT:0≤T) (hC:C + E≤1099511627776) :
  ∃ w',Bal m i (C + E) (U + (T + 16777216)) (pshS b x (vScale n d)) (v1 + ((n1 * d.1).tdiv 4294967296 * m).tdiv 4294967296) (v2 + ((n2 * d.1).tdiv 4294967296 * m).tdiv 4294967296) w' p1 p2:=by
 obtain ⟨ev,ew,ep,em,ei,sl,fa,c1,c2,w1,w2,hp1,hp2⟩:=hb
 obtain ⟨ex,en,hx1,hx2,hn1,hn2⟩:=hx
 obtain ⟨m0,m1,i0,i1,r1,r2⟩:=id hw
 have c1':=ab_iff.1 c1
 have c2':=ab_iff.1 c2
 have hmi:0≤m * i:=Int.mul_nonneg (by omega) (by omega)
 have hd':ab d.1≤9223372036854775807:=by unfold rg at hd; exact ab_iff.2 hd
 have hd0:=ab_nonneg d.1
 have hE0:0≤E:=by
  have:=Int.mul_nonneg (show 0≤m by omega) hd0
  omega
 have G:∀ z:Int,-4294967296≤z∧z≤4294967296→ab ((z * d.1).tdiv 4294967296)≤ab d.1:=fun z hz => by
  refine tdv_le (by omega) ?_
  rw [abm',Int.mul_comm]
  exact Int.mul_le_mul_of_nonneg_left (ab_iff.2 hz) hd0
 have jv:∀ z:Int,-4294967296≤z∧z≤4294967296→(nMul (z,false) d).1 = (z * d.1).tdiv 4294967296:=fun z hz => by
  rw [mul_v (by unfold rg; omega) hd]
  have:=ab_iff.1 (G z hz)
  exact ftV_of (by unfold rg; omega)
 have g1:=G n1 hn1
 have g2:=G n2 hn2
 have j1:=jv n1 hn1
 have j2:=jv n2 hn2
 have hm:mvS b = true:=by
  unfold mvS
  rw [em]
  dsimp only
  rw [show (m == 0) = false from beq_eq_false_iff_ne.2 (by omega)]
  rfl
 generalize hG1:(n1 * d.1).tdiv 4294967296 = u1 at *
 generalize hG2:(n2 * d.1).tdiv 4294967296 = u2 at *
 have E1:∀ u:Int,ab u≤ab d.1→ab ((u * m).tdiv 4294967296)≤E:=fun u hu => by
  refine tdv_le (by omega) ?_
  have e:ab m = m:=by unfold ab; rw [if_neg (by omega)]
  rw [abm',e]
  have:=Int.mul_le_mul_of_nonneg_right hu (show 0≤m by omega)
  rw [Int.mul_comm m] at hE
  omega
 have e1:=E1 u1 g1
 have e2:=E1 u2 g2
 have kv:∀ (v u:Int) (t:Nb),t.1 = u→ab u≤ab d.1→ab v≤C→limS (nAdd (v,false) (nMul t (m,false))) 256 = (v + (u * m).tdiv 4294967296,false):=fun v u t ht hu hv => by
  have h1:=ab_iff.1 (E1 u hu)
  have h2:=ab_iff.1 hu
  have h3:=ab_iff.1 hv
  have q:(nMul t (m,false)).1 = (u * m).tdiv 4294967296:=by
   unfold nMul
   dsimp only
   rw [ht,whV_of (v:=u) (by unfold rg; omega),whV_of (v:=m) (by unfold rg; omega)]
   exact ftV_of (by unfold rg; omega)
  have q2:(nAdd (v,false) (nMul t (m,false))).1 = v + (u * m).tdiv 4294967296:=by
   show ftV (whV v + whV (nMul t (m,false)).1) = _
   rw [q,whV_of (v:=v) (by unfold rg; omega),whV_of (v:=(u * m).tdiv 4294967296) (by unfold rg; omega)]
   exact ftV_of (by unfold rg; omega)
  rw [show nAdd (v,false) (nMul t (m,false)) = (v + (u * m).tdiv 4294967296,(nAdd (v,false) (nMul t (m,false))).2) from Prod.ext q2 rfl]
  exact lim_in (by omega) (by omega)
 have eV:limV (vAdd b.v (vScale (vScale n d) b.m)) = ((v1 + (u1 * m).tdiv 4294967296,false),(v2 + (u2 * m).tdiv 4294967296,false)):=by
  rw [ev,em,en]
  unfold limV vAdd vScale
  dsimp only
  rw [kv v1 u1 (nMul (n1,false) d) j1 g1 c1,kv v2 u2 (nMul (n2,false) d) j2 g2 c2]
 have ea:vSub x b.pl = ((x1 - p1,false),(x2 - p2,false)):=by
  rw [ep,ex]
  unfold vSub
  rw [subN_eq (x:=x1) (y:=p1) (by omega) (by omega),subN_eq (x:=x2) (y:=p2) (by omega) (by omega)]
 unfold crN at hQ
 generalize hA1:x1 - p1 = a1 at *
 generalize hA2:x2 - p2 = a2 at *
 have ha1:-274877906944≤a1∧a1≤274877906944:=by omega
 have ha2:-274877906944≤a2∧a2≤274877906944:=by omega
 obtain ⟨c,eC⟩:∃ z,z = (a1 * n2 + -a2 * n1).tdiv 4294967296:=⟨_,rfl⟩
 rw [← eC] at hQ
 have g1':=ab_iff.1 g1
 have g2':=ab_iff.1 g2
 have hX:ab (a1 * u2 + -a2 * u1)≤(ab c + 1) * ab d.1 + 549755813888:=by
  have t1:=@td_err (n1 * d.1) 4294967296 (by omega)
  have t2:=@td_err (n2 * d.1) 4294967296 (by omega)
  have t3:=@td_err (a1 * n2 + -a2 * n1) 4294967296 (by omega)
  rw [hG1] at t1
  rw [hG2] at t2
  rw [← eC] at t3
  obtain ⟨s1,h1⟩:∃ s,s = n1 * d.1 - u1 * 4294967296:=⟨_,rfl⟩
  obtain ⟨s2,h2⟩:∃ s,s = n2 * d.1 - u2 * 4294967296:=⟨_,rfl⟩
  obtain ⟨g,h3⟩:∃ g,g = a1 * n2 + -a2 * n1 - c * 4294967296:=⟨_,rfl⟩
  rw [← h1] at t1
  rw [← h2] at t2
  rw [← h3] at t3
  have key:4294967296 * (a1 * u2 + -a2 * u1) = 4294967296 * (c * d.1) + g * d.1 - a1 * s2 + a2 * s1:=by
   have k1:4294967296 * u1 = n1 * d.1 - s1:=by rw [h1]; grind
   have k2:4294967296 * u2 = n2 * d.1 - s2:=by rw [h2]; grind
   have k3:4294967296 * c = a1 * n2 + -a2 * n1 - g:=by rw [h3]; grind
   have:4294967296 * (a1 * u2 + -a2 * u1) = a1 * (4294967296 * u2) + -a2 * (4294967296 * u1):=by grind
   rw [this,k1,k2,show 4294967296 * (c * d.1) = (4294967296 * c) * d.1 by grind,k3]
   grind
  have b1:=mul_bd (A:=4294967296) (B:=ab d.1) (x:=g) (y:=d.1) (by omega) (by omega) (ab_iff.1 (Int.le_refl _))
  have b2:=mul_bd (A:=274877906944) (B:=4294967296) (x:=a1) (y:=s2) (by omega) ha1 (by omega)
  have b3:=mul_bd (A:=274877906944) (B:=4294967296) (x:=a2) (y:=s1) (by omega) ha2 (by omega)
  have b4:=ab_iff.1 (Int.le_of_eq (abm' c d.1))
  rw [ab_iff,Int.add_mul,Int.one_mul]
  generalize a1 * u2 + -a2 * u1 = P at *
  generalize c * d.1 = CD at *
  generalize ab c * ab d.1 = AC at *
  generalize g * d.1 = V at *
  generalize a1 * s2 = F1 at *
  generalize a2 * s1 = F2 at *
  omega
 have hcr:(vCross (vSub x b.pl) (vScale n d)).1 = ftV ((a1 * u2 + -a2 * u1).tdiv 4294967296):=by
  rw [ea,en]
  unfold vCross vScale nDot
  dsimp only
  rw [negN_eq (x:=a2) (by omega),j1,j2,whV_of (v:=a1) (by unfold rg; omega),whV_of (v:=-a2) (by unfold rg; omega),whV_of (v:=u1) (by unfold rg; omega),whV_of (v:=u2) (by unfold rg; omega)]
 obtain ⟨cr,ecr⟩:∃ z,z = (vCross (vSub x b.pl) (vScale n d)):=⟨_,rfl⟩
 rw [← ecr] at hcr
 have rcr:rg cr.1:=by rw [hcr]; exact ftV_rg _
 have l1:ab cr.1 * 4294967296≤ab (a1 * u2 + -a2 * u1):=by
  rw [hcr]
  have h1:=ftV_ab ((a1 * u2 + -a2 * u1).tdiv 4294967296)
  have h2:=tdv_ab (v:=a1 * u2 + -a2 * u1) (k:=4294967296) (by omega)
  omega
 have ht:(nMul (i,false) cr).1 = ftV ((i * cr.1).tdiv 4294967296):=mul_v (by unfold rg; omega) rcr
 obtain ⟨t,et⟩:∃ z,z = nMul (i,false) cr:=⟨_,rfl⟩
 rw [← et] at ht
 have rt:rg t.1:=by rw [ht]; exact ftV_rg _
 have l2:ab t.1 * 4294967296≤i * ab cr.1:=by
  rw [ht]
  have h1:=ftV_ab ((i * cr.1).tdiv 4294967296)
  have h2:=tdv_ab (v:=i * cr.1) (k:=4294967296) (by omega)
  have e:ab i = i:=by unfold ab; rw [if_neg (by omega)]
  rw [abm',e] at h2
  omega
 have l3:ab t.1 * 18446744073709551616≤i * ((ab c + 1) * ab d.1 + 549755813888):=by
  have h1:=Int.mul_le_mul_of_nonneg_left (Int.le_trans l1 hX) (show 0≤i by omega)
  rw [show i * (ab cr.1 * 4294967296) = 4294967296 * (i * ab cr.1) by grind] at h1
  omega
 have qA:qb m i 549755813888 (16777216 * 18446744073709551616):=by
  refine ⟨by omega,by omega,?_⟩
  have h1:m * i≤562949953421312 * 211106232532992:=Int.mul_le_mul m1 i1 (by omega) (by omega)
  omega
 have qT:=hQ.add qA hmi
 rw [← Int.add_mul] at qT
 have hturn:=turn_bd (by omega) (by omega) (by omega) (by omega) qT l3
 have hsum:=add_w (by omega) (by omega) hU (show 0≤T + 16777216 by omega) w2 hturn
 have rs:rg (nAdd (w,false) t).1:=ftV_rg _
 obtain ⟨w',ew',a1',a2'⟩:=lim_lo rs
 have l4:ab (nAdd (w,false) t).1≤ab (w + t.1):=by
  show ab (ftV (whV w + whV t.1))≤_
  have:=ab_iff.1 w1
  rw [whV_of (v:=w) (by unfold rg; omega),whV_of rt]
  exact ftV_ab _
 refine ⟨w',?_⟩
 have eP:pshS b x (vScale n d) = { b with v:=limV (vAdd b.v (vScale (vScale n d) b.m)),w:=limS (nAdd b.w (nMul b.i (vCross (vSub x b.pl) (vScale n d)))) 64 }:=by
  unfold pshS
  rw [hm,fa,if_neg (by decide)]
  dsimp only
  rw [sl,if_neg (by decide)]
 rw [eP,eV,← ecr,ei,← et,ew,ew']
 exact ⟨rfl,rfl,ep,em,rfl,sl,fa,by have:=ab_sum v1 ((u1 * m).tdiv 4294967296); omega,by have:=ab_sum v2 ((u2 * m).tdiv 4294967296); omega,a1',low_w (by omega) (Int.le_trans a2' l4) hsum,hp1,hp2⟩
end
section
variable {m i C U v1 v2 w p1 p2 u1 u2 w' q1 q2 x1 x2 n1 n2:Int} {a b:Bd} {x n:V2}
theorem sli_bal (hw:Wts m i) (hC0:0≤C) (hC:C≤1099511627776) (ha:Bal m i C U a v1 v2 w p1 p2) (hb:Bal m i C U b u1 u2 w' q1 q2) (hx:Tch x n x1 x2 n1 n2) :
  ∃ R k,0≤R∧R * 4294967296≤4 * C * 4294967296 + ab w * ab (crN p1 p2 x1 x2 n1 n2) + ab w' * ab (crN q1 q2 x1 x2 n1 n2) + 132 * 4294967296 ∧
   18446744073709551616 * (2 * m) + i * (ab (crN p1 p2 x1 x2 n1 n2) * ab (crN p1 p2 x1 x2 n1 n2)) + i * (ab (crN q1 q2 x1 x2 n1 n2) * ab (crN q1 q2 x1 x2 n1 n2)) - 2 * (i * 4294967296) - 2 * 18446744073709551616≤18446744073709551616 * k ∧
   (sliK a b x n).1 = k∧0 < k∧ab (sliS a b x n).1 * k≤R * 4294967296∧rg (sliS a b x n).1:=by
 obtain ⟨s1,s2,k,e1,b1,b2,d1,f1,g1,h1⟩:=side_bal hw ha hx hC
 obtain ⟨t1,t2,k',e2,b3,b4,d2,f2,g2,h2⟩:=side_bal hw hb hx hC
 have c1:=ab_iff.1 ha.c1
 have c2:=ab_iff.1 ha.c2
 have c3:=ab_iff.1 hb.c1
 have c4:=ab_iff.1 hb.c2
 obtain ⟨ex,en,hx1,hx2,hn1,hn2⟩:=hx
 have ek:sliK a b x n = (k + k',false):=by
  unfold sliK
  rw [f1,f2,addN_eq (by omega) (by omega)]
 have m1:=mul_bd (A:=70368744177664) (B:=4294967296) (x:=t1 - s1) (y:=n1) (by omega) (by omega) hn1
 have m2:=mul_bd (A:=70368744177664) (B:=4294967296) (x:=t2 - s2) (y:=n2) (by omega) (by omega) hn2
 obtain ⟨r,ra,rb⟩:=@dotN_eq (t1 - s1) n1 (t2 - s2) n2 140737488355328 (by omega) (by omega) (by omega) (by omega) (by omega) (by omega)
 have ev:vDot (vSub (spdS b x) (spdS a x)) n = (((t1 - s1) * n1 + (t2 - s2) * n2).tdiv 4294967296,false):=by
  rw [e1,e2,en]
  unfold vDot vSub
  dsimp only
  rw [subN_eq (by omega) (by omega),subN_eq (by omega) (by omega),r]
 have eD:(t1 - s1) * n1 + (t2 - s2) * n2 = (t1 * n1 + t2 * n2) + -(s1 * n1 + s2 * n2):=by grind
 have lD:ab ((t1 - s1) * n1 + (t2 - s2) * n2)≤ab (t1 * n1 + t2 * n2) + ab (s1 * n1 + s2 * n2):=by
  have:=ab_sum (t1 * n1 + t2 * n2) (-(s1 * n1 + s2 * n2))
  rw [ab_neg] at this
  rw [eD]
  exact this
 obtain ⟨D,hDe⟩:∃ D,D = (t1 - s1) * n1 + (t2 - s2) * n2:=⟨_,rfl⟩
 rw [← hDe] at ev ra rb lD
 obtain ⟨R,hR⟩:∃ R,R = D.tdiv 4294967296:=⟨_,rfl⟩
 have lR:ab R * 4294967296≤ab D:=by rw [hR]; exact tdv_ab (by omega)
 rw [← hR] at ev ra rb
 have hm0:=hw.m0
 have hr2:=hw.r2
 have hY:=Int.mul_nonneg (show 0≤i by have:=hw.i0; omega) (Int.mul_nonneg (ab_nonneg (crN p1 p2 x1 x2 n1 n2)) (ab_nonneg (crN p1 p2 x1 x2 n1 n2)))
 have hY':=Int.mul_nonneg (show 0≤i by have:=hw.i0; omega) (Int.mul_nonneg (ab_nonneg (crN q1 q2 x1 x2 n1 n2)) (ab_nonneg (crN q1 q2 x1 x2 n1 n2)))
 have hk0:0 < k + k':=by omega
 have es:(sliS a b x n).1 = ftV ((-R * 4294967296).tdiv (k + k')):=by
  unfold sliS
  rw [ev,ek,negN_eq (by omega)]
  unfold nDiv
  dsimp only
  rw [whV_of (v:=-R) (by unfold rg; omega),whV_of (v:=k + k') (by unfold rg; omega)]
  unfold raV
  rw [if_neg (by omega)]
 refine ⟨ab R,k + k',ab_nonneg R,?_,?_,by rw [ek],hk0,?_,?_⟩
 ·rw [show 4 * C * 4294967296 = 2 * C * 4294967296 + 2 * C * 4294967296 by omega]
  generalize ab w * ab (crN p1 p2 x1 x2 n1 n2) = A at *
  generalize ab w' * ab (crN q1 q2 x1 x2 n1 n2) = B at *
  omega
 ·omega
 ·rw [es]
  have q1:=ftV_ab ((-R * 4294967296).tdiv (k + k'))
  have q2:=tdv_ab (v:=-R * 4294967296) hk0
  have q3:=Int.mul_le_mul_of_nonneg_right q1 (show 0≤k + k' by omega)
  rw [abm',ab_neg,show ab 4294967296 = 4294967296 from rfl] at q2
  omega
 ·rw [es]; exact ftV_rg _
theorem Bal.mono {C' U':Int} (h:Bal m i C U a v1 v2 w p1 p2) (hi:0≤i) (hC:C≤C') (hU0:0≤U) (hU:U≤U'):Bal m i C' U' a v1 v2 w p1 p2:=by
 have:=Int.mul_le_mul_of_nonneg_right (sqr_up hU0 hU) hi
 exact ⟨h.ev,h.ew,h.ep,h.em,h.ei,h.sl,h.fa,Int.le_trans h.c1 hC,Int.le_trans h.c2 hC,h.w1,Int.le_trans h.w2 this,h.q1,h.q2⟩
theorem apa_bal (hw:Wts m i) (hC0:0≤C) (hU:0≤U) (ha:Bal m i C U a v1 v2 w p1 p2) (hb:Bal m i C U b u1 u2 w' q1 q2) (hx:Tch x n x1 x2 n1 n2) {d:Nb} {E T R k:Int} (hd:rg d.1)
  (hT:262144 * (4 * C + 132) + 786433 * U≤524288 * T) (hC:C + E≤1099511627776) (hE:m * ab d.1≤E * 4294967296) (hR0:0≤R)
  (hR:R * 4294967296≤4 * C * 4294967296 + ab w * ab (crN p1 p2 x1 x2 n1 n2) + ab w' * ab (crN q1 q2 x1 x2 n1 n2) + 132 * 4294967296)
  (hk:18446744073709551616 * (2 * m) + i * (ab (crN p1 p2 x1 x2 n1 n2) * ab (crN p1 p2 x1 x2 n1 n2)) + i * (ab (crN q1 q2 x1 x2 n1 n2) * ab (crN q1 q2 x1 x2 n1 n2)) - 2 * (i * 4294967296) - 2 * 18446744073709551616≤18446744073709551616 * k) (hd2:ab d.1 * k≤R * 4294967296) :
  ∃ e1 e2 wa wb,Bal m i (C + E) (U + (T + 16777216)) (apaA a x n d) (v1 - e1) (v2 - e2) wa p1 p2∧Bal m i (C + E) (U + (T + 16777216)) (apaB b x n d) (u1 + e1) (u2 + e2) wb q1 q2:=by
 have hW:=ab_nonneg w
 have hW':=ab_nonneg w'
 have w1:=ha.w2
 have w2:=hb.w2
 rw [← ab2] at w1 w2
 have hT0:0≤T:=by omega
 have Qa:=push_w hw hU hC0 hW hW' (ab_nonneg _) (ab_nonneg _) w1 w2 hR0 hR hk (ab_nonneg d.1) hd2 hT
 have Qb:=push_w hw hU hC0 hW' hW (ab_nonneg (crN q1 q2 x1 x2 n1 n2)) (ab_nonneg (crN p1 p2 x1 x2 n1 n2)) w2 w1 hR0 (by omega) (by omega) (ab_nonneg d.1) hd2 hT
 have en:(nNeg d).1 = -d.1:=by unfold nNeg; dsimp only; rw [whV_of hd]
 have rn:rg (nNeg d).1:=by rw [en]; unfold rg at hd ⊢; omega
 obtain ⟨wa,A⟩:=psh_bal hw ha hx hU rn (E:=E) (T:=T) (by rw [en,ab_neg]; exact hE) (by rw [en,ab_neg]; exact Qa) hT0 hC
 obtain ⟨wb,B⟩:=psh_bal hw hb hx hU hd (E:=E) (T:=T) hE Qb hT0 hC
 refine ⟨_,_,wa,wb,?_,B⟩
 rw [en] at A
 have ng:∀ z:Int,((z * -d.1).tdiv 4294967296 * m).tdiv 4294967296 = -(((z * d.1).tdiv 4294967296 * m).tdiv 4294967296):=fun z => by
  rw [Int.mul_neg,Int.neg_tdiv,Int.neg_mul,Int.neg_tdiv]
 rw [ng,ng,← Int.sub_eq_add_neg,← Int.sub_eq_add_neg] at A
 exact A
theorem sub0_v {z:Nb} {p:Nb} (hz:rg z.1) (hp:p.1 = 0):(nSub z p).1 = z.1:=by
 show ftV (whV z.1 - whV p.1) = z.1
 rw [hp,whV_of hz,show whV 0 = 0 from rfl,Int.sub_zero,ftV_of hz]
theorem add0_l {z:Nb} {p:Nb} (hz:rg z.1) (hp:p.1 = 0):(nAdd p z).1 = z.1:=by
 show ftV (whV p.1 + whV z.1) = z.1
 rw [hp,whV_of hz,show whV 0 = 0 from rfl,Int.zero_add,ftV_of hz]
theorem hitN_v {pu:Nb} (hp:pu.1 = 0) (hr:rg (sliS a b x n).1):(hitN a b x n pu).1 = if 0 < (sliS a b x n).1 then (sliS a b x n).1 else 0:=by
 unfold hitN nPos
 dsimp only
 rw [add0_l hr hp,whV_of hr]
theorem hitY_v {nx ru:Nb} (h0:0≤nx.1) (hx:rg nx.1) (hp:ru.1 = 0) (hr:rg (sliS a b x n).1):∃ q,0≤q∧2 * q≤nx.1∧(hitY a b x n nx ru).1 = max (-q) (min (sliS a b x n).1 q):=by
 have er:nRat 1 2 = (2147483648,false):=by decide
 unfold rg at hx
 have em:(nMul nx (nRat 1 2)).1 = (nx.1 * 2147483648).tdiv 4294967296∧0≤(nx.1 * 2147483648).tdiv 4294967296∧2 * (nx.1 * 2147483648).tdiv 4294967296≤nx.1:=by
  have h1:=Int.tdiv_nonneg (show 0≤nx.1 * 2147483648 by omega) (show (0:Int)≤4294967296 by decide)
  have h2:=@td_err (nx.1 * 2147483648) 4294967296 (by omega)
  have h3:=tdv_ab (v:=nx.1 * 2147483648) (k:=4294967296) (by omega)
  have e1:ab (nx.1 * 2147483648) = nx.1 * 2147483648:=by unfold ab; rw [if_neg (by omega)]
  have e2:ab ((nx.1 * 2147483648).tdiv 4294967296) = (nx.1 * 2147483648).tdiv 4294967296:=by unfold ab; rw [if_neg (by omega)]
  rw [e1,e2] at h3
  refine ⟨?_,h1,by omega⟩
  unfold nMul
  rw [er]
  dsimp only
  rw [whV_of (v:=nx.1) (by unfold rg; omega),whV_of (v:=2147483648) (by unfold rg; omega)]
  exact ftV_of (by unfold rg; omega)
 obtain ⟨e1,e2,e3⟩:=em
 refine ⟨_,e2,e3,?_⟩
 generalize (nx.1 * 2147483648).tdiv 4294967296 = q at *
 unfold hitY nCl
 dsimp only
 have en:(nNeg (nMul nx (nRat 1 2))).1 = -q:=by unfold nNeg; dsimp only; rw [e1,whV_of (v:=q) (by unfold rg; omega)]
 rw [en,e1,add0_l hr hp,whV_of (v:=-q) (by unfold rg; omega),whV_of (v:=q) (by unfold rg; omega),whV_of hr]
theorem hitR_bal (hw:Wts m i) (hC0:0≤C) (hU:0≤U) (ha:Bal m i C U a v1 v2 w p1 p2) (hb:Bal m i C U b u1 u2 w' q1 q2) (hx:Tch x n x1 x2 n1 n2) {pu ru:Nb} (hp:pu.1 = 0) (hr:ru.1 = 0) {E T E2 T2:Int}
  (hE:U≤2 * E∧4000 * C + 132000 + 1000 * U≤1936 * E) (hT:262144 * (4 * C + 132) + 786433 * U≤524288 * T) (hC:C + E≤1099511627776)
  (hE2:E≤2 * E2) (hT2:262144 * (4 * (C + E) + 132) + 786433 * (U + (T + 16777216))≤524288 * T2) (hC2:C + E + E2≤1099511627776) :
  ∃ f1 f2 wa wb,Bal m i (C + E + E2) (U + (T + 16777216) + (T2 + 16777216)) (hitR a b x n pu ru).a (v1 - f1) (v2 - f2) wa p1 p2∧Bal m i (C + E + E2) (U + (T + 16777216) + (T2 + 16777216)) (hitR a b x n pu ru).b (u1 + f1) (u2 + f2) wb q1 q2:=by
 have hE0:0≤E:=by omega
 have hT0:0≤T:=by omega
 have m0:=hw.m0
 have i0:=hw.i0
 obtain ⟨R,k,R0,R1,K1,eK,k0,s1,s2⟩:=sli_bal hw hC0 (by omega) ha hb hx
 have w1:=ha.w2
 have w2:=hb.w2
 rw [← ab2] at w1 w2
 have eN:=hitN_v (a:=a) (b:=b) (x:=x) (n:=n) hp s2
 have rN:rg (hitN a b x n pu).1:=by rw [eN]; split; exact s2; unfold rg; omega
 have N0:0≤(hitN a b x n pu).1:=by rw [eN]; split <;> omega
 have eD:=sub0_v (z:=hitN a b x n pu) (p:=pu) rN hp
 have aN:ab (hitN a b x n pu).1≤ab (sliS a b x n).1:=by rw [eN]; unfold ab; (repeat' split) <;> omega
 have l1:ab (hitN a b x n pu).1 * k≤R * 4294967296:=Int.le_trans (Int.mul_le_mul_of_nonneg_right aN (by omega)) s1
 have v1':=push_v hw hU hC0 (ab_nonneg w) (ab_nonneg w') (ab_nonneg (crN p1 p2 x1 x2 n1 n2)) (ab_nonneg (crN q1 q2 x1 x2 n1 n2)) w1 w2 R1 K1 l1 hE
 obtain ⟨e1,e2,wa,wb,A,B⟩:=apa_bal hw hC0 hU ha hb hx (d:=nSub (hitN a b x n pu) pu) (by rw [eD]; exact rN) hT hC (by rw [eD]; exact v1') R0 R1 K1 (by rw [eD]; exact l1)
 obtain ⟨ex,en,hx1,hx2,hn1,hn2⟩:=id hx
 have hx':Tch x (vPerp n) x1 x2 (-n2) n1:=⟨ex,by rw [en]; unfold vPerp; dsimp only; rw [negN_eq (by omega),nwh_eq (by omega)],hx1,hx2,by omega,hn1⟩
 have hN:¬ (sliK a b x n).1 = 0:=by rw [eK]; omega
 have hC1:0≤C + E:=by omega
 have hU1:0≤U + (T + 16777216):=by omega
 obtain ⟨R',k',R0',R1',K1',eK',k0',s1',s2'⟩:=sli_bal hw hC1 hC A B hx'
 rw [hitR_c hN (by rw [eK']; omega)]
 dsimp only
 obtain ⟨q,g0,g1,eY⟩:=hitY_v (a:=apaA a x n (nSub (hitN a b x n pu) pu)) (b:=apaB b x n (nSub (hitN a b x n pu) pu)) (x:=x) (n:=vPerp n) (nx:=hitN a b x n pu) N0 rN hr s2'
 generalize hitY (apaA a x n (nSub (hitN a b x n pu) pu)) (apaB b x n (nSub (hitN a b x n pu) pu)) x (vPerp n) (hitN a b x n pu) ru = ry at *
 have aY:ab ry.1≤ab (sliS (apaA a x n (nSub (hitN a b x n pu) pu)) (apaB b x n (nSub (hitN a b x n pu) pu)) x (vPerp n)).1∧ab ry.1≤q:=by rw [eY]; unfold ab; (repeat' split) <;> omega
 have rY:rg ry.1:=by unfold rg at rN ⊢; have:=ab_iff.1 aY.2; omega
 have eD2:=sub0_v (z:=ry) (p:=ru) rY hr
 have l2:ab ry.1 * k'≤R' * 4294967296:=Int.le_trans (Int.mul_le_mul_of_nonneg_right aY.1 (by omega)) s1'
 have l3:m * ab ry.1≤E2 * 4294967296:=by
  have h1:=Int.mul_le_mul_of_nonneg_left aY.2 (show 0≤m by omega)
  have h2:=Int.mul_le_mul_of_nonneg_left g1 (show 0≤m by omega)
  have e:ab (hitN a b x n pu).1 = (hitN a b x n pu).1:=by unfold ab; rw [if_neg (by omega)]
  rw [e] at v1'
  rw [show m * (2 * q) = 2 * (m * q) by grind] at h2
  omega
 obtain ⟨e3,e4,wa',wb',A',B'⟩:=apa_bal hw hC1 hU1 A B hx' (d:=nSub ry ru) (by rw [eD2]; exact rY) hT2 hC2 (by rw [eD2]; exact l3) R0' R1' K1' (by rw [eD2]; exact l2)
 refine ⟨e1 + e3,e2 + e4,wa',wb',?_,?_⟩
 ·rw [show v1 - (e1 + e3) = v1 - e1 - e3 by omega,show v2 - (e2 + e4) = v2 - e2 - e4 by omega]; exact A'
 ·rw [show u1 + (e1 + e3) = u1 + e1 + e3 by omega,show u2 + (e2 + e4) = u2 + e2 + e4 by omega]; exact B'
theorem hitS_bal (hw:Wts m i) (ha:Bal m i 8589934592 68719476736 a v1 v2 w p1 p2) (hb:Bal m i 8589934592 68719476736 b u1 u2 w' q1 q2) {c:Ct} (hn:c.n≤2) (hu:uv c.nv) (hP:∀ j,j < c.n→gd (c.P j).1 201326592000∧gd (c.P j).2 201326592000)
  (h0:c.p0.1 = 0∧c.r0.1 = 0∧c.p1.1 = 0∧c.r1.1 = 0) :
  ∃ f1 f2 wa wb C U,Bal m i C U (hitS a b c).a (v1 - f1) (v2 - f2) wa p1 p2∧Bal m i C U (hitS a b c).b (u1 + f1) (u2 + f2) wb q1 q2∧C≤1099511627776:=by
 obtain ⟨z1,z2,z3,z4⟩:=h0
 have hg:=uv_gd hu
 have T:∀ j,j < c.n→Tch (c.P j) c.nv (c.P j).1.1 (c.P j).2.1 c.nv.1.1 c.nv.2.1:=fun j hj => by
  obtain ⟨⟨f1,g1⟩,f2,g2⟩:=hP j hj
  obtain ⟨⟨f3,g3⟩,f4,g4⟩:=id hg
  exact ⟨Prod.ext (Prod.ext rfl f1) (Prod.ext rfl f2),Prod.ext (Prod.ext rfl f3) (Prod.ext rfl f4),g1,g2,g3,g4⟩
 unfold hitS
 rw [Nat.min_eq_right hn]
 rcases (show c.n = 0∨c.n = 1∨c.n = 2 by omega) with e | e | e
 ·rw [e]
  exact ⟨0,0,w,w',_,_,by rw [Int.sub_zero,Int.sub_zero]; exact ha,by rw [Int.add_zero,Int.add_zero]; exact hb,by omega⟩
 ·rw [e]
  obtain ⟨f1,f2,wa,wb,A,B⟩:=hitR_bal (pu:=c.p0) (ru:=c.r0) hw (by omega) (by omega) ha hb (T 0 (by omega)) z1 z2 (E:=55834574848) (T:=124554051584) (E2:=30064771072) (T2:=420906795008) (by omega) (by omega) (by omega) (by omega) (by omega) (by omega)
  exact ⟨f1,f2,wa,wb,_,_,A,B,by omega⟩
 ·rw [e]
  obtain ⟨f1,f2,wa,wb,A,B⟩:=hitR_bal (pu:=c.p0) (ru:=c.r0) hw (by omega) (by omega) ha hb (T 0 (by omega)) z1 z2 (E:=55834574848) (T:=124554051584) (E2:=30064771072) (T2:=420906795008) (by omega) (by omega) (by omega) (by omega) (by omega) (by omega)
  obtain ⟨g1,g2,wa',wb',A',B'⟩:=hitR_bal (pu:=c.p1) (ru:=c.r1) hw (by omega) (by omega) A B (T 1 (by omega)) z3 z4 (E:=515396075520) (T:=1112396529664) (E2:=257698037760) (T2:=3822520893440) (by omega) (by omega) (by omega) (by omega) (by omega) (by omega)
  rw [show v1 - f1 - g1 = v1 - (f1 + g1) by omega,show v2 - f2 - g2 = v2 - (f2 + g2) by omega] at A'
  rw [show u1 + f1 + g1 = u1 + (f1 + g1) by omega,show u2 + f2 + g2 = u2 + (f2 + g2) by omega] at B'
  exact ⟨f1 + g1,f2 + g2,wa',wb',_,_,A',B',by omega⟩
end
theorem wgB_leA {P Q:Nat→Int} {n:Nat} (hn:n≤8) (hl:∀ i,i < n→lo (P i)∧lo (Q i)) (hc:∀ i,i < n→0≤crI P Q n i):∀ i:Nat,i≤n→wgB P Q n i≤100663296 * wgA P Q n i
 | 0,_ => by show (0:Int)≤100663296 * 0; omega
 | i + 1,h => by
  have h0:=wgB_leA hn hl hc i (by omega)
  have h1:=wgB_nn hn hl hc i (by omega)
  have h4:=wgA_nn hn hl hc i (by omega)
  have h2:=crI_bd hl (show i < n by omega)
  have h3:=hc i (by omega)
  have hj:=Nat.mod_lt (i + 1) (show 0 < n by omega)
  have hi:=hl i (by omega)
  have hk:=hl _ hj
  have d1:=@doI_eq P Q i i hi.1 hi.2 hi.1 hi.2
  have d2:=@doI_eq P Q i ((i + 1) % n) hi.1 hi.2 hk.1 hk.2
  have d3:=@doI_eq P Q ((i + 1) % n) ((i + 1) % n) hk.1 hk.2 hk.1 hk.2
  show IntKind.i64.wrap (wgB P Q n i + IntKind.i64.wrap (crI P Q n i * IntKind.i64.wrap (IntKind.i64.wrap (doI P Q i i + doI P Q i ((i + 1) % n)) + doI P Q ((i + 1) % n) ((i + 1) % n))))≤100663296 * IntKind.i64.wrap (wgA P Q n i + crI P Q n i)
  rw [wrap_in (x:=doI P Q i i + doI P Q i ((i + 1) % n)) (inRo (by omega)),wrap_in (x:=doI P Q i i + doI P Q i ((i + 1) % n) + doI P Q ((i + 1) % n) ((i + 1) % n)) (inRo (by omega))]
  have s1:=sq_3 (P i) (P ((i + 1) % n))
  have s2:=sq_3 (Q i) (Q ((i + 1) % n))
  have hs:0≤doI P Q i i + doI P Q i ((i + 1) % n) + doI P Q ((i + 1) % n) ((i + 1) % n):=by omega
  have hs2:doI P Q i i + doI P Q i ((i + 1) % n) + doI P Q ((i + 1) % n) ((i + 1) % n)≤100663296:=by omega
  generalize doI P Q i i + doI P Q i ((i + 1) % n) + doI P Q ((i + 1) % n) ((i + 1) % n) = S at *
  have p1:=Int.mul_nonneg h3 hs
  have p2:crI P Q n i * S≤33554432 * 100663296:=Int.mul_le_mul h2.2 hs2 hs (by omega)
  have p3:crI P Q n i * S≤crI P Q n i * 100663296:=Int.mul_le_mul_of_nonneg_left hs2 h3
  rw [wrap_in (x:=crI P Q n i * S) (inRo (by omega)),wrap_in (x:=wgB P Q n i + crI P Q n i * S) (inRo (by omega)),wrap_in (x:=wgA P Q n i + crI P Q n i) (inRo (by omega))]
  omega
theorem raV_ineq {a b:Int} (h0:0≤a) (hb:0 < b) (hr:a * 4294967296 < 9223372036854775808 * b):raV a b * b≤a * 4294967296∧a * 4294967296 < (raV a b + 1) * b∧0≤raV a b:=by
 have h1:(a * 4294967296) / b < 9223372036854775808:=Int.ediv_lt_of_lt_mul hb hr
 have h2:0≤(a * 4294967296) / b:=Int.ediv_nonneg (by omega) (by omega)
 have e:raV a b = (a * 4294967296) / b:=by
  unfold raV
  rw [if_neg (by omega),Int.tdiv_eq_ediv_of_nonneg (by omega),ftV_of (by unfold rg; omega)]
 rw [e]
 exact ⟨Int.ediv_mul_le _ (by omega),Int.lt_ediv_add_one_mul_self _ hb,h2⟩
theorem ndiv_ineq {x:Nb} {b:Int} (h0:0≤x.1∧x.1≤9223372036854775806) (hb:0 < b∧b≤9223372036854775806) (hr:x.1 * 4294967296 < 9223372036854775808 * b):(nDiv x (b,false)).1 * b≤x.1 * 4294967296∧x.1 * 4294967296 < ((nDiv x (b,false)).1 + 1) * b∧0≤(nDiv x (b,false)).1:=by
 unfold nDiv
 dsimp only
 rw [whV_of (v:=x.1) (by unfold rg; omega),whV_of (v:=b) (by unfold rg; omega)]
 exact raV_ineq h0.1 hb.1 hr
theorem quo_rel {x y z t k p q:Int} (hk:0 < k) (hp:0 < p) (h1:z * k≤x * 4294967296) (h2:y * 4294967296 < (t + 1) * k) (h:q * x≤p * y) (hq:0≤q):q * z < p * (t + 1):=by
 have a1:=Int.mul_le_mul_of_nonneg_left h1 hq
 have a2:=Int.mul_lt_mul_of_pos_left h2 hp
 refine Int.lt_of_mul_lt_mul_right (a:=k) ?_ (by omega)
 rw [show q * z * k = q * (z * k) by grind,show p * (t + 1) * k = p * ((t + 1) * k) by grind]
 rw [show q * (x * 4294967296) = q * x * 4294967296 by grind] at a1
 rw [show p * (y * 4294967296) = p * y * 4294967296 by grind] at a2
 omega
theorem mk_wts {a b c d k:Int} (hk:modS k 4≠0):Wts (mkWt a b c d k).1.1 (mkWt a b c d k).2.1:=by
 obtain ⟨⟨_,o1,o2⟩,_,o3,o4⟩:=@wg_ok a b c d k hk
 suffices h:(mkWt a b c d k).1.1≤1024 * (mkWt a b c d k).2.1∧(mkWt a b c d k).2.1≤134217728 * (mkWt a b c d k).1.1 from ⟨o1,o2,o3,o4,h.1,h.2⟩
 have e0:mkWt a b c d k = wgS (mkK a) (mkR a b) (mkH a b b) (mkH a b c) (mkN a) (mkX a b c) (mkY a b c) (mkD d k):=if_pos (by simpa using hk)
 rw [e0] at o1 o2 o3 o4 ⊢
 have e:mkD d k = 1 + modS d 1000:=if_neg hk
 have hd:=modS_bd (n:=d) (m:=1000) (by omega)
 have hE:=@mk_wgE a b c d k hk
 rw [e] at hE o1 o2 o3 o4 ⊢
 have hS:wgS (mkK a) (mkR a b) (mkH a b b) (mkH a b c) (mkN a) (mkX a b c) (mkY a b c) (1 + modS d 1000) = wgM (mkK a) (mkR a b) (mkH a b b) (mkH a b c) (mkN a) (mkX a b c) (mkY a b c) (1 + modS d 1000):=if_pos hE
 rw [hS] at o1 o2 o3 o4 ⊢
 generalize modS d 1000 = D at *
 have eI:nInt (1 + D) = ((1 + D) * 4294967296,false):=nInt_in (by omega)
 unfold wgM at o1 o2 o3 o4 ⊢
 rw [eI] at o1 o2 o3 o4 ⊢
 clear e0 e hE hS eI
 by_cases h:mkK a = 1
 ·rw [if_pos h] at o1 o2 o3 o4 ⊢
  have h0:modS a 5 = 0:=by
   apply Classical.byContradiction
   intro hn
   unfold mkK at h
   rw [if_neg hn] at h
   split at h <;> omega
  have hr:mkR a b = mkW b b:=if_pos h0
  have hw:=sq_bd (@mkW_bd b b)
  have hq:=Int.mul_le_mul hw.2 hw.2 (by omega) (by omega)
  have hq0:=Int.mul_le_mul hw.1 hw.1 (by omega) (by omega)
  rw [hr,wrap_in (x:=mkW b b * mkW b b) (inRo (by omega)),wrap_in (x:=mkW b b * mkW b b * (mkW b b * mkW b b)) (inRo (by omega))] at o1 o2 o3 o4 ⊢
  generalize mkW b b * mkW b b = R at *
  have hQ1:256 * R≤R * R:=Int.mul_le_mul_of_nonneg_right hw.1 (by omega)
  have hQ2:R * R≤16777216 * R:=Int.mul_le_mul_of_nonneg_right hw.2 (by omega)
  unfold piN at o1 o2 o3 o4 ⊢
  dsimp only at o1 o2 o3 o4 ⊢
  obtain ⟨m1,_,_⟩:=@rat_bd 65536 R 16777216 1099511627776 (by omega) (by omega) (by omega) (by omega) (by omega)
  have m1':=@rat_bd 65536 R 16777216 1099511627776 (by omega) (by omega) (by omega) (by omega) (by omega)
  have m2':=@div_bd2 _ 13493037704 _ _ 5340353 400000000000 m1' (by omega) (by omega) (by omega) (by omega) (by omega) (by omega)
  have i1':=@rat_bd 8589934592 (R * R) 131072 562949953421312 (by omega) (by omega) (by omega) (by omega) (by omega)
  have i2':=@div_bd2 _ 13493037704 _ _ 41721 211106232532992 i1' (by omega) (by omega) (by omega) (by omega) (by omega) (by omega)
  have a1:_:=@raV_ineq 65536 R (by omega) (by omega) (by omega)
  have b1:_:=@raV_ineq 8589934592 (R * R) (by omega) (by omega) (by omega)
  have ea:(nRat 65536 R).1 = raV 65536 R:=rfl
  have eb:(nRat 8589934592 (R * R)).1 = raV 8589934592 (R * R):=rfl
  rw [← ea] at a1
  rw [← eb] at b1
  generalize nRat 65536 R = A1 at *
  generalize nRat 8589934592 (R * R) = B1 at *
  have a2:=@ndiv_ineq A1 13493037704 (by omega) (by omega) (by omega)
  have b2:=@ndiv_ineq B1 13493037704 (by omega) (by omega) (by omega)
  generalize nDiv A1 (13493037704,false) = A2 at *
  generalize nDiv B1 (13493037704,false) = B2 at *
  have a3:=@ndiv_ineq A2 ((1 + D) * 4294967296) (by omega) (by omega) (by omega)
  have b3:=@ndiv_ineq B2 ((1 + D) * 4294967296) (by omega) (by omega) (by omega)
  generalize (nDiv A2 ((1 + D) * 4294967296,false)).1 = A3 at *
  generalize (nDiv B2 ((1 + D) * 4294967296,false)).1 = B3 at *
  obtain ⟨a11,a12,a13⟩:=a1
  obtain ⟨b11,b12,b13⟩:=b1
  -- the first quotients
  have r1:A1.1 * 131072 < 16777216 * (B1.1 + 1):=by
   refine Int.lt_of_mul_lt_mul_right (a:=R) ?_ (by omega)
   have h1:(B1.1 + 1) * (R * R)≤(B1.1 + 1) * (16777216 * R):=Int.mul_le_mul_of_nonneg_left hQ2 (by omega)
   rw [show A1.1 * 131072 * R = 131072 * (A1.1 * R) by grind,show 16777216 * (B1.1 + 1) * R = (B1.1 + 1) * (16777216 * R) by grind]
   omega
  have r2:B1.1 * 256 < 131072 * (A1.1 + 1):=by
   refine Int.lt_of_mul_lt_mul_right (a:=R) ?_ (by omega)
   have h1:B1.1 * (256 * R)≤B1.1 * (R * R):=Int.mul_le_mul_of_nonneg_left hQ1 (by omega)
   rw [show B1.1 * 256 * R = B1.1 * (256 * R) by grind,show 131072 * (A1.1 + 1) * R = 131072 * ((A1.1 + 1) * R) by grind]
   omega
  have s1:=quo_rel (p:=129) (q:=1) (by omega) (by omega) a2.1 b2.2.1 (by omega) (by omega)
  have s2:=quo_rel (p:=513) (q:=1) (by omega) (by omega) b2.1 a2.2.1 (by omega) (by omega)
  have s3:=quo_rel (p:=130) (q:=1) (by omega) (by omega) a3.1 b3.2.1 (by omega) (by omega)
  have s4:=quo_rel (p:=514) (q:=1) (by omega) (by omega) b3.1 a3.2.1 (by omega) (by omega)
  omega
 ·rw [if_neg h] at o1 o2 o3 o4 ⊢
  dsimp only at o1 o2 o3 o4 ⊢
  obtain ⟨⟨B1,B2⟩,A1,A2⟩:=@cor_sum a b c h
  have hN:corN (mkK a) (mkR a b) (mkH a b b) (mkH a b c) (mkN a) (mkX a b c) (mkY a b c)≤8:=by
   have hN:corN (mkK a) (mkR a b) (mkH a b b) (mkH a b c) (mkN a) (mkX a b c) (mkY a b c) = if mkK a = 2 then 4 else mkN a:=if_pos mk_chk
   rw [hN]
   unfold mkN
   (repeat' split) <;> omega
  have hBA:=wgB_leA hN (fun i hi => @cor_lo a b c i hi) (fun i hi => @cor_nn a b c i hi) _ (Nat.le_refl _)
  generalize wgB (corX (mkK a) (mkH a b b) (mkH a b c) (mkX a b c)) (corY (mkK a) (mkH a b b) (mkH a b c) (mkY a b c)) (corN (mkK a) (mkR a b) (mkH a b b) (mkH a b c) (mkN a) (mkX a b c) (mkY a b c)) (corN (mkK a) (mkR a b) (mkH a b b) (mkH a b c) (mkN a) (mkX a b c) (mkY a b c)) = B at *
  generalize wgA (corX (mkK a) (mkH a b b) (mkH a b c) (mkX a b c)) (corY (mkK a) (mkH a b b) (mkH a b c) (mkY a b c)) (corN (mkK a) (mkR a b) (mkH a b b) (mkH a b c) (mkN a) (mkX a b c) (mkY a b c)) (corN (mkK a) (mkR a b) (mkH a b b) (mkH a b c) (mkN a) (mkX a b c) (mkY a b c)) = A at *
  have m1':=@rat_bd 131072 A 2097152 562949953421312 (by omega) (by omega) (by omega) (by omega) (by omega)
  have i1':=@rat_bd 51539607552 B 8192 211106232532992 (by omega) (by omega) (by omega) (by omega) (by omega)
  have a1:_:=@raV_ineq 131072 A (by omega) (by omega) (by omega)
  have b1:_:=@raV_ineq 51539607552 B (by omega) (by omega) (by omega)
  have ea:(nRat 131072 A).1 = raV 131072 A:=rfl
  have eb:(nRat 51539607552 B).1 = raV 51539607552 B:=rfl
  rw [← ea] at a1
  rw [← eb] at b1
  generalize nRat 131072 A = P1 at *
  generalize nRat 51539607552 B = Q1 at *
  have a3:=@ndiv_ineq P1 ((1 + D) * 4294967296) (by omega) (by omega) (by omega)
  have b3:=@ndiv_ineq Q1 ((1 + D) * 4294967296) (by omega) (by omega) (by omega)
  generalize (nDiv P1 ((1 + D) * 4294967296,false)).1 = A3 at *
  generalize (nDiv Q1 ((1 + D) * 4294967296,false)).1 = B3 at *
  obtain ⟨a11,a12,a13⟩:=a1
  obtain ⟨b11,b12,b13⟩:=b1
  have r1:P1.1 < 256 * (Q1.1 + 1):=by
   refine Int.lt_of_mul_lt_mul_right (a:=A) ?_ (by omega)
   have h1:(Q1.1 + 1) * B≤(Q1.1 + 1) * (100663296 * A):=Int.mul_le_mul_of_nonneg_left hBA (by omega)
   rw [show (Q1.1 + 1) * (100663296 * A) = 100663296 * ((Q1.1 + 1) * A) by grind] at h1
   rw [show 256 * (Q1.1 + 1) * A = 256 * ((Q1.1 + 1) * A) by grind]
   omega
  have s3:=quo_rel (p:=257) (q:=1) (by omega) (by omega) a3.1 b3.2.1 (by omega) (by omega)
  have s4:=quo_rel (p:=100663296) (q:=1) (by omega) (by omega) b3.1 a3.2.1 (by omega) (by omega)
  omega
def flt (v:V2):Bool:=whF v.1.1 v.1.2 || whF v.2.1 v.2.2
def solN (a b c d:Nb):Nb:=nDot a d (nNeg b) c
def solX (a b c d:Nb) (v:V2):V2:=(nDiv (nDot v.1 d (nNeg b) v.2) (solN a b c d),nDiv (nDot a v.2 (nNeg v.1) c) (solN a b c d))
def solS (a b c d:Nb) (v:V2):Bool×V2:=if (solN a b c d).2 = true∨(solN a b c d).1 = 0 then (false,(0,false),(0,false)) else if flt (solX a b c d v) = true then (false,(0,false),(0,false)) else (true,solX a b c d v)
def ks283:Con
 | [.agg [.v (.int .i64 a),.v (.bool e)],.agg [.v (.int .i64 b),.v (.bool f)],.agg [.v (.int .i64 c),.v (.bool g)],.agg [.v (.int .i64 d),.v (.bool h)],.agg [.v (.int .i64 x),.v (.bool k),.v (.int .i64 y),.v (.bool l)]] => some ([inR a,inR b,inR c,inR d,inR x,inR y],unA (solS (a,e) (b,f) (c,g) (d,h) ((x,k),(y,l))))
 | _ => none
theorem kons283:ConOK prog 283 ks283:=ConOK.of (G:=[(164,k179),(238,k125),(155,k168),(257,c257)]) (H:=[(1,⟨[(7,.made 6)],[]⟩),(4,⟨[(22,.made 21)],[]⟩)]) (.cons kon179 (.cons kon125 (.cons kon168 (.cons con257 .nil)))) func283 fun l ob rr hc hob => by
 unfold ks283 at hc
 split at hc
 ·rename_i a e b f c g d h x k y l
  cases hc
  have h_0:=ob0 hob
  have h_1:=ob1 hob
  have h_2:=ob2 hob
  have h_3:=ob3 hob
  have h_4:=ob4 hob
  have h_5:=ob5 hob
  refine ⟨by kernel_rfl,fnVC_go (rs:=[.cell 10 26,.tmp 11]) rfl rfl ?_⟩
  simp only [go_sem,k179,k125,k168,c257,iMul,iDiv,iInt,iAdd,iSub,iRat,iDot,iHyp,iSq,iNeg,iPos,iAbs,iMx,iMn,iCl,iWh,iLoc1,iLoc2,iVAdd1,iVAdd2,iVSub1,iVSub2,iScale1,iScale2,iVDot,iVCross,iLen,iOf1,iOf2,iUnit1,iUnit2,h_0,h_1,h_2,h_3,h_4,h_5]
  refine ⟨fun q => ?_,fun q z hz => ?_⟩
  ·unfold solS
   rw [if_pos (show (solN (a,e) (b,f) (c,g) (d,h)).2 = true∨(solN (a,e) (b,f) (c,g) (d,h)).1 = 0 from q.imp id beq_iff_eq.1)]
   rfl
  ·rw [vfS_one] at hz
   have hz:z = flt (solX (a,e) (b,f) (c,g) (d,h) ((x,k),(y,l))):=hz
   have q1:¬ ((solN (a,e) (b,f) (c,g) (d,h)).2 = true∨(solN (a,e) (b,f) (c,g) (d,h)).1 = 0):=by
    rintro (k1 | k1)
    ·rw [show (solN (a,e) (b,f) (c,g) (d,h)).2 = false from q.1] at k1; cases k1
    ·exact beq_eq_false_iff_ne.1 q.2 k1
   refine ⟨fun k1 => ?_,fun k1 => ?_⟩
   ·unfold solS
    rw [if_neg q1,if_pos (hz.symm.trans k1)]
    rfl
   ·unfold solS
    rw [if_neg q1,if_neg (by rw [hz.symm.trans k1]; simp)]
    rfl
 ·cases hc
def mxA (m:Nb×Nb×Nb):AV:=.agg [i64 m.1.1,bo m.1.2,i64 m.2.1.1,bo m.2.1.2,i64 m.2.2.1,bo m.2.2.2]
def matS (b:Bd) (p:V2):Nb×Nb×Nb:=(nAdd b.m (nMul b.i (nMul (vSub p b.pl).2 (vSub p b.pl).2)),nNeg (nMul b.i (nMul (vSub p b.pl).1 (vSub p b.pl).2)),nAdd b.m (nMul b.i (nMul (vSub p b.pl).1 (vSub p b.pl).1)))
def kb248:Con:=cBR fun b rest => match rest with
 | [.agg [.v (.int .i64 x),.v (.bool e),.v (.int .i64 y),.v (.bool f)]] => some ([inB b,inR x,inR y],mxA (matS b ((x,e),(y,f))))
 | _ => none
theorem konb248:ConOK prog 248 kb248:=ConOK.cBR (G:=[(175,kw175),(125,k129),(153,kw153),(164,k179)]) (H:=[(1,⟨[(18,.made 15),(19,.made 16),(20,.made 17)],[(8,[.made 15]),(14,[.made 15,.made 16])]⟩),(2,⟨[(27,.slot 4)],[]⟩)]) (.cons konw175 (.cons kon129 (.cons konw153 (.cons kon179 .nil)))) func248 fun b rest ob r hc hob => by
 split at hc
 ·rename_i x e y f
  cases hc
  have h_0:=ob0 hob
  have h_1:=ob1 hob
  have h_2:=ob2 hob
  obtain ⟨b1,b2,b3,b4,b5,b6,b7,b8,b9,b10,b11,b12,b13,b14,b15,b16⟩:=h_0
  have hb:inB b:=hob _ (by simp)
  refine ⟨by kernel_rfl,fnVC_go (rs:=[.cell 4 244]) rfl rfl ?_⟩
  simp only [bodyC,go_sem,kw175,k129,kw153,k179,cB_eq,cBR_eq,bodyD_lit,gx_pts0,gx_pts1,spots_can,etaN,etaV,bd_eta,b1,b2,b3,b4,b6,b7,b8,b9,b10,b11,b12,b13,b14,b15,b16,hb,h_1,h_2]
  rfl
 ·cases hc
def ks249:Con
 | [.agg [.v (.int .i64 a),.v (.bool e),.v (.int .i64 b),.v (.bool f),.v (.int .i64 c),.v (.bool g)],.agg [.v (.int .i64 x),.v (.bool k),.v (.int .i64 y),.v (.bool l)]] => some ([inR a,inR b,inR c,inR x,inR y],unA (solS (a,e) (b,f) (b,f) (c,g) ((x,k),(y,l))))
 | _ => none
theorem kons249:ConOK prog 249 ks249:=ConOK.of (G:=[(283,ks283)]) (H:=[]) (.cons kons283 .nil) func249 fun l ob rr hc hob => by
 unfold ks249 at hc
 split at hc
 ·rename_i a e b f c g x k y l
  cases hc
  have h_0:=ob0 hob
  have h_1:=ob1 hob
  have h_2:=ob2 hob
  have h_3:=ob3 hob
  have h_4:=ob4 hob
  refine ⟨by kernel_rfl,fnVC_go (rs:=[.cell 4 26,.tmp 5]) rfl rfl ?_⟩
  simp only [go_sem,ks283,iMul,iDiv,iInt,iAdd,iSub,iRat,iDot,iHyp,iSq,iNeg,iPos,iAbs,iMx,iMn,iCl,iWh,iLoc1,iLoc2,iVAdd1,iVAdd2,iVSub1,iVSub2,iScale1,iScale2,iVDot,iVCross,iLen,iOf1,iOf2,iUnit1,iUnit2,h_0,h_1,h_2,h_3,h_4]
  rfl
 ·cases hc
theorem iMa1 {b:Bd} {p:V2}:inR (matS b p).1.1 = True:=iAdd
theorem iMa2 {b:Bd} {p:V2}:inR (matS b p).2.1.1 = True:=iNeg (of_eq_true iMul)
theorem iMa3 {b:Bd} {p:V2}:inR (matS b p).2.2.1 = True:=iAdd
theorem iSo1 {a b c d:Nb} {v:V2}:inR (solS a b c d v).2.1.1 = True:=by
 unfold solS
 split
 ·exact inR_0
 ·split
  ·exact inR_0
  ·exact iDiv
theorem iSo2 {a b c d:Nb} {v:V2}:inR (solS a b c d v).2.2.1 = True:=by
 unfold solS
 split
 ·exact inR_0
 ·split
  ·exact inR_0
  ·exact iDiv
def toS (b:Bd) (p:V2):V2:=vAdd b.pl (vApply b.rot p)
theorem toS_f {b:Bd} {p:V2}:vAdd b.pl (vApply b.rot p) = toS b p:=(rfl)
theorem iTo1 {b:Bd} {p:V2}:inR (toS b p).1.1 = True:=iVAdd1
theorem iTo2 {b:Bd} {p:V2}:inR (toS b p).2.1 = True:=iVAdd2
attribute [go_sem] mxA iMa1 iMa2 iMa3 iSo1 iSo2 iTo1 iTo2 toS_f
def grbU (A:Bd) (pa pb:V2) (r:Nb):V2:=vSub (vScale (vSub pb (toS A pa)) r) (spdS A (toS A pa))
def grbI (A:Bd) (pa pb:V2) (r:Nb):Bool×V2:=solS (matS A (toS A pa)).1 (matS A (toS A pa)).2.1 (matS A (toS A pa)).2.1 (matS A (toS A pa)).2.2 (grbU A pa pb r)
def grbT (B:Nat→Bd) (i:Nat) (pa pb:V2) (r:Nb):Nat→Bd:=if (grbI (B i) pa pb r).1 = true then updB B i (pshS (B i) (toS (B i) pa) (grbI (B i) pa pb r).2) else B
def grbF:Nat→(Nat→List AV)→List AV→Option (List Prop×AV×(Nat→List AV))
 | N,get,[.agg [.v (.int .i64 k),.v (.int .i64 a),.v (.int .i64 b),.v (.int .i64 x),.v (.bool e),.v (.int .i64 y),.v (.bool f),.v (.int .i64 z),.v (.bool g),.v (.int .i64 u),.v (.bool h),.v (.int .i64 l),.v (.bool m)],.agg [.v (.int .i64 r),.v (.bool q)]] => some ([get = bsC (bsD get),inBs N (bsD get),N≤1000,0≤a,a < N,inR x,inR y,inR z,inR u,inR l,inR r],.tup [],bsC (grbT (bsD get) a.toNat ((x,e),(y,f)) ((z,g),(u,h)) (r,q)))
 | _,_,_ => none
def mGrb:MCon:=mcT 27 151 155 grbF
theorem con194m:MConOK prog 194 mGrb:=MConOK.mcT (G:=[(207,k62),(157,k172),(122,k169),(150,kb150),(248,kb248),(249,ks249),(115,.wr kw115)]) (H:=[(2,⟨[(9,.made 8)],[]⟩),(3,⟨[(11,.made 10)],[]⟩),(4,⟨[(9,.made 8)],[]⟩)]) (.cons kon62 (.cons kon172 (.cons kon169 (.cons konb150 (.cons konb248 (.cons kons249 (.mcons konw115 .nil))))))) func194 fun N get rest ob val get' hF hob hcl => by
 unfold grbF at hF
 split at hF
 ·rename_i k a b x e y f z g u h l m r q
  cases hF
  have h1:get = bsC (bsD get):=hob _ (by simp)
  have hB:inBs N (bsD get):=hob _ (by simp)
  have hN:N≤1000:=hob _ (by simp)
  have a1:0≤a:=hob _ (by simp)
  have a2:a < N:=hob _ (by simp)
  have k1:inR x:=hob _ (by simp)
  have k2:inR y:=hob _ (by simp)
  have k3:inR z:=hob _ (by simp)
  have k4:inR u:=hob _ (by simp)
  have k5:inR l:=hob _ (by simp)
  have k6:inR r:=hob _ (by simp)
  clear hob
  generalize bsD get = B at *
  subst h1
  refine ⟨by simp [clean],rfl,fun i _ => rfl,by kernel_rfl,bodyM_go (rs:=[]) rfl rfl ?_⟩
  have hA:a.toNat < N:=by omega
  obtain ⟨i1,i2⟩:=hB a.toNat hA
  obtain ⟨p1,p2,p3,p4,p5,p6,p7,p8,p9,p10,p11,p12,p13,p14,p15,p16⟩:=id i1
  simp only [go_sem,k62,k172,k169,kb150,kb248,ks249,kw115,cBR_eq,mB_ptr,mbP_some,stepC_mbQ,hA,i1,p6,p7,p8,p9,k1,k2,k3,k4,k5,k6]
  simp only [forall_eq]
  refine ⟨a1,a2,of_eq_true iMa1,of_eq_true iMa2,of_eq_true iMa3,fun w => ?_,fun w => ?_⟩
  ·have e1:grbT B a.toNat ((x,e),(y,f)) ((z,g),(u,h)) (r,q) = _:=if_pos w
   rw [e1]
   rfl
  ·have e1:grbT B a.toNat ((x,e),(y,f)) ((z,g),(u,h)) (r,q) = B:=if_neg (fun k => by rw [show (grbI _ _ _ _).1 = false from w] at k; cases k)
   rw [e1]
 ·cases hF
def rodN (A Q:Bd) (pa pb:V2):Bool×V2:=vUnit (vSub (toS Q pb) (toS A pa))
def rodK (A Q:Bd) (pa pb:V2):Nb:=nAdd (hftS A (toS A pa) (rodN A Q pa pb).2) (hftS Q (toS Q pb) (rodN A Q pa pb).2)
def rodD (A Q:Bd) (pa pb:V2) (ln r:Nb):Nb:=nDiv (nNeg (nAdd (vDot (vSub (spdS Q (toS Q pb)) (spdS A (toS A pa))) (rodN A Q pa pb).2) (nMul (nSub (vLen (vSub (toS Q pb) (toS A pa))) ln) r))) (rodK A Q pa pb)
def rodT (B:Nat→Bd) (i j:Nat) (pa pb:V2) (ln r:Nb):Nat→Bd:=if (rodN (B i) (B j) pa pb).1 = true∧(rodK (B i) (B j) pa pb).1≠0 then
 updB (updB B i (apaA (B i) (toS (B i) pa) (rodN (B i) (B j) pa pb).2 (rodD (B i) (B j) pa pb ln r))) j (apaB (B j) (toS (B j) pb) (rodN (B i) (B j) pa pb).2 (rodD (B i) (B j) pa pb ln r)) else B
def rodF:Nat→(Nat→List AV)→List AV→Option (List Prop×AV×(Nat→List AV))
 | N,get,[.agg [.v (.int .i64 k),.v (.int .i64 a),.v (.int .i64 b),.v (.int .i64 x),.v (.bool e),.v (.int .i64 y),.v (.bool f),.v (.int .i64 z),.v (.bool g),.v (.int .i64 u),.v (.bool h),.v (.int .i64 l),.v (.bool m)],.agg [.v (.int .i64 r),.v (.bool q)]] => some ([get = bsC (bsD get),inBs N (bsD get),N≤1000,0≤a,a < N,0≤b,b < N,a≠b,inR x,inR y,inR z,inR u,inR l,inR r],.tup [],bsC (rodT (bsD get) a.toNat b.toNat ((x,e),(y,f)) ((z,g),(u,h)) (l,m) (r,q)))
 | _,_,_ => none
def mRod:MCon:=mcT 27 151 155 rodF
theorem con195m:MConOK prog 195 mRod:=MConOK.mcT (G:=[(207,k62),(157,k172),(250,k165),(151,kb151),(153,kw153),(150,kb150),(219,k178),(251,k161),(154,k160),(125,k129),(164,k179),(155,k168),(162,.wr mApa)]) (H:=[(2,⟨[(18,.made 16),(19,.made 17)],[]⟩),(5,⟨[(10,.made 9)],[]⟩),(7,⟨[(10,.made 9)],[]⟩),(8,⟨[(8,.made 7)],[]⟩),(9,⟨[(11,.call)],[]⟩)]) (.cons kon62 (.cons kon172 (.cons kon165 (.cons konb151 (.cons konw153 (.cons konb150 (.cons kon178 (.cons kon161 (.cons kon160 (.cons kon129 (.cons kon179 (.cons kon168 (.mcons con162m .nil))))))))))))) func195 fun N get rest ob val get' hF hob hcl => by
 unfold rodF at hF
 split at hF
 ·rename_i k a b x e y f z g u h l m r q
  cases hF
  have h1:get = bsC (bsD get):=hob _ (by simp)
  have hB:inBs N (bsD get):=hob _ (by simp)
  have hN:N≤1000:=hob _ (by simp)
  have a1:0≤a:=hob _ (by simp)
  have a2:a < N:=hob _ (by simp)
  have a3:0≤b:=hob _ (by simp)
  have a4:b < N:=hob _ (by simp)
  have a5:a≠b:=hob _ (by simp)
  have k1:inR x:=hob _ (by simp)
  have k2:inR y:=hob _ (by simp)
  have k3:inR z:=hob _ (by simp)
  have k4:inR u:=hob _ (by simp)
  have k5:inR l:=hob _ (by simp)
  have k6:inR r:=hob _ (by simp)
  clear hob
  generalize bsD get = B at *
  subst h1
  refine ⟨by simp [clean],rfl,fun i _ => rfl,by kernel_rfl,bodyM_go (rs:=[]) rfl rfl ?_⟩
  have hA:a.toNat < N:=by omega
  have hA2:b.toNat < N:=by omega
  have hne:¬ b.toNat = a.toNat:=by omega
  obtain ⟨i1,i2⟩:=hB a.toNat hA
  obtain ⟨i3,i4⟩:=hB b.toNat hA2
  obtain ⟨p1,p2,p3,p4,p5,p6,p7,p8,p9,p10,p11,p12,p13,p14,p15,p16⟩:=id i1
  obtain ⟨q1,q2,q3,q4,q5,q6,q7,q8,q9,q10,q11,q12,q13,q14,q15,q16⟩:=id i3
  simp only [go_sem,k62,k172,k165,kb151,kw153,kb150,k178,k161,k160,k129,k179,k168,cBR_eq,mB_ptr,mbP_some,stepC_mbQ,hA,hA2,i1,i3,p6,p7,p8,p9,q6,q7,q8,q9,k1,k2,k3,k4,k5,k6,mApa,apaF]
  refine ⟨a1,a2,a3,a4,fun w => ?_,fun w => ⟨by omega,?_⟩⟩
  ·have e1:rodT B a.toNat b.toNat ((x,e),(y,f)) ((z,g),(u,h)) (l,m) (r,q) = B:=if_neg fun k => by
    rcases w with w | w
    ·have w:(rodN (B a.toNat) (B b.toNat) ((x,e),(y,f)) ((z,g),(u,h))).1 = false:=w
     rw [k.1] at w; cases w
    ·exact k.2 (beq_iff_eq.1 w)
   rw [e1]
  ·have e1:rodT B a.toNat b.toNat ((x,e),(y,f)) ((z,g),(u,h)) (l,m) (r,q) = _:=if_pos ⟨w.1,beq_eq_false_iff_ne.1 w.2⟩
   rw [e1]
   rfl
 ·cases hF
abbrev M3:=Nb×Nb×Nb
def mxB (m o:M3):Nat→M3
 | 0 => m
 | 1 => (nAdd m.1 o.1,m.2)
 | 2 => (nAdd m.1 o.1,nAdd m.2.1 o.2.1,m.2.2)
 | _ + 3 => (nAdd m.1 o.1,nAdd m.2.1 o.2.1,nAdd m.2.2 o.2.2)
def mxC (m:M3):List AV:=[i64 m.1.1,bo m.1.2,i64 m.2.1.1,bo m.2.1.2,i64 m.2.2.1,bo m.2.2.2]
def pinM (A Q:Bd) (pa pb:V2):M3:=mxB (matS A (toS A pa)) (matS Q (toS Q pb)) 3
def pinU (A Q:Bd) (pa pb:V2) (r:Nb):V2:=vAdd (vSub (spdS Q (toS Q pb)) (spdS A (toS A pa))) (vScale (vSub (toS Q pb) (toS A pa)) r)
def pinI (A Q:Bd) (pa pb:V2) (r:Nb):Bool×V2:=solS (pinM A Q pa pb).1 (pinM A Q pa pb).2.1 (pinM A Q pa pb).2.1 (pinM A Q pa pb).2.2 (vOpp (pinU A Q pa pb r))
def pinT (B:Nat→Bd) (i j:Nat) (pa pb:V2) (r:Nb):Nat→Bd:=if (pinI (B i) (B j) pa pb r).1 = true then
 updB (updB B i (pshS (B i) (toS (B i) pa) (vScale (pinI (B i) (B j) pa pb r).2 (nInt (-1))))) j (pshS (B j) (toS (B j) pb) (pinI (B i) (B j) pa pb r).2) else B
def pinF:Nat→(Nat→List AV)→List AV→Option (List Prop×AV×(Nat→List AV))
 | N,get,[.agg [.v (.int .i64 k),.v (.int .i64 a),.v (.int .i64 b),.v (.int .i64 x),.v (.bool e),.v (.int .i64 y),.v (.bool f),.v (.int .i64 z),.v (.bool g),.v (.int .i64 u),.v (.bool h),.v (.int .i64 l),.v (.bool m)],.agg [.v (.int .i64 r),.v (.bool q)]] => some ([get = bsC (bsD get),inBs N (bsD get),N≤1000,0≤a,a < N,0≤b,b < N,a≠b,inR x,inR y,inR z,inR u,inR l,inR r],.tup [],bsC (pinT (bsD get) a.toNat b.toNat ((x,e),(y,f)) ((z,g),(u,h)) (r,q)))
 | _,_,_ => none
def mPin:MCon:=mcT 27 151 155 pinF
theorem con196m:MConOK prog 196 mPin:=MConOK.mcT (G:=[(207,k62),(248,kb248),(153,kw153),(150,kb150),(157,k172),(122,k169),(121,k130),(252,kw252o),(249,ks249),(178,k127),(115,.wr kw115)]) (H:=[(2,⟨[(18,.made 16),(19,.made 17)],[]⟩),(3,⟨[(8,.made 6),(9,.made 7)],[]⟩),(7,⟨[(9,.slot 10)],[]⟩),(9,⟨[(15,.made 14)],[]⟩),(10,⟨[(8,.made 7)],[]⟩),(12,⟨[(5,.call)],[]⟩)]) (.cons kon62 (.cons konb248 (.cons konw153 (.cons konb150 (.cons kon172 (.cons kon169 (.cons kon130 (.cons konw252o (.cons kons249 (.cons kon127 (.mcons konw115 .nil))))))))))) func196 fun N get rest ob val get' hF hob hcl => by
 unfold pinF at hF
 split at hF
 ·rename_i k a b x e y f z g u h l m r q
  cases hF
  have h1:get = bsC (bsD get):=hob _ (by simp)
  have hB:inBs N (bsD get):=hob _ (by simp)
  have hN:N≤1000:=hob _ (by simp)
  have a1:0≤a:=hob _ (by simp)
  have a2:a < N:=hob _ (by simp)
  have a3:0≤b:=hob _ (by simp)
  have a4:b < N:=hob _ (by simp)
  have a5:a≠b:=hob _ (by simp)
  have k1:inR x:=hob _ (by simp)
  have k2:inR y:=hob _ (by simp)
  have k3:inR z:=hob _ (by simp)
  have k4:inR u:=hob _ (by simp)
  have k5:inR l:=hob _ (by simp)
  have k6:inR r:=hob _ (by simp)
  clear hob
  generalize bsD get = B at *
  subst h1
  refine ⟨by simp [clean],rfl,fun i _ => rfl,by kernel_rfl,bodyM_go (rs:=[]) rfl rfl ?_⟩
  have hA:a.toNat < N:=by omega
  have hA2:b.toNat < N:=by omega
  have hne:¬ b.toNat = a.toNat:=by omega
  obtain ⟨i1,i2⟩:=hB a.toNat hA
  obtain ⟨i3,i4⟩:=hB b.toNat hA2
  obtain ⟨p1,p2,p3,p4,p5,p6,p7,p8,p9,p10,p11,p12,p13,p14,p15,p16⟩:=id i1
  obtain ⟨q1,q2,q3,q4,q5,q6,q7,q8,q9,q10,q11,q12,q13,q14,q15,q16⟩:=id i3
  simp only [go_sem,k62,kb248,kw153,kb150,k172,k169,k130,kw252o,ks249,k127,kw115,cBR_eq,mB_ptr,mbP_some,stepC_mbQ,hA,hA2,i1,i3,p6,p7,p8,p9,q6,q7,q8,q9,k1,k2,k3,k4,k5,k6]
  simp only [forall_eq]
  have hm1:inR (matS (B a.toNat) (toS (B a.toNat) ((x,e),(y,f)))).1.1:=of_eq_true iMa1
  have hm2:inR (matS (B a.toNat) (toS (B a.toNat) ((x,e),(y,f)))).2.1.1:=of_eq_true iMa2
  have hm3:inR (matS (B a.toNat) (toS (B a.toNat) ((x,e),(y,f)))).2.2.1:=of_eq_true iMa3
  have hq1:inR (matS (B b.toNat) (toS (B b.toNat) ((z,g),(u,h)))).1.1:=of_eq_true iMa1
  have hq2:inR (matS (B b.toNat) (toS (B b.toNat) ((z,g),(u,h)))).2.1.1:=of_eq_true iMa2
  have hq3:inR (matS (B b.toNat) (toS (B b.toNat) ((z,g),(u,h)))).2.2.1:=of_eq_true iMa3
  unfold pinT pinI pinM pinU
  generalize matS (B a.toNat) (toS (B a.toNat) ((x,e),(y,f))) = MA at *
  generalize matS (B b.toNat) (toS (B b.toNat) ((z,g),(u,h))) = MQ at *
  refine ⟨a1,a2,a3,a4,?_⟩
  refine loopC_go (fun (i:Nat) => i≤3) (fun i => 3 - i) (fun i => [(48,i64 (i:Int))]) (fun i => [(41,fam1 244 6 (mxC (mxB MA MQ i)) none)]) [42,32,31,2,1,0] [49,50,12,51,52,53,54,55,56,57,58,59,60,48] 0 (by kernel_rfl) ?_ (Nat.zero_le _) ?_ ?_
  ·intro i _; simp [goodNames,asg]
  ·simp only [go_sem]
   exact fitL_clean rfl
  intro i hi
  match i,hi with
  | 0,hi =>
   have e0:mxC (mxB MA MQ 0) = [i64 MA.1.1,bo MA.1.2,i64 MA.2.1.1,bo MA.2.1.2,i64 MA.2.2.1,bo MA.2.2.2]:=rfl
   rw [e0]
   simp only [go_sem,k62,kb248,kw153,kb150,k172,k169,k130,kw252o,ks249,k127,kw115,cBR_eq,mB_ptr,mbP_some,stepC_mbQ,hA,hA2,i1,i3,p6,p7,p8,p9,q6,q7,q8,q9,k1,k2,k3,k4,k5,k6,hm1,hm2,hm3,hq1,hq2,hq3,forall_eq,imp_false,Nat.not_lt]
   exact ⟨fun _ => ⟨1,by omega,by omega,by decide,fitL_clean rfl⟩,fun w => by cases w⟩
  | 1,hi =>
   have e0:mxC (mxB MA MQ 1) = [i64 (nAdd MA.1 MQ.1).1,bo (nAdd MA.1 MQ.1).2,i64 MA.2.1.1,bo MA.2.1.2,i64 MA.2.2.1,bo MA.2.2.2]:=rfl
   rw [e0]
   simp only [go_sem,k62,kb248,kw153,kb150,k172,k169,k130,kw252o,ks249,k127,kw115,cBR_eq,mB_ptr,mbP_some,stepC_mbQ,hA,hA2,i1,i3,p6,p7,p8,p9,q6,q7,q8,q9,k1,k2,k3,k4,k5,k6,hm1,hm2,hm3,hq1,hq2,hq3,forall_eq,imp_false,Nat.not_lt]
   exact ⟨fun _ => ⟨2,by omega,by omega,by decide,fitL_clean rfl⟩,fun w => by cases w⟩
  | 2,hi =>
   have e0:mxC (mxB MA MQ 2) = [i64 (nAdd MA.1 MQ.1).1,bo (nAdd MA.1 MQ.1).2,i64 (nAdd MA.2.1 MQ.2.1).1,bo (nAdd MA.2.1 MQ.2.1).2,i64 MA.2.2.1,bo MA.2.2.2]:=rfl
   rw [e0]
   simp only [go_sem,k62,kb248,kw153,kb150,k172,k169,k130,kw252o,ks249,k127,kw115,cBR_eq,mB_ptr,mbP_some,stepC_mbQ,hA,hA2,i1,i3,p6,p7,p8,p9,q6,q7,q8,q9,k1,k2,k3,k4,k5,k6,hm1,hm2,hm3,hq1,hq2,hq3,forall_eq,imp_false,Nat.not_lt]
   exact ⟨fun _ => ⟨3,by omega,by omega,by decide,fitL_clean rfl⟩,fun w => by cases w⟩
  | 3,hi =>
   have e0:mxC (mxB MA MQ 3) = [i64 (nAdd MA.1 MQ.1).1,bo (nAdd MA.1 MQ.1).2,i64 (nAdd MA.2.1 MQ.2.1).1,bo (nAdd MA.2.1 MQ.2.1).2,i64 (nAdd MA.2.2 MQ.2.2).1,bo (nAdd MA.2.2 MQ.2.2).2]:=rfl
   rw [e0]
   simp only [go_sem,k62,kb248,kw153,kb150,k172,k169,k130,kw252o,ks249,k127,kw115,cBR_eq,mB_ptr,mbP_some,stepC_mbQ,hA,hA2,i1,i3,p6,p7,p8,p9,q6,q7,q8,q9,k1,k2,k3,k4,k5,k6,hm1,hm2,hm3,hq1,hq2,hq3,forall_eq,imp_false,Nat.not_lt]
   have hof:∀ v,updB B a.toNat v b.toNat = B b.toNat:=fun v => updB_off hne
   simp only [hof]
   have iop:∀ v:V2,inR v.1.1→inR v.2.1→inR (vOpp v).1.1∧inR (vOpp v).2.1:=fun v w1 w2 => ⟨of_eq_true (iNeg w1),of_eq_true (iNeg w2)⟩
   refine ⟨fun w => absurd w (by simp),fun _ => ⟨(iop _ (of_eq_true iVAdd1) (of_eq_true iVAdd2)).1,(iop _ (of_eq_true iVAdd1) (of_eq_true iVAdd2)).2,fun w => ?_,fun w => ?_⟩⟩
   ·rw [if_pos (show (solS (mxB MA MQ 3).1 (mxB MA MQ 3).2.1 (mxB MA MQ 3).2.1 (mxB MA MQ 3).2.2 _).1 = true from w)]
    first | exact ⟨i3,rfl⟩ | rfl
   ·rw [if_neg (show ¬ (solS (mxB MA MQ 3).1 (mxB MA MQ 3).2.1 (mxB MA MQ 3).2.1 (mxB MA MQ 3).2.2 _).1 = true from fun w2 => by rw [show (solS (mxB MA MQ 3).1 (mxB MA MQ 3).2.1 (mxB MA MQ 3).2.1 (mxB MA MQ 3).2.2 _).1 = false from w] at w2; cases w2)]
  | i + 4,hi => exact absurd hi (by omega)
 ·cases hF
def bndT (N:Nat) (B:Nat→Bd) (k a b:Int) (pa pb:V2) (ln dt:Nb):Nat→Bd:=
 if cjS N k a b pa pb ln = 0∧0 < whV dt.1 then
  (if k = 1 then grbT B a.toNat pa pb (nDiv (nRat 1 5) dt) else if k = 2 then rodT B a.toNat b.toNat pa pb ln (nDiv (nRat 1 5) dt) else pinT B a.toNat b.toNat pa pb (nDiv (nRat 1 5) dt)) else B
theorem cj_ok {N:Nat} {k a b:Int} {pa pb:V2} {ln:Nb} (h:cjS N k a b pa pb ln = 0):(k = 1∨k = 2∨k = 3)∧0≤a∧a < N∧(k≠1→0≤b∧b < N∧a≠b):=by
 unfold cjS at h
 split at h
 ·omega
 ·split at h
  ·omega
  ·omega
theorem whV_0:whV 0 = 0:=by decide
theorem cmpS_le {x:Int}:(cmpS x 0≤0) = (x≤0):=by
 unfold cmpS
 apply propext
 (repeat' split) <;> omega
def bndF:Nat→(Nat→List AV)→List AV→Option (List Prop×AV×(Nat→List AV))
 | N,get,[.agg [.v (.int .i64 k),.v (.int .i64 a),.v (.int .i64 b),.v (.int .i64 x),.v (.bool e),.v (.int .i64 y),.v (.bool f),.v (.int .i64 z),.v (.bool g),.v (.int .i64 u),.v (.bool h),.v (.int .i64 l),.v (.bool m)],.agg [.v (.int .i64 r),.v (.bool q)]] => some ([get = bsC (bsD get),inBs N (bsD get),N≤1000,inR x,inR y,inR z,inR u,inR l,inR r],.tup [],bsC (bndT N (bsD get) k a b ((x,e),(y,f)) ((z,g),(u,h)) (l,m) (r,q)))
 | _,_,_ => none
def mBnd:MCon:=mcT 27 151 155 bndF
theorem con136m:MConOK prog 136 mBnd:=MConOK.mcT (G:=[(51,kj51),(131,c131),(194,.wr mGrb),(195,.wr mRod),(196,.wr mPin),(132,k132),(155,k168)]) (H:=[(3,⟨[(9,.call)],[]⟩)]) (.cons konj51 (.cons con131 (.mcons con194m (.mcons con195m (.mcons con196m (.cons kon132 (.cons kon168 .nil))))))) func136 fun N get rest ob val get' hF hob hcl => by
 unfold bndF at hF
 split at hF
 ·rename_i k a b x e y f z g u h l m r q
  cases hF
  have h1:get = bsC (bsD get):=hob _ (by simp)
  have hB:inBs N (bsD get):=hob _ (by simp)
  have hN:N≤1000:=hob _ (by simp)
  have k1:inR x:=hob _ (by simp)
  have k2:inR y:=hob _ (by simp)
  have k3:inR z:=hob _ (by simp)
  have k4:inR u:=hob _ (by simp)
  have k5:inR l:=hob _ (by simp)
  have k6:inR r:=hob _ (by simp)
  clear hob
  generalize bsD get = B at *
  subst h1
  refine ⟨by simp [clean],rfl,fun i _ => rfl,by kernel_rfl,bodyM_go (rs:=[]) rfl rfl ?_⟩
  have hNi:inR (N:Int):=inRo (by omega)
  by_cases h1:k = 1
  ·subst h1
   simp only [go_sem,kj51,c131,k132,k168,mGrb,grbF,mRod,rodF,mPin,pinF,hN,hNi,hB,k1,k2,k3,k4,k5,k6,cmpS_le,whV_0]
   simp only [forall_eq]
   refine ⟨fun w => ?_,fun w => ?_⟩
   ·have e1:bndT N B 1 a b ((x,e),(y,f)) ((z,g),(u,h)) (l,m) (r,q) = B:=if_neg fun c => by
     rcases w with w | w
     ·rw [c.1] at w; simp at w
     ·have w:=cmpS_le.mp w
      have c2:0 < whV r:=c.2
      omega
    rw [e1]
   ·have hc:cjS N 1 a b ((x,e),(y,f)) ((z,g),(u,h)) (l,m) = 0:=by simpa using w.1
    have hp:0 < whV r:=by
     have w2:=w.2
     rw [cmpS_le] at w2
     omega
    have e1:bndT N B 1 a b ((x,e),(y,f)) ((z,g),(u,h)) (l,m) (r,q) = _:=if_pos ⟨hc,hp⟩
    rw [if_pos rfl] at e1
    obtain ⟨_,j1,j2,j3⟩:=cj_ok hc
    rw [e1]
    exact ⟨inRo (by omega),j1,j2,rfl⟩
  by_cases h2:k = 2
  ·subst h2
   simp only [go_sem,kj51,c131,k132,k168,mGrb,grbF,mRod,rodF,mPin,pinF,hN,hNi,hB,k1,k2,k3,k4,k5,k6,cmpS_le,whV_0]
   simp only [forall_eq]
   refine ⟨fun w => ?_,fun w => ?_⟩
   ·have e1:bndT N B 2 a b ((x,e),(y,f)) ((z,g),(u,h)) (l,m) (r,q) = B:=if_neg fun c => by
     rcases w with w | w
     ·rw [c.1] at w; simp at w
     ·have w:=cmpS_le.mp w
      have c2:0 < whV r:=c.2
      omega
    rw [e1]
   ·have hc:cjS N 2 a b ((x,e),(y,f)) ((z,g),(u,h)) (l,m) = 0:=by simpa using w.1
    have hp:0 < whV r:=by
     have w2:=w.2
     rw [cmpS_le] at w2
     omega
    have e1:bndT N B 2 a b ((x,e),(y,f)) ((z,g),(u,h)) (l,m) (r,q) = _:=if_pos ⟨hc,hp⟩
    rw [if_neg (by omega),if_pos rfl] at e1
    obtain ⟨_,j1,j2,j3⟩:=cj_ok hc
    obtain ⟨j4,j5,j6⟩:=j3 (by omega)
    rw [e1]
    exact ⟨inRo (by omega),j1,j2,j4,j5,j6,rfl⟩
  by_cases h3:k = 3
  ·subst h3
   simp only [go_sem,kj51,c131,k132,k168,mGrb,grbF,mRod,rodF,mPin,pinF,hN,hNi,hB,k1,k2,k3,k4,k5,k6,cmpS_le,whV_0]
   simp only [forall_eq]
   refine ⟨fun w => ?_,fun w => ?_⟩
   ·have e1:bndT N B 3 a b ((x,e),(y,f)) ((z,g),(u,h)) (l,m) (r,q) = B:=if_neg fun c => by
     rcases w with w | w
     ·rw [c.1] at w; simp at w
     ·have w:=cmpS_le.mp w
      have c2:0 < whV r:=c.2
      omega
    rw [e1]
   ·have hc:cjS N 3 a b ((x,e),(y,f)) ((z,g),(u,h)) (l,m) = 0:=by simpa using w.1
    have hp:0 < whV r:=by
     have w2:=w.2
     rw [cmpS_le] at w2
     omega
    have e1:bndT N B 3 a b ((x,e),(y,f)) ((z,g),(u,h)) (l,m) (r,q) = _:=if_pos ⟨hc,hp⟩
    rw [if_neg (by omega),if_neg (by omega)] at e1
    obtain ⟨_,j1,j2,j3⟩:=cj_ok hc
    obtain ⟨j4,j5,j6⟩:=j3 (by omega)
    rw [e1]
    exact ⟨inRo (by omega),j1,j2,j4,j5,j6,rfl⟩
  have hc:cjS N k a b ((x,e),(y,f)) ((z,g),(u,h)) (l,m)≠0:=fun c => by
   have:=(cj_ok c).1
   omega
  have e1:bndT N B k a b ((x,e),(y,f)) ((z,g),(u,h)) (l,m) (r,q) = B:=if_neg fun c => hc c.1
  simp only [go_sem,kj51,c131,k132,k168,mGrb,grbF,mRod,rodF,mPin,pinF,hN,hNi,hB,k1,k2,k3,k4,k5,k6,cmpS_le,whV_0]
  rw [e1]
  intro w hw z2 hz2
  exact ⟨fun _ => rfl,fun w2 => absurd (hw ▸ w2.1) (by simpa using hc)⟩
 ·cases hF
section
variable {m i C U C' U' v1 v2 w p1 p2 u1 u2 w' q1 q2:Int} {a b:Bd}
theorem Bal.mv (hw:Wts m i) (ha:Bal m i C U a v1 v2 w p1 p2):mvS a = true:=by
 have:=hw.m0
 unfold mvS
 rw [ha.em]
 dsimp only
 rw [show (m == 0) = false from beq_eq_false_iff_ne.2 (by omega)]
 rfl
theorem Bal.idle (hw:Wts m i) (ha:Bal m i C U a v1 v2 w p1 p2):idS a = false:=by
 unfold idS
 rw [ha.mv hw,ha.sl,ha.fa]
 rfl
theorem shf_pl {p:V2} (h:idS a = false):(shfS a p).pl = if withS p.1 4096 && withS p.2 4096 then p else a.pl:=by
 unfold shfS
 rw [h]
 split <;> rename_i hc <;> rw [Bool.not_false,Bool.true_and] at hc
 ·rw [if_pos hc]
 ·rw [if_neg hc]
theorem par_bal (hw:Wts m i) (ha:Bal m i C U a v1 v2 w p1 p2) (hb:Bal m i C' U' b u1 u2 w' q1 q2) {c:Ct} (hn:c.n≠0) (hu:uv c.nv) (hD:∀ j,j < c.n→(c.D j).2 = false∧0≤(c.D j).1∧(c.D j).1≤70368744177664) :
  vAdd (parA a b c).pl (parB a b c).pl = ((p1 + q1,false),(p2 + q2,false)):=by
 obtain ⟨⟨f1,g1⟩,f2,g2⟩:=uv_gd hu
 have m0:=hw.m0
 have m1:=hw.m1
 have hp1:=ha.q1
 have hp2:=ha.q2
 have hq1:=hb.q1
 have hq2:=hb.q2
 have e5:nRat 1 5 = (858993459,false):=by decide
 have e64:nRat 1 64 = (67108864,false):=by decide
 have hd:(dpS c).2 = false∧0≤(dpS c).1∧(dpS c).1≤70368744177664:=by
  have h0:=hD 0 (by omega)
  unfold dpS
  split
  ·rename_i h1
   have h1:=hD 1 h1
   unfold nMx
   dsimp only
   rw [whV_of (v:=(c.D 0).1) (by unfold rg; omega),whV_of (v:=(c.D 1).1) (by unfold rg; omega),whF_of (v:=(c.D 0).1) (by unfold rg; omega),whF_of (v:=(c.D 1).1) (by unfold rg; omega),h0.1,h1.1]
   refine ⟨rfl,?_⟩
   split <;> omega
  ·exact h0
 -- the way along the normal
 have hK:0≤(nMul (parK a b c) (m,false)).1∧(nMul (parK a b c) (m,false)).1≤8796093022208:=by
  unfold parK
  rw [ha.em,hb.em,addN_eq (by omega) (by omega),e5,e64]
  obtain ⟨d1,d2,d3⟩:=hd
  have ed:dpS c = ((dpS c).1,false):=Prod.ext rfl d1
  rw [ed,subN_eq (by omega) (by omega)]
  generalize (dpS c).1 = D at *
  have eP:nPos (D - 67108864,false) = (max 0 (D - 67108864),false):=by
   unfold nPos
   dsimp only
   rw [whV_of (v:=D - 67108864) (by unfold rg; omega),whF_of (v:=D - 67108864) (by unfold rg; omega)]
   refine Prod.ext ?_ rfl
   dsimp only
   split <;> omega
  rw [eP]
  have o0:0≤max 0 (D - 67108864)∧max 0 (D - 67108864)≤70368744177664:=by omega
  generalize max 0 (D - 67108864) = O at *
  obtain ⟨r,ra,rb⟩:=@mulN_eq O 858993459 17592186044416 (by omega) (by omega) (by omega) (by omega)
  rw [r]
  have z0:0≤(O * 858993459).tdiv 4294967296:=Int.tdiv_nonneg (by omega) (by decide)
  generalize (O * 858993459).tdiv 4294967296 = z at *
  have ek:(nDiv (z,false) (m + m,false)).1 = ftV ((z * 4294967296).tdiv (m + m)):=by
   unfold nDiv
   dsimp only
   rw [whV_of (v:=z) (by unfold rg; omega),whV_of (v:=m + m) (by unfold rg; omega)]
   unfold raV
   rw [if_neg (by omega)]
  generalize nDiv (z,false) (m + m,false) = k at *
  have k0:0≤k.1∧k.1≤9223372036854775807∧k.1 * (m + m)≤z * 4294967296:=by
   have h1:=Int.tdiv_nonneg (show 0≤z * 4294967296 by omega) (show 0≤m + m by omega)
   have h2:=tdv_ab (v:=z * 4294967296) (k:=m + m) (by omega)
   have e1:ab (z * 4294967296) = z * 4294967296:=by unfold ab; rw [if_neg (by omega)]
   have e2:ab ((z * 4294967296).tdiv (m + m)) = (z * 4294967296).tdiv (m + m):=by unfold ab; rw [if_neg (by omega)]
   rw [e1,e2] at h2
   rw [ek]
   generalize (z * 4294967296).tdiv (m + m) = t at *
   have h3:ftV t≤t∧0≤ftV t∧ftV t≤9223372036854775807:=by unfold ftV; (repeat' split) <;> omega
   have h4:=Int.mul_le_mul_of_nonneg_right h3.1 (show 0≤m + m by omega)
   omega
  have em:(nMul k (m,false)).1 = ftV ((k.1 * m).tdiv 4294967296):=by
   unfold nMul
   dsimp only
   rw [whV_of (v:=k.1) (by unfold rg; omega),whV_of (v:=m) (by unfold rg; omega)]
  rw [em]
  have hkm:=Int.mul_nonneg k0.1 (show 0≤m by omega)
  have h5:k.1 * m≤8796093022208 * 4294967296:=by
   have:=k0.2.2
   rw [Int.mul_add] at this
   omega
  have h6:=Int.tdiv_nonneg hkm (show (0:Int)≤4294967296 by decide)
  have h7:=tdv_ab (v:=k.1 * m) (k:=4294967296) (by omega)
  have e1:ab (k.1 * m) = k.1 * m:=by unfold ab; rw [if_neg (by omega)]
  have e2:ab ((k.1 * m).tdiv 4294967296) = (k.1 * m).tdiv 4294967296:=by unfold ab; rw [if_neg (by omega)]
  rw [e1,e2] at h7
  rw [ftV_of (by unfold rg; omega)]
  omega
 obtain ⟨s,hs⟩:∃ s,s = nMul (parK a b c) (m,false):=⟨_,rfl⟩
 rw [← hs] at hK
 have hE:∀ z:Nb,z.2 = false→(-4294967296≤z.1∧z.1≤4294967296)→-8796093022208≤(nMul z s).1∧(nMul z s).1≤8796093022208:=fun z hz hz2 => by
  have e:(nMul z s).1 = ftV ((z.1 * s.1).tdiv 4294967296):=by
   unfold nMul
   dsimp only
   rw [whV_of (v:=z.1) (by unfold rg; omega),whV_of (v:=s.1) (by unfold rg; omega)]
  have b1:=mul_bd (A:=4294967296) (B:=8796093022208) (x:=z.1) (y:=s.1) (by omega) hz2 (by omega)
  have t:=tdiv_bd (v:=z.1 * s.1) (C:=8796093022208) (k:=4294967296) (by omega) (by omega)
  rw [e,ftV_of (by unfold rg; omega)]
  exact t
 have b1:=hE c.nv.1 f1 g1
 have b2:=hE c.nv.2 f2 g2
 unfold parA parB
 rw [ha.em,hb.em,← hs,shf_pl (ha.idle hw),shf_pl (hb.idle hw),ha.ep,hb.ep]
 unfold vScale
 generalize nMul c.nv.1 s = e at *
 generalize nMul c.nv.2 s = g at *
 unfold vSub vAdd
 dsimp only
 obtain ⟨e1,e2⟩:=e
 obtain ⟨g1',g2'⟩:=g
 dsimp only at b1 b2
 have aE:∀ (p e:Int) (f:Bool),(-51539607552≤p∧p≤51539607552)→(-8796093022208≤e∧e≤8796093022208)→nSub (p,false) (e,f) = (p - e,f)∧nAdd (p,false) (e,f) = (p + e,f):=fun p e f hp he => by
  unfold nSub nAdd
  dsimp only
  rw [whV_of (v:=p) (by unfold rg; omega),whV_of (v:=e) (by unfold rg; omega),whF_of (v:=p) (by unfold rg; omega),whF_of (v:=e) (by unfold rg; omega),ftV_of (x:=p - e) (by unfold rg; omega),ftF_of (x:=p - e) (by unfold rg; omega),ftV_of (x:=p + e) (by unfold rg; omega),ftF_of (x:=p + e) (by unfold rg; omega)]
  exact ⟨rfl,rfl⟩
 rw [(aE p1 e1 e2 hp1 b1).1,(aE p2 g1' g2' hp2 b2).1,(aE q1 e1 e2 hq1 b1).2,(aE q2 g1' g2' hq2 b2).2]
 have wS:∀ (x:Int) (f:Bool),(-17592186044416≤x∧x≤17592186044416)→withS (x,f) 4096 = !f:=fun x f hx => by
  unfold withS
  dsimp only
  rw [whF_of (v:=x) (by unfold rg; omega),decide_eq_true (by omega),Bool.and_true]
 rw [wS _ _ (by omega),wS _ _ (by omega),wS _ _ (by omega),wS _ _ (by omega)]
 by_cases hf:(!e2 && !g2') = true
 ·rw [if_pos hf,if_pos hf]
  rw [Bool.and_eq_true,Bool.not_eq_true',Bool.not_eq_true'] at hf
  obtain ⟨rfl,rfl⟩:=hf
  rw [addN_eq (by omega) (by omega),addN_eq (by omega) (by omega)]
  rw [show p1 - e1 + (q1 + e1) = p1 + q1 by omega,show p2 - g1' + (q2 + g1') = p2 + q2 by omega]
 ·rw [if_neg hf,if_neg hf]
  dsimp only
  rw [addN_eq (by omega) (by omega),addN_eq (by omega) (by omega)]
theorem lim_slow {v u:Int} {e g:Nb} (hv:-1099511627776≤v∧v≤1099511627776) (hu:-1099511627776≤u∧u≤1099511627776) (he:rg e.1) (hg:g.1 = -e.1)
  (s1:ab (limS (nAdd (v,false) e) 256).1 < 1099511627776) (s2:ab (limS (nAdd (u,false) g) 256).1 < 1099511627776):(limS (nAdd (v,false) e) 256).1 + (limS (nAdd (u,false) g) 256).1 = v + u:=by
 have L:∀ (v:Int) (e:Nb),(-1099511627776≤v∧v≤1099511627776)→rg e.1→ab (limS (nAdd (v,false) e) 256).1 < 1099511627776→(limS (nAdd (v,false) e) 256).1 = v + e.1:=fun v e hv he hs => by
  have ea:(nAdd (v,false) e).1 = ftV (v + e.1):=by
   show ftV (whV v + whV e.1) = _
   rw [whV_of (v:=v) (by unfold rg; omega),whV_of he]
  have r:rg (nAdd (v,false) e).1:=ftV_rg _
  have el:(limS (nAdd (v,false) e) 256).1 = max (-256 * 4294967296) (min (nAdd (v,false) e).1 (256 * 4294967296)):=by
   unfold limS nCl
   rw [int_in (k:=-256) (by omega),int_in (k:=256) (by omega)]
   dsimp only
   rw [whV_of r,whV_of (v:=-256 * 4294967296) (by unfold rg; omega),whV_of (v:=256 * 4294967296) (by unfold rg; omega)]
  rw [el] at hs ⊢
  rw [ea] at hs ⊢
  unfold ab at hs
  unfold ftV at hs ⊢
  unfold rg at he
  (repeat' split at hs) <;> (repeat' split) <;> omega
 have hg2:rg g.1:=by rw [hg]; unfold rg at he ⊢; omega
 have e1:=L v e hv he s1
 have e2:=L u g hu hg2 s2
 rw [e1,e2,hg]
 omega
theorem mul_opp {x y:Nb} {t:Nb} (h:whV y.1 = -whV x.1):(nMul y t).1 = -(nMul x t).1:=by
 show ftV ((whV y.1 * whV t.1).tdiv 4294967296) = -ftV ((whV x.1 * whV t.1).tdiv 4294967296)
 rw [h,Int.neg_mul,Int.neg_tdiv,ftV_neg]
theorem mul_opp' {x:Nb} {d e:Nb} (h:whV e.1 = -whV d.1):(nMul x e).1 = -(nMul x d).1:=by
 show ftV ((whV x.1 * whV e.1).tdiv 4294967296) = -ftV ((whV x.1 * whV d.1).tdiv 4294967296)
 rw [h,Int.mul_neg,Int.neg_tdiv,ftV_neg]
theorem mul_rgN {x t:Nb}:rg (nMul x t).1:=ftV_rg _
theorem whV_neg {x:Int} (h:rg (whV x)):whV (-whV x) = -whV x:=whV_of (by unfold rg at h ⊢; omega)
theorem psh_v (hw:Wts m i) (ha:Bal m i C U a v1 v2 w p1 p2) {x J:V2}:(pshS a x J).v = (limS (nAdd (v1,false) (nMul J.1 (m,false))) 256,limS (nAdd (v2,false) (nMul J.2 (m,false))) 256):=by
 unfold pshS
 rw [ha.mv hw,ha.fa,if_neg (by decide)]
 dsimp only
 rw [ha.sl,if_neg (by decide),ha.ev,ha.em]
 rfl
def slowV (v:V2):Prop:=ab v.1.1 < 1099511627776∧ab v.2.1 < 1099511627776
theorem opp_bal (hw:Wts m i) (hC:C≤1099511627776) (hC':C'≤1099511627776) (ha:Bal m i C U a v1 v2 w p1 p2) (hb:Bal m i C' U' b u1 u2 w' q1 q2) {x y J K:V2} (h1:whV K.1.1 = -whV J.1.1) (h2:whV K.2.1 = -whV J.2.1)
  (s1:slowV (pshS a x J).v) (s2:slowV (pshS b y K).v):(pshS a x J).v.1.1 + (pshS b y K).v.1.1 = v1 + u1∧(pshS a x J).v.2.1 + (pshS b y K).v.2.1 = v2 + u2∧(pshS a x J).v.1.2 = false∧(pshS a x J).v.2.2 = false∧(pshS b y K).v.1.2 = false∧(pshS b y K).v.2.2 = false:=by
 have c1:=ab_iff.1 ha.c1
 have c2:=ab_iff.1 ha.c2
 have c3:=ab_iff.1 hb.c1
 have c4:=ab_iff.1 hb.c2
 rw [psh_v hw ha] at s1 ⊢
 rw [psh_v hw hb] at s2 ⊢
 exact ⟨lim_slow (by omega) (by omega) mul_rgN (mul_opp h1) s1.1 s2.1,lim_slow (by omega) (by omega) mul_rgN (mul_opp h2) s1.2 s2.2,rfl,rfl,rfl,rfl⟩
end
theorem spV_inR {a:Nb}:inR (spV a):=by
 have:rg (whV (nMul a (nInt 256)).1):=whV_rg (rg_inR nMul_rg)
 unfold spV
 unfold rg at this
 unfold inR
 omega
theorem pl_spots {N:Nat} {k w t:Int} {X Y:Nat→Int} {at' rot:V2}:(spots N fun i => [i64 (plX k w t X Y at' rot i),i64 (plY k w t X Y at' rot i)]) = True:=eq_true fun i _ => ⟨rfl,spV_inR,spV_inR⟩
theorem plN_le {k r w t:Int} {n:Nat} {X Y:Nat→Int} {at' rot:V2}:plN k r w t n X Y at' rot≤8:=by
 unfold plN
 split
 ·split
  ·omega
  ·unfold corN
   split
   ·rename_i h
    have:=chk_cases h
    split <;> omega
   ·omega
 ·omega
theorem plN_max {k r w t:Int} {n:Nat} {X Y:Nat→Int} {at' rot:V2}:(plN k r w t n X Y at' rot≤9223372036854775806) = True:=eq_true (Nat.le_trans plN_le (by omega))
theorem plC_in {k r w t:Int} {n:Nat} {X Y:Nat→Int} {at' rot:V2} {a:Nb}:inR (plC k r w t n X Y at' rot a) = True:=eq_true (by
 unfold plC
 split
 ·exact spV_inR
 ·unfold inR; omega)
def kb62:Con:=cB fun b rest => match rest with
 | [] => some ([inB b,b.n≤1000],plA b.k b.r b.wd b.ht b.n b.X b.Y b.pl b.rot)
 | _ => none
theorem konb62:ConOK prog 62 kb62:=ConOK.cB (G:=[(146,c145)]) (H:=[]) (.cons con146 .nil) func62 fun b rest ob r hc hob => by
 split at hc
 ·skip
  cases hc
  have h_0:=ob0 hob
  have h_1:=ob1 hob
  obtain ⟨b1,b2,b3,b4,b5,b6,b7,b8,b9,b10,b11,b12,b13,b14,b15,b16⟩:=h_0
  have hb:inB b:=hob _ (by simp)
  refine ⟨by kernel_rfl,fnVC_go (rs:=[.cell 2 103,.tmp 3]) rfl rfl ?_⟩
  simp only [bodyC,go_sem,c145,cB_eq,cBR_eq,bodyD_lit,gx_pts0,gx_pts1,spots_can,etaN,etaV,bd_eta,b1,b2,b3,b4,b6,b7,b8,b9,b10,b11,b12,b13,b14,b15,b16,hb,h_1,plA]
  simp only [forall_eq]
  exact ⟨b5,by omega,trivial⟩
 ·cases hc
def fE (b:Bd):Int:=plErr b.k b.r b.wd b.ht b.n b.X b.Y b.pl b.rot
def fK (b:Bd):Int:=plK b.k b.r b.wd b.ht b.n b.X b.Y b.pl b.rot
def fCx (b:Bd):Int:=plC b.k b.r b.wd b.ht b.n b.X b.Y b.pl b.rot b.pl.1
def fCy (b:Bd):Int:=plC b.k b.r b.wd b.ht b.n b.X b.Y b.pl b.rot b.pl.2
def fR (b:Bd):Int:=plR b.k b.r b.wd b.ht b.n b.X b.Y b.pl b.rot
def fN (b:Bd):Nat:=plN b.k b.r b.wd b.ht b.n b.X b.Y b.pl b.rot
def fX (b:Bd):Nat→Int:=plX b.k b.wd b.ht b.X b.Y b.pl b.rot
def fY (b:Bd):Nat→Int:=plY b.k b.wd b.ht b.X b.Y b.pl b.rot
def touS (b c:Bd):Mf:=clipS (fK b) (fCx b) (fCy b) (fR b) (fN b) (fX b) (fY b) (fK c) (fCx c) (fCy c) (fR c) (fN c) (fX c) (fY c)
def touB (b c:Bd):Bool:=clipB (fK b) (fCx b) (fCy b) (fR b) (fN b) (fX b) (fY b) (fK c) (fCx c) (fCy c) (fR c) (fN c) (fX c) (fY c)
theorem clip_0 {k x y r:Int} {n:Nat} {X Y:Nat→Int} {k' x' y' r':Int} {m:Nat} {Z T:Nat→Int} (h:¬ (checkS k x y r n X Y = 0∧checkS k' x' y' r' m Z T = 0∧apS k x y r n X Y k' x' y' r' m Z T = false)):clipS k x y r n X Y k' x' y' r' m Z T = mf0∧clipB k x y r n X Y k' x' y' r' m Z T = false:=⟨if_neg h,decide_eq_false h⟩
theorem tou_0 {b c:Bd} (h:fE b≠0∨fE c≠0):touS b c = mf0∧touB b c = false:=by
 refine clip_0 fun hq => ?_
 have q:∀ d:Bd,fE d≠0→fK d = 0:=fun d hd => if_neg hd
 rcases h with h | h
 ·have:=(check_1 hq.1).1
  rw [q b h] at this
  omega
 ·have:=(check_1 hq.2.1).1
  rw [q c h] at this
  omega
def kTou:Con
 | [.agg l,.agg l'] => some ([l = bodyC (bodyD l),l' = bodyC (bodyD l'),inB (bodyD l),inB (bodyD l'),(bodyD l).n≤1000,(bodyD l').n≤1000],.tup [mfA (touS (bodyD l) (bodyD l')),bo (touB (bodyD l) (bodyD l'))])
 | _ => none
theorem vc99 (b c:Bd) (hb:inB b) (hc:inB c) (hn:b.n≤1000) (hm:c.n≤1000) :
  fnVC prog [(62,kb62),(170,c170)] [] Tryz.f99 [.agg (bodyC b),.agg (bodyC c)] (alk (.tup [mfA (touS b c),bo (touB b c)])):=by
 refine fnVC_go (rs:=[.cell 4 29,.tmp 5]) rfl rfl ?_
 simp only [go_sem,kb62,c170,cB_eq,hb,hc,hn,hm,plA,pl_spots,plN_max,plC_in]
 simp only [forall_eq,gx_pts0,gx_pts1]
 have hr:∀ d:Bd,inB d→inR (plR d.k d.r d.wd d.ht d.n d.X d.Y d.pl d.rot):=fun d hd => by
  unfold plR
  split
  ·exact hd.2.1
  ·unfold inR; decide
 refine ⟨fun h => ?_,fun h => ⟨hr b hb,hr c hc,fun _ _ _ h => h⟩⟩
 obtain ⟨k1,k2⟩:=tou_0 (b:=b) (c:=c) (h.imp (fun q => bne_iff_ne.1 q) (fun q => bne_iff_ne.1 q))
 rw [k1,k2]
 exact alk_form alk_nil6
theorem con99:ConOK prog 99 kTou:=ConOK.goR (G:=[(62,kb62),(170,c170)]) (H:=[]) (.cons konb62 (.cons con170 .nil)) func99 fun l ob rr hc hob => by
 unfold kTou at hc
 split at hc
 ·rename_i l l'
  cases hc
  have e1:l = bodyC (bodyD l):=hob _ (by simp)
  have e2:l' = bodyC (bodyD l'):=hob _ (by simp)
  refine ⟨[.agg (bodyC (bodyD l)),.agg (bodyC (bodyD l'))],fun w I vs h => by rw [← e1,← e2]; exact h,by kernel_rfl,vc99 (bodyD l) (bodyD l') (hob _ (by simp)) (hob _ (by simp)) (hob _ (by simp)) (hob _ (by simp))⟩
 ·cases hc
def cntS (b c:Bd) (i j:Int):Ct:=⟨i,j,(touS b c).nv,(touS b c).n,(touS b c).P,(touS b c).D,(0,false),(0,false),(0,false),(0,false)⟩
def kCnt:Con:=cL fun N B rest => match rest with
 | [.v (.int .i64 a),.v (.int .i64 b)] => some ([0≤a,a < N,0≤b,b < N,inBs N B],.tup [.agg (contC (cntS (B a.toNat) (B b.toNat) a b)),bo (touB (B a.toNat) (B b.toNat))])
 | _ => none
theorem con25:ConOK prog 25 kCnt:=ConOK.cL (G:=[(99,kTou)]) (H:=[(1,⟨[(13,.made 12)],[]⟩)]) (.cons con99 .nil) func25 fun N B rest ob rr hc hob => by
 split at hc
 ·rename_i a b
  cases hc
  have h1:0≤a:=hob _ (by simp)
  have h2:a < N:=hob _ (by simp)
  have h3:0≤b:=hob _ (by simp)
  have h4:b < N:=hob _ (by simp)
  have hB:inBs N B:=hob _ (by simp)
  have k1:=hB a.toNat (by omega)
  have k2:=hB b.toNat (by omega)
  clear hob
  refine ⟨by kernel_rfl,fnVC_go (rs:=[.cell 6 32,.tmp 7]) rfl rfl ?_⟩
  simp only [go_sem,kTou,mfA,manC,bsC_at,h1,h2,h3,h4,k1,k2]
  intro z hz
  subst hz
  rfl
 ·cases hc
theorem cnt_in {b c:Bd} {i j:Int} (hi:inR i) (hj:inR j):inC (cntS b c i j)∧(cntS b c i j).n≤2:=by
 have h:inM (touS b c):=clipS_in
 have hz:inR 0:=by unfold inR; decide
 exact ⟨⟨hi,hj,h.1.1,h.1.2,fun q _ => ⟨(h.2.2 q).1.1,(h.2.2 q).1.2,(h.2.2 q).2⟩,hz,hz,hz,hz⟩,h.2.1⟩
def kHit:Con:=cL fun N B rest => match rest with
 | [.agg l] => some ([N≤1000,inBs N B,l = contC (contD l),inC (contD l),(contD l).n≤1000],.tup [.ro N 27 (bsC (hitT N B (contD l))),.agg (contC (hitC N B (contD l)))])
 | _ => none
theorem con22:ConOK prog 22 kHit:=ConOK.cL (G:=[(73,.wr mNlay),(88,kCon),(89,.wr mHit),(75,.wr mNtel)]) (H:=[(1,⟨[(6,.made 4)],[]⟩),(3,⟨[(4,.slot 5)],[]⟩)]) (.mcons con73m (.cons con88 (.mcons con89m (.mcons con75m .nil)))) func22 fun N B rest ob r hc hob => by
 split at hc
 ·rename_i l
  cases hc
  have hN:N≤1000:=hob _ (by simp)
  have hB:inBs N B:=hob _ (by simp)
  have h2:l = contC (contD l):=hob _ (by simp)
  have hi:inC (contD l):=hob _ (by simp)
  have hn:(contD l).n≤1000:=hob _ (by simp)
  clear hob
  generalize contD l = c at *
  subst h2
  refine ⟨by kernel_rfl,fnVC_go (rs:=[.tmp 4,.cell 5 32]) rfl rfl ?_⟩
  simp only [go_sem,kCon,mHit,hitF,hN,hB,hi,hn]
  exact ⟨by omega,rfl⟩
 ·cases hc
theorem inBs_upd {N:Nat} {B:Nat→Bd} {i j:Nat} {u v:Bd} (h:inBs N B) (hu:inB u) (hu2:u.n≤1000) (hv:inB v) (hv2:v.n≤1000):inBs N (updB (updB B i u) j v):=fun k hk => by
 unfold updB
 split
 ·exact ⟨hv,hv2⟩
 ·split
  ·exact ⟨hu,hu2⟩
  ·exact h k hk
theorem hitT_in {N:Nat} {B:Nat→Bd} {c:Ct} (h:inBs N B) (hc:inC c):inBs N (hitT N B c):=by
 unfold hitT
 split
 ·rename_i hap
  unfold apB at hap
  obtain ⟨i1,i2⟩:=h c.a.toNat (by omega)
  obtain ⟨i3,i4⟩:=h c.b.toNat (by omega)
  obtain ⟨h1,h2,h3⟩:=hitI_in i1 i3 hc (min 2 c.n)
  obtain ⟨k1,k2,k3⟩:=hitI_n (a:=B c.a.toNat) (b:=B c.b.toNat) (c:=c) (min 2 c.n)
  exact inBs_upd h h1 (by unfold hitS; rw [k1]; exact i2) h2 (by unfold hitS; rw [k2]; exact i4)
 ·exact h
def kBnd:Con:=cL fun N B rest => match rest with
 | [.agg [.v (.int .i64 k),.v (.int .i64 a),.v (.int .i64 b),.v (.int .i64 x),.v (.bool e),.v (.int .i64 y),.v (.bool f),.v (.int .i64 z),.v (.bool g),.v (.int .i64 u),.v (.bool h),.v (.int .i64 l),.v (.bool m)],.agg [.v (.int .i64 r),.v (.bool q)]] => some ([N≤1000,inBs N B,inR x,inR y,inR z,inR u,inR l,inR r],.ro N 27 (bsC (bndT N B k a b ((x,e),(y,f)) ((z,g),(u,h)) (l,m) (r,q))))
 | _ => none
theorem con49:ConOK prog 49 kBnd:=ConOK.cL (G:=[(73,.wr mNlay),(136,.wr mBnd),(75,.wr mNtel)]) (H:=[]) (.mcons con73m (.mcons con136m (.mcons con75m .nil))) func49 fun N B rest ob rr hc hob => by
 split at hc
 ·rename_i k a b x e y f z g u h l m r q
  cases hc
  have hN:N≤1000:=hob _ (by simp)
  have hB:inBs N B:=hob _ (by simp)
  have k1:inR x:=hob _ (by simp)
  have k2:inR y:=hob _ (by simp)
  have k3:inR z:=hob _ (by simp)
  have k4:inR u:=hob _ (by simp)
  have k5:inR l:=hob _ (by simp)
  have k6:inR r:=hob _ (by simp)
  clear hob
  have hNi:inR (N:Int):=inRo (by omega)
  refine ⟨by kernel_rfl,fnVC_go (rs:=[.tmp 6]) rfl rfl ?_⟩
  simp only [go_sem,mBnd,bndF,hN,hB,k1,k2,k3,k4,k5,k6]
  rfl
 ·cases hc
theorem inBs_upd1 {N:Nat} {B:Nat→Bd} {i:Nat} {u:Bd} (h:inBs N B) (hu:inB u) (hu2:u.n≤1000):inBs N (updB B i u):=fun k hk => by
 unfold updB
 split
 ·exact ⟨hu,hu2⟩
 ·exact h k hk
theorem bnd_in {N:Nat} {B:Nat→Bd} {k a b:Int} {pa pb:V2} {ln dt:Nb} (h:inBs N B):inBs N (bndT N B k a b pa pb ln dt):=by
 unfold bndT
 split
 ·rename_i hc
  obtain ⟨jk,a1,a2,jj⟩:=cj_ok hc.1
  obtain ⟨i1,i2⟩:=h a.toNat (by omega)
  split
  ·unfold grbT
   split
   ·exact inBs_upd1 h (inB_psh i1) (by rw [psh_n]; exact i2)
   ·exact h
  rename_i hk
  obtain ⟨b1,b2,b3⟩:=jj hk
  obtain ⟨i3,i4⟩:=h b.toNat (by omega)
  split
  ·unfold rodT apaA apaB
   split
   ·exact inBs_upd h (inB_psh i1) (by rw [psh_n]; exact i2) (inB_psh i3) (by rw [psh_n]; exact i4)
   ·exact h
  ·unfold pinT
   split
   ·exact inBs_upd h (inB_psh i1) (by rw [psh_n]; exact i2) (inB_psh i3) (by rw [psh_n]; exact i4)
   ·exact h
 ·exact h
def csC (C:Nat→Ct):Nat→List AV:=fun i => contC (C i)
def csD (g:Nat→List AV):Nat→Ct:=fun i => contD (g i)
theorem csD_C {C:Nat→Ct}:csD (csC C) = C:=rfl
theorem csC_at {C:Nat→Ct} {i:Nat}:csC C i = contC (C i):=(rfl)
attribute [go_sem] csD_C csC_at
def inCs (M:Nat) (C:Nat→Ct):Prop:=∀ i,i < M→inC (C i)∧(C i).n≤1000
structure Jt where
 k:Int
 a:Int
 b:Int
 x:Int
 e:Bool
 y:Int
 f:Bool
 z:Int
 g:Bool
 u:Int
 h:Bool
 l:Int
 m:Bool
def jtC (j:Jt):List AV:=[i64 j.k,i64 j.a,i64 j.b,i64 j.x,bo j.e,i64 j.y,bo j.f,i64 j.z,bo j.g,i64 j.u,bo j.h,i64 j.l,bo j.m]
def jtD (l:List AV):Jt:=⟨gi l 0,gi l 1,gi l 2,gi l 3,gib l 4,gi l 5,gib l 6,gi l 7,gib l 8,gi l 9,gib l 10,gi l 11,gib l 12⟩
def jsC (J:Nat→Jt):Nat→List AV:=fun i => jtC (J i)
def jsD (g:Nat→List AV):Nat→Jt:=fun i => jtD (g i)
theorem jsD_C {J:Nat→Jt}:jsD (jsC J) = J:=rfl
attribute [go_sem] jsD_C
def updC (C:Nat→Ct) (i:Nat) (c:Ct):Nat→Ct:=fun j => if j = i then c else C j
structure Sv where
 B:Nat→Bd
 C:Nat→Ct
theorem csC_upd {C:Nat→Ct} {i:Nat} {c:Ct}:(fun j => if j = i then contC c else csC C j) = csC (updC C i c):=funext fun j => by
 unfold csC updC
 split <;> rfl
theorem famN_updC {M:Nat} {C:Nat→Ct} {i:Nat} {c:Ct}:famN M 15 32 (fun j => if j = i then contC c else csC C j) none = famN M 15 32 (csC (updC C i c)) none:=by rw [csC_upd]
theorem famN_updC2 {M:Nat} {C:Nat→Ct} {i:Nat} {c:Ct}:famN M 15 32 (fun j => if j = i then contC c else contC (C j)) none = famN M 15 32 (csC (updC C i c)) none:=famN_updC
theorem famCl_cs {M:Nat} {C:Nat→Ct}:famCl (famN M 15 32 (csC C) none) = True:=famCl_Nt fun _ _ => rfl
attribute [go_sem] famN_updC famN_updC2 famCl_cs
end Go.Ax
end
section
set_option maxHeartbeats 4000000
set_option maxRecDepth 100000
namespace Go.Ax
open Go.Proofs Go.Proofs.Tryz
end Go.Ax
end
section
set_option maxHeartbeats 4000000
set_option maxRecDepth 100000
namespace Go.Ax
open Go.Proofs Go.Proofs.Tryz
def adB:AV→Option (Prop×AV)
 | .ro N 27 g => some (∀ i,i < N→g i = bsC (bsD g) i,.ro N 27 (bsC (bsD g)))
 | _ => none
def contN (c:Ct):List AV:=[i64 c.a,i64 c.b,i64 c.nv.1.1,bo c.nv.1.2,i64 c.nv.2.1,bo c.nv.2.2,.v (.slice none 0 0),
 i64 c.p0.1,bo c.p0.2,i64 c.p1.1,bo c.p1.2,i64 c.r0.1,bo c.r0.2,i64 c.r1.1,bo c.r1.2]
def rowC (g:Nat→List AV) (i:Nat):Prop:=g i = csC (csD g) i∨(g i = contN (csD g i)∧(csD g i).n = 0)
theorem adB_ok {a a':AV} {p:Prop} (h:adB a = some (p,a')) (hp:p) {w:World} {ρ:Env} {v:Value} (hR:R w ρ a v):R w ρ a' v:=by
 unfold adB at h
 split at h
 ·cases h; exact ro_alike hp hR
 ·cases h
def cLw (c:Con):Con
 | b :: rest => match adB b with
  | some (p,b') => (match c (b' :: rest) with
   | some (ob,r) => some (p :: ob,r)
   | none => none)
  | none => none
 | _ => none
theorem ConOK.cLw {P:Program} {f:FuncId} {c:Con} (h:ConOK P f c):ConOK P f (Ax.cLw c):=by
 intro es ob r hc hob
 unfold Ax.cLw at hc
 split at hc
 ·rename_i b rest
  split at hc
  ·rename_i p b' hb
   split at hc
   ·rename_i ob' r' hF
    cases hc
    intro I w vs hI hRs
    refine h _ _ _ hF (fun q hq => hob q (by simp [hq])) I w vs hI ?_
    obtain ⟨x,xs,rfl,h1,h2⟩:=hRs.inv
    exact .cons (adB_ok hb (hob p (by simp)) h1) h2
   ·cases hc
  ·cases hc
 ·cases hc
section
variable {c:Con} {N M L:Nat} {g g' g'':Nat→List AV} {rest:List AV}
theorem cLw_eq:cLw c (.ro N 27 g :: rest) = (match c (.ro N 27 (bsC (bsD g)) :: rest) with
   | some (ob,r) => some ((∀ i,i < N→g i = bsC (bsD g) i) :: ob,r)
   | none => none):=(rfl)
end
section
variable {b c d e:Bd} {l:List AV}
theorem lenA_body:(bodyC b ++ l).length = 27 + l.length:=by rw [List.length_append]; rfl
theorem take27_body:List.take 27 (bodyC b ++ l) = bodyC b:=(rfl)
theorem take54_body:List.take 54 (bodyC b ++ l) = bodyC b ++ List.take 27 l:=(rfl)
theorem take81_body:List.take 81 (bodyC b ++ l) = bodyC b ++ List.take 54 l:=(rfl)
theorem take108_body:List.take 108 (bodyC b ++ l) = bodyC b ++ List.take 81 l:=(rfl)
theorem drop27_body:List.drop 27 (bodyC b ++ l) = l:=(rfl)
theorem drop54_body:List.drop 54 (bodyC b ++ l) = List.drop 27 l:=(rfl)
theorem drop81_body:List.drop 81 (bodyC b ++ l) = List.drop 54 l:=(rfl)
theorem drop108_body:List.drop 108 (bodyC b ++ l) = List.drop 81 l:=(rfl)
end
attribute [go_sem] lenA_body take27_body take54_body take81_body take108_body drop27_body drop54_body drop81_body drop108_body
theorem purLA_body {b:Bd} {l:List AV} {d:Nat} {m:Mem}:purL d m (bodyC b ++ l) = bodyC b ++ purL d m l:=by
 rw [← purL_eq,← purL_eq,List.map_append,purL_eq,purLd_body]
theorem cleanLA_body {b:Bd} {l:List AV}:cleanL 2 (bodyC b ++ l) = cleanL 2 l:=by
 rw [← cleanL_eq,← cleanL_eq,List.all_append,cleanL_eq (l:=bodyC b),cleanL_body,Bool.true_and]
attribute [go_sem] cleanLA_body
def ros2 (b c:Bd):Nat→List AV:=rowsOf 27 (bodyC b ++ bodyC c)
theorem rows_seal2 {b c:Bd}:rowsOf 27 (bodyC b ++ bodyC c) = ros2 b c:=(rfl)
theorem rowG_r2 {b c:Bd} {d:Nat} {m:Mem}:rowG d m (ros2 b c) = ros2 b c:=by
 unfold ros2
 rw [rowG_rows,purLA_body,purLd_body]
theorem purL_r2 {b c:Bd} {d i:Nat} {m:Mem}:purL d m (ros2 b c i) = ros2 b c i:=by
 unfold ros2 rowsOf
 rw [purL_take,purL_drop,purLA_body,purLd_body]
theorem ros2_0 {b c:Bd}:ros2 b c 0 = bodyC b:=(rfl)
theorem ros2_1 {b c:Bd}:ros2 b c 1 = bodyC c:=(rfl)
theorem bsD_r20 {b c:Bd}:bsD (ros2 b c) 0 = b:=(rfl)
theorem bsD_r21 {b c:Bd}:bsD (ros2 b c) 1 = c:=(rfl)
theorem ros2_ok {b c:Bd}:(∀ i,i < 2→ros2 b c i = bodyC (bsD (ros2 b c) i)) = True:=eq_true fun i hi => by
 match i with
 | 0 => rfl
 | 1 => rfl
 | q + 2 => omega
theorem inBs_r2 {b c:Bd}:inBs 2 (bsD (ros2 b c)) = ((inB b∧b.n≤1000)∧(inB c∧c.n≤1000)):=propext ⟨fun h => ⟨h 0 (by omega),h 1 (by omega)⟩,fun h i hi => by
 match i with
 | 0 => exact h.1
 | 1 => exact h.2
 | q + 2 => omega⟩
attribute [go_sem] rows_seal2 rowG_r2 purL_r2 ros2_0 ros2_1 bsD_r20 bsD_r21 ros2_ok inBs_r2
theorem lenA_cont {c:Ct} {l:List AV}:(contC c ++ l).length = 15 + l.length:=by rw [List.length_append]; rfl
theorem take15A_cont {c:Ct} {l:List AV}:List.take 15 (contC c ++ l) = contC c:=(rfl)
theorem take30A_cont {c:Ct} {l:List AV}:List.take 30 (contC c ++ l) = contC c ++ List.take 15 l:=(rfl)
theorem drop15A_cont {c:Ct} {l:List AV}:List.drop 15 (contC c ++ l) = l:=(rfl)
theorem drop30A_cont {c:Ct} {l:List AV}:List.drop 30 (contC c ++ l) = List.drop 15 l:=(rfl)
theorem cleanLA_cont {c:Ct} {l:List AV}:cleanL 2 (contC c ++ l) = cleanL 2 l:=by
 rw [← cleanL_eq,← cleanL_eq,List.all_append,cleanL_eq (l:=contC c),cleanL_cont,Bool.true_and]
theorem purLd_cont {c:Ct} {d:Nat} {m:Mem}:purL d m (contC c) = contC c:=by cases d <;> rfl
theorem purLA_cont {c:Ct} {l:List AV} {d:Nat} {m:Mem}:purL d m (contC c ++ l) = contC c ++ purL d m l:=by
 rw [← purL_eq,← purL_eq,List.map_append,purL_eq,purLd_cont]
def cts2 (a b:Ct):Nat→List AV:=rowsOf 15 (contC a ++ contC b)
section
variable {a b:Ct} {d i:Nat} {m:Mem}
theorem rows_sealC2:rowsOf 15 (contC a ++ contC b) = cts2 a b:=(rfl)
theorem rowG_c2:rowG d m (cts2 a b) = cts2 a b:=by
 unfold cts2
 rw [rowG_rows,purLA_cont,purLd_cont]
theorem purL_c2:purL d m (cts2 a b i) = cts2 a b i:=by
 unfold cts2 rowsOf
 rw [purL_take,purL_drop,purLA_cont,purLd_cont]
theorem cts2_0:cts2 a b 0 = contC a:=(rfl)
theorem cts2_1:cts2 a b 1 = contC b:=(rfl)
theorem csD_c20:csD (cts2 a b) 0 = a:=(rfl)
theorem csD_c21:csD (cts2 a b) 1 = b:=(rfl)
theorem cts2_ok:(∀ i,i < 2→rowC (cts2 a b) i) = True:=eq_true fun i hi => .inl (by
 match i with
 | 0 => rfl
 | 1 => rfl
 | q + 2 => omega)
theorem inCs_c2:inCs 2 (csD (cts2 a b)) = ((inC a∧a.n≤1000)∧(inC b∧b.n≤1000)):=propext ⟨fun h => ⟨h 0 (by omega),h 1 (by omega)⟩,fun h i hi => by
 match i with
 | 0 => exact h.1
 | 1 => exact h.2
 | q + 2 => omega⟩
end
attribute [go_sem] lenA_cont take15A_cont take30A_cont drop15A_cont drop30A_cont cleanLA_cont rows_sealC2 rowG_c2 purL_c2 cts2_0 cts2_1 csD_c20 csD_c21 cts2_ok inCs_c2
theorem plainL_cont {c:Ct}:plainL 1 (contC c) = false:=(rfl)
attribute [go_sem] plainL_cont
def kHitW:Con:=cLw kHit
theorem con22w:ConOK prog 22 kHitW:=con22.cLw
def kCntW:Con:=cLw kCnt
theorem con25w:ConOK prog 25 kCntW:=con25.cLw
def kParW:Con:=cLw kPar
theorem con19w:ConOK prog 19 kParW:=con19.cLw
end Go.Ax
end
section
set_option maxHeartbeats 4000000
set_option maxRecDepth 100000
namespace Go.Ax
open Go.Proofs Go.Proofs.Tryz
end Go.Ax
end
section
set_option maxHeartbeats 4000000
set_option maxRecDepth 100000
namespace Go.Ax
open Go.Proofs Go.Proofs.Tryz
end Go.Ax
end
section
set_option maxHeartbeats 4000000
set_option maxRecDepth 100000
namespace Go.Ax
open Go.Proofs Go.Proofs.Tryz
structure Th where
 a:Int
 b:Int
 c:Int
 x:Int
 y:Int
 u:Int
 p:Int
 q:Int
 r:Int
 d:Int
 k:Int
def thC (t:Th):List AV:=[i64 t.a,i64 t.b,i64 t.c,i64 t.x,i64 t.y,i64 t.u,i64 t.p,i64 t.q,i64 t.r,i64 t.d,i64 t.k]
def inT (t:Th):Prop:=inR t.a∧inR t.b∧inR t.c∧inR t.x∧inR t.y∧inR t.u∧inR t.p∧inR t.q∧inR t.r∧inR t.d∧inR t.k
def mkT (t:Th) (s:Int):Bd:=mkB t.a t.b t.c t.x t.y t.u t.p t.q t.r t.d t.k s
def ctP (c:Ct) (a b:Nb):Ct:={ c with p0:=a,p1:=b }
def ctR (c:Ct) (a b:Nb):Ct:={ c with r0:=a,r1:=b }
theorem put7_cont {c:Ct} {a b:Int} {e f:Bool}:List.take 7 (contC c) ++ [i64 a,bo e,i64 b,bo f] ++ List.drop 11 (contC c) = contC (ctP c (a,e) (b,f)):=(rfl)
theorem put11_cont {c:Ct} {a b:Int} {e f:Bool}:List.take 11 (contC c) ++ [i64 a,bo e,i64 b,bo f] = contC (ctR c (a,e) (b,f)):=(rfl)
theorem take15_cont {c:Ct}:List.take 15 (contC c) = contC c:=(rfl)
theorem len15_cont {c:Ct}:(contC c).length = 15:=(rfl)
attribute [go_sem] put7_cont put11_cont take15_cont len15_cont
end Go.Ax
end