/-
  How forms touch: one or two places, near both forms, none with a depth below 0, in a direction of length 1.
-/
import Derived.Test.YtafigekkhpepkaaGreatCM9
import Derived.ShutString
import Derived.ChangeOld
import Derived.Below
set_option linter.unusedVariables false
set_option linter.unusedSimpArgs false
section
set_option maxHeartbeats 4000000
set_option maxRecDepth 100000
namespace Go.Ax
def tok (a b c d:Int) (M:Mf):Prop:=(1 ≤ M.n ∧ M.n ≤ 2) ∧ uv M.nv ∧ ∀ i,i < M.n → ((M.D i).2 = false ∧ 0 ≤ (M.D i).1 ∧ (M.D i).1 ≤ 1125899906842624) ∧ bx (a * 16777216) (b * 16777216) (c * 16777216) (d * 16777216) (M.P i)
theorem bt_le {a b c d:Int} {x:Nb} (h:bt a b x) (h1:c ≤ a) (h2:b ≤ d):bt c d x:=⟨h.1,by have:=h.2; omega⟩
theorem tok_le {a b c d a' b' c' d':Int} {M:Mf} (h:tok a b c d M) (h1:a' ≤ a) (h2:b' ≤ b) (h3:c ≤ c') (h4:d ≤ d'):tok a' b' c' d' M:=
 ⟨h.1,h.2.1,fun i hi => ⟨(h.2.2 i hi).1,bt_le (h.2.2 i hi).2.1 (by omega) (by omega),bt_le (h.2.2 i hi).2.2 (by omega) (by omega)⟩⟩
theorem tok_one {a b c d:Int} {nv p:V2} {e:Nb} (hn:uv nv) (he:e.2 = false ∧ 0 ≤ e.1 ∧ e.1 ≤ 1125899906842624) (hp:bx (a * 16777216) (b * 16777216) (c * 16777216) (d * 16777216) p):tok a b c d (mf1 nv p e):=
 ⟨⟨Nat.le_refl 1,by show 1 ≤ 2; omega⟩,hn,fun i hi => ⟨he,hp⟩⟩
theorem pos_in {a:Nb} {B:Int} (h:gd a B) (hB:0 ≤ B) (l:B ≤ 9223372036854775807):(nPos a).2 = false ∧ 0 ≤ (nPos a).1 ∧ (nPos a).1 ≤ B ∧ (nPos a).1 = max 0 a.1:=by
 obtain ⟨w1,w2⟩:=gd_wh h l
 have h2:=h.2
 unfold nPos
 rw [w1,w2]
 dsimp only
 refine ⟨rfl,?_,?_,?_⟩ <;> split <;> omega
theorem len_in {v:V2} {S:Int} (h1:gd v.1 S) (h2:gd v.2 S) (h0:0 ≤ S) (l:S ≤ 281474976710656):∃ q,vLen v = (q,false) ∧ 0 ≤ q ∧ v.1.1 ≤ q ∧ -v.1.1 ≤ q ∧ v.2.1 ≤ q ∧ -v.2.1 ≤ q ∧ q ≤ 2 * S:=by
 obtain ⟨k1,k2,k3,k4,k5,k6⟩:=hyp_ok h1 h2 h0 (by omega)
 exact ⟨(nHyp v.1 v.2).1,Prod.ext rfl k1,by omega,k2,k3,k4,k5,k6⟩
theorem wr_in {x:Int} (h:-9223372036854775808 ≤ x ∧ x ≤ 9223372036854775807):IntKind.i64.wrap x = x:=wrap_in (by unfold inR; omega)
theorem rat_in {s:Int} (h:-549755813887 ≤ s ∧ s ≤ 549755813887):nRat s 256 = (s * 16777216,false):=gd_rat (S:=549755813887) (by omega) (by omega)
theorem mul_dir {n k:Nb} {K:Int} (hn:gd n 4294967296) (hk:gd k K) (h0:0 ≤ K) (l:K ≤ 9223372036854775807):gd (nMul n k) K:=
 gd_mul hn hk (by omega) (by omega) l (by omega) l
theorem add_at {x n:Nb} {K:Int} (hx:gd x 1152921504606846976) (hn:gd n K) (h0:0 ≤ K) (l:K ≤ 1152921504606846976):bt (x.1 - K) (x.1 + K) (nAdd x n):=by
 obtain ⟨x1,x2,x3⟩:=hx
 obtain ⟨n1,n2,n3⟩:=hn
 unfold nAdd
 rw [whV_of (v:=x.1) (by unfold rg; omega),whV_of (v:=n.1) (by unfold rg; omega),whF_of (v:=x.1) (by unfold rg; omega),whF_of (v:=n.1) (by unfold rg; omega),ftV_of (by unfold rg; omega),ftF_of (by unfold rg; omega),x1,n1]
 exact ⟨rfl,by dsimp only; omega,by dsimp only; omega⟩
theorem sub_at {x n:Nb} {K:Int} (hx:gd x 1152921504606846976) (hn:gd n K) (h0:0 ≤ K) (l:K ≤ 1152921504606846976):bt (x.1 - K) (x.1 + K) (nSub x n):=by
 obtain ⟨x1,x2,x3⟩:=hx
 obtain ⟨n1,n2,n3⟩:=hn
 unfold nSub
 rw [whV_of (v:=x.1) (by unfold rg; omega),whV_of (v:=n.1) (by unfold rg; omega),whF_of (v:=x.1) (by unfold rg; omega),whF_of (v:=n.1) (by unfold rg; omega),ftV_of (by unfold rg; omega),ftF_of (by unfold rg; omega),x1,n1]
 exact ⟨rfl,by dsimp only; omega,by dsimp only; omega⟩
theorem oneV_uv:uv oneV:=by unfold uv oneV; decide
theorem two_tok {x y r a b s:Int} (hx:-12000 ≤ x ∧ x ≤ 12000) (hy:-12000 ≤ y ∧ y ≤ 12000) (ha:-12000 ≤ a ∧ a ≤ 12000) (hb:-12000 ≤ b ∧ b ≤ 12000) (hr:0 ≤ r ∧ r ≤ 12000) (hs:0 ≤ s ∧ s ≤ 12000) :
  tok (min (x - r) (a - s)) (min (y - r) (b - s)) (max (x + r) (a + s)) (max (y + r) (b + s)) (twoS x y r a b s):=by
 have ed:vLoc (mnW x a) (mnW y b) = (((a - x) * 16777216,false),((b - y) * 16777216,false)):=by rw [mn_in hx ha,mn_in hy hb,loc_in (by omega) (by omega)]
 obtain ⟨q,hq,q0,q1,q2,q3,q4,q5⟩:=@len_in (((a - x) * 16777216,false),((b - y) * 16777216,false)) 402653184000 ⟨rfl,by dsimp only; omega⟩ ⟨rfl,by dsimp only; omega⟩ (by omega) (by omega)
 dsimp only at q1 q2 q3 q4
 have hu:uv (twN (vLoc (mnW x a) (mnW y b))):=by
  rw [ed]
  unfold twN
  split
  ·exact uv_un (S:=402653184000) ⟨rfl,by dsimp only; omega⟩ ⟨rfl,by dsimp only; omega⟩ (by omega) (by omega) ‹_›
  ·exact oneV_uv
 have eD:twD (vLoc (mnW x a) (mnW y b)) r s = (max 0 ((r + s) * 16777216 - q),false):=by
  unfold twD
  rw [ed,hq,wr_in (by omega),rat_in (by omega)]
  have e1:nSub ((r + s) * 16777216,false) (q,false) = ((r + s) * 16777216 - q,false):=by
   unfold nSub
   dsimp only
   rw [whV_of (by unfold rg; omega),whV_of (by unfold rg; omega),whF_of (by unfold rg; omega),whF_of (by unfold rg; omega),ftV_of (by unfold rg; omega),ftF_of (by unfold rg; omega)]
   rfl
  rw [e1]
  obtain ⟨p1,_,_,p4⟩:=pos_in (a:=((r + s) * 16777216 - q,false)) (B:=2305843009213693951) ⟨rfl,by dsimp only; omega⟩ (by omega) (by omega)
  exact Prod.ext p4 p1
 obtain ⟨e,he⟩:∃ e,e = max 0 ((r + s) * 16777216 - q):=⟨_,rfl⟩
 rw [← he] at eD
 have he0:0 ≤ e ∧ e ≤ 402653184000:=by omega
 have eH:nDiv (e,false) (nInt 2) = (e / 2,false):=by
  rw [int_in (by omega)]
  unfold nDiv raV raF
  dsimp only
  have e2:(e * 4294967296).tdiv 8589934592 = e / 2:=by rw [Int.tdiv_eq_ediv_of_nonneg (by omega)]; omega
  rw [whV_of (v:=e) (by unfold rg; omega),whF_of (v:=e) (by unfold rg; omega),show whV (2 * 4294967296) = 8589934592 from rfl,show whF (2 * 4294967296) false = false from rfl,if_neg (by decide),if_neg (by decide),e2,ftV_of (by unfold rg; omega),ftF_of (by unfold rg; omega)]
  rfl
 have eK:nSub (nRat r 256) (nDiv (e,false) (nInt 2)) = (r * 16777216 - e / 2,false):=by
  rw [eH,rat_in (by omega)]
  unfold nSub
  dsimp only
  rw [whV_of (by unfold rg; omega),whV_of (by unfold rg; omega),whF_of (by unfold rg; omega),whF_of (by unfold rg; omega),ftV_of (by unfold rg; omega),ftF_of (by unfold rg; omega)]
  rfl
 unfold twoS
 refine tok_one hu (by rw [eD]; exact ⟨rfl,by dsimp only; omega,by dsimp only; omega⟩) ?_
 rw [eD]
 unfold twP
 rw [eK,loc_in (by omega) (by omega)]
 obtain ⟨u1,u2⟩:=uv_gd hu
 by_cases hc:e / 2 ≤ r * 16777216
 ·have k:gd (r * 16777216 - e / 2,false) (r * 16777216):=⟨rfl,by dsimp only; omega⟩
  have a1:=add_at (x:=(x * 16777216,false)) ⟨rfl,by dsimp only; omega⟩ (mul_dir u1 k (by omega) (by omega)) (by omega) (by omega)
  have a2:=add_at (x:=(y * 16777216,false)) ⟨rfl,by dsimp only; omega⟩ (mul_dir u2 k (by omega) (by omega)) (by omega) (by omega)
  dsimp only at a1 a2
  exact ⟨bt_le a1 (by omega) (by omega),bt_le a2 (by omega) (by omega)⟩
 ·have k:gd (r * 16777216 - e / 2,false) (e / 2 - r * 16777216):=⟨rfl,by dsimp only; omega⟩
  have a1:=add_at (x:=(x * 16777216,false)) ⟨rfl,by dsimp only; omega⟩ (mul_dir u1 k (by omega) (by omega)) (by omega) (by omega)
  have a2:=add_at (x:=(y * 16777216,false)) ⟨rfl,by dsimp only; omega⟩ (mul_dir u2 k (by omega) (by omega)) (by omega) (by omega)
  dsimp only at a1 a2
  exact ⟨bt_le a1 (by omega) (by omega),bt_le a2 (by omega) (by omega)⟩
theorem axF_at {o:Int} {G:Nat → Nb}:∀ i:Nat,0 ≤ (axF o G ax0 (i + 1)).2.1 ∧ (axF o G ax0 (i + 1)).2.1 ≤ i ∧ (axF o G ax0 (i + 1)).2.2 = G (axF o G ax0 (i + 1)).2.1.toNat
 | 0 => by
  rw [axF_hit (.inl (by show (-1:Int) < 0; decide))]
  exact ⟨by show (0:Int) ≤ ((0:Nat):Int); omega,by show ((0:Nat):Int) ≤ ((0:Nat):Int); omega,rfl⟩
 | i + 1 => by
  obtain ⟨h1,h2,h3⟩:=axF_at (o:=o) (G:=G) i
  by_cases c:(axF o G ax0 (i + 1)).2.1 < 0 ∨ 0 < cmpS (whV (G (i + 1)).1) (whV (axF o G ax0 (i + 1)).2.2.1)
  ·rw [axF_hit c]
   refine ⟨?_,?_,?_⟩
   ·show (0:Int) ≤ ((i + 1:Nat):Int); omega
   ·show ((i + 1:Nat):Int) ≤ ((i + 1:Nat):Int); omega
   ·show G (i + 1) = G ((i + 1:Nat):Int).toNat; rw [Int.toNat_natCast]
  ·rw [axF_not c]
   exact ⟨h1,by omega,h3⟩
theorem hgt_gd {n:Nat} {X Y:Nat → Int} {x y:Int} (hc:convexS n X Y = true) (hs:sml n X Y) (hw:wid n X Y) (hx:-12000 ≤ x ∧ x ≤ 12000) (hy:-12000 ≤ y ∧ y ≤ 12000) {i:Nat} (hi:i < n):gd (hgt (X i) (Y i) (X (nxt n i)) (Y (nxt n i)) x y) 805306368000:=by
 have s1:=hs i hi
 have hu:uv (vNorm (X i) (Y i) (X (nxt n i)) (Y (nxt n i))):=edN_un hc hw hi
 unfold hgt
 rw [mn_in s1.1 hx,mn_in s1.2 hy,loc_in (by omega) (by omega)]
 exact gd_le (uv_dot (B:=402653184000) hu ⟨rfl,by dsimp only; omega⟩ ⟨rfl,by dsimp only; omega⟩ (by omega) (by omega)) (by omega)
theorem neg_pos_in {a:Nb} {B:Int} (h:gd a B) (hB:0 ≤ B) (l:B ≤ 1125899906842624):(nPos (nNeg a)).2 = false ∧ 0 ≤ (nPos (nNeg a)).1 ∧ (nPos (nNeg a)).1 ≤ 1125899906842624:=by
 obtain ⟨p1,p2,p3,_⟩:=pos_in (gd_neg h (by omega)) hB (by omega)
 exact ⟨p1,p2,by omega⟩
theorem deep_tok {n:Nat} {X Y:Nat → Int} {x y r:Int} (hc:convexS n X Y = true) (hs:sml n X Y) (hw:wid n X Y) (hx:-12000 ≤ x ∧ x ≤ 12000) (hy:-12000 ≤ y ∧ y ≤ 12000) (hr:0 ≤ r ∧ r ≤ 12000) :
  tok (x - r) (y - r) (x + r) (y + r) (deepS n X Y x y r (axSt n (gD n X Y x y r) 0 (gD n X Y x y r) 2)):=by
 have h3:=(convexS_iff.1 hc).1
 have e:axSt n (gD n X Y x y r) 0 (gD n X Y x y r) 2 = axF 0 (gD n X Y x y r) ax0 n:=rfl
 rw [e]
 obtain ⟨h1,h2,h4⟩:=axF_at (o:=0) (G:=gD n X Y x y r) (n - 1)
 rw [show n - 1 + 1 = n by omega] at h1 h2 h4
 generalize axF 0 (gD n X Y x y r) ax0 n = s at *
 have hi:s.2.1.toNat < n:=by omega
 have hu:=edN_un hc hw hi
 obtain ⟨u1,u2⟩:=uv_gd hu
 have hg:gd (gD n X Y x y r s.2.1.toNat) 1006632960000:=by
  unfold gD
  rw [rat_in (by omega)]
  exact gd_le (gd_sub (B:=201326592000) (hgt_gd hc hs hw hx hy hi) ⟨rfl,by dsimp only; omega⟩ (by omega) (by omega) (by omega)) (by omega)
 unfold deepS
 rw [h4]
 refine tok_one hu (neg_pos_in hg (by omega) (by omega)) ?_
 rw [rat_in (by omega),loc_in (by omega) (by omega)]
 have k:gd (r * 16777216,false) (r * 16777216):=⟨rfl,by dsimp only; omega⟩
 have a1:=sub_at (x:=(x * 16777216,false)) ⟨rfl,by dsimp only; omega⟩ (mul_dir u1 k (by omega) (by omega)) (by omega) (by omega)
 have a2:=sub_at (x:=(y * 16777216,false)) ⟨rfl,by dsimp only; omega⟩ (mul_dir u2 k (by omega) (by omega)) (by omega) (by omega)
 dsimp only at a1 a2
 exact ⟨bt_le a1 (by omega) (by omega),bt_le a2 (by omega) (by omega)⟩
theorem rdT_in {n:Nat} {X Y:Nat → Int} {x y:Int} (hc:convexS n X Y = true) (hs:sml n X Y) (hw:wid n X Y) (hx:-12000 ≤ x ∧ x ≤ 12000) (hy:-12000 ≤ y ∧ y ≤ 12000) {i:Nat} (hi:i < n):bt 0 4294967296 (rdT n X Y x y i):=by
 have s1:=hs i hi
 have s2:=hs _ (nxt_lt hi)
 have w:=hw i hi _ (nxt_lt hi)
 have hne:=edge_ne hc hi
 unfold rdT
 rw [mn_in s1.1 hx,mn_in s1.2 hy,mn_in s1.1 s2.1,mn_in s1.2 s2.2]
 have m1:sm (x - X i):=by unfold sm; omega
 have m2:sm (y - Y i):=by unfold sm; omega
 have e1:sm (X (nxt n i) - X i):=by unfold sm; omega
 have e2:sm (Y (nxt n i) - Y i):=by unfold sm; omega
 rw [dtW_v m1 m2 e1 e2,dtW_v e1 e2 e1 e2]
 generalize X (nxt n i) - X i = ex at *
 generalize Y (nxt n i) - Y i = ey at *
 have b1:=mul_bd (A:=24000) (B:=16384) (by omega) (show -24000 ≤ x - X i ∧ x - X i ≤ 24000 by omega) w.1
 have b2:=mul_bd (A:=24000) (B:=16384) (by omega) (show -24000 ≤ y - Y i ∧ y - Y i ≤ 24000 by omega) w.2
 have p1:=sq0 ex
 have p2:=sq0 ey
 have hp:1 ≤ ex * ex + ey * ey:=by
  rcases hne with h | h
  ·have:0 < ex * ex:=by
    rcases Int.lt_or_gt_of_ne h with q | q
    ·exact Int.mul_pos_of_neg_of_neg q q
    ·exact Int.mul_pos q q
   omega
  ·have:0 < ey * ey:=by
    rcases Int.lt_or_gt_of_ne h with q | q
    ·exact Int.mul_pos_of_neg_of_neg q q
    ·exact Int.mul_pos q q
   omega
 have hA:-786432000 ≤ (x - X i) * ex + (y - Y i) * ey ∧ (x - X i) * ex + (y - Y i) * ey ≤ 786432000:=by omega
 generalize (x - X i) * ex + (y - Y i) * ey = A at *
 generalize ex * ex + ey * ey = B at *
 have t:=tdiv_bd (v:=A * 4294967296) (C:=3377699720527872000) (k:=B) (by omega) (by
  have:3377699720527872000 * 1 ≤ 3377699720527872000 * B:=Int.mul_le_mul_of_nonneg_left hp (by omega)
  omega)
 have e:nRat A B = ((A * 4294967296).tdiv B,false):=by
  unfold nRat raV raF
  rw [if_neg (by omega),if_neg (by omega),ftV_of (by unfold rg; omega),ftF_of (by unfold rg; omega)]
  rfl
 rw [e]
 unfold nCl
 dsimp only
 generalize (A * 4294967296).tdiv B = v at *
 rw [whV_of (v:=v) (by unfold rg; omega),whF_of (v:=v) (by unfold rg; omega),show whV 0 = 0 from rfl,show whV 4294967296 = 4294967296 from rfl,show whF 0 false = false from rfl,show whF 4294967296 false = false from rfl]
 exact ⟨rfl,by dsimp only; omega,by dsimp only; omega⟩
theorem rdP_in {n:Nat} {X Y:Nat → Int} {x y:Int} (hc:convexS n X Y = true) (hs:sml n X Y) (hw:wid n X Y) (hx:-12000 ≤ x ∧ x ≤ 12000) (hy:-12000 ≤ y ∧ y ≤ 12000) {i:Nat} (hi:i < n) :
  bx (mnS X n * 16777216) (mnS Y n * 16777216) (mxS X n * 16777216) (mxS Y n * 16777216) (rdP n X Y x y i):=by
 have s1:=hs i hi
 have s2:=hs _ (nxt_lt hi)
 have t:=rdT_in hc hs hw hx hy hi
 have hn0:=(convexS_iff.1 hc).1
 obtain ⟨j1,g1,e1⟩:=mnS_at (Z:=X) (show 0 < n by omega)
 obtain ⟨j2,g2,e2⟩:=mnS_at (Z:=Y) (show 0 < n by omega)
 obtain ⟨j3,g3,e3⟩:=mxS_at (Z:=X) (show 0 < n by omega)
 obtain ⟨j4,g4,e4⟩:=mxS_at (Z:=Y) (show 0 < n by omega)
 have b1:=hs j1 g1
 have b2:=hs j2 g2
 have b3:=hs j3 g3
 have b4:=hs j4 g4
 have m1:=mnS_le' (Z:=X) hi
 have m2:=mnS_le' (Z:=Y) hi
 have m3:=mxS_ge' (Z:=X) hi
 have m4:=mxS_ge' (Z:=Y) hi
 have m5:=mnS_le' (Z:=X) (nxt_lt hi)
 have m6:=mnS_le' (Z:=Y) (nxt_lt hi)
 have m7:=mxS_ge' (Z:=X) (nxt_lt hi)
 have m8:=mxS_ge' (Z:=Y) (nxt_lt hi)
 unfold rdP
 rw [mn_in s1.1 s2.1,mn_in s1.2 s2.2,loc_in (by omega) (by omega),loc_in (by omega) (by omega)]
 exact ⟨bt_go (x:=(X i * 16777216,false)) (d:=((X (nxt n i) - X i) * 16777216,false)) ⟨rfl,by dsimp only; omega,by dsimp only; omega⟩ rfl (by dsimp only; omega) (by dsimp only; omega) t (by omega) (by omega),
  bt_go (x:=(Y i * 16777216,false)) (d:=((Y (nxt n i) - Y i) * 16777216,false)) ⟨rfl,by dsimp only; omega,by dsimp only; omega⟩ rfl (by dsimp only; omega) (by dsimp only; omega) t (by omega) (by omega)⟩
theorem bx_sml {n:Nat} {X Y:Nat → Int} (hn:0 < n) (hs:sml n X Y) {v:V2} (h:bx (mnS X n * 16777216) (mnS Y n * 16777216) (mxS X n * 16777216) (mxS Y n * 16777216) v):gd v.1 201326592000 ∧ gd v.2 201326592000:=by
 obtain ⟨j1,g1,e1⟩:=mnS_at (Z:=X) hn
 obtain ⟨j2,g2,e2⟩:=mnS_at (Z:=Y) hn
 obtain ⟨j3,g3,e3⟩:=mxS_at (Z:=X) hn
 obtain ⟨j4,g4,e4⟩:=mxS_at (Z:=Y) hn
 have b1:=hs j1 g1
 have b2:=hs j2 g2
 have b3:=hs j3 g3
 have b4:=hs j4 g4
 exact ⟨bt_gd h.1 (by omega) (by omega),bt_gd h.2 (by omega) (by omega)⟩
theorem rd_tok {n:Nat} {X Y:Nat → Int} {x y r:Int} (hc:convexS n X Y = true) (hs:sml n X Y) (hw:wid n X Y) (hx:-12000 ≤ x ∧ x ≤ 12000) (hy:-12000 ≤ y ∧ y ≤ 12000) (hr:0 ≤ r ∧ r ≤ 12000) :
  tok (mnS X n) (mnS Y n) (mxS X n) (mxS Y n) (rdS n X Y x y r):=by
 have h3:=(convexS_iff.1 hc).1
 have hi:leI (rdL n X Y x y) (n - 1) < n:=by
  have:=leI_lt (h:=rdL n X Y x y) (n - 1)
  omega
 unfold rdS
 generalize leI (rdL n X Y x y) (n - 1) = i at *
 have hP:=rdP_in hc hs hw hx hy hi
 obtain ⟨p1,p2⟩:=bx_sml (by omega) hs hP
 have hM:gd (rdM n X Y x y i).1 402653184000 ∧ gd (rdM n X Y x y i).2 402653184000:=by
  unfold rdM
  rw [loc_in (by omega) (by omega)]
  exact ⟨gd_le (gd_sub (A:=201326592000) ⟨rfl,by dsimp only; omega⟩ p1 (by omega) (by omega) (by omega)) (by omega),gd_le (gd_sub (A:=201326592000) ⟨rfl,by dsimp only; omega⟩ p2 (by omega) (by omega) (by omega)) (by omega)⟩
 have hV:uv (rdV n X Y x y i):=by
  unfold rdV
  split
  ·exact edN_un hc hw hi
  ·rename_i h
   refine uv_un hM.1 hM.2 (by omega) (by omega) ?_
   cases hv:(vUnit (rdM n X Y x y i)).1 with
   | true => rfl
   | false => exact absurd (.inr hv) h
 refine tok_one hV ?_ hP
 obtain ⟨q,hq,q0,q1,q2,q3,q4,q5⟩:=len_in hM.1 hM.2 (by omega) (by omega)
 unfold rdL
 rw [hq,rat_in (by omega)]
 obtain ⟨z1,z2,z3,_⟩:=pos_in (gd_sub (a:=(r * 16777216,false)) (b:=(q,false)) (A:=201326592000) (B:=805306368000) ⟨rfl,by dsimp only; omega⟩ ⟨rfl,by dsimp only; omega⟩ (by omega) (by omega) (by omega)) (by omega) (by omega)
 exact ⟨z1,z2,by omega⟩
theorem fl_tok {n:Nat} {X Y:Nat → Int} {m:Nat} {Z T:Nat → Int} (hc:convexS n X Y = true) (hs:sml n X Y) (hw:wid n X Y) (gc:convexS m Z T = true) (gs:sml m Z T) {i:Nat} (hi:i < n) :
  tok (mnS Z m) (mnS T m) (mxS Z m) (mxS T m) (flS n X Y m Z T i):=by
 have h3:=(convexS_iff.1 gc).1
 have hu:=edN_un hc hw hi
 have ht:=flT_un hc hs hw hi
 have s1:=hs i hi
 have s2:=hs _ (nxt_lt hi)
 obtain ⟨j1,g1,e1⟩:=mnS_at (Z:=Z) (show 0 < m by omega)
 obtain ⟨j2,g2,e2⟩:=mnS_at (Z:=T) (show 0 < m by omega)
 obtain ⟨j3,g3,e3⟩:=mxS_at (Z:=Z) (show 0 < m by omega)
 obtain ⟨j4,g4,e4⟩:=mxS_at (Z:=T) (show 0 < m by omega)
 have b1:=gs j1 g1
 have b2:=gs j2 g2
 have b3:=gs j3 g3
 have b4:=gs j4 g4
 have hf:∀ j,j < m → bx ((mnS Z m - X i) * 16777216) ((mnS T m - Y i) * 16777216) ((mxS Z m - X i) * 16777216) ((mxS T m - Y i) * 16777216) (fx0 X Y Z T i j):=fun j hj => by
  have a:=gs j hj
  have m1:=mnS_le' (Z:=Z) hj
  have m2:=mnS_le' (Z:=T) hj
  have m3:=mxS_ge' (Z:=Z) hj
  have m4:=mxS_ge' (Z:=T) hj
  unfold fx0
  rw [mn_in s1.1 a.1,mn_in s1.2 a.2,loc_in (by omega) (by omega)]
  exact ⟨⟨rfl,by dsimp only; omega,by dsimp only; omega⟩,rfl,by dsimp only; omega,by dsimp only; omega⟩
 have hJ:flJ n X Y m Z T i < m:=by
  have:=leI_lt (h:=agK m Z T (edN n X Y i)) (m - 1)
  unfold flJ
  omega
 have hW:flW n X Y m Z T i < m:=by
  have:=leI_lt (h:=edH n X Y Z T i) (m - 1)
  unfold flW
  omega
 have hE:gd (flE n X Y i) 1125899906842624:=by
  unfold flE
  rw [mn_in s1.1 s2.1,mn_in s1.2 s2.2,loc_in (by omega) (by omega)]
  obtain ⟨q,hq,q0,q1,q2,q3,q4,q5⟩:=@len_in (((X (nxt n i) - X i) * 16777216,false),((Y (nxt n i) - Y i) * 16777216,false)) 402653184000 ⟨rfl,by dsimp only; omega⟩ ⟨rfl,by dsimp only; omega⟩ (by omega) (by omega)
  rw [hq]
  exact ⟨rfl,by dsimp only; omega⟩
 have ab:=fl_bx ht (hf _ hJ) (hf _ (nxt_lt hJ)) hE (by omega) (by omega) (by omega) (by omega)
 unfold flS
 have hA:bx ((mnS Z m - X i) * 16777216) ((mnS T m - Y i) * 16777216) ((mxS Z m - X i) * 16777216) ((mxS T m - Y i) * 16777216) (flA n X Y m Z T i (flJ n X Y m Z T i)):=ab.1
 have hB:bx ((mnS Z m - X i) * 16777216) ((mnS T m - Y i) * 16777216) ((mxS Z m - X i) * 16777216) ((mxS T m - Y i) * 16777216) (flB n X Y m Z T i (flJ n X Y m Z T i)):=ab.2
 generalize flA n X Y m Z T i (flJ n X Y m Z T i) = a at *
 generalize flB n X Y m Z T i (flJ n X Y m Z T i) = b at *
 have hadd:∀ v,bx ((mnS Z m - X i) * 16777216) ((mnS T m - Y i) * 16777216) ((mxS Z m - X i) * 16777216) ((mxS T m - Y i) * 16777216) v → bx (mnS Z m * 16777216) (mnS T m * 16777216) (mxS Z m * 16777216) (mxS T m * 16777216) (vAdd (vLoc (X i) (Y i)) v):=fun v hv => by
  have key:∀ (z lo hi:Int) (w:Nb),(-12000 ≤ z ∧ z ≤ 12000) → -12000 ≤ lo → hi ≤ 12000 → bt ((lo - z) * 16777216) ((hi - z) * 16777216) w → bt (lo * 16777216) (hi * 16777216) (nAdd (z * 16777216,false) w):=fun z lo hi w hz hl hh hw => by
   obtain ⟨w1,w2,w3⟩:=hw
   unfold nAdd
   dsimp only
   rw [whV_of (v:=z * 16777216) (by unfold rg; omega),whV_of (v:=w.1) (by unfold rg; omega),whF_of (v:=z * 16777216) (by unfold rg; omega),whF_of (v:=w.1) (by unfold rg; omega),ftV_of (by unfold rg; omega),ftF_of (by unfold rg; omega),w1]
   exact ⟨rfl,by dsimp only; omega,by dsimp only; omega⟩
  rw [loc_in (by omega) (by omega)]
  exact ⟨key _ _ _ _ s1.1 (by omega) (by omega) hv.1,key _ _ _ _ s1.2 (by omega) (by omega) hv.2⟩
 have hdot:∀ v,bx ((mnS Z m - X i) * 16777216) ((mnS T m - Y i) * 16777216) ((mxS Z m - X i) * 16777216) ((mxS T m - Y i) * 16777216) v → gd (vDot (edN n X Y i) v) 805306368000:=fun v hv =>
  gd_le (uv_dot (B:=402653184000) hu (bt_gd hv.1 (by omega) (by omega)) (bt_gd hv.2 (by omega) (by omega)) (by omega) (by omega)) (by omega)
 have hneg:∀ k:Nb,gd k 805306368000 → k.1 ≤ 0 → (nNeg k).2 = false ∧ 0 ≤ (nNeg k).1 ∧ (nNeg k).1 ≤ 1125899906842624:=fun k hk h0 => by
  obtain ⟨w1,w2⟩:=gd_wh hk (by omega)
  have:=hk.2
  unfold nNeg
  rw [w1,w2]
  exact ⟨rfl,by dsimp only; omega,by dsimp only; omega⟩
 unfold flK
 by_cases hk:(vDot (edN n X Y i) a).1 ≤ 0 ∨ (vDot (edN n X Y i) b).1 ≤ 0
 ·rw [if_pos hk]
  unfold flM
  by_cases ha:(vDot (edN n X Y i) a).1 ≤ 0
  ·rw [if_pos ha]
   by_cases hb:(vDot (edN n X Y i) b).1 ≤ 0
   ·rw [if_pos hb]
    refine ⟨⟨by show 1 ≤ 2; omega,Nat.le_refl 2⟩,hu,fun j hj => ?_⟩
    by_cases hj0:j = 0
    ·subst hj0
     exact ⟨hneg _ (hdot a hA) ha,hadd a hA⟩
    ·dsimp only
     rw [if_neg hj0,if_neg hj0]
     exact ⟨hneg _ (hdot b hB) hb,hadd b hB⟩
   ·rw [if_neg hb]
    exact tok_one hu (hneg _ (hdot a hA) ha) (hadd a hA)
  ·rw [if_neg ha]
   exact tok_one hu (hneg _ (hdot b hB) (by omega)) (hadd b hB)
 ·rw [if_neg hk]
  have z:=gs _ hW
  refine tok_one hu (neg_pos_in (hgt_gd hc hs hw z.1 z.2 hi) (by omega) (by omega)) ?_
  have m1:=mnS_le' (Z:=Z) hW
  have m2:=mnS_le' (Z:=T) hW
  have m3:=mxS_ge' (Z:=Z) hW
  have m4:=mxS_ge' (Z:=T) hW
  rw [loc_in (by omega) (by omega)]
  exact ⟨⟨rfl,by dsimp only; omega,by dsimp only; omega⟩,rfl,by dsimp only; omega,by dsimp only; omega⟩
theorem trn_tok {a b c d:Int} {M:Mf} (h:tok a b c d M):tok a b c d (trnS M):=by
 refine ⟨h.1,?_,h.2.2⟩
 obtain ⟨h1,h2,h3,h4,h5,h6⟩:=h.2.1
 have e:∀ x:Nb,x.2 = false → (-4294967296 ≤ x.1 ∧ x.1 ≤ 4294967296) → nMul x (nInt (-1)) = (-x.1,false):=fun x hx hb => by
  rw [int_in (by omega)]
  unfold nMul
  dsimp only
  have e2:(x.1 * (-4294967296)).tdiv 4294967296 = -x.1:=by
   rw [show x.1 * (-4294967296) = -x.1 * 4294967296 by omega]
   exact Int.mul_tdiv_cancel _ (by decide)
  rw [whV_of (v:=x.1) (by unfold rg; omega),whF_of (v:=x.1) (by unfold rg; omega),show whV (-1 * 4294967296) = -4294967296 from rfl,show whF (-1 * 4294967296) false = false from rfl,e2,ftV_of (by unfold rg; omega),ftF_of (by unfold rg; omega),hx]
  rfl
 show uv (vScale M.nv (nInt (-1)))
 unfold vScale
 rw [e _ h1 h5,e _ h2 h6]
 refine ⟨rfl,rfl,?_,?_,by dsimp only; omega,by dsimp only; omega⟩
 ·dsimp only; rw [Int.neg_mul_neg,Int.neg_mul_neg]; exact h3
 ·dsimp only; rw [Int.neg_mul_neg,Int.neg_mul_neg]; exact h4
def nearF (k x y r:Int) (n:Nat) (X Y:Nat → Int):Prop:=(-12000 ≤ x ∧ x ≤ 12000) ∧ (-12000 ≤ y ∧ y ≤ 12000) ∧ r ≤ 12000 ∧ sml n X Y ∧ wid n X Y
theorem boxD {k x y r:Int} {n:Nat} {X Y:Nat → Int} (hc:checkS k x y r n X Y = 0) (hk:k = 1):boxS k x y r n X Y 0 = x - r ∧ boxS k x y r n X Y 1 = y - r ∧ boxS k x y r n X Y 2 = x + r ∧ boxS k x y r n X Y 3 = y + r:=
 ⟨boxS_disc (q:=0) hc hk,boxS_disc (q:=1) hc hk,boxS_disc (q:=2) hc hk,boxS_disc (q:=3) hc hk⟩
theorem boxP {k x y r:Int} {n:Nat} {X Y:Nat → Int} (hc:checkS k x y r n X Y = 0) (hk:k ≠ 1):boxS k x y r n X Y 0 = mnS X n ∧ boxS k x y r n X Y 1 = mnS Y n ∧ boxS k x y r n X Y 2 = mxS X n ∧ boxS k x y r n X Y 3 = mxS Y n:=
 ⟨boxS_poly (q:=0) hc hk,boxS_poly (q:=1) hc hk,boxS_poly (q:=2) hc hk,boxS_poly (q:=3) hc hk⟩
theorem clip_tok {k x y r:Int} {n:Nat} {X Y:Nat → Int} {k' x' y' r':Int} {m:Nat} {Z T:Nat → Int} (hA:checkS k x y r n X Y = 0) (hB:checkS k' x' y' r' m Z T = 0) (hap:apS k x y r n X Y k' x' y' r' m Z T = false) (nA:nearF k x y r n X Y) (nB:nearF k' x' y' r' m Z T) :
  tok (min (boxS k x y r n X Y 0) (boxS k' x' y' r' m Z T 0)) (min (boxS k x y r n X Y 1) (boxS k' x' y' r' m Z T 1)) (max (boxS k x y r n X Y 2) (boxS k' x' y' r' m Z T 2)) (max (boxS k x y r n X Y 3) (boxS k' x' y' r' m Z T 3)) (clipS k x y r n X Y k' x' y' r' m Z T):=by
 have cA:=check_1 hA
 have cB:=check_1 hB
 obtain ⟨a1,a2,a3,a4,a5⟩:=nA
 obtain ⟨b1,b2,b3,b4,b5⟩:=nB
 unfold clipS
 rw [if_pos ⟨hA,hB,hap⟩]
 by_cases hk:k = 1
 ·obtain ⟨r1,_,_,_⟩:=cA.2.2.2.1 hk
  rw [if_pos hk,(boxD hA hk).1,(boxD hA hk).2.1,(boxD hA hk).2.2.1,(boxD hA hk).2.2.2]
  by_cases hk':k' = 1
  ·obtain ⟨r3,_,_,_⟩:=cB.2.2.2.1 hk'
   rw [if_pos hk',(boxD hB hk').1,(boxD hB hk').2.1,(boxD hB hk').2.2.1,(boxD hB hk').2.2.2]
   exact two_tok a1 a2 b1 b2 (by omega) (by omega)
  ·have gc:=(cB.2.2.2.2 hk').2.2
   rw [if_neg hk',(boxP hB hk').1,(boxP hB hk').2.1,(boxP hB hk').2.2.1,(boxP hB hk').2.2.2]
   refine trn_tok ?_
   unfold pdS
   split
   ·exact tok_le (deep_tok (r:=r) gc b4 b5 a1 a2 (by omega)) (Int.min_le_left ..) (Int.min_le_left ..) (Int.le_max_left ..) (Int.le_max_left ..)
   ·exact tok_le (rd_tok (r:=r) gc b4 b5 a1 a2 (by omega)) (Int.min_le_right ..) (Int.min_le_right ..) (Int.le_max_right ..) (Int.le_max_right ..)
 ·have hc:=(cA.2.2.2.2 hk).2.2
  rw [if_neg hk,(boxP hA hk).1,(boxP hA hk).2.1,(boxP hA hk).2.2.1,(boxP hA hk).2.2.2]
  by_cases hk':k' = 1
  ·obtain ⟨r3,_,_,_⟩:=cB.2.2.2.1 hk'
   rw [if_pos hk',(boxD hB hk').1,(boxD hB hk').2.1,(boxD hB hk').2.2.1,(boxD hB hk').2.2.2]
   unfold pdS
   split
   ·exact tok_le (deep_tok (r:=r') hc a4 a5 b1 b2 (by omega)) (Int.min_le_right ..) (Int.min_le_right ..) (Int.le_max_right ..) (Int.le_max_right ..)
   ·exact tok_le (rd_tok (r:=r') hc a4 a5 b1 b2 (by omega)) (Int.min_le_left ..) (Int.min_le_left ..) (Int.le_max_left ..) (Int.le_max_left ..)
  ·have gc:=(cB.2.2.2.2 hk').2.2
   have h3:=(convexS_iff.1 hc).1
   have g3:=(convexS_iff.1 gc).1
   rw [if_neg hk',(boxP hB hk').1,(boxP hB hk').2.1,(boxP hB hk').2.2.1,(boxP hB hk').2.2.2]
   have eX:axS k x y r n X Y k' x' y' r' m Z T = axSt n (gP n X Y m Z T) m (gP m Z T n X Y) 2:=by
    unfold axS
    rw [if_pos ⟨hA,hB⟩,if_neg hk,if_neg hk']
   have hi:=axSt_ix2 (n:=n) (m:=m) (G:=gP n X Y m Z T) (G':=gP m Z T n X Y) (by omega)
   rw [← eX] at hi
   split
   ·exact tok_le (fl_tok hc a4 a5 gc b4 (by omega)) (Int.min_le_right ..) (Int.min_le_right ..) (Int.le_max_right ..) (Int.le_max_right ..)
   ·exact trn_tok (tok_le (fl_tok gc b4 b5 hc a4 (by omega)) (Int.min_le_left ..) (Int.min_le_left ..) (Int.le_max_left ..) (Int.le_max_left ..))
end Go.Ax
end
section
/-
  How fast a body may be at a touch, against its heft there.
-/
set_option maxHeartbeats 4000000
set_option maxRecDepth 100000
namespace Go.Ax
open Go.Proofs
theorem mulN_eq {x y C:Int} (hx:-9223372036854775807 ≤ x ∧ x ≤ 9223372036854775807) (hy:-9223372036854775807 ≤ y ∧ y ≤ 9223372036854775807) (h:-(C * 4294967296) ≤ x * y ∧ x * y ≤ C * 4294967296) (hC:C ≤ 9223372036854775807):nMul (x,false) (y,false) = ((x * y).tdiv 4294967296,false) ∧ -C ≤ (x * y).tdiv 4294967296 ∧ (x * y).tdiv 4294967296 ≤ C:=by
 have t:=tdiv_bd (v:=x * y) (C:=C) (k:=4294967296) (by omega) h
 unfold nMul
 dsimp only
 rw [whV_of (v:=x) hx,whV_of (v:=y) hy,whF_of (v:=x) hx,whF_of (v:=y) hy]
 generalize (x * y).tdiv 4294967296 = q at *
 rw [ftV_of (x:=q) (by unfold rg; omega),ftF_of (x:=q) (by unfold rg; omega)]
 exact ⟨rfl,t⟩
theorem dotN_eq {x y z u C:Int} (hx:-9223372036854775807 ≤ x ∧ x ≤ 9223372036854775807) (hy:-9223372036854775807 ≤ y ∧ y ≤ 9223372036854775807) (hz:-9223372036854775807 ≤ z ∧ z ≤ 9223372036854775807) (hu:-9223372036854775807 ≤ u ∧ u ≤ 9223372036854775807) (h:-(C * 4294967296) ≤ x * y + z * u ∧ x * y + z * u ≤ C * 4294967296) (hC:C ≤ 9223372036854775807) :
  nDot (x,false) (y,false) (z,false) (u,false) = ((x * y + z * u).tdiv 4294967296,false) ∧ -C ≤ (x * y + z * u).tdiv 4294967296 ∧ (x * y + z * u).tdiv 4294967296 ≤ C:=by
 have t:=tdiv_bd (v:=x * y + z * u) (C:=C) (k:=4294967296) (by omega) h
 unfold nDot
 dsimp only
 rw [whV_of (v:=x) hx,whV_of (v:=y) hy,whF_of (v:=x) hx,whF_of (v:=y) hy,whV_of (v:=z) hz,whV_of (v:=u) hu,whF_of (v:=z) hz,whF_of (v:=u) hu]
 generalize (x * y + z * u).tdiv 4294967296 = q at *
 rw [ftV_of (x:=q) (by unfold rg; omega),ftF_of (x:=q) (by unfold rg; omega)]
 exact ⟨rfl,t⟩
theorem addN_eq {x y:Int} (hx:-4611686018427387903 ≤ x ∧ x ≤ 4611686018427387903) (hy:-4611686018427387903 ≤ y ∧ y ≤ 4611686018427387903):nAdd (x,false) (y,false) = (x + y,false):=by
 unfold nAdd
 dsimp only
 rw [whV_of (v:=x) (by unfold rg; omega),whV_of (v:=y) (by unfold rg; omega),whF_of (v:=x) (by unfold rg; omega),whF_of (v:=y) (by unfold rg; omega),ftV_of (x:=x + y) (by unfold rg; omega),ftF_of (x:=x + y) (by unfold rg; omega)]
 rfl
theorem subN_eq {x y:Int} (hx:-4611686018427387903 ≤ x ∧ x ≤ 4611686018427387903) (hy:-4611686018427387903 ≤ y ∧ y ≤ 4611686018427387903):nSub (x,false) (y,false) = (x - y,false):=by
 unfold nSub
 dsimp only
 rw [whV_of (v:=x) (by unfold rg; omega),whV_of (v:=y) (by unfold rg; omega),whF_of (v:=x) (by unfold rg; omega),whF_of (v:=y) (by unfold rg; omega),ftV_of (x:=x - y) (by unfold rg; omega),ftF_of (x:=x - y) (by unfold rg; omega)]
 rfl
theorem negN_eq {x:Int} (hx:-9223372036854775807 ≤ x ∧ x ≤ 9223372036854775807):nNeg (x,false) = (-x,false):=by
 unfold nNeg
 dsimp only
 rw [whV_of (v:=x) hx,whF_of (v:=x) hx]
theorem nwh_eq {x:Int} (hx:-9223372036854775807 ≤ x ∧ x ≤ 9223372036854775807):nWh (x,false) = (x,false):=by
 unfold nWh
 dsimp only
 rw [whV_of (v:=x) hx,whF_of (v:=x) hx]
theorem abb (d:Int):-ab d ≤ d ∧ d ≤ ab d:=by unfold ab; split <;> omega
theorem side_num {v1 v2 w a1 a2 n1 n2 m i Tx Ty c q h:Int} (hv1:-858993459200 ≤ v1 ∧ v1 ≤ 858993459200) (hv2:-858993459200 ≤ v2 ∧ v2 ≤ 858993459200) (hw:-257698037760 ≤ w ∧ w ≤ 257698037760)
  (hn1:-4294967296 ≤ n1 ∧ n1 ≤ 4294967296) (hn2:-4294967296 ≤ n2 ∧ n2 ≤ 4294967296) (hm:2000 ≤ m) (hi:8 ≤ i) (hh:h ≤ 4611686018427387904)
  (eT:Tx = (-a2 * w).tdiv 4294967296) (eU:Ty = (a1 * w).tdiv 4294967296) (ec:c = (a1 * n2 + -a2 * n1).tdiv 4294967296) (eq:q = (c * c).tdiv 4294967296) (eh:h = (i * q).tdiv 4294967296) :
  -(18446744073709551614 * (m + h)) ≤ 2 * ((v1 + Tx) * n1 + (v2 + Ty) * n2) ∧ 2 * ((v1 + Tx) * n1 + (v2 + Ty) * n2) ≤ 18446744073709551614 * (m + h):=by
 have t1:=@td_err (-a2 * w) 4294967296 (by omega)
 have t2:=@td_err (a1 * w) 4294967296 (by omega)
 have t3:=@td_err (a1 * n2 + -a2 * n1) 4294967296 (by omega)
 have t4:=@td_err (c * c) 4294967296 (by omega)
 have t5:=@td_err (i * q) 4294967296 (by omega)
 rw [← eT] at t1
 rw [← eU] at t2
 rw [← ec] at t3
 rw [← eq] at t4
 rw [← eh] at t5
 have hq:0 ≤ q:=by rw [eq]; exact Int.tdiv_nonneg (sq0 c) (by decide)
 have hiq:8 * q ≤ i * q:=Int.mul_le_mul_of_nonneg_right hi hq
 have hh0:0 ≤ h:=by rw [eh]; exact Int.tdiv_nonneg (Int.mul_nonneg (by omega) hq) (by decide)
 clear eT eU ec eq eh
 obtain ⟨e1,h1⟩:∃ e1,e1 = -a2 * w - Tx * 4294967296:=⟨_,rfl⟩
 obtain ⟨e2,h2⟩:∃ e2,e2 = a1 * w - Ty * 4294967296:=⟨_,rfl⟩
 obtain ⟨g,h3⟩:∃ g,g = a1 * n2 + -a2 * n1 - c * 4294967296:=⟨_,rfl⟩
 rw [← h1] at t1
 rw [← h2] at t2
 rw [← h3] at t3
 have key:4294967296 * (Tx * n1 + Ty * n2) = 4294967296 * (w * c) + w * g - e1 * n1 - e2 * n2:=by rw [h1,h2,h3]; grind
 have m1:=mul_bd (A:=4294967296) (B:=4294967296) (x:=e1) (y:=n1) (by omega) (by omega) hn1
 have m2:=mul_bd (A:=4294967296) (B:=4294967296) (x:=e2) (y:=n2) (by omega) (by omega) hn2
 have m3:=mul_bd (A:=257698037760) (B:=4294967296) (x:=w) (y:=g) (by omega) hw (by omega)
 have m4:=mul_bd (A:=257698037760) (B:=ab c) (x:=w) (y:=c) (by omega) hw (abb c)
 have m5:=mul_bd (A:=858993459200) (B:=4294967296) (x:=v1) (y:=n1) (by omega) hv1 hn1
 have m6:=mul_bd (A:=858993459200) (B:=4294967296) (x:=v2) (y:=n2) (by omega) hv2 hn2
 have s1:=sq0 (2 * ab c - 64424509440)
 have e3:(2 * ab c - 64424509440) * (2 * ab c - 64424509440) = 4 * (c * c) - 257698037760 * ab c + 4150517416584649113600:=by
  have:ab c * ab c = c * c:=aSq c
  rw [← this]; grind
 rw [e3] at s1
 have e4:(v1 + Tx) * n1 + (v2 + Ty) * n2 = (v1 * n1 + v2 * n2) + (Tx * n1 + Ty * n2):=by grind
 rw [e4]
 clear e3 e4 h1 h2 h3
 generalize Tx * n1 + Ty * n2 = P at *
 generalize w * c = U at *
 generalize w * g = V at *
 generalize e1 * n1 = E1 at *
 generalize e2 * n2 = E2 at *
 generalize v1 * n1 = F1 at *
 generalize v2 * n2 = F2 at *
 generalize c * c = C2 at *
 generalize ab c = C at *
 generalize i * q = Q at *
 omega
def side (b:Bd) (x n:V2) (u1 u2 k:Int):Prop:=spdS b x = ((u1,false),(u2,false)) ∧ hftS b x n = (k,false) ∧ (-17592186044416 ≤ u1 ∧ u1 ≤ 17592186044416) ∧ (-17592186044416 ≤ u2 ∧ u2 ≤ 17592186044416) ∧ (0 ≤ k ∧ k ≤ 4611686018427387903) ∧
 -(18446744073709551614 * k) ≤ 2 * (u1 * n.1.1 + u2 * n.2.1) ∧ 2 * (u1 * n.1.1 + u2 * n.2.1) ≤ 18446744073709551614 * k
theorem side_of {b:Bd} {x n:V2} {v1 v2 w p1 p2 x1 x2 n1 n2 m i:Int} (ev:b.v = ((v1,false),(v2,false))) (ew:b.w = (w,false)) (ep:b.pl = ((p1,false),(p2,false))) (ex:x = ((x1,false),(x2,false))) (en:n = ((n1,false),(n2,false))) (em:b.m = (m,false)) (ei:b.i = (i,false))
  (hv1:-858993459200 ≤ v1 ∧ v1 ≤ 858993459200) (hv2:-858993459200 ≤ v2 ∧ v2 ≤ 858993459200) (hw:-257698037760 ≤ w ∧ w ≤ 257698037760) (hp1:-51539607552 ≤ p1 ∧ p1 ≤ 51539607552) (hp2:-51539607552 ≤ p2 ∧ p2 ≤ 51539607552)
  (hx1:-201326592000 ≤ x1 ∧ x1 ≤ 201326592000) (hx2:-201326592000 ≤ x2 ∧ x2 ≤ 201326592000) (hn1:-4294967296 ≤ n1 ∧ n1 ≤ 4294967296) (hn2:-4294967296 ≤ n2 ∧ n2 ≤ 4294967296)
  (h:((2000 ≤ m ∧ m ≤ 562949953421312) ∧ 8 ≤ i ∧ i ≤ 211106232532992) ∨ (v1 = 0 ∧ v2 = 0 ∧ w = 0 ∧ m = 0 ∧ i = 0)):∃ u1 u2 k,side b x n u1 u2 k:=by
 have ea:vSub x b.pl = ((x1 - p1,false),(x2 - p2,false)):=by
  rw [ep,ex]
  unfold vSub
  rw [subN_eq (x:=x1) (y:=p1) (by omega) (by omega),subN_eq (x:=x2) (y:=p2) (by omega) (by omega)]
 generalize hA1:x1 - p1 = a1 at *
 generalize hA2:x2 - p2 = a2 at *
 have ha1:-274877906944 ≤ a1 ∧ a1 ≤ 274877906944:=by omega
 have ha2:-274877906944 ≤ a2 ∧ a2 ≤ 274877906944:=by omega
 clear hA1 hA2
 have k1:=mul_bd (A:=274877906944) (B:=257698037760) (x:=-a2) (y:=w) (by omega) (by omega) hw
 have k2:=mul_bd (A:=274877906944) (B:=257698037760) (x:=a1) (y:=w) (by omega) ha1 hw
 obtain ⟨r1,r1a,r1b⟩:=@mulN_eq (-a2) w 16492674416640 (by omega) (by omega) (by omega) (by omega)
 obtain ⟨r2,r2a,r2b⟩:=@mulN_eq a1 w 16492674416640 (by omega) (by omega) (by omega) (by omega)
 have et:vTurn b.w (vSub x b.pl) = (((-a2 * w).tdiv 4294967296,false),((a1 * w).tdiv 4294967296,false)):=by
  rw [ea,ew]
  unfold vTurn vScale vPerp
  dsimp only
  rw [negN_eq (x:=a2) (by omega),nwh_eq (x:=a1) (by omega),r1,r2]
 have k3:=mul_bd (A:=274877906944) (B:=4294967296) (x:=a1) (y:=n2) (by omega) ha1 hn2
 have k4:=mul_bd (A:=274877906944) (B:=4294967296) (x:=-a2) (y:=n1) (by omega) (by omega) hn1
 obtain ⟨r3,r3a,r3b⟩:=@dotN_eq a1 n2 (-a2) n1 549755813888 (by omega) (by omega) (by omega) (by omega) (by omega) (by omega)
 have ec:vCross (vSub x b.pl) n = ((a1 * n2 + -a2 * n1).tdiv 4294967296,false):=by
  rw [ea,en]
  unfold vCross
  dsimp only
  rw [negN_eq (x:=a2) (by omega),r3]
 obtain ⟨Tx,eT⟩:∃ z,z = (-a2 * w).tdiv 4294967296:=⟨_,rfl⟩
 obtain ⟨Ty,eU⟩:∃ z,z = (a1 * w).tdiv 4294967296:=⟨_,rfl⟩
 obtain ⟨c,eC⟩:∃ z,z = (a1 * n2 + -a2 * n1).tdiv 4294967296:=⟨_,rfl⟩
 rw [← eT] at et r1a r1b
 rw [← eU] at et r2a r2b
 rw [← eC] at ec r3a r3b
 have k5:=mul_bd (A:=549755813888) (B:=549755813888) (x:=c) (y:=c) (by omega) (by omega) (by omega)
 obtain ⟨r4,r4a,r4b⟩:=@mulN_eq c c 70368744177664 (by omega) (by omega) (by omega) (by omega)
 obtain ⟨q,eq⟩:∃ z,z = (c * c).tdiv 4294967296:=⟨_,rfl⟩
 rw [← eq] at r4 r4a r4b
 have hq:0 ≤ q:=by rw [eq]; exact Int.tdiv_nonneg (sq0 c) (by decide)
 have hi0:0 ≤ i ∧ i ≤ 211106232532992:=by omega
 have k6:=mul_bd (A:=211106232532992) (B:=70368744177664) (x:=i) (y:=q) (by omega) (by omega) (by omega)
 obtain ⟨r5,r5a,r5b⟩:=@mulN_eq i q 3458764513820540928 (by omega) (by omega) (by omega) (by omega)
 obtain ⟨h',eh⟩:∃ z,z = (i * q).tdiv 4294967296:=⟨_,rfl⟩
 rw [← eh] at r5 r5a r5b
 have hh0:0 ≤ h':=by rw [eh]; exact Int.tdiv_nonneg (Int.mul_nonneg (by omega) hq) (by decide)
 have es:spdS b x = ((v1 + Tx,false),(v2 + Ty,false)):=by
  unfold spdS
  rw [et,ev]
  unfold vAdd
  rw [addN_eq (x:=v1) (y:=Tx) (by omega) (by omega),addN_eq (x:=v2) (y:=Ty) (by omega) (by omega)]
 have ef:hftS b x n = (m + h',false):=by
  unfold hftS
  rw [ec,r4,em,ei,r5,addN_eq (x:=m) (y:=h') (by omega) (by omega)]
 refine ⟨v1 + Tx,v2 + Ty,m + h',es,ef,by omega,by omega,by omega,?_⟩
 rw [en]
 rcases h with ⟨hm,hi⟩ | ⟨z1,z2,z3,z4,z5⟩
 ·exact side_num hv1 hv2 hw hn1 hn2 hm.1 hi.1 (by omega) eT eU eC eq eh
 ·subst z1 z2 z3 z4 z5
  rw [Int.mul_zero] at eT eU
  rw [Int.zero_mul] at eh
  have q0:(0:Int).tdiv 4294967296 = 0:=by decide
  rw [q0] at eT eU eh
  subst eT eU eh
  show -(18446744073709551614 * (0 + 0)) ≤ 2 * ((0 + 0) * n1 + (0 + 0) * n2) ∧ _ ≤ 18446744073709551614 * (0 + 0)
  rw [show (0 + 0:Int) = 0 from rfl,Int.zero_mul,Int.zero_mul]
  omega
theorem sli_ok {a b:Bd} {x n:V2} {u1 u2 k u1' u2' k':Int} (hn:gd n.1 4294967296 ∧ gd n.2 4294967296) (ha:side a x n u1 u2 k) (hb:side b x n u1' u2' k') (hk:(sliK a b x n).1 ≠ 0) :
  (sliS a b x n).2 = false ∧ (0 ≤ (vDot (vSub (spdS b x) (spdS a x)) n).1 → (sliS a b x n).1 ≤ 0):=by
 obtain ⟨a1,a2,a3,a4,a5,a6,a7⟩:=ha
 obtain ⟨b1,b2,b3,b4,b5,b6,b7⟩:=hb
 have ek:sliK a b x n = (k + k',false):=by
  unfold sliK
  rw [a2,b2,addN_eq (by omega) (by omega)]
 rw [ek] at hk
 dsimp only at hk
 obtain ⟨⟨f1,g1⟩,f2,g2⟩:=hn
 have en:n = ((n.1.1,false),(n.2.1,false)):=Prod.ext (Prod.ext rfl f1) (Prod.ext rfl f2)
 generalize n.1.1 = n1 at *
 generalize n.2.1 = n2 at *
 have m1:=mul_bd (A:=35184372088832) (B:=4294967296) (x:=u1' - u1) (y:=n1) (by omega) (by omega) g1
 have m2:=mul_bd (A:=35184372088832) (B:=4294967296) (x:=u2' - u2) (y:=n2) (by omega) (by omega) g2
 obtain ⟨r,ra,rb⟩:=@dotN_eq (u1' - u1) n1 (u2' - u2) n2 70368744177664 (by omega) (by omega) (by omega) (by omega) (by omega) (by omega)
 have ev:vDot (vSub (spdS b x) (spdS a x)) n = (((u1' - u1) * n1 + (u2' - u2) * n2).tdiv 4294967296,false):=by
  rw [a1,b1,en]
  unfold vDot vSub
  dsimp only
  rw [subN_eq (by omega) (by omega),subN_eq (by omega) (by omega),r]
 have eD:(u1' - u1) * n1 + (u2' - u2) * n2 = (u1' * n1 + u2' * n2) - (u1 * n1 + u2 * n2):=by grind
 have hD:-(18446744073709551614 * (k + k')) ≤ 2 * ((u1' - u1) * n1 + (u2' - u2) * n2) ∧ 2 * ((u1' - u1) * n1 + (u2' - u2) * n2) ≤ 18446744073709551614 * (k + k'):=by rw [eD]; omega
 obtain ⟨D,hDe⟩:∃ D,D = (u1' - u1) * n1 + (u2' - u2) * n2:=⟨_,rfl⟩
 rw [← hDe] at ev ra rb hD
 obtain ⟨R,hR⟩:∃ R,R = D.tdiv 4294967296:=⟨_,rfl⟩
 have lo1:-(9223372036854775807 * (k + k')) ≤ R * 4294967296 ∧ R * 4294967296 ≤ 9223372036854775807 * (k + k'):=by
  rw [hR]
  by_cases s:0 ≤ D
  ·rw [Int.tdiv_eq_ediv_of_nonneg s]
   have q1:=Int.ediv_mul_le D (show (4294967296:Int) ≠ 0 by decide)
   have q2:=Int.mul_nonneg (Int.ediv_nonneg s (show (0:Int) ≤ 4294967296 by decide)) (show (0:Int) ≤ 4294967296 by decide)
   generalize D / 4294967296 * 4294967296 = z at *
   omega
  ·have e:D.tdiv 4294967296 = -((-D) / 4294967296):=by rw [← Int.tdiv_eq_ediv_of_nonneg (show 0 ≤ -D by omega),Int.neg_tdiv,Int.neg_neg]
   rw [e]
   have q1:=Int.ediv_mul_le (-D) (show (4294967296:Int) ≠ 0 by decide)
   have q2:=Int.mul_nonneg (Int.ediv_nonneg (show 0 ≤ -D by omega) (show (0:Int) ≤ 4294967296 by decide)) (show (0:Int) ≤ 4294967296 by decide)
   rw [Int.neg_mul]
   generalize (-D) / 4294967296 * 4294967296 = z at *
   omega
 rw [← hR] at ev ra rb
 have es:sliS a b x n = nDiv (-R,false) (k + k',false):=by
  unfold sliS
  rw [ev,ek,negN_eq (by omega)]
 rw [ev,es]
 dsimp only
 have hK:0 < k + k':=by omega
 have t:=tdiv_bd (v:=-R * 4294967296) (C:=9223372036854775807) (k:=k + k') hK (by rw [Int.neg_mul]; omega)
 unfold nDiv
 dsimp only
 rw [whV_of (v:=-R) (by unfold rg; omega),whV_of (v:=k + k') (by unfold rg; omega),whF_of (v:=-R) (by unfold rg; omega),whF_of (v:=k + k') (by unfold rg; omega)]
 unfold raV raF
 rw [if_neg hk,if_neg hk]
 refine ⟨?_,fun h0 => ?_⟩
 ·rw [ftF_of (by unfold rg; exact t)]; rfl
 ·rw [ftV_of (by unfold rg; exact t)]
  have e:(-R * 4294967296).tdiv (k + k') = -((R * 4294967296).tdiv (k + k')):=by rw [Int.neg_mul,Int.neg_tdiv]
  have:=Int.tdiv_nonneg (show 0 ≤ R * 4294967296 by omega) (show 0 ≤ k + k' by omega)
  omega
theorem lim_in {x n:Int} {f:Bool} (hn:0 ≤ n ∧ n ≤ 65536) (h:-(n * 4294967296) ≤ x ∧ x ≤ n * 4294967296):limS (x,f) n = (x,false):=by
 unfold limS nCl
 rw [int_in (k:=-n) (by omega),int_in (k:=n) (by omega)]
 dsimp only
 rw [whV_of (v:=x) (by unfold rg; omega),whV_of (v:=-n * 4294967296) (by unfold rg; omega),whV_of (v:=n * 4294967296) (by unfold rg; omega)]
 have:max (-n * 4294967296) (min x (n * 4294967296)) = x:=by omega
 rw [this]
theorem mul0_v {f:Bool} {m:Nb}:(nMul (0,f) m).1 = 0:=by
 show ftV ((whV 0 * whV m.1).tdiv 4294967296) = 0
 rw [show whV 0 = 0 from rfl,Int.zero_mul]
 rfl
theorem mul0_v' {f:Bool} {m:Nb}:(nMul m (0,f)).1 = 0:=by
 show ftV ((whV m.1 * whV 0).tdiv 4294967296) = 0
 rw [show whV 0 = 0 from rfl,Int.mul_zero]
 rfl
theorem add0_v {x:Int} {f g:Bool} (h:-9223372036854775807 ≤ x ∧ x ≤ 9223372036854775807):(nAdd (x,f) (0,g)).1 = x:=by
 show ftV (whV x + whV 0) = x
 rw [show whV 0 = 0 from rfl,whV_of (v:=x) h,Int.add_zero,ftV_of (by unfold rg; exact h)]
theorem psh_0 {b:Bd} {p j:V2} {v1 v2 w:Int} (hj:j.1.1 = 0 ∧ j.2.1 = 0) (ev:b.v = ((v1,false),(v2,false))) (ew:b.w = (w,false)) (hs:b.sl = false)
  (hv1:-858993459200 ≤ v1 ∧ v1 ≤ 858993459200) (hv2:-858993459200 ≤ v2 ∧ v2 ≤ 858993459200) (hw:-257698037760 ≤ w ∧ w ≤ 257698037760):pshS b p j = b:=by
 have e1:limV (vAdd b.v (vScale j b.m)) = b.v:=by
  rw [ev]
  unfold limV vAdd vScale
  dsimp only
  have q:∀ (x:Int) (t:Nb),t.1 = 0 → (-858993459200 ≤ x ∧ x ≤ 858993459200) → limS (nAdd (x,false) (nMul t b.m)) 256 = (x,false):=fun x t ht hx => by
   have z:(nMul t b.m).1 = 0:=by
    rw [show t = (0,t.2) from Prod.ext ht rfl]; exact mul0_v
   have z2:(nAdd (x,false) (nMul t b.m)).1 = x:=by
    rw [show nMul t b.m = (0,(nMul t b.m).2) from Prod.ext z rfl]
    exact add0_v (by omega)
   rw [show nAdd (x,false) (nMul t b.m) = (x,(nAdd (x,false) (nMul t b.m)).2) from Prod.ext z2 rfl]
   exact lim_in (by omega) (by omega)
  rw [q v1 j.1 hj.1 hv1,q v2 j.2 hj.2 hv2]
 have e2:limS (nAdd b.w (nMul b.i (vCross (vSub p b.pl) j))) 64 = b.w:=by
  rw [ew]
  have z0:(vCross (vSub p b.pl) j).1 = 0:=by
   show ftV ((whV _ * whV j.2.1 + whV _ * whV j.1.1).tdiv 4294967296) = 0
   rw [hj.1,hj.2,show whV 0 = 0 from rfl,Int.mul_zero,Int.mul_zero]
   rfl
  have z1:(nMul b.i (vCross (vSub p b.pl) j)).1 = 0:=by
   rw [show vCross (vSub p b.pl) j = (0,(vCross (vSub p b.pl) j).2) from Prod.ext z0 rfl]; exact mul0_v'
  have z2:(nAdd (w,false) (nMul b.i (vCross (vSub p b.pl) j))).1 = w:=by
   rw [show nMul b.i (vCross (vSub p b.pl) j) = (0,(nMul b.i (vCross (vSub p b.pl) j)).2) from Prod.ext z1 rfl]
   exact add0_v (by omega)
  rw [show nAdd (w,false) (nMul b.i (vCross (vSub p b.pl) j)) = (w,(nAdd (w,false) (nMul b.i (vCross (vSub p b.pl) j))).2) from Prod.ext z2 rfl]
  exact lim_in (by omega) (by omega)
 unfold pshS
 split
 ·rfl
 ·dsimp only
  rw [e1,e2]
  rw [if_neg (by rw [hs]; decide)]
def calm (b:Bd):Prop:=b.sl = false ∧ ∃ v1 v2 w,b.v = ((v1,false),(v2,false)) ∧ b.w = (w,false) ∧ (-858993459200 ≤ v1 ∧ v1 ≤ 858993459200) ∧ (-858993459200 ≤ v2 ∧ v2 ≤ 858993459200) ∧ (-257698037760 ≤ w ∧ w ≤ 257698037760)
theorem calm_psh {b:Bd} {p j:V2} (h:calm b) (hj:j.1.1 = 0 ∧ j.2.1 = 0):pshS b p j = b:=by
 obtain ⟨h0,v1,v2,w,h1,h2,h3,h4,h5⟩:=h
 exact psh_0 hj h1 h2 h0 h3 h4 h5
theorem hitR_leave {a b:Bd} {x n:V2} (ca:calm a) (cb:calm b) (hn:gd n.1 4294967296 ∧ gd n.2 4294967296)
  (h1:∃ u1 u2 k u1' u2' k',side a x n u1 u2 k ∧ side b x n u1' u2' k') (h2:∃ u1 u2 k u1' u2' k',side a x (vPerp n) u1 u2 k ∧ side b x (vPerp n) u1' u2' k')
  (hv:0 ≤ (vDot (vSub (spdS b x) (spdS a x)) n).1):hitR a b x n (0,false) (0,false) = ⟨a,b,(0,false),(0,false)⟩:=by
 obtain ⟨⟨f1,g1⟩,f2,g2⟩:=id hn
 have en:n = ((n.1.1,false),(n.2.1,false)):=Prod.ext (Prod.ext rfl f1) (Prod.ext rfl f2)
 have hn2:gd (vPerp n).1 4294967296 ∧ gd (vPerp n).2 4294967296:=by
  rw [en]
  unfold vPerp
  dsimp only
  rw [negN_eq (by omega),nwh_eq (by omega)]
  exact ⟨⟨rfl,by dsimp only; omega⟩,rfl,by dsimp only; omega⟩
 by_cases hk:(sliK a b x n).1 = 0
 ·unfold hitR
  rw [if_pos hk]
 obtain ⟨u1,u2,k,u1',u2',k',s1,s2⟩:=h1
 obtain ⟨o1,o2⟩:=sli_ok hn s1 s2 hk
 have o3:=o2 hv
 have z0:hitN a b x n (0,false) = (0,false):=by
  unfold hitN
  have r:rg (sliS a b x n).1:=raV_rg
  unfold rg at r
  generalize sliS a b x n = s at *
  have e:nAdd (0,false) s = (s.1,false):=by
   unfold nAdd
   dsimp only
   rw [show whV 0 = 0 from rfl,show whF 0 false = false from rfl,whV_of (v:=s.1) (by unfold rg; exact r),whF_of (v:=s.1) (by unfold rg; exact r),o1,Int.zero_add,ftV_of (by unfold rg; exact r),ftF_of (by unfold rg; exact r)]
   rfl
  rw [e]
  unfold nPos
  dsimp only
  rw [whV_of (v:=s.1) (by unfold rg; exact r),whF_of (v:=s.1) (by unfold rg; exact r),if_neg (by omega)]
 have zs:nSub (0,false) (0,false) = (0,false):=by decide
 have zA:∀ t:V2,apaA a x t (0,false) = a:=fun t => by
  unfold apaA
  refine calm_psh ca ?_
  rw [show nNeg (0,false) = (0,false) from by decide]
  exact ⟨mul0_v',mul0_v'⟩
 have zB:∀ t:V2,apaB b x t (0,false) = b:=fun t => by
  unfold apaB
  exact calm_psh cb ⟨mul0_v',mul0_v'⟩
 by_cases hk2:(sliK a b x (vPerp n)).1 = 0
 ·rw [hitR_b hk (by rw [z0,zs,zA,zB]; exact hk2),z0,zs,zA,zB]
 ·rw [hitR_c hk (by rw [z0,zs,zA,zB]; exact hk2)]
  dsimp only
  rw [z0,zs,zA,zB]
  obtain ⟨u1,u2,k,u1',u2',k',s1,s2⟩:=h2
  obtain ⟨p1,p2⟩:=sli_ok hn2 s1 s2 hk2
  have r:rg (sliS a b x (vPerp n)).1:=raV_rg
  have zY:hitY a b x (vPerp n) (0,false) (0,false) = (0,false):=by
   unfold hitY
   have m0:nMul (0,false) (nRat 1 2) = (0,false):=by decide
   rw [m0,show nNeg (0,false) = (0,false) from by decide]
   unfold rg at r
   generalize sliS a b x (vPerp n) = s at *
   unfold nCl nAdd
   dsimp only
   rw [show whV 0 = 0 from rfl,show whF 0 false = false from rfl,whV_of (v:=s.1) (by unfold rg; exact r),whF_of (v:=s.1) (by unfold rg; exact r),p1,Int.zero_add,ftV_of (x:=s.1) (by unfold rg; exact r),ftF_of (x:=s.1) (by unfold rg; exact r),whV_of (v:=s.1) (by unfold rg; exact r),whF_of (v:=s.1) (by unfold rg; exact r)]
   have:max 0 (min s.1 0) = 0:=by omega
   rw [this]
   rfl
  rw [zY,zs,zA,zB]
end Go.Ax
end
section
/-
  Corners with a margin stay convex when they are turned and rounded.
-/
set_option maxHeartbeats 4000000
set_option maxRecDepth 100000
namespace Go.Ax
open Go.Proofs
def mg (ax ay bx byy cx cy:Int):Prop:=2 * (ab (bx - ax) + ab (byy - ay) + (ab (cx - ax) + ab (cy - ay))) + 8 ≤ (bx - ax) * (cy - ay) - (byy - ay) * (cx - ax)
def mrg (n:Nat) (X Y:Nat → Int):Prop:=∀ i,i < n → ∀ j,j < n → j ≠ i → j ≠ nxt n i → mg (X i) (Y i) (X (nxt n i)) (Y (nxt n i)) (X j) (Y j)
theorem abs_mul (x y:Int):ab (x * y) = ab x * ab y:=by rw [ab_natAbs,ab_natAbs,ab_natAbs,Int.natAbs_mul]; rfl
theorem abs_le (x:Int):x ≤ ab x ∧ -x ≤ ab x:=by unfold ab; split <;> omega
theorem abs_add (x y:Int):ab (x + y) ≤ ab x + ab y:=by unfold ab; (repeat' split) <;> omega
theorem abs_sub (x y:Int):ab (x - y) ≤ ab x + ab y:=by unfold ab; (repeat' split) <;> omega
theorem abs_bil {p q g h H K:Int} (hg:ab g ≤ H) (hh:ab h ≤ H) (hp:ab p + ab q ≤ K):ab (p * h - q * g) ≤ H * K:=by
 have h1:=abs_sub (p * h) (q * g)
 rw [abs_mul,abs_mul] at h1
 have k1:ab p * ab h ≤ ab p * H:=Int.mul_le_mul_of_nonneg_left hh (ab_nonneg _)
 have k2:ab q * ab g ≤ ab q * H:=Int.mul_le_mul_of_nonneg_left hg (ab_nonneg _)
 have k3:(ab p + ab q) * H ≤ K * H:=Int.mul_le_mul_of_nonneg_right hp (by have:=ab_nonneg g; omega)
 rw [Int.add_mul] at k3
 rw [Int.mul_comm H K]
 omega
theorem abs_lin {c s x y S:Int} (hS:ab c + ab s ≤ S):ab (c * x - s * y) + ab (s * x + c * y) ≤ S * (ab x + ab y):=by
 have h1:=abs_sub (c * x) (s * y)
 have h2:=abs_add (s * x) (c * y)
 rw [abs_mul,abs_mul] at h1 h2
 have k:(ab c + ab s) * (ab x + ab y) ≤ S * (ab x + ab y):=Int.mul_le_mul_of_nonneg_right hS (by have:=ab_nonneg x; have:=ab_nonneg y; omega)
 have e:(ab c + ab s) * (ab x + ab y) = ab c * ab x + ab s * ab y + (ab s * ab x + ab c * ab y):=by
  rw [Int.add_mul,Int.mul_add,Int.mul_add]; omega
 omega
theorem rot_cross {c s ex ey fx fy d1 d2 g1 g2:Int} (hc:18446462598732840960 ≤ c * c + s * s) (hS:ab c + ab s ≤ 6442450944)
  (h1:ab d1 ≤ 4294967808) (h2:ab d2 ≤ 4294967808) (h3:ab g1 ≤ 4294967808) (h4:ab g2 ≤ 4294967808)
  (hm:2 * (ab ex + ab ey + (ab fx + ab fy)) + 8 ≤ ex * fy - ey * fx) :
  0 < (c * ex - s * ey + d1) * (s * fx + c * fy + g2) - (s * ex + c * ey + d2) * (c * fx - s * fy + g1):=by
 have e:(c * ex - s * ey + d1) * (s * fx + c * fy + g2) - (s * ex + c * ey + d2) * (c * fx - s * fy + g1)
   = (c * c + s * s) * (ex * fy - ey * fx) + ((c * ex - s * ey) * g2 - (s * ex + c * ey) * g1) - ((c * fx - s * fy) * d2 - (s * fx + c * fy) * d1) + (d1 * g2 - d2 * g1):=by grind
 have b1:=abs_bil (p:=c * ex - s * ey) (q:=s * ex + c * ey) h3 h4 (abs_lin hS)
 have b2:=abs_bil (p:=c * fx - s * fy) (q:=s * fx + c * fy) h1 h2 (abs_lin hS)
 have b3:=abs_bil (p:=d1) (q:=d2) (K:=8589935616) h3 h4 (by omega)
 have m:=Int.mul_le_mul_of_nonneg_right hc (show 0 ≤ ex * fy - ey * fx by have:=ab_nonneg ex; have:=ab_nonneg ey; have:=ab_nonneg fx; have:=ab_nonneg fy; omega)
 rw [e]
 have l1:=abs_le ((c * ex - s * ey) * g2 - (s * ex + c * ey) * g1)
 have l2:=abs_le ((c * fx - s * fy) * d2 - (s * fx + c * fy) * d1)
 have l3:=abs_le (d1 * g2 - d2 * g1)
 have n1:=ab_nonneg ex
 have n2:=ab_nonneg ey
 have n3:=ab_nonneg fx
 have n4:=ab_nonneg fy
 generalize ab ex + ab ey = E at *
 generalize ab fx + ab fy = F at *
 generalize ex * fy - ey * fx = M at *
 generalize (c * c + s * s) * M = Q at *
 generalize (c * ex - s * ey) * g2 - (s * ex + c * ey) * g1 = r1 at *
 generalize (c * fx - s * fy) * d2 - (s * fx + c * fy) * d1 = r2 at *
 generalize d1 * g2 - d2 * g1 = r3 at *
 have hE:0 ≤ E:=by omega
 have hF:0 ≤ F:=by omega
 clear n1 n2 n3 n4 e h1 h2 h3 h4 hS hc
 omega
theorem rot_sum {c s:Int} (h:c * c + s * s ≤ 18447025548686262272):ab c + ab s ≤ 6442450944:=by
 refine Int.not_lt.1 fun hn => ?_
 have a1:=ab_nonneg c
 have a2:=ab_nonneg s
 have e1:ab c * ab c = c * c:=by rw [← abs_mul]; have:=sq0 c; unfold ab; rw [if_neg (by omega)]
 have e2:ab s * ab s = s * s:=by rw [← abs_mul]; have:=sq0 s; unfold ab; rw [if_neg (by omega)]
 have q:=sq0 (ab c - ab s)
 have w:6442450945 * 6442450945 ≤ (ab c + ab s) * (ab c + ab s):=Int.mul_le_mul hn hn (by omega) (by omega)
 have e3:(ab c - ab s) * (ab c - ab s) = ab c * ab c - 2 * (ab c * ab s) + ab s * ab s:=by grind
 have e4:(ab c + ab s) * (ab c + ab s) = ab c * ab c + 2 * (ab c * ab s) + ab s * ab s:=by grind
 rw [e3] at q
 rw [e4] at w
 omega
theorem foRot_bd (u:Int):(foRot u).1.2 = false ∧ (foRot u).2.2 = false ∧ (-4294967296 ≤ (foRot u).1.1 ∧ (foRot u).1.1 ≤ 4294967296) ∧ (-4294967296 ≤ (foRot u).2.1 ∧ (foRot u).2.1 ≤ 4294967296) ∧
  18446708889337462784 ≤ (foRot u).1.1 * (foRot u).1.1 + (foRot u).2.1 * (foRot u).2.1 ∧ (foRot u).1.1 * (foRot u).1.1 + (foRot u).2.1 * (foRot u).2.1 ≤ 18446779258081640448:=by
 have hv:-1000000000000000 ≤ u.tmod (8 * 4294967296) ∧ u.tmod (8 * 4294967296) ≤ 1000000000000000:=by
  have h1:u.tmod (8 * 4294967296) < 8 * 4294967296:=Int.tmod_lt_of_pos u (by omega)
  have h2:-(8 * 4294967296) < u.tmod (8 * 4294967296):=Int.lt_tmod_of_pos u (by omega)
  omega
 unfold foRot
 dsimp only
 generalize u.tmod (8 * 4294967296) = v at *
 have hp:=@wpV_le v
 obtain ⟨q,q1,q2,q3,q4,q5⟩:=qt_pair hp
 have hc:=sq_circle q2 q1 q3 q5
 obtain ⟨s1,s2⟩:=snV_q hv
 obtain ⟨c1,c2⟩:=csV_q hv
 rw [s1,s2,c1,c2]
 generalize sq (qtV (wpV v)) 8 = S at *
 generalize sq (qtV (if 13493037704 < wpV v + 6746518852 then wpV v + 6746518852 - 26986075409 else wpV v + 6746518852)) 8 = C at *
 have hk:=cl_circle hc
 exact ⟨rfl,rfl,cl1_bd,cl1_bd,by omega,by omega⟩
theorem nRat_loc {x:Int} (h:lo x):nRat x 256 = (x * 16777216,false):=by
 unfold lo at h
 have e:(x * 4294967296).tdiv 256 = x * 16777216:=by
  rw [show x * 4294967296 = x * 16777216 * 256 by omega]
  exact Int.mul_tdiv_cancel _ (by decide)
 unfold nRat raV raF
 rw [if_neg (by decide),if_neg (by decide),e,ftV_of (by unfold rg; omega),ftF_of (by unfold rg; omega)]
 rfl
theorem nAdd_in {a b:Int} (ha:-4611686018427387903 ≤ a ∧ a ≤ 4611686018427387903) (hb:-4611686018427387903 ≤ b ∧ b ≤ 4611686018427387903):nAdd (a,false) (b,false) = (a + b,false):=by
 unfold nAdd
 dsimp only
 rw [whV_of (by unfold rg; omega),whV_of (by unfold rg; omega),whF_of (by unfold rg; omega),whF_of (by unfold rg; omega),ftV_of (by unfold rg; omega),ftF_of (by unfold rg; omega)]
 rfl
theorem nNeg_in {a:Int} (ha:-4611686018427387903 ≤ a ∧ a ≤ 4611686018427387903):nNeg (a,false) = (-a,false):=by
 unfold nNeg
 dsimp only
 rw [whV_of (by unfold rg; omega),whF_of (by unfold rg; omega)]
theorem nDot_loc {c s x y:Int} (hc:-4294967296 ≤ c ∧ c ≤ 4294967296) (hs:-4294967296 ≤ s ∧ s ≤ 4294967296) (hx:lo x) (hy:lo y) :
  ∃ t,nDot (c,false) (x * 16777216,false) (s,false) (y * 16777216,false) = (t,false) ∧ -256 ≤ 256 * t - (c * x + s * y) ∧ 256 * t - (c * x + s * y) ≤ 256 ∧ -35184372088832 ≤ c * x + s * y ∧ c * x + s * y ≤ 35184372088832:=by
 have m1:=mul_bd (A:=4294967296) (B:=4096) (by omega) hc hx
 have m2:=mul_bd (A:=4294967296) (B:=4096) (by omega) hs hy
 have e:c * (x * 16777216) + s * (y * 16777216) = (c * x + s * y) * 16777216:=by rw [← Int.mul_assoc,← Int.mul_assoc,← Int.add_mul]
 have d:=td_err (x:=(c * x + s * y) * 16777216) (k:=4294967296) (by decide)
 refine ⟨((c * x + s * y) * 16777216).tdiv 4294967296,?_,by omega,by omega,by omega,by omega⟩
 unfold nDot
 dsimp only
 unfold lo at hx hy
 rw [whV_of (by unfold rg; omega),whV_of (by unfold rg; omega),whV_of (by unfold rg; omega),whV_of (by unfold rg; omega),whF_of (by unfold rg; omega),whF_of (by unfold rg; omega),whF_of (by unfold rg; omega),whF_of (by unfold rg; omega),e,
  ftV_of (by unfold rg; omega),ftF_of (by unfold rg; omega)]
 rfl
theorem spV_in {a:Int} (h:-18014398509481984 ≤ a ∧ a ≤ 18014398509481984):spV (a,false) = (a * 256 + 2147483648) / 4294967296:=by
 have e:nInt 256 = (1099511627776,false):=by decide
 have e2:(a * 1099511627776).tdiv 4294967296 = a * 256:=by
  rw [show a * 1099511627776 = a * 256 * 4294967296 by omega]
  exact Int.mul_tdiv_cancel _ (by decide)
 unfold spV nMul
 rw [e]
 dsimp only
 rw [whV_of (v:=a) (by unfold rg; omega),whV_of (v:=1099511627776) (by unfold rg; omega),e2,ftV_of (by unfold rg; omega),whV_of (by unfold rg; omega)]
theorem pl_err {ax ay c s x y:Int} (ha:-17592186044416 ≤ ax ∧ ax ≤ 17592186044416) (ha2:-17592186044416 ≤ ay ∧ ay ≤ 17592186044416) (hc:-4294967296 ≤ c ∧ c ≤ 4294967296) (hs:-4294967296 ≤ s ∧ s ≤ 4294967296) (hx:lo x) (hy:lo y) :
  (∃ d,4294967296 * spV (plPt ((ax,false),(ay,false)) ((c,false),(s,false)) x y).1 = 256 * ax + (c * x - s * y) + d ∧ ab d ≤ 2147483904) ∧
  (∃ d,4294967296 * spV (plPt ((ax,false),(ay,false)) ((c,false),(s,false)) x y).2 = 256 * ay + (s * x + c * y) + d ∧ ab d ≤ 2147483904):=by
 obtain ⟨t,h1,h2,h3,h4,h5⟩:=nDot_loc hc (s:=-s) (by omega) hx hy
 obtain ⟨t',k1,k2,k3,k4,k5⟩:=nDot_loc hs (s:=c) hc hx hy
 rw [Int.neg_mul] at h2 h3 h4 h5
 have e:plPt ((ax,false),(ay,false)) ((c,false),(s,false)) x y = ((ax + t,false),(ay + t',false)):=by
  unfold plPt vAdd vApply vLoc
  dsimp only
  rw [nRat_loc hx,nRat_loc hy,nNeg_in (by omega),h1,k1,nAdd_in (by omega) (by omega),nAdd_in (by omega) (by omega)]
 rw [e]
 dsimp only
 rw [spV_in (by omega),spV_in (by omega)]
 refine ⟨⟨4294967296 * (((ax + t) * 256 + 2147483648) / 4294967296) - (256 * ax + (c * x - s * y)),by omega,?_⟩,⟨4294967296 * (((ay + t') * 256 + 2147483648) / 4294967296) - (256 * ay + (s * x + c * y)),by omega,?_⟩⟩
 ·have:=Int.emod_nonneg ((ax + t) * 256 + 2147483648) (show (4294967296:Int) ≠ 0 by decide)
  have:=Int.emod_lt_of_pos ((ax + t) * 256 + 2147483648) (show (0:Int) < 4294967296 by decide)
  have:=Int.emod_add_mul_ediv ((ax + t) * 256 + 2147483648) 4294967296
  unfold ab
  split <;> omega
 ·have:=Int.emod_nonneg ((ay + t') * 256 + 2147483648) (show (4294967296:Int) ≠ 0 by decide)
  have:=Int.emod_lt_of_pos ((ay + t') * 256 + 2147483648) (show (0:Int) < 4294967296 by decide)
  have:=Int.emod_add_mul_ediv ((ay + t') * 256 + 2147483648) 4294967296
  unfold ab
  split <;> omega
theorem turn_of {ax ay bx byy cx cy D1 D2 F1 F2:Int} (h1:4294967296 * (bx - ax) = D1) (h2:4294967296 * (byy - ay) = D2) (h3:4294967296 * (cx - ax) = F1) (h4:4294967296 * (cy - ay) = F2) (h:0 < D1 * F2 - D2 * F1):0 < turnS ax ay bx byy cx cy:=by
 unfold turnS
 have e:D1 * F2 - D2 * F1 = 18446744073709551616 * ((bx - ax) * (cy - ay) - (byy - ay) * (cx - ax)):=by
  rw [← h1,← h2,← h3,← h4]; grind
 omega
theorem pl_cvx {n:Nat} {X Y:Nat → Int} {ax ay c s:Int} (hn:3 ≤ n) (hl:∀ i,i < n → lo (X i) ∧ lo (Y i)) (hm:mrg n X Y) (ha:-17179869184000 ≤ ax ∧ ax ≤ 17179869184000) (ha2:-17179869184000 ≤ ay ∧ ay ≤ 17179869184000)
  (hc:-4294967296 ≤ c ∧ c ≤ 4294967296) (hs:-4294967296 ≤ s ∧ s ≤ 4294967296) (h1:18446462598732840960 ≤ c * c + s * s) (h2:c * c + s * s ≤ 18447025548686262272) {Z T:Nat → Int}
  (hZ:∀ i,i < n → Z i = spV (plPt ((ax,false),(ay,false)) ((c,false),(s,false)) (X i) (Y i)).1) (hT:∀ i,i < n → T i = spV (plPt ((ax,false),(ay,false)) ((c,false),(s,false)) (X i) (Y i)).2):convexS n Z T = true:=by
 have hE:∀ i,i < n → (∃ d,4294967296 * Z i = 256 * ax + (c * X i - s * Y i) + d ∧ ab d ≤ 2147483904) ∧ (∃ d,4294967296 * T i = 256 * ay + (s * X i + c * Y i) + d ∧ ab d ≤ 2147483904):=fun i hi => by
  rw [hZ i hi,hT i hi]
  exact pl_err (by omega) (by omega) hc hs (hl i hi).1 (hl i hi).2
 refine convexS_iff.2 ⟨hn,fun i hi => ?_,fun i hi j hj k1 k2 => ?_⟩
 ·obtain ⟨⟨d,q1,q2⟩,⟨g,q3,q4⟩⟩:=hE i hi
  have m1:=mul_bd (A:=4294967296) (B:=4096) (by omega) hc (hl i hi).1
  have m2:=mul_bd (A:=4294967296) (B:=4096) (by omega) hs (hl i hi).2
  have m3:=mul_bd (A:=4294967296) (B:=4096) (by omega) hs (hl i hi).1
  have m4:=mul_bd (A:=4294967296) (B:=4096) (by omega) hc (hl i hi).2
  have a1:=abs_le d
  have a2:=abs_le g
  rw [validS_iff]
  omega
 ·have hx:=nxt_lt hi
  obtain ⟨⟨d,q1,q2⟩,⟨g,q3,q4⟩⟩:=hE i hi
  obtain ⟨⟨d',q5,q6⟩,⟨g',q7,q8⟩⟩:=hE _ hx
  obtain ⟨⟨d'',q9,q10⟩,⟨g'',q11,q12⟩⟩:=hE j hj
  have hmm:=hm i hi j hj k1 k2
  have b1:=abs_sub d' d
  have b2:=abs_sub g' g
  have b3:=abs_sub d'' d
  have b4:=abs_sub g'' g
  have r:=rot_cross (ex:=X (nxt n i) - X i) (ey:=Y (nxt n i) - Y i) (fx:=X j - X i) (fy:=Y j - Y i) (d1:=d' - d) (d2:=g' - g) (g1:=d'' - d) (g2:=g'' - g) h1 (rot_sum h2) (by omega) (by omega) (by omega) (by omega) hmm
  have e:∀ x y z w:Int,c * (x - y) - s * (z - w) = c * x - s * z - (c * y - s * w):=fun x y z w => by grind
  have e':∀ x y z w:Int,s * (x - y) + c * (z - w) = s * x + c * z - (s * y + c * w):=fun x y z w => by grind
  refine turn_of (D1:=c * (X (nxt n i) - X i) - s * (Y (nxt n i) - Y i) + (d' - d)) (D2:=s * (X (nxt n i) - X i) + c * (Y (nxt n i) - Y i) + (g' - g)) (F1:=c * (X j - X i) - s * (Y j - Y i) + (d'' - d)) (F2:=s * (X j - X i) + c * (Y j - Y i) + (g'' - g)) ?_ ?_ ?_ ?_ r
  ·rw [e]; omega
  ·rw [e']; omega
  ·rw [e]; omega
  ·rw [e']; omega
end Go.Ax
end
section
/-
  Made polygons have a margin.
-/
set_option maxHeartbeats 4000000
set_option maxRecDepth 100000
namespace Go.Ax
open Go.Proofs
theorem ab_bd {x D:Int} (h1:-D ≤ x) (h2:x ≤ D):ab x ≤ D:=by unfold ab; split <;> omega
theorem mg_of {ax ay bx byy cx cy D E:Int} (h1:-D ≤ ax ∧ ax ≤ D) (h2:-E ≤ ay ∧ ay ≤ E) (h3:-D ≤ bx ∧ bx ≤ D) (h4:-E ≤ byy ∧ byy ≤ E) (h5:-D ≤ cx ∧ cx ≤ D) (h6:-E ≤ cy ∧ cy ≤ E)
  (h:8 * D + 8 * E + 8 ≤ (bx - ax) * (cy - ay) - (byy - ay) * (cx - ax)):mg ax ay bx byy cx cy:=by
 have k1:=@ab_bd (bx - ax) (2 * D) (by omega) (by omega)
 have k2:=@ab_bd (byy - ay) (2 * E) (by omega) (by omega)
 have k3:=@ab_bd (cx - ax) (2 * D) (by omega) (by omega)
 have k4:=@ab_bd (cy - ay) (2 * E) (by omega) (by omega)
 unfold mg
 generalize (bx - ax) * (cy - ay) - (byy - ay) * (cx - ax) = Q at *
 omega
theorem box_mrgB {w t:Int} (hw:16 ≤ w) (ht:16 ≤ t) {X Y:Nat → Int} (x0:X 0 = -w) (y0:Y 0 = -t) (x1:X 1 = w) (y1:Y 1 = -t) (x2:X 2 = w) (y2:Y 2 = t) (x3:X 3 = -w) (y3:Y 3 = t):∀ i,i < 4 → (-w ≤ X i ∧ X i ≤ w) ∧ (-t ≤ Y i ∧ Y i ≤ t):=by
 intro i hi
 match i,hi with
 | 0,_ => rw [x0,y0]; omega
 | 1,_ => rw [x1,y1]; omega
 | 2,_ => rw [x2,y2]; omega
 | 3,_ => rw [x3,y3]; omega
 | i + 4,h => omega
theorem box_mrg_0 {w t:Int} (hw:16 ≤ w) (ht:16 ≤ t) {X Y:Nat → Int} (x0:X 0 = -w) (y0:Y 0 = -t) (x1:X 1 = w) (y1:Y 1 = -t) (x2:X 2 = w) (y2:Y 2 = t) (x3:X 3 = -w) (y3:Y 3 = t):∀ j,j < 4 → j ≠ 0 → j ≠ 1 → 8 * w + 8 * t + 8 ≤ (X 1 - X 0) * (Y j - Y 0) - (Y 1 - Y 0) * (X j - X 0):=by
 have p1:16 * t ≤ w * t:=Int.mul_le_mul_of_nonneg_right hw (by omega)
 have p2:w * 16 ≤ w * t:=Int.mul_le_mul_of_nonneg_left ht (by omega)
 intro j hj k1 k2
 match j,hj,k1,k2 with
 | 0,_,k1,_ => exact absurd rfl k1
 | 1,_,_,k2 => exact absurd rfl k2
 | 2,_,_,_ =>
  rw [x0,y0,x1,y1,x2,y2]
  simp only [Int.sub_mul,Int.mul_sub,Int.add_mul,Int.mul_add,Int.neg_mul,Int.mul_neg,Int.zero_mul,Int.mul_zero,Int.neg_neg,Int.mul_comm t w]
  omega
 | 3,_,_,_ =>
  rw [x0,y0,x1,y1,x3,y3]
  simp only [Int.sub_mul,Int.mul_sub,Int.add_mul,Int.mul_add,Int.neg_mul,Int.mul_neg,Int.zero_mul,Int.mul_zero,Int.neg_neg,Int.mul_comm t w]
  omega
 | j + 4,h,_,_ => omega
theorem box_mrg_1 {w t:Int} (hw:16 ≤ w) (ht:16 ≤ t) {X Y:Nat → Int} (x0:X 0 = -w) (y0:Y 0 = -t) (x1:X 1 = w) (y1:Y 1 = -t) (x2:X 2 = w) (y2:Y 2 = t) (x3:X 3 = -w) (y3:Y 3 = t):∀ j,j < 4 → j ≠ 1 → j ≠ 2 → 8 * w + 8 * t + 8 ≤ (X 2 - X 1) * (Y j - Y 1) - (Y 2 - Y 1) * (X j - X 1):=by
 have p1:16 * t ≤ w * t:=Int.mul_le_mul_of_nonneg_right hw (by omega)
 have p2:w * 16 ≤ w * t:=Int.mul_le_mul_of_nonneg_left ht (by omega)
 intro j hj k1 k2
 match j,hj,k1,k2 with
 | 0,_,_,_ =>
  rw [x1,y1,x2,y2,x0,y0]
  simp only [Int.sub_mul,Int.mul_sub,Int.add_mul,Int.mul_add,Int.neg_mul,Int.mul_neg,Int.zero_mul,Int.mul_zero,Int.neg_neg,Int.mul_comm t w]
  omega
 | 1,_,k1,_ => exact absurd rfl k1
 | 2,_,_,k2 => exact absurd rfl k2
 | 3,_,_,_ =>
  rw [x1,y1,x2,y2,x3,y3]
  simp only [Int.sub_mul,Int.mul_sub,Int.add_mul,Int.mul_add,Int.neg_mul,Int.mul_neg,Int.zero_mul,Int.mul_zero,Int.neg_neg,Int.mul_comm t w]
  omega
 | j + 4,h,_,_ => omega
theorem box_mrg_2 {w t:Int} (hw:16 ≤ w) (ht:16 ≤ t) {X Y:Nat → Int} (x0:X 0 = -w) (y0:Y 0 = -t) (x1:X 1 = w) (y1:Y 1 = -t) (x2:X 2 = w) (y2:Y 2 = t) (x3:X 3 = -w) (y3:Y 3 = t):∀ j,j < 4 → j ≠ 2 → j ≠ 3 → 8 * w + 8 * t + 8 ≤ (X 3 - X 2) * (Y j - Y 2) - (Y 3 - Y 2) * (X j - X 2):=by
 have p1:16 * t ≤ w * t:=Int.mul_le_mul_of_nonneg_right hw (by omega)
 have p2:w * 16 ≤ w * t:=Int.mul_le_mul_of_nonneg_left ht (by omega)
 intro j hj k1 k2
 match j,hj,k1,k2 with
 | 0,_,_,_ =>
  rw [x2,y2,x3,y3,x0,y0]
  simp only [Int.sub_mul,Int.mul_sub,Int.add_mul,Int.mul_add,Int.neg_mul,Int.mul_neg,Int.zero_mul,Int.mul_zero,Int.neg_neg,Int.mul_comm t w]
  omega
 | 1,_,_,_ =>
  rw [x2,y2,x3,y3,x1,y1]
  simp only [Int.sub_mul,Int.mul_sub,Int.add_mul,Int.mul_add,Int.neg_mul,Int.mul_neg,Int.zero_mul,Int.mul_zero,Int.neg_neg,Int.mul_comm t w]
  omega
 | 2,_,k1,_ => exact absurd rfl k1
 | 3,_,_,k2 => exact absurd rfl k2
 | j + 4,h,_,_ => omega
theorem box_mrg_3 {w t:Int} (hw:16 ≤ w) (ht:16 ≤ t) {X Y:Nat → Int} (x0:X 0 = -w) (y0:Y 0 = -t) (x1:X 1 = w) (y1:Y 1 = -t) (x2:X 2 = w) (y2:Y 2 = t) (x3:X 3 = -w) (y3:Y 3 = t):∀ j,j < 4 → j ≠ 3 → j ≠ 0 → 8 * w + 8 * t + 8 ≤ (X 0 - X 3) * (Y j - Y 3) - (Y 0 - Y 3) * (X j - X 3):=by
 have p1:16 * t ≤ w * t:=Int.mul_le_mul_of_nonneg_right hw (by omega)
 have p2:w * 16 ≤ w * t:=Int.mul_le_mul_of_nonneg_left ht (by omega)
 intro j hj k1 k2
 match j,hj,k1,k2 with
 | 0,_,_,k2 => exact absurd rfl k2
 | 1,_,_,_ =>
  rw [x3,y3,x0,y0,x1,y1]
  simp only [Int.sub_mul,Int.mul_sub,Int.add_mul,Int.mul_add,Int.neg_mul,Int.mul_neg,Int.zero_mul,Int.mul_zero,Int.neg_neg,Int.mul_comm t w]
  omega
 | 2,_,_,_ =>
  rw [x3,y3,x0,y0,x2,y2]
  simp only [Int.sub_mul,Int.mul_sub,Int.add_mul,Int.mul_add,Int.neg_mul,Int.mul_neg,Int.zero_mul,Int.mul_zero,Int.neg_neg,Int.mul_comm t w]
  omega
 | 3,_,k1,_ => exact absurd rfl k1
 | j + 4,h,_,_ => omega
theorem box_mrg {w t:Int} (hw:16 ≤ w) (ht:16 ≤ t) {X Y:Nat → Int} (x0:X 0 = -w) (y0:Y 0 = -t) (x1:X 1 = w) (y1:Y 1 = -t) (x2:X 2 = w) (y2:Y 2 = t) (x3:X 3 = -w) (y3:Y 3 = t):mrg 4 X Y:=by
 have B:=box_mrgB (X:=X) (Y:=Y) hw ht x0 y0 x1 y1 x2 y2 x3 y3
 intro i hi j hj k1 k2
 refine mg_of (D:=w) (E:=t) (B i hi).1 (B i hi).2 (B _ (nxt_lt hi)).1 (B _ (nxt_lt hi)).2 (B j hj).1 (B j hj).2 ?_
 match i,hi,k1,k2 with
 | 0,_,k1,k2 => exact box_mrg_0 hw ht x0 y0 x1 y1 x2 y2 x3 y3 j hj k1 k2
 | 1,_,k1,k2 => exact box_mrg_1 hw ht x0 y0 x1 y1 x2 y2 x3 y3 j hj k1 k2
 | 2,_,k1,k2 => exact box_mrg_2 hw ht x0 y0 x1 y1 x2 y2 x3 y3 j hj k1 k2
 | 3,_,k1,k2 => exact box_mrg_3 hw ht x0 y0 x1 y1 x2 y2 x3 y3 j hj k1 k2
 | i + 4,h,_,_ => omega
theorem tri_mrgB {M T:Int} (hM:64 ≤ M) (hT:64 ≤ T) {X Y:Nat → Int} (x0:X 0 = -M) (y0:Y 0 = -T) (x1:X 1 = M) (y1:Y 1 = -T) (x2:X 2 = 0) (y2:Y 2 = T):∀ i,i < 3 → (-M ≤ X i ∧ X i ≤ M) ∧ (-T ≤ Y i ∧ Y i ≤ T):=by
 intro i hi
 match i,hi with
 | 0,_ => rw [x0,y0]; omega
 | 1,_ => rw [x1,y1]; omega
 | 2,_ => rw [x2,y2]; omega
 | i + 3,h => omega
theorem tri_mrg_0 {M T:Int} (hM:64 ≤ M) (hT:64 ≤ T) {X Y:Nat → Int} (x0:X 0 = -M) (y0:Y 0 = -T) (x1:X 1 = M) (y1:Y 1 = -T) (x2:X 2 = 0) (y2:Y 2 = T):∀ j,j < 3 → j ≠ 0 → j ≠ 1 → 8 * M + 8 * T + 8 ≤ (X 1 - X 0) * (Y j - Y 0) - (Y 1 - Y 0) * (X j - X 0):=by
 obtain ⟨p1,p2⟩:=mul_ge hM hT
 intro j hj k1 k2
 match j,hj,k1,k2 with
 | 0,_,k1,_ => exact absurd rfl k1
 | 1,_,_,k2 => exact absurd rfl k2
 | 2,_,_,_ =>
  rw [x0,y0,x1,y1,x2,y2]
  simp only [Int.sub_mul,Int.mul_sub,Int.add_mul,Int.mul_add,Int.neg_mul,Int.mul_neg,Int.zero_mul,Int.mul_zero,Int.neg_neg,Int.mul_comm T M]
  omega
 | j + 3,h,_,_ => omega
theorem tri_mrg_1 {M T:Int} (hM:64 ≤ M) (hT:64 ≤ T) {X Y:Nat → Int} (x0:X 0 = -M) (y0:Y 0 = -T) (x1:X 1 = M) (y1:Y 1 = -T) (x2:X 2 = 0) (y2:Y 2 = T):∀ j,j < 3 → j ≠ 1 → j ≠ 2 → 8 * M + 8 * T + 8 ≤ (X 2 - X 1) * (Y j - Y 1) - (Y 2 - Y 1) * (X j - X 1):=by
 obtain ⟨p1,p2⟩:=mul_ge hM hT
 intro j hj k1 k2
 match j,hj,k1,k2 with
 | 0,_,_,_ =>
  rw [x1,y1,x2,y2,x0,y0]
  simp only [Int.sub_mul,Int.mul_sub,Int.add_mul,Int.mul_add,Int.neg_mul,Int.mul_neg,Int.zero_mul,Int.mul_zero,Int.neg_neg,Int.mul_comm T M]
  omega
 | 1,_,k1,_ => exact absurd rfl k1
 | 2,_,_,k2 => exact absurd rfl k2
 | j + 3,h,_,_ => omega
theorem tri_mrg_2 {M T:Int} (hM:64 ≤ M) (hT:64 ≤ T) {X Y:Nat → Int} (x0:X 0 = -M) (y0:Y 0 = -T) (x1:X 1 = M) (y1:Y 1 = -T) (x2:X 2 = 0) (y2:Y 2 = T):∀ j,j < 3 → j ≠ 2 → j ≠ 0 → 8 * M + 8 * T + 8 ≤ (X 0 - X 2) * (Y j - Y 2) - (Y 0 - Y 2) * (X j - X 2):=by
 obtain ⟨p1,p2⟩:=mul_ge hM hT
 intro j hj k1 k2
 match j,hj,k1,k2 with
 | 0,_,_,k2 => exact absurd rfl k2
 | 1,_,_,_ =>
  rw [x2,y2,x0,y0,x1,y1]
  simp only [Int.sub_mul,Int.mul_sub,Int.add_mul,Int.mul_add,Int.neg_mul,Int.mul_neg,Int.zero_mul,Int.mul_zero,Int.neg_neg,Int.mul_comm T M]
  omega
 | 2,_,k1,_ => exact absurd rfl k1
 | j + 3,h,_,_ => omega
theorem tri_mrg {M T:Int} (hM:64 ≤ M) (hT:64 ≤ T) {X Y:Nat → Int} (x0:X 0 = -M) (y0:Y 0 = -T) (x1:X 1 = M) (y1:Y 1 = -T) (x2:X 2 = 0) (y2:Y 2 = T):mrg 3 X Y:=by
 have B:=tri_mrgB (X:=X) (Y:=Y) hM hT x0 y0 x1 y1 x2 y2
 intro i hi j hj k1 k2
 refine mg_of (D:=M) (E:=T) (B i hi).1 (B i hi).2 (B _ (nxt_lt hi)).1 (B _ (nxt_lt hi)).2 (B j hj).1 (B j hj).2 ?_
 match i,hi,k1,k2 with
 | 0,_,k1,k2 => exact tri_mrg_0 hM hT x0 y0 x1 y1 x2 y2 j hj k1 k2
 | 1,_,k1,k2 => exact tri_mrg_1 hM hT x0 y0 x1 y1 x2 y2 j hj k1 k2
 | 2,_,k1,k2 => exact tri_mrg_2 hM hT x0 y0 x1 y1 x2 y2 j hj k1 k2
 | i + 3,h,_,_ => omega
theorem pen_mrgB {M T h:Int} (hM:64 ≤ M) (hT:64 ≤ T) (h1:2 * h ≤ M) (h2:M ≤ 2 * h + 1) {X Y:Nat → Int} (x0:X 0 = -h) (y0:Y 0 = -T) (x1:X 1 = h) (y1:Y 1 = -T) (x2:X 2 = M) (y2:Y 2 = 0) (x3:X 3 = 0) (y3:Y 3 = T) (x4:X 4 = -M) (y4:Y 4 = 0):∀ i,i < 5 → (-M ≤ X i ∧ X i ≤ M) ∧ (-T ≤ Y i ∧ Y i ≤ T):=by
 intro i hi
 match i,hi with
 | 0,_ => rw [x0,y0]; omega
 | 1,_ => rw [x1,y1]; omega
 | 2,_ => rw [x2,y2]; omega
 | 3,_ => rw [x3,y3]; omega
 | 4,_ => rw [x4,y4]; omega
 | i + 5,h => omega
theorem pen_mrg_0 {M T h:Int} (hM:64 ≤ M) (hT:64 ≤ T) (h1:2 * h ≤ M) (h2:M ≤ 2 * h + 1) {X Y:Nat → Int} (x0:X 0 = -h) (y0:Y 0 = -T) (x1:X 1 = h) (y1:Y 1 = -T) (x2:X 2 = M) (y2:Y 2 = 0) (x3:X 3 = 0) (y3:Y 3 = T) (x4:X 4 = -M) (y4:Y 4 = 0):∀ j,j < 5 → j ≠ 0 → j ≠ 1 → 8 * M + 8 * T + 8 ≤ (X 1 - X 0) * (Y j - Y 0) - (Y 1 - Y 0) * (X j - X 0):=by
 obtain ⟨p1,p2⟩:=mul_ge hM hT
 have q1:(2 * h) * T ≤ M * T:=Int.mul_le_mul_of_nonneg_right h1 (by omega)
 have q2:M * T ≤ (2 * h + 1) * T:=Int.mul_le_mul_of_nonneg_right h2 (by omega)
 rw [Int.mul_assoc] at q1
 rw [Int.add_mul,Int.mul_assoc,Int.one_mul] at q2
 intro j hj k1 k2
 match j,hj,k1,k2 with
 | 0,_,k1,_ => exact absurd rfl k1
 | 1,_,_,k2 => exact absurd rfl k2
 | 2,_,_,_ =>
  rw [x0,y0,x1,y1,x2,y2]
  simp only [Int.sub_mul,Int.mul_sub,Int.add_mul,Int.mul_add,Int.neg_mul,Int.mul_neg,Int.zero_mul,Int.mul_zero,Int.neg_neg,Int.mul_comm T M,Int.mul_comm T h]
  omega
 | 3,_,_,_ =>
  rw [x0,y0,x1,y1,x3,y3]
  simp only [Int.sub_mul,Int.mul_sub,Int.add_mul,Int.mul_add,Int.neg_mul,Int.mul_neg,Int.zero_mul,Int.mul_zero,Int.neg_neg,Int.mul_comm T M,Int.mul_comm T h]
  omega
 | 4,_,_,_ =>
  rw [x0,y0,x1,y1,x4,y4]
  simp only [Int.sub_mul,Int.mul_sub,Int.add_mul,Int.mul_add,Int.neg_mul,Int.mul_neg,Int.zero_mul,Int.mul_zero,Int.neg_neg,Int.mul_comm T M,Int.mul_comm T h]
  omega
 | j + 5,h,_,_ => omega
theorem pen_mrg_1 {M T h:Int} (hM:64 ≤ M) (hT:64 ≤ T) (h1:2 * h ≤ M) (h2:M ≤ 2 * h + 1) {X Y:Nat → Int} (x0:X 0 = -h) (y0:Y 0 = -T) (x1:X 1 = h) (y1:Y 1 = -T) (x2:X 2 = M) (y2:Y 2 = 0) (x3:X 3 = 0) (y3:Y 3 = T) (x4:X 4 = -M) (y4:Y 4 = 0):∀ j,j < 5 → j ≠ 1 → j ≠ 2 → 8 * M + 8 * T + 8 ≤ (X 2 - X 1) * (Y j - Y 1) - (Y 2 - Y 1) * (X j - X 1):=by
 obtain ⟨p1,p2⟩:=mul_ge hM hT
 have q1:(2 * h) * T ≤ M * T:=Int.mul_le_mul_of_nonneg_right h1 (by omega)
 have q2:M * T ≤ (2 * h + 1) * T:=Int.mul_le_mul_of_nonneg_right h2 (by omega)
 rw [Int.mul_assoc] at q1
 rw [Int.add_mul,Int.mul_assoc,Int.one_mul] at q2
 intro j hj k1 k2
 match j,hj,k1,k2 with
 | 0,_,_,_ =>
  rw [x1,y1,x2,y2,x0,y0]
  simp only [Int.sub_mul,Int.mul_sub,Int.add_mul,Int.mul_add,Int.neg_mul,Int.mul_neg,Int.zero_mul,Int.mul_zero,Int.neg_neg,Int.mul_comm T M,Int.mul_comm T h]
  omega
 | 1,_,k1,_ => exact absurd rfl k1
 | 2,_,_,k2 => exact absurd rfl k2
 | 3,_,_,_ =>
  rw [x1,y1,x2,y2,x3,y3]
  simp only [Int.sub_mul,Int.mul_sub,Int.add_mul,Int.mul_add,Int.neg_mul,Int.mul_neg,Int.zero_mul,Int.mul_zero,Int.neg_neg,Int.mul_comm T M,Int.mul_comm T h]
  omega
 | 4,_,_,_ =>
  rw [x1,y1,x2,y2,x4,y4]
  simp only [Int.sub_mul,Int.mul_sub,Int.add_mul,Int.mul_add,Int.neg_mul,Int.mul_neg,Int.zero_mul,Int.mul_zero,Int.neg_neg,Int.mul_comm T M,Int.mul_comm T h]
  omega
 | j + 5,h,_,_ => omega
theorem pen_mrg_2 {M T h:Int} (hM:64 ≤ M) (hT:64 ≤ T) (h1:2 * h ≤ M) (h2:M ≤ 2 * h + 1) {X Y:Nat → Int} (x0:X 0 = -h) (y0:Y 0 = -T) (x1:X 1 = h) (y1:Y 1 = -T) (x2:X 2 = M) (y2:Y 2 = 0) (x3:X 3 = 0) (y3:Y 3 = T) (x4:X 4 = -M) (y4:Y 4 = 0):∀ j,j < 5 → j ≠ 2 → j ≠ 3 → 8 * M + 8 * T + 8 ≤ (X 3 - X 2) * (Y j - Y 2) - (Y 3 - Y 2) * (X j - X 2):=by
 obtain ⟨p1,p2⟩:=mul_ge hM hT
 have q1:(2 * h) * T ≤ M * T:=Int.mul_le_mul_of_nonneg_right h1 (by omega)
 have q2:M * T ≤ (2 * h + 1) * T:=Int.mul_le_mul_of_nonneg_right h2 (by omega)
 rw [Int.mul_assoc] at q1
 rw [Int.add_mul,Int.mul_assoc,Int.one_mul] at q2
 intro j hj k1 k2
 match j,hj,k1,k2 with
 | 0,_,_,_ =>
  rw [x2,y2,x3,y3,x0,y0]
  simp only [Int.sub_mul,Int.mul_sub,Int.add_mul,Int.mul_add,Int.neg_mul,Int.mul_neg,Int.zero_mul,Int.mul_zero,Int.neg_neg,Int.mul_comm T M,Int.mul_comm T h]
  omega
 | 1,_,_,_ =>
  rw [x2,y2,x3,y3,x1,y1]
  simp only [Int.sub_mul,Int.mul_sub,Int.add_mul,Int.mul_add,Int.neg_mul,Int.mul_neg,Int.zero_mul,Int.mul_zero,Int.neg_neg,Int.mul_comm T M,Int.mul_comm T h]
  omega
 | 2,_,k1,_ => exact absurd rfl k1
 | 3,_,_,k2 => exact absurd rfl k2
 | 4,_,_,_ =>
  rw [x2,y2,x3,y3,x4,y4]
  simp only [Int.sub_mul,Int.mul_sub,Int.add_mul,Int.mul_add,Int.neg_mul,Int.mul_neg,Int.zero_mul,Int.mul_zero,Int.neg_neg,Int.mul_comm T M,Int.mul_comm T h]
  omega
 | j + 5,h,_,_ => omega
theorem pen_mrg_3 {M T h:Int} (hM:64 ≤ M) (hT:64 ≤ T) (h1:2 * h ≤ M) (h2:M ≤ 2 * h + 1) {X Y:Nat → Int} (x0:X 0 = -h) (y0:Y 0 = -T) (x1:X 1 = h) (y1:Y 1 = -T) (x2:X 2 = M) (y2:Y 2 = 0) (x3:X 3 = 0) (y3:Y 3 = T) (x4:X 4 = -M) (y4:Y 4 = 0):∀ j,j < 5 → j ≠ 3 → j ≠ 4 → 8 * M + 8 * T + 8 ≤ (X 4 - X 3) * (Y j - Y 3) - (Y 4 - Y 3) * (X j - X 3):=by
 obtain ⟨p1,p2⟩:=mul_ge hM hT
 have q1:(2 * h) * T ≤ M * T:=Int.mul_le_mul_of_nonneg_right h1 (by omega)
 have q2:M * T ≤ (2 * h + 1) * T:=Int.mul_le_mul_of_nonneg_right h2 (by omega)
 rw [Int.mul_assoc] at q1
 rw [Int.add_mul,Int.mul_assoc,Int.one_mul] at q2
 intro j hj k1 k2
 match j,hj,k1,k2 with
 | 0,_,_,_ =>
  rw [x3,y3,x4,y4,x0,y0]
  simp only [Int.sub_mul,Int.mul_sub,Int.add_mul,Int.mul_add,Int.neg_mul,Int.mul_neg,Int.zero_mul,Int.mul_zero,Int.neg_neg,Int.mul_comm T M,Int.mul_comm T h]
  omega
 | 1,_,_,_ =>
  rw [x3,y3,x4,y4,x1,y1]
  simp only [Int.sub_mul,Int.mul_sub,Int.add_mul,Int.mul_add,Int.neg_mul,Int.mul_neg,Int.zero_mul,Int.mul_zero,Int.neg_neg,Int.mul_comm T M,Int.mul_comm T h]
  omega
 | 2,_,_,_ =>
  rw [x3,y3,x4,y4,x2,y2]
  simp only [Int.sub_mul,Int.mul_sub,Int.add_mul,Int.mul_add,Int.neg_mul,Int.mul_neg,Int.zero_mul,Int.mul_zero,Int.neg_neg,Int.mul_comm T M,Int.mul_comm T h]
  omega
 | 3,_,k1,_ => exact absurd rfl k1
 | 4,_,_,k2 => exact absurd rfl k2
 | j + 5,h,_,_ => omega
theorem pen_mrg_4 {M T h:Int} (hM:64 ≤ M) (hT:64 ≤ T) (h1:2 * h ≤ M) (h2:M ≤ 2 * h + 1) {X Y:Nat → Int} (x0:X 0 = -h) (y0:Y 0 = -T) (x1:X 1 = h) (y1:Y 1 = -T) (x2:X 2 = M) (y2:Y 2 = 0) (x3:X 3 = 0) (y3:Y 3 = T) (x4:X 4 = -M) (y4:Y 4 = 0):∀ j,j < 5 → j ≠ 4 → j ≠ 0 → 8 * M + 8 * T + 8 ≤ (X 0 - X 4) * (Y j - Y 4) - (Y 0 - Y 4) * (X j - X 4):=by
 obtain ⟨p1,p2⟩:=mul_ge hM hT
 have q1:(2 * h) * T ≤ M * T:=Int.mul_le_mul_of_nonneg_right h1 (by omega)
 have q2:M * T ≤ (2 * h + 1) * T:=Int.mul_le_mul_of_nonneg_right h2 (by omega)
 rw [Int.mul_assoc] at q1
 rw [Int.add_mul,Int.mul_assoc,Int.one_mul] at q2
 intro j hj k1 k2
 match j,hj,k1,k2 with
 | 0,_,_,k2 => exact absurd rfl k2
 | 1,_,_,_ =>
  rw [x4,y4,x0,y0,x1,y1]
  simp only [Int.sub_mul,Int.mul_sub,Int.add_mul,Int.mul_add,Int.neg_mul,Int.mul_neg,Int.zero_mul,Int.mul_zero,Int.neg_neg,Int.mul_comm T M,Int.mul_comm T h]
  omega
 | 2,_,_,_ =>
  rw [x4,y4,x0,y0,x2,y2]
  simp only [Int.sub_mul,Int.mul_sub,Int.add_mul,Int.mul_add,Int.neg_mul,Int.mul_neg,Int.zero_mul,Int.mul_zero,Int.neg_neg,Int.mul_comm T M,Int.mul_comm T h]
  omega
 | 3,_,_,_ =>
  rw [x4,y4,x0,y0,x3,y3]
  simp only [Int.sub_mul,Int.mul_sub,Int.add_mul,Int.mul_add,Int.neg_mul,Int.mul_neg,Int.zero_mul,Int.mul_zero,Int.neg_neg,Int.mul_comm T M,Int.mul_comm T h]
  omega
 | 4,_,k1,_ => exact absurd rfl k1
 | j + 5,h,_,_ => omega
theorem pen_mrg {M T h:Int} (hM:64 ≤ M) (hT:64 ≤ T) (h1:2 * h ≤ M) (h2:M ≤ 2 * h + 1) {X Y:Nat → Int} (x0:X 0 = -h) (y0:Y 0 = -T) (x1:X 1 = h) (y1:Y 1 = -T) (x2:X 2 = M) (y2:Y 2 = 0) (x3:X 3 = 0) (y3:Y 3 = T) (x4:X 4 = -M) (y4:Y 4 = 0):mrg 5 X Y:=by
 have B:=pen_mrgB (X:=X) (Y:=Y) hM hT h1 h2 x0 y0 x1 y1 x2 y2 x3 y3 x4 y4
 intro i hi j hj k1 k2
 refine mg_of (D:=M) (E:=T) (B i hi).1 (B i hi).2 (B _ (nxt_lt hi)).1 (B _ (nxt_lt hi)).2 (B j hj).1 (B j hj).2 ?_
 match i,hi,k1,k2 with
 | 0,_,k1,k2 => exact pen_mrg_0 hM hT h1 h2 x0 y0 x1 y1 x2 y2 x3 y3 x4 y4 j hj k1 k2
 | 1,_,k1,k2 => exact pen_mrg_1 hM hT h1 h2 x0 y0 x1 y1 x2 y2 x3 y3 x4 y4 j hj k1 k2
 | 2,_,k1,k2 => exact pen_mrg_2 hM hT h1 h2 x0 y0 x1 y1 x2 y2 x3 y3 x4 y4 j hj k1 k2
 | 3,_,k1,k2 => exact pen_mrg_3 hM hT h1 h2 x0 y0 x1 y1 x2 y2 x3 y3 x4 y4 j hj k1 k2
 | 4,_,k1,k2 => exact pen_mrg_4 hM hT h1 h2 x0 y0 x1 y1 x2 y2 x3 y3 x4 y4 j hj k1 k2
 | i + 5,h,_,_ => omega
theorem oct_mrgB {M h:Int} (hM:64 ≤ M) (h1:2 * h ≤ M) (h2:M ≤ 2 * h + 1) {X Y:Nat → Int} (x0:X 0 = M) (y0:Y 0 = -h) (x1:X 1 = M) (y1:Y 1 = h) (x2:X 2 = h) (y2:Y 2 = M) (x3:X 3 = -h) (y3:Y 3 = M) (x4:X 4 = -M) (y4:Y 4 = h) (x5:X 5 = -M) (y5:Y 5 = -h) (x6:X 6 = -h) (y6:Y 6 = -M) (x7:X 7 = h) (y7:Y 7 = -M):∀ i,i < 8 → (-M ≤ X i ∧ X i ≤ M) ∧ (-M ≤ Y i ∧ Y i ≤ M):=by
 intro i hi
 match i,hi with
 | 0,_ => rw [x0,y0]; omega
 | 1,_ => rw [x1,y1]; omega
 | 2,_ => rw [x2,y2]; omega
 | 3,_ => rw [x3,y3]; omega
 | 4,_ => rw [x4,y4]; omega
 | 5,_ => rw [x5,y5]; omega
 | 6,_ => rw [x6,y6]; omega
 | 7,_ => rw [x7,y7]; omega
 | i + 8,h => omega
theorem oct_mrg_0 {M h:Int} (hM:64 ≤ M) (h1:2 * h ≤ M) (h2:M ≤ 2 * h + 1) {X Y:Nat → Int} (x0:X 0 = M) (y0:Y 0 = -h) (x1:X 1 = M) (y1:Y 1 = h) (x2:X 2 = h) (y2:Y 2 = M) (x3:X 3 = -h) (y3:Y 3 = M) (x4:X 4 = -M) (y4:Y 4 = h) (x5:X 5 = -M) (y5:Y 5 = -h) (x6:X 6 = -h) (y6:Y 6 = -M) (x7:X 7 = h) (y7:Y 7 = -M):∀ j,j < 8 → j ≠ 0 → j ≠ 1 → 8 * M + 8 * M + 8 ≤ (X 1 - X 0) * (Y j - Y 0) - (Y 1 - Y 0) * (X j - X 0):=by
 have p1:64 * M ≤ M * M:=Int.mul_le_mul_of_nonneg_right hM (by omega)
 have q1:(2 * h) * M ≤ M * M:=Int.mul_le_mul_of_nonneg_right h1 (by omega)
 have q2:M * M ≤ (2 * h + 1) * M:=Int.mul_le_mul_of_nonneg_right h2 (by omega)
 have q3:h * (2 * h) ≤ h * M:=Int.mul_le_mul_of_nonneg_left h1 (by omega)
 have q4:h * M ≤ h * (2 * h + 1):=Int.mul_le_mul_of_nonneg_left h2 (by omega)
 have q5:32 * h ≤ h * h:=Int.mul_le_mul_of_nonneg_right (by omega) (by omega)
 rw [Int.mul_assoc] at q1
 rw [Int.add_mul,Int.mul_assoc,Int.one_mul] at q2
 rw [Int.mul_left_comm] at q3
 rw [Int.mul_add,Int.mul_left_comm,Int.mul_one] at q4
 intro j hj k1 k2
 match j,hj,k1,k2 with
 | 0,_,k1,_ => exact absurd rfl k1
 | 1,_,_,k2 => exact absurd rfl k2
 | 2,_,_,_ =>
  rw [x0,y0,x1,y1,x2,y2]
  simp only [Int.sub_mul,Int.mul_sub,Int.add_mul,Int.mul_add,Int.neg_mul,Int.mul_neg,Int.zero_mul,Int.mul_zero,Int.neg_neg,Int.mul_comm M h]
  omega
 | 3,_,_,_ =>
  rw [x0,y0,x1,y1,x3,y3]
  simp only [Int.sub_mul,Int.mul_sub,Int.add_mul,Int.mul_add,Int.neg_mul,Int.mul_neg,Int.zero_mul,Int.mul_zero,Int.neg_neg,Int.mul_comm M h]
  omega
 | 4,_,_,_ =>
  rw [x0,y0,x1,y1,x4,y4]
  simp only [Int.sub_mul,Int.mul_sub,Int.add_mul,Int.mul_add,Int.neg_mul,Int.mul_neg,Int.zero_mul,Int.mul_zero,Int.neg_neg,Int.mul_comm M h]
  omega
 | 5,_,_,_ =>
  rw [x0,y0,x1,y1,x5,y5]
  simp only [Int.sub_mul,Int.mul_sub,Int.add_mul,Int.mul_add,Int.neg_mul,Int.mul_neg,Int.zero_mul,Int.mul_zero,Int.neg_neg,Int.mul_comm M h]
  omega
 | 6,_,_,_ =>
  rw [x0,y0,x1,y1,x6,y6]
  simp only [Int.sub_mul,Int.mul_sub,Int.add_mul,Int.mul_add,Int.neg_mul,Int.mul_neg,Int.zero_mul,Int.mul_zero,Int.neg_neg,Int.mul_comm M h]
  omega
 | 7,_,_,_ =>
  rw [x0,y0,x1,y1,x7,y7]
  simp only [Int.sub_mul,Int.mul_sub,Int.add_mul,Int.mul_add,Int.neg_mul,Int.mul_neg,Int.zero_mul,Int.mul_zero,Int.neg_neg,Int.mul_comm M h]
  omega
 | j + 8,h,_,_ => omega
theorem oct_mrg_1 {M h:Int} (hM:64 ≤ M) (h1:2 * h ≤ M) (h2:M ≤ 2 * h + 1) {X Y:Nat → Int} (x0:X 0 = M) (y0:Y 0 = -h) (x1:X 1 = M) (y1:Y 1 = h) (x2:X 2 = h) (y2:Y 2 = M) (x3:X 3 = -h) (y3:Y 3 = M) (x4:X 4 = -M) (y4:Y 4 = h) (x5:X 5 = -M) (y5:Y 5 = -h) (x6:X 6 = -h) (y6:Y 6 = -M) (x7:X 7 = h) (y7:Y 7 = -M):∀ j,j < 8 → j ≠ 1 → j ≠ 2 → 8 * M + 8 * M + 8 ≤ (X 2 - X 1) * (Y j - Y 1) - (Y 2 - Y 1) * (X j - X 1):=by
 have p1:64 * M ≤ M * M:=Int.mul_le_mul_of_nonneg_right hM (by omega)
 have q1:(2 * h) * M ≤ M * M:=Int.mul_le_mul_of_nonneg_right h1 (by omega)
 have q2:M * M ≤ (2 * h + 1) * M:=Int.mul_le_mul_of_nonneg_right h2 (by omega)
 have q3:h * (2 * h) ≤ h * M:=Int.mul_le_mul_of_nonneg_left h1 (by omega)
 have q4:h * M ≤ h * (2 * h + 1):=Int.mul_le_mul_of_nonneg_left h2 (by omega)
 have q5:32 * h ≤ h * h:=Int.mul_le_mul_of_nonneg_right (by omega) (by omega)
 rw [Int.mul_assoc] at q1
 rw [Int.add_mul,Int.mul_assoc,Int.one_mul] at q2
 rw [Int.mul_left_comm] at q3
 rw [Int.mul_add,Int.mul_left_comm,Int.mul_one] at q4
 intro j hj k1 k2
 match j,hj,k1,k2 with
 | 0,_,_,_ =>
  rw [x1,y1,x2,y2,x0,y0]
  simp only [Int.sub_mul,Int.mul_sub,Int.add_mul,Int.mul_add,Int.neg_mul,Int.mul_neg,Int.zero_mul,Int.mul_zero,Int.neg_neg,Int.mul_comm M h]
  omega
 | 1,_,k1,_ => exact absurd rfl k1
 | 2,_,_,k2 => exact absurd rfl k2
 | 3,_,_,_ =>
  rw [x1,y1,x2,y2,x3,y3]
  simp only [Int.sub_mul,Int.mul_sub,Int.add_mul,Int.mul_add,Int.neg_mul,Int.mul_neg,Int.zero_mul,Int.mul_zero,Int.neg_neg,Int.mul_comm M h]
  omega
 | 4,_,_,_ =>
  rw [x1,y1,x2,y2,x4,y4]
  simp only [Int.sub_mul,Int.mul_sub,Int.add_mul,Int.mul_add,Int.neg_mul,Int.mul_neg,Int.zero_mul,Int.mul_zero,Int.neg_neg,Int.mul_comm M h]
  omega
 | 5,_,_,_ =>
  rw [x1,y1,x2,y2,x5,y5]
  simp only [Int.sub_mul,Int.mul_sub,Int.add_mul,Int.mul_add,Int.neg_mul,Int.mul_neg,Int.zero_mul,Int.mul_zero,Int.neg_neg,Int.mul_comm M h]
  omega
 | 6,_,_,_ =>
  rw [x1,y1,x2,y2,x6,y6]
  simp only [Int.sub_mul,Int.mul_sub,Int.add_mul,Int.mul_add,Int.neg_mul,Int.mul_neg,Int.zero_mul,Int.mul_zero,Int.neg_neg,Int.mul_comm M h]
  omega
 | 7,_,_,_ =>
  rw [x1,y1,x2,y2,x7,y7]
  simp only [Int.sub_mul,Int.mul_sub,Int.add_mul,Int.mul_add,Int.neg_mul,Int.mul_neg,Int.zero_mul,Int.mul_zero,Int.neg_neg,Int.mul_comm M h]
  omega
 | j + 8,h,_,_ => omega
theorem oct_mrg_2 {M h:Int} (hM:64 ≤ M) (h1:2 * h ≤ M) (h2:M ≤ 2 * h + 1) {X Y:Nat → Int} (x0:X 0 = M) (y0:Y 0 = -h) (x1:X 1 = M) (y1:Y 1 = h) (x2:X 2 = h) (y2:Y 2 = M) (x3:X 3 = -h) (y3:Y 3 = M) (x4:X 4 = -M) (y4:Y 4 = h) (x5:X 5 = -M) (y5:Y 5 = -h) (x6:X 6 = -h) (y6:Y 6 = -M) (x7:X 7 = h) (y7:Y 7 = -M):∀ j,j < 8 → j ≠ 2 → j ≠ 3 → 8 * M + 8 * M + 8 ≤ (X 3 - X 2) * (Y j - Y 2) - (Y 3 - Y 2) * (X j - X 2):=by
 have p1:64 * M ≤ M * M:=Int.mul_le_mul_of_nonneg_right hM (by omega)
 have q1:(2 * h) * M ≤ M * M:=Int.mul_le_mul_of_nonneg_right h1 (by omega)
 have q2:M * M ≤ (2 * h + 1) * M:=Int.mul_le_mul_of_nonneg_right h2 (by omega)
 have q3:h * (2 * h) ≤ h * M:=Int.mul_le_mul_of_nonneg_left h1 (by omega)
 have q4:h * M ≤ h * (2 * h + 1):=Int.mul_le_mul_of_nonneg_left h2 (by omega)
 have q5:32 * h ≤ h * h:=Int.mul_le_mul_of_nonneg_right (by omega) (by omega)
 rw [Int.mul_assoc] at q1
 rw [Int.add_mul,Int.mul_assoc,Int.one_mul] at q2
 rw [Int.mul_left_comm] at q3
 rw [Int.mul_add,Int.mul_left_comm,Int.mul_one] at q4
 intro j hj k1 k2
 match j,hj,k1,k2 with
 | 0,_,_,_ =>
  rw [x2,y2,x3,y3,x0,y0]
  simp only [Int.sub_mul,Int.mul_sub,Int.add_mul,Int.mul_add,Int.neg_mul,Int.mul_neg,Int.zero_mul,Int.mul_zero,Int.neg_neg,Int.mul_comm M h]
  omega
 | 1,_,_,_ =>
  rw [x2,y2,x3,y3,x1,y1]
  simp only [Int.sub_mul,Int.mul_sub,Int.add_mul,Int.mul_add,Int.neg_mul,Int.mul_neg,Int.zero_mul,Int.mul_zero,Int.neg_neg,Int.mul_comm M h]
  omega
 | 2,_,k1,_ => exact absurd rfl k1
 | 3,_,_,k2 => exact absurd rfl k2
 | 4,_,_,_ =>
  rw [x2,y2,x3,y3,x4,y4]
  simp only [Int.sub_mul,Int.mul_sub,Int.add_mul,Int.mul_add,Int.neg_mul,Int.mul_neg,Int.zero_mul,Int.mul_zero,Int.neg_neg,Int.mul_comm M h]
  omega
 | 5,_,_,_ =>
  rw [x2,y2,x3,y3,x5,y5]
  simp only [Int.sub_mul,Int.mul_sub,Int.add_mul,Int.mul_add,Int.neg_mul,Int.mul_neg,Int.zero_mul,Int.mul_zero,Int.neg_neg,Int.mul_comm M h]
  omega
 | 6,_,_,_ =>
  rw [x2,y2,x3,y3,x6,y6]
  simp only [Int.sub_mul,Int.mul_sub,Int.add_mul,Int.mul_add,Int.neg_mul,Int.mul_neg,Int.zero_mul,Int.mul_zero,Int.neg_neg,Int.mul_comm M h]
  omega
 | 7,_,_,_ =>
  rw [x2,y2,x3,y3,x7,y7]
  simp only [Int.sub_mul,Int.mul_sub,Int.add_mul,Int.mul_add,Int.neg_mul,Int.mul_neg,Int.zero_mul,Int.mul_zero,Int.neg_neg,Int.mul_comm M h]
  omega
 | j + 8,h,_,_ => omega
theorem oct_mrg_3 {M h:Int} (hM:64 ≤ M) (h1:2 * h ≤ M) (h2:M ≤ 2 * h + 1) {X Y:Nat → Int} (x0:X 0 = M) (y0:Y 0 = -h) (x1:X 1 = M) (y1:Y 1 = h) (x2:X 2 = h) (y2:Y 2 = M) (x3:X 3 = -h) (y3:Y 3 = M) (x4:X 4 = -M) (y4:Y 4 = h) (x5:X 5 = -M) (y5:Y 5 = -h) (x6:X 6 = -h) (y6:Y 6 = -M) (x7:X 7 = h) (y7:Y 7 = -M):∀ j,j < 8 → j ≠ 3 → j ≠ 4 → 8 * M + 8 * M + 8 ≤ (X 4 - X 3) * (Y j - Y 3) - (Y 4 - Y 3) * (X j - X 3):=by
 have p1:64 * M ≤ M * M:=Int.mul_le_mul_of_nonneg_right hM (by omega)
 have q1:(2 * h) * M ≤ M * M:=Int.mul_le_mul_of_nonneg_right h1 (by omega)
 have q2:M * M ≤ (2 * h + 1) * M:=Int.mul_le_mul_of_nonneg_right h2 (by omega)
 have q3:h * (2 * h) ≤ h * M:=Int.mul_le_mul_of_nonneg_left h1 (by omega)
 have q4:h * M ≤ h * (2 * h + 1):=Int.mul_le_mul_of_nonneg_left h2 (by omega)
 have q5:32 * h ≤ h * h:=Int.mul_le_mul_of_nonneg_right (by omega) (by omega)
 rw [Int.mul_assoc] at q1
 rw [Int.add_mul,Int.mul_assoc,Int.one_mul] at q2
 rw [Int.mul_left_comm] at q3
 rw [Int.mul_add,Int.mul_left_comm,Int.mul_one] at q4
 intro j hj k1 k2
 match j,hj,k1,k2 with
 | 0,_,_,_ =>
  rw [x3,y3,x4,y4,x0,y0]
  simp only [Int.sub_mul,Int.mul_sub,Int.add_mul,Int.mul_add,Int.neg_mul,Int.mul_neg,Int.zero_mul,Int.mul_zero,Int.neg_neg,Int.mul_comm M h]
  omega
 | 1,_,_,_ =>
  rw [x3,y3,x4,y4,x1,y1]
  simp only [Int.sub_mul,Int.mul_sub,Int.add_mul,Int.mul_add,Int.neg_mul,Int.mul_neg,Int.zero_mul,Int.mul_zero,Int.neg_neg,Int.mul_comm M h]
  omega
 | 2,_,_,_ =>
  rw [x3,y3,x4,y4,x2,y2]
  simp only [Int.sub_mul,Int.mul_sub,Int.add_mul,Int.mul_add,Int.neg_mul,Int.mul_neg,Int.zero_mul,Int.mul_zero,Int.neg_neg,Int.mul_comm M h]
  omega
 | 3,_,k1,_ => exact absurd rfl k1
 | 4,_,_,k2 => exact absurd rfl k2
 | 5,_,_,_ =>
  rw [x3,y3,x4,y4,x5,y5]
  simp only [Int.sub_mul,Int.mul_sub,Int.add_mul,Int.mul_add,Int.neg_mul,Int.mul_neg,Int.zero_mul,Int.mul_zero,Int.neg_neg,Int.mul_comm M h]
  omega
 | 6,_,_,_ =>
  rw [x3,y3,x4,y4,x6,y6]
  simp only [Int.sub_mul,Int.mul_sub,Int.add_mul,Int.mul_add,Int.neg_mul,Int.mul_neg,Int.zero_mul,Int.mul_zero,Int.neg_neg,Int.mul_comm M h]
  omega
 | 7,_,_,_ =>
  rw [x3,y3,x4,y4,x7,y7]
  simp only [Int.sub_mul,Int.mul_sub,Int.add_mul,Int.mul_add,Int.neg_mul,Int.mul_neg,Int.zero_mul,Int.mul_zero,Int.neg_neg,Int.mul_comm M h]
  omega
 | j + 8,h,_,_ => omega
theorem oct_mrg_4 {M h:Int} (hM:64 ≤ M) (h1:2 * h ≤ M) (h2:M ≤ 2 * h + 1) {X Y:Nat → Int} (x0:X 0 = M) (y0:Y 0 = -h) (x1:X 1 = M) (y1:Y 1 = h) (x2:X 2 = h) (y2:Y 2 = M) (x3:X 3 = -h) (y3:Y 3 = M) (x4:X 4 = -M) (y4:Y 4 = h) (x5:X 5 = -M) (y5:Y 5 = -h) (x6:X 6 = -h) (y6:Y 6 = -M) (x7:X 7 = h) (y7:Y 7 = -M):∀ j,j < 8 → j ≠ 4 → j ≠ 5 → 8 * M + 8 * M + 8 ≤ (X 5 - X 4) * (Y j - Y 4) - (Y 5 - Y 4) * (X j - X 4):=by
 have p1:64 * M ≤ M * M:=Int.mul_le_mul_of_nonneg_right hM (by omega)
 have q1:(2 * h) * M ≤ M * M:=Int.mul_le_mul_of_nonneg_right h1 (by omega)
 have q2:M * M ≤ (2 * h + 1) * M:=Int.mul_le_mul_of_nonneg_right h2 (by omega)
 have q3:h * (2 * h) ≤ h * M:=Int.mul_le_mul_of_nonneg_left h1 (by omega)
 have q4:h * M ≤ h * (2 * h + 1):=Int.mul_le_mul_of_nonneg_left h2 (by omega)
 have q5:32 * h ≤ h * h:=Int.mul_le_mul_of_nonneg_right (by omega) (by omega)
 rw [Int.mul_assoc] at q1
 rw [Int.add_mul,Int.mul_assoc,Int.one_mul] at q2
 rw [Int.mul_left_comm] at q3
 rw [Int.mul_add,Int.mul_left_comm,Int.mul_one] at q4
 intro j hj k1 k2
 match j,hj,k1,k2 with
 | 0,_,_,_ =>
  rw [x4,y4,x5,y5,x0,y0]
  simp only [Int.sub_mul,Int.mul_sub,Int.add_mul,Int.mul_add,Int.neg_mul,Int.mul_neg,Int.zero_mul,Int.mul_zero,Int.neg_neg,Int.mul_comm M h]
  omega
 | 1,_,_,_ =>
  rw [x4,y4,x5,y5,x1,y1]
  simp only [Int.sub_mul,Int.mul_sub,Int.add_mul,Int.mul_add,Int.neg_mul,Int.mul_neg,Int.zero_mul,Int.mul_zero,Int.neg_neg,Int.mul_comm M h]
  omega
 | 2,_,_,_ =>
  rw [x4,y4,x5,y5,x2,y2]
  simp only [Int.sub_mul,Int.mul_sub,Int.add_mul,Int.mul_add,Int.neg_mul,Int.mul_neg,Int.zero_mul,Int.mul_zero,Int.neg_neg,Int.mul_comm M h]
  omega
 | 3,_,_,_ =>
  rw [x4,y4,x5,y5,x3,y3]
  simp only [Int.sub_mul,Int.mul_sub,Int.add_mul,Int.mul_add,Int.neg_mul,Int.mul_neg,Int.zero_mul,Int.mul_zero,Int.neg_neg,Int.mul_comm M h]
  omega
 | 4,_,k1,_ => exact absurd rfl k1
 | 5,_,_,k2 => exact absurd rfl k2
 | 6,_,_,_ =>
  rw [x4,y4,x5,y5,x6,y6]
  simp only [Int.sub_mul,Int.mul_sub,Int.add_mul,Int.mul_add,Int.neg_mul,Int.mul_neg,Int.zero_mul,Int.mul_zero,Int.neg_neg,Int.mul_comm M h]
  omega
 | 7,_,_,_ =>
  rw [x4,y4,x5,y5,x7,y7]
  simp only [Int.sub_mul,Int.mul_sub,Int.add_mul,Int.mul_add,Int.neg_mul,Int.mul_neg,Int.zero_mul,Int.mul_zero,Int.neg_neg,Int.mul_comm M h]
  omega
 | j + 8,h,_,_ => omega
theorem oct_mrg_5 {M h:Int} (hM:64 ≤ M) (h1:2 * h ≤ M) (h2:M ≤ 2 * h + 1) {X Y:Nat → Int} (x0:X 0 = M) (y0:Y 0 = -h) (x1:X 1 = M) (y1:Y 1 = h) (x2:X 2 = h) (y2:Y 2 = M) (x3:X 3 = -h) (y3:Y 3 = M) (x4:X 4 = -M) (y4:Y 4 = h) (x5:X 5 = -M) (y5:Y 5 = -h) (x6:X 6 = -h) (y6:Y 6 = -M) (x7:X 7 = h) (y7:Y 7 = -M):∀ j,j < 8 → j ≠ 5 → j ≠ 6 → 8 * M + 8 * M + 8 ≤ (X 6 - X 5) * (Y j - Y 5) - (Y 6 - Y 5) * (X j - X 5):=by
 have p1:64 * M ≤ M * M:=Int.mul_le_mul_of_nonneg_right hM (by omega)
 have q1:(2 * h) * M ≤ M * M:=Int.mul_le_mul_of_nonneg_right h1 (by omega)
 have q2:M * M ≤ (2 * h + 1) * M:=Int.mul_le_mul_of_nonneg_right h2 (by omega)
 have q3:h * (2 * h) ≤ h * M:=Int.mul_le_mul_of_nonneg_left h1 (by omega)
 have q4:h * M ≤ h * (2 * h + 1):=Int.mul_le_mul_of_nonneg_left h2 (by omega)
 have q5:32 * h ≤ h * h:=Int.mul_le_mul_of_nonneg_right (by omega) (by omega)
 rw [Int.mul_assoc] at q1
 rw [Int.add_mul,Int.mul_assoc,Int.one_mul] at q2
 rw [Int.mul_left_comm] at q3
 rw [Int.mul_add,Int.mul_left_comm,Int.mul_one] at q4
 intro j hj k1 k2
 match j,hj,k1,k2 with
 | 0,_,_,_ =>
  rw [x5,y5,x6,y6,x0,y0]
  simp only [Int.sub_mul,Int.mul_sub,Int.add_mul,Int.mul_add,Int.neg_mul,Int.mul_neg,Int.zero_mul,Int.mul_zero,Int.neg_neg,Int.mul_comm M h]
  omega
 | 1,_,_,_ =>
  rw [x5,y5,x6,y6,x1,y1]
  simp only [Int.sub_mul,Int.mul_sub,Int.add_mul,Int.mul_add,Int.neg_mul,Int.mul_neg,Int.zero_mul,Int.mul_zero,Int.neg_neg,Int.mul_comm M h]
  omega
 | 2,_,_,_ =>
  rw [x5,y5,x6,y6,x2,y2]
  simp only [Int.sub_mul,Int.mul_sub,Int.add_mul,Int.mul_add,Int.neg_mul,Int.mul_neg,Int.zero_mul,Int.mul_zero,Int.neg_neg,Int.mul_comm M h]
  omega
 | 3,_,_,_ =>
  rw [x5,y5,x6,y6,x3,y3]
  simp only [Int.sub_mul,Int.mul_sub,Int.add_mul,Int.mul_add,Int.neg_mul,Int.mul_neg,Int.zero_mul,Int.mul_zero,Int.neg_neg,Int.mul_comm M h]
  omega
 | 4,_,_,_ =>
  rw [x5,y5,x6,y6,x4,y4]
  simp only [Int.sub_mul,Int.mul_sub,Int.add_mul,Int.mul_add,Int.neg_mul,Int.mul_neg,Int.zero_mul,Int.mul_zero,Int.neg_neg,Int.mul_comm M h]
  omega
 | 5,_,k1,_ => exact absurd rfl k1
 | 6,_,_,k2 => exact absurd rfl k2
 | 7,_,_,_ =>
  rw [x5,y5,x6,y6,x7,y7]
  simp only [Int.sub_mul,Int.mul_sub,Int.add_mul,Int.mul_add,Int.neg_mul,Int.mul_neg,Int.zero_mul,Int.mul_zero,Int.neg_neg,Int.mul_comm M h]
  omega
 | j + 8,h,_,_ => omega
theorem oct_mrg_6 {M h:Int} (hM:64 ≤ M) (h1:2 * h ≤ M) (h2:M ≤ 2 * h + 1) {X Y:Nat → Int} (x0:X 0 = M) (y0:Y 0 = -h) (x1:X 1 = M) (y1:Y 1 = h) (x2:X 2 = h) (y2:Y 2 = M) (x3:X 3 = -h) (y3:Y 3 = M) (x4:X 4 = -M) (y4:Y 4 = h) (x5:X 5 = -M) (y5:Y 5 = -h) (x6:X 6 = -h) (y6:Y 6 = -M) (x7:X 7 = h) (y7:Y 7 = -M):∀ j,j < 8 → j ≠ 6 → j ≠ 7 → 8 * M + 8 * M + 8 ≤ (X 7 - X 6) * (Y j - Y 6) - (Y 7 - Y 6) * (X j - X 6):=by
 have p1:64 * M ≤ M * M:=Int.mul_le_mul_of_nonneg_right hM (by omega)
 have q1:(2 * h) * M ≤ M * M:=Int.mul_le_mul_of_nonneg_right h1 (by omega)
 have q2:M * M ≤ (2 * h + 1) * M:=Int.mul_le_mul_of_nonneg_right h2 (by omega)
 have q3:h * (2 * h) ≤ h * M:=Int.mul_le_mul_of_nonneg_left h1 (by omega)
 have q4:h * M ≤ h * (2 * h + 1):=Int.mul_le_mul_of_nonneg_left h2 (by omega)
 have q5:32 * h ≤ h * h:=Int.mul_le_mul_of_nonneg_right (by omega) (by omega)
 rw [Int.mul_assoc] at q1
 rw [Int.add_mul,Int.mul_assoc,Int.one_mul] at q2
 rw [Int.mul_left_comm] at q3
 rw [Int.mul_add,Int.mul_left_comm,Int.mul_one] at q4
 intro j hj k1 k2
 match j,hj,k1,k2 with
 | 0,_,_,_ =>
  rw [x6,y6,x7,y7,x0,y0]
  simp only [Int.sub_mul,Int.mul_sub,Int.add_mul,Int.mul_add,Int.neg_mul,Int.mul_neg,Int.zero_mul,Int.mul_zero,Int.neg_neg,Int.mul_comm M h]
  omega
 | 1,_,_,_ =>
  rw [x6,y6,x7,y7,x1,y1]
  simp only [Int.sub_mul,Int.mul_sub,Int.add_mul,Int.mul_add,Int.neg_mul,Int.mul_neg,Int.zero_mul,Int.mul_zero,Int.neg_neg,Int.mul_comm M h]
  omega
 | 2,_,_,_ =>
  rw [x6,y6,x7,y7,x2,y2]
  simp only [Int.sub_mul,Int.mul_sub,Int.add_mul,Int.mul_add,Int.neg_mul,Int.mul_neg,Int.zero_mul,Int.mul_zero,Int.neg_neg,Int.mul_comm M h]
  omega
 | 3,_,_,_ =>
  rw [x6,y6,x7,y7,x3,y3]
  simp only [Int.sub_mul,Int.mul_sub,Int.add_mul,Int.mul_add,Int.neg_mul,Int.mul_neg,Int.zero_mul,Int.mul_zero,Int.neg_neg,Int.mul_comm M h]
  omega
 | 4,_,_,_ =>
  rw [x6,y6,x7,y7,x4,y4]
  simp only [Int.sub_mul,Int.mul_sub,Int.add_mul,Int.mul_add,Int.neg_mul,Int.mul_neg,Int.zero_mul,Int.mul_zero,Int.neg_neg,Int.mul_comm M h]
  omega
 | 5,_,_,_ =>
  rw [x6,y6,x7,y7,x5,y5]
  simp only [Int.sub_mul,Int.mul_sub,Int.add_mul,Int.mul_add,Int.neg_mul,Int.mul_neg,Int.zero_mul,Int.mul_zero,Int.neg_neg,Int.mul_comm M h]
  omega
 | 6,_,k1,_ => exact absurd rfl k1
 | 7,_,_,k2 => exact absurd rfl k2
 | j + 8,h,_,_ => omega
theorem oct_mrg_7 {M h:Int} (hM:64 ≤ M) (h1:2 * h ≤ M) (h2:M ≤ 2 * h + 1) {X Y:Nat → Int} (x0:X 0 = M) (y0:Y 0 = -h) (x1:X 1 = M) (y1:Y 1 = h) (x2:X 2 = h) (y2:Y 2 = M) (x3:X 3 = -h) (y3:Y 3 = M) (x4:X 4 = -M) (y4:Y 4 = h) (x5:X 5 = -M) (y5:Y 5 = -h) (x6:X 6 = -h) (y6:Y 6 = -M) (x7:X 7 = h) (y7:Y 7 = -M):∀ j,j < 8 → j ≠ 7 → j ≠ 0 → 8 * M + 8 * M + 8 ≤ (X 0 - X 7) * (Y j - Y 7) - (Y 0 - Y 7) * (X j - X 7):=by
 have p1:64 * M ≤ M * M:=Int.mul_le_mul_of_nonneg_right hM (by omega)
 have q1:(2 * h) * M ≤ M * M:=Int.mul_le_mul_of_nonneg_right h1 (by omega)
 have q2:M * M ≤ (2 * h + 1) * M:=Int.mul_le_mul_of_nonneg_right h2 (by omega)
 have q3:h * (2 * h) ≤ h * M:=Int.mul_le_mul_of_nonneg_left h1 (by omega)
 have q4:h * M ≤ h * (2 * h + 1):=Int.mul_le_mul_of_nonneg_left h2 (by omega)
 have q5:32 * h ≤ h * h:=Int.mul_le_mul_of_nonneg_right (by omega) (by omega)
 rw [Int.mul_assoc] at q1
 rw [Int.add_mul,Int.mul_assoc,Int.one_mul] at q2
 rw [Int.mul_left_comm] at q3
 rw [Int.mul_add,Int.mul_left_comm,Int.mul_one] at q4
 intro j hj k1 k2
 match j,hj,k1,k2 with
 | 0,_,_,k2 => exact absurd rfl k2
 | 1,_,_,_ =>
  rw [x7,y7,x0,y0,x1,y1]
  simp only [Int.sub_mul,Int.mul_sub,Int.add_mul,Int.mul_add,Int.neg_mul,Int.mul_neg,Int.zero_mul,Int.mul_zero,Int.neg_neg,Int.mul_comm M h]
  omega
 | 2,_,_,_ =>
  rw [x7,y7,x0,y0,x2,y2]
  simp only [Int.sub_mul,Int.mul_sub,Int.add_mul,Int.mul_add,Int.neg_mul,Int.mul_neg,Int.zero_mul,Int.mul_zero,Int.neg_neg,Int.mul_comm M h]
  omega
 | 3,_,_,_ =>
  rw [x7,y7,x0,y0,x3,y3]
  simp only [Int.sub_mul,Int.mul_sub,Int.add_mul,Int.mul_add,Int.neg_mul,Int.mul_neg,Int.zero_mul,Int.mul_zero,Int.neg_neg,Int.mul_comm M h]
  omega
 | 4,_,_,_ =>
  rw [x7,y7,x0,y0,x4,y4]
  simp only [Int.sub_mul,Int.mul_sub,Int.add_mul,Int.mul_add,Int.neg_mul,Int.mul_neg,Int.zero_mul,Int.mul_zero,Int.neg_neg,Int.mul_comm M h]
  omega
 | 5,_,_,_ =>
  rw [x7,y7,x0,y0,x5,y5]
  simp only [Int.sub_mul,Int.mul_sub,Int.add_mul,Int.mul_add,Int.neg_mul,Int.mul_neg,Int.zero_mul,Int.mul_zero,Int.neg_neg,Int.mul_comm M h]
  omega
 | 6,_,_,_ =>
  rw [x7,y7,x0,y0,x6,y6]
  simp only [Int.sub_mul,Int.mul_sub,Int.add_mul,Int.mul_add,Int.neg_mul,Int.mul_neg,Int.zero_mul,Int.mul_zero,Int.neg_neg,Int.mul_comm M h]
  omega
 | 7,_,k1,_ => exact absurd rfl k1
 | j + 8,h,_,_ => omega
theorem oct_mrg {M h:Int} (hM:64 ≤ M) (h1:2 * h ≤ M) (h2:M ≤ 2 * h + 1) {X Y:Nat → Int} (x0:X 0 = M) (y0:Y 0 = -h) (x1:X 1 = M) (y1:Y 1 = h) (x2:X 2 = h) (y2:Y 2 = M) (x3:X 3 = -h) (y3:Y 3 = M) (x4:X 4 = -M) (y4:Y 4 = h) (x5:X 5 = -M) (y5:Y 5 = -h) (x6:X 6 = -h) (y6:Y 6 = -M) (x7:X 7 = h) (y7:Y 7 = -M):mrg 8 X Y:=by
 have B:=oct_mrgB (X:=X) (Y:=Y) hM h1 h2 x0 y0 x1 y1 x2 y2 x3 y3 x4 y4 x5 y5 x6 y6 x7 y7
 intro i hi j hj k1 k2
 refine mg_of (D:=M) (E:=M) (B i hi).1 (B i hi).2 (B _ (nxt_lt hi)).1 (B _ (nxt_lt hi)).2 (B j hj).1 (B j hj).2 ?_
 match i,hi,k1,k2 with
 | 0,_,k1,k2 => exact oct_mrg_0 hM h1 h2 x0 y0 x1 y1 x2 y2 x3 y3 x4 y4 x5 y5 x6 y6 x7 y7 j hj k1 k2
 | 1,_,k1,k2 => exact oct_mrg_1 hM h1 h2 x0 y0 x1 y1 x2 y2 x3 y3 x4 y4 x5 y5 x6 y6 x7 y7 j hj k1 k2
 | 2,_,k1,k2 => exact oct_mrg_2 hM h1 h2 x0 y0 x1 y1 x2 y2 x3 y3 x4 y4 x5 y5 x6 y6 x7 y7 j hj k1 k2
 | 3,_,k1,k2 => exact oct_mrg_3 hM h1 h2 x0 y0 x1 y1 x2 y2 x3 y3 x4 y4 x5 y5 x6 y6 x7 y7 j hj k1 k2
 | 4,_,k1,k2 => exact oct_mrg_4 hM h1 h2 x0 y0 x1 y1 x2 y2 x3 y3 x4 y4 x5 y5 x6 y6 x7 y7 j hj k1 k2
 | 5,_,k1,k2 => exact oct_mrg_5 hM h1 h2 x0 y0 x1 y1 x2 y2 x3 y3 x4 y4 x5 y5 x6 y6 x7 y7 j hj k1 k2
 | 6,_,k1,k2 => exact oct_mrg_6 hM h1 h2 x0 y0 x1 y1 x2 y2 x3 y3 x4 y4 x5 y5 x6 y6 x7 y7 j hj k1 k2
 | 7,_,k1,k2 => exact oct_mrg_7 hM h1 h2 x0 y0 x1 y1 x2 y2 x3 y3 x4 y4 x5 y5 x6 y6 x7 y7 j hj k1 k2
 | i + 8,h,_,_ => omega
end Go.Ax
end
section
/-
  Forms made of numbers are sound.
-/
set_option maxHeartbeats 4000000
set_option maxRecDepth 100000
namespace Go.Ax
open Go.Proofs
theorem mk_mrg {a b c:Int} (hk:¬ mkK a = 1):mrg (corN (mkK a) (mkR a b) (mkH a b b) (mkH a b c) (mkN a) (mkX a b c) (mkY a b c)) (corX (mkK a) (mkH a b b) (mkH a b c) (mkX a b c)) (corY (mkK a) (mkH a b b) (mkH a b c) (mkY a b c)):=by
 have b1:=@mkM_bd b b
 have b2:=@mkM_bd b c
 have t1:(mkM b b).tdiv 2 = mkM b b / 2:=Int.tdiv_eq_ediv_of_nonneg (by omega)
 have t2:(-mkM b b).tdiv 2 = -(mkM b b / 2):=by rw [Int.neg_tdiv,t1]
 have k0:¬ modS a 5 = 0:=fun h => hk (if_pos h)
 unfold corN
 rw [if_pos mk_chk]
 by_cases k1:modS a 5 = 1
 ·have e1:mkK a = 2:=(if_neg k0).trans (if_pos k1)
  have e2:∀ v,mkH a b v = mkW b v:=fun v => (if_neg k0).trans (if_pos k1)
  have w1:=@mkW_bd b b
  have w2:=@mkW_bd b c
  rw [e1,e2,e2,if_pos rfl]
  exact box_mrg (w:=mkW b b) (t:=mkW b c) w1.1 w2.1 rfl rfl rfl rfl rfl rfl rfl rfl
 have h1:mkK a = 3:=(if_neg k0).trans (if_neg k1)
 rw [h1,if_neg (by decide)]
 have eX:corX 3 (mkH a b b) (mkH a b c) (mkX a b c) = mkX a b c:=funext fun i => if_neg (by decide)
 have eY:corY 3 (mkH a b b) (mkH a b c) (mkY a b c) = mkY a b c:=funext fun i => if_neg (by decide)
 rw [eX,eY]
 by_cases k2:modS a 5 = 2
 ·rw [show mkN a = 3 from by unfold mkN; rw [if_neg k0,if_neg k1,if_pos k2]]
  refine tri_mrg (M:=mkM b b) (T:=mkM b c) (by omega) (by omega) ?_ ?_ ?_ ?_ ?_ ?_ <;> (first | unfold mkX | unfold mkY) <;> unfold mkP <;> rw [if_pos k2] <;> rfl
 by_cases k3:modS a 5 = 3
 ·rw [show mkN a = 5 from by unfold mkN; rw [if_neg k0,if_neg k1,if_neg k2,if_pos k3]]
  refine pen_mrg (M:=mkM b b) (T:=mkM b c) (h:=mkM b b / 2) (by omega) (by omega) (by omega) (by omega) ?_ ?_ ?_ ?_ ?_ ?_ ?_ ?_ ?_ ?_ <;> (first | unfold mkX | unfold mkY) <;> unfold mkP <;> rw [if_neg k2,if_pos k3,t1,t2] <;> rfl
 ·rw [show mkN a = 8 from by unfold mkN; rw [if_neg k0,if_neg k1,if_neg k2,if_neg k3]]
  refine oct_mrg (M:=mkM b b) (h:=mkM b b / 2) (by omega) (by omega) (by omega) ?_ ?_ ?_ ?_ ?_ ?_ ?_ ?_ ?_ ?_ ?_ ?_ ?_ ?_ ?_ ?_ <;> (first | unfold mkX | unfold mkY) <;> unfold mkP <;> rw [if_neg k2,if_neg k3,t1,t2] <;> rfl
theorem mk_corN {a b c:Int} (hk:¬ mkK a = 1):3 ≤ corN (mkK a) (mkR a b) (mkH a b b) (mkH a b c) (mkN a) (mkX a b c) (mkY a b c) ∧ corN (mkK a) (mkR a b) (mkH a b b) (mkH a b c) (mkN a) (mkX a b c) (mkY a b c) ≤ 8:=by
 have k0:¬ modS a 5 = 0:=fun h => hk (if_pos h)
 unfold corN
 rw [if_pos mk_chk]
 by_cases k1:modS a 5 = 1
 ·have e1:mkK a = 2:=(if_neg k0).trans (if_pos k1)
  rw [if_pos e1]; omega
 have h1:mkK a = 3:=(if_neg k0).trans (if_neg k1)
 rw [if_neg (by omega)]
 unfold mkN
 rw [if_neg k0,if_neg k1]
 (repeat' split) <;> omega
theorem spV_bd {a:Int} (h:-17179869184000 ≤ a ∧ a ≤ 17179869184000):-1024001 ≤ spV (a,false) ∧ spV (a,false) ≤ 1024001:=by
 rw [spV_in (by omega)]
 omega
theorem mk_form {a b c x y u s:Int} (hs:1 ≤ s ∧ s ≤ 4000) :
  checkS (plK (mkK a) (mkR a b) (mkH a b b) (mkH a b c) (mkN a) (mkX a b c) (mkY a b c) (foAt x y s) (foRot u)) (plC (mkK a) (mkR a b) (mkH a b b) (mkH a b c) (mkN a) (mkX a b c) (mkY a b c) (foAt x y s) (foRot u) (foAt x y s).1) (plC (mkK a) (mkR a b) (mkH a b b) (mkH a b c) (mkN a) (mkX a b c) (mkY a b c) (foAt x y s) (foRot u) (foAt x y s).2)
   (plR (mkK a) (mkR a b) (mkH a b b) (mkH a b c) (mkN a) (mkX a b c) (mkY a b c) (foAt x y s) (foRot u)) (plN (mkK a) (mkR a b) (mkH a b b) (mkH a b c) (mkN a) (mkX a b c) (mkY a b c) (foAt x y s) (foRot u))
   (plX (mkK a) (mkH a b b) (mkH a b c) (mkX a b c) (mkY a b c) (foAt x y s) (foRot u)) (plY (mkK a) (mkH a b b) (mkH a b c) (mkX a b c) (mkY a b c) (foAt x y s) (foRot u)) = 0:=by
 have hp:=@mk_place a b c x y u s hs
 have h1:=@foAt_bd x s hs
 have h2:=@foAt_bd y s hs
 have w1:=@mkW_bd b b
 have s1:=spV_bd h1
 have s2:=spV_bd h2
 unfold plK plC plR plN
 rw [if_pos hp,if_pos hp,if_pos hp,if_pos hp,if_pos hp]
 have v0:validS (spV (foAt x y s).1) (spV (foAt x y s).2) = true:=by
  rw [validS_iff]
  show -2097152 ≤ spV (x.tmod (s * 4294967296),false) ∧ _ ∧ -2097152 ≤ spV (y.tmod (s * 4294967296),false) ∧ spV (y.tmod (s * 4294967296),false) ≤ 2097152
  exact ⟨by omega,by show spV (x.tmod (s * 4294967296),false) ≤ _; omega,by omega,by omega⟩
 by_cases hk:mkK a = 1
 ·have k0:modS a 5 = 0:=by
   unfold mkK at hk
   split at hk
   ·assumption
   ·split at hk <;> omega
  have r1:mkR a b = mkW b b:=if_pos k0
  rw [if_pos hk,if_pos hk,r1]
  unfold checkS
  rw [if_neg (by omega),if_neg (fun q => q ⟨v0,fun i hi => absurd hi (by omega)⟩),if_pos rfl]
  have hb:checkBoxS (spV (foAt x y s).1 - mkW b b) (spV (foAt x y s).2 - mkW b b) (spV (foAt x y s).1 + mkW b b) (spV (foAt x y s).2 + mkW b b) = 0:=by
   have g1:-1024001 ≤ spV (foAt x y s).1 ∧ spV (foAt x y s).1 ≤ 1024001:=s1
   have g2:-1024001 ≤ spV (foAt x y s).2 ∧ spV (foAt x y s).2 ≤ 1024001:=s2
   unfold checkBoxS
   rw [if_pos ⟨validS_iff.2 (by omega),validS_iff.2 (by omega)⟩,if_neg (by omega)]
  rw [if_neg (fun q => by rw [hb] at q; omega),if_neg (by omega)]
 ·have hN:=@mk_corN a b c hk
  have r1:mkR a b = 0:=if_neg fun h => hk (if_pos h)
  have hcv:convexS (corN (mkK a) (mkR a b) (mkH a b b) (mkH a b c) (mkN a) (mkX a b c) (mkY a b c)) (plX (mkK a) (mkH a b b) (mkH a b c) (mkX a b c) (mkY a b c) (foAt x y s) (foRot u)) (plY (mkK a) (mkH a b b) (mkH a b c) (mkX a b c) (mkY a b c) (foAt x y s) (foRot u)) = true:=by
   obtain ⟨f1,f2,f3,f4,f5,f6⟩:=foRot_bd u
   have e:foRot u = (((foRot u).1.1,false),((foRot u).2.1,false)):=Prod.ext (Prod.ext rfl f1) (Prod.ext rfl f2)
   refine pl_cvx (ax:=x.tmod (s * 4294967296)) (ay:=y.tmod (s * 4294967296)) (c:=(foRot u).1.1) (s:=(foRot u).2.1) hN.1 (fun i hi => cor_lo i hi) (mk_mrg hk) h1 h2 f3 f4 (by omega) (by omega) (fun i hi => ?_) (fun i hi => ?_)
   ·show spV (plPt (foAt x y s) (foRot u) _ _).1 = _
    rw [← e]; rfl
   ·show spV (plPt (foAt x y s) (foRot u) _ _).2 = _
    rw [← e]; rfl
  rw [if_neg hk,if_neg hk,r1]
  rw [r1] at hcv hN
  have hvs:=(convexS_iff.1 hcv).2.1
  unfold checkS
  rw [if_neg (by omega),if_neg (fun q => q ⟨v0,hvs⟩),if_neg (by decide),if_neg (fun q => by rw [hcv] at q; rcases q with q | q | q <;> first | omega | exact absurd q (by decide))]
end Go.Ax
end
section
/-
  Made forms within 12 units are near, and not great.
-/
set_option maxHeartbeats 4000000
set_option maxRecDepth 100000
namespace Go.Ax
open Go.Proofs
theorem rot_bd {c s x y B:Int} (h2:c * c + s * s ≤ 18447025548686262272) (hB:0 ≤ B) (hx:-B ≤ x ∧ x ≤ B) (hy:-B ≤ y ∧ y ≤ B):-(6442450944 * B) ≤ c * x - s * y ∧ c * x - s * y ≤ 6442450944 * B:=by
 have hr:=rot_sum h2
 have a1:=ab_nonneg c
 have a2:=ab_nonneg s
 have l1:-ab c ≤ c ∧ c ≤ ab c:=by unfold ab; split <;> omega
 have l2:-ab s ≤ s ∧ s ≤ ab s:=by unfold ab; split <;> omega
 have m1:=mul_bd a1 l1 hx
 have m2:=mul_bd a2 l2 hy
 have e:(ab c + ab s) * B ≤ 6442450944 * B:=Int.mul_le_mul_of_nonneg_right hr hB
 rw [Int.add_mul] at e
 omega
theorem rot_bd' {c s x y B:Int} (h2:c * c + s * s ≤ 18447025548686262272) (hB:0 ≤ B) (hx:-B ≤ x ∧ x ≤ B) (hy:-B ≤ y ∧ y ≤ B):-(6442450944 * B) ≤ s * x + c * y ∧ s * x + c * y ≤ 6442450944 * B:=by
 have h:=@rot_bd s (-c) x y B (by rw [Int.neg_mul_neg]; omega) hB hx hy
 rw [Int.neg_mul] at h
 omega
theorem pl_near {n:Nat} {X Y:Nat → Int} {ax ay c s:Int} (hl:∀ i,i < n → lo (X i) ∧ lo (Y i)) (ha:-51539607552 ≤ ax ∧ ax ≤ 51539607552) (ha2:-51539607552 ≤ ay ∧ ay ≤ 51539607552)
  (hc:-4294967296 ≤ c ∧ c ≤ 4294967296) (hs:-4294967296 ≤ s ∧ s ≤ 4294967296) (h2:c * c + s * s ≤ 18447025548686262272) {Z T:Nat → Int}
  (hZ:∀ i,i < n → Z i = spV (plPt ((ax,false),(ay,false)) ((c,false),(s,false)) (X i) (Y i)).1) (hT:∀ i,i < n → T i = spV (plPt ((ax,false),(ay,false)) ((c,false),(s,false)) (X i) (Y i)).2):sml n Z T ∧ wid n Z T:=by
 have hE:∀ i,i < n → (∃ d,4294967296 * Z i = 256 * ax + (c * X i - s * Y i) + d ∧ ab d ≤ 2147483904) ∧ (∃ d,4294967296 * T i = 256 * ay + (s * X i + c * Y i) + d ∧ ab d ≤ 2147483904):=fun i hi => by
  rw [hZ i hi,hT i hi]
  exact pl_err (by omega) (by omega) hc hs (hl i hi).1 (hl i hi).2
 have al:∀ d:Int,-ab d ≤ d ∧ d ≤ ab d:=fun d => by unfold ab; split <;> omega
 refine ⟨fun i hi => ?_,fun i hi j hj => ?_⟩
 ·obtain ⟨⟨d,q1,q2⟩,⟨g,q3,q4⟩⟩:=hE i hi
  obtain ⟨hx,hy⟩:=hl i hi
  unfold lo at hx hy
  have r1:=rot_bd (B:=4096) (x:=X i) (y:=Y i) h2 (by omega) (by omega) (by omega)
  have r2:=rot_bd' (B:=4096) (x:=X i) (y:=Y i) h2 (by omega) (by omega) (by omega)
  have a1:=al d
  have a2:=al g
  omega
 ·obtain ⟨⟨d,q1,q2⟩,⟨g,q3,q4⟩⟩:=hE i hi
  obtain ⟨⟨d',q5,q6⟩,⟨g',q7,q8⟩⟩:=hE j hj
  obtain ⟨hx,hy⟩:=hl i hi
  obtain ⟨hx',hy'⟩:=hl j hj
  unfold lo at hx hy hx' hy'
  have r1:=rot_bd (B:=8192) (x:=X j - X i) (y:=Y j - Y i) h2 (by omega) (by omega) (by omega)
  have r2:=rot_bd' (B:=8192) (x:=X j - X i) (y:=Y j - Y i) h2 (by omega) (by omega) (by omega)
  have e1:c * (X j - X i) - s * (Y j - Y i) = (c * X j - s * Y j) - (c * X i - s * Y i):=by grind
  have e2:s * (X j - X i) + c * (Y j - Y i) = (s * X j + c * Y j) - (s * X i + c * Y i):=by grind
  rw [e1] at r1
  rw [e2] at r2
  have a1:=al d
  have a2:=al g
  have a3:=al d'
  have a4:=al g'
  omega
theorem foAt_bd12 {x:Int}:-51539607552 ≤ x.tmod (12 * 4294967296) ∧ x.tmod (12 * 4294967296) ≤ 51539607552:=by
 have h1:x.tmod (12 * 4294967296) < 12 * 4294967296:=Int.tmod_lt_of_pos x (by omega)
 have h2:-(12 * 4294967296) < x.tmod (12 * 4294967296):=Int.lt_tmod_of_pos x (by omega)
 omega
theorem spV_bd12 {a:Int} (h:-51539607552 ≤ a ∧ a ≤ 51539607552):-12000 ≤ spV (a,false) ∧ spV (a,false) ≤ 12000:=by
 rw [spV_in (by omega)]
 omega
theorem mk_near {a b c x y u:Int}:nearF (plK (mkK a) (mkR a b) (mkH a b b) (mkH a b c) (mkN a) (mkX a b c) (mkY a b c) (foAt x y 12) (foRot u)) (plC (mkK a) (mkR a b) (mkH a b b) (mkH a b c) (mkN a) (mkX a b c) (mkY a b c) (foAt x y 12) (foRot u) (foAt x y 12).1) (plC (mkK a) (mkR a b) (mkH a b b) (mkH a b c) (mkN a) (mkX a b c) (mkY a b c) (foAt x y 12) (foRot u) (foAt x y 12).2)
   (plR (mkK a) (mkR a b) (mkH a b b) (mkH a b c) (mkN a) (mkX a b c) (mkY a b c) (foAt x y 12) (foRot u)) (plN (mkK a) (mkR a b) (mkH a b b) (mkH a b c) (mkN a) (mkX a b c) (mkY a b c) (foAt x y 12) (foRot u))
   (plX (mkK a) (mkH a b b) (mkH a b c) (mkX a b c) (mkY a b c) (foAt x y 12) (foRot u)) (plY (mkK a) (mkH a b b) (mkH a b c) (mkX a b c) (mkY a b c) (foAt x y 12) (foRot u)):=by
 have hp:=@mk_place a b c x y u 12 (by omega)
 have h1:=@foAt_bd12 x
 have h2:=@foAt_bd12 y
 have w1:=@mkW_bd b b
 unfold nearF plC plR plN
 rw [if_pos hp,if_pos hp,if_pos hp,if_pos hp]
 refine ⟨spV_bd12 h1,spV_bd12 h2,?_,?_⟩
 ·unfold mkR
  split <;> omega
 ·by_cases hk:mkK a = 1
  ·rw [if_pos hk]
   exact ⟨fun i hi => absurd hi (by omega),fun i hi => absurd hi (by omega)⟩
  ·rw [if_neg hk]
   obtain ⟨f1,f2,f3,f4,f5,f6⟩:=foRot_bd u
   have e:foRot u = (((foRot u).1.1,false),((foRot u).2.1,false)):=Prod.ext (Prod.ext rfl f1) (Prod.ext rfl f2)
   refine pl_near (ax:=x.tmod (12 * 4294967296)) (ay:=y.tmod (12 * 4294967296)) (c:=(foRot u).1.1) (s:=(foRot u).2.1) (fun i hi => cor_lo i hi) h1 h2 f3 f4 (by omega) (fun i hi => ?_) (fun i hi => ?_)
   ·show spV (plPt (foAt x y 12) (foRot u) _ _).1 = _
    rw [← e]; rfl
   ·show spV (plPt (foAt x y 12) (foRot u) _ _).2 = _
    rw [← e]; rfl
end Go.Ax
end
section
/-
  Contacts of different bodies: their order does not matter.
-/
set_option maxHeartbeats 4000000
set_option maxRecDepth 100000
namespace Go.Ax
open Go.Proofs
theorem hitT_ap {N:Nat} {B:Nat → Bd} {c:Ct} {j:Nat}:hitT N B c j = if apB N c.a c.b then (if j = c.b.toNat then (hitS (B c.a.toNat) (B c.b.toNat) c).b else if j = c.a.toNat then (hitS (B c.a.toNat) (B c.b.toNat) c).a else B j) else B j:=by
 unfold hitT
 split <;> rfl
def dis (c d:Ct):Prop:=c.a.toNat ≠ d.a.toNat ∧ c.a.toNat ≠ d.b.toNat ∧ c.b.toNat ≠ d.a.toNat ∧ c.b.toNat ≠ d.b.toNat
end Go.Ax
end
section
/-
  The frame of a law: its arguments ars abstract values, and what they read ars behind the call.
-/
namespace Go.Ax
open Go.ChangeShapes Go.WideShapes Go.ChangeAt Go.RowKit
inductive ShV where
 | int (k:IntKind)
 | bool
 | agg (es:List Sh)
 | slice (sz:Nat) (es:List Sh)
def shV (P:Program) (t:TypeId):Option ShV:=
 match P.underlying t with
 | some .bool => some .bool
 | some (.int k) => some (.int k)
 | some (.slice _) => match shT P 9 t with
  | some [.slice sz es] => some (.slice sz es)
  | _ => none
 | some (.struct _) => (shT P 9 t).map .agg
 | some (.array _ _) => (shT P 9 t).map .agg
 | _ => none
def fitV:ShV → AV → Prop
 | .int k,a => ∃ n,a = .v (.int k n) ∧ (Lit.int k n).wf = true
 | .bool,a => ∃ b,a = .v (.bool b)
 | .agg es,a => ∃ l,a = .agg l ∧ fitS es l
 | .slice sz es,a => ∃ (n:Nat) (get:Nat → List AV),a = .ro n sz get ∧ n ≤ maxLen ∧ ∀ i,fitS es (get i)
def shVs (P:Program):List TypeId → Option (List ShV)
 | [] => some []
 | t :: ts => match shV P t,shVs P ts with
  | some s,some r => some (s :: r)
  | _,_ => none
def fitVs:List ShV → List AV → Prop
 | [],l => l = []
 | s :: ss,l => ∃ a r,l = a :: r ∧ fitV s a ∧ fitVs ss r
section
variable {H:Type} {enc:TypeId × Value → H} {P:Program} {w:World} {spare:Nat → Bool} {held:Bool} {base:Nat}
theorem okWide_agg_struct {t:TypeId} {fs:Array Field} {v:Value} (ht:P.underlying t = some (.struct fs)) (h:Value.okWide P w .any base t v):∃ cs,v = .agg cs:=by
 obtain ⟨cs,h,_⟩:=okWide_struct ht h
 exact ⟨cs,h⟩
theorem trod_agg_array {t e:TypeId} {n:Nat} {v:Value} {x:DataW H} {ps:List MemPlace} (ht:P.underlying t = some (.array n e)) (h:Value.okWide P w .any base t v):∃ cs,v = .agg cs:=by
 cases v <;> simp [Value.okWide,Value.ok,ht] at h <;> exact ⟨_,rfl⟩
theorem arg_read {t:TypeId} {s:ShV} {v:Value} {x:DataW H} {ps:List MemPlace} (hs:shV P t = some s) (ho:Value.okWide P w .any base t v) (h:DataW.Trod enc P w 0 spare held t v x ps):∃ a,fitV s a ∧ R w (.ext (All w)) a v:=by
 unfold shV at hs
 split at hs
 ·rename_i hu
  cases hs
  obtain ⟨b,rfl⟩:=okWide_bool hu ho
  exact ⟨_,⟨b,rfl⟩,.v⟩
 ·rename_i k hu
  cases hs
  obtain ⟨n,rfl,_,_,hw⟩:=open_int hu ho h
  exact ⟨_,⟨n,rfl,hw⟩,.v⟩
 ·rename_i e hu
  split at hs
  ·rename_i sz es he
   cases hs
   obtain ⟨a,len,cap,rfl⟩:=okWide_slice hu ho
   obtain ⟨n,get,h1,h2,h3⟩:=slice_read he h
   exact ⟨_,⟨n,get,rfl,h1,h2⟩,h3⟩
  ·cases hs
 ·rename_i fs hu
  obtain ⟨es,he,rfl⟩:=Option.map_eq_some_iff.1 hs
  obtain ⟨cs,rfl⟩:=okWide_agg_struct hu ho
  obtain ⟨l,h1,h2⟩:=agg_read he h
  exact ⟨_,⟨l,rfl,h1⟩,h2⟩
 ·rename_i n e hu
  obtain ⟨es,he,rfl⟩:=Option.map_eq_some_iff.1 hs
  obtain ⟨cs,rfl⟩:=trod_agg_array (x:=x) (ps:=ps) hu ho
  obtain ⟨l,h1,h2⟩:=agg_read he h
  exact ⟨_,⟨l,rfl,h1⟩,h2⟩
 ·cases hs
theorem args_read:∀ {ts:List TypeId} {ss:List ShV} {vs:List Value} {ds:List (DataW H)} {ps:List MemPlace},shVs P ts = some ss → (∀ (j:Nat) t v,ts[j]? = some t → vs[j]? = some v → Value.okWide P w .any base t v) →
  DataW.TrodAll enc P w 0 spare held ts vs ds ps → ∃ l,fitVs ss l ∧ Rs w (.ext (All w)) l vs
 | [],ss,vs,ds,ps,hs,ho,h => by
  simp only [shVs,Option.some.injEq] at hs
  subst hs
  obtain ⟨rfl,rfl,rfl⟩:=trodAll_nil h
  exact ⟨[],rfl,.nil⟩
 | t :: ts,ss,vs,ds,ps,hs,ho,h => by
  simp only [shVs] at hs
  split at hs
  ·rename_i s r h1 h2
   cases hs
   obtain ⟨v,vs',d,ds',p,q,rfl,rfl,rfl,h3,h4⟩:=trodAll_cons h
   obtain ⟨a,a1,a2⟩:=arg_read h1 (ho 0 t v rfl rfl) h3
   obtain ⟨l,b1,b2⟩:=args_read h2 (fun j t v hj hv => ho (j + 1) t v (by simpa using hj) (by simpa using hv)) h4
   exact ⟨a :: l,⟨a,l,rfl,a1,b1⟩,Rs.cons a2 b2⟩
  ·cases hs
def readOK (P:Program) (ts:List TypeId):Bool:=ts.all fun t => P.readableRec t && decide (t < P.types.size)
theorem args_stay {W W':World} (hl:laidOutB P = true) (hb:Below W.heap.size W W'):∀ {ts:List TypeId} {vs:List Value} {ds:List (DataW H)} {ps:List MemPlace},readOK P ts = true →
  DataW.TrodAll enc P W 0 (fun _ => true) true ts vs ds ps → ∃ ps,DataW.TrodAll enc P W' 0 (fun b => decide (b < W.heap.size)) true ts vs ds ps
 | [],vs,ds,ps,_,h => by
  obtain ⟨rfl,rfl,rfl⟩:=trodAll_nil h
  exact ⟨[],rfl⟩
 | t :: ts,vs,ds,ps,hr,h => by
  obtain ⟨v,vs',d,ds',p,q,rfl,rfl,rfl,h3,h4⟩:=trodAll_cons h
  simp only [readOK,List.all_cons,Bool.and_eq_true,decide_eq_true_eq] at hr
  obtain ⟨q',h5⟩:=args_stay hl hb (by simpa [readOK] using hr.2) h4
  refine ⟨_,trodAll_cons_mk (Below.trod hl hr.1.1 hr.1.2 h3 hb ?_) h5⟩
  obtain ⟨m,hm⟩:=h3
  exact DataW.trod_lt m _ _ _ hm
end
end Go.Ax
end
section
/-
  Laws about bodies: their arguments.
-/
set_option maxHeartbeats 4000000
set_option maxRecDepth 100000
namespace Go.Ax
open Go.Proofs
end Go.Ax
end