/-
  How forms touch: what is computed, and the reference's small parts.
-/
import Derived.Test.YtempjfjppjfciaaGreatCM7
set_option linter.unusedVariables false
set_option linter.unusedSimpArgs false
section
set_option maxHeartbeats 4000000
set_option maxRecDepth 100000
namespace Go.Ax
open Go.Proofs
structure Mf where
 nv:V2
 n:Nat
 P:Nat → V2
 D:Nat → Nb
abbrev mfA (m:Mf):AV:=manC m.nv m.n m.P m.D
def mf0:Mf:=⟨zV,0,fun _ => zV,fun _ => (0,false)⟩
def mf1 (nv p:V2) (d:Nb):Mf:=⟨nv,1,fun _ => p,fun _ => d⟩
def oneV:V2:=((4294967296,false),(0,false))
def edN (n:Nat) (X Y:Nat → Int) (i:Nat):V2:=vNorm (X i) (Y i) (X (nxt n i)) (Y (nxt n i))
def twN (d:V2):V2:=if (vUnit d).1 = true then (vUnit d).2 else oneV
def twD (d:V2) (r s:Int):Nb:=nPos (nSub (nRat (IntKind.i64.wrap (r + s)) 256) (vLen d))
def twP (x y r:Int) (d:V2) (e:Nb):V2:=vAdd (vLoc x y) (vScale (twN d) (nSub (nRat r 256) (nDiv e (nInt 2))))
def twoS (x y r x' y' r':Int):Mf:=mf1 (twN (vLoc (mnW x x') (mnW y y'))) (twP x y r (vLoc (mnW x x') (mnW y y')) (twD (vLoc (mnW x x') (mnW y y')) r r')) (twD (vLoc (mnW x x') (mnW y y')) r r')
def deepS (n:Nat) (X Y:Nat → Int) (x y r:Int) (s:AxT):Mf:=
 mf1 (edN n X Y s.2.1.toNat) (vSub (vLoc x y) (vScale (edN n X Y s.2.1.toNat) (nRat r 256))) (nPos (nNeg s.2.2))
def rdT (n:Nat) (X Y:Nat → Int) (x y:Int) (i:Nat):Nb:=
 nCl (nRat (dtW (mnW (X i) x) (mnW (Y i) y) (mnW (X i) (X (nxt n i))) (mnW (Y i) (Y (nxt n i)))) (dtW (mnW (X i) (X (nxt n i))) (mnW (Y i) (Y (nxt n i))) (mnW (X i) (X (nxt n i))) (mnW (Y i) (Y (nxt n i))))) (0,false) (4294967296,false)
def rdP (n:Nat) (X Y:Nat → Int) (x y:Int) (i:Nat):V2:=vAdd (vLoc (X i) (Y i)) (vScale (vLoc (mnW (X i) (X (nxt n i))) (mnW (Y i) (Y (nxt n i)))) (rdT n X Y x y i))
def rdM (n:Nat) (X Y:Nat → Int) (x y:Int) (i:Nat):V2:=vSub (vLoc x y) (rdP n X Y x y i)
def rdL (n:Nat) (X Y:Nat → Int) (x y:Int) (i:Nat):Nb:=vLen (rdM n X Y x y i)
def rdV (n:Nat) (X Y:Nat → Int) (x y:Int) (i:Nat):V2:=
 if (0 < (rdT n X Y x y i).1 ∧ (rdT n X Y x y i).1 < 4294967296) ∨ (vUnit (rdM n X Y x y i)).1 = false then vNorm (X i) (Y i) (X (nxt n i)) (Y (nxt n i)) else (vUnit (rdM n X Y x y i)).2
def leI (h:Nat → Nb):Nat → Nat
 | 0 => 0
 | i + 1 => if cmpS (whV (h (i + 1)).1) (whV (h (leI h i)).1) < 0 then i + 1 else leI h i
def rdS (n:Nat) (X Y:Nat → Int) (x y r:Int):Mf:=
 mf1 (rdV n X Y x y (leI (rdL n X Y x y) (n - 1))) (rdP n X Y x y (leI (rdL n X Y x y) (n - 1))) (nPos (nSub (nRat r 256) (rdL n X Y x y (leI (rdL n X Y x y) (n - 1)))))
def pdS (n:Nat) (X Y:Nat → Int) (x y r:Int):Mf:=if inS n X Y x y = true then deepS n X Y x y r (axSt n (gD n X Y x y r) 0 (gD n X Y x y r) 2) else rdS n X Y x y r
def cutS (x y:V2) (i j:Nb):V2:=vAdd x (vScale (vSub y x) (nDiv i (nSub i j)))
def clpX (x y:V2) (i j:Nb):V2:=if i.1 < 0 ∧ 0 ≤ j.1 then cutS x y i j else x
def clpY (x y:V2) (i j:Nb):V2:=if j.1 < 0 ∧ 0 ≤ i.1 then cutS y x j i else y
theorem clpX_in1 {x y:V2} {i j:Nb} (h:inR x.1.1):inR (clpX x y i j).1.1:=by
 unfold clpX
 split
 ·exact of_eq_true iVAdd1
 ·exact h
theorem clpX_in2 {x y:V2} {i j:Nb} (h:inR x.2.1):inR (clpX x y i j).2.1:=by
 unfold clpX
 split
 ·exact of_eq_true iVAdd2
 ·exact h
theorem clpY_in1 {x y:V2} {i j:Nb} (h:inR y.1.1):inR (clpY x y i j).1.1:=by
 unfold clpY
 split
 ·exact of_eq_true iVAdd1
 ·exact h
theorem clpY_in2 {x y:V2} {i j:Nb} (h:inR y.2.1):inR (clpY x y i j).2.1:=by
 unfold clpY
 split
 ·exact of_eq_true iVAdd2
 ·exact h
def agK (m:Nat) (Z T:Nat → Int) (nv:V2) (j:Nat):Nb:=vDot (vNorm (Z j) (T j) (Z (nxt m j)) (T (nxt m j))) nv
def fx0 (X Y Z T:Nat → Int) (i j:Nat):V2:=vLoc (mnW (X i) (Z j)) (mnW (Y i) (T j))
def flT (n:Nat) (X Y:Nat → Int) (i:Nat):V2:=(vUnit (vOf (mnW (X i) (X (nxt n i))) (mnW (Y i) (Y (nxt n i))))).2
def flE (n:Nat) (X Y:Nat → Int) (i:Nat):Nb:=vLen (vLoc (mnW (X i) (X (nxt n i))) (mnW (Y i) (Y (nxt n i))))
def cl1X (t x y:V2):V2:=clpX x y (vDot t x) (vDot t y)
def cl1Y (t x y:V2):V2:=clpY x y (vDot t x) (vDot t y)
def cl2X (t x y:V2) (e:Nb):V2:=clpX x y (nSub e (vDot t x)) (nSub e (vDot t y))
def cl2Y (t x y:V2) (e:Nb):V2:=clpY x y (nSub e (vDot t x)) (nSub e (vDot t y))
def flX (t x y:V2) (e:Nb):V2:=cl2X t (cl1X t x y) (cl1Y t x y) e
def flY (t x y:V2) (e:Nb):V2:=cl2Y t (cl1X t x y) (cl1Y t x y) e
def flM (nv p x y:V2):Mf:=
 if (vDot nv x).1 ≤ 0 then
  (if (vDot nv y).1 ≤ 0 then ⟨nv,2,fun j => if j = 0 then vAdd p x else vAdd p y,fun j => if j = 0 then nNeg (vDot nv x) else nNeg (vDot nv y)⟩ else mf1 nv (vAdd p x) (nNeg (vDot nv x)))
 else mf1 nv (vAdd p y) (nNeg (vDot nv y))
def edH (n:Nat) (X Y Z T:Nat → Int) (i j:Nat):Nb:=hgt (X i) (Y i) (X (nxt n i)) (Y (nxt n i)) (Z j) (T j)
def flJ (n:Nat) (X Y:Nat → Int) (m:Nat) (Z T:Nat → Int) (i:Nat):Nat:=leI (agK m Z T (edN n X Y i)) (m - 1)
def flW (n:Nat) (X Y:Nat → Int) (m:Nat) (Z T:Nat → Int) (i:Nat):Nat:=leI (edH n X Y Z T i) (m - 1)
def flA (n:Nat) (X Y:Nat → Int) (m:Nat) (Z T:Nat → Int) (i j:Nat):V2:=flX (flT n X Y i) (fx0 X Y Z T i j) (fx0 X Y Z T i (nxt m j)) (flE n X Y i)
def flB (n:Nat) (X Y:Nat → Int) (m:Nat) (Z T:Nat → Int) (i j:Nat):V2:=flY (flT n X Y i) (fx0 X Y Z T i j) (fx0 X Y Z T i (nxt m j)) (flE n X Y i)
def flK (nv p a b q:V2) (d:Nb):Mf:=if (vDot nv a).1 ≤ 0 ∨ (vDot nv b).1 ≤ 0 then flM nv p a b else mf1 nv q d
def flS (n:Nat) (X Y:Nat → Int) (m:Nat) (Z T:Nat → Int) (i:Nat):Mf:=
 flK (edN n X Y i) (vLoc (X i) (Y i)) (flA n X Y m Z T i (flJ n X Y m Z T i)) (flB n X Y m Z T i (flJ n X Y m Z T i)) (vLoc (Z (flW n X Y m Z T i)) (T (flW n X Y m Z T i))) (nPos (nNeg (edH n X Y Z T i (flW n X Y m Z T i))))
def trnS (m:Mf):Mf:=⟨vScale m.nv (nInt (-1)),m.n,m.P,m.D⟩
def clipS (k x y r:Int) (n:Nat) (X Y:Nat → Int) (k' x' y' r':Int) (m:Nat) (Z T:Nat → Int):Mf:=
 if checkS k x y r n X Y = 0 ∧ checkS k' x' y' r' m Z T = 0 ∧ apS k x y r n X Y k' x' y' r' m Z T = false then
  (if k = 1 then (if k' = 1 then twoS x y r x' y' r' else trnS (pdS m Z T x y r))
   else if k' = 1 then pdS n X Y x' y' r'
   else if (axS k x y r n X Y k' x' y' r' m Z T).1 = 0 then flS n X Y m Z T (axS k x y r n X Y k' x' y' r' m Z T).2.1.toNat
   else trnS (flS m Z T n X Y (axS k x y r n X Y k' x' y' r' m Z T).2.1.toNat))
 else mf0
def clipB (k x y r:Int) (n:Nat) (X Y:Nat → Int) (k' x' y' r':Int) (m:Nat) (Z T:Nat → Int):Bool:=
 decide (checkS k x y r n X Y = 0 ∧ checkS k' x' y' r' m Z T = 0 ∧ apS k x y r n X Y k' x' y' r' m Z T = false)
theorem alk_ro6 {n:Nat} {f g:Nat → List AV} (h:∀ i,i < n → g i = f i):alk (.ro n 6 f) (.ro n 6 g):=fun w ρ v hR => ro_alike h hR
theorem alk_nil6 {f:Nat → List AV}:alk (.ro 0 6 f) (.v (.slice none 0 0)):=fun w ρ v hR => by
 cases hR
 exact .ro 0 0 (Nat.le_refl _) (fun h => absurd h (by omega)) (fun h => absurd h (by omega)) (fun i h => absurd h (by omega)) (fun i k h => absurd h (by omega)) (fun i k c x h => absurd h (by omega))
theorem alk_one {nv p:V2} {d:Nb} {g:Nat → List AV} (h:g 0 = tchC p d):alk (mfA (mf1 nv p d)) (.agg [i64 nv.1.1,bo nv.1.2,i64 nv.2.1,bo nv.2.2,.ro 1 6 g]):=by
 refine alk_shape (alk_ro6 fun i hi => ?_)
 have e:i = 0:=Nat.lt_one_iff.1 hi
 subst e
 exact h
theorem leI_lt {h:Nat → Nb}:∀ i,leI h i ≤ i
 | 0 => Nat.le_refl _
 | i + 1 => by
  have:=leI_lt (h:=h) i
  unfold leI
  split <;> omega
theorem axF_ix {o:Int} {G:Nat → Nb}:∀ i:Nat,0 ≤ (axF o G ax0 (i + 1)).2.1 ∧ (axF o G ax0 (i + 1)).2.1 < ((i + 1:Nat):Int)
 | 0 => by
  rw [axF_hit (.inl (by show (-1:Int) < 0; decide))]
  exact ⟨Int.le_refl _,by show ((0:Nat):Int) < ((0 + 1:Nat):Int); decide⟩
 | i + 1 => by
  have ih:=axF_ix (o:=o) (G:=G) i
  by_cases c:(axF o G ax0 (i + 1)).2.1 < 0 ∨ 0 < cmpS (whV (G (i + 1)).1) (whV (axF o G ax0 (i + 1)).2.2.1)
  ·rw [axF_hit c]
   dsimp only
   omega
  ·rw [axF_not c]
   omega
theorem axSt_ix {n:Nat} {G G':Nat → Nb} (h:0 < n):0 ≤ (axSt n G 0 G' 2).2.1 ∧ (axSt n G 0 G' 2).2.1 < n:=by
 have:=axF_ix (o:=0) (G:=G) (n - 1)
 rw [show n - 1 + 1 = n by omega] at this
 exact this
theorem axF_in {o:Int} {G:Nat → Nb} {s:AxT} (hG:∀ i,inR (G i).1) (hs:inR s.2.2.1):∀ i,inR (axF o G s i).2.2.1
 | 0 => hs
 | i + 1 => by
  have ih:=axF_in (o:=o) hG hs i
  unfold axF
  split
  ·exact hG i
  ·exact ih
theorem axSt_in {n m:Nat} {G G':Nat → Nb} (hG:∀ i,inR (G i).1) (hG':∀ i,inR (G' i).1):∀ i,inR (axSt n G m G' i).2.2.1
 | 0 => by show inR 0; unfold inR; decide
 | 1 => axF_in hG (by show inR 0; unfold inR; decide) n
 | _ + 2 => axF_in hG' (axF_in hG (by show inR 0; unfold inR; decide) n) m
def tcN (nv a b:V2):Nat → Nat
 | 0 => 0
 | 1 => if (vDot nv a).1 ≤ 0 then 1 else 0
 | _ => (if (vDot nv a).1 ≤ 0 then 1 else 0) + (if (vDot nv b).1 ≤ 0 then 1 else 0)
theorem tcN_0 {nv a b:V2}:tcN nv a b 0 = 0:=rfl
theorem tcN_1 {nv a b:V2}:tcN nv a b 1 = if (vDot nv a).1 ≤ 0 then 1 else 0:=rfl
theorem tcN_2 {nv a b:V2}:tcN nv a b 2 = tcN nv a b 1 + if (vDot nv b).1 ≤ 0 then 1 else 0:=rfl
def tcP (nv p a b:V2) (j:Nat):V2:=if (vDot nv a).1 ≤ 0 ∧ j = 0 then vAdd p a else vAdd p b
def tcD (nv a b:V2) (j:Nat):Nb:=if (vDot nv a).1 ≤ 0 ∧ j = 0 then nNeg (vDot nv a) else nNeg (vDot nv b)
theorem flK_tc {nv p a b q:V2} {d:Nb} (h:0 < tcN nv a b 2):(flK nv p a b q d).nv = nv ∧ (flK nv p a b q d).n = tcN nv a b 2 ∧ ∀ j,j < tcN nv a b 2 → (flK nv p a b q d).P j = tcP nv p a b j ∧ (flK nv p a b q d).D j = tcD nv a b j:=by
 rw [tcN_2,tcN_1] at h ⊢
 unfold flK flM tcP tcD
 by_cases ha:(vDot nv a).1 ≤ 0
 ·rw [if_pos (.inl ha),if_pos ha,if_pos ha]
  by_cases hb:(vDot nv b).1 ≤ 0
  ·rw [if_pos hb,if_pos hb]
   refine ⟨rfl,rfl,fun j hj => ?_⟩
   dsimp only
   by_cases e:j = 0
   ·rw [if_pos e,if_pos e,if_pos ⟨ha,e⟩,if_pos ⟨ha,e⟩]
    exact ⟨rfl,rfl⟩
   ·rw [if_neg e,if_neg e,if_neg (fun q => e q.2),if_neg (fun q => e q.2)]
    exact ⟨rfl,rfl⟩
  ·rw [if_neg hb,if_neg hb]
   refine ⟨rfl,rfl,fun j hj => ?_⟩
   have e:j = 0:=by omega
   rw [if_pos ⟨ha,e⟩,if_pos ⟨ha,e⟩]
   exact ⟨rfl,rfl⟩
 ·rw [if_neg ha] at h
  have hb:(vDot nv b).1 ≤ 0:=by
   apply Classical.byContradiction
   intro hb
   rw [if_neg hb] at h
   omega
  rw [if_pos (.inr hb),if_neg ha,if_neg ha,if_pos hb]
  refine ⟨rfl,rfl,fun j hj => ?_⟩
  rw [if_neg (fun q => ha q.1),if_neg (fun q => ha q.1)]
  exact ⟨rfl,rfl⟩
theorem flK_no {nv p a b q:V2} {d:Nb} (h:¬ 0 < tcN nv a b 2):flK nv p a b q d = mf1 nv q d:=by
 rw [tcN_2,tcN_1] at h
 refine if_neg ?_
 rintro (k | k)
 ·rw [if_pos k] at h
  omega
 ·rw [if_pos k] at h
  omega
theorem alk_mf {m:Mf} {nv:V2} {n:Nat} {g:Nat → List AV} (h1:m.nv = nv) (h2:m.n = n) (h3:∀ i,i < n → g i = tchC (m.P i) (m.D i)):alk (mfA m) (.agg [i64 nv.1.1,bo nv.1.2,i64 nv.2.1,bo nv.2.2,.ro n 6 g]):=by
 subst h1 h2
 exact alk_shape (alk_ro6 h3)
def inV (v:V2):Prop:=inR v.1.1 ∧ inR v.2.1
def inM (m:Mf):Prop:=inV m.nv ∧ m.n ≤ 2 ∧ ∀ j,inV (m.P j) ∧ inR (m.D j).1
theorem inV_norm {a b c d:Int}:inV (vNorm a b c d):=⟨of_eq_true iNorm1,of_eq_true iNorm2⟩
theorem inV_unit {u:V2}:inV (vUnit u).2:=⟨of_eq_true iUnit1,of_eq_true iUnit2⟩
theorem inV_add {u v:V2}:inV (vAdd u v):=⟨of_eq_true iVAdd1,of_eq_true iVAdd2⟩
theorem inV_sub {u v:V2}:inV (vSub u v):=⟨of_eq_true iVSub1,of_eq_true iVSub2⟩
theorem inV_loc {x y:Int}:inV (vLoc x y):=⟨of_eq_true iLoc1,of_eq_true iLoc2⟩
theorem inR_ps {a:Nb} (h:inR a.1):inR (nPos a).1:=of_eq_true (iPos h)
theorem inR_ng {a:Nb} (h:inR a.1):inR (nNeg a).1:=of_eq_true (iNeg h)
theorem inR_sb {a b:Nb}:inR (nSub a b).1:=of_eq_true iSub
theorem inR_dot {u v:V2}:inR (vDot u v).1:=of_eq_true iVDot
theorem inR_hgt {a b c d x y:Int}:inR (hgt a b c d x y).1:=rg_inR hgt_rg
theorem mf1_in {nv p:V2} {d:Nb} (hn:inV nv) (hp:inV p) (hd:inR d.1):inM (mf1 nv p d):=⟨hn,by show 1 ≤ 2; omega,fun _ => ⟨hp,hd⟩⟩
theorem deepS_in {n:Nat} {X Y:Nat → Int} {x y r:Int} {s:AxT} (h:inR s.2.2.1):inM (deepS n X Y x y r s):=mf1_in inV_norm inV_sub (inR_ps (inR_ng h))
theorem rdS_in {n:Nat} {X Y:Nat → Int} {x y r:Int}:inM (rdS n X Y x y r):=by
 refine mf1_in ?_ inV_add (inR_ps inR_sb)
 unfold rdV
 split
 ·exact inV_norm
 ·exact inV_unit
theorem pdS_in {n:Nat} {X Y:Nat → Int} {x y r:Int}:inM (pdS n X Y x y r):=by
 unfold pdS
 split
 ·exact deepS_in (axSt_in (fun _ => rg_inR gD_rg) (fun _ => rg_inR gD_rg) _)
 ·exact rdS_in
theorem flM_in {nv p x y:V2} (h:inV nv):inM (flM nv p x y):=by
 unfold flM
 split
 ·split
  ·refine ⟨h,by show 2 ≤ 2; omega,fun j => ?_⟩
   dsimp only
   split
   ·exact ⟨inV_add,inR_ng inR_dot⟩
   ·exact ⟨inV_add,inR_ng inR_dot⟩
  ·exact mf1_in h inV_add (inR_ng inR_dot)
 ·exact mf1_in h inV_add (inR_ng inR_dot)
theorem flS_in {n m:Nat} {X Y Z T:Nat → Int} {i:Nat}:inM (flS n X Y m Z T i):=by
 unfold flS flK
 split
 ·exact flM_in inV_norm
 ·exact mf1_in inV_norm inV_loc (inR_ps (inR_ng inR_hgt))
theorem axF_ix1 {G:Nat → Nb} {s:AxT} {n:Nat} (h:s.1 = 0 ∧ 0 ≤ s.2.1 ∧ s.2.1 < n):∀ i:Nat,((axF 1 G s i).1 = 0 ∧ 0 ≤ (axF 1 G s i).2.1 ∧ (axF 1 G s i).2.1 < n) ∨ ((axF 1 G s i).1 = 1 ∧ 0 ≤ (axF 1 G s i).2.1 ∧ (axF 1 G s i).2.1 < i)
 | 0 => .inl h
 | i + 1 => by
  have ih:=axF_ix1 (G:=G) h i
  by_cases c:(axF 1 G s i).2.1 < 0 ∨ 0 < cmpS (whV (G i).1) (whV (axF 1 G s i).2.2.1)
  ·rw [axF_hit c]
   dsimp only
   exact .inr ⟨rfl,by omega,by omega⟩
  ·rw [axF_not c]
   omega
theorem axF_of {o:Int} {G:Nat → Nb}:∀ i:Nat,(axF o G ax0 (i + 1)).1 = o
 | 0 => by rw [axF_hit (.inl (by show (-1:Int) < 0; decide))]
 | i + 1 => by
  have ih:=axF_of (o:=o) (G:=G) i
  by_cases c:(axF o G ax0 (i + 1)).2.1 < 0 ∨ 0 < cmpS (whV (G (i + 1)).1) (whV (axF o G ax0 (i + 1)).2.2.1)
  ·rw [axF_hit c]
  ·rw [axF_not c,ih]
theorem axSt_ix2 {n m:Nat} {G G':Nat → Nb} (h:0 < n):((axSt n G m G' 2).1 = 0 ∧ 0 ≤ (axSt n G m G' 2).2.1 ∧ (axSt n G m G' 2).2.1 < n) ∨ ((axSt n G m G' 2).1 = 1 ∧ 0 ≤ (axSt n G m G' 2).2.1 ∧ (axSt n G m G' 2).2.1 < m):=by
 have h1:=axF_ix (o:=0) (G:=G) (n - 1)
 have h2:=axF_of (o:=0) (G:=G) (n - 1)
 rw [show n - 1 + 1 = n by omega] at h1 h2
 exact axF_ix1 (G:=G') ⟨h2,h1⟩ m
theorem bnd_man {v:V2} {n:Nat} {P:Nat → V2} {D:Nat → Nb}:bnd (manC v n P D) = .agg [i64 v.1.1,bo v.1.2,i64 v.2.1,bo v.2.2,.ro n 6 (tchs P D)]:=(rfl)
attribute [go_sem] bnd_man
def clipA (k x y r:Int) (n:Nat) (X Y:Nat → Int) (k' x' y' r':Int) (m:Nat) (Z T:Nat → Int):AV:=.tup [mfA (clipS k x y r n X Y k' x' y' r' m Z T),bo (clipB k x y r n X Y k' x' y' r' m Z T)]
def c73:Con
 | [.agg [.v (.int .i64 k),.v (.int .i64 x),.v (.int .i64 y),.v (.int .i64 r),.ro n 2 g],.agg [.v (.int .i64 k'),.v (.int .i64 x'),.v (.int .i64 y'),.v (.int .i64 r'),.ro m 2 g']] => some ([spots n g,spots m g',n ≤ 9223372036854775806,m ≤ 9223372036854775806,inR x,inR y,inR r,inR x',inR y',inR r'],
   clipA k x y r n (gx g 0) (gx g 1) k' x' y' r' m (gx g' 0) (gx g' 1))
 | _ => none
theorem bnd_clip {k x y r:Int} {n:Nat} {X Y:Nat → Int} {k' x' y' r':Int} {m:Nat} {Z T:Nat → Int}:clipA k x y r n X Y k' x' y' r' m Z T = .tup [.agg [i64 (clipS k x y r n X Y k' x' y' r' m Z T).nv.1.1,bo (clipS k x y r n X Y k' x' y' r' m Z T).nv.1.2,i64 (clipS k x y r n X Y k' x' y' r' m Z T).nv.2.1,bo (clipS k x y r n X Y k' x' y' r' m Z T).nv.2.2,.ro (clipS k x y r n X Y k' x' y' r' m Z T).n 6 (tchs (clipS k x y r n X Y k' x' y' r' m Z T).P (clipS k x y r n X Y k' x' y' r' m Z T).D)],bo (clipB k x y r n X Y k' x' y' r' m Z T)]:=(rfl)
attribute [go_sem] bnd_clip
theorem plC_in {k r w t:Int} {n:Nat} {X Y:Nat → Int} {at' rot:V2} {a:Nb}:inR (plC k r w t n X Y at' rot a) = True:=eq_true (by
 unfold plC
 split
 ·exact spV_inR
 ·unfold inR; omega)
def kb70:Con:=cB fun b rest => match rest with
 | [] => some ([inB b,b.n ≤ 1000],plA b.k b.r b.wd b.ht b.n b.X b.Y b.pl b.rot)
 | _ => none
theorem konb70:ConOK Tryz.prog 70 kb70:=ConOK.cB (G:=[(65,c65)]) (H:=[]) (.cons con65 .nil) Tryz.func70 fun b rest ob r hc hob => by
 split at hc
 ·skip
  cases hc
  have h_0:inB b:=hob _ (by simp)
  have h_1:b.n ≤ 1000:=hob _ (by simp)
  obtain ⟨b1,b2,b3,b4,b5,b6,b7,b8,b9,b10,b11,b12,b13,b14,b15,b16⟩:=h_0
  have hb:inB b:=hob _ (by simp)
  refine ⟨by kernel_rfl,fnVC_go (rs:=[.cell 2 122,.tmp 3]) rfl rfl ?_⟩
  simp only [bodyC,go_sem,c65,cB_eq,cBR_eq,bodyD_lit,gx_pts0,gx_pts1,spots_can,etaN,etaV,bd_eta,b1,b2,b3,b4,b6,b7,b8,b9,b10,b11,b12,b13,b14,b15,b16,hb,h_1,plA]
  simp only [forall_eq]
  exact ⟨b5,by omega,trivial⟩
 ·cases hc
def fE (b:Bd):Int:=plErr b.k b.r b.wd b.ht b.n b.X b.Y b.pl b.rot
def fK (b:Bd):Int:=plK b.k b.r b.wd b.ht b.n b.X b.Y b.pl b.rot
def fCx (b:Bd):Int:=plC b.k b.r b.wd b.ht b.n b.X b.Y b.pl b.rot b.pl.1
def fCy (b:Bd):Int:=plC b.k b.r b.wd b.ht b.n b.X b.Y b.pl b.rot b.pl.2
def fR (b:Bd):Int:=plR b.k b.r b.wd b.ht b.n b.X b.Y b.pl b.rot
def fN (b:Bd):Nat:=plN b.k b.r b.wd b.ht b.n b.X b.Y b.pl b.rot
def fX (b:Bd):Nat → Int:=plX b.k b.wd b.ht b.X b.Y b.pl b.rot
def fY (b:Bd):Nat → Int:=plY b.k b.wd b.ht b.X b.Y b.pl b.rot
def touS (b c:Bd):Mf:=clipS (fK b) (fCx b) (fCy b) (fR b) (fN b) (fX b) (fY b) (fK c) (fCx c) (fCy c) (fR c) (fN c) (fX c) (fY c)
def touB (b c:Bd):Bool:=clipB (fK b) (fCx b) (fCy b) (fR b) (fN b) (fX b) (fY b) (fK c) (fCx c) (fCy c) (fR c) (fN c) (fX c) (fY c)
theorem clip_0 {k x y r:Int} {n:Nat} {X Y:Nat → Int} {k' x' y' r':Int} {m:Nat} {Z T:Nat → Int} (h:¬ (checkS k x y r n X Y = 0 ∧ checkS k' x' y' r' m Z T = 0 ∧ apS k x y r n X Y k' x' y' r' m Z T = false)):clipS k x y r n X Y k' x' y' r' m Z T = mf0 ∧ clipB k x y r n X Y k' x' y' r' m Z T = false:=⟨if_neg h,decide_eq_false h⟩
theorem tou_0 {b c:Bd} (h:fE b ≠ 0 ∨ fE c ≠ 0):touS b c = mf0 ∧ touB b c = false:=by
 refine clip_0 fun hq => ?_
 have q:∀ d:Bd,fE d ≠ 0 → fK d = 0:=fun d hd => if_neg hd
 rcases h with h | h
 ·have:=(check_1 hq.1).1
  rw [q b h] at this
  omega
 ·have:=(check_1 hq.2.1).1
  rw [q c h] at this
  omega
def kTou:Con
 | [.agg l,.agg l'] => some ([l = bodyC (bodyD l),l' = bodyC (bodyD l'),inB (bodyD l),inB (bodyD l'),(bodyD l).n ≤ 1000,(bodyD l').n ≤ 1000],.tup [mfA (touS (bodyD l) (bodyD l')),bo (touB (bodyD l) (bodyD l'))])
 | _ => none
def hitN (a b:Bd) (x n:V2) (pu:Nb):Nb:=nPos (nAdd pu (sliS a b x n))
def apaA (a:Bd) (x n:V2) (d:Nb):Bd:=pshS a x (vScale n (nNeg d))
def apaB (b:Bd) (x n:V2) (d:Nb):Bd:=pshS b x (vScale n d)
def hitY (a b:Bd) (x t:V2) (nx ru:Nb):Nb:=nCl (nAdd ru (sliS a b x t)) (nNeg (nMul nx (nRat 1 2))) (nMul nx (nRat 1 2))
structure Hr where
 a:Bd
 b:Bd
 p:Nb
 r:Nb
def hitR (a b:Bd) (x n:V2) (pu ru:Nb):Hr:=
 if (sliK a b x n).1 = 0 then ⟨a,b,pu,ru⟩ else
 let nx:=hitN a b x n pu
 let a1:=apaA a x n (nSub nx pu)
 let b1:=apaB b x n (nSub nx pu)
 let t:=vPerp n
 if (sliK a1 b1 x t).1 = 0 then ⟨a1,b1,nx,ru⟩ else
 let ry:=hitY a1 b1 x t nx ru
 ⟨apaA a1 x t (nSub ry ru),apaB b1 x t (nSub ry ru),nx,ry⟩
structure Hs where
 a:Bd
 b:Bd
 c:Ct
def hit0 (a b:Bd) (c:Ct):Hs:=⟨(hitR a b (c.P 0) c.nv c.p0 c.r0).a,(hitR a b (c.P 0) c.nv c.p0 c.r0).b,{ c with p0:=(hitR a b (c.P 0) c.nv c.p0 c.r0).p,r0:=(hitR a b (c.P 0) c.nv c.p0 c.r0).r }⟩
def hit1 (a b:Bd) (c:Ct):Hs:=⟨(hitR a b (c.P 1) c.nv c.p1 c.r1).a,(hitR a b (c.P 1) c.nv c.p1 c.r1).b,{ c with p1:=(hitR a b (c.P 1) c.nv c.p1 c.r1).p,r1:=(hitR a b (c.P 1) c.nv c.p1 c.r1).r }⟩
def hitI (a b:Bd) (c:Ct):Nat → Hs
 | 0 => ⟨a,b,c⟩
 | 1 => hit0 a b c
 | _ + 2 => hit1 (hit0 a b c).a (hit0 a b c).b (hit0 a b c).c
def hitS (a b:Bd) (c:Ct):Hs:=hitI a b c (min 2 c.n)
def hitT (N:Nat) (B:Nat → Bd) (c:Ct):Nat → Bd:=
 if apB N c.a c.b then updB (updB B c.a.toNat (hitS (B c.a.toNat) (B c.b.toNat) c).a) c.b.toNat (hitS (B c.a.toNat) (B c.b.toNat) c).b else B
def hitC (N:Nat) (B:Nat → Bd) (c:Ct):Ct:=if apB N c.a c.b then (hitS (B c.a.toNat) (B c.b.toNat) c).c else c
def hitF:Nat → (Nat → List AV) → List AV → List AV → Option (List Prop × AV × (Nat → List AV) × List AV)
 | N,get,l,[] => some ([get = bsC (bsD get),inBs N (bsD get),N ≤ 1000,l = contC (contD l),inC (contD l),(contD l).n ≤ 1000],.tup [],bsC (hitT N (bsD get) (contD l)),contC (hitC N (bsD get) (contD l)))
 | _,_,_,_ => none
theorem fitF_T {K N M L sz:Nat} {σ:Names} {tp ty:TypeId} {get:Nat → List AV} (hK:K < L) (hc:∀ i,i < N → cleanCs (get i) = true):fitF L M σ (famT K N sz tp ty get) (some (famT K N sz tp ty get)):=fun f => by
 cases f with
 | zero =>
  refine ⟨rfl,rfl,rfl,rfl,rfl,fun j hj => ⟨⟨rfl,hK⟩,trivial⟩⟩
 | succ f =>
  refine ⟨rfl,rfl,rfl,rfl,rfl,fun j hj => ?_⟩
  simp only [famT] at hj ⊢
  split at hj
  ·rename_i hf
   have:j = 0:=by omega
   subst this
   exact fitL_clean (hc f hf)
  ·omega
theorem cleanCs_of:∀ {l:List AV},(∀ c ∈ l,cleanC c = true) → cleanCs l = true
 | [],_ => rfl
 | a :: l,h => by
  simp only [cleanCs,Bool.and_eq_true]
  exact ⟨h a (by simp),cleanCs_of fun c hc => h c (by simp [hc])⟩
theorem fitF_cl {N M:Nat} {σ:Names} {fam:Fam} (h:famCl fam):fitF N M σ fam (some fam):=fun f =>
 ⟨rfl,rfl,rfl,(h f).1,(h f).1,fun j hj => fitL_clean (cleanCs_of ((h f).2 j hj))⟩
theorem nb_f {x:Int} (h:false = !(x == 0)):x = 0:=by simpa using h
theorem nb_t {x:Int} (h:true = !(x == 0)):¬ x = 0:=by simpa using h
theorem iSli {a b:Bd} {x n:V2}:inR (sliS a b x n).1 = True:=iDiv
theorem hitR_b {a b:Bd} {x n:V2} {pu ru:Nb} (h:¬ (sliK a b x n).1 = 0) (k:(sliK (apaA a x n (nSub (hitN a b x n pu) pu)) (apaB b x n (nSub (hitN a b x n pu) pu)) x (vPerp n)).1 = 0) :
  hitR a b x n pu ru = ⟨apaA a x n (nSub (hitN a b x n pu) pu),apaB b x n (nSub (hitN a b x n pu) pu),hitN a b x n pu,ru⟩:=by
 unfold hitR; rw [if_neg h]; dsimp only; rw [if_pos k]
theorem hitR_c {a b:Bd} {x n:V2} {pu ru:Nb} (h:¬ (sliK a b x n).1 = 0) (k:¬ (sliK (apaA a x n (nSub (hitN a b x n pu) pu)) (apaB b x n (nSub (hitN a b x n pu) pu)) x (vPerp n)).1 = 0) :
  hitR a b x n pu ru = (let a1:=apaA a x n (nSub (hitN a b x n pu) pu); let b1:=apaB b x n (nSub (hitN a b x n pu) pu); let nx:=hitN a b x n pu; let t:=vPerp n; let ry:=hitY a1 b1 x t nx ru; ⟨apaA a1 x t (nSub ry ru),apaB b1 x t (nSub ry ru),nx,ry⟩):=by
 unfold hitR; rw [if_neg h]; dsimp only; rw [if_neg k]
theorem hitR_in {a b:Bd} {x n:V2} {pu ru:Nb} (ha:inB a) (hb:inB b) (hp:inR pu.1) (hr:inR ru.1):inB (hitR a b x n pu ru).a ∧ inB (hitR a b x n pu ru).b ∧ inR (hitR a b x n pu ru).p.1 ∧ inR (hitR a b x n pu ru).r.1:=by
 unfold hitR
 split
 ·exact ⟨ha,hb,hp,hr⟩
 ·dsimp only
  have k1:inR (hitN a b x n pu).1:=of_eq_true (iPos (of_eq_true iAdd))
  have k2:=inB_psh (p:=x) (j:=vScale n (nNeg (nSub (hitN a b x n pu) pu))) ha
  have k3:=inB_psh (p:=x) (j:=vScale n (nSub (hitN a b x n pu) pu)) hb
  split
  ·exact ⟨k2,k3,k1,hr⟩
  ·exact ⟨inB_psh k2,inB_psh k3,k1,of_eq_true (iCl (of_eq_true iAdd) (of_eq_true (iNeg (of_eq_true iMul))) (of_eq_true iMul))⟩
theorem hit0_in {a b:Bd} {c:Ct} (ha:inB a) (hb:inB b) (hc:inC c):inB (hit0 a b c).a ∧ inB (hit0 a b c).b ∧ inC (hit0 a b c).c:=by
 obtain ⟨c1,c2,c3,c4,c5,c6,c7,c8,c9⟩:=hc
 obtain ⟨h1,h2,h3,h4⟩:=hitR_in (x:=c.P 0) (n:=c.nv) ha hb c6 c8
 exact ⟨h1,h2,c1,c2,c3,c4,c5,h3,c7,h4,c9⟩
def contR (c:Ct):List AV:=contC c
def mHit:MCon:=mcTQ 27 15 92 96 hitF
theorem con59m:MConOK Tryz.prog 59 mHit:=MConOK.mcTQ (G:=[(107,.wr mTwo),(108,kw160p),(109,kSli),(88,kw153),(49,k214),(111,k160),(110,.wr mApa),(52,k132),(47,k129),(112,k179),(102,k171)]) (H:=[(0,⟨[(9,.call)],[]⟩),(11,⟨[(11,.slot 1)],[]⟩),(12,⟨[(13,.call)],[]⟩),(15,⟨[(9,.made 8)],[]⟩),(17,⟨[(12,.slot 1)],[]⟩),(18,⟨[(13,.call)],[]⟩)]) (.mcons con107m (.cons konw160p (.cons con109 (.cons konw153 (.cons kon214 (.cons kon160 (.mcons con110m (.cons kon132 (.cons kon129 (.cons kon179 (.cons kon171 .nil))))))))))) Tryz.func59 fun N get l rest ob val get' cs' hF hob hcl hcl2 => by
 unfold hitF at hF
 split at hF
 ·cases hF
  have h1:get = bsC (bsD get):=hob _ (by simp)
  have hB:inBs N (bsD get):=hob _ (by simp)
  have hN:N ≤ 1000:=hob _ (by simp)
  have h2:l = contC (contD l):=hob _ (by simp)
  have hc:inC (contD l):=hob _ (by simp)
  have hn:(contD l).n ≤ 1000:=hob _ (by simp)
  clear hob
  generalize bsD get = B at *
  generalize contD l = c at *
  subst h1 h2
  refine ⟨by simp,rfl,fun i _ => rfl,rfl,by kernel_rfl,fun fam f q hq hs hfc => bodyM_go (rs:=[]) rfl rfl ?_⟩
  have hg:∀ f,(fam f).g = none:=fun f => (hfc f).1
  obtain ⟨c1,c2,c3,c4,c5,c6,c7,c8,c9⟩:=id hc
  simp only [contC,go_sem,kw160p,kSli,kw153,k214,k160,k132,k129,k179,k171,mTwo,tchs_at,tchC,loadP_E,storeP_E,← hs,hg,hq,c3,c4]
  have hno:¬ apB N c.a c.b → hitT N B c = B ∧ hitC N B c = c:=fun h => ⟨if_neg h,if_neg h⟩
  refine ⟨fun hap z hz => ⟨hN,(fun h => by rw [hz] at h; cases h),fun _ z1 hz1 => ?_⟩,fun hap z hz => ⟨hN,(fun h => ?_),fun h => (by rw [hz] at h; cases h)⟩⟩
  rotate_left
  ·obtain ⟨e1,e2⟩:=hno hap
   rw [e1,e2]
   exact ⟨rfl,rfl⟩
  obtain ⟨a1,a2,a3,a4,a5⟩:=id hap
  have hz1':z1 = ((min 2 c.n:Nat):Int):=by rw [hz1]; omega
  have eT:hitT N B c = updB (updB B c.a.toNat (hitS (B c.a.toNat) (B c.b.toNat) c).a) c.b.toNat (hitS (B c.a.toNat) (B c.b.toNat) c).b:=if_pos hap
  have eC:hitC N B c = (hitS (B c.a.toNat) (B c.b.toNat) c).c:=if_pos hap
  obtain ⟨i1,i2⟩:=hB c.a.toNat (by omega)
  obtain ⟨i3,i4⟩:=hB c.b.toNat (by omega)
  have hA:c.a.toNat < N:=by omega
  have hA2:c.b.toNat < N:=by omega
  have hne:c.a.toNat ≠ c.b.toNat:=by omega
  rw [eT,eC]
  unfold hitS
  generalize c.a.toNat = A at *
  generalize c.b.toNat = Q at *
  generalize hM:min 2 c.n = M at *
  subst hz1'
  have u1:∀ B x y,updB (updB B A x) Q y A = x:=fun B x y => by rw [updB_off hne,updB_at]
  have u2:∀ B x y u v,updB (updB (updB (updB B A x) Q y) A u) Q v = updB (updB B A u) Q v:=fun B x y u v => by
   funext j
   unfold updB
   by_cases h1:j = Q
   ·simp [h1]
   ·by_cases h2:j = A <;> simp [h1,h2]
  obtain ⟨S,hS⟩:∃ S:Nat → Hs,S = hitI (B A) (B Q) c:=⟨_,rfl⟩
  rw [← hS]
  have s0:S 0 = ⟨B A,B Q,c⟩:=by rw [hS]; rfl
  have u0:updB (updB B A (B A)) Q (B Q) = B:=by
   funext j
   unfold updB
   by_cases h1:j = Q
   ·simp [h1]
   ·by_cases h2:j = A
    ·subst h2; simp [h1]
    ·simp [h1,h2]
  have hff:∀ d:Ct,famCl (famE fam f q (contC d)):=fun d => famCl_E hfc (cleanCs_mem rfl)
  refine loopC_go (fun (i:Nat) => i ≤ M) (fun i => M - i) (fun i => [(45,i64 (i:Int))]) (fun i => [(0,famT 0 N 27 92 96 (bsC (updB (updB B A (S i).a) Q (S i).b))),(1,famE fam f q (contR (S i).c))]) [30,26] [46,47,9,48,49,50,51,52,53,54,55,56,10,58,59,60,61,62,57,63,64,11,12,65,66,67,68,69,70,71,72,13,73,74,75,76,77,78,79,80,81,82,83,84,85,86,87,88,89,90,91,92,93,94,95,96,97,99,100,101,102,103,98,104,105,12,106,107,108,109,110,111,112,113,114,115,14,116,117,118,119,120,121,122,123,124,125,126,127,128,129,130,131,132,133,134,135,136,137,138,139,140,141,142,143,144,145,146,147,148,45] 0 (by kernel_rfl) ?_ (Nat.zero_le _) ?_ ?_
  ·intro x _; simp [goodNames,asg]
  ·simp only [go_sem,s0,u0]
   exact ⟨fitF_T (by omega) fun _ _ => rfl,fitF_cl (hff c)⟩
  intro i hi
  match i,hi with
  | 0,hi =>
   have e0:contR (S 0).c = contC c:=by rw [s0]; rfl
   rw [e0]
   have en:S 1 = hit0 (B A) (B Q) (c):=by rw [hS]; rfl
   by_cases hM0:0 < M
   ·obtain ⟨t1,t2,t3⟩:=c5 0 (by omega)
    simp only [contC,go_sem,kw160p,kSli,kw153,k214,k160,k132,k129,k179,k171,tchs_at,tchC,loadP_E,storeP_E,← hs,hg,hq,c3,c4,c6,c8,s0,mApa,apaF,u0,u1,u2,updB_at,i1,i3,hA,hA2,iSli,inB_psh,t1,t2]
    have fin:∀ s:Hs,S 1 = s → fitF 40 40 [] (famT 0 N 27 92 96 (bsC (updB (updB B A (S 1).a) Q (S 1).b))) (some (famT 0 N 27 92 96 (bsC (updB (updB B A s.a) Q s.b)))) ∧ fitF 40 40 [] (famE fam f q (contR (S 1).c)) (some (famE fam f q (contC s.c))):=fun s hs => by
     rw [hs]; exact ⟨fitF_T (by omega) fun _ _ => rfl,fitF_cl (hff s.c)⟩
    have w1:IntKind.i64.wrap 1 = ((1:Nat):Int):=by decide
    have hAQ:A + 1 ≠ Q + 1:=by omega
    refine ⟨fun h => ⟨by omega,fun y hy => ⟨fun y0 v hv => ?_,fun y0 => ⟨hAQ,fun w hw => ⟨of_eq_true (iWh c3),fun w0 v hv => ?_,fun w0 => ⟨hAQ,of_eq_true (iWh c3),fun v hv => ?_⟩⟩⟩⟩⟩,fun h => absurd h (by omega)⟩
    ·have hk:(sliK (B A) (B Q) (c.P 0) c.nv).1 = 0:=by rw [y0] at hy; simpa using hy
     have es:S 1 = ⟨B A,B Q,c⟩:=by rw [en]; unfold hit0; rw [show hitR (B A) (B Q) (c.P 0) c.nv c.p0 c.r0 = ⟨B A,B Q,c.p0,c.r0⟩ from if_pos hk]
     exact ⟨1,by omega,by omega,by rw [hv,w1],by have q:=fin _ es; rw [u0] at q; exact q⟩
    ·have hk:¬ (sliK (B A) (B Q) (c.P 0) c.nv).1 = 0:=by rw [y0] at hy; simpa using hy
     have hk2:(sliK (apaA (B A) (c.P 0) c.nv (nSub (hitN (B A) (B Q) (c.P 0) c.nv c.p0) c.p0)) (apaB (B Q) (c.P 0) c.nv (nSub (hitN (B A) (B Q) (c.P 0) c.nv c.p0) c.p0)) (c.P 0) (vPerp c.nv)).1 = 0:=nb_f (w0.symm.trans hw)
     have es:=en
     unfold hit0 at es
     rw [hitR_b hk hk2] at es
     exact ⟨1,by omega,by omega,by rw [hv,w1],fin _ es⟩
    ·have hk:¬ (sliK (B A) (B Q) (c.P 0) c.nv).1 = 0:=by rw [y0] at hy; simpa using hy
     have hk2:¬ (sliK (apaA (B A) (c.P 0) c.nv (nSub (hitN (B A) (B Q) (c.P 0) c.nv c.p0) c.p0)) (apaB (B Q) (c.P 0) c.nv (nSub (hitN (B A) (B Q) (c.P 0) c.nv c.p0) c.p0)) (c.P 0) (vPerp c.nv)).1 = 0:=nb_t (w0.symm.trans hw)
     have es:=en
     unfold hit0 at es
     rw [hitR_c hk hk2] at es
     exact ⟨1,by omega,by omega,by rw [hv,w1],fin _ es⟩
   ·simp only [contC,go_sem,kw160p,kSli,kw153,k214,k160,k132,k129,k179,k171,tchs_at,tchC,loadP_E,storeP_E,← hs,hg,hq,c3,c4,c6,c8,s0,mApa,apaF,u0,u1,u2,updB_at,i1,i3,hA,hA2,iSli,inB_psh]
    refine ⟨fun h => absurd h (by omega),fun h => ?_⟩
    have hMe:M = 0:=by omega
    rw [hMe,s0]
    exact ⟨by dsimp only; rw [u0],rfl⟩
  | 1,hi =>
   have e1:S 1 = hit0 (B A) (B Q) c:=by rw [hS]; rfl
   have e2:S 2 = hit1 (S 1).a (S 1).b (S 1).c:=by rw [hS]; rfl
   obtain ⟨j1,j3,j5⟩:=hit0_in i1 i3 hc
   rw [← e1] at j1 j3 j5
   have k1:(S 1).c.nv = c.nv:=by rw [e1]; rfl
   have k2:(S 1).c.n = c.n:=by rw [e1]; rfl
   clear e1
   generalize hs1:S 1 = s at *
   have e0:contR s.c = contC s.c:=rfl
   rw [e0]
   obtain ⟨d1,d2,d3,d4,d5,d6,d7,d8,d9⟩:=id j5
   rw [k2] at d5
   have en:S 2 = hit1 (s.a) (s.b) (s.c):=e2
   by_cases hM0:1 < M
   ·obtain ⟨t1,t2,t3⟩:=d5 1 (by omega)
    simp only [contC,go_sem,kw160p,kSli,kw153,k214,k160,k132,k129,k179,k171,tchs_at,tchC,loadP_E,storeP_E,← hs,hg,hq,d3,d4,d7,d9,← k1,mApa,apaF,u0,u1,u2,updB_at,j1,j3,hA,hA2,iSli,inB_psh,t1,t2]
    have fin:∀ s:Hs,S 2 = s → fitF 40 40 [] (famT 0 N 27 92 96 (bsC (updB (updB B A (S 2).a) Q (S 2).b))) (some (famT 0 N 27 92 96 (bsC (updB (updB B A s.a) Q s.b)))) ∧ fitF 40 40 [] (famE fam f q (contR (S 2).c)) (some (famE fam f q (contC s.c))):=fun s hs => by
     rw [hs]; exact ⟨fitF_T (by omega) fun _ _ => rfl,fitF_cl (hff s.c)⟩
    have w1:IntKind.i64.wrap 2 = ((2:Nat):Int):=by decide
    have hAQ:A + 1 ≠ Q + 1:=by omega
    refine ⟨fun h => ⟨by omega,fun y hy => ⟨fun y0 v hv => ?_,fun y0 => ⟨hAQ,fun w hw => ⟨of_eq_true (iWh d3),fun w0 v hv => ?_,fun w0 => ⟨hAQ,of_eq_true (iWh d3),fun v hv => ?_⟩⟩⟩⟩⟩,fun h => absurd h (by omega)⟩
    ·have hk:(sliK (s.a) (s.b) (s.c.P 1) s.c.nv).1 = 0:=by rw [y0] at hy; simpa using hy
     have es:S 2 = ⟨s.a,s.b,s.c⟩:=by rw [en]; unfold hit1; rw [show hitR (s.a) (s.b) (s.c.P 1) s.c.nv s.c.p1 s.c.r1 = ⟨s.a,s.b,s.c.p1,s.c.r1⟩ from if_pos hk]
     exact ⟨2,by omega,by omega,by rw [hv,w1],fin _ es⟩
    ·have hk:¬ (sliK (s.a) (s.b) (s.c.P 1) s.c.nv).1 = 0:=by rw [y0] at hy; simpa using hy
     have hk2:(sliK (apaA (s.a) (s.c.P 1) s.c.nv (nSub (hitN (s.a) (s.b) (s.c.P 1) s.c.nv s.c.p1) s.c.p1)) (apaB (s.b) (s.c.P 1) s.c.nv (nSub (hitN (s.a) (s.b) (s.c.P 1) s.c.nv s.c.p1) s.c.p1)) (s.c.P 1) (vPerp s.c.nv)).1 = 0:=nb_f (w0.symm.trans hw)
     have es:=en
     unfold hit1 at es
     rw [hitR_b hk hk2] at es
     exact ⟨2,by omega,by omega,by rw [hv,w1],fin _ es⟩
    ·have hk:¬ (sliK (s.a) (s.b) (s.c.P 1) s.c.nv).1 = 0:=by rw [y0] at hy; simpa using hy
     have hk2:¬ (sliK (apaA (s.a) (s.c.P 1) s.c.nv (nSub (hitN (s.a) (s.b) (s.c.P 1) s.c.nv s.c.p1) s.c.p1)) (apaB (s.b) (s.c.P 1) s.c.nv (nSub (hitN (s.a) (s.b) (s.c.P 1) s.c.nv s.c.p1) s.c.p1)) (s.c.P 1) (vPerp s.c.nv)).1 = 0:=nb_t (w0.symm.trans hw)
     have es:=en
     unfold hit1 at es
     rw [hitR_c hk hk2] at es
     exact ⟨2,by omega,by omega,by rw [hv,w1],fin _ es⟩
   ·simp only [contC,go_sem,kw160p,kSli,kw153,k214,k160,k132,k129,k179,k171,tchs_at,tchC,loadP_E,storeP_E,← hs,hg,hq,d3,d4,d7,d9,← k1,mApa,apaF,u0,u1,u2,updB_at,j1,j3,hA,hA2,iSli,inB_psh]
    refine ⟨fun h => absurd h (by omega),fun h => ?_⟩
    have hMe:M = 1:=by omega
    rw [hMe,hs1]
    exact ⟨rfl,rfl⟩
  | i + 2,hi =>
   have e:i = 0:=by omega
   subst e
   have hMe:M = 2:=by omega
   have k2:(S (0 + 2)).c.n = c.n:=by rw [hS]; rfl
   have e0:contR (S (0 + 2)).c = contC (S (0 + 2)).c:=rfl
   rw [e0,hMe]
   generalize S (0 + 2) = s at *
   simp only [contC,go_sem,kw160p,kSli,kw153,k214,k160,k132,k129,k179,k171,tchs_at,tchC,loadP_E,storeP_E,← hs,hg,hq]
   exact fun h => h.elim
 ·cases hF
def kHit:Con:=cL fun N B rest => match rest with
 | [.agg l] => some ([N ≤ 1000,inBs N B,l = contC (contD l),inC (contD l),(contD l).n ≤ 1000],.tup [.ro N 27 (bsC (hitT N B (contD l))),.agg (contC (hitC N B (contD l)))])
 | _ => none
theorem con35:ConOK Tryz.prog 35 kHit:=ConOK.cL (G:=[(56,.wr mNlay),(57,kCon),(59,.wr mHit),(61,.wr mNtel)]) (H:=[(1,⟨[(6,.made 4)],[]⟩),(3,⟨[(4,.slot 5)],[]⟩)]) (.mcons con56m (.cons con57 (.mcons con59m (.mcons con61m .nil)))) Tryz.func35 fun N B rest ob r hc hob => by
 split at hc
 ·rename_i l
  cases hc
  have hN:N ≤ 1000:=hob _ (by simp)
  have hB:inBs N B:=hob _ (by simp)
  have h2:l = contC (contD l):=hob _ (by simp)
  have hi:inC (contD l):=hob _ (by simp)
  have hn:(contD l).n ≤ 1000:=hob _ (by simp)
  clear hob
  generalize contD l = c at *
  subst h2
  refine ⟨by kernel_rfl,fnVC_go (rs:=[.tmp 4,.cell 5 55]) rfl rfl ?_⟩
  simp only [go_sem,kCon,mHit,hitF,hN,hB,hi,hn]
  exact ⟨by omega,rfl⟩
 ·cases hc
def flt (v:V2):Bool:=whF v.1.1 v.1.2 || whF v.2.1 v.2.2
def solN (a b c d:Nb):Nb:=nDot a d (nNeg b) c
def solX (a b c d:Nb) (v:V2):V2:=(nDiv (nDot v.1 d (nNeg b) v.2) (solN a b c d),nDiv (nDot a v.2 (nNeg v.1) c) (solN a b c d))
def solS (a b c d:Nb) (v:V2):Bool × V2:=if (solN a b c d).2 = true ∨ (solN a b c d).1 = 0 then (false,(0,false),(0,false)) else if flt (solX a b c d v) = true then (false,(0,false),(0,false)) else (true,solX a b c d v)
def mxA (m:Nb × Nb × Nb):AV:=.agg [i64 m.1.1,bo m.1.2,i64 m.2.1.1,bo m.2.1.2,i64 m.2.2.1,bo m.2.2.2]
def matS (b:Bd) (p:V2):Nb × Nb × Nb:=(nAdd b.m (nMul b.i (nMul (vSub p b.pl).2 (vSub p b.pl).2)),nNeg (nMul b.i (nMul (vSub p b.pl).1 (vSub p b.pl).2)),nAdd b.m (nMul b.i (nMul (vSub p b.pl).1 (vSub p b.pl).1)))
theorem iMa1 {b:Bd} {p:V2}:inR (matS b p).1.1 = True:=iAdd
theorem iMa2 {b:Bd} {p:V2}:inR (matS b p).2.1.1 = True:=iNeg (of_eq_true iMul)
theorem iMa3 {b:Bd} {p:V2}:inR (matS b p).2.2.1 = True:=iAdd
theorem iSo1 {a b c d:Nb} {v:V2}:inR (solS a b c d v).2.1.1 = True:=by
 unfold solS
 split
 ·exact inR_0
 ·split
  ·exact inR_0
  ·exact iDiv
theorem iSo2 {a b c d:Nb} {v:V2}:inR (solS a b c d v).2.2.1 = True:=by
 unfold solS
 split
 ·exact inR_0
 ·split
  ·exact inR_0
  ·exact iDiv
def toS (b:Bd) (p:V2):V2:=vAdd b.pl (vApply b.rot p)
theorem toS_f {b:Bd} {p:V2}:vAdd b.pl (vApply b.rot p) = toS b p:=(rfl)
theorem iTo1 {b:Bd} {p:V2}:inR (toS b p).1.1 = True:=iVAdd1
theorem iTo2 {b:Bd} {p:V2}:inR (toS b p).2.1 = True:=iVAdd2
attribute [go_sem] mxA iMa1 iMa2 iMa3 iSo1 iSo2 iTo1 iTo2 toS_f
end Go.Ax
end
section
set_option maxHeartbeats 4000000
set_option maxRecDepth 100000
namespace Go.Ax
open Go.Proofs
end Go.Ax
end
section
set_option maxHeartbeats 4000000
set_option maxRecDepth 100000
namespace Go.Ax
open Go.Proofs
end Go.Ax
end
section
set_option maxHeartbeats 4000000
set_option maxRecDepth 100000
namespace Go.Ax
open Go.Proofs
end Go.Ax
end
section
set_option maxHeartbeats 4000000
set_option maxRecDepth 100000
namespace Go.Ax
open Go.Proofs
end Go.Ax
end
section
set_option maxHeartbeats 4000000
set_option maxRecDepth 100000
namespace Go.Ax
open Go.Proofs
end Go.Ax
end
section
set_option maxHeartbeats 4000000
set_option maxRecDepth 100000
namespace Go.Ax
open Go.Proofs
def csC (C:Nat → Ct):Nat → List AV:=fun i => contC (C i)
def csD (g:Nat → List AV):Nat → Ct:=fun i => contD (g i)
theorem csD_C {C:Nat → Ct}:csD (csC C) = C:=rfl
theorem csC_at {C:Nat → Ct} {i:Nat}:csC C i = contC (C i):=(rfl)
attribute [go_sem] csD_C csC_at
def inCs (M:Nat) (C:Nat → Ct):Prop:=∀ i,i < M → inC (C i) ∧ (C i).n ≤ 1000
structure Jt where
 k:Int
 a:Int
 b:Int
 x:Int
 e:Bool
 y:Int
 f:Bool
 z:Int
 g:Bool
 u:Int
 h:Bool
 l:Int
 m:Bool
def jtC (j:Jt):List AV:=[i64 j.k,i64 j.a,i64 j.b,i64 j.x,bo j.e,i64 j.y,bo j.f,i64 j.z,bo j.g,i64 j.u,bo j.h,i64 j.l,bo j.m]
def jtD (l:List AV):Jt:=⟨gi l 0,gi l 1,gi l 2,gi l 3,gib l 4,gi l 5,gib l 6,gi l 7,gib l 8,gi l 9,gib l 10,gi l 11,gib l 12⟩
def jsC (J:Nat → Jt):Nat → List AV:=fun i => jtC (J i)
def jsD (g:Nat → List AV):Nat → Jt:=fun i => jtD (g i)
theorem jsD_C {J:Nat → Jt}:jsD (jsC J) = J:=rfl
attribute [go_sem] jsD_C
def updC (C:Nat → Ct) (i:Nat) (c:Ct):Nat → Ct:=fun j => if j = i then c else C j
structure Sv where
 B:Nat → Bd
 C:Nat → Ct
theorem csC_upd {C:Nat → Ct} {i:Nat} {c:Ct}:(fun j => if j = i then contC c else csC C j) = csC (updC C i c):=funext fun j => by
 unfold csC updC
 split <;> rfl
theorem famN_updC {M:Nat} {C:Nat → Ct} {i:Nat} {c:Ct}:famN M 15 55 (fun j => if j = i then contC c else csC C j) none = famN M 15 55 (csC (updC C i c)) none:=by rw [csC_upd]
theorem famN_updC2 {M:Nat} {C:Nat → Ct} {i:Nat} {c:Ct}:famN M 15 55 (fun j => if j = i then contC c else contC (C j)) none = famN M 15 55 (csC (updC C i c)) none:=famN_updC
theorem famCl_cs {M:Nat} {C:Nat → Ct}:famCl (famN M 15 55 (csC C) none) = True:=famCl_Nt fun _ _ => rfl
attribute [go_sem] famN_updC famN_updC2 famCl_cs
end Go.Ax
end
section
set_option maxHeartbeats 4000000
set_option maxRecDepth 100000
namespace Go.Ax
open Go.Proofs
end Go.Ax
end
section
set_option maxHeartbeats 4000000
set_option maxRecDepth 100000
namespace Go.Ax
open Go.Proofs
def adB:AV → Option (Prop × AV)
 | .ro N 27 g => some (∀ i,i < N → g i = bsC (bsD g) i,.ro N 27 (bsC (bsD g)))
 | _ => none
def contN (c:Ct):List AV:=[i64 c.a,i64 c.b,i64 c.nv.1.1,bo c.nv.1.2,i64 c.nv.2.1,bo c.nv.2.2,.v (.slice none 0 0),
 i64 c.p0.1,bo c.p0.2,i64 c.p1.1,bo c.p1.2,i64 c.r0.1,bo c.r0.2,i64 c.r1.1,bo c.r1.2]
def rowC (g:Nat → List AV) (i:Nat):Prop:=g i = csC (csD g) i ∨ (g i = contN (csD g i) ∧ (csD g i).n = 0)
theorem adB_ok {a a':AV} {p:Prop} (h:adB a = some (p,a')) (hp:p) {w:World} {ρ:Env} {v:Value} (hR:R w ρ a v):R w ρ a' v:=by
 unfold adB at h
 split at h
 ·cases h; exact ro_alike hp hR
 ·cases h
def cLw (c:Con):Con
 | b :: rest => match adB b with
  | some (p,b') => (match c (b' :: rest) with
   | some (ob,r) => some (p :: ob,r)
   | none => none)
  | none => none
 | _ => none
theorem ConOK.cLw {P:Program} {f:FuncId} {c:Con} (h:ConOK P f c):ConOK P f (Ax.cLw c):=by
 intro es ob r hc hob
 unfold Ax.cLw at hc
 split at hc
 ·rename_i b rest
  split at hc
  ·rename_i p b' hb
   split at hc
   ·rename_i ob' r' hF
    cases hc
    intro I w vs hI hRs
    refine h _ _ _ hF (fun q hq => hob q (by simp [hq])) I w vs hI ?_
    obtain ⟨x,xs,rfl,h1,h2⟩:=hRs.inv
    exact .cons (adB_ok hb (hob p (by simp)) h1) h2
   ·cases hc
  ·cases hc
 ·cases hc
section
variable {c:Con} {N M L:Nat} {g g' g'':Nat → List AV} {rest:List AV}
theorem cLw_eq:cLw c (.ro N 27 g :: rest) = (match c (.ro N 27 (bsC (bsD g)) :: rest) with
   | some (ob,r) => some ((∀ i,i < N → g i = bsC (bsD g) i) :: ob,r)
   | none => none):=(rfl)
end
section
variable {b c d e:Bd} {l:List AV}
theorem lenA_body:(bodyC b ++ l).length = 27 + l.length:=by rw [List.length_append]; rfl
theorem take27_body:List.take 27 (bodyC b ++ l) = bodyC b:=(rfl)
theorem take54_body:List.take 54 (bodyC b ++ l) = bodyC b ++ List.take 27 l:=(rfl)
theorem take81_body:List.take 81 (bodyC b ++ l) = bodyC b ++ List.take 54 l:=(rfl)
theorem take108_body:List.take 108 (bodyC b ++ l) = bodyC b ++ List.take 81 l:=(rfl)
theorem drop27_body:List.drop 27 (bodyC b ++ l) = l:=(rfl)
theorem drop54_body:List.drop 54 (bodyC b ++ l) = List.drop 27 l:=(rfl)
theorem drop81_body:List.drop 81 (bodyC b ++ l) = List.drop 54 l:=(rfl)
theorem drop108_body:List.drop 108 (bodyC b ++ l) = List.drop 81 l:=(rfl)
end
attribute [go_sem] lenA_body take27_body take54_body take81_body take108_body drop27_body drop54_body drop81_body drop108_body
theorem purLA_body {b:Bd} {l:List AV} {d:Nat} {m:Mem}:purL d m (bodyC b ++ l) = bodyC b ++ purL d m l:=by
 rw [← purL_eq,← purL_eq,List.map_append,purL_eq,purLd_body]
theorem cleanLA_body {b:Bd} {l:List AV}:cleanL 2 (bodyC b ++ l) = cleanL 2 l:=by
 rw [← cleanL_eq,← cleanL_eq,List.all_append,cleanL_eq (l:=bodyC b),cleanL_body,Bool.true_and]
attribute [go_sem] cleanLA_body
def ros2 (b c:Bd):Nat → List AV:=rowsOf 27 (bodyC b ++ bodyC c)
theorem rows_seal2 {b c:Bd}:rowsOf 27 (bodyC b ++ bodyC c) = ros2 b c:=(rfl)
theorem rowG_r2 {b c:Bd} {d:Nat} {m:Mem}:rowG d m (ros2 b c) = ros2 b c:=by
 unfold ros2
 rw [rowG_rows,purLA_body,purLd_body]
theorem purL_r2 {b c:Bd} {d i:Nat} {m:Mem}:purL d m (ros2 b c i) = ros2 b c i:=by
 unfold ros2 rowsOf
 rw [purL_take,purL_drop,purLA_body,purLd_body]
theorem ros2_0 {b c:Bd}:ros2 b c 0 = bodyC b:=(rfl)
theorem ros2_1 {b c:Bd}:ros2 b c 1 = bodyC c:=(rfl)
theorem bsD_r20 {b c:Bd}:bsD (ros2 b c) 0 = b:=(rfl)
theorem bsD_r21 {b c:Bd}:bsD (ros2 b c) 1 = c:=(rfl)
theorem ros2_ok {b c:Bd}:(∀ i,i < 2 → ros2 b c i = bodyC (bsD (ros2 b c) i)) = True:=eq_true fun i hi => by
 match i with
 | 0 => rfl
 | 1 => rfl
 | q + 2 => omega
theorem inBs_r2 {b c:Bd}:inBs 2 (bsD (ros2 b c)) = ((inB b ∧ b.n ≤ 1000) ∧ (inB c ∧ c.n ≤ 1000)):=propext ⟨fun h => ⟨h 0 (by omega),h 1 (by omega)⟩,fun h i hi => by
 match i with
 | 0 => exact h.1
 | 1 => exact h.2
 | q + 2 => omega⟩
attribute [go_sem] rows_seal2 rowG_r2 purL_r2 ros2_0 ros2_1 bsD_r20 bsD_r21 ros2_ok inBs_r2
theorem lenA_cont {c:Ct} {l:List AV}:(contC c ++ l).length = 15 + l.length:=by rw [List.length_append]; rfl
theorem take15A_cont {c:Ct} {l:List AV}:List.take 15 (contC c ++ l) = contC c:=(rfl)
theorem take30A_cont {c:Ct} {l:List AV}:List.take 30 (contC c ++ l) = contC c ++ List.take 15 l:=(rfl)
theorem drop15A_cont {c:Ct} {l:List AV}:List.drop 15 (contC c ++ l) = l:=(rfl)
theorem drop30A_cont {c:Ct} {l:List AV}:List.drop 30 (contC c ++ l) = List.drop 15 l:=(rfl)
theorem cleanLA_cont {c:Ct} {l:List AV}:cleanL 2 (contC c ++ l) = cleanL 2 l:=by
 rw [← cleanL_eq,← cleanL_eq,List.all_append,cleanL_eq (l:=contC c),cleanL_cont,Bool.true_and]
theorem purLd_cont {c:Ct} {d:Nat} {m:Mem}:purL d m (contC c) = contC c:=by cases d <;> rfl
theorem purLA_cont {c:Ct} {l:List AV} {d:Nat} {m:Mem}:purL d m (contC c ++ l) = contC c ++ purL d m l:=by
 rw [← purL_eq,← purL_eq,List.map_append,purL_eq,purLd_cont]
def cts2 (a b:Ct):Nat → List AV:=rowsOf 15 (contC a ++ contC b)
section
variable {a b:Ct} {d i:Nat} {m:Mem}
theorem rows_sealC2:rowsOf 15 (contC a ++ contC b) = cts2 a b:=(rfl)
theorem rowG_c2:rowG d m (cts2 a b) = cts2 a b:=by
 unfold cts2
 rw [rowG_rows,purLA_cont,purLd_cont]
theorem purL_c2:purL d m (cts2 a b i) = cts2 a b i:=by
 unfold cts2 rowsOf
 rw [purL_take,purL_drop,purLA_cont,purLd_cont]
theorem cts2_0:cts2 a b 0 = contC a:=(rfl)
theorem cts2_1:cts2 a b 1 = contC b:=(rfl)
theorem csD_c20:csD (cts2 a b) 0 = a:=(rfl)
theorem csD_c21:csD (cts2 a b) 1 = b:=(rfl)
theorem cts2_ok:(∀ i,i < 2 → rowC (cts2 a b) i) = True:=eq_true fun i hi => .inl (by
 match i with
 | 0 => rfl
 | 1 => rfl
 | q + 2 => omega)
theorem inCs_c2:inCs 2 (csD (cts2 a b)) = ((inC a ∧ a.n ≤ 1000) ∧ (inC b ∧ b.n ≤ 1000)):=propext ⟨fun h => ⟨h 0 (by omega),h 1 (by omega)⟩,fun h i hi => by
 match i with
 | 0 => exact h.1
 | 1 => exact h.2
 | q + 2 => omega⟩
end
attribute [go_sem] lenA_cont take15A_cont take30A_cont drop15A_cont drop30A_cont cleanLA_cont rows_sealC2 rowG_c2 purL_c2 cts2_0 cts2_1 csD_c20 csD_c21 cts2_ok inCs_c2
theorem plainL_cont {c:Ct}:plainL 1 (contC c) = false:=(rfl)
attribute [go_sem] plainL_cont
def c121:Con
 | [.agg [.v (.int .i64 a),.v (.int .i64 b)],.agg [.v (.int .i64 c),.v (.int .i64 d)]] => some ([True],i64 (IntKind.i64.wrap (IntKind.i64.wrap (a * c) + IntKind.i64.wrap (b * d))))
 | _ => none
theorem con121:ConOK Tryz.prog 121 c121:=ConOK.of (G:=[]) (H:=[]) .nil Tryz.func121 fun l ob rr hc hob => by
 unfold c121 at hc
 split at hc
 ·rename_i a b c d
  cases hc
  have h_0:True:=hob _ (by simp)
  refine ⟨by kernel_rfl,fnVC_go (rs:=[.tmp 4]) rfl rfl ?_⟩
  simp only [go_sem,iMul,iDiv,iInt,iAdd,iSub,iRat,iDot,iHyp,iSq,iNeg,iPos,iAbs,iMx,iMn,iCl,iWh,iLoc1,iLoc2,iVAdd1,iVAdd2,iVSub1,iVSub2,iScale1,iScale2,iVDot,iVCross,iLen,iOf1,iOf2,iUnit1,iUnit2,h_0]
  simp only [forall_eq]
 ·cases hc
theorem nxt_mod {n i:Nat} (h:i < n):nxt n i = (i + 1) % n:=by
 unfold nxt
 split
 ·rename_i h1; exact (Nat.mod_eq_of_lt h1).symm
 ·have:i + 1 = n:=by omega
  rw [this,Nat.mod_self]
theorem r4_wrap {r:Int} (h:16 ≤ r ∧ r ≤ 4096):IntKind.i64.wrap (IntKind.i64.wrap (IntKind.i64.wrap (r * r) * r) * r) = IntKind.i64.wrap (IntKind.i64.wrap (r * r) * IntKind.i64.wrap (r * r)):=by
 have h1:0 ≤ r * r:=Int.mul_nonneg (by omega) (by omega)
 have h2:r * r ≤ 4096 * 4096:=Int.mul_le_mul h.2 h.2 (by omega) (by omega)
 have e1:IntKind.i64.wrap (r * r) = r * r:=wrap_in (by unfold inR; omega)
 rw [e1]
 have h3:0 ≤ r * r * r:=Int.mul_nonneg h1 (by omega)
 have h4:r * r * r ≤ 16777216 * 4096:=Int.mul_le_mul (by omega) h.2 (by omega) (by omega)
 have e2:IntKind.i64.wrap (r * r * r) = r * r * r:=wrap_in (by unfold inR; omega)
 rw [e2,Int.mul_assoc (r * r) r r]
theorem cr_wrap {a b:Int}:IntKind.i64.wrap (a - b) = IntKind.i64.wrap (IntKind.i64.wrap a - IntKind.i64.wrap b):=by
 simp only [wrap_i64]
 omega
theorem cor_in {k r w t:Int} {n:Nat} {X Y:Nat → Int} (h:chkS k r w t n X Y = 0) (hk:¬ k = 1):spots (corN k r w t n X Y) fun i => [i64 (corX k w t X i),i64 (corY k w t Y i)]:=by
 have:=chk_cases h
 unfold corN
 rw [if_pos h]
 intro i hi
 refine ⟨rfl,?_⟩
 show inR (corX k w t X i) ∧ inR (corY k w t Y i)
 unfold corX corY
 by_cases h2:k = 2
 ·simp only [if_pos h2] at hi ⊢
  have h3:16 ≤ w ∧ w ≤ 4096 ∧ 16 ≤ t ∧ t ≤ 4096:=by
   rcases this with q | q | q
   ·exact absurd q.1 hk
   ·exact q.2.2
   ·exact absurd q.1 (by omega)
  match i with
  | 0 => exact (show inR (-w) ∧ inR (-t) from ⟨by unfold inR; omega,by unfold inR; omega⟩)
  | 1 => exact (show inR (w) ∧ inR (-t) from ⟨by unfold inR; omega,by unfold inR; omega⟩)
  | 2 => exact (show inR (w) ∧ inR (t) from ⟨by unfold inR; omega,by unfold inR; omega⟩)
  | q + 3 => exact (show inR (-w) ∧ inR (t) from ⟨by unfold inR; omega,by unfold inR; omega⟩)
 ·simp only [if_neg h2] at hi ⊢
  have h3:=(this.resolve_left (fun q => hk q.1)).resolve_left (fun q => h2 q.1)
  have:=h3.2.2.2.2 i hi
  unfold lo at this
  exact ⟨by unfold inR; omega,by unfold inR; omega⟩
theorem vc64 (k r w t:Int) (n:Nat) (X Y:Nat → Int) (d:Int) (hX:∀ i,i < n → inR (X i) ∧ inR (Y i)) (hn:n ≤ 9223372036854775806) (hr:inR r) (hd:inR d) :
  fnVC Tryz.prog [(62,c62),(103,k127),(117,c117),(52,k132),(78,k168),(119,c119),(118,c118),(120,c120),(121,c121),(1000000 + 179,c179)] [(9,⟨[(9,.made 8)],[]⟩),(10,⟨[(15,.made 14)],[]⟩),(11,⟨[(7,.slot 4)],[]⟩),(17,⟨[(21,.slot 12)],[]⟩),(18,⟨[(9,.slot 4)],[]⟩)] Tryz.f64 [shapeA k r w t n fun i => [i64 (X i),i64 (Y i)],i64 d] (· = .tup [wgV (wgS k r w t n X Y d),i64 (wgE k r w t n X Y d)]):=by
 refine fnVC_go (rs:=[.cell 4 38,.tmp 5]) rfl rfl ?_
 have hg:spots n fun i => [i64 (X i),i64 (Y i)]:=fun i hi => ⟨rfl,hX i hi⟩
 simp only [go_sem,c62,k127,c117,k132,k168,c119,c118,c120,c121,hg,hn,hd,gx_pts0,gx_pts1]
 have eE0:wgE k r w t n X Y d = if chkS k r w t n X Y ≠ 0 then chkS k r w t n X Y else if d < 1 ∨ 1000 < d then 3 else 0:=rfl
 intro z hz
 subst hz
 refine ⟨fun h => ?_,fun h => ⟨fun h2 => ?_,fun h2 => ?_⟩⟩
 ·have h:chkS k r w t n X Y ≠ 0:=by simpa using h
  rw [if_pos h] at eE0
  have eS:wgS k r w t n X Y d = ((0,false),(0,false)):=if_neg (by rw [eE0]; exact h)
  rw [eS,eE0]
  rfl
 ·have h:chkS k r w t n X Y = 0:=by simpa using h
  rw [if_neg (by simpa using h),if_pos h2] at eE0
  have eS:wgS k r w t n X Y d = ((0,false),(0,false)):=if_neg (by rw [eE0]; decide)
  rw [eS,eE0]
  rfl
 have h:chkS k r w t n X Y = 0:=by simpa using h
 rw [if_neg (by simpa using h),if_neg (by omega)] at eE0
 have eS:wgS k r w t n X Y d = wgM k r w t n X Y d:=if_pos eE0
 rw [eS,eE0]
 refine ⟨fun hk => ?_,fun hk => ?_⟩
 ·have hk:k = 1:=by simpa using hk
  have e:wgM k r w t n X Y d = _:=if_pos hk
  rw [e]
  have hr4:16 ≤ r ∧ r ≤ 4096:=by
   have:=chk_cases h
   omega
  have eh:whV 13493037704 = 13493037704:=by decide
  have ef:whF 13493037704 false = false:=by decide
  simp only [forall_eq,eh,ef,r4_wrap hr4]
  exact ⟨by unfold inR; omega,by unfold inR; omega,wrap_inR _,by unfold inR; omega,by unfold inR; omega,wrap_inR _,by unfold inR; omega,rfl⟩
 have hk:¬ k = 1:=by simpa using hk
 have e:wgM k r w t n X Y d = _:=if_neg hk
 rw [e]
 have hN8:1 ≤ corN k r w t n X Y ∧ corN k r w t n X Y ≤ 8:=by
  have:=chk_cases h
  unfold corN
  rw [if_pos h]
  split <;> omega
 have hs:spots (corN k r w t n X Y) fun i => [i64 (corX k w t X i),i64 (corY k w t Y i)]:=cor_in h hk
 generalize corN k r w t n X Y = N at *
 generalize corX k w t X = P at *
 generalize corY k w t Y = Q at *
 refine rangeC_go (fun (i:Nat) => i ≤ N) (fun i => i) (fun i => [(22,fam1 2 1 [i64 (wgB P Q N i)] none),(21,fam1 2 1 [i64 (wgA P Q N i)] none)]) [16,1,0] [66,13,67,68,69,70,71,14,72,73,74,75,76,77,78,79,80,81,82,83,84,85,86,87,88,89,90,91,92,93,94,95] 0 0 (N:=N) (sq:=cornerE N fun i => [i64 (P i),i64 (Q i)]) (ob:=[spots N fun i => [i64 (P i),i64 (Q i)],N ≤ 9223372036854775800]) rfl (owe2 hs (by omega)) (by kernel_rfl) rfl (fun i _ => ⟨rfl,rfl⟩) (Nat.zero_le _) rfl ⟨[],?_,?_,?_⟩ ?_ ?_
 ·simp only [go_sem]
  exact ⟨rfl,rfl⟩
 ·simp only [go_sem]
 ·simp [goodNames,asg]
 ·intro i hi hlt
  have hlt:i < N:=hlt
  have eA:wgA P Q N (i + 1) = IntKind.i64.wrap (wgA P Q N i + IntKind.i64.wrap (IntKind.i64.wrap (P i * Q (nxt N i)) - IntKind.i64.wrap (Q i * P (nxt N i)))):=by
   rw [← cr_wrap,nxt_mod hlt]; rfl
  have eB:wgB P Q N (i + 1) = IntKind.i64.wrap (wgB P Q N i + IntKind.i64.wrap (IntKind.i64.wrap (IntKind.i64.wrap (P i * Q (nxt N i)) - IntKind.i64.wrap (Q i * P (nxt N i))) * IntKind.i64.wrap (IntKind.i64.wrap (IntKind.i64.wrap (IntKind.i64.wrap (P i * P i) + IntKind.i64.wrap (Q i * Q i)) + IntKind.i64.wrap (IntKind.i64.wrap (P i * P (nxt N i)) + IntKind.i64.wrap (Q i * Q (nxt N i)))) + IntKind.i64.wrap (IntKind.i64.wrap (P (nxt N i) * P (nxt N i)) + IntKind.i64.wrap (Q (nxt N i) * Q (nxt N i)))))):=by
   rw [← cr_wrap,nxt_mod hlt]; rfl
  simp only [go_sem,c62,k127,c117,k132,k168,c119,c118,c120,c121,cornerE]
  simp only [forall_eq]
  refine ⟨i + 1,hlt,rfl,[],?_,by simp [goodNames,asg]⟩
  simp only [go_sem,eA,eB]
 ·intro i hi he
  have he:i = N:=he
  rw [he]
  simp only [go_sem,c62,k127,c117,k132,k168,c119,c118,c120,c121]
  have wA:∀ i,inR (wgA P Q N i):=fun i => by
   cases i with
   | zero => show inR 0; unfold inR; omega
   | succ i => exact wrap_inR _
  have wB:∀ i,inR (wgB P Q N i):=fun i => by
   cases i with
   | zero => show inR 0; unfold inR; omega
   | succ i => exact wrap_inR _
  exact ⟨by unfold inR; omega,wA _,by unfold inR; omega,wB _,rfl⟩
def c64:Con
 | [.agg [.v (.int .i64 k),.v (.int .i64 r),.v (.int .i64 w),.v (.int .i64 t),.ro n 2 g],.v (.int .i64 d)] => some ([spots n g,n ≤ 9223372036854775806,inR r,inR d],.tup [wgV (wgS k r w t n (gx g 0) (gx g 1) d),i64 (wgE k r w t n (gx g 0) (gx g 1) d)])
 | _ => none
theorem con64:ConOK Tryz.prog 64 c64:=ConOK.go (G:=[(62,c62),(103,k127),(117,c117),(52,k132),(78,k168),(119,c119),(118,c118),(120,c120),(121,c121),(1000000 + 179,c179)]) (H:=[(9,⟨[(9,.made 8)],[]⟩),(10,⟨[(15,.made 14)],[]⟩),(11,⟨[(7,.slot 4)],[]⟩),(17,⟨[(21,.slot 12)],[]⟩),(18,⟨[(9,.slot 4)],[]⟩)]) (.cons con62 (.cons kon127 (.cons con117 (.cons kon132 (.cons kon168 (.cons con119 (.cons con118 (.cons con120 (.cons con121 (.seq seq179 .nil)))))))))) Tryz.func64 fun l ob rr hc hob => by
 unfold c64 at hc
 split at hc
 ·rename_i k r w t n g d
  cases hc
  have hs:spots n g:=hob _ (by simp)
  refine ⟨[shapeA k r w t n fun i => [i64 (gx g 0 i),i64 (gx g 1 i)],i64 d],fun w I vs h => ?_,by kernel_rfl,vc64 k r w t n _ _ d (fun i hi => (hs i hi).2) (hob _ (by simp)) (hob _ (by simp)) (hob _ (by simp))⟩
  obtain ⟨x,xs,rfl,h1,h2⟩:=h.inv
  exact .cons (Rs_shape hs _ h1) h2
 ·cases hc
theorem vc23 (k r w t:Int) (n:Nat) (X Y:Nat → Int) (at' rot:V2) (d:Int) (mv:Bool) (hX:∀ i,i < n → inR (X i) ∧ inR (Y i)) (hn:n ≤ 9223372036854775806) (h0:inR at'.1.1) (h1:inR at'.2.1) (h2:inR rot.1.1) (h3:inR rot.2.1) (hr:inR r) (hd:inR d) :
  fnVC Tryz.prog [(62,c62),(63,c63),(64,c64),(65,c65)] [(4,⟨[(5,.made 4)],[]⟩)] Tryz.f23 [shapeA k r w t n fun i => [i64 (X i),i64 (Y i)],poseA at' rot,i64 d,bo mv] (alk (.tup [boA (nwB k r w t n X Y at' rot d mv),i64 (nwE k r w t n X Y at' rot d mv)])):=by
 refine fnVC_go (rs:=[.cell 8 40,.tmp 9]) rfl rfl ?_
 have hg:spots n fun i => [i64 (X i),i64 (Y i)]:=fun i hi => ⟨rfl,hX i hi⟩
 simp only [go_sem,c62,c63,c64,c65,wgV,hg,hn,hd,gx_pts0,gx_pts1,h0,h1,h2,h3]
 simp only [forall_eq,Int.reduceBEq,Int.reduceBNe,reduceCtorEq,false_imp_iff,true_imp_iff,true_and,and_true]
 have n8:chkS k r w t n X Y = 0 → n ≤ 1000:=fun h => by
  have:=chk_cases h
  omega
 have bad:∀ e:Int,nwE k r w t n X Y at' rot d mv = e → e ≠ 0 → alk (AV.tup [boA (nwB k r w t n X Y at' rot d mv),i64 (nwE k r w t n X Y at' rot d mv)]) (.tup [.agg [i64 0,i64 0,i64 0,i64 0,.v (.slice none 0 0),i64 0,bo false,i64 0,bo false,i64 0,bo false,i64 0,bo false,i64 0,bo false,i64 0,bo false,i64 0,bo false,i64 0,bo false,i64 0,bo false,i64 0,bo false,bo false,i64 0],i64 e]):=fun e he hne => by
  subst he
  rw [show nwB k r w t n X Y at' rot d mv = _ from if_neg hne]
  exact alk_bodyT alk_nil
 have good:∀ m:Nb × Nb,nwE k r w t n X Y at' rot d mv = 0 → nwW k r w t n X Y d mv = m → alk (AV.tup [boA (nwB k r w t n X Y at' rot d mv),i64 (nwE k r w t n X Y at' rot d mv)]) (.tup [.agg [i64 k,i64 r,i64 w,i64 t,.ro n 2 fun i => [i64 (X i),i64 (Y i)],i64 at'.1.1,bo at'.1.2,i64 at'.2.1,bo at'.2.2,i64 rot.1.1,bo rot.1.2,i64 rot.2.1,bo rot.2.2,i64 0,bo false,i64 0,bo false,i64 0,bo false,i64 m.1.1,bo m.1.2,i64 m.2.1,bo m.2.2,i64 0,bo false,bo false,i64 1],i64 0]):=fun m he hm => by
  subst hm
  rw [show nwB k r w t n X Y at' rot d mv = _ from if_pos he,he]
  exact fun _ _ _ h => h
 refine ⟨fun h => bad _ (if_pos (bne_iff_ne.1 h)) (bne_iff_ne.1 h),fun h => ?_⟩
 have h:chkS k r w t n X Y = 0:=by simpa using h
 have eE:nwE k r w t n X Y at' rot d mv = if (if mv = true then wgE k r w t n X Y d else if d ≠ 0 then 3 else 0) ≠ 0 then (if mv = true then wgE k r w t n X Y d else if d ≠ 0 then 3 else 0) else plErr k r w t n X Y at' rot:=if_neg (by simpa using h)
 refine ⟨n8 h,fun hv => ?_,fun hv => ?_⟩
 ·have eW:nwW k r w t n X Y d mv = wgS k r w t n X Y d:=if_pos hv
  rw [if_pos hv] at eE
  refine ⟨hr,fun g => ?_,fun g => ?_⟩
  ·have g:wgE k r w t n X Y d ≠ 0:=by simpa using g
   rw [if_pos g] at eE
   exact bad _ eE g
  ·rw [if_neg (by simpa using g)] at eE
   exact ⟨fun p => bad _ eE (bne_iff_ne.1 p),fun p => good _ (eE.trans (by simpa using p)) eW⟩
 ·have eW:nwW k r w t n X Y d mv = ((0,false),(0,false)):=if_neg (by simp [hv])
  have eI:(if mv = true then wgE k r w t n X Y d else if d ≠ 0 then 3 else 0) = if d ≠ 0 then 3 else 0:=if_neg (by simp [hv])
  rw [eI] at eE
  refine ⟨fun g => ?_,fun g => ?_⟩
  ·have g:d ≠ 0:=by simpa using g
   have eJ:(if d ≠ 0 then (3:Int) else 0) = 3:=if_pos g
   rw [eJ,if_pos (by decide)] at eE
   exact bad _ eE (by decide)
  ·have g:d = 0:=by simpa using g
   have eJ:(if d ≠ 0 then (3:Int) else 0) = 0:=if_neg (by simpa using g)
   rw [eJ,if_neg (by decide)] at eE
   exact ⟨fun p => bad _ eE (bne_iff_ne.1 p),fun p => good _ (eE.trans (by simpa using p)) eW⟩
def momS (b:Bd):V2:=(nDiv b.v.1 b.m,nDiv b.v.2 b.m)
def momL (B:Nat → Bd):Nat → Nat × (Nat → V2)
 | 0 => (0,fun _ => ((0,false),(0,false)))
 | i + 1 => if mvS (B i) = true then ((momL B i).1 + 1,fun j => if j < (momL B i).1 then (momL B i).2 j else momS (B i)) else momL B i
theorem momL_le {B:Nat → Bd}:∀ i,(momL B i).1 ≤ i
 | 0 => Nat.le_refl _
 | i + 1 => by
  have:=@momL_le B i
  unfold momL
  split
  ·show (momL B i).1 + 1 ≤ i + 1; omega
  ·omega
def vecC (v:V2):List AV:=[i64 v.1.1,bo v.1.2,i64 v.2.1,bo v.2.2]
def vcsC (V:Nat → V2):Nat → List AV:=fun i => vecC (V i)
theorem momL_in {B:Nat → Bd}:∀ i j,inR ((momL B i).2 j).1.1 ∧ inR ((momL B i).2 j).2.1
 | 0,j => ⟨by show inR 0; unfold inR; decide,by show inR 0; unfold inR; decide⟩
 | i + 1,j => by
  have:=@momL_in B i
  unfold momL
  split
  ·show inR ((if j < (momL B i).1 then (momL B i).2 j else momS (B i)).1.1) ∧ inR ((if j < (momL B i).1 then (momL B i).2 j else momS (B i)).2.1)
   split
   ·exact this j
   ·exact ⟨rg_inR nDiv_rg,rg_inR nDiv_rg⟩
  ·exact this j
theorem purL_vec {V:Nat → V2} {d i:Nat} {m:Mem}:purL d m (vcsC V i) = vcsC V i:=by cases d <;> rfl
theorem vecs_C {n:Nat} {V:Nat → V2} (h:∀ j,inR (V j).1.1 ∧ inR (V j).2.1):vecs n fun i => vcsC V i:=fun i _ => ⟨rfl,h i⟩
theorem byt29:bytesT Tryz.prog 29 = 32:=by kernel_rfl
def totA (n:Nat) (V:Nat → V2):AV:=ve (su1 n (gx (vcsC V) 0) (gb (vcsC V) 1)) (su1 n (gx (vcsC V) 2) (gb (vcsC V) 3))
def kTot:Con:=cL fun N B rest => match rest with
 | [] => some ([N ≤ 1000,inBs N B],totA (momL B N).1 (momL B N).2)
 | _ => none
theorem con37:ConOK Tryz.prog 37 kTot:=ConOK.cL (G:=[(55,kw26),(78,k168),(43,c43)]) (H:=[]) (.cons konw26 (.cons kon168 (.cons con43 .nil))) Tryz.func37 fun N B rest ob r hc hob => by
 split at hc
 ·cases hc
  have hN:N ≤ 1000:=hob _ (by simp)
  have hB:inBs N B:=hob _ (by simp)
  clear hob
  refine ⟨by kernel_rfl,fnVC_go (rs:=[.cell 2 29]) rfl rfl ?_⟩
  simp only [go_sem,kw26,k168,c43]
  refine loopN_go (fun (i:Nat) => i ≤ N) (fun i => N - i) (fun i => [(8,i64 (i:Int)),(3,.own 5 0 (momL B i).1 4)]) (fun i => [(5,famN (momL B i).1 4 29 (vcsC (momL B i).2) none)]) [0] [9,10,11,5,12,13,14,15,16,17,18,19,20,21,22,23,24,25,26,27,28,29,30,31,3,32,8] 1 0 (by kernel_rfl) (Nat.zero_le _) ⟨[(5,none)],?_,?_,?_,?_⟩ ?_
  ·simp only [go_sem,momL]
  ·simp only [go_sem,momL]
  ·simp only [go_sem,momL]
  ·simp [goodNames,asg,momL]
  intro i hi
  have hl:=@momL_le B i
  have hI:=@momL_in B i
  by_cases hiN:i < N
  ·obtain ⟨i1,i2⟩:=hB i hiN
   have hb:=i1
   obtain ⟨b1,b2,b3,b4,b5,b6,b7,b8,b9,b10,b11,b12,b13,b14,b15,b16⟩:=i1
   have e:momL B (i + 1) = if mvS (B i) = true then ((momL B i).1 + 1,fun j => if j < (momL B i).1 then (momL B i).2 j else momS (B i)) else momL B i:=rfl
   have hw:IntKind.i64.wrap ((i:Int) + 1) = ((i + 1:Nat):Int):=by rw [wrap_in (by unfold inR; omega)]; rfl
   simp only [go_sem,kw26,k168,c43,cB_eq,bsC_at,bodyC,bodyD_lit,gx_pts0,gx_pts1,etaN,etaV,bd_eta,b10,b11,b13,b14,byt29]
   refine ⟨fun h => ⟨by omega,h,fun z hz => ⟨fun h2 => ⟨by omega,by omega,fun z2 hz2 => ⟨i + 1,by omega,by omega,[(5,some 30)],?_⟩⟩,fun h2 z2 hz2 => ⟨i + 1,by omega,by omega,[(5,some 5)],?_⟩⟩⟩,fun h => absurd hiN (by omega)⟩
   ·rw [hz] at h2
    rw [if_pos h2] at e
    have e1:(momL B (i + 1)).1 = (momL B i).1 + 1:=by rw [e]
    have e2:(momL B (i + 1)).2 = fun j => if j < (momL B i).1 then (momL B i).2 j else momS (B i):=by rw [e]
    rw [e1,e2]
    simp only [go_sem]
    refine ⟨by rw [hz2,hw],fun j hj => ?_,by simp [goodNames,asg]⟩
    by_cases q:j < (momL B i).1
    ·rw [if_pos q]
     show fitL 5 6 [(5,some 30)] (vecC (if j < (momL B i).1 then (momL B i).2 j else momS (B i))) _
     rw [if_pos q]
     exact fitL_clean rfl
    ·have q2:j = (momL B i).1:=by omega
     rw [if_neg q,q2,Nat.sub_self]
     show fitL 5 6 [(5,some 30)] (vecC (if (momL B i).1 < (momL B i).1 then (momL B i).2 (momL B i).1 else momS (B i))) _
     rw [if_neg (by omega)]
     exact fitL_clean rfl
   ·rw [hz] at h2
    rw [if_neg (by rw [h2]; decide)] at e
    rw [e]
    simp only [go_sem]
    refine ⟨by rw [hz2,hw],fun j hj => fitL_clean rfl,by simp [goodNames,asg]⟩
  ·have hv:=vecs_C (n:=(momL B i).1) hI
   simp only [go_sem,kw26,k168,c43,byt29,purL_vec,hv]
   have e:i = N:=by omega
   subst e
   refine ⟨fun h => absurd h (by omega),fun _ => ?_⟩
   simp only [forall_eq]
   exact ⟨by omega,rfl⟩
 ·cases hc
def kbak:Con
 | [.agg [.v (.int .i64 x),.v (.bool e),.v (.int .i64 y),.v (.bool f),.ro n 6 g]] => some ([inR x,inR y],.agg [i64 (vScale ((x,e),(y,f)) (nInt (-1))).1.1,bo (vScale ((x,e),(y,f)) (nInt (-1))).1.2,i64 (vScale ((x,e),(y,f)) (nInt (-1))).2.1,bo (vScale ((x,e),(y,f)) (nInt (-1))).2.2,.ro n 6 g])
 | _ => none
theorem konbak:ConOK Tryz.prog 135 kbak:=ConOK.of (G:=[(103,k127),(44,k169)]) (H:=[(1,⟨[(5,.slot 1)],[]⟩)]) (.cons kon127 (.cons kon169 .nil)) Tryz.func135 fun l ob rr hc hob => by
 unfold kbak at hc
 split at hc
 ·rename_i x e y f n g
  cases hc
  have h_0:inR x:=hob _ (by simp)
  have h_1:inR y:=hob _ (by simp)
  refine ⟨by kernel_rfl,fnVC_go (rs:=[.cell 2 52]) rfl rfl ?_⟩
  simp only [go_sem,k127,k169,iMul,iDiv,iInt,iAdd,iSub,iRat,iDot,iHyp,iSq,iNeg,iPos,iAbs,iMx,iMn,iCl,iWh,iLoc1,iLoc2,iVAdd1,iVAdd2,iVSub1,iVSub2,iScale1,iScale2,iVDot,iVCross,iLen,iOf1,iOf2,iUnit1,iUnit2,h_0,h_1]
  done
 ·cases hc
def kto:Con
 | [.agg [.v (.int .i64 x),.v (.bool e),.v (.int .i64 y),.v (.bool f)],.agg [.v (.int .i64 a),.v (.bool g),.v (.int .i64 b),.v (.bool h)],.agg [.v (.int .i64 i),.v (.bool k)],.agg [.v (.int .i64 j),.v (.bool l)]] => some ([inR x,inR y,inR a,inR b,inR i,inR j],veA (cutS ((x,e),(y,f)) ((a,g),(b,h)) (i,k) (j,l)))
 | _ => none
theorem konto:ConOK Tryz.prog 260 kto:=ConOK.of (G:=[(114,k172),(111,k160),(78,k168),(44,k169),(43,k130)]) (H:=[(1,⟨[(12,.slot 8)],[]⟩)]) (.cons kon172 (.cons kon160 (.cons kon168 (.cons kon169 (.cons kon130 .nil))))) Tryz.func260 fun l ob rr hc hob => by
 unfold kto at hc
 split at hc
 ·rename_i x e y f a g b h i k j l
  cases hc
  have h_0:inR x:=hob _ (by simp)
  have h_1:inR y:=hob _ (by simp)
  have h_2:inR a:=hob _ (by simp)
  have h_3:inR b:=hob _ (by simp)
  have h_4:inR i:=hob _ (by simp)
  have h_5:inR j:=hob _ (by simp)
  refine ⟨by kernel_rfl,fnVC_go (rs:=[.cell 8 29]) rfl rfl ?_⟩
  simp only [go_sem,k172,k160,k168,k169,k130,iMul,iDiv,iInt,iAdd,iSub,iRat,iDot,iHyp,iSq,iNeg,iPos,iAbs,iMx,iMn,iCl,iWh,iLoc1,iLoc2,iVAdd1,iVAdd2,iVSub1,iVSub2,iScale1,iScale2,iVDot,iVCross,iLen,iOf1,iOf2,iUnit1,iUnit2,h_0,h_1,h_2,h_3,h_4,h_5]
  rfl
 ·cases hc
def sgC (x y:V2):List AV:=[i64 x.1.1,bo x.1.2,i64 x.2.1,bo x.2.2,i64 y.1.1,bo y.1.2,i64 y.2.1,bo y.2.2]
def clpG:List AV → List AV → Option (List Prop × AV × List AV)
 | [.v (.int .i64 x),.v (.bool e),.v (.int .i64 y),.v (.bool f),.v (.int .i64 a),.v (.bool g),.v (.int .i64 b),.v (.bool h)],[.agg [.v (.int .i64 i),.v (.bool k)],.agg [.v (.int .i64 j),.v (.bool l)]] =>
  some ([inR x,inR y,inR a,inR b,inR i,inR j],.tup [],sgC (clpX ((x,e),(y,f)) ((a,g),(b,h)) (i,k) (j,l)) (clpY ((x,e),(y,f)) ((a,g),(b,h)) (i,k) (j,l)))
 | _,_ => none
def mClp:MCon:=mc1 8 clpG
theorem con208m:MConOK Tryz.prog 208 mClp:=MConOK.mc1 (G:=[(260,kto)]) (H:=[(3,⟨[(15,.slot 0)],[]⟩),(5,⟨[(15,.slot 0)],[]⟩)]) (.cons konto .nil) Tryz.func208 fun cells rest ob val cs hF hob => by
 unfold clpG at hF
 split at hF
 ·rename_i x e y f a g b h i k j l
  cases hF
  have h1:inR x:=hob _ (by simp)
  have h2:inR y:=hob _ (by simp)
  have h3:inR a:=hob _ (by simp)
  have h4:inR b:=hob _ (by simp)
  have h5:inR i:=hob _ (by simp)
  have h6:inR j:=hob _ (by simp)
  clear hob
  refine ⟨fun a ha => by simp at ha; rcases ha with ha | ha <;> (subst ha; rfl),rfl,cleanCs_mem rfl,by kernel_rfl,fun fam f q hq hs hg hk => bodyM_go (rs:=[]) rfl rfl ?_⟩
  simp only [go_sem,kto,loadP_E,storeP_E,← hs,hg,hq,h1,h2,h3,h4,h5,h6]
  refine ⟨fun w => ?_,fun w => ⟨fun w2 => ?_,fun w2 => ?_⟩⟩
  ·unfold clpX clpY
   dsimp only
   rw [if_pos w,if_neg (by omega)]
   rfl
  ·have w:¬ (i < 0 ∧ 0 ≤ j):=by simpa using w
   unfold clpX clpY
   dsimp only
   rw [if_neg w,if_pos w2]
   rfl
  ·have w:¬ (i < 0 ∧ 0 ≤ j):=by simpa using w
   have w2:¬ (j < 0 ∧ 0 ≤ i):=by simpa using w2
   unfold clpX clpY
   dsimp only
   rw [if_neg w,if_neg w2]
   rfl
 ·cases hF
def k122:Con
 | [.agg [.ro n 2 g],.v (.int .i64 i)] => some ([spots n g,0 ≤ i,i < n,n ≤ 9223372036854775806],.tup [.agg [i64 (gx g 0 i.toNat),i64 (gx g 1 i.toNat)],.agg [i64 (gx g 0 (nxt n i.toNat)),i64 (gx g 1 (nxt n i.toNat))]])
 | _ => none
theorem vc205 (n:Nat) (X Y:Nat → Int) (i:Nat) (hi:i < n) (hn:n ≤ 9223372036854775806):fnVC Tryz.prog [] [(1,⟨[(15,.slot 4),(16,.slot 5)],[(6,[.slot 4]),(10,[.slot 4]),(14,[.slot 4])]⟩)] Tryz.f205 [.agg [.ro n 2 fun i => [i64 (X i),i64 (Y i)]],i64 i] (· = .tup [.agg [i64 (X i),i64 (Y i)],.agg [i64 (X (nxt n i)),i64 (Y (nxt n i))]]):=by
 refine fnVC_go (rs:=[.cell 4 116,.cell 5 116]) rfl rfl ?_
 have hn0:((n:Int) = 0) = False:=eq_false (by omega)
 simp only [go_sem,hn0]
 have hl:=nxt_lt hi
 refine ⟨by omega,by omega,fun z hz z1 hz1 => ?_⟩
 rw [wrap_in (by unfold inR; omega)] at hz
 rw [hz,tmod_nxt hi] at hz1
 subst hz1
 exact ⟨by omega,by omega,rfl⟩
theorem kon122:ConOK Tryz.prog 205 k122:=ConOK.go (G:=[]) (H:=[(1,⟨[(15,.slot 4),(16,.slot 5)],[(6,[.slot 4]),(10,[.slot 4]),(14,[.slot 4])]⟩)]) .nil Tryz.func205 fun l ob rr hc hob => by
 unfold k122 at hc
 split at hc
 ·rename_i n g i
  cases hc
  have hs:spots n g:=hob _ (by simp)
  have h0:0 ≤ i:=hob _ (by simp)
  have h1:i < n:=hob _ (by simp)
  have e:i = (i.toNat:Int):=by omega
  refine ⟨[.agg [.ro n 2 fun i => [i64 (gx g 0 i),i64 (gx g 1 i)]],i64 (i.toNat:Int)],fun w I vs h => Rs_two (Rs_poly hs) (fun v h => by rw [← e]; exact h) h,by kernel_rfl,vc205 n _ _ i.toNat (by omega) (hob _ (by simp))⟩
 ·cases hc
def k59:Con
 | [.agg [.v (.int .i64 x),.v (.int .i64 y),.v (.int .i64 r)],.agg [.v (.int .i64 x'),.v (.int .i64 y'),.v (.int .i64 r')]] => some ([inR r,inR r',inR x,inR y],mfA (twoS x y r x' y' r'))
 | _ => none
theorem vc134 (x y r x' y' r':Int) (h1:inR r) (h2:inR r') (h3:inR x) (h4:inR y) :
  fnVC Tryz.prog [(193,c193),(125,k63),(172,k165),(199,k166),(201,k162),(175,k161),(111,k160),(200,k167),(103,k127),(78,k168),(44,k169),(43,k130)] [(5,⟨[(11,.made 10)],[]⟩),(6,⟨[(8,.made 7)],[]⟩),(7,⟨[(9,.made 8)],[]⟩)] Tryz.f134 [.agg [i64 x,i64 y,i64 r],.agg [i64 x',i64 y',i64 r']] (alk (mfA (twoS x y r x' y' r'))):=by
 refine fnVC_go (rs:=[.cell 4 52]) rfl rfl ?_
 simp only [go_sem,c193,k63,k165,k166,k162,k161,k160,k167,k127,k168,k169,k130,h1,h2,h3,h4]
 simp only [forall_eq,mnW_eq]
 have i1:∀ a b,inR (mnW a b):=fun a b => wrap_inR _
 refine ⟨i1 _ _,i1 _ _,fun h => ⟨wrap_inR _,?_⟩,fun h => ⟨wrap_inR _,?_⟩⟩
 ·have e:twN (vLoc (mnW x x') (mnW y y')) = oneV:=if_neg (by rw [h]; decide)
  have e1:vOf 1 0 = oneV:=by decide
  rw [e1]
  unfold twoS
  rw [e]
  refine alk_one ?_
  unfold twP
  rw [e]
  rfl
 ·have e:twN (vLoc (mnW x x') (mnW y y')) = (vUnit (vLoc (mnW x x') (mnW y y'))).2:=if_pos h
  unfold twoS
  rw [e]
  refine alk_one ?_
  unfold twP
  rw [e]
  rfl
theorem con134:ConOK Tryz.prog 134 k59:=ConOK.goR (G:=[(193,c193),(125,k63),(172,k165),(199,k166),(201,k162),(175,k161),(111,k160),(200,k167),(103,k127),(78,k168),(44,k169),(43,k130)]) (H:=[(5,⟨[(11,.made 10)],[]⟩),(6,⟨[(8,.made 7)],[]⟩),(7,⟨[(9,.made 8)],[]⟩)]) (.cons con193 (.cons kon63 (.cons kon165 (.cons kon166 (.cons kon162 (.cons kon161 (.cons kon160 (.cons kon167 (.cons kon127 (.cons kon168 (.cons kon169 (.cons kon130 .nil)))))))))))) Tryz.func134 fun l ob rr hc hob => by
 unfold k59 at hc
 split at hc
 ·rename_i x y r x' y' r'
  cases hc
  exact ⟨_,fun w I vs h => h,by kernel_rfl,vc134 x y r x' y' r' (hob _ (by simp)) (hob _ (by simp)) (hob _ (by simp)) (hob _ (by simp))⟩
 ·cases hc
def k117:Con
 | [.agg [.ro n 2 g],.agg [.v (.int .i64 x),.v (.int .i64 y),.v (.int .i64 r)]] => some ([spots n g,n ≤ 1000,0 < n,∀ i,i < n → validS (gx g 0 i) (gx g 1 i) = true,validS x y = true,inR r,inR x,inR y],mfA (deepS n (gx g 0) (gx g 1) x y r (axSt n (gD n (gx g 0) (gx g 1) x y r) 0 (gD n (gx g 0) (gx g 1) x y r) 2)))
 | _ => none
theorem vc202 (n:Nat) (X Y:Nat → Int) (x y r:Int) (hX:∀ i,i < n → inR (X i) ∧ inR (Y i)) (hn:n ≤ 1000) (n0:0 < n) (vX:∀ i,i < n → validS (X i) (Y i) = true) (v1:validS x y = true) (h3:inR r) (h1:inR x) (h2:inR y) :
  fnVC Tryz.prog [(137,k94),(205,k122),(203,k173),(125,k63),(201,k162),(44,k169),(114,k172),(112,k179),(200,k167)] [(3,⟨[(10,.made 9)],[]⟩),(4,⟨[(9,.slot 4)],[]⟩)] Tryz.f202 [.agg [.ro n 2 fun i => [i64 (X i),i64 (Y i)]],.agg [i64 x,i64 y,i64 r]] (alk (mfA (deepS n X Y x y r (axSt n (gD n X Y x y r) 0 (gD n X Y x y r) 2)))):=by
 refine fnVC_go (rs:=[.cell 4 52]) rfl rfl ?_
 have hg:spots n fun i => [i64 (X i),i64 (Y i)]:=fun i hi => ⟨rfl,hX i hi⟩
 simp only [go_sem,k94,k122,k173,k63,k162,k169,k172,k179,k167,k94q,gx_pts0,gx_pts1,hg,hn,n0,v1,h1,h2,h3]
 have hi:=axSt_ix (G:=gD n X Y x y r) (G':=gD n X Y x y r) n0
 have hr:inR (axSt n (gD n X Y x y r) 0 (gD n X Y x y r) 2).2.2.1:=axSt_in (fun _ => rg_inR gD_rg) (fun _ => rg_inR gD_rg) 2
 generalize axSt n (gD n X Y x y r) 0 (gD n X Y x y r) 2 = s at *
 exact ⟨vX,hi.1,hi.2,by omega,vX _ (by omega),vX _ (nxt_lt (by omega)),hr,of_eq_true (iNeg hr),alk_one rfl⟩
theorem con202:ConOK Tryz.prog 202 k117:=ConOK.goR (G:=[(137,k94),(205,k122),(203,k173),(125,k63),(201,k162),(44,k169),(114,k172),(112,k179),(200,k167)]) (H:=[(3,⟨[(10,.made 9)],[]⟩),(4,⟨[(9,.slot 4)],[]⟩)]) (.cons kon94 (.cons kon122 (.cons kon173 (.cons kon63 (.cons kon162 (.cons kon169 (.cons kon172 (.cons kon179 (.cons kon167 .nil))))))))) Tryz.func202 fun l ob rr hc hob => by
 unfold k117 at hc
 split at hc
 ·rename_i n g x y r
  cases hc
  have hs:spots n g:=hob _ (by simp)
  exact ⟨[.agg [.ro n 2 fun i => [i64 (gx g 0 i),i64 (gx g 1 i)]],.agg [i64 x,i64 y,i64 r]],fun w I vs h => Rs_two (Rs_poly hs) (fun v h => h) h,by kernel_rfl,vc202 n _ _ x y r (fun i hi => (hs i hi).2) (hob _ (by simp)) (hob _ (by simp)) (hob _ (by simp)) (hob _ (by simp)) (hob _ (by simp)) (hob _ (by simp)) (hob _ (by simp))⟩
 ·cases hc
def k61:Con
 | [.agg [.ro n 2 g],.agg [.v (.int .i64 x),.v (.int .i64 y),.v (.int .i64 r)]] => some ([spots n g,n ≤ 1000,0 < n,∀ i,i < n → validS (gx g 0 i) (gx g 1 i) = true,validS x y = true,inR r,inR x,inR y],mfA (pdS n (gx g 0) (gx g 1) x y r))
 | _ => none
def rdRw (n:Nat) (X Y:Nat → Int) (x y r:Int):Nat → Mem
 | 0 => [(13,fam1 27 2 [i64 0,bo false] none),(12,fam1 52 5 [i64 0,bo false,i64 0,bo false,.v (.slice none 0 0)] none)]
 | j + 1 => [(13,fam1 27 2 [i64 (rdL n X Y x y (leI (rdL n X Y x y) j)).1,bo (rdL n X Y x y (leI (rdL n X Y x y) j)).2] none),
   (12,fam1 52 5 [i64 (rdV n X Y x y (leI (rdL n X Y x y) j)).1.1,bo (rdV n X Y x y (leI (rdL n X Y x y) j)).1.2,i64 (rdV n X Y x y (leI (rdL n X Y x y) j)).2.1,bo (rdV n X Y x y (leI (rdL n X Y x y) j)).2.2,.own 16 0 1 6] none),
   (16,famN 1 6 87 (tchs (fun _ => rdP n X Y x y (leI (rdL n X Y x y) j)) (fun _ => nPos (nSub (nRat r 256) (rdL n X Y x y (leI (rdL n X Y x y) j))))) none)]
theorem rdRw_0 {n:Nat} {X Y:Nat → Int} {x y r:Int}:rdRw n X Y x y r 0 = [(13,fam1 27 2 [i64 0,bo false] none),(12,fam1 52 5 [i64 0,bo false,i64 0,bo false,.v (.slice none 0 0)] none)]:=(rfl)
theorem rdRw_s {n:Nat} {X Y:Nat → Int} {x y r:Int} {j:Nat}:rdRw n X Y x y r (j + 1) = [(13,fam1 27 2 [i64 (rdL n X Y x y (leI (rdL n X Y x y) j)).1,bo (rdL n X Y x y (leI (rdL n X Y x y) j)).2] none),
   (12,fam1 52 5 [i64 (rdV n X Y x y (leI (rdL n X Y x y) j)).1.1,bo (rdV n X Y x y (leI (rdL n X Y x y) j)).1.2,i64 (rdV n X Y x y (leI (rdL n X Y x y) j)).2.1,bo (rdV n X Y x y (leI (rdL n X Y x y) j)).2.2,.own 16 0 1 6] none),
   (16,famN 1 6 87 (tchs (fun _ => rdP n X Y x y (leI (rdL n X Y x y) j)) (fun _ => nPos (nSub (nRat r 256) (rdL n X Y x y (leI (rdL n X Y x y) j))))) none)]:=(rfl)
theorem leI_0 {h:Nat → Nb}:leI h 0 = 0:=(rfl)
theorem rdV_n {n:Nat} {X Y:Nat → Int} {x y:Int} {i:Nat} (h:(vUnit (rdM n X Y x y i)).1 = false ∨ 0 < (rdT n X Y x y i).1 ∧ (rdT n X Y x y i).1 < 4294967296):rdV n X Y x y i = vNorm (X i) (Y i) (X (nxt n i)) (Y (nxt n i)):=if_pos h.symm
theorem rdV_u {n:Nat} {X Y:Nat → Int} {x y:Int} {i:Nat} (h:(vUnit (rdM n X Y x y i)).1 = true ∧ (decide (0 < (rdT n X Y x y i).1) && decide ((rdT n X Y x y i).1 < 4294967296)) = false):rdV n X Y x y i = (vUnit (rdM n X Y x y i)).2:=if_neg (by
 rintro (q | q)
 ·have:=h.2
  rw [decide_eq_true q.1,decide_eq_true q.2] at this
  cases this
 ·rw [h.1] at q
  cases q)
theorem vc136 (n:Nat) (X Y:Nat → Int) (x y r:Int) (hX:∀ i,i < n → inR (X i) ∧ inR (Y i)) (hn:n ≤ 1000) (n0:0 < n) (vX:∀ i,i < n → validS (X i) (Y i) = true) (v1:validS x y = true) (h3:inR r) (h1:inR x) (h2:inR y) :
  fnVC Tryz.prog [(195,c195),(202,k117),(125,k63),(196,c196),(193,c193),(194,c194),(52,k132),(103,k127),(102,k171),(44,k169),(43,k130),(114,k172),(175,k161),(51,c51),(172,k165),(203,k173),(201,k162),(111,k160),(200,k167),(1000000 + 257,c257)] [(10,⟨[(14,.made 13)],[]⟩),(11,⟨[(9,.made 8)],[]⟩),(19,⟨[(11,.slot 6)],[]⟩)] Tryz.f136 [.agg [.ro n 2 fun i => [i64 (X i),i64 (Y i)]],.agg [i64 x,i64 y,i64 r]] (alk (mfA (pdS n X Y x y r))):=by
 refine fnVC_go (rs:=[.cell 4 52]) rfl rfl ?_
 have hg:spots n fun i => [i64 (X i),i64 (Y i)]:=fun i hi => ⟨rfl,hX i hi⟩
 simp only [go_sem,c195,k117,k63,c196,c193,c194,k132,k127,k171,k169,k130,k172,k161,c51,k165,k173,k162,k160,k167,gx_pts0,gx_pts1,hg,hn,n0,v1,h1,h2,h3]
 intro z hz
 refine ⟨by omega,vX,fun hi => ⟨vX,?_⟩,fun hi => ?_⟩
 ·rw [show pdS n X Y x y r = deepS n X Y x y r (axSt n (gD n X Y x y r) 0 (gD n X Y x y r) 2) from if_pos (hz.symm.trans hi)]
  exact fun _ _ _ h => h
 rw [show pdS n X Y x y r = rdS n X Y x y r from if_neg (by rw [← hz,hi]; decide)]
 have eI:nInt 1 = (4294967296,false):=by decide
 have eT:∀ i,nCl (nRat (dtW (mnW (X i) x) (mnW (Y i) y) (mnW (X i) (X (nxt n i))) (mnW (Y i) (Y (nxt n i)))) (dtW (mnW (X i) (X (nxt n i))) (mnW (Y i) (Y (nxt n i))) (mnW (X i) (X (nxt n i))) (mnW (Y i) (Y (nxt n i))))) (0,false) (4294967296,false) = rdT n X Y x y i:=fun i => rfl
 have eP:∀ i,vAdd (vLoc (X i) (Y i)) (vScale (vLoc (mnW (X i) (X (nxt n i))) (mnW (Y i) (Y (nxt n i)))) (rdT n X Y x y i)) = rdP n X Y x y i:=fun i => rfl
 have eM:∀ i,vSub (vLoc x y) (rdP n X Y x y i) = rdM n X Y x y i:=fun i => rfl
 have eL:∀ i,vLen (rdM n X Y x y i) = rdL n X Y x y i:=fun i => rfl
 refine rangeC_go (fun (j:Nat) => j ≤ n) (fun j => j) (rdRw n X Y x y r) [10,2,1,0] [29,30,8,9,31,32,33,10,34,35,36,37,38,39,40,41,42,43,44,45,46,11,47,48,49,50,51,52,53,54,12,55,56,57,13,58,59,14,60,61,62,63,64,65,66,67,68,69,71,72,70,73,74,15,16,75,76,77,78,79,80,81,82,83,84,85,86,87,88,89,90,91,92,93,94,95,96,97,98,99,100] 1 0 (N:=n) (sq:=edgeE n fun i => [i64 (X i),i64 (Y i)]) (ob:=[spots n fun i => [i64 (X i),i64 (Y i)],n ≤ 9223372036854775806]) rfl (owe2 hg (by omega)) (by kernel_rfl) rfl (fun i _ => ⟨rfl,rfl⟩) (Nat.zero_le _) rfl ⟨[],?_,?_,?_⟩ ?_ ?_
 ·simp only [go_sem,rdRw_0]
 ·simp only [go_sem]
 ·simp [goodNames,asg,rdRw]
 ·intro j hj hlt
  have hlt:j < n:=hlt
  have hxi:=hX j hlt
  cases j with
  | zero =>
   simp only [go_sem,c195,k117,k63,c196,c193,c194,k132,k127,k171,k169,k130,k172,k161,c51,k165,k173,k162,k160,k167,edgeE,rdRw_0,hxi,h1,h2,h3]
   simp only [forall_eq,mnW_eq,dtW_eq,eI,eT,eP,eM,eL,false_imp_iff,true_imp_iff,true_and]
   refine ⟨dtW_inR,dtW_inR,wrap_inR _,wrap_inR _,fun a b => ⟨a,b⟩,fun hv => ⟨vX 0 hlt,vX _ (nxt_lt hlt),1,by omega,rfl,[(16,some 104)],?_⟩,fun hv => ⟨1,by omega,rfl,[(16,some 100)],?_⟩⟩
   ·have eV:=rdV_n (n:=n) (X:=X) (Y:=Y) (x:=x) (y:=y) (i:=0) hv
    simp only [go_sem,rdRw_s,leI_0,eV]
    refine ⟨?_,by simp [goodNames,asg]⟩
    exact fun q hq => by
     have e:q = 0:=by omega
     subst e
     exact fitL_clean rfl
   ·have eV:=rdV_u (n:=n) (X:=X) (Y:=Y) (x:=x) (y:=y) (i:=0) hv
    simp only [go_sem,rdRw_s,leI_0,eV]
    refine ⟨?_,by simp [goodNames,asg]⟩
    exact fun q hq => by
     have e:q = 0:=by omega
     subst e
     exact fitL_clean rfl
  | succ j =>
   simp only [go_sem,c195,k117,k63,c196,c193,c194,k132,k127,k171,k169,k130,k172,k161,c51,k165,k173,k162,k160,k167,edgeE,rdRw_s,hxi,h1,h2,h3]
   simp only [forall_eq,mnW_eq,dtW_eq,eI,eT,eP,eM,eL,true_and]
   have hL:∀ i,inR (rdL n X Y x y i).1:=fun i => of_eq_true iHyp
   refine ⟨dtW_inR,dtW_inR,wrap_inR _,wrap_inR _,fun hc => ⟨j + 2,by omega,rfl,[(16,some 16)],?_⟩,fun hc => ⟨fun a b => ⟨a,b⟩,fun hv => ⟨vX _ hlt,vX _ (nxt_lt hlt),j + 2,by omega,rfl,[(16,some 104)],?_⟩,fun hv => ⟨j + 2,by omega,rfl,[(16,some 100)],?_⟩⟩⟩
   ·have eI2:leI (rdL n X Y x y) (j + 1) = leI (rdL n X Y x y) j:=if_neg (by omega)
    simp only [go_sem,rdRw_s,eI2]
    refine ⟨?_,by simp [goodNames,asg]⟩
    exact fun q hq => by
     have e:q = 0:=by omega
     subst e
     exact fitL_clean rfl
   ·have eI2:leI (rdL n X Y x y) (j + 1) = j + 1:=if_pos (by omega)
    have eV:=rdV_n (n:=n) (X:=X) (Y:=Y) (x:=x) (y:=y) (i:=j + 1) hv
    simp only [go_sem,rdRw_s,eI2,eV]
    refine ⟨?_,by simp [goodNames,asg]⟩
    exact fun q hq => by
     have e:q = 0:=by omega
     subst e
     exact fitL_clean rfl
   ·have eI2:leI (rdL n X Y x y) (j + 1) = j + 1:=if_pos (by omega)
    have eV:=rdV_u (n:=n) (X:=X) (Y:=Y) (x:=x) (y:=y) (i:=j + 1) hv
    simp only [go_sem,rdRw_s,eI2,eV]
    refine ⟨?_,by simp [goodNames,asg]⟩
    exact fun q hq => by
     have e:q = 0:=by omega
     subst e
     exact fitL_clean rfl
 ·intro j hj he
  have e:j = (n - 1) + 1:=by
   have:j = n:=he
   omega
  rw [e]
  simp only [go_sem,c195,k117,k63,c196,c193,c194,k132,k127,k171,k169,k130,k172,k161,c51,k165,k173,k162,k160,k167,rdRw_s]
  refine alk_mf rfl rfl fun q hq => ?_
  rfl
theorem con136:ConOK Tryz.prog 136 k61:=ConOK.goR (G:=[(195,c195),(202,k117),(125,k63),(196,c196),(193,c193),(194,c194),(52,k132),(103,k127),(102,k171),(44,k169),(43,k130),(114,k172),(175,k161),(51,c51),(172,k165),(203,k173),(201,k162),(111,k160),(200,k167),(1000000 + 257,c257)]) (H:=[(10,⟨[(14,.made 13)],[]⟩),(11,⟨[(9,.made 8)],[]⟩),(19,⟨[(11,.slot 6)],[]⟩)]) (.cons con195 (.cons con202 (.cons kon63 (.cons con196 (.cons con193 (.cons con194 (.cons kon132 (.cons kon127 (.cons kon171 (.cons kon169 (.cons kon130 (.cons kon172 (.cons kon161 (.cons con51 (.cons kon165 (.cons kon173 (.cons kon162 (.cons kon160 (.cons kon167 (.seq seq257 .nil)))))))))))))))))))) Tryz.func136 fun l ob rr hc hob => by
 unfold k61 at hc
 split at hc
 ·rename_i n g x y r
  cases hc
  have hs:spots n g:=hob _ (by simp)
  exact ⟨[.agg [.ro n 2 fun i => [i64 (gx g 0 i),i64 (gx g 1 i)]],.agg [i64 x,i64 y,i64 r]],fun w I vs h => Rs_two (Rs_poly hs) (fun v h => h) h,by kernel_rfl,vc136 n _ _ x y r (fun i hi => (hs i hi).2) (hob _ (by simp)) (hob _ (by simp)) (hob _ (by simp)) (hob _ (by simp)) (hob _ (by simp)) (hob _ (by simp)) (hob _ (by simp))⟩
 ·cases hc
def k123:Con
 | [.agg [.ro n 2 g],.agg [.v (.int .i64 x),.v (.bool e),.v (.int .i64 y),.v (.bool f)]] => some ([spots n g,n ≤ 1000,0 < n,∀ i,i < n → validS (gx g 0 i) (gx g 1 i) = true,inR x,inR y],
   .tup [.agg [i64 (gx g 0 (leI (agK n (gx g 0) (gx g 1) ((x,e),(y,f))) (n - 1))),i64 (gx g 1 (leI (agK n (gx g 0) (gx g 1) ((x,e),(y,f))) (n - 1)))],.agg [i64 (gx g 0 (nxt n (leI (agK n (gx g 0) (gx g 1) ((x,e),(y,f))) (n - 1)))),i64 (gx g 1 (nxt n (leI (agK n (gx g 0) (gx g 1) ((x,e),(y,f))) (n - 1))))]])
 | _ => none
def agRw (n:Nat) (X Y:Nat → Int) (nv:V2):Nat → Mem
 | 0 => [(5,fam1 4 1 [bo true] none),(4,fam1 27 2 [i64 0,bo false] none),(3,fam1 116 2 [i64 0,i64 0] none),(2,fam1 116 2 [i64 0,i64 0] none)]
 | j + 1 => [(5,fam1 4 1 [bo false] none),(4,fam1 27 2 [i64 (agK n X Y nv (leI (agK n X Y nv) j)).1,bo (agK n X Y nv (leI (agK n X Y nv) j)).2] none),(3,fam1 116 2 [i64 (X (nxt n (leI (agK n X Y nv) j))),i64 (Y (nxt n (leI (agK n X Y nv) j)))] none),(2,fam1 116 2 [i64 (X (leI (agK n X Y nv) j)),i64 (Y (leI (agK n X Y nv) j))] none)]
section
variable {n j:Nat} {X Y:Nat → Int} {nv:V2}
theorem agRw_0:agRw n X Y nv 0 = [(5,fam1 4 1 [bo true] none),(4,fam1 27 2 [i64 0,bo false] none),(3,fam1 116 2 [i64 0,i64 0] none),(2,fam1 116 2 [i64 0,i64 0] none)]:=(rfl)
theorem agRw_s:agRw n X Y nv (j + 1) = [(5,fam1 4 1 [bo false] none),(4,fam1 27 2 [i64 (agK n X Y nv (leI (agK n X Y nv) j)).1,bo (agK n X Y nv (leI (agK n X Y nv) j)).2] none),(3,fam1 116 2 [i64 (X (nxt n (leI (agK n X Y nv) j))),i64 (Y (nxt n (leI (agK n X Y nv) j)))] none),(2,fam1 116 2 [i64 (X (leI (agK n X Y nv) j)),i64 (Y (leI (agK n X Y nv) j))] none)]:=(rfl)
end
theorem vc206 (n:Nat) (X Y:Nat → Int) (nv:V2) (hX:∀ i,i < n → inR (X i) ∧ inR (Y i)) (hn:n ≤ 1000) (n0:0 < n) (vX:∀ i,i < n → validS (X i) (Y i) = true) (h1:inR nv.1.1) (h2:inR nv.2.1) :
  fnVC Tryz.prog [(196,c196),(203,k173),(174,k178),(51,c51),(1000000 + 257,c257)] [(6,⟨[(6,.made 5)],[]⟩),(8,⟨[(3,.slot 4),(4,.slot 5),(5,.slot 6),(6,.slot 7)],[(1,[.slot 4]),(2,[.slot 4,.slot 5])]⟩),(9,⟨[(2,.slot 4),(3,.slot 5)],[(1,[.slot 4])]⟩)] Tryz.f206 [.agg [.ro n 2 fun i => [i64 (X i),i64 (Y i)]],.agg [i64 nv.1.1,bo nv.1.2,i64 nv.2.1,bo nv.2.2]] (· = .tup [.agg [i64 (X (leI (agK n X Y nv) (n - 1))),i64 (Y (leI (agK n X Y nv) (n - 1)))],.agg [i64 (X (nxt n (leI (agK n X Y nv) (n - 1)))),i64 (Y (nxt n (leI (agK n X Y nv) (n - 1))))]]):=by
 refine fnVC_go (rs:=[.cell 4 116,.cell 5 116]) rfl rfl ?_
 have hg:spots n fun i => [i64 (X i),i64 (Y i)]:=fun i hi => ⟨rfl,hX i hi⟩
 simp only [go_sem,c196,k173,k178,c51,gx_pts0,gx_pts1,hg,hn,n0,h1,h2]
 have eK:∀ j,vDot (vNorm (X j) (Y j) (X (nxt n j)) (Y (nxt n j))) nv = agK n X Y nv j:=fun j => rfl
 refine rangeC_go (fun (j:Nat) => j ≤ n) (fun j => j) (agRw n X Y nv) [1,0] [13,14,8,9,15,16,17,18,19,10,20,21,22,23,24,25,26,27,28,29] 0 0 (N:=n) (sq:=edgeE n fun i => [i64 (X i),i64 (Y i)]) (ob:=[spots n fun i => [i64 (X i),i64 (Y i)],n ≤ 9223372036854775806]) rfl (owe2 hg (by omega)) (by kernel_rfl) rfl (fun i _ => ⟨rfl,rfl⟩) (Nat.zero_le _) rfl ⟨[],?_,?_,?_⟩ ?_ ?_
 ·simp only [go_sem,agRw_0]
 ·simp only [go_sem]
 ·simp [goodNames,asg,agRw_0]
 ·intro j hj hlt
  have hlt:j < n:=hlt
  cases j with
  | zero =>
   simp only [go_sem,c196,k173,k178,c51,edgeE,agRw_0,h1,h2]
   simp only [forall_eq,eK,false_imp_iff,true_imp_iff,true_and]
   refine ⟨vX 0 hlt,vX _ (nxt_lt hlt),fun h => (by cases h),fun _ => ⟨1,by omega,rfl,[],?_⟩,fun h => (by cases h.1)⟩
   simp only [go_sem,agRw_s,leI_0]
   simp [goodNames,asg]
  | succ j =>
   simp only [go_sem,c196,k173,k178,c51,edgeE,agRw_s,h1,h2]
   simp only [forall_eq,eK,false_imp_iff,true_imp_iff,true_and]
   refine ⟨vX _ hlt,vX _ (nxt_lt hlt),fun h => ⟨j + 2,by omega,rfl,[],?_⟩,fun h => ⟨j + 2,by omega,rfl,[],?_⟩⟩
   ·have eI2:leI (agK n X Y nv) (j + 1) = j + 1:=if_pos (h.resolve_left id)
    simp only [go_sem,agRw_s,eI2]
    simp [goodNames,asg]
   ·have eI2:leI (agK n X Y nv) (j + 1) = leI (agK n X Y nv) j:=if_neg h
    simp only [go_sem,agRw_s,eI2]
    simp [goodNames,asg]
 ·intro j hj he
  have e:j = (n - 1) + 1:=by
   have:j = n:=he
   omega
  rw [e]
  simp only [go_sem,c196,k173,k178,c51,agRw_s]
theorem con206:ConOK Tryz.prog 206 k123:=ConOK.go (G:=[(196,c196),(203,k173),(174,k178),(51,c51),(1000000 + 257,c257)]) (H:=[(6,⟨[(6,.made 5)],[]⟩),(8,⟨[(3,.slot 4),(4,.slot 5),(5,.slot 6),(6,.slot 7)],[(1,[.slot 4]),(2,[.slot 4,.slot 5])]⟩),(9,⟨[(2,.slot 4),(3,.slot 5)],[(1,[.slot 4])]⟩)]) (.cons con196 (.cons kon173 (.cons kon178 (.cons con51 (.seq seq257 .nil))))) Tryz.func206 fun l ob rr hc hob => by
 unfold k123 at hc
 split at hc
 ·rename_i n g x e y f
  cases hc
  have hs:spots n g:=hob _ (by simp)
  exact ⟨[.agg [.ro n 2 fun i => [i64 (gx g 0 i),i64 (gx g 1 i)]],.agg [i64 x,bo e,i64 y,bo f]],fun w I vs h => Rs_two (Rs_poly hs) (fun v h => h) h,by kernel_rfl,vc206 n _ _ ((x,e),(y,f)) (fun i hi => (hs i hi).2) (hob _ (by simp)) (hob _ (by simp)) (hob _ (by simp)) (hob _ (by simp)) (hob _ (by simp))⟩
 ·cases hc
section
variable {P:Program} {G:Ctx} {key:Nat} {d:Option Tmp} {q ty:TypeId} {pos:String} {af:Array Edge} {gd:Option (Nat × Bool)} {g:Option Bool} {ρ0:Operand → AV} {m:Mem}
def idzE (P:Program) (q:TypeId) (a b:AV):Option Eff:=match flat a with
 | some x => match flat b with
  | some y => match pureRun P (Instr.index q x y) with
   | some v => some ⟨[],ofVal v,.none⟩
   | none => none
  | none => none
 | none => none
theorem aStep_idz {x i:Operand}:aStep P G key g ⟨d,.index q x i,ty,pos,af,gd⟩ ρ0 m = idzE P q (strip (ρ0 x)) (strip (ρ0 i)):=by
 show effOf (aPure P (fun x => strip (ρ0 x)) ⟨d,.index q x i,ty,pos,af,gd⟩) = _
 unfold aPure idzE
 dsimp only [Op.operands,List.map,flatAll]
 cases hx:flat (strip (ρ0 x)) with
 | none => rfl
 | some vx =>
  dsimp only
  cases hi:flat (strip (ρ0 i)) with
  | none => rfl
  | some vi =>
   dsimp only
   have:execOp (fun x => (flat (strip (ρ0 x))).getD undef) ⟨d,.index q x i,ty,pos,af,gd⟩ = Sem.bind (Instr.index q vx vi) fun v => Sem.pure (Next.value v):=by
    show Sem.bind (Instr.index q ((flat (strip (ρ0 x))).getD undef) ((flat (strip (ρ0 i))).getD undef)) (fun v => Sem.pure (Next.value v)) = _
    rw [hx,hi]; rfl
   rw [this,pureRun_bind]
   cases pureRun P (Instr.index q vx vi) <;> rfl
end
attribute [go_sem] aStep_idz
theorem idx168_0 {a b c d:Int} {e f g h:Bool}:idzE Tryz.prog 253 (.agg [i64 a,bo e,i64 b,bo f,i64 c,bo g,i64 d,bo h]) (.v (.int .i64 0)) = some ⟨[],.agg [i64 a,bo e,i64 b,bo f],.none⟩:=by kernel_rfl
theorem idx168_1 {a b c d:Int} {e f g h:Bool}:idzE Tryz.prog 253 (.agg [i64 a,bo e,i64 b,bo f,i64 c,bo g,i64 d,bo h]) (.v (.int .i64 1)) = some ⟨[],.agg [i64 c,bo g,i64 d,bo h],.none⟩:=by kernel_rfl
attribute [go_sem] idx168_0 idx168_1
def clpQ (r:Nat) (fam:Fam) (pre:List Prop) (s:V2 × V2):Option Eff:=some ⟨pre,.tup [],.many [(r,wb1 fam (sgC s.1 s.2))] none⟩
def clpE (r:Nat) (fam:Fam):Option (List Prop × AV × List AV) → Option Eff
 | some (ob,val,cs) => some ⟨((fam 0).n = 1) :: (8 = (fam 0).sz) :: (cleanCs ((fam 0).get 0) = true) :: famOK r fam :: ob,val,.many [(r,wb1 fam cs)] none⟩
 | none => none
def clpB (r:Nat):Option Fam → List AV → Option Eff
 | some fam,rest => clpE r fam (clpG ((fam 0).get 0) rest)
 | none,_ => none
theorem mClp_bx {key:Nat} {m:Mem} {r:Nat} {rest:List AV}:mClp key m (.bx r 0 :: rest) = clpB r (look m r) rest:=by
 show (match look m r with
  | some fam => (match clpG ((fam 0).get 0) rest with
   | some (ob,val,cs) => some (⟨((fam 0).n = 1) :: (8 = (fam 0).sz) :: (cleanCs ((fam 0).get 0) = true) :: famOK r fam :: ob,val,.many [(r,wb1 fam cs)] none⟩:Eff)
   | none => none)
  | none => none) = _
 generalize look m r = x
 cases x with
 | none => rfl
 | some fam =>
  unfold clpB
  dsimp only
  generalize clpG ((fam 0).get 0) rest = y
  cases y <;> rfl
section
variable {P:Program} {G:Ctx} {H:Hots} {K0:AEx → St → Prop} {hot:Option Hot} {ops:Array Oper} {d:Option Tmp} {rest:List Oper} {i:Nat} {st:List Fr} {t:Slots} {m:Mem} {nx r:Nat} {fam:Fam} {o pre ob:List Prop} {s:V2 × V2}
theorem stepC_clpQ:stepC P G H K0 hot ops d rest i st t m nx (withOb o (bndE (aMut none (clpQ r fam pre s)))) = (∀ s',s' = s → stepC P G H K0 hot ops d rest i st t m nx (withOb o (some ⟨pre,.tup [],.many [(r,wb1 fam (sgC s'.1 s'.2))] none⟩))):=by
 rw [bndE_eq]
 apply propext
 constructor
 ·rintro h b' rfl; exact h
 ·intro h; exact h s rfl
end
theorem clpB_eq {r:Nat} {T:TypeId} {x y a b i j:Int} {e f g h k l:Bool}:clpB r (some (fam1 T 8 [i64 x,bo e,i64 y,bo f,i64 a,bo g,i64 b,bo h] none)) [.agg [i64 i,bo k],.agg [i64 j,bo l]] = clpQ r (fam1 T 8 [i64 x,bo e,i64 y,bo f,i64 a,bo g,i64 b,bo h] none) [(1:Nat) = 1,8 = 8,True,famOK r (fam1 T 8 [i64 x,bo e,i64 y,bo f,i64 a,bo g,i64 b,bo h] none),inR x,inR y,inR a,inR b,inR i,inR j] (clpX ((x,e),(y,f)) ((a,g),(b,h)) (i,k) (j,l),clpY ((x,e),(y,f)) ((a,g),(b,h)) (i,k) (j,l)):=by
 have h1:cleanCs [i64 x,bo e,i64 y,bo f,i64 a,bo g,i64 b,bo h] = true:=rfl
 have h2:(cleanCs [i64 x,bo e,i64 y,bo f,i64 a,bo g,i64 b,bo h] = true) = True:=eq_true h1
 have e:clpB r (some (fam1 T 8 [i64 x,bo e,i64 y,bo f,i64 a,bo g,i64 b,bo h] none)) [.agg [i64 i,bo k],.agg [i64 j,bo l]] = clpQ r (fam1 T 8 [i64 x,bo e,i64 y,bo f,i64 a,bo g,i64 b,bo h] none) [(1:Nat) = 1,8 = 8,cleanCs [i64 x,bo e,i64 y,bo f,i64 a,bo g,i64 b,bo h] = true,famOK r (fam1 T 8 [i64 x,bo e,i64 y,bo f,i64 a,bo g,i64 b,bo h] none),inR x,inR y,inR a,inR b,inR i,inR j] (clpX ((x,e),(y,f)) ((a,g),(b,h)) (i,k) (j,l),clpY ((x,e),(y,f)) ((a,g),(b,h)) (i,k) (j,l)):=rfl
 rw [e,h2]
attribute [go_sem] mClp_bx stepC_clpQ clpB_eq wb1_1
def flRw (nv p a b:V2):Nat → Mem
 | 0 => [(81,fam1 52 5 [i64 nv.1.1,bo nv.1.2,i64 nv.2.1,bo nv.2.2,.v (.slice none 0 0)] none)]
 | k + 1 => [(81,fam1 52 5 [i64 nv.1.1,bo nv.1.2,i64 nv.2.1,bo nv.2.2,.own 89 0 (k + 1) 6] none),(89,famN (k + 1) 6 87 (tchs (tcP nv p a b) (tcD nv a b)) none)]
section
variable {nv p a b:V2}
theorem flRw_0:flRw nv p a b 0 = [(81,fam1 52 5 [i64 nv.1.1,bo nv.1.2,i64 nv.2.1,bo nv.2.2,.v (.slice none 0 0)] none)]:=(rfl)
theorem flRw_1:flRw nv p a b 1 = [(81,fam1 52 5 [i64 nv.1.1,bo nv.1.2,i64 nv.2.1,bo nv.2.2,.own 89 0 1 6] none),(89,famN 1 6 87 (tchs (tcP nv p a b) (tcD nv a b)) none)]:=(rfl)
theorem flRw_2:flRw nv p a b 2 = [(81,fam1 52 5 [i64 nv.1.1,bo nv.1.2,i64 nv.2.1,bo nv.2.2,.own 89 0 2 6] none),(89,famN 2 6 87 (tchs (tcP nv p a b) (tcD nv a b)) none)]:=(rfl)
end
theorem tch_a {nv p a b:V2} (ha:(vDot nv a).1 ≤ 0):tchs (tcP nv p a b) (tcD nv a b) 0 = [i64 (vAdd p a).1.1,bo (vAdd p a).1.2,i64 (vAdd p a).2.1,bo (vAdd p a).2.2,i64 (nNeg (vDot nv a)).1,bo (nNeg (vDot nv a)).2]:=by
 rw [tchs_at]
 unfold tchC tcP tcD
 rw [if_pos ⟨ha,rfl⟩,if_pos ⟨ha,rfl⟩]
theorem tch_b {nv p a b:V2} {q:Nat} (h:¬ ((vDot nv a).1 ≤ 0 ∧ q = 0)):tchs (tcP nv p a b) (tcD nv a b) q = [i64 (vAdd p b).1.1,bo (vAdd p b).1.2,i64 (vAdd p b).2.1,bo (vAdd p b).2.2,i64 (nNeg (vDot nv b)).1,bo (nNeg (vDot nv b)).2]:=by
 rw [tchs_at]
 unfold tchC tcP tcD
 rw [if_neg h,if_neg h]
theorem vc138 (n:Nat) (X Y:Nat → Int) (m:Nat) (Z T:Nat → Int) (i:Nat) (hX:∀ i,i < n → inR (X i) ∧ inR (Y i)) (hZ:∀ i,i < m → inR (Z i) ∧ inR (T i)) (hi:i < n) (hn:n ≤ 1000) (hm:m ≤ 1000) (m0:0 < m) (vX:∀ i,i < n → validS (X i) (Y i) = true) (vZ:∀ i,i < m → validS (Z i) (T i) = true) :
  fnVC Tryz.prog [(205,k122),(203,k173),(206,k123),(193,c193),(207,k176),(172,k165),(125,k63),(175,k161),(174,k178),(208,.wr mClp),(111,k160),(43,k130),(112,k179),(209,k180),(51,c51),(200,k167)] [(6,⟨[(10,.made 9)],[]⟩),(7,⟨[(8,.call)],[]⟩),(8,⟨[(12,.call)],[]⟩),(15,⟨[(13,.slot 16)],[]⟩),(19,⟨[(13,.made 11),(14,.made 12)],[]⟩),(25,⟨[(2,.slot 20),(3,.slot 21)],[(1,[.slot 20])]⟩),(27,⟨[(8,.slot 16)],[]⟩)] Tryz.f138 [.agg [.ro n 2 fun i => [i64 (X i),i64 (Y i)]],.agg [.ro m 2 fun i => [i64 (Z i),i64 (T i)]],i64 (i:Int)] (alk (mfA (flS n X Y m Z T i))):=by
 refine fnVC_go (rs:=[.cell 6 52]) rfl rfl ?_
 have hg:spots n fun i => [i64 (X i),i64 (Y i)]:=fun i hi => ⟨rfl,hX i hi⟩
 have hg':spots m fun i => [i64 (Z i),i64 (T i)]:=fun i hi => ⟨rfl,hZ i hi⟩
 have hil:=nxt_lt hi
 simp only [go_sem,k122,k173,k123,c193,k176,k165,k63,k161,k178,k160,k130,k179,k180,c51,k167,sgC,gx_pts0,gx_pts1,hg,hg',hn,hm,m0,Int.toNat_natCast,vX i hi,vX _ hil]
 have eN:vNorm (X i) (Y i) (X (nxt n i)) (Y (nxt n i)) = edN n X Y i:=rfl
 have eJ:leI (agK m Z T (edN n X Y i)) (m - 1) = flJ n X Y m Z T i:=rfl
 have hJ:flJ n X Y m Z T i < m:=by
  have:=leI_lt (h:=agK m Z T (edN n X Y i)) (m - 1)
  unfold flJ
  omega
 have hJn:=nxt_lt hJ
 have hxi:=hX i hi
 have hxn:=hX _ hil
 have hzj:=hZ _ hJ
 have hzn:=hZ _ hJn
 have eT:(vUnit (vOf (mnW (X i) (X (nxt n i))) (mnW (Y i) (Y (nxt n i))))).2 = flT n X Y i:=rfl
 have eE:vLen (vLoc (mnW (X i) (X (nxt n i))) (mnW (Y i) (Y (nxt n i)))) = flE n X Y i:=rfl
 simp only [eN,eJ]
 generalize hJq:flJ n X Y m Z T i = J at *
 have e0:vLoc (mnW (X i) (Z J)) (mnW (Y i) (T J)) = fx0 X Y Z T i J:=rfl
 have e1:vLoc (mnW (X i) (Z (nxt m J))) (mnW (Y i) (T (nxt m J))) = fx0 X Y Z T i (nxt m J):=rfl
 have i1:∀ j,inR (fx0 X Y Z T i j).1.1:=fun j => of_eq_true iLoc1
 have i2:∀ j,inR (fx0 X Y Z T i j).2.1:=fun j => of_eq_true iLoc2
 have c1:clpX (fx0 X Y Z T i J) (fx0 X Y Z T i (nxt m J)) (vDot (flT n X Y i) (fx0 X Y Z T i J)) (vDot (flT n X Y i) (fx0 X Y Z T i (nxt m J))) = cl1X (flT n X Y i) (fx0 X Y Z T i J) (fx0 X Y Z T i (nxt m J)):=rfl
 have c2:clpY (fx0 X Y Z T i J) (fx0 X Y Z T i (nxt m J)) (vDot (flT n X Y i) (fx0 X Y Z T i J)) (vDot (flT n X Y i) (fx0 X Y Z T i (nxt m J))) = cl1Y (flT n X Y i) (fx0 X Y Z T i J) (fx0 X Y Z T i (nxt m J)):=rfl
 have c3:clpX (cl1X (flT n X Y i) (fx0 X Y Z T i J) (fx0 X Y Z T i (nxt m J))) (cl1Y (flT n X Y i) (fx0 X Y Z T i J) (fx0 X Y Z T i (nxt m J))) (nSub (flE n X Y i) (vDot (flT n X Y i) (cl1X (flT n X Y i) (fx0 X Y Z T i J) (fx0 X Y Z T i (nxt m J))))) (nSub (flE n X Y i) (vDot (flT n X Y i) (cl1Y (flT n X Y i) (fx0 X Y Z T i J) (fx0 X Y Z T i (nxt m J))))) = flA n X Y m Z T i J:=rfl
 have c4:clpY (cl1X (flT n X Y i) (fx0 X Y Z T i J) (fx0 X Y Z T i (nxt m J))) (cl1Y (flT n X Y i) (fx0 X Y Z T i J) (fx0 X Y Z T i (nxt m J))) (nSub (flE n X Y i) (vDot (flT n X Y i) (cl1X (flT n X Y i) (fx0 X Y Z T i J) (fx0 X Y Z T i (nxt m J))))) (nSub (flE n X Y i) (vDot (flT n X Y i) (cl1Y (flT n X Y i) (fx0 X Y Z T i J) (fx0 X Y Z T i (nxt m J))))) = flB n X Y m Z T i J:=rfl
 simp only [forall_eq,mnW_eq,eT,eE,e0,e1,c1,c2,c3,c4]
 have iA:inR (flA n X Y m Z T i J).1.1 ∧ inR (flA n X Y m Z T i J).2.1:=⟨clpX_in1 (clpX_in1 (i1 _)),clpX_in2 (clpX_in2 (i2 _))⟩
 have iB:inR (flB n X Y m Z T i J).1.1 ∧ inR (flB n X Y m Z T i J).2.1:=⟨clpY_in1 (clpY_in1 (i1 _)),clpY_in2 (clpY_in2 (i2 _))⟩
 have iw:∀ a b,inR (mnW a b):=fun a b => wrap_inR _
 refine ⟨by omega,by omega,by omega,vZ,iw _ _,iw _ _,iw _ _,iw _ _,iw _ _,iw _ _,iw _ _,iw _ _,clpX_in1 (i1 _),clpX_in2 (i2 _),clpY_in1 (i1 _),clpY_in2 (i2 _),clpX_in1 (i1 _),clpX_in2 (i2 _),clpY_in1 (i1 _),clpY_in2 (i2 _),?_⟩
 have hS:flS n X Y m Z T i = flK (edN n X Y i) (vLoc (X i) (Y i)) (flA n X Y m Z T i J) (flB n X Y m Z T i J) (vLoc (Z (flW n X Y m Z T i)) (T (flW n X Y m Z T i))) (nPos (nNeg (edH n X Y Z T i (flW n X Y m Z T i)))):=by unfold flS; rw [hJq]
 rw [hS]
 generalize flA n X Y m Z T i J = a at *
 generalize flB n X Y m Z T i J = b at *
 have iN:inR (edN n X Y i).1.1 ∧ inR (edN n X Y i).2.1:=⟨of_eq_true iNorm1,of_eq_true iNorm2⟩
 generalize hnv:edN n X Y i = nv at *
 have b71:bytesT Tryz.prog 87 = 48:=byt87
 refine loopN_go (fun (s:Nat) => s ≤ 2) (fun s => 2 - s) (fun s => [(91,i64 (s:Int))]) (fun s => flRw nv (vLoc (X i) (Y i)) a b (tcN nv a b s)) [55,44,36,25,24,16,10,9,2,1,0] [92,93,18,94,95,96,19,97,98,99,100,101,102,103,104,105,106,107,108,109,110,111,112,113,91] 1 0 (by kernel_rfl) (Nat.zero_le _) ⟨[],?_,?_,?_,?_⟩ ?_
 ·simp only [go_sem]
 ·simp only [go_sem,tcN_0,flRw_0]
 ·simp only [go_sem]
 ·simp [goodNames,asg,tcN_0,flRw_0]
 intro s hs
 match s with
 | 0 =>
  rw [tcN_0]
  simp only [go_sem,k122,k173,k123,c193,k176,k165,k63,k161,k178,k160,k130,k179,k180,c51,k167,sgC,gx_pts0,gx_pts1,hg,hg',hn,hm,hxi,iA,iB,iN,b71,flRw_0]
  simp only [Int.reduceBEq,Bool.false_eq_true,false_imp_iff,true_imp_iff,true_and,and_true,reduceCtorEq]
  refine ⟨fun ha z hz => ⟨1,by omega,by omega,[(89,some 113)],?_⟩,fun ha z hz => ⟨1,by omega,by omega,[],?_⟩⟩
  ·rw [tcN_1,if_pos ha]
   simp only [go_sem,flRw_1]
   refine ⟨by rw [hz]; decide,fun q hq => ?_,by simp [goodNames,asg]⟩
   have e:q = 0:=by omega
   subst e
   rw [tch_a (b:=b) ha]
   exact fitL_clean rfl
  ·rw [tcN_1,if_neg ha]
   simp only [go_sem,flRw_0]
   exact ⟨by rw [hz]; decide,by simp [goodNames,asg]⟩
 | 1 =>
  by_cases ha:(vDot nv a).1 ≤ 0
  ·rw [tcN_1,if_pos ha]
   simp only [go_sem,k122,k173,k123,c193,k176,k165,k63,k161,k178,k160,k130,k179,k180,c51,k167,sgC,gx_pts0,gx_pts1,hg,hg',hn,hm,hxi,iA,iB,iN,b71,flRw_1]
   simp only [Int.reduceBEq,Bool.false_eq_true,false_imp_iff,true_imp_iff,true_and,and_true,reduceCtorEq]
   refine ⟨fun hb z hz => ⟨2,by omega,by omega,[(89,some 113)],?_⟩,fun hb z hz => ⟨2,by omega,by omega,[(89,some 89)],?_⟩⟩
   ·rw [tcN_2,tcN_1,if_pos ha,if_pos hb]
    simp only [go_sem,flRw_2]
    refine ⟨by rw [hz]; decide,fun q hq => ?_,by simp [goodNames,asg]⟩
    by_cases e:q = 0
    ·subst e
     rw [if_pos (by omega)]
     exact fitL_clean rfl
    ·have e:q = 1:=by omega
     subst e
     rw [if_neg (by omega),tch_b (fun u => by have:=u.2; omega)]
     exact fitL_clean rfl
   ·rw [tcN_2,tcN_1,if_pos ha,if_neg hb]
    simp only [go_sem,flRw_1]
    exact ⟨by rw [hz]; decide,fun q hq => fitL_clean rfl,by simp [goodNames,asg]⟩
  ·rw [tcN_1,if_neg ha]
   simp only [go_sem,k122,k173,k123,c193,k176,k165,k63,k161,k178,k160,k130,k179,k180,c51,k167,sgC,gx_pts0,gx_pts1,hg,hg',hn,hm,hxi,iA,iB,iN,b71,flRw_0]
   simp only [Int.reduceBEq,Bool.false_eq_true,false_imp_iff,true_imp_iff,true_and,and_true,reduceCtorEq]
   refine ⟨fun hb z hz => ⟨2,by omega,by omega,[(89,some 113)],?_⟩,fun hb z hz => ⟨2,by omega,by omega,[],?_⟩⟩
   ·rw [tcN_2,tcN_1,if_neg ha,if_pos hb]
    simp only [go_sem,flRw_1]
    refine ⟨by rw [hz]; decide,fun q hq => ?_,by simp [goodNames,asg]⟩
    have e:q = 0:=by omega
    subst e
    rw [tch_b (fun u => ha u.1)]
    exact fitL_clean rfl
   ·rw [tcN_2,tcN_1,if_neg ha,if_neg hb]
    simp only [go_sem,flRw_0]
    exact ⟨by rw [hz]; decide,by simp [goodNames,asg]⟩
 | 2 =>
  by_cases h0:tcN nv a b 2 = 0
  ·rw [h0]
   simp only [go_sem,k122,k173,k123,c193,k176,k165,k63,k161,k178,k160,k130,k179,k180,c51,k167,sgC,gx_pts0,gx_pts1,hg,hg',hn,hm,hxi,iA,iB,iN,b71,flRw_0,Option.toList_some,Option.toList_none,List.nil_append,List.cons_append,List.append_nil]
   have hno:¬ 0 < tcN nv a b 2:=by omega
   rw [flK_no hno]
   refine ⟨fun h => h.elim,fun _ => ⟨fun h => (by cases h),fun _ => ?_⟩⟩
   have e00:vDot nv (vLoc (mnW (X i) (Z 0)) (mnW (Y i) (T 0))) = edH n X Y Z T i 0:=by
    rw [← hnv]
    rfl
   have em:((m:Int) - 1).toNat = m - 1:=by omega
   rw [e00,em]
   refine ⟨by omega,by omega,by omega,?_⟩
   refine loopC_go (fun (j:Nat) => j ≤ m - 1) (fun j => m - 1 - j) (fun j => [(133,i64 (j:Int))])
    (fun j => [(106,fam1 27 2 [i64 (edH n X Y Z T i (leI (edH n X Y Z T i) j)).1,bo (edH n X Y Z T i (leI (edH n X Y Z T i) j)).2] none),(105,fam1 116 2 [i64 (Z (leI (edH n X Y Z T i) j)),i64 (T (leI (edH n X Y Z T i) j))] none)]) [81,55,44,36,25,24,16,10,9,2,1,0] [134,135,136,23,137,138,139,140,24,141,142,143,144,145,146,147,133] 0 (by kernel_rfl) ?_ (Nat.zero_le _) ?_ ?_
   ·intro j _; simp [goodNames,asg]
   ·simp only [go_sem,leI_0]
    repeat' (first | rfl | apply And.intro)
   intro l hl
   simp only [go_sem,k122,k173,k123,c193,k176,k165,k63,k161,k178,k160,k130,k179,k180,c51,k167,gx_pts0,gx_pts1,hg,hg',hn,hm,hxi,iA,iB,iN,b71]
   have eH:∀ q,vDot nv (vLoc (mnW (X i) (Z q)) (mnW (Y i) (T q))) = edH n X Y Z T i q:=fun q => by
    rw [← hnv]
    rfl
   simp only [forall_eq,mnW_eq,eH]
   refine ⟨fun hin => ⟨by omega,hin,fun hc => ⟨l + 1,by omega,by omega,by rw [wrap_in (by unfold inR; omega)]; rfl,?_⟩,fun hc => ⟨l + 1,by omega,by omega,by rw [wrap_in (by unfold inR; omega)]; rfl,?_⟩⟩,fun hin => ?_⟩
   ·have e2:leI (edH n X Y Z T i) (l + 1) = 1 + l:=(if_pos (by rw [Nat.add_comm] at hc; exact hc)).trans (Nat.add_comm _ _)
    rw [e2]
    exact ⟨⟨rfl,rfl⟩,rfl,rfl⟩
   ·have e2:leI (edH n X Y Z T i) (l + 1) = leI (edH n X Y Z T i) l:=if_neg (by rw [Nat.add_comm] at hc; exact hc)
    rw [e2]
    exact ⟨⟨rfl,rfl⟩,rfl,rfl⟩
   ·have e2:l = m - 1:=by omega
    subst e2
    have hW:leI (edH n X Y Z T i) (m - 1) < m:=by
     have:=leI_lt (h:=edH n X Y Z T i) (m - 1)
     omega
    have hzw:=hZ _ hW
    have hr:inR (edH n X Y Z T i (leI (edH n X Y Z T i) (m - 1))).1:=rg_inR hgt_rg
    exact ⟨hzw.1,hzw.2,hr,of_eq_true (iNeg hr),alk_one rfl⟩
  ·rcases (show tcN nv a b 2 = 1 ∨ tcN nv a b 2 = 2 by rw [tcN_2,tcN_1] at h0 ⊢; split at h0 <;> split at h0 <;> simp_all) with h1 | h1
   ·rw [h1]
    simp only [go_sem,k122,k173,k123,c193,k176,k165,k63,k161,k178,k160,k130,k179,k180,c51,k167,sgC,gx_pts0,gx_pts1,hg,hg',hn,hm,hxi,iA,iB,iN,b71,flRw_1]
    refine ⟨fun h => h.elim,fun _ => ⟨fun _ => ?_,fun h => (by cases h)⟩⟩
    obtain ⟨k1,k2,k3⟩:=flK_tc (p:=vLoc (X i) (Y i)) (q:=vLoc (Z (flW n X Y m Z T i)) (T (flW n X Y m Z T i))) (d:=nPos (nNeg (edH n X Y Z T i (flW n X Y m Z T i)))) (show 0 < tcN nv a b 2 by omega)
    rw [h1] at k2 k3
    refine alk_mf k1 k2 fun q hq => ?_
    rw [(k3 q hq).1,(k3 q hq).2]
    rfl
   ·rw [h1]
    simp only [go_sem,k122,k173,k123,c193,k176,k165,k63,k161,k178,k160,k130,k179,k180,c51,k167,sgC,gx_pts0,gx_pts1,hg,hg',hn,hm,hxi,iA,iB,iN,b71,flRw_2]
    refine ⟨fun h => h.elim,fun _ => ⟨fun _ => ?_,fun h => (by cases h)⟩⟩
    obtain ⟨k1,k2,k3⟩:=flK_tc (p:=vLoc (X i) (Y i)) (q:=vLoc (Z (flW n X Y m Z T i)) (T (flW n X Y m Z T i))) (d:=nPos (nNeg (edH n X Y Z T i (flW n X Y m Z T i)))) (show 0 < tcN nv a b 2 by omega)
    rw [h1] at k2 k3
    refine alk_mf k1 k2 fun q hq => ?_
    rw [(k3 q hq).1,(k3 q hq).2]
    rfl
 | q + 3 => omega
def k63f:Con
 | [.agg [.ro n 2 g],.agg [.ro m 2 g'],.v (.int .i64 i)] => some ([spots n g,spots m g',0 ≤ i,i < n,n ≤ 1000,m ≤ 1000,0 < m,∀ i,i < n → validS (gx g 0 i) (gx g 1 i) = true,∀ i,i < m → validS (gx g' 0 i) (gx g' 1 i) = true],mfA (flS n (gx g 0) (gx g 1) m (gx g' 0) (gx g' 1) i.toNat))
 | _ => none
theorem con138:ConOK Tryz.prog 138 k63f:=ConOK.goR (G:=[(205,k122),(203,k173),(206,k123),(193,c193),(207,k176),(172,k165),(125,k63),(175,k161),(174,k178),(208,.wr mClp),(111,k160),(43,k130),(112,k179),(209,k180),(51,c51),(200,k167)]) (H:=[(6,⟨[(10,.made 9)],[]⟩),(7,⟨[(8,.call)],[]⟩),(8,⟨[(12,.call)],[]⟩),(15,⟨[(13,.slot 16)],[]⟩),(19,⟨[(13,.made 11),(14,.made 12)],[]⟩),(25,⟨[(2,.slot 20),(3,.slot 21)],[(1,[.slot 20])]⟩),(27,⟨[(8,.slot 16)],[]⟩)]) (.cons kon122 (.cons kon173 (.cons con206 (.cons con193 (.cons kon176 (.cons kon165 (.cons kon63 (.cons kon161 (.cons kon178 (.mcons con208m (.cons kon160 (.cons kon130 (.cons kon179 (.cons kon180 (.cons con51 (.cons kon167 .nil)))))))))))))))) Tryz.func138 fun l ob rr hc hob => by
 unfold k63f at hc
 split at hc
 ·rename_i n g m g' i
  cases hc
  have hs:spots n g:=hob _ (by simp)
  have hs':spots m g':=hob _ (by simp)
  have i0:0 ≤ i:=hob _ (by simp)
  have i1:i < n:=hob _ (by simp)
  have e:i = (i.toNat:Int):=by omega
  refine ⟨[.agg [.ro n 2 fun i => [i64 (gx g 0 i),i64 (gx g 1 i)]],.agg [.ro m 2 fun i => [i64 (gx g' 0 i),i64 (gx g' 1 i)]],i64 (i.toNat:Int)],fun w I vs h => ?_,by kernel_rfl,vc138 n _ _ m _ _ i.toNat (fun i hi => (hs i hi).2) (fun i hi => (hs' i hi).2) (by omega) (hob _ (by simp)) (hob _ (by simp)) (hob _ (by simp)) (hob _ (by simp)) (hob _ (by simp))⟩
  rw [← e]
  obtain ⟨x1,xs,rfl,p1,p2⟩:=h.inv
  obtain ⟨x2,ys,rfl,p3,p4⟩:=p2.inv
  exact .cons (Rs_poly hs _ p1) (.cons (Rs_poly hs' _ p3) p4)
 ·cases hc
end Go.Ax
end