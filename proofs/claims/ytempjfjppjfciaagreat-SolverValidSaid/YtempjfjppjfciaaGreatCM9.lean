/-
  How forms touch: what is computed, and the reference's small parts.
-/
import Derived.Test.YtempjfjppjfciaaGreatCM8
set_option linter.unusedVariables false
set_option linter.unusedSimpArgs false
section
set_option maxHeartbeats 4000000
set_option maxRecDepth 100000
namespace Go.Ax
open Go.Proofs Go.Proofs.Tryz
structure Mf where
 nv:V2
 n:Nat
 P:Nat → V2
 D:Nat → Nb
abbrev mfA (m:Mf):AV:=manC m.nv m.n m.P m.D
def mf0:Mf:=⟨zV,0,fun _ => zV,fun _ => (0,false)⟩
def mf1 (nv p:V2) (d:Nb):Mf:=⟨nv,1,fun _ => p,fun _ => d⟩
def oneV:V2:=((4294967296,false),(0,false))
def edN (n:Nat) (X Y:Nat → Int) (i:Nat):V2:=vNorm (X i) (Y i) (X (nxt n i)) (Y (nxt n i))
def twN (d:V2):V2:=if (vUnit d).1 = true then (vUnit d).2 else oneV
def twD (d:V2) (r s:Int):Nb:=nPos (nSub (nRat (IntKind.i64.wrap (r + s)) 256) (vLen d))
def twP (x y r:Int) (d:V2) (e:Nb):V2:=vAdd (vLoc x y) (vScale (twN d) (nSub (nRat r 256) (nDiv e (nInt 2))))
def twoS (x y r x' y' r':Int):Mf:=mf1 (twN (vLoc (mnW x x') (mnW y y'))) (twP x y r (vLoc (mnW x x') (mnW y y')) (twD (vLoc (mnW x x') (mnW y y')) r r')) (twD (vLoc (mnW x x') (mnW y y')) r r')
def deepS (n:Nat) (X Y:Nat → Int) (x y r:Int) (s:AxT):Mf:=
 mf1 (edN n X Y s.2.1.toNat) (vSub (vLoc x y) (vScale (edN n X Y s.2.1.toNat) (nRat r 256))) (nPos (nNeg s.2.2))
def rdT (n:Nat) (X Y:Nat → Int) (x y:Int) (i:Nat):Nb:=
 nCl (nRat (dtW (mnW (X i) x) (mnW (Y i) y) (mnW (X i) (X (nxt n i))) (mnW (Y i) (Y (nxt n i)))) (dtW (mnW (X i) (X (nxt n i))) (mnW (Y i) (Y (nxt n i))) (mnW (X i) (X (nxt n i))) (mnW (Y i) (Y (nxt n i))))) (0,false) (4294967296,false)
def rdP (n:Nat) (X Y:Nat → Int) (x y:Int) (i:Nat):V2:=vAdd (vLoc (X i) (Y i)) (vScale (vLoc (mnW (X i) (X (nxt n i))) (mnW (Y i) (Y (nxt n i)))) (rdT n X Y x y i))
def rdM (n:Nat) (X Y:Nat → Int) (x y:Int) (i:Nat):V2:=vSub (vLoc x y) (rdP n X Y x y i)
def rdL (n:Nat) (X Y:Nat → Int) (x y:Int) (i:Nat):Nb:=vLen (rdM n X Y x y i)
def rdV (n:Nat) (X Y:Nat → Int) (x y:Int) (i:Nat):V2:=
 if (0 < (rdT n X Y x y i).1 ∧ (rdT n X Y x y i).1 < 4294967296) ∨ (vUnit (rdM n X Y x y i)).1 = false then vNorm (X i) (Y i) (X (nxt n i)) (Y (nxt n i)) else (vUnit (rdM n X Y x y i)).2
def leI (h:Nat → Nb):Nat → Nat
 | 0 => 0
 | i + 1 => if cmpS (whV (h (i + 1)).1) (whV (h (leI h i)).1) < 0 then i + 1 else leI h i
def rdS (n:Nat) (X Y:Nat → Int) (x y r:Int):Mf:=
 mf1 (rdV n X Y x y (leI (rdL n X Y x y) (n - 1))) (rdP n X Y x y (leI (rdL n X Y x y) (n - 1))) (nPos (nSub (nRat r 256) (rdL n X Y x y (leI (rdL n X Y x y) (n - 1)))))
def pdS (n:Nat) (X Y:Nat → Int) (x y r:Int):Mf:=if inS n X Y x y = true then deepS n X Y x y r (axSt n (gD n X Y x y r) 0 (gD n X Y x y r) 2) else rdS n X Y x y r
def cutS (x y:V2) (i j:Nb):V2:=vAdd x (vScale (vSub y x) (nDiv i (nSub i j)))
def clpX (x y:V2) (i j:Nb):V2:=if i.1 < 0 ∧ 0 ≤ j.1 then cutS x y i j else x
def clpY (x y:V2) (i j:Nb):V2:=if j.1 < 0 ∧ 0 ≤ i.1 then cutS y x j i else y
theorem clpX_in1 {x y:V2} {i j:Nb} (h:inR x.1.1):inR (clpX x y i j).1.1:=by
 unfold clpX
 split
 ·exact of_eq_true iVAdd1
 ·exact h
theorem clpX_in2 {x y:V2} {i j:Nb} (h:inR x.2.1):inR (clpX x y i j).2.1:=by
 unfold clpX
 split
 ·exact of_eq_true iVAdd2
 ·exact h
theorem clpY_in1 {x y:V2} {i j:Nb} (h:inR y.1.1):inR (clpY x y i j).1.1:=by
 unfold clpY
 split
 ·exact of_eq_true iVAdd1
 ·exact h
theorem clpY_in2 {x y:V2} {i j:Nb} (h:inR y.2.1):inR (clpY x y i j).2.1:=by
 unfold clpY
 split
 ·exact of_eq_true iVAdd2
 ·exact h
def agK (m:Nat) (Z T:Nat → Int) (nv:V2) (j:Nat):Nb:=vDot (vNorm (Z j) (T j) (Z (nxt m j)) (T (nxt m j))) nv
def fx0 (X Y Z T:Nat → Int) (i j:Nat):V2:=vLoc (mnW (X i) (Z j)) (mnW (Y i) (T j))
def flT (n:Nat) (X Y:Nat → Int) (i:Nat):V2:=(vUnit (vOf (mnW (X i) (X (nxt n i))) (mnW (Y i) (Y (nxt n i))))).2
def flE (n:Nat) (X Y:Nat → Int) (i:Nat):Nb:=vLen (vLoc (mnW (X i) (X (nxt n i))) (mnW (Y i) (Y (nxt n i))))
def cl1X (t x y:V2):V2:=clpX x y (vDot t x) (vDot t y)
def cl1Y (t x y:V2):V2:=clpY x y (vDot t x) (vDot t y)
def cl2X (t x y:V2) (e:Nb):V2:=clpX x y (nSub e (vDot t x)) (nSub e (vDot t y))
def cl2Y (t x y:V2) (e:Nb):V2:=clpY x y (nSub e (vDot t x)) (nSub e (vDot t y))
def flX (t x y:V2) (e:Nb):V2:=cl2X t (cl1X t x y) (cl1Y t x y) e
def flY (t x y:V2) (e:Nb):V2:=cl2Y t (cl1X t x y) (cl1Y t x y) e
def flM (nv p x y:V2):Mf:=
 if (vDot nv x).1 ≤ 0 then
  (if (vDot nv y).1 ≤ 0 then ⟨nv,2,fun j => if j = 0 then vAdd p x else vAdd p y,fun j => if j = 0 then nNeg (vDot nv x) else nNeg (vDot nv y)⟩ else mf1 nv (vAdd p x) (nNeg (vDot nv x)))
 else mf1 nv (vAdd p y) (nNeg (vDot nv y))
def edH (n:Nat) (X Y Z T:Nat → Int) (i j:Nat):Nb:=hgt (X i) (Y i) (X (nxt n i)) (Y (nxt n i)) (Z j) (T j)
def flJ (n:Nat) (X Y:Nat → Int) (m:Nat) (Z T:Nat → Int) (i:Nat):Nat:=leI (agK m Z T (edN n X Y i)) (m - 1)
def flW (n:Nat) (X Y:Nat → Int) (m:Nat) (Z T:Nat → Int) (i:Nat):Nat:=leI (edH n X Y Z T i) (m - 1)
def flA (n:Nat) (X Y:Nat → Int) (m:Nat) (Z T:Nat → Int) (i j:Nat):V2:=flX (flT n X Y i) (fx0 X Y Z T i j) (fx0 X Y Z T i (nxt m j)) (flE n X Y i)
def flB (n:Nat) (X Y:Nat → Int) (m:Nat) (Z T:Nat → Int) (i j:Nat):V2:=flY (flT n X Y i) (fx0 X Y Z T i j) (fx0 X Y Z T i (nxt m j)) (flE n X Y i)
def flK (nv p a b q:V2) (d:Nb):Mf:=if (vDot nv a).1 ≤ 0 ∨ (vDot nv b).1 ≤ 0 then flM nv p a b else mf1 nv q d
def flS (n:Nat) (X Y:Nat → Int) (m:Nat) (Z T:Nat → Int) (i:Nat):Mf:=
 flK (edN n X Y i) (vLoc (X i) (Y i)) (flA n X Y m Z T i (flJ n X Y m Z T i)) (flB n X Y m Z T i (flJ n X Y m Z T i)) (vLoc (Z (flW n X Y m Z T i)) (T (flW n X Y m Z T i))) (nPos (nNeg (edH n X Y Z T i (flW n X Y m Z T i))))
def trnS (m:Mf):Mf:=⟨vScale m.nv (nInt (-1)),m.n,m.P,m.D⟩
def clipS (k x y r:Int) (n:Nat) (X Y:Nat → Int) (k' x' y' r':Int) (m:Nat) (Z T:Nat → Int):Mf:=
 if checkS k x y r n X Y = 0 ∧ checkS k' x' y' r' m Z T = 0 ∧ apS k x y r n X Y k' x' y' r' m Z T = false then
  (if k = 1 then (if k' = 1 then twoS x y r x' y' r' else trnS (pdS m Z T x y r))
   else if k' = 1 then pdS n X Y x' y' r'
   else if (axS k x y r n X Y k' x' y' r' m Z T).1 = 0 then flS n X Y m Z T (axS k x y r n X Y k' x' y' r' m Z T).2.1.toNat
   else trnS (flS m Z T n X Y (axS k x y r n X Y k' x' y' r' m Z T).2.1.toNat))
 else mf0
def clipB (k x y r:Int) (n:Nat) (X Y:Nat → Int) (k' x' y' r':Int) (m:Nat) (Z T:Nat → Int):Bool:=
 decide (checkS k x y r n X Y = 0 ∧ checkS k' x' y' r' m Z T = 0 ∧ apS k x y r n X Y k' x' y' r' m Z T = false)
theorem alk_ro6 {n:Nat} {f g:Nat → List AV} (h:∀ i,i < n → g i = f i):alk (.ro n 6 f) (.ro n 6 g):=fun w ρ v hR => ro_alike h hR
theorem alk_nil6 {f:Nat → List AV}:alk (.ro 0 6 f) (.v (.slice none 0 0)):=fun w ρ v hR => by
 cases hR
 exact .ro 0 0 (Nat.le_refl _) (fun h => absurd h (by omega)) (fun h => absurd h (by omega)) (fun i h => absurd h (by omega)) (fun i k h => absurd h (by omega)) (fun i k c x h => absurd h (by omega))
theorem alk_one {nv p:V2} {d:Nb} {g:Nat → List AV} (h:g 0 = tchC p d):alk (mfA (mf1 nv p d)) (.agg [i64 nv.1.1,bo nv.1.2,i64 nv.2.1,bo nv.2.2,.ro 1 6 g]):=by
 refine alk_shape (alk_ro6 fun i hi => ?_)
 have e:i = 0:=Nat.lt_one_iff.1 hi
 subst e
 exact h
abbrev edA (k x y r:Int) (n:Nat) (X Y:Nat → Int):AV:=formA k x y r n fun i => [i64 (X i),i64 (Y i)]
def kcut:Con
 | [.agg [.v (.int .i64 x),.v (.bool e),.v (.int .i64 y),.v (.bool f)],.agg [.v (.int .i64 a),.v (.bool g),.v (.int .i64 b),.v (.bool h)],.agg [.v (.int .i64 i),.v (.bool k)],.agg [.v (.int .i64 j),.v (.bool l)]] => some ([inR x,inR y,inR a,inR b,inR i,inR j],veA (cutS ((x,e),(y,f)) ((a,g),(b,h)) (i,k) (j,l)))
 | _ => none
theorem koncut:ConOK prog 268 kcut:=ConOK.of (G:=[(227,k181),(220,k46),(150,k144),(223,k147),(222,k138)]) (H:=[(1,⟨[(12,.slot 8)],[]⟩)]) (.cons kon181 (.cons kon46 (.cons kon144 (.cons kon147 (.cons kon138 .nil))))) func268 fun l ob rr hc hob => by
 unfold kcut at hc
 split at hc
 ·rename_i x e y f a g b h i k j l
  cases hc
  have h_0:=ob0 hob
  have h_1:=ob1 hob
  have h_2:=ob2 hob
  have h_3:=ob3 hob
  have h_4:=ob4 hob
  have h_5:=ob5 hob
  refine ⟨by kernel_rfl,fnVC_go (rs:=[.cell 8 29]) rfl rfl ?_⟩
  simp only [go_sem,k181,k46,k144,k147,k138,iMul,iDiv,iInt,iAdd,iSub,iRat,iDot,iHyp,iSq,iNeg,iPos,iAbs,iMx,iMn,iCl,iWh,iLoc1,iLoc2,iVAdd1,iVAdd2,iVSub1,iVSub2,iScale1,iScale2,iVDot,iVCross,iLen,iOf1,iOf2,iUnit1,iUnit2,h_0,h_1,h_2,h_3,h_4,h_5]
  rfl
 ·cases hc
def kclp:Con
 | [.agg [.v (.int .i64 x),.v (.bool e),.v (.int .i64 y),.v (.bool f)],.agg [.v (.int .i64 a),.v (.bool g),.v (.int .i64 b),.v (.bool h)],.agg [.v (.int .i64 i),.v (.bool k)],.agg [.v (.int .i64 j),.v (.bool l)]] => some ([inR x,inR y,inR a,inR b,inR i,inR j],.tup [.agg [i64 (clpX ((x,e),(y,f)) ((a,g),(b,h)) (i,k) (j,l)).1.1,bo (clpX ((x,e),(y,f)) ((a,g),(b,h)) (i,k) (j,l)).1.2,i64 (clpX ((x,e),(y,f)) ((a,g),(b,h)) (i,k) (j,l)).2.1,bo (clpX ((x,e),(y,f)) ((a,g),(b,h)) (i,k) (j,l)).2.2],.agg [i64 (clpY ((x,e),(y,f)) ((a,g),(b,h)) (i,k) (j,l)).1.1,bo (clpY ((x,e),(y,f)) ((a,g),(b,h)) (i,k) (j,l)).1.2,i64 (clpY ((x,e),(y,f)) ((a,g),(b,h)) (i,k) (j,l)).2.1,bo (clpY ((x,e),(y,f)) ((a,g),(b,h)) (i,k) (j,l)).2.2]])
 | _ => none
theorem konclp:ConOK prog 232 kclp:=ConOK.of (G:=[(268,kcut)]) (H:=[(2,⟨[(6,.slot 8),(7,.slot 9)],[(5,[.slot 8])]⟩),(4,⟨[(6,.slot 8),(7,.slot 9)],[]⟩),(5,⟨[(2,.slot 8),(3,.slot 9)],[(1,[.slot 8])]⟩)]) (.cons koncut .nil) func232 fun l ob rr hc hob => by
 unfold kclp at hc
 split at hc
 ·rename_i x e y f a g b h i k j l
  cases hc
  have h_0:=ob0 hob
  have h_1:=ob1 hob
  have h_2:=ob2 hob
  have h_3:=ob3 hob
  have h_4:=ob4 hob
  have h_5:=ob5 hob
  refine ⟨by kernel_rfl,fnVC_go (rs:=[.cell 8 29,.cell 9 29]) rfl rfl ?_⟩
  simp only [go_sem,kcut,iMul,iDiv,iInt,iAdd,iSub,iRat,iDot,iHyp,iSq,iNeg,iPos,iAbs,iMx,iMn,iCl,iWh,iLoc1,iLoc2,iVAdd1,iVAdd2,iVSub1,iVSub2,iScale1,iScale2,iVDot,iVCross,iLen,iOf1,iOf2,iUnit1,iUnit2,h_0,h_1,h_2,h_3,h_4,h_5]
  refine ⟨fun h => ?_,fun h => ⟨fun h2 => ?_,fun h2 => ?_⟩⟩
  ·unfold clpX clpY
   dsimp only
   rw [if_pos h,if_neg (by omega)]
  ·have h:¬ (i < 0 ∧ 0 ≤ j):=by simpa using h
   unfold clpX clpY
   dsimp only
   rw [if_neg h,if_pos h2]
  ·have h:¬ (i < 0 ∧ 0 ≤ j):=by simpa using h
   have h2:¬ (j < 0 ∧ 0 ≤ i):=by simpa using h2
   unfold clpX clpY
   dsimp only
   rw [if_neg h,if_neg h2]
 ·cases hc
def ktrn:Con
 | [.agg [.v (.int .i64 x),.v (.bool e),.v (.int .i64 y),.v (.bool f),.ro n 6 g]] => some ([inR x,inR y],.agg [i64 (vScale ((x,e),(y,f)) (nInt (-1))).1.1,bo (vScale ((x,e),(y,f)) (nInt (-1))).1.2,i64 (vScale ((x,e),(y,f)) (nInt (-1))).2.1,bo (vScale ((x,e),(y,f)) (nInt (-1))).2.2,.ro n 6 g])
 | _ => none
theorem kontrn:ConOK prog 143 ktrn:=ConOK.of (G:=[(33,k50),(223,k147)]) (H:=[(1,⟨[(5,.slot 1)],[]⟩)]) (.cons kon50 (.cons kon147 .nil)) func143 fun l ob rr hc hob => by
 unfold ktrn at hc
 split at hc
 ·rename_i x e y f n g
  cases hc
  have h_0:=ob0 hob
  have h_1:=ob1 hob
  refine ⟨by kernel_rfl,fnVC_go (rs:=[.cell 2 52]) rfl rfl ?_⟩
  simp only [go_sem,k50,k147,iMul,iDiv,iInt,iAdd,iSub,iRat,iDot,iHyp,iSq,iNeg,iPos,iAbs,iMx,iMn,iCl,iWh,iLoc1,iLoc2,iVAdd1,iVAdd2,iVSub1,iVSub2,iScale1,iScale2,iVDot,iVCross,iLen,iOf1,iOf2,iUnit1,iUnit2,h_0,h_1]
  done
 ·cases hc
def c141:Con
 | [.agg [.v (.int .i64 k),.v (.int .i64 x),.v (.int .i64 y),.v (.int .i64 r),.ro n 2 g],.agg [.v (.int .i64 k'),.v (.int .i64 x'),.v (.int .i64 y'),.v (.int .i64 r'),.ro m 2 g']] => some ([inR r,inR r',inR x,inR y],mfA (twoS x y r x' y' r'))
 | _ => none
theorem vc141 (k x y r:Int) (n:Nat) (g:Nat → List AV) (k' x' y' r':Int) (m:Nat) (g':Nat → List AV) (h1:inR r) (h2:inR r') (h3:inR x) (h4:inR y) :
  fnVC prog [(214,c214),(159,k69),(218,k140),(151,k54),(221,k47),(220,k46),(219,k143),(33,k50),(150,k144),(223,k147),(222,k138)] [(5,⟨[(13,.made 12)],[]⟩),(6,⟨[(8,.made 7)],[]⟩),(7,⟨[(13,.slot 4)],[]⟩)] Tryz.f141 [formA k x y r n g,formA k' x' y' r' m g'] (alk (mfA (twoS x y r x' y' r'))):=by
 refine fnVC_go (rs:=[.cell 4 52]) rfl rfl ?_
 simp only [go_sem,c214,k69,k140,k54,k47,k46,k143,k50,k144,k147,k138,h1,h2]
 simp only [forall_eq,mnW_eq]
 have i1:∀ a b,inR (mnW a b):=fun a b => wrap_inR _
 refine ⟨i1 _ _,i1 _ _,fun h => ⟨wrap_inR _,h3,h4,?_⟩,fun h => ⟨wrap_inR _,h3,h4,?_⟩⟩
 ·have e:twN (vLoc (mnW x x') (mnW y y')) = oneV:=if_neg (by rw [h]; decide)
  unfold twoS
  rw [e]
  refine alk_one ?_
  unfold twP
  rw [e]
  rfl
 ·have e:twN (vLoc (mnW x x') (mnW y y')) = (vUnit (vLoc (mnW x x') (mnW y y'))).2:=if_pos h
  unfold twoS
  rw [e]
  refine alk_one ?_
  unfold twP
  rw [e]
  rfl
theorem con141:ConOK prog 141 c141:=ConOK.goR (G:=[(214,c214),(159,k69),(218,k140),(151,k54),(221,k47),(220,k46),(219,k143),(33,k50),(150,k144),(223,k147),(222,k138)]) (H:=[(5,⟨[(13,.made 12)],[]⟩),(6,⟨[(8,.made 7)],[]⟩),(7,⟨[(13,.slot 4)],[]⟩)]) (.cons con214 (.cons kon69 (.cons kon140 (.cons kon54 (.cons kon47 (.cons kon46 (.cons kon143 (.cons kon50 (.cons kon144 (.cons kon147 (.cons kon138 .nil))))))))))) func141 fun l ob rr hc hob => by
 unfold c141 at hc
 split at hc
 ·rename_i k x y r n g k' x' y' r' m g'
  cases hc
  exact ⟨_,fun w I vs h => h,by kernel_rfl,vc141 k x y r n g k' x' y' r' m g' (hob _ (by simp)) (hob _ (by simp)) (hob _ (by simp)) (hob _ (by simp))⟩
 ·cases hc
def lsQ (h:Nat → Nb) (s:Nb):Nat → Nat × Nb
 | 0 => (0,s)
 | i + 1 => if i = 0 ∨ cmpS (whV (h i).1) (whV (lsQ h s i).2.1) < 0 then (i,h i) else lsQ h s i
theorem lsQ_eq {h:Nat → Nb} {s:Nb}:∀ i,lsQ h s (i + 1) = (leI h i,h (leI h i))
 | 0 => if_pos (.inl rfl)
 | i + 1 => by
  have e:=lsQ_eq (h:=h) (s:=s) i
  unfold lsQ leI
  rw [e]
  dsimp only
  by_cases c:cmpS (whV (h (i + 1)).1) (whV (h (leI h i)).1) < 0
  ·rw [if_pos (.inr c),if_pos c]
  ·rw [if_neg (by omega),if_neg c]
theorem lsQ_hit {h:Nat → Nb} {s:Nb} {i:Nat} (c:i = 0 ∨ cmpS (whV (h i).1) (whV (lsQ h s i).2.1) < 0):lsQ h s (i + 1) = (i,h i):=if_pos c
theorem lsQ_not {h:Nat → Nb} {s:Nb} {i:Nat} (c:¬ (i = 0 ∨ cmpS (whV (h i).1) (whV (lsQ h s i).2.1) < 0)):lsQ h s (i + 1) = lsQ h s i:=if_neg c
theorem leI_lt {h:Nat → Nb}:∀ i,leI h i ≤ i
 | 0 => Nat.le_refl _
 | i + 1 => by
  have:=leI_lt (h:=h) i
  unfold leI
  split <;> omega
theorem axF_ix {o:Int} {G:Nat → Nb}:∀ i:Nat,0 ≤ (axF o G ax0 (i + 1)).2.1 ∧ (axF o G ax0 (i + 1)).2.1 < ((i + 1:Nat):Int)
 | 0 => by
  rw [axF_hit (.inl (by show (-1:Int) < 0; decide))]
  exact ⟨Int.le_refl _,by show ((0:Nat):Int) < ((0 + 1:Nat):Int); decide⟩
 | i + 1 => by
  have ih:=axF_ix (o:=o) (G:=G) i
  by_cases c:(axF o G ax0 (i + 1)).2.1 < 0 ∨ 0 < cmpS (whV (G (i + 1)).1) (whV (axF o G ax0 (i + 1)).2.2.1)
  ·rw [axF_hit c]
   dsimp only
   omega
  ·rw [axF_not c]
   omega
theorem axSt_ix {n:Nat} {G G':Nat → Nb} (h:0 < n):0 ≤ (axSt n G 0 G' 2).2.1 ∧ (axSt n G 0 G' 2).2.1 < n:=by
 have:=axF_ix (o:=0) (G:=G) (n - 1)
 rw [show n - 1 + 1 = n by omega] at this
 exact this
theorem axF_in {o:Int} {G:Nat → Nb} {s:AxT} (hG:∀ i,inR (G i).1) (hs:inR s.2.2.1):∀ i,inR (axF o G s i).2.2.1
 | 0 => hs
 | i + 1 => by
  have ih:=axF_in (o:=o) hG hs i
  unfold axF
  split
  ·exact hG i
  ·exact ih
theorem axSt_in {n m:Nat} {G G':Nat → Nb} (hG:∀ i,inR (G i).1) (hG':∀ i,inR (G' i).1):∀ i,inR (axSt n G m G' i).2.2.1
 | 0 => by show inR 0; unfold inR; decide
 | 1 => axF_in hG (by show inR 0; unfold inR; decide) n
 | _ + 2 => axF_in hG' (axF_in hG (by show inR 0; unfold inR; decide) n) m
def atI (P:Nat → V2) (i:Nat) (j:Nat):V2:=if i = 0 then zV else P j
theorem atI_pos {P:Nat → V2} {i j:Nat} (h:i ≠ 0):atI P i j = P j:=if_neg h
def c142:Con
 | [.agg [.v (.int .i64 k),.v (.int .i64 x),.v (.int .i64 y),.v (.int .i64 r),.ro n 2 g],.agg [.v (.int .i64 k'),.v (.int .i64 x'),.v (.int .i64 y'),.v (.int .i64 r'),.ro m 2 g']] => some ([spots n g,spots m g',checkS k x y r n (gx g 0) (gx g 1) = 0,checkS k' x' y' r' m (gx g' 0) (gx g' 1) = 0,inR x,inR y,inR r,inR x',inR y',inR r',¬ k = 1,k' = 1,n ≤ 9223372036854775806,m ≤ 9223372036854775806],mfA (pdS n (gx g 0) (gx g 1) x' y' r'))
 | _ => none
theorem vc142 (k x y r:Int) (n:Nat) (X Y:Nat → Int) (k' x' y' r':Int) (m:Nat) (Z T:Nat → Int) (hX:∀ i,i < n → inR (X i) ∧ inR (Y i)) (hZ:∀ i,i < m → inR (Z i) ∧ inR (T i)) (hA:checkS k x y r n X Y = 0) (hB:checkS k' x' y' r' m Z T = 0) (h1:inR x) (h2:inR y) (h3:inR r) (h4:inR x') (h5:inR y') (h6:inR r') (hk:¬ k = 1) (hk':k' = 1) (hn:n ≤ 9223372036854775806) (hm:m ≤ 9223372036854775806) :
  fnVC prog [(159,k69),(151,k54),(224,c224),(144,cz37),(225,c225),(226,k83),(223,k147),(227,k181),(184,k111),(219,k143),(214,c214),(215,c194),(186,k146),(222,k138),(221,k47),(228,c228),(218,k140),(220,k46)] [(1,⟨[(8,.made 6),(9,.made 7)],[]⟩),(6,⟨[(15,.slot 4)],[]⟩),(14,⟨[(14,.made 13)],[]⟩),(15,⟨[(9,.made 8)],[]⟩),(18,⟨[(2,.slot 12),(3,.slot 13)],[(1,[.slot 12])]⟩),(23,⟨[(11,.slot 4)],[]⟩)] Tryz.f142 [edA k x y r n X Y,edA k' x' y' r' m Z T] (alk (mfA (pdS n X Y x' y' r'))):=by
 refine fnVC_go (rs:=[.cell 4 52]) rfl rfl ?_
 have hg:spots n fun i => [i64 (X i),i64 (Y i)]:=fun i hi => ⟨rfl,hX i hi⟩
 have hg':spots m fun i => [i64 (Z i),i64 (T i)]:=fun i hi => ⟨rfl,hZ i hi⟩
 have v1:validS x' y' = true:=(check_1 hB).2.1
 have hh:holdsS k x y r n X Y x' y' = inS n X Y x' y':=if_neg hk
 simp only [go_sem,k69,k54,c224,cz37,c225,k83,k147,k181,k111,k143,c214,c194,k146,k138,k47,c228,k140,k46,gx_pts0,gx_pts1,hg,hg',hA,hB,h1,h2,h3,h4,h5,h6,hn,hm,v1,hh]
 intro z hz
 have h8:=fig_n hA hk
 have vX:=(check_1 hA).2.2.1
 have eA:axS k x y r n X Y k' x' y' r' m Z T = axSt n (gD n X Y x' y' r') 0 (gD n X Y x' y' r') 2:=by
  unfold axS
  rw [if_pos ⟨hA,hB⟩,if_neg hk,if_pos hk']
 refine ⟨fun h => ?_,fun h => ?_⟩
 ·have e:pdS n X Y x' y' r' = deepS n X Y x' y' r' (axSt n (gD n X Y x' y' r') 0 (gD n X Y x' y' r') 2):=if_pos (hz.symm.trans h)
  rw [eA,e]
  have hi:=axSt_ix (G:=gD n X Y x' y' r') (G':=gD n X Y x' y' r') (show 0 < n by omega)
  have hr:inR (axSt n (gD n X Y x' y' r') 0 (gD n X Y x' y' r') 2).2.2.1:=axSt_in (fun _ => rg_inR gD_rg) (fun _ => rg_inR gD_rg) 2
  generalize axSt n (gD n X Y x' y' r') 0 (gD n X Y x' y' r') 2 = s at *
  exact ⟨hi.1,hi.2,vX _ (by omega),vX _ (nxt_lt (by omega)),hr,of_eq_true (iNeg hr),alk_one rfl⟩
 have e:pdS n X Y x' y' r' = rdS n X Y x' y' r':=if_neg (by rw [← hz,h]; decide)
 rw [e]
 refine loopC_go (fun (i:Nat) => i ≤ n) (fun i => n - i) (fun i => [(15,i64 (i:Int))])
  (fun i => [(25,fam1 29 4 [i64 (atI (rdV n X Y x' y') i (lsQ (rdL n X Y x' y') (0,false) i).1).1.1,bo (atI (rdV n X Y x' y') i (lsQ (rdL n X Y x' y') (0,false) i).1).1.2,i64 (atI (rdV n X Y x' y') i (lsQ (rdL n X Y x' y') (0,false) i).1).2.1,bo (atI (rdV n X Y x' y') i (lsQ (rdL n X Y x' y') (0,false) i).1).2.2] none),
   (24,fam1 29 4 [i64 (atI (rdP n X Y x' y') i (lsQ (rdL n X Y x' y') (0,false) i).1).1.1,bo (atI (rdP n X Y x' y') i (lsQ (rdL n X Y x' y') (0,false) i).1).1.2,i64 (atI (rdP n X Y x' y') i (lsQ (rdL n X Y x' y') (0,false) i).1).2.1,bo (atI (rdP n X Y x' y') i (lsQ (rdL n X Y x' y') (0,false) i).1).2.2] none),
   (23,fam1 27 2 [i64 (lsQ (rdL n X Y x' y') (0,false) i).2.1,bo (lsQ (rdL n X Y x' y') (0,false) i).2.2] none)]) [18,10,9,2,1,0] [66,67,68,69,70,74,75,76,73,77,78,16,17,79,80,81,18,82,83,84,85,86,87,88,89,90,91,92,93,94,19,95,96,97,98,99,100,101,102,20,103,104,105,106,21,107,108,109,110,111,112,113,114,115,116,118,119,120,121,117,122,123,22,23,124,125,126,127,128,129,130,131,132,133,134,135,136,137,138,139,71,72,15] 0 (by kernel_rfl) ?_ (Nat.zero_le _) ?_ ?_
 ·intro i _; simp [goodNames,asg]
 ·simp only [go_sem]
  repeat' (first | rfl | apply And.intro)
 intro i hi
 simp only [go_sem,k69,k54,c224,cz37,c225,k83,k147,k181,k111,k143,c214,c194,k146,k138,k47,c228,k140,k46,gx_pts0,gx_pts1,hg,hg',h1,h2,h3,h4,h5,h6,hn,hm]
 have eT:nCl (nRat (dtW (mnW (X i) x') (mnW (Y i) y') (mnW (X i) (X (nxt n i))) (mnW (Y i) (Y (nxt n i)))) (dtW (mnW (X i) (X (nxt n i))) (mnW (Y i) (Y (nxt n i))) (mnW (X i) (X (nxt n i))) (mnW (Y i) (Y (nxt n i))))) (0,false) (4294967296,false) = rdT n X Y x' y' i:=rfl
 have eP:vAdd (vLoc (X i) (Y i)) (vScale (vLoc (mnW (X i) (X (nxt n i))) (mnW (Y i) (Y (nxt n i)))) (rdT n X Y x' y' i)) = rdP n X Y x' y' i:=rfl
 have eM:vSub (vLoc x' y') (rdP n X Y x' y' i) = rdM n X Y x' y' i:=rfl
 have eL:vLen (rdM n X Y x' y' i) = rdL n X Y x' y' i:=rfl
 simp only [forall_eq,mnW_eq,dtW_eq,eT,eP,eM,eL]
 have hw:i < n → IntKind.i64.wrap ((i:Int) + 1) = ((i + 1:Nat):Int):=fun h => by rw [wrap_in (inRo (by omega))]; rfl
 refine ⟨fun hin => ?_,fun hin => ?_⟩
 ·have hlt:i < n:=by omega
  have hxi:=hX i hlt
  refine ⟨by omega,hin,dtW_inR,dtW_inR,hxi.1,hxi.2,wrap_inR _,wrap_inR _,fun h => ⟨i + 1,by omega,by omega,hw hlt,?_⟩,fun h => ⟨fun h2 => ⟨vX i hlt,vX _ (nxt_lt hlt),i + 1,by omega,by omega,hw hlt,?_⟩,fun h2 => ⟨i + 1,by omega,by omega,hw hlt,?_⟩⟩⟩
  ·rw [lsQ_not (by have:=h.2; have:=h.1; omega),atI_pos (by omega),atI_pos (by omega),atI_pos (by omega),atI_pos (by omega)]
   exact ⟨⟨rfl,rfl,rfl,rfl⟩,⟨rfl,rfl,rfl,rfl⟩,rfl,rfl⟩
  ·have h:¬ (0 < (i:Int) ∧ 0 ≤ cmpS (whV (rdL n X Y x' y' i).1) (whV (lsQ (rdL n X Y x' y') (0,false) i).2.1)):=by simpa using h
   rw [lsQ_hit (by omega)]
   dsimp only
   rw [atI_pos (by omega),atI_pos (by omega),show rdV n X Y x' y' i = _ from if_pos h2]
   exact ⟨⟨rfl,rfl,rfl,rfl⟩,⟨rfl,rfl,rfl,rfl⟩,rfl,rfl⟩
  ·have h:¬ (0 < (i:Int) ∧ 0 ≤ cmpS (whV (rdL n X Y x' y' i).1) (whV (lsQ (rdL n X Y x' y') (0,false) i).2.1)):=by simpa using h
   rw [lsQ_hit (by omega)]
   dsimp only
   rw [atI_pos (by omega),atI_pos (by omega),show rdV n X Y x' y' i = _ from if_neg (by
    rintro (q | q)
    ·have:=h2.1
     rw [decide_eq_true q.1,decide_eq_true q.2] at this
     cases this
    ·rw [h2.2] at q
     cases q)]
   exact ⟨⟨rfl,rfl,rfl,rfl⟩,⟨rfl,rfl,rfl,rfl⟩,rfl,rfl⟩
 ·have e:i = n - 1 + 1:=by omega
  rw [e,lsQ_eq]
  dsimp only
  rw [atI_pos (by omega),atI_pos (by omega)]
  exact ⟨of_eq_true iHyp,alk_one rfl⟩
theorem con142:ConOK prog 142 c142:=ConOK.goR (G:=[(159,k69),(151,k54),(224,c224),(144,cz37),(225,c225),(226,k83),(223,k147),(227,k181),(184,k111),(219,k143),(214,c214),(215,c194),(186,k146),(222,k138),(221,k47),(228,c228),(218,k140),(220,k46)]) (H:=[(1,⟨[(8,.made 6),(9,.made 7)],[]⟩),(6,⟨[(15,.slot 4)],[]⟩),(14,⟨[(14,.made 13)],[]⟩),(15,⟨[(9,.made 8)],[]⟩),(18,⟨[(2,.slot 12),(3,.slot 13)],[(1,[.slot 12])]⟩),(23,⟨[(11,.slot 4)],[]⟩)]) (.cons kon69 (.cons kon54 (.cons con224 (.cons con144 (.cons con225 (.cons kon83 (.cons kon147 (.cons kon181 (.cons kon111 (.cons kon143 (.cons con214 (.cons con215 (.cons kon146 (.cons kon138 (.cons kon47 (.cons con228 (.cons kon140 (.cons kon46 .nil)))))))))))))))))) func142 fun l ob rr hc hob => by
 unfold c142 at hc
 split at hc
 ·rename_i k x y r n g k' x' y' r' m g'
  cases hc
  have hs:spots n g:=hob _ (by simp)
  have hs':spots m g':=hob _ (by simp)
  exact ⟨[edA k x y r n (gx g 0) (gx g 1),edA k' x' y' r' m (gx g' 0) (gx g' 1)],fun w I vs h => Rs_two (Rs_form hs) (Rs_form hs') h,by kernel_rfl,vc142 k x y r n _ _ k' x' y' r' m _ _ (fun i hi => (hs i hi).2) (fun i hi => (hs' i hi).2) (hob _ (by simp)) (hob _ (by simp)) (hob _ (by simp)) (hob _ (by simp)) (hob _ (by simp)) (hob _ (by simp)) (hob _ (by simp)) (hob _ (by simp)) (hob _ (by simp)) (hob _ (by simp)) (hob _ (by simp)) (hob _ (by simp))⟩
 ·cases hc
def tcN (nv a b:V2):Nat → Nat
 | 0 => 0
 | 1 => if (vDot nv a).1 ≤ 0 then 1 else 0
 | _ => (if (vDot nv a).1 ≤ 0 then 1 else 0) + (if (vDot nv b).1 ≤ 0 then 1 else 0)
theorem tcN_0 {nv a b:V2}:tcN nv a b 0 = 0:=rfl
theorem tcN_1 {nv a b:V2}:tcN nv a b 1 = if (vDot nv a).1 ≤ 0 then 1 else 0:=rfl
theorem tcN_2 {nv a b:V2}:tcN nv a b 2 = tcN nv a b 1 + if (vDot nv b).1 ≤ 0 then 1 else 0:=rfl
def tcP (nv p a b:V2) (j:Nat):V2:=if (vDot nv a).1 ≤ 0 ∧ j = 0 then vAdd p a else vAdd p b
def tcD (nv a b:V2) (j:Nat):Nb:=if (vDot nv a).1 ≤ 0 ∧ j = 0 then nNeg (vDot nv a) else nNeg (vDot nv b)
theorem flK_tc {nv p a b q:V2} {d:Nb} (h:0 < tcN nv a b 2):(flK nv p a b q d).nv = nv ∧ (flK nv p a b q d).n = tcN nv a b 2 ∧ ∀ j,j < tcN nv a b 2 → (flK nv p a b q d).P j = tcP nv p a b j ∧ (flK nv p a b q d).D j = tcD nv a b j:=by
 rw [tcN_2,tcN_1] at h ⊢
 unfold flK flM tcP tcD
 by_cases ha:(vDot nv a).1 ≤ 0
 ·rw [if_pos (.inl ha),if_pos ha,if_pos ha]
  by_cases hb:(vDot nv b).1 ≤ 0
  ·rw [if_pos hb,if_pos hb]
   refine ⟨rfl,rfl,fun j hj => ?_⟩
   dsimp only
   by_cases e:j = 0
   ·rw [if_pos e,if_pos e,if_pos ⟨ha,e⟩,if_pos ⟨ha,e⟩]
    exact ⟨rfl,rfl⟩
   ·rw [if_neg e,if_neg e,if_neg (fun q => e q.2),if_neg (fun q => e q.2)]
    exact ⟨rfl,rfl⟩
  ·rw [if_neg hb,if_neg hb]
   refine ⟨rfl,rfl,fun j hj => ?_⟩
   have e:j = 0:=by omega
   rw [if_pos ⟨ha,e⟩,if_pos ⟨ha,e⟩]
   exact ⟨rfl,rfl⟩
 ·rw [if_neg ha] at h
  have hb:(vDot nv b).1 ≤ 0:=by
   apply Classical.byContradiction
   intro hb
   rw [if_neg hb] at h
   omega
  rw [if_pos (.inr hb),if_neg ha,if_neg ha,if_pos hb]
  refine ⟨rfl,rfl,fun j hj => ?_⟩
  rw [if_neg (fun q => ha q.1),if_neg (fun q => ha q.1)]
  exact ⟨rfl,rfl⟩
theorem flK_no {nv p a b q:V2} {d:Nb} (h:¬ 0 < tcN nv a b 2):flK nv p a b q d = mf1 nv q d:=by
 rw [tcN_2,tcN_1] at h
 refine if_neg ?_
 rintro (k | k)
 ·rw [if_pos k] at h
  omega
 ·rw [if_pos k] at h
  omega
theorem alk_mf {m:Mf} {nv:V2} {n:Nat} {g:Nat → List AV} (h1:m.nv = nv) (h2:m.n = n) (h3:∀ i,i < n → g i = tchC (m.P i) (m.D i)):alk (mfA m) (.agg [i64 nv.1.1,bo nv.1.2,i64 nv.2.1,bo nv.2.2,.ro n 6 g]):=by
 subst h1 h2
 exact alk_shape (alk_ro6 h3)
theorem vc145 (k x y r:Int) (n:Nat) (X Y:Nat → Int) (k' x' y' r':Int) (m:Nat) (Z T:Nat → Int) (i:Nat) (hX:∀ i,i < n → inR (X i) ∧ inR (Y i)) (hZ:∀ i,i < m → inR (Z i) ∧ inR (T i)) (hA:checkS k x y r n X Y = 0) (hB:checkS k' x' y' r' m Z T = 0) (hk:¬ k = 1) (hk':¬ k' = 1) (hi:i < n) :
  fnVC prog [(225,c225),(226,k83),(230,k145),(228,c228),(214,c214),(231,k149),(218,k140),(159,k69),(221,k47),(232,kclp),(220,k46),(222,k138),(184,k111),(219,k143)] [(9,⟨[(6,.made 5)],[]⟩),(11,⟨[(3,.slot 11)],[]⟩),(14,⟨[(10,.made 8),(11,.made 9)],[]⟩),(16,⟨[(12,.slot 20),(13,.slot 21)],[]⟩),(17,⟨[(16,.slot 20),(17,.slot 21)],[]⟩),(27,⟨[(13,.slot 23)],[]⟩),(34,⟨[(11,.made 10)],[]⟩),(36,⟨[(3,.slot 11)],[]⟩),(37,⟨[(14,.slot 23)],[]⟩)] Tryz.f145 [edA k x y r n X Y,edA k' x' y' r' m Z T,i64 (i:Int)] (alk (mfA (flS n X Y m Z T i))):=by
 refine fnVC_go (rs:=[.cell 6 52]) rfl rfl ?_
 have hg:spots n fun i => [i64 (X i),i64 (Y i)]:=fun i hi => ⟨rfl,hX i hi⟩
 have hg':spots m fun i => [i64 (Z i),i64 (T i)]:=fun i hi => ⟨rfl,hZ i hi⟩
 have h8:=fig_n hA hk
 have m8:=fig_n hB hk'
 have hn:n ≤ 9223372036854775806:=by omega
 have hm:m ≤ 9223372036854775806:=by omega
 have vX:=(check_1 hA).2.2.1
 have vZ:=(check_1 hB).2.2.1
 have hil:=nxt_lt hi
 simp only [go_sem,c225,k83,k145,c228,c214,k149,k140,k69,k47,kclp,k46,k138,k111,k143,gx_pts0,gx_pts1,hg,hg',hn,hm,Int.toNat_natCast,vX i hi,vX _ hil]
 refine ⟨by omega,by omega,?_⟩
 refine loopC_go (fun (j:Nat) => j ≤ m) (fun j => m - j) (fun j => [(12,i64 (j:Int)),(10,i64 ((lsQ (agK m Z T (edN n X Y i)) (0,false) j).1:Int))])
  (fun j => [(20,fam1 27 2 [i64 (lsQ (agK m Z T (edN n X Y i)) (0,false) j).2.1,bo (lsQ (agK m Z T (edN n X Y i)) (0,false) j).2.2] none)]) [16,10,9,2,1,0] [40,41,42,43,44,48,49,50,47,51,52,13,14,53,54,55,56,57,15,58,59,60,61,62,63,64,65,66,67,10,45,46,12] 0 (by kernel_rfl) ?_ (Nat.zero_le _) ?_ ?_
 ·intro i _; simp [goodNames,asg]
 ·simp only [go_sem]
  repeat' (first | rfl | apply And.intro)
 intro j hj
 simp only [go_sem,c225,k83,k145,c228,c214,k149,k140,k69,k47,kclp,k46,k138,k111,k143,gx_pts0,gx_pts1,hg,hg',hn,hm]
 have hw:j < m → IntKind.i64.wrap ((j:Int) + 1) = ((j + 1:Nat):Int):=fun h => by rw [wrap_in (inRo (by omega))]; rfl
 have eN:vNorm (X i) (Y i) (X (nxt n i)) (Y (nxt n i)) = edN n X Y i:=rfl
 have eK:vDot (vNorm (Z j) (T j) (Z (nxt m j)) (T (nxt m j))) (edN n X Y i) = agK m Z T (edN n X Y i) j:=rfl
 simp only [eN,eK]
 refine ⟨fun hin => ?_,fun hin => ?_⟩
 ·have hlt:j < m:=by omega
  refine ⟨by omega,hin,vZ j hlt,vZ _ (nxt_lt hlt),fun z hz => ⟨fun h z1 hz1 => ⟨j + 1,by omega,by omega,?_⟩,fun h z1 hz1 => ⟨j + 1,by omega,by omega,?_⟩⟩⟩
  ·rw [lsQ_hit (h.imp (fun q => by simpa using q) (fun q => by rw [← hz]; exact q)),hz1,hw hlt]
   exact ⟨⟨rfl,rfl⟩,rfl,rfl⟩
  ·have h1:¬ j = 0:=by
    intro q
    subst q
    exact absurd h.1 (by decide)
   rw [lsQ_not (fun q => q.elim h1 (fun q => h.2 (by rw [hz]; exact q))),hz1,hw hlt]
   exact ⟨⟨rfl,rfl⟩,rfl,rfl⟩
 ·have e:j = m - 1 + 1:=by omega
  have eJ:lsQ (agK m Z T (edN n X Y i)) (0,false) j = (flJ n X Y m Z T i,agK m Z T (edN n X Y i) (flJ n X Y m Z T i)):=by rw [e,lsQ_eq]; rfl
  have hJ:flJ n X Y m Z T i < m:=by
   have:=leI_lt (h:=agK m Z T (edN n X Y i)) (m - 1)
   unfold flJ
   omega
  rw [eJ]
  have hJn:=nxt_lt hJ
  have hxi:=hX i hi
  have hxn:=hX _ hil
  have hzj:=hZ _ hJ
  have hzn:=hZ _ hJn
  simp only [go_sem,c225,k83,k145,c228,c214,k149,k140,k69,k47,kclp,k46,k138,k111,k143,gx_pts0,gx_pts1,hg,hg',hn,hm]
  have eT:(vUnit (vOf (mnW (X i) (X (nxt n i))) (mnW (Y i) (Y (nxt n i))))).2 = flT n X Y i:=rfl
  have eE:vLen (vLoc (mnW (X i) (X (nxt n i))) (mnW (Y i) (Y (nxt n i)))) = flE n X Y i:=rfl
  generalize hJq:flJ n X Y m Z T i = J at *
  have e0:vLoc (mnW (X i) (Z J)) (mnW (Y i) (T J)) = fx0 X Y Z T i J:=rfl
  have e1:vLoc (mnW (X i) (Z (nxt m J))) (mnW (Y i) (T (nxt m J))) = fx0 X Y Z T i (nxt m J):=rfl
  have i1:∀ j,inR (fx0 X Y Z T i j).1.1:=fun j => of_eq_true iLoc1
  have i2:∀ j,inR (fx0 X Y Z T i j).2.1:=fun j => of_eq_true iLoc2
  have c1:clpX (fx0 X Y Z T i J) (fx0 X Y Z T i (nxt m J)) (vDot (flT n X Y i) (fx0 X Y Z T i J)) (vDot (flT n X Y i) (fx0 X Y Z T i (nxt m J))) = cl1X (flT n X Y i) (fx0 X Y Z T i J) (fx0 X Y Z T i (nxt m J)):=rfl
  have c2:clpY (fx0 X Y Z T i J) (fx0 X Y Z T i (nxt m J)) (vDot (flT n X Y i) (fx0 X Y Z T i J)) (vDot (flT n X Y i) (fx0 X Y Z T i (nxt m J))) = cl1Y (flT n X Y i) (fx0 X Y Z T i J) (fx0 X Y Z T i (nxt m J)):=rfl
  have c3:clpX (cl1X (flT n X Y i) (fx0 X Y Z T i J) (fx0 X Y Z T i (nxt m J))) (cl1Y (flT n X Y i) (fx0 X Y Z T i J) (fx0 X Y Z T i (nxt m J))) (nSub (flE n X Y i) (vDot (flT n X Y i) (cl1X (flT n X Y i) (fx0 X Y Z T i J) (fx0 X Y Z T i (nxt m J))))) (nSub (flE n X Y i) (vDot (flT n X Y i) (cl1Y (flT n X Y i) (fx0 X Y Z T i J) (fx0 X Y Z T i (nxt m J))))) = flA n X Y m Z T i J:=rfl
  have c4:clpY (cl1X (flT n X Y i) (fx0 X Y Z T i J) (fx0 X Y Z T i (nxt m J))) (cl1Y (flT n X Y i) (fx0 X Y Z T i J) (fx0 X Y Z T i (nxt m J))) (nSub (flE n X Y i) (vDot (flT n X Y i) (cl1X (flT n X Y i) (fx0 X Y Z T i J) (fx0 X Y Z T i (nxt m J))))) (nSub (flE n X Y i) (vDot (flT n X Y i) (cl1Y (flT n X Y i) (fx0 X Y Z T i J) (fx0 X Y Z T i (nxt m J))))) = flB n X Y m Z T i J:=rfl
  simp only [forall_eq,mnW_eq,eT,eE,e0,e1,c1,c2,c3,c4]
  have iA:inR (flA n X Y m Z T i J).1.1 ∧ inR (flA n X Y m Z T i J).2.1:=⟨clpX_in1 (clpX_in1 (i1 _)),clpX_in2 (clpX_in2 (i2 _))⟩
  have iB:inR (flB n X Y m Z T i J).1.1 ∧ inR (flB n X Y m Z T i J).2.1:=⟨clpY_in1 (clpY_in1 (i1 _)),clpY_in2 (clpY_in2 (i2 _))⟩
  have iw:∀ a b,inR (mnW a b):=fun a b => wrap_inR _
  refine ⟨by omega,by omega,iw _ _,iw _ _,iw _ _,iw _ _,iw _ _,iw _ _,iw _ _,iw _ _,clpX_in1 (i1 _),clpX_in2 (i2 _),clpY_in1 (i1 _),clpY_in2 (i2 _),clpX_in1 (i1 _),clpX_in2 (i2 _),clpY_in1 (i1 _),clpY_in2 (i2 _),?_⟩
  have hS:flS n X Y m Z T i = flK (edN n X Y i) (vLoc (X i) (Y i)) (flA n X Y m Z T i J) (flB n X Y m Z T i J) (vLoc (Z (flW n X Y m Z T i)) (T (flW n X Y m Z T i))) (nPos (nNeg (edH n X Y Z T i (flW n X Y m Z T i)))):=by unfold flS; rw [hJq]
  rw [hS]
  generalize flA n X Y m Z T i J = a at *
  generalize flB n X Y m Z T i J = b at *
  have iN:inR (edN n X Y i).1.1 ∧ inR (edN n X Y i).2.1:=⟨of_eq_true iNorm1,of_eq_true iNorm2⟩
  generalize hnv:edN n X Y i = nv at *
  generalize agK m Z T nv J = ls at *
  have b69:bytesT prog 87 = 48:=byt87
  refine loopN_go (fun (s:Nat) => s ≤ 2) (fun s => 2 - s) (fun s => [(24,i64 (s:Int))]) (fun s => [(102,fam1 52 5 [i64 nv.1.1,bo nv.1.2,i64 nv.2.1,bo nv.2.2,.own 105 0 (tcN nv a b s) 6] none),(105,famN (tcN nv a b s) 6 87 (tchs (tcP nv (vLoc (X i) (Y i)) a b) (tcD nv a b)) none)]) [66,58,57,46,35,34,20,16,10,9,2,1,0] [125,126,129,25,130,131,132,133,134,135,26,136,137,138,139,140,141,142,143,144,145,146,147,148,149,150,151,127,128,24] 1 0 (by kernel_rfl) (Nat.zero_le _) ⟨[(105,none)],?_,?_,?_,?_⟩ ?_
  ·simp only [go_sem]
  ·simp only [go_sem,tcN]
  ·simp only [go_sem]
  ·simp [goodNames,asg]
  intro s hs
  match s with
  | 0 =>
   rw [tcN_0]
   simp only [go_sem,c225,k83,k145,c228,c214,k149,k140,k69,k47,kclp,k46,k138,k111,k143,gx_pts0,gx_pts1,hg,hg',hn,hm,hxi,iA,iB,b69]
   simp only [Int.reduceBEq,Bool.false_eq_true,false_imp_iff,true_imp_iff,true_and,and_true,reduceCtorEq]
   refine ⟨iN.1,iN.2,fun ha z hz => ⟨1,by omega,by omega,[(105,some 132)],?_⟩,fun ha z hz => ⟨1,by omega,by omega,[(105,some 105)],?_⟩⟩
   ·rw [tcN_1,if_pos ha]
    simp only [go_sem]
    refine ⟨by rw [hz]; decide,fun q hq => ?_,by simp [goodNames,asg]⟩
    have:q = 0:=by omega
    subst this
    rw [if_neg (by omega)]
    have e:∀ c d:V2,∀ f:Nb,c = tcP nv (vLoc (X i) (Y i)) a b 0 → f = tcD nv a b 0 → List.take 6 (List.drop ((0 - 0) * 6) [i64 c.1.1,bo c.1.2,i64 c.2.1,bo c.2.2,i64 f.1,bo f.2]) = tchs (tcP nv (vLoc (X i) (Y i)) a b) (tcD nv a b) 0:=fun c d f h1 h2 => by
     subst h1 h2
     rfl
    rw [e _ zV _ (if_pos ⟨ha,rfl⟩).symm (if_pos ⟨ha,rfl⟩).symm]
    exact fitL_clean rfl
   ·rw [tcN_1,if_neg ha]
    simp only [go_sem]
    exact ⟨by rw [hz]; decide,fun q hq => absurd hq (Nat.not_lt_zero q),by simp [goodNames,asg]⟩
  | 1 =>
   have hp1:tcN nv a b 1 ≤ 1:=by
    rw [tcN_1]
    split <;> omega
   simp only [go_sem,c225,k83,k145,c228,c214,k149,k140,k69,k47,kclp,k46,k138,k111,k143,gx_pts0,gx_pts1,hg,hg',hn,hm,hxi,iA,iB,b69]
   simp only [Int.reduceBEq,Bool.false_eq_true,false_imp_iff,true_imp_iff,true_and,and_true,reduceCtorEq]
   refine ⟨iN.1,iN.2,fun hb => ⟨by omega,by omega,fun z hz => ⟨2,by omega,by omega,[(105,some 134)],?_⟩⟩,fun hb z hz => ⟨2,by omega,by omega,[(105,some 105)],?_⟩⟩
   ·rw [tcN_2,if_pos hb]
    simp only [go_sem]
    refine ⟨by rw [hz]; decide,fun q hq => ?_,by simp [goodNames,asg]⟩
    by_cases hqp:q < tcN nv a b 1
    ·rw [if_pos hqp]
     exact fitL_clean rfl
    ·rw [if_neg hqp]
     have hq2:q = tcN nv a b 1:=by omega
     have hq3:¬ ((vDot nv a).1 ≤ 0 ∧ q = 0):=fun ⟨u1,u2⟩ => by
      rw [tcN_1,if_pos u1] at hq2
      omega
     have e:∀ c d:V2,∀ f:Nb,c = tcP nv (vLoc (X i) (Y i)) a b q → f = tcD nv a b q → List.take 6 (List.drop ((q - tcN nv a b 1) * 6) [i64 c.1.1,bo c.1.2,i64 c.2.1,bo c.2.2,i64 f.1,bo f.2]) = tchs (tcP nv (vLoc (X i) (Y i)) a b) (tcD nv a b) q:=fun c d f h1 h2 => by
      subst h1 h2
      rw [← hq2,Nat.sub_self]
      rfl
     rw [e _ zV _ (if_neg hq3).symm (if_neg hq3).symm]
     exact fitL_clean rfl
   ·rw [tcN_2,if_neg hb,Nat.add_zero]
    simp only [go_sem]
    exact ⟨by rw [hz]; decide,fun q hq => fitL_clean rfl,by simp [goodNames,asg]⟩
  | 2 =>
   simp only [go_sem,c225,k83,k145,c228,c214,k149,k140,k69,k47,kclp,k46,k138,k111,k143,gx_pts0,gx_pts1,hg,hg',hn,hm,hxi,iA,iB,b69]
   refine ⟨fun h => h.elim,fun _ => ?_⟩
   refine ⟨fun h => ?_,fun h => ?_⟩
   ·have h:0 < tcN nv a b 2:=by omega
    obtain ⟨k1,k2,k3⟩:=flK_tc (p:=vLoc (X i) (Y i)) (q:=vLoc (Z (flW n X Y m Z T i)) (T (flW n X Y m Z T i))) (d:=nPos (nNeg (edH n X Y Z T i (flW n X Y m Z T i)))) h
    refine alk_mf k1 k2 fun q hq => ?_
    rw [(k3 q hq).1,(k3 q hq).2]
    rfl
   have h:¬ 0 < tcN nv a b 2:=by omega
   rw [flK_no h]
   refine loopC_go (fun (j:Nat) => j ≤ m) (fun j => m - j) (fun j => [(28,i64 (j:Int)),(27,i64 ((lsQ (edH n X Y Z T i) ls j).1:Int))])
    (fun j => [(20,fam1 27 2 [i64 (lsQ (edH n X Y Z T i) ls j).2.1,bo (lsQ (edH n X Y Z T i) ls j).2.2] none)]) [105,102,66,58,57,46,35,34,16,10,9,2,1,0] [157,158,159,160,161,164,165,166,167,168,169,170,171,172,173,29,174,175,176,177,178,179,180,181,182,183,27,162,163,28] 0 (by kernel_rfl) ?_ (Nat.zero_le _) ?_ ?_
   ·intro j _; simp [goodNames,asg]
   ·simp only [go_sem]
    repeat' (first | rfl | apply And.intro)
   intro l hl
   simp only [go_sem,c225,k83,k145,c228,c214,k149,k140,k69,k47,kclp,k46,k138,k111,k143,gx_pts0,gx_pts1,hg,hg',hn,hm,hxi,iA,iB,b69]
   have eH:vDot nv (vLoc (mnW (X i) (Z l)) (mnW (Y i) (T l))) = edH n X Y Z T i l:=by
    rw [← hnv]
    rfl
   have hw2:l < m → IntKind.i64.wrap ((l:Int) + 1) = ((l + 1:Nat):Int):=fun h => by rw [wrap_in (inRo (by omega))]; rfl
   simp only [forall_eq,mnW_eq,eH]
   refine ⟨fun hin2 => ?_,fun hin2 => ?_⟩
   ·have hlt:l < m:=by omega
    refine ⟨by omega,hin2,iw _ _,iw _ _,iN.1,iN.2,fun h => ⟨l + 1,by omega,by omega,?_⟩,fun h => ⟨l + 1,by omega,by omega,?_⟩⟩
    ·rw [lsQ_hit (h.imp (fun q => by simpa using q) (fun q => q)),hw2 hlt]
     exact ⟨⟨rfl,rfl⟩,rfl,rfl⟩
    ·have h1:¬ l = 0:=by
      intro q
      subst q
      exact absurd h.1 (by decide)
     rw [lsQ_not (fun q => q.elim h1 h.2),hw2 hlt]
     exact ⟨⟨rfl,rfl⟩,rfl,rfl⟩
   ·have e2:l = m - 1 + 1:=by omega
    have eW:lsQ (edH n X Y Z T i) ls l = (flW n X Y m Z T i,edH n X Y Z T i (flW n X Y m Z T i)):=by rw [e2,lsQ_eq]; rfl
    have hW:flW n X Y m Z T i < m:=by
     have:=leI_lt (h:=edH n X Y Z T i) (m - 1)
     unfold flW
     omega
    rw [eW]
    have hzw:=hZ _ hW
    have hr:inR (edH n X Y Z T i (flW n X Y m Z T i)).1:=rg_inR hgt_rg
    exact ⟨by omega,by omega,hzw.1,hzw.2,hr,of_eq_true (iNeg hr),alk_one rfl⟩
  | q + 3 => omega
def inV (v:V2):Prop:=inR v.1.1 ∧ inR v.2.1
def inM (m:Mf):Prop:=inV m.nv ∧ m.n ≤ 2 ∧ ∀ j,inV (m.P j) ∧ inR (m.D j).1
theorem inV_norm {a b c d:Int}:inV (vNorm a b c d):=⟨of_eq_true iNorm1,of_eq_true iNorm2⟩
theorem inV_unit {u:V2}:inV (vUnit u).2:=⟨of_eq_true iUnit1,of_eq_true iUnit2⟩
theorem inV_add {u v:V2}:inV (vAdd u v):=⟨of_eq_true iVAdd1,of_eq_true iVAdd2⟩
theorem inV_sub {u v:V2}:inV (vSub u v):=⟨of_eq_true iVSub1,of_eq_true iVSub2⟩
theorem inV_loc {x y:Int}:inV (vLoc x y):=⟨of_eq_true iLoc1,of_eq_true iLoc2⟩
theorem inV_scale {u:V2} {k:Nb}:inV (vScale u k):=⟨of_eq_true iScale1,of_eq_true iScale2⟩
theorem inR_z:inR 0:=by unfold inR; decide
theorem inV_z:inV zV:=⟨inR_z,inR_z⟩
theorem inR_ps {a:Nb} (h:inR a.1):inR (nPos a).1:=of_eq_true (iPos h)
theorem inR_ng {a:Nb} (h:inR a.1):inR (nNeg a).1:=of_eq_true (iNeg h)
theorem inR_sb {a b:Nb}:inR (nSub a b).1:=of_eq_true iSub
theorem inR_dot {u v:V2}:inR (vDot u v).1:=of_eq_true iVDot
theorem inR_hgt {a b c d x y:Int}:inR (hgt a b c d x y).1:=rg_inR hgt_rg
theorem mf1_in {nv p:V2} {d:Nb} (hn:inV nv) (hp:inV p) (hd:inR d.1):inM (mf1 nv p d):=⟨hn,by show 1 ≤ 2; omega,fun _ => ⟨hp,hd⟩⟩
theorem mf0_in:inM mf0:=⟨inV_z,by show 0 ≤ 2; omega,fun _ => ⟨inV_z,inR_z⟩⟩
theorem trnS_in {m:Mf} (h:inM m):inM (trnS m):=⟨inV_scale,h.2⟩
theorem twoS_in {x y r x' y' r':Int}:inM (twoS x y r x' y' r'):=by
 refine mf1_in ?_ inV_add (inR_ps inR_sb)
 unfold twN
 split
 ·exact inV_unit
 ·exact ⟨of_eq_true inR_one,inR_z⟩
theorem deepS_in {n:Nat} {X Y:Nat → Int} {x y r:Int} {s:AxT} (h:inR s.2.2.1):inM (deepS n X Y x y r s):=mf1_in inV_norm inV_sub (inR_ps (inR_ng h))
theorem rdS_in {n:Nat} {X Y:Nat → Int} {x y r:Int}:inM (rdS n X Y x y r):=by
 refine mf1_in ?_ inV_add (inR_ps inR_sb)
 unfold rdV
 split
 ·exact inV_norm
 ·exact inV_unit
theorem pdS_in {n:Nat} {X Y:Nat → Int} {x y r:Int}:inM (pdS n X Y x y r):=by
 unfold pdS
 split
 ·exact deepS_in (axSt_in (fun _ => rg_inR gD_rg) (fun _ => rg_inR gD_rg) _)
 ·exact rdS_in
theorem flM_in {nv p x y:V2} (h:inV nv):inM (flM nv p x y):=by
 unfold flM
 split
 ·split
  ·refine ⟨h,by show 2 ≤ 2; omega,fun j => ?_⟩
   dsimp only
   split
   ·exact ⟨inV_add,inR_ng inR_dot⟩
   ·exact ⟨inV_add,inR_ng inR_dot⟩
  ·exact mf1_in h inV_add (inR_ng inR_dot)
 ·exact mf1_in h inV_add (inR_ng inR_dot)
theorem flS_in {n m:Nat} {X Y Z T:Nat → Int} {i:Nat}:inM (flS n X Y m Z T i):=by
 unfold flS flK
 split
 ·exact flM_in inV_norm
 ·exact mf1_in inV_norm inV_loc (inR_ps (inR_ng inR_hgt))
theorem clipS_in {k x y r:Int} {n:Nat} {X Y:Nat → Int} {k' x' y' r':Int} {m:Nat} {Z T:Nat → Int}:inM (clipS k x y r n X Y k' x' y' r' m Z T):=by
 unfold clipS
 split
 ·split
  ·split
   ·exact twoS_in
   ·exact trnS_in pdS_in
  ·split
   ·exact pdS_in
   ·split
    ·exact flS_in
    ·exact trnS_in flS_in
 ·exact mf0_in
theorem axF_ix1 {G:Nat → Nb} {s:AxT} {n:Nat} (h:s.1 = 0 ∧ 0 ≤ s.2.1 ∧ s.2.1 < n):∀ i:Nat,((axF 1 G s i).1 = 0 ∧ 0 ≤ (axF 1 G s i).2.1 ∧ (axF 1 G s i).2.1 < n) ∨ ((axF 1 G s i).1 = 1 ∧ 0 ≤ (axF 1 G s i).2.1 ∧ (axF 1 G s i).2.1 < i)
 | 0 => .inl h
 | i + 1 => by
  have ih:=axF_ix1 (G:=G) h i
  by_cases c:(axF 1 G s i).2.1 < 0 ∨ 0 < cmpS (whV (G i).1) (whV (axF 1 G s i).2.2.1)
  ·rw [axF_hit c]
   dsimp only
   exact .inr ⟨rfl,by omega,by omega⟩
  ·rw [axF_not c]
   omega
theorem axF_of {o:Int} {G:Nat → Nb}:∀ i:Nat,(axF o G ax0 (i + 1)).1 = o
 | 0 => by rw [axF_hit (.inl (by show (-1:Int) < 0; decide))]
 | i + 1 => by
  have ih:=axF_of (o:=o) (G:=G) i
  by_cases c:(axF o G ax0 (i + 1)).2.1 < 0 ∨ 0 < cmpS (whV (G (i + 1)).1) (whV (axF o G ax0 (i + 1)).2.2.1)
  ·rw [axF_hit c]
  ·rw [axF_not c,ih]
theorem axSt_ix2 {n m:Nat} {G G':Nat → Nb} (h:0 < n):((axSt n G m G' 2).1 = 0 ∧ 0 ≤ (axSt n G m G' 2).2.1 ∧ (axSt n G m G' 2).2.1 < n) ∨ ((axSt n G m G' 2).1 = 1 ∧ 0 ≤ (axSt n G m G' 2).2.1 ∧ (axSt n G m G' 2).2.1 < m):=by
 have h1:=axF_ix (o:=0) (G:=G) (n - 1)
 have h2:=axF_of (o:=0) (G:=G) (n - 1)
 rw [show n - 1 + 1 = n by omega] at h1 h2
 exact axF_ix1 (G:=G') ⟨h2,h1⟩ m
def c145:Con
 | [.agg [.v (.int .i64 k),.v (.int .i64 x),.v (.int .i64 y),.v (.int .i64 r),.ro n 2 g],.agg [.v (.int .i64 k'),.v (.int .i64 x'),.v (.int .i64 y'),.v (.int .i64 r'),.ro m 2 g'],.v (.int .i64 i)] => some ([spots n g,spots m g',checkS k x y r n (gx g 0) (gx g 1) = 0,checkS k' x' y' r' m (gx g' 0) (gx g' 1) = 0,¬ k = 1,¬ k' = 1,0 ≤ i,i < n],mfA (flS n (gx g 0) (gx g 1) m (gx g' 0) (gx g' 1) i.toNat))
 | _ => none
theorem con145:ConOK prog 145 c145:=ConOK.goR (G:=[(225,c225),(226,k83),(230,k145),(228,c228),(214,c214),(231,k149),(218,k140),(159,k69),(221,k47),(232,kclp),(220,k46),(222,k138),(184,k111),(219,k143)]) (H:=[(9,⟨[(6,.made 5)],[]⟩),(11,⟨[(3,.slot 11)],[]⟩),(14,⟨[(10,.made 8),(11,.made 9)],[]⟩),(16,⟨[(12,.slot 20),(13,.slot 21)],[]⟩),(17,⟨[(16,.slot 20),(17,.slot 21)],[]⟩),(27,⟨[(13,.slot 23)],[]⟩),(34,⟨[(11,.made 10)],[]⟩),(36,⟨[(3,.slot 11)],[]⟩),(37,⟨[(14,.slot 23)],[]⟩)]) (.cons con225 (.cons kon83 (.cons kon145 (.cons con228 (.cons con214 (.cons kon149 (.cons kon140 (.cons kon69 (.cons kon47 (.cons konclp (.cons kon46 (.cons kon138 (.cons kon111 (.cons kon143 .nil)))))))))))))) func145 fun l ob rr hc hob => by
 unfold c145 at hc
 split at hc
 ·rename_i k x y r n g k' x' y' r' m g' i
  cases hc
  have hs:spots n g:=hob _ (by simp)
  have hs':spots m g':=hob _ (by simp)
  have i0:0 ≤ i:=hob _ (by simp)
  have i1:i < n:=hob _ (by simp)
  have e:i = (i.toNat:Int):=by omega
  refine ⟨[edA k x y r n (gx g 0) (gx g 1),edA k' x' y' r' m (gx g' 0) (gx g' 1),i64 (i.toNat:Int)],fun w I vs h => ?_,by kernel_rfl,vc145 k x y r n _ _ k' x' y' r' m _ _ i.toNat (fun i hi => (hs i hi).2) (fun i hi => (hs' i hi).2) (hob _ (by simp)) (hob _ (by simp)) (hob _ (by simp)) (hob _ (by simp)) (by omega)⟩
  rw [← e]
  obtain ⟨x1,xs,rfl,p1,p2⟩:=h.inv
  obtain ⟨x2,ys,rfl,p3,p4⟩:=p2.inv
  exact .cons (Rs_form hs _ p1) (.cons (Rs_form hs' _ p3) p4)
 ·cases hc
theorem bnd_man {v:V2} {n:Nat} {P:Nat → V2} {D:Nat → Nb}:bnd (manC v n P D) = .agg [i64 v.1.1,bo v.1.2,i64 v.2.1,bo v.2.2,.ro n 6 (tchs P D)]:=(rfl)
attribute [go_sem] bnd_man
def clipA (k x y r:Int) (n:Nat) (X Y:Nat → Int) (k' x' y' r':Int) (m:Nat) (Z T:Nat → Int):AV:=.tup [mfA (clipS k x y r n X Y k' x' y' r' m Z T),bo (clipB k x y r n X Y k' x' y' r' m Z T)]
theorem vc73 (k x y r:Int) (n:Nat) (X Y:Nat → Int) (k' x' y' r':Int) (m:Nat) (Z T:Nat → Int) (hX:∀ i,i < n → inR (X i) ∧ inR (Y i)) (hZ:∀ i,i < m → inR (Z i) ∧ inR (T i)) (hn:n ≤ 9223372036854775806) (hm:m ≤ 9223372036854775806) (h1:inR x) (h2:inR y) (h3:inR r) (h4:inR x') (h5:inR y') (h6:inR r') :
  fnVC prog [(139,c255),(140,cz35),(141,c141),(142,c142),(143,ktrn),(144,cz37),(145,c145)] [] Tryz.f73 [edA k x y r n X Y,edA k' x' y' r' m Z T] (alk (clipA k x y r n X Y k' x' y' r' m Z T)):=by
 refine fnVC_go (rs:=[.cell 4 52,.tmp 5]) rfl rfl ?_
 have hg:spots n fun i => [i64 (X i),i64 (Y i)]:=fun i hi => ⟨rfl,hX i hi⟩
 have hg':spots m fun i => [i64 (Z i),i64 (T i)]:=fun i hi => ⟨rfl,hZ i hi⟩
 simp only [go_sem,c255,cz35,c141,c142,ktrn,cz37,c145,gx_pts0,gx_pts1,hg,hg',hn,hm,h1,h2,h3,h4,h5,h6]
 simp only [forall_eq,implies_true,true_and]
 have h0:¬ (checkS k x y r n X Y = 0 ∧ checkS k' x' y' r' m Z T = 0 ∧ apS k x y r n X Y k' x' y' r' m Z T = false) → alk (clipA k x y r n X Y k' x' y' r' m Z T) (.tup [.agg [i64 0,bo false,i64 0,bo false,.v (.slice none 0 0)],bo false]):=fun h => by
  unfold clipA
  rw [show clipS k x y r n X Y k' x' y' r' m Z T = mf0 from if_neg h,show clipB k x y r n X Y k' x' y' r' m Z T = false from decide_eq_false h]
  exact alk_form alk_nil6
 refine ⟨fun h => h0 fun q => ?_,fun h => ?_⟩
 ·rcases h with (h | h) | h
  ·exact bne_iff_ne.1 h q.1
  ·exact bne_iff_ne.1 h q.2.1
  ·rw [h] at q
   exact absurd q.2.2 (by decide)
 have hA:checkS k x y r n X Y = 0:=bne_eq_false_iff_eq.1 h.1.1
 have hB:checkS k' x' y' r' m Z T = 0:=bne_eq_false_iff_eq.1 h.1.2
 have hC:=h.2
 have hall:=And.intro hA (And.intro hB hC)
 have eB:clipB k x y r n X Y k' x' y' r' m Z T = true:=decide_eq_true hall
 have eS:clipS k x y r n X Y k' x' y' r' m Z T = _:=if_pos hall
 unfold clipA
 rw [eB,eS]
 have kk:=(check_1 hA).1
 have kk':=(check_1 hB).1
 refine ⟨fun q => ?_,fun q => ⟨fun q1 => ?_,fun q1 => ⟨fun q2 => ?_,fun q2 => ?_⟩⟩⟩
 ·have k1:k = 1:=by simpa using q.1
  have k2:k' = 1:=by simpa using q.2
  rw [if_pos k1,if_pos k2]
  exact fun _ _ _ h => h
 ·have k2:k' = 1:=by simpa using q1
  have k1:¬ k = 1:=by
   rw [q1,Bool.and_true] at q
   simpa using q
  rw [if_neg k1,if_pos k2]
  exact ⟨hA,hB,k1,k2,fun _ _ _ h => h⟩
 ·have k1:k = 1:=by simpa using q2
  have k2:¬ k' = 1:=by simpa using q1
  rw [if_pos k1,if_neg k2]
  exact ⟨hB,hA,k2,k1,(pdS_in (n:=m) (X:=Z) (Y:=T) (x:=x) (y:=y) (r:=r)).1.1,(pdS_in (n:=m) (X:=Z) (Y:=T) (x:=x) (y:=y) (r:=r)).1.2,fun _ _ _ h => h⟩
 ·have k1:¬ k = 1:=by simpa using q2
  have k2:¬ k' = 1:=by simpa using q1
  have h8:=fig_n hA k1
  have eX:axS k x y r n X Y k' x' y' r' m Z T = axSt n (gP n X Y m Z T) m (gP m Z T n X Y) 2:=by
   unfold axS
   rw [if_pos ⟨hA,hB⟩,if_neg k1,if_neg k2]
  have hi:=axSt_ix2 (n:=n) (m:=m) (G:=gP n X Y m Z T) (G':=gP m Z T n X Y) (by omega)
  rw [← eX] at hi
  clear eX
  generalize axS k x y r n X Y k' x' y' r' m Z T = s at *
  rw [if_neg k1,if_neg k2]
  refine ⟨fun q3 => ?_,fun q3 => ?_⟩
  ·have e:s.1 = 0:=by simpa using q3
   rw [if_pos e]
   exact ⟨hA,hB,k1,k2,by omega,by omega,fun _ _ _ h => h⟩
  ·have e:¬ s.1 = 0:=by simpa using q3
   rw [if_neg e]
   exact ⟨hB,hA,k2,k1,by omega,by omega,(flS_in (n:=m) (X:=Z) (Y:=T) (m:=n) (Z:=X) (T:=Y) (i:=s.2.1.toNat)).1.1,(flS_in (n:=m) (X:=Z) (Y:=T) (m:=n) (Z:=X) (T:=Y) (i:=s.2.1.toNat)).1.2,fun _ _ _ h => h⟩
def c73:Con
 | [.agg [.v (.int .i64 k),.v (.int .i64 x),.v (.int .i64 y),.v (.int .i64 r),.ro n 2 g],.agg [.v (.int .i64 k'),.v (.int .i64 x'),.v (.int .i64 y'),.v (.int .i64 r'),.ro m 2 g']] => some ([spots n g,spots m g',n ≤ 9223372036854775806,m ≤ 9223372036854775806,inR x,inR y,inR r,inR x',inR y',inR r'],
   clipA k x y r n (gx g 0) (gx g 1) k' x' y' r' m (gx g' 0) (gx g' 1))
 | _ => none
theorem con73:ConOK prog 73 c73:=ConOK.goR (G:=[(139,c255),(140,cz35),(141,c141),(142,c142),(143,ktrn),(144,cz37),(145,c145)]) (H:=[]) (.cons con139 (.cons con140 (.cons con141 (.cons con142 (.cons kontrn (.cons con144 (.cons con145 .nil))))))) func73 fun l ob rr hc hob => by
 unfold c73 at hc
 split at hc
 ·rename_i k x y r n g k' x' y' r' m g'
  cases hc
  have hs:spots n g:=hob _ (by simp)
  have hs':spots m g':=hob _ (by simp)
  exact ⟨[edA k x y r n (gx g 0) (gx g 1),edA k' x' y' r' m (gx g' 0) (gx g' 1)],fun w I vs h => Rs_two (Rs_form hs) (Rs_form hs') h,by kernel_rfl,vc73 k x y r n _ _ k' x' y' r' m _ _ (fun i hi => (hs i hi).2) (fun i hi => (hs' i hi).2) (hob _ (by simp)) (hob _ (by simp)) (hob _ (by simp)) (hob _ (by simp)) (hob _ (by simp)) (hob _ (by simp)) (hob _ (by simp)) (hob _ (by simp))⟩
 ·cases hc
theorem bnd_clip {k x y r:Int} {n:Nat} {X Y:Nat → Int} {k' x' y' r':Int} {m:Nat} {Z T:Nat → Int}:clipA k x y r n X Y k' x' y' r' m Z T = .tup [.agg [i64 (clipS k x y r n X Y k' x' y' r' m Z T).nv.1.1,bo (clipS k x y r n X Y k' x' y' r' m Z T).nv.1.2,i64 (clipS k x y r n X Y k' x' y' r' m Z T).nv.2.1,bo (clipS k x y r n X Y k' x' y' r' m Z T).nv.2.2,.ro (clipS k x y r n X Y k' x' y' r' m Z T).n 6 (tchs (clipS k x y r n X Y k' x' y' r' m Z T).P (clipS k x y r n X Y k' x' y' r' m Z T).D)],bo (clipB k x y r n X Y k' x' y' r' m Z T)]:=(rfl)
attribute [go_sem] bnd_clip
theorem plC_in {k r w t:Int} {n:Nat} {X Y:Nat → Int} {at' rot:V2} {a:Nb}:inR (plC k r w t n X Y at' rot a) = True:=eq_true (by
 unfold plC
 split
 ·exact spV_inR
 ·unfold inR; omega)
def kb72:Con:=cB fun b rest => match rest with
 | [] => some ([inB b,b.n ≤ 1000],plA b.k b.r b.wd b.ht b.n b.X b.Y b.pl b.rot)
 | _ => none
theorem konb72:ConOK prog 72 kb72:=ConOK.cB (G:=[(81,c65)]) (H:=[]) (.cons con81 .nil) func72 fun b rest ob r hc hob => by
 split at hc
 ·skip
  cases hc
  have h_0:=ob0 hob
  have h_1:=ob1 hob
  obtain ⟨b1,b2,b3,b4,b5,b6,b7,b8,b9,b10,b11,b12,b13,b14,b15,b16⟩:=h_0
  have hb:inB b:=hob _ (by simp)
  refine ⟨by kernel_rfl,fnVC_go (rs:=[.cell 2 122,.tmp 3]) rfl rfl ?_⟩
  simp only [bodyC,go_sem,c65,cB_eq,cBR_eq,bodyD_lit,gx_pts0,gx_pts1,spots_can,etaN,etaV,bd_eta,b1,b2,b3,b4,b6,b7,b8,b9,b10,b11,b12,b13,b14,b15,b16,hb,h_1,plA]
  simp only [forall_eq]
  exact ⟨b5,by omega,trivial⟩
 ·cases hc
def fE (b:Bd):Int:=plErr b.k b.r b.wd b.ht b.n b.X b.Y b.pl b.rot
def fK (b:Bd):Int:=plK b.k b.r b.wd b.ht b.n b.X b.Y b.pl b.rot
def fCx (b:Bd):Int:=plC b.k b.r b.wd b.ht b.n b.X b.Y b.pl b.rot b.pl.1
def fCy (b:Bd):Int:=plC b.k b.r b.wd b.ht b.n b.X b.Y b.pl b.rot b.pl.2
def fR (b:Bd):Int:=plR b.k b.r b.wd b.ht b.n b.X b.Y b.pl b.rot
def fN (b:Bd):Nat:=plN b.k b.r b.wd b.ht b.n b.X b.Y b.pl b.rot
def fX (b:Bd):Nat → Int:=plX b.k b.wd b.ht b.X b.Y b.pl b.rot
def fY (b:Bd):Nat → Int:=plY b.k b.wd b.ht b.X b.Y b.pl b.rot
def touS (b c:Bd):Mf:=clipS (fK b) (fCx b) (fCy b) (fR b) (fN b) (fX b) (fY b) (fK c) (fCx c) (fCy c) (fR c) (fN c) (fX c) (fY c)
def touB (b c:Bd):Bool:=clipB (fK b) (fCx b) (fCy b) (fR b) (fN b) (fX b) (fY b) (fK c) (fCx c) (fCy c) (fR c) (fN c) (fX c) (fY c)
theorem clip_0 {k x y r:Int} {n:Nat} {X Y:Nat → Int} {k' x' y' r':Int} {m:Nat} {Z T:Nat → Int} (h:¬ (checkS k x y r n X Y = 0 ∧ checkS k' x' y' r' m Z T = 0 ∧ apS k x y r n X Y k' x' y' r' m Z T = false)):clipS k x y r n X Y k' x' y' r' m Z T = mf0 ∧ clipB k x y r n X Y k' x' y' r' m Z T = false:=⟨if_neg h,decide_eq_false h⟩
theorem tou_0 {b c:Bd} (h:fE b ≠ 0 ∨ fE c ≠ 0):touS b c = mf0 ∧ touB b c = false:=by
 refine clip_0 fun hq => ?_
 have q:∀ d:Bd,fE d ≠ 0 → fK d = 0:=fun d hd => if_neg hd
 rcases h with h | h
 ·have:=(check_1 hq.1).1
  rw [q b h] at this
  omega
 ·have:=(check_1 hq.2.1).1
  rw [q c h] at this
  omega
def kTou:Con
 | [.agg l,.agg l'] => some ([l = bodyC (bodyD l),l' = bodyC (bodyD l'),inB (bodyD l),inB (bodyD l'),(bodyD l).n ≤ 1000,(bodyD l').n ≤ 1000],.tup [mfA (touS (bodyD l) (bodyD l')),bo (touB (bodyD l) (bodyD l'))])
 | _ => none
theorem vc30 (b c:Bd) (hb:inB b) (hc:inB c) (hn:b.n ≤ 1000) (hm:c.n ≤ 1000) :
  fnVC prog [(72,kb72),(73,c73)] [] Tryz.f30 [.agg (bodyC b),.agg (bodyC c)] (alk (.tup [mfA (touS b c),bo (touB b c)])):=by
 refine fnVC_go (rs:=[.cell 4 52,.tmp 5]) rfl rfl ?_
 simp only [go_sem,kb72,c73,cB_eq,hb,hc,hn,hm,plA,pl_spots,plN_max,plC_in]
 simp only [forall_eq,gx_pts0,gx_pts1]
 have hr:∀ d:Bd,inB d → inR (plR d.k d.r d.wd d.ht d.n d.X d.Y d.pl d.rot):=fun d hd => by
  unfold plR
  split
  ·exact hd.2.1
  ·unfold inR; decide
 refine ⟨fun h => ?_,fun h => ⟨hr b hb,hr c hc,fun _ _ _ h => h⟩⟩
 obtain ⟨k1,k2⟩:=tou_0 (b:=b) (c:=c) (h.imp (fun q => bne_iff_ne.1 q) (fun q => bne_iff_ne.1 q))
 rw [k1,k2]
 exact alk_form alk_nil6
theorem con30:ConOK prog 30 kTou:=ConOK.goR (G:=[(72,kb72),(73,c73)]) (H:=[]) (.cons konb72 (.cons con73 .nil)) func30 fun l ob rr hc hob => by
 unfold kTou at hc
 split at hc
 ·rename_i l l'
  cases hc
  have e1:l = bodyC (bodyD l):=hob _ (by simp)
  have e2:l' = bodyC (bodyD l'):=hob _ (by simp)
  refine ⟨[.agg (bodyC (bodyD l)),.agg (bodyC (bodyD l'))],fun w I vs h => by rw [← e1,← e2]; exact h,by kernel_rfl,vc30 (bodyD l) (bodyD l') (hob _ (by simp)) (hob _ (by simp)) (hob _ (by simp)) (hob _ (by simp))⟩
 ·cases hc
def cntS (b c:Bd) (i j:Int):Ct:=⟨i,j,(touS b c).nv,(touS b c).n,(touS b c).P,(touS b c).D,(0,false),(0,false),(0,false),(0,false)⟩
def kCnt:Con:=cL fun N B rest => match rest with
 | [.v (.int .i64 a),.v (.int .i64 b)] => some ([0 ≤ a,a < N,0 ≤ b,b < N,inBs N B],.tup [.agg (contC (cntS (B a.toNat) (B b.toNat) a b)),bo (touB (B a.toNat) (B b.toNat))])
 | _ => none
theorem con16:ConOK prog 16 kCnt:=ConOK.cL (G:=[(30,kTou)]) (H:=[(1,⟨[(13,.made 12)],[]⟩)]) (.cons con30 .nil) func16 fun N B rest ob rr hc hob => by
 split at hc
 ·rename_i a b
  cases hc
  have h1:0 ≤ a:=hob _ (by simp)
  have h2:a < N:=hob _ (by simp)
  have h3:0 ≤ b:=hob _ (by simp)
  have h4:b < N:=hob _ (by simp)
  have hB:inBs N B:=hob _ (by simp)
  have k1:=hB a.toNat (by omega)
  have k2:=hB b.toNat (by omega)
  clear hob
  refine ⟨by kernel_rfl,fnVC_go (rs:=[.cell 6 55,.tmp 7]) rfl rfl ?_⟩
  simp only [go_sem,kTou,mfA,manC,bsC_at,h1,h2,h3,h4,k1,k2]
  intro z hz
  subst hz
  rfl
 ·cases hc
theorem cnt_in {b c:Bd} {i j:Int} (hi:inR i) (hj:inR j):inC (cntS b c i j) ∧ (cntS b c i j).n ≤ 2:=by
 have h:inM (touS b c):=clipS_in
 have hz:inR 0:=by unfold inR; decide
 exact ⟨⟨hi,hj,h.1.1,h.1.2,fun q _ => ⟨(h.2.2 q).1.1,(h.2.2 q).1.2,(h.2.2 q).2⟩,hz,hz,hz,hz⟩,h.2.1⟩
def hitN (a b:Bd) (x n:V2) (pu:Nb):Nb:=nPos (nAdd pu (sliS a b x n))
def apaA (a:Bd) (x n:V2) (d:Nb):Bd:=pshS a x (vScale n (nNeg d))
def apaB (b:Bd) (x n:V2) (d:Nb):Bd:=pshS b x (vScale n d)
def hitY (a b:Bd) (x t:V2) (nx ru:Nb):Nb:=nCl (nAdd ru (sliS a b x t)) (nNeg (nMul nx (nRat 1 2))) (nMul nx (nRat 1 2))
structure Hr where
 a:Bd
 b:Bd
 p:Nb
 r:Nb
def hitR (a b:Bd) (x n:V2) (pu ru:Nb):Hr:=
 if (sliK a b x n).1 = 0 then ⟨a,b,pu,ru⟩ else
 let nx:=hitN a b x n pu
 let a1:=apaA a x n (nSub nx pu)
 let b1:=apaB b x n (nSub nx pu)
 let t:=vPerp n
 if (sliK a1 b1 x t).1 = 0 then ⟨a1,b1,nx,ru⟩ else
 let ry:=hitY a1 b1 x t nx ru
 ⟨apaA a1 x t (nSub ry ru),apaB b1 x t (nSub ry ru),nx,ry⟩
structure Hs where
 a:Bd
 b:Bd
 c:Ct
def hit0 (a b:Bd) (c:Ct):Hs:=⟨(hitR a b (c.P 0) c.nv c.p0 c.r0).a,(hitR a b (c.P 0) c.nv c.p0 c.r0).b,{ c with p0:=(hitR a b (c.P 0) c.nv c.p0 c.r0).p,r0:=(hitR a b (c.P 0) c.nv c.p0 c.r0).r }⟩
def hit1 (a b:Bd) (c:Ct):Hs:=⟨(hitR a b (c.P 1) c.nv c.p1 c.r1).a,(hitR a b (c.P 1) c.nv c.p1 c.r1).b,{ c with p1:=(hitR a b (c.P 1) c.nv c.p1 c.r1).p,r1:=(hitR a b (c.P 1) c.nv c.p1 c.r1).r }⟩
def hitI (a b:Bd) (c:Ct):Nat → Hs
 | 0 => ⟨a,b,c⟩
 | 1 => hit0 a b c
 | _ + 2 => hit1 (hit0 a b c).a (hit0 a b c).b (hit0 a b c).c
def hitS (a b:Bd) (c:Ct):Hs:=hitI a b c (min 2 c.n)
def hitT (N:Nat) (B:Nat → Bd) (c:Ct):Nat → Bd:=
 if apB N c.a c.b then updB (updB B c.a.toNat (hitS (B c.a.toNat) (B c.b.toNat) c).a) c.b.toNat (hitS (B c.a.toNat) (B c.b.toNat) c).b else B
def hitC (N:Nat) (B:Nat → Bd) (c:Ct):Ct:=if apB N c.a c.b then (hitS (B c.a.toNat) (B c.b.toNat) c).c else c
def hitF:Nat → (Nat → List AV) → List AV → List AV → Option (List Prop × AV × (Nat → List AV) × List AV)
 | N,get,l,[] => some ([get = bsC (bsD get),inBs N (bsD get),N ≤ 1000,l = contC (contD l),inC (contD l),(contD l).n ≤ 1000],.tup [],bsC (hitT N (bsD get) (contD l)),contC (hitC N (bsD get) (contD l)))
 | _,_,_,_ => none
theorem fitF_T {K N M L sz:Nat} {σ:Names} {tp ty:TypeId} {get:Nat → List AV} (hK:K < L) (hc:∀ i,i < N → cleanCs (get i) = true):fitF L M σ (famT K N sz tp ty get) (some (famT K N sz tp ty get)):=fun f => by
 cases f with
 | zero =>
  refine ⟨rfl,rfl,rfl,rfl,rfl,fun j hj => ⟨⟨rfl,hK⟩,trivial⟩⟩
 | succ f =>
  refine ⟨rfl,rfl,rfl,rfl,rfl,fun j hj => ?_⟩
  simp only [famT] at hj ⊢
  split at hj
  ·rename_i hf
   have:j = 0:=by omega
   subst this
   exact fitL_clean (hc f hf)
  ·omega
theorem cleanCs_of:∀ {l:List AV},(∀ c ∈ l,cleanC c = true) → cleanCs l = true
 | [],_ => rfl
 | a :: l,h => by
  simp only [cleanCs,Bool.and_eq_true]
  exact ⟨h a (by simp),cleanCs_of fun c hc => h c (by simp [hc])⟩
theorem fitF_cl {N M:Nat} {σ:Names} {fam:Fam} (h:famCl fam):fitF N M σ fam (some fam):=fun f =>
 ⟨rfl,rfl,rfl,(h f).1,(h f).1,fun j hj => fitL_clean (cleanCs_of ((h f).2 j hj))⟩
theorem nb_f {x:Int} (h:false = !(x == 0)):x = 0:=by simpa using h
theorem nb_t {x:Int} (h:true = !(x == 0)):¬ x = 0:=by simpa using h
theorem iSli {a b:Bd} {x n:V2}:inR (sliS a b x n).1 = True:=iDiv
theorem hitR_b {a b:Bd} {x n:V2} {pu ru:Nb} (h:¬ (sliK a b x n).1 = 0) (k:(sliK (apaA a x n (nSub (hitN a b x n pu) pu)) (apaB b x n (nSub (hitN a b x n pu) pu)) x (vPerp n)).1 = 0) :
  hitR a b x n pu ru = ⟨apaA a x n (nSub (hitN a b x n pu) pu),apaB b x n (nSub (hitN a b x n pu) pu),hitN a b x n pu,ru⟩:=by
 unfold hitR; rw [if_neg h]; dsimp only; rw [if_pos k]
theorem hitR_c {a b:Bd} {x n:V2} {pu ru:Nb} (h:¬ (sliK a b x n).1 = 0) (k:¬ (sliK (apaA a x n (nSub (hitN a b x n pu) pu)) (apaB b x n (nSub (hitN a b x n pu) pu)) x (vPerp n)).1 = 0) :
  hitR a b x n pu ru = (let a1:=apaA a x n (nSub (hitN a b x n pu) pu); let b1:=apaB b x n (nSub (hitN a b x n pu) pu); let nx:=hitN a b x n pu; let t:=vPerp n; let ry:=hitY a1 b1 x t nx ru; ⟨apaA a1 x t (nSub ry ru),apaB b1 x t (nSub ry ru),nx,ry⟩):=by
 unfold hitR; rw [if_neg h]; dsimp only; rw [if_neg k]
theorem hitR_in {a b:Bd} {x n:V2} {pu ru:Nb} (ha:inB a) (hb:inB b) (hp:inR pu.1) (hr:inR ru.1):inB (hitR a b x n pu ru).a ∧ inB (hitR a b x n pu ru).b ∧ inR (hitR a b x n pu ru).p.1 ∧ inR (hitR a b x n pu ru).r.1:=by
 unfold hitR
 split
 ·exact ⟨ha,hb,hp,hr⟩
 ·dsimp only
  have k1:inR (hitN a b x n pu).1:=of_eq_true (iPos (of_eq_true iAdd))
  have k2:=inB_psh (p:=x) (j:=vScale n (nNeg (nSub (hitN a b x n pu) pu))) ha
  have k3:=inB_psh (p:=x) (j:=vScale n (nSub (hitN a b x n pu) pu)) hb
  split
  ·exact ⟨k2,k3,k1,hr⟩
  ·exact ⟨inB_psh k2,inB_psh k3,k1,of_eq_true (iCl (of_eq_true iAdd) (of_eq_true (iNeg (of_eq_true iMul))) (of_eq_true iMul))⟩
theorem hitR_n {a b:Bd} {x n:V2} {pu ru:Nb}:(hitR a b x n pu ru).a.n = a.n ∧ (hitR a b x n pu ru).b.n = b.n:=by
 unfold hitR
 split
 ·exact ⟨rfl,rfl⟩
 ·dsimp only
  split
  ·exact ⟨psh_n,psh_n⟩
  ·exact ⟨psh_n.trans psh_n,psh_n.trans psh_n⟩
theorem hit0_in {a b:Bd} {c:Ct} (ha:inB a) (hb:inB b) (hc:inC c):inB (hit0 a b c).a ∧ inB (hit0 a b c).b ∧ inC (hit0 a b c).c:=by
 obtain ⟨c1,c2,c3,c4,c5,c6,c7,c8,c9⟩:=hc
 obtain ⟨h1,h2,h3,h4⟩:=hitR_in (x:=c.P 0) (n:=c.nv) ha hb c6 c8
 exact ⟨h1,h2,c1,c2,c3,c4,c5,h3,c7,h4,c9⟩
theorem hit1_in {a b:Bd} {c:Ct} (ha:inB a) (hb:inB b) (hc:inC c):inB (hit1 a b c).a ∧ inB (hit1 a b c).b ∧ inC (hit1 a b c).c:=by
 obtain ⟨c1,c2,c3,c4,c5,c6,c7,c8,c9⟩:=hc
 obtain ⟨h1,h2,h3,h4⟩:=hitR_in (x:=c.P 1) (n:=c.nv) ha hb c7 c9
 exact ⟨h1,h2,c1,c2,c3,c4,c5,c6,h3,c8,h4⟩
theorem hitI_in {a b:Bd} {c:Ct} (ha:inB a) (hb:inB b) (hc:inC c):∀ i,inB (hitI a b c i).a ∧ inB (hitI a b c i).b ∧ inC (hitI a b c i).c
 | 0 => ⟨ha,hb,hc⟩
 | 1 => hit0_in ha hb hc
 | _ + 2 => by
  obtain ⟨h1,h2,h3⟩:=hit0_in ha hb hc
  exact hit1_in h1 h2 h3
theorem hitI_n {a b:Bd} {c:Ct}:∀ i,(hitI a b c i).a.n = a.n ∧ (hitI a b c i).b.n = b.n ∧ (hitI a b c i).c.n = c.n ∧ (hitI a b c i).c.nv = c.nv ∧ (hitI a b c i).c.a = c.a ∧ (hitI a b c i).c.b = c.b ∧ (hitI a b c i).c.P = c.P ∧ (hitI a b c i).c.D = c.D
 | 0 => ⟨rfl,rfl,rfl,rfl,rfl,rfl,rfl,rfl⟩
 | 1 => ⟨hitR_n.1,hitR_n.2,rfl,rfl,rfl,rfl,rfl,rfl⟩
 | _ + 2 => ⟨hitR_n.1.trans hitR_n.1,hitR_n.2.trans hitR_n.2,rfl,rfl,rfl,rfl,rfl,rfl⟩
def contR (c:Ct):List AV:=contC c
def mHit:MCon:=mcTQ 27 15 92 96 hitF
theorem con59m:MConOK prog 59 mHit:=MConOK.mcTQ (G:=[(107,.wr mTwo),(108,kw160p),(109,kSli),(88,kw153),(49,k214),(111,k160),(110,.wr mApa),(52,k132),(47,k129),(112,k179),(102,k171)]) (H:=[(0,⟨[(9,.call)],[]⟩),(11,⟨[(11,.slot 1)],[]⟩),(12,⟨[(13,.call)],[]⟩),(15,⟨[(9,.made 8)],[]⟩),(17,⟨[(12,.slot 1)],[]⟩),(18,⟨[(13,.call)],[]⟩)]) (.mcons con107m (.cons konw160p (.cons con109 (.cons konw153 (.cons kon214 (.cons kon160 (.mcons con110m (.cons kon132 (.cons kon129 (.cons kon179 (.cons kon171 .nil))))))))))) func59 fun N get l rest ob val get' cs' hF hob hcl hcl2 => by
 unfold hitF at hF
 split at hF
 ·cases hF
  have h1:get = bsC (bsD get):=hob _ (by simp)
  have hB:inBs N (bsD get):=hob _ (by simp)
  have hN:N ≤ 1000:=hob _ (by simp)
  have h2:l = contC (contD l):=hob _ (by simp)
  have hc:inC (contD l):=hob _ (by simp)
  have hn:(contD l).n ≤ 1000:=hob _ (by simp)
  clear hob
  generalize bsD get = B at *
  generalize contD l = c at *
  subst h1 h2
  refine ⟨by simp,rfl,fun i _ => rfl,rfl,by kernel_rfl,fun fam f q hq hs hfc => bodyM_go (rs:=[]) rfl rfl ?_⟩
  have hg:∀ f,(fam f).g = none:=fun f => (hfc f).1
  obtain ⟨c1,c2,c3,c4,c5,c6,c7,c8,c9⟩:=id hc
  simp only [contC,go_sem,kw160p,kSli,kw153,k214,k160,k132,k129,k179,k171,mTwo,tchs_at,tchC,loadP_E,storeP_E,← hs,hg,hq,c3,c4]
  have hno:¬ apB N c.a c.b → hitT N B c = B ∧ hitC N B c = c:=fun h => ⟨if_neg h,if_neg h⟩
  refine ⟨fun hap z hz => ⟨hN,(fun h => by rw [hz] at h; cases h),fun _ z1 hz1 => ?_⟩,fun hap z hz => ⟨hN,(fun h => ?_),fun h => (by rw [hz] at h; cases h)⟩⟩
  rotate_left
  ·obtain ⟨e1,e2⟩:=hno hap
   rw [e1,e2]
   exact ⟨rfl,rfl⟩
  obtain ⟨a1,a2,a3,a4,a5⟩:=id hap
  have hz1':z1 = ((min 2 c.n:Nat):Int):=by rw [hz1]; omega
  have eT:hitT N B c = updB (updB B c.a.toNat (hitS (B c.a.toNat) (B c.b.toNat) c).a) c.b.toNat (hitS (B c.a.toNat) (B c.b.toNat) c).b:=if_pos hap
  have eC:hitC N B c = (hitS (B c.a.toNat) (B c.b.toNat) c).c:=if_pos hap
  obtain ⟨i1,i2⟩:=hB c.a.toNat (by omega)
  obtain ⟨i3,i4⟩:=hB c.b.toNat (by omega)
  have hA:c.a.toNat < N:=by omega
  have hA2:c.b.toNat < N:=by omega
  have hne:c.a.toNat ≠ c.b.toNat:=by omega
  rw [eT,eC]
  unfold hitS
  generalize c.a.toNat = A at *
  generalize c.b.toNat = Q at *
  generalize hM:min 2 c.n = M at *
  subst hz1'
  have u1:∀ B x y,updB (updB B A x) Q y A = x:=fun B x y => by rw [updB_off hne,updB_at]
  have u2:∀ B x y u v,updB (updB (updB (updB B A x) Q y) A u) Q v = updB (updB B A u) Q v:=fun B x y u v => by
   funext j
   unfold updB
   by_cases h1:j = Q
   ·simp [h1]
   ·by_cases h2:j = A <;> simp [h1,h2]
  obtain ⟨S,hS⟩:∃ S:Nat → Hs,S = hitI (B A) (B Q) c:=⟨_,rfl⟩
  rw [← hS]
  have s0:S 0 = ⟨B A,B Q,c⟩:=by rw [hS]; rfl
  have u0:updB (updB B A (B A)) Q (B Q) = B:=by
   funext j
   unfold updB
   by_cases h1:j = Q
   ·simp [h1]
   ·by_cases h2:j = A
    ·subst h2; simp [h1]
    ·simp [h1,h2]
  have hff:∀ d:Ct,famCl (famE fam f q (contC d)):=fun d => famCl_E hfc (cleanCs_mem rfl)
  refine loopC_go (fun (i:Nat) => i ≤ M) (fun i => M - i) (fun i => [(45,i64 (i:Int))]) (fun i => [(0,famT 0 N 27 92 96 (bsC (updB (updB B A (S i).a) Q (S i).b))),(1,famE fam f q (contR (S i).c))]) [30,26] [46,47,9,48,49,50,51,52,53,54,55,56,10,58,59,60,61,62,57,63,64,11,12,65,66,67,68,69,70,71,72,13,73,74,75,76,77,78,79,80,81,82,83,84,85,86,87,88,89,90,91,92,93,94,95,96,97,99,100,101,102,103,98,104,105,12,106,107,108,109,110,111,112,113,114,115,14,116,117,118,119,120,121,122,123,124,125,126,127,128,129,130,131,132,133,134,135,136,137,138,139,140,141,142,143,144,145,146,147,148,45] 0 (by kernel_rfl) ?_ (Nat.zero_le _) ?_ ?_
  ·intro x _; simp [goodNames,asg]
  ·simp only [go_sem,s0,u0]
   exact ⟨fitF_T (by omega) fun _ _ => rfl,fitF_cl (hff c)⟩
  intro i hi
  match i,hi with
  | 0,hi =>
   have e0:contR (S 0).c = contC c:=by rw [s0]; rfl
   rw [e0]
   have en:S 1 = hit0 (B A) (B Q) (c):=by rw [hS]; rfl
   by_cases hM0:0 < M
   ·obtain ⟨t1,t2,t3⟩:=c5 0 (by omega)
    simp only [contC,go_sem,kw160p,kSli,kw153,k214,k160,k132,k129,k179,k171,tchs_at,tchC,loadP_E,storeP_E,← hs,hg,hq,c3,c4,c6,c8,s0,mApa,apaF,u0,u1,u2,updB_at,i1,i3,hA,hA2,iSli,inB_psh,t1,t2]
    have fin:∀ s:Hs,S 1 = s → fitF 40 40 [] (famT 0 N 27 92 96 (bsC (updB (updB B A (S 1).a) Q (S 1).b))) (some (famT 0 N 27 92 96 (bsC (updB (updB B A s.a) Q s.b)))) ∧ fitF 40 40 [] (famE fam f q (contR (S 1).c)) (some (famE fam f q (contC s.c))):=fun s hs => by
     rw [hs]; exact ⟨fitF_T (by omega) fun _ _ => rfl,fitF_cl (hff s.c)⟩
    have w1:IntKind.i64.wrap 1 = ((1:Nat):Int):=by decide
    have hAQ:A + 1 ≠ Q + 1:=by omega
    refine ⟨fun h => ⟨by omega,fun y hy => ⟨fun y0 v hv => ?_,fun y0 => ⟨hAQ,fun w hw => ⟨of_eq_true (iWh c3),fun w0 v hv => ?_,fun w0 => ⟨hAQ,of_eq_true (iWh c3),fun v hv => ?_⟩⟩⟩⟩⟩,fun h => absurd h (by omega)⟩
    ·have hk:(sliK (B A) (B Q) (c.P 0) c.nv).1 = 0:=by rw [y0] at hy; simpa using hy
     have es:S 1 = ⟨B A,B Q,c⟩:=by rw [en]; unfold hit0; rw [show hitR (B A) (B Q) (c.P 0) c.nv c.p0 c.r0 = ⟨B A,B Q,c.p0,c.r0⟩ from if_pos hk]
     exact ⟨1,by omega,by omega,by rw [hv,w1],by have q:=fin _ es; rw [u0] at q; exact q⟩
    ·have hk:¬ (sliK (B A) (B Q) (c.P 0) c.nv).1 = 0:=by rw [y0] at hy; simpa using hy
     have hk2:(sliK (apaA (B A) (c.P 0) c.nv (nSub (hitN (B A) (B Q) (c.P 0) c.nv c.p0) c.p0)) (apaB (B Q) (c.P 0) c.nv (nSub (hitN (B A) (B Q) (c.P 0) c.nv c.p0) c.p0)) (c.P 0) (vPerp c.nv)).1 = 0:=nb_f (w0.symm.trans hw)
     have es:=en
     unfold hit0 at es
     rw [hitR_b hk hk2] at es
     exact ⟨1,by omega,by omega,by rw [hv,w1],fin _ es⟩
    ·have hk:¬ (sliK (B A) (B Q) (c.P 0) c.nv).1 = 0:=by rw [y0] at hy; simpa using hy
     have hk2:¬ (sliK (apaA (B A) (c.P 0) c.nv (nSub (hitN (B A) (B Q) (c.P 0) c.nv c.p0) c.p0)) (apaB (B Q) (c.P 0) c.nv (nSub (hitN (B A) (B Q) (c.P 0) c.nv c.p0) c.p0)) (c.P 0) (vPerp c.nv)).1 = 0:=nb_t (w0.symm.trans hw)
     have es:=en
     unfold hit0 at es
     rw [hitR_c hk hk2] at es
     exact ⟨1,by omega,by omega,by rw [hv,w1],fin _ es⟩
   ·simp only [contC,go_sem,kw160p,kSli,kw153,k214,k160,k132,k129,k179,k171,tchs_at,tchC,loadP_E,storeP_E,← hs,hg,hq,c3,c4,c6,c8,s0,mApa,apaF,u0,u1,u2,updB_at,i1,i3,hA,hA2,iSli,inB_psh]
    refine ⟨fun h => absurd h (by omega),fun h => ?_⟩
    have hMe:M = 0:=by omega
    rw [hMe,s0]
    exact ⟨by dsimp only; rw [u0],rfl⟩
  | 1,hi =>
   have e1:S 1 = hit0 (B A) (B Q) c:=by rw [hS]; rfl
   have e2:S 2 = hit1 (S 1).a (S 1).b (S 1).c:=by rw [hS]; rfl
   obtain ⟨j1,j3,j5⟩:=hit0_in i1 i3 hc
   rw [← e1] at j1 j3 j5
   have k1:(S 1).c.nv = c.nv:=by rw [e1]; rfl
   have k2:(S 1).c.n = c.n:=by rw [e1]; rfl
   clear e1
   generalize hs1:S 1 = s at *
   have e0:contR s.c = contC s.c:=rfl
   rw [e0]
   obtain ⟨d1,d2,d3,d4,d5,d6,d7,d8,d9⟩:=id j5
   rw [k2] at d5
   have en:S 2 = hit1 (s.a) (s.b) (s.c):=e2
   by_cases hM0:1 < M
   ·obtain ⟨t1,t2,t3⟩:=d5 1 (by omega)
    simp only [contC,go_sem,kw160p,kSli,kw153,k214,k160,k132,k129,k179,k171,tchs_at,tchC,loadP_E,storeP_E,← hs,hg,hq,d3,d4,d7,d9,← k1,mApa,apaF,u0,u1,u2,updB_at,j1,j3,hA,hA2,iSli,inB_psh,t1,t2]
    have fin:∀ s:Hs,S 2 = s → fitF 40 40 [] (famT 0 N 27 92 96 (bsC (updB (updB B A (S 2).a) Q (S 2).b))) (some (famT 0 N 27 92 96 (bsC (updB (updB B A s.a) Q s.b)))) ∧ fitF 40 40 [] (famE fam f q (contR (S 2).c)) (some (famE fam f q (contC s.c))):=fun s hs => by
     rw [hs]; exact ⟨fitF_T (by omega) fun _ _ => rfl,fitF_cl (hff s.c)⟩
    have w1:IntKind.i64.wrap 2 = ((2:Nat):Int):=by decide
    have hAQ:A + 1 ≠ Q + 1:=by omega
    refine ⟨fun h => ⟨by omega,fun y hy => ⟨fun y0 v hv => ?_,fun y0 => ⟨hAQ,fun w hw => ⟨of_eq_true (iWh d3),fun w0 v hv => ?_,fun w0 => ⟨hAQ,of_eq_true (iWh d3),fun v hv => ?_⟩⟩⟩⟩⟩,fun h => absurd h (by omega)⟩
    ·have hk:(sliK (s.a) (s.b) (s.c.P 1) s.c.nv).1 = 0:=by rw [y0] at hy; simpa using hy
     have es:S 2 = ⟨s.a,s.b,s.c⟩:=by rw [en]; unfold hit1; rw [show hitR (s.a) (s.b) (s.c.P 1) s.c.nv s.c.p1 s.c.r1 = ⟨s.a,s.b,s.c.p1,s.c.r1⟩ from if_pos hk]
     exact ⟨2,by omega,by omega,by rw [hv,w1],fin _ es⟩
    ·have hk:¬ (sliK (s.a) (s.b) (s.c.P 1) s.c.nv).1 = 0:=by rw [y0] at hy; simpa using hy
     have hk2:(sliK (apaA (s.a) (s.c.P 1) s.c.nv (nSub (hitN (s.a) (s.b) (s.c.P 1) s.c.nv s.c.p1) s.c.p1)) (apaB (s.b) (s.c.P 1) s.c.nv (nSub (hitN (s.a) (s.b) (s.c.P 1) s.c.nv s.c.p1) s.c.p1)) (s.c.P 1) (vPerp s.c.nv)).1 = 0:=nb_f (w0.symm.trans hw)
     have es:=en
     unfold hit1 at es
     rw [hitR_b hk hk2] at es
     exact ⟨2,by omega,by omega,by rw [hv,w1],fin _ es⟩
    ·have hk:¬ (sliK (s.a) (s.b) (s.c.P 1) s.c.nv).1 = 0:=by rw [y0] at hy; simpa using hy
     have hk2:¬ (sliK (apaA (s.a) (s.c.P 1) s.c.nv (nSub (hitN (s.a) (s.b) (s.c.P 1) s.c.nv s.c.p1) s.c.p1)) (apaB (s.b) (s.c.P 1) s.c.nv (nSub (hitN (s.a) (s.b) (s.c.P 1) s.c.nv s.c.p1) s.c.p1)) (s.c.P 1) (vPerp s.c.nv)).1 = 0:=nb_t (w0.symm.trans hw)
     have es:=en
     unfold hit1 at es
     rw [hitR_c hk hk2] at es
     exact ⟨2,by omega,by omega,by rw [hv,w1],fin _ es⟩
   ·simp only [contC,go_sem,kw160p,kSli,kw153,k214,k160,k132,k129,k179,k171,tchs_at,tchC,loadP_E,storeP_E,← hs,hg,hq,d3,d4,d7,d9,← k1,mApa,apaF,u0,u1,u2,updB_at,j1,j3,hA,hA2,iSli,inB_psh]
    refine ⟨fun h => absurd h (by omega),fun h => ?_⟩
    have hMe:M = 1:=by omega
    rw [hMe,hs1]
    exact ⟨rfl,rfl⟩
  | i + 2,hi =>
   have e:i = 0:=by omega
   subst e
   have hMe:M = 2:=by omega
   have k2:(S (0 + 2)).c.n = c.n:=by rw [hS]; rfl
   have e0:contR (S (0 + 2)).c = contC (S (0 + 2)).c:=rfl
   rw [e0,hMe]
   generalize S (0 + 2) = s at *
   simp only [contC,go_sem,kw160p,kSli,kw153,k214,k160,k132,k129,k179,k171,tchs_at,tchC,loadP_E,storeP_E,← hs,hg,hq]
   exact fun h => h.elim
 ·cases hF
theorem inBs_upd {N:Nat} {B:Nat → Bd} {i j:Nat} {u v:Bd} (h:inBs N B) (hu:inB u) (hu2:u.n ≤ 1000) (hv:inB v) (hv2:v.n ≤ 1000):inBs N (updB (updB B i u) j v):=fun k hk => by
 unfold updB
 split
 ·exact ⟨hv,hv2⟩
 ·split
  ·exact ⟨hu,hu2⟩
  ·exact h k hk
theorem hitT_in {N:Nat} {B:Nat → Bd} {c:Ct} (h:inBs N B) (hc:inC c):inBs N (hitT N B c):=by
 unfold hitT
 split
 ·rename_i hap
  unfold apB at hap
  obtain ⟨i1,i2⟩:=h c.a.toNat (by omega)
  obtain ⟨i3,i4⟩:=h c.b.toNat (by omega)
  obtain ⟨h1,h2,h3⟩:=hitI_in i1 i3 hc (min 2 c.n)
  obtain ⟨k1,k2,k3⟩:=hitI_n (a:=B c.a.toNat) (b:=B c.b.toNat) (c:=c) (min 2 c.n)
  exact inBs_upd h h1 (by unfold hitS; rw [k1]; exact i2) h2 (by unfold hitS; rw [k2]; exact i4)
 ·exact h
theorem hitC_in {N:Nat} {B:Nat → Bd} {c:Ct} (h:inBs N B) (hc:inC c):inC (hitC N B c):=by
 unfold hitC
 split
 ·rename_i hap
  unfold apB at hap
  obtain ⟨i1,i2⟩:=h c.a.toNat (by omega)
  obtain ⟨i3,i4⟩:=h c.b.toNat (by omega)
  exact (hitI_in i1 i3 hc (min 2 c.n)).2.2
 ·exact hc
theorem hitC_n {N:Nat} {B:Nat → Bd} {c:Ct}:(hitC N B c).n = c.n:=by
 unfold hitC
 split
 ·exact (hitI_n (min 2 c.n)).2.2.1
 ·rfl
def flt (v:V2):Bool:=whF v.1.1 v.1.2 || whF v.2.1 v.2.2
def solN (a b c d:Nb):Nb:=nDot a d (nNeg b) c
def solX (a b c d:Nb) (v:V2):V2:=(nDiv (nDot v.1 d (nNeg b) v.2) (solN a b c d),nDiv (nDot a v.2 (nNeg v.1) c) (solN a b c d))
def solS (a b c d:Nb) (v:V2):Bool × V2:=if (solN a b c d).2 = true ∨ (solN a b c d).1 = 0 then (false,(0,false),(0,false)) else if flt (solX a b c d v) = true then (false,(0,false),(0,false)) else (true,solX a b c d v)
def ks283:Con
 | [.agg [.v (.int .i64 a),.v (.bool e)],.agg [.v (.int .i64 b),.v (.bool f)],.agg [.v (.int .i64 c),.v (.bool g)],.agg [.v (.int .i64 d),.v (.bool h)],.agg [.v (.int .i64 x),.v (.bool k),.v (.int .i64 y),.v (.bool l)]] => some ([inR a,inR b,inR c,inR d,inR x,inR y],unA (solS (a,e) (b,f) (c,g) (d,h) ((x,k),(y,l))))
 | _ => none
theorem kons283:ConOK prog 247 ks283:=ConOK.of (G:=[(112,k179),(129,k125),(78,k168),(128,c128)]) (H:=[(1,⟨[(7,.made 6)],[]⟩),(4,⟨[(22,.made 21)],[]⟩)]) (.cons kon179 (.cons kon125 (.cons kon168 (.cons con128 .nil)))) func247 fun l ob rr hc hob => by
 unfold ks283 at hc
 split at hc
 ·rename_i a e b f c g d h x k y l
  cases hc
  have h_0:=ob0 hob
  have h_1:=ob1 hob
  have h_2:=ob2 hob
  have h_3:=ob3 hob
  have h_4:=ob4 hob
  have h_5:=ob5 hob
  refine ⟨by kernel_rfl,fnVC_go (rs:=[.cell 10 29,.tmp 11]) rfl rfl ?_⟩
  simp only [go_sem,k179,k125,k168,c128,iMul,iDiv,iInt,iAdd,iSub,iRat,iDot,iHyp,iSq,iNeg,iPos,iAbs,iMx,iMn,iCl,iWh,iLoc1,iLoc2,iVAdd1,iVAdd2,iVSub1,iVSub2,iScale1,iScale2,iVDot,iVCross,iLen,iOf1,iOf2,iUnit1,iUnit2,h_0,h_1,h_2,h_3,h_4,h_5]
  refine ⟨fun q => ?_,fun q z hz => ?_⟩
  ·unfold solS
   rw [if_pos (show (solN (a,e) (b,f) (c,g) (d,h)).2 = true ∨ (solN (a,e) (b,f) (c,g) (d,h)).1 = 0 from q.imp id beq_iff_eq.1)]
   rfl
  ·rw [vfS_one] at hz
   have hz:z = flt (solX (a,e) (b,f) (c,g) (d,h) ((x,k),(y,l))):=hz
   have q1:¬ ((solN (a,e) (b,f) (c,g) (d,h)).2 = true ∨ (solN (a,e) (b,f) (c,g) (d,h)).1 = 0):=by
    rintro (k1 | k1)
    ·rw [show (solN (a,e) (b,f) (c,g) (d,h)).2 = false from q.1] at k1; cases k1
    ·exact beq_eq_false_iff_ne.1 q.2 k1
   refine ⟨fun k1 => ?_,fun k1 => ?_⟩
   ·unfold solS
    rw [if_neg q1,if_pos (hz.symm.trans k1)]
    rfl
   ·unfold solS
    rw [if_neg q1,if_neg (by rw [hz.symm.trans k1]; simp)]
    rfl
 ·cases hc
def mxA (m:Nb × Nb × Nb):AV:=.agg [i64 m.1.1,bo m.1.2,i64 m.2.1.1,bo m.2.1.2,i64 m.2.2.1,bo m.2.2.2]
def matS (b:Bd) (p:V2):Nb × Nb × Nb:=(nAdd b.m (nMul b.i (nMul (vSub p b.pl).2 (vSub p b.pl).2)),nNeg (nMul b.i (nMul (vSub p b.pl).1 (vSub p b.pl).2)),nAdd b.m (nMul b.i (nMul (vSub p b.pl).1 (vSub p b.pl).1)))
def kb170:Con:=cBR fun b rest => match rest with
 | [.agg [.v (.int .i64 x),.v (.bool e),.v (.int .i64 y),.v (.bool f)]] => some ([inB b,inR x,inR y],mxA (matS b ((x,e),(y,f))))
 | _ => none
theorem konb170:ConOK prog 170 kb170:=ConOK.cBR (G:=[(86,kw175),(47,k129),(88,kw153),(112,k179)]) (H:=[(1,⟨[(18,.made 15),(19,.made 16),(20,.made 17)],[(8,[.made 15]),(14,[.made 15,.made 16])]⟩),(2,⟨[(27,.slot 4)],[]⟩)]) (.cons konw175 (.cons kon129 (.cons konw153 (.cons kon179 .nil)))) func170 fun b rest ob r hc hob => by
 split at hc
 ·rename_i x e y f
  cases hc
  have h_0:=ob0 hob
  have h_1:=ob1 hob
  have h_2:=ob2 hob
  obtain ⟨b1,b2,b3,b4,b5,b6,b7,b8,b9,b10,b11,b12,b13,b14,b15,b16⟩:=h_0
  have hb:inB b:=hob _ (by simp)
  refine ⟨by kernel_rfl,fnVC_go (rs:=[.cell 4 222]) rfl rfl ?_⟩
  simp only [bodyC,go_sem,kw175,k129,kw153,k179,cB_eq,cBR_eq,bodyD_lit,gx_pts0,gx_pts1,spots_can,etaN,etaV,bd_eta,b1,b2,b3,b4,b6,b7,b8,b9,b10,b11,b12,b13,b14,b15,b16,hb,h_1,h_2]
  rfl
 ·cases hc
def ks249:Con
 | [.agg [.v (.int .i64 a),.v (.bool e),.v (.int .i64 b),.v (.bool f),.v (.int .i64 c),.v (.bool g)],.agg [.v (.int .i64 x),.v (.bool k),.v (.int .i64 y),.v (.bool l)]] => some ([inR a,inR b,inR c,inR x,inR y],unA (solS (a,e) (b,f) (b,f) (c,g) ((x,k),(y,l))))
 | _ => none
theorem kons249:ConOK prog 171 ks249:=ConOK.of (G:=[(247,ks283)]) (H:=[]) (.cons kons283 .nil) func171 fun l ob rr hc hob => by
 unfold ks249 at hc
 split at hc
 ·rename_i a e b f c g x k y l
  cases hc
  have h_0:=ob0 hob
  have h_1:=ob1 hob
  have h_2:=ob2 hob
  have h_3:=ob3 hob
  have h_4:=ob4 hob
  refine ⟨by kernel_rfl,fnVC_go (rs:=[.cell 4 29,.tmp 5]) rfl rfl ?_⟩
  simp only [go_sem,ks283,iMul,iDiv,iInt,iAdd,iSub,iRat,iDot,iHyp,iSq,iNeg,iPos,iAbs,iMx,iMn,iCl,iWh,iLoc1,iLoc2,iVAdd1,iVAdd2,iVSub1,iVSub2,iScale1,iScale2,iVDot,iVCross,iLen,iOf1,iOf2,iUnit1,iUnit2,h_0,h_1,h_2,h_3,h_4]
  rfl
 ·cases hc
theorem iMa1 {b:Bd} {p:V2}:inR (matS b p).1.1 = True:=iAdd
theorem iMa2 {b:Bd} {p:V2}:inR (matS b p).2.1.1 = True:=iNeg (of_eq_true iMul)
theorem iMa3 {b:Bd} {p:V2}:inR (matS b p).2.2.1 = True:=iAdd
theorem iSo1 {a b c d:Nb} {v:V2}:inR (solS a b c d v).2.1.1 = True:=by
 unfold solS
 split
 ·exact inR_0
 ·split
  ·exact inR_0
  ·exact iDiv
theorem iSo2 {a b c d:Nb} {v:V2}:inR (solS a b c d v).2.2.1 = True:=by
 unfold solS
 split
 ·exact inR_0
 ·split
  ·exact inR_0
  ·exact iDiv
def toS (b:Bd) (p:V2):V2:=vAdd b.pl (vApply b.rot p)
theorem toS_f {b:Bd} {p:V2}:vAdd b.pl (vApply b.rot p) = toS b p:=(rfl)
theorem iTo1 {b:Bd} {p:V2}:inR (toS b p).1.1 = True:=iVAdd1
theorem iTo2 {b:Bd} {p:V2}:inR (toS b p).2.1 = True:=iVAdd2
attribute [go_sem] mxA iMa1 iMa2 iMa3 iSo1 iSo2 iTo1 iTo2 toS_f
def grbU (A:Bd) (pa pb:V2) (r:Nb):V2:=vSub (vScale (vSub pb (toS A pa)) r) (spdS A (toS A pa))
def grbI (A:Bd) (pa pb:V2) (r:Nb):Bool × V2:=solS (matS A (toS A pa)).1 (matS A (toS A pa)).2.1 (matS A (toS A pa)).2.1 (matS A (toS A pa)).2.2 (grbU A pa pb r)
def grbT (B:Nat → Bd) (i:Nat) (pa pb:V2) (r:Nb):Nat → Bd:=if (grbI (B i) pa pb r).1 = true then updB B i (pshS (B i) (toS (B i) pa) (grbI (B i) pa pb r).2) else B
def grbF:Nat → (Nat → List AV) → List AV → Option (List Prop × AV × (Nat → List AV))
 | N,get,[.agg [.v (.int .i64 k),.v (.int .i64 a),.v (.int .i64 b),.v (.int .i64 x),.v (.bool e),.v (.int .i64 y),.v (.bool f),.v (.int .i64 z),.v (.bool g),.v (.int .i64 u),.v (.bool h),.v (.int .i64 l),.v (.bool m)],.agg [.v (.int .i64 r),.v (.bool q)]] => some ([get = bsC (bsD get),inBs N (bsD get),N ≤ 1000,0 ≤ a,a < N,inR x,inR y,inR z,inR u,inR l,inR r],.tup [],bsC (grbT (bsD get) a.toNat ((x,e),(y,f)) ((z,g),(u,h)) (r,q)))
 | _,_,_ => none
def mGrb:MCon:=mcT 27 92 96 grbF
theorem con104m:MConOK prog 104 mGrb:=MConOK.mcT (G:=[(124,k62),(114,k172),(44,k169),(169,kb169),(170,kb170),(171,ks249),(42,.wr kw115)]) (H:=[(2,⟨[(9,.made 8)],[]⟩),(3,⟨[(11,.made 10)],[]⟩),(4,⟨[(9,.made 8)],[]⟩)]) (.cons kon62 (.cons kon172 (.cons kon169 (.cons konb169 (.cons konb170 (.cons kons249 (.mcons konw115 .nil))))))) func104 fun N get rest ob val get' hF hob hcl => by
 unfold grbF at hF
 split at hF
 ·rename_i k a b x e y f z g u h l m r q
  cases hF
  have h1:get = bsC (bsD get):=hob _ (by simp)
  have hB:inBs N (bsD get):=hob _ (by simp)
  have hN:N ≤ 1000:=hob _ (by simp)
  have a1:0 ≤ a:=hob _ (by simp)
  have a2:a < N:=hob _ (by simp)
  have k1:inR x:=hob _ (by simp)
  have k2:inR y:=hob _ (by simp)
  have k3:inR z:=hob _ (by simp)
  have k4:inR u:=hob _ (by simp)
  have k5:inR l:=hob _ (by simp)
  have k6:inR r:=hob _ (by simp)
  clear hob
  generalize bsD get = B at *
  subst h1
  refine ⟨by simp [clean],rfl,fun i _ => rfl,by kernel_rfl,bodyM_go (rs:=[]) rfl rfl ?_⟩
  have hA:a.toNat < N:=by omega
  obtain ⟨i1,i2⟩:=hB a.toNat hA
  obtain ⟨p1,p2,p3,p4,p5,p6,p7,p8,p9,p10,p11,p12,p13,p14,p15,p16⟩:=id i1
  simp only [go_sem,k62,k172,k169,kb169,kb170,ks249,kw115,cBR_eq,mB_ptr,mbP_some,stepC_mbQ,hA,i1,p6,p7,p8,p9,k1,k2,k3,k4,k5,k6]
  simp only [forall_eq]
  refine ⟨a1,a2,of_eq_true iMa1,of_eq_true iMa2,of_eq_true iMa3,fun w => ?_,fun w => ?_⟩
  ·have e1:grbT B a.toNat ((x,e),(y,f)) ((z,g),(u,h)) (r,q) = _:=if_pos w
   rw [e1]
   rfl
  ·have e1:grbT B a.toNat ((x,e),(y,f)) ((z,g),(u,h)) (r,q) = B:=if_neg (fun k => by rw [show (grbI _ _ _ _).1 = false from w] at k; cases k)
   rw [e1]
 ·cases hF
def rodN (A Q:Bd) (pa pb:V2):Bool × V2:=vUnit (vSub (toS Q pb) (toS A pa))
def rodK (A Q:Bd) (pa pb:V2):Nb:=nAdd (hftS A (toS A pa) (rodN A Q pa pb).2) (hftS Q (toS Q pb) (rodN A Q pa pb).2)
def rodD (A Q:Bd) (pa pb:V2) (ln r:Nb):Nb:=nDiv (nNeg (nAdd (vDot (vSub (spdS Q (toS Q pb)) (spdS A (toS A pa))) (rodN A Q pa pb).2) (nMul (nSub (vLen (vSub (toS Q pb) (toS A pa))) ln) r))) (rodK A Q pa pb)
def rodT (B:Nat → Bd) (i j:Nat) (pa pb:V2) (ln r:Nb):Nat → Bd:=if (rodN (B i) (B j) pa pb).1 = true ∧ (rodK (B i) (B j) pa pb).1 ≠ 0 then
 updB (updB B i (apaA (B i) (toS (B i) pa) (rodN (B i) (B j) pa pb).2 (rodD (B i) (B j) pa pb ln r))) j (apaB (B j) (toS (B j) pb) (rodN (B i) (B j) pa pb).2 (rodD (B i) (B j) pa pb ln r)) else B
def rodF:Nat → (Nat → List AV) → List AV → Option (List Prop × AV × (Nat → List AV))
 | N,get,[.agg [.v (.int .i64 k),.v (.int .i64 a),.v (.int .i64 b),.v (.int .i64 x),.v (.bool e),.v (.int .i64 y),.v (.bool f),.v (.int .i64 z),.v (.bool g),.v (.int .i64 u),.v (.bool h),.v (.int .i64 l),.v (.bool m)],.agg [.v (.int .i64 r),.v (.bool q)]] => some ([get = bsC (bsD get),inBs N (bsD get),N ≤ 1000,0 ≤ a,a < N,0 ≤ b,b < N,a ≠ b,inR x,inR y,inR z,inR u,inR l,inR r],.tup [],bsC (rodT (bsD get) a.toNat b.toNat ((x,e),(y,f)) ((z,g),(u,h)) (l,m) (r,q)))
 | _,_,_ => none
def mRod:MCon:=mcT 27 92 96 rodF
theorem con105m:MConOK prog 105 mRod:=MConOK.mcT (G:=[(124,k62),(114,k172),(172,k165),(173,kb173),(88,kw153),(169,kb169),(174,k178),(175,k161),(111,k160),(47,k129),(112,k179),(78,k168),(110,.wr mApa)]) (H:=[(2,⟨[(18,.made 16),(19,.made 17)],[]⟩),(5,⟨[(10,.made 9)],[]⟩),(7,⟨[(10,.made 9)],[]⟩),(8,⟨[(8,.made 7)],[]⟩),(9,⟨[(11,.call)],[]⟩)]) (.cons kon62 (.cons kon172 (.cons kon165 (.cons konb173 (.cons konw153 (.cons konb169 (.cons kon178 (.cons kon161 (.cons kon160 (.cons kon129 (.cons kon179 (.cons kon168 (.mcons con110m .nil))))))))))))) func105 fun N get rest ob val get' hF hob hcl => by
 unfold rodF at hF
 split at hF
 ·rename_i k a b x e y f z g u h l m r q
  cases hF
  have h1:get = bsC (bsD get):=hob _ (by simp)
  have hB:inBs N (bsD get):=hob _ (by simp)
  have hN:N ≤ 1000:=hob _ (by simp)
  have a1:0 ≤ a:=hob _ (by simp)
  have a2:a < N:=hob _ (by simp)
  have a3:0 ≤ b:=hob _ (by simp)
  have a4:b < N:=hob _ (by simp)
  have a5:a ≠ b:=hob _ (by simp)
  have k1:inR x:=hob _ (by simp)
  have k2:inR y:=hob _ (by simp)
  have k3:inR z:=hob _ (by simp)
  have k4:inR u:=hob _ (by simp)
  have k5:inR l:=hob _ (by simp)
  have k6:inR r:=hob _ (by simp)
  clear hob
  generalize bsD get = B at *
  subst h1
  refine ⟨by simp [clean],rfl,fun i _ => rfl,by kernel_rfl,bodyM_go (rs:=[]) rfl rfl ?_⟩
  have hA:a.toNat < N:=by omega
  have hA2:b.toNat < N:=by omega
  have hne:¬ b.toNat = a.toNat:=by omega
  obtain ⟨i1,i2⟩:=hB a.toNat hA
  obtain ⟨i3,i4⟩:=hB b.toNat hA2
  obtain ⟨p1,p2,p3,p4,p5,p6,p7,p8,p9,p10,p11,p12,p13,p14,p15,p16⟩:=id i1
  obtain ⟨q1,q2,q3,q4,q5,q6,q7,q8,q9,q10,q11,q12,q13,q14,q15,q16⟩:=id i3
  simp only [go_sem,k62,k172,k165,kb173,kw153,kb169,k178,k161,k160,k129,k179,k168,cBR_eq,mB_ptr,mbP_some,stepC_mbQ,hA,hA2,i1,i3,p6,p7,p8,p9,q6,q7,q8,q9,k1,k2,k3,k4,k5,k6,mApa,apaF]
  refine ⟨a1,a2,a3,a4,fun w => ?_,fun w => ⟨by omega,?_⟩⟩
  ·have e1:rodT B a.toNat b.toNat ((x,e),(y,f)) ((z,g),(u,h)) (l,m) (r,q) = B:=if_neg fun k => by
    rcases w with w | w
    ·have w:(rodN (B a.toNat) (B b.toNat) ((x,e),(y,f)) ((z,g),(u,h))).1 = false:=w
     rw [k.1] at w; cases w
    ·exact k.2 (beq_iff_eq.1 w)
   rw [e1]
  ·have e1:rodT B a.toNat b.toNat ((x,e),(y,f)) ((z,g),(u,h)) (l,m) (r,q) = _:=if_pos ⟨w.1,beq_eq_false_iff_ne.1 w.2⟩
   rw [e1]
   rfl
 ·cases hF
abbrev M3:=Nb × Nb × Nb
def mxB (m o:M3):Nat → M3
 | 0 => m
 | 1 => (nAdd m.1 o.1,m.2)
 | 2 => (nAdd m.1 o.1,nAdd m.2.1 o.2.1,m.2.2)
 | _ + 3 => (nAdd m.1 o.1,nAdd m.2.1 o.2.1,nAdd m.2.2 o.2.2)
def mxC (m:M3):List AV:=[i64 m.1.1,bo m.1.2,i64 m.2.1.1,bo m.2.1.2,i64 m.2.2.1,bo m.2.2.2]
def pinM (A Q:Bd) (pa pb:V2):M3:=mxB (matS A (toS A pa)) (matS Q (toS Q pb)) 3
def pinU (A Q:Bd) (pa pb:V2) (r:Nb):V2:=vAdd (vSub (spdS Q (toS Q pb)) (spdS A (toS A pa))) (vScale (vSub (toS Q pb) (toS A pa)) r)
def pinI (A Q:Bd) (pa pb:V2) (r:Nb):Bool × V2:=solS (pinM A Q pa pb).1 (pinM A Q pa pb).2.1 (pinM A Q pa pb).2.1 (pinM A Q pa pb).2.2 (vOpp (pinU A Q pa pb r))
def pinT (B:Nat → Bd) (i j:Nat) (pa pb:V2) (r:Nb):Nat → Bd:=if (pinI (B i) (B j) pa pb r).1 = true then
 updB (updB B i (pshS (B i) (toS (B i) pa) (vScale (pinI (B i) (B j) pa pb r).2 (nInt (-1))))) j (pshS (B j) (toS (B j) pb) (pinI (B i) (B j) pa pb r).2) else B
def pinF:Nat → (Nat → List AV) → List AV → Option (List Prop × AV × (Nat → List AV))
 | N,get,[.agg [.v (.int .i64 k),.v (.int .i64 a),.v (.int .i64 b),.v (.int .i64 x),.v (.bool e),.v (.int .i64 y),.v (.bool f),.v (.int .i64 z),.v (.bool g),.v (.int .i64 u),.v (.bool h),.v (.int .i64 l),.v (.bool m)],.agg [.v (.int .i64 r),.v (.bool q)]] => some ([get = bsC (bsD get),inBs N (bsD get),N ≤ 1000,0 ≤ a,a < N,0 ≤ b,b < N,a ≠ b,inR x,inR y,inR z,inR u,inR l,inR r],.tup [],bsC (pinT (bsD get) a.toNat b.toNat ((x,e),(y,f)) ((z,g),(u,h)) (r,q)))
 | _,_,_ => none
def mPin:MCon:=mcT 27 92 96 pinF
theorem con106m:MConOK prog 106 mPin:=MConOK.mcT (G:=[(124,k62),(170,kb170),(88,kw153),(169,kb169),(114,k172),(44,k169),(43,k130),(176,kw252o),(171,ks249),(103,k127),(42,.wr kw115)]) (H:=[(2,⟨[(18,.made 16),(19,.made 17)],[]⟩),(3,⟨[(8,.made 6),(9,.made 7)],[]⟩),(7,⟨[(9,.slot 10)],[]⟩),(9,⟨[(15,.made 14)],[]⟩),(10,⟨[(8,.made 7)],[]⟩),(12,⟨[(5,.call)],[]⟩)]) (.cons kon62 (.cons konb170 (.cons konw153 (.cons konb169 (.cons kon172 (.cons kon169 (.cons kon130 (.cons konw252o (.cons kons249 (.cons kon127 (.mcons konw115 .nil))))))))))) func106 fun N get rest ob val get' hF hob hcl => by
 unfold pinF at hF
 split at hF
 ·rename_i k a b x e y f z g u h l m r q
  cases hF
  have h1:get = bsC (bsD get):=hob _ (by simp)
  have hB:inBs N (bsD get):=hob _ (by simp)
  have hN:N ≤ 1000:=hob _ (by simp)
  have a1:0 ≤ a:=hob _ (by simp)
  have a2:a < N:=hob _ (by simp)
  have a3:0 ≤ b:=hob _ (by simp)
  have a4:b < N:=hob _ (by simp)
  have a5:a ≠ b:=hob _ (by simp)
  have k1:inR x:=hob _ (by simp)
  have k2:inR y:=hob _ (by simp)
  have k3:inR z:=hob _ (by simp)
  have k4:inR u:=hob _ (by simp)
  have k5:inR l:=hob _ (by simp)
  have k6:inR r:=hob _ (by simp)
  clear hob
  generalize bsD get = B at *
  subst h1
  refine ⟨by simp [clean],rfl,fun i _ => rfl,by kernel_rfl,bodyM_go (rs:=[]) rfl rfl ?_⟩
  have hA:a.toNat < N:=by omega
  have hA2:b.toNat < N:=by omega
  have hne:¬ b.toNat = a.toNat:=by omega
  obtain ⟨i1,i2⟩:=hB a.toNat hA
  obtain ⟨i3,i4⟩:=hB b.toNat hA2
  obtain ⟨p1,p2,p3,p4,p5,p6,p7,p8,p9,p10,p11,p12,p13,p14,p15,p16⟩:=id i1
  obtain ⟨q1,q2,q3,q4,q5,q6,q7,q8,q9,q10,q11,q12,q13,q14,q15,q16⟩:=id i3
  simp only [go_sem,k62,kb170,kw153,kb169,k172,k169,k130,kw252o,ks249,k127,kw115,cBR_eq,mB_ptr,mbP_some,stepC_mbQ,hA,hA2,i1,i3,p6,p7,p8,p9,q6,q7,q8,q9,k1,k2,k3,k4,k5,k6]
  simp only [forall_eq]
  have hm1:inR (matS (B a.toNat) (toS (B a.toNat) ((x,e),(y,f)))).1.1:=of_eq_true iMa1
  have hm2:inR (matS (B a.toNat) (toS (B a.toNat) ((x,e),(y,f)))).2.1.1:=of_eq_true iMa2
  have hm3:inR (matS (B a.toNat) (toS (B a.toNat) ((x,e),(y,f)))).2.2.1:=of_eq_true iMa3
  have hq1:inR (matS (B b.toNat) (toS (B b.toNat) ((z,g),(u,h)))).1.1:=of_eq_true iMa1
  have hq2:inR (matS (B b.toNat) (toS (B b.toNat) ((z,g),(u,h)))).2.1.1:=of_eq_true iMa2
  have hq3:inR (matS (B b.toNat) (toS (B b.toNat) ((z,g),(u,h)))).2.2.1:=of_eq_true iMa3
  unfold pinT pinI pinM pinU
  generalize matS (B a.toNat) (toS (B a.toNat) ((x,e),(y,f))) = MA at *
  generalize matS (B b.toNat) (toS (B b.toNat) ((z,g),(u,h))) = MQ at *
  refine ⟨a1,a2,a3,a4,?_⟩
  refine loopC_go (fun (i:Nat) => i ≤ 3) (fun i => 3 - i) (fun i => [(48,i64 (i:Int))]) (fun i => [(41,fam1 222 6 (mxC (mxB MA MQ i)) none)]) [42,32,31,2,1,0] [49,50,12,51,52,53,54,55,56,57,58,59,60,48] 0 (by kernel_rfl) ?_ (Nat.zero_le _) ?_ ?_
  ·intro i _; simp [goodNames,asg]
  ·simp only [go_sem]
   exact fitL_clean rfl
  intro i hi
  match i,hi with
  | 0,hi =>
   have e0:mxC (mxB MA MQ 0) = [i64 MA.1.1,bo MA.1.2,i64 MA.2.1.1,bo MA.2.1.2,i64 MA.2.2.1,bo MA.2.2.2]:=rfl
   rw [e0]
   simp only [go_sem,k62,kb170,kw153,kb169,k172,k169,k130,kw252o,ks249,k127,kw115,cBR_eq,mB_ptr,mbP_some,stepC_mbQ,hA,hA2,i1,i3,p6,p7,p8,p9,q6,q7,q8,q9,k1,k2,k3,k4,k5,k6,hm1,hm2,hm3,hq1,hq2,hq3,forall_eq,imp_false,Nat.not_lt]
   exact ⟨fun _ => ⟨1,by omega,by omega,by decide,fitL_clean rfl⟩,fun w => by cases w⟩
  | 1,hi =>
   have e0:mxC (mxB MA MQ 1) = [i64 (nAdd MA.1 MQ.1).1,bo (nAdd MA.1 MQ.1).2,i64 MA.2.1.1,bo MA.2.1.2,i64 MA.2.2.1,bo MA.2.2.2]:=rfl
   rw [e0]
   simp only [go_sem,k62,kb170,kw153,kb169,k172,k169,k130,kw252o,ks249,k127,kw115,cBR_eq,mB_ptr,mbP_some,stepC_mbQ,hA,hA2,i1,i3,p6,p7,p8,p9,q6,q7,q8,q9,k1,k2,k3,k4,k5,k6,hm1,hm2,hm3,hq1,hq2,hq3,forall_eq,imp_false,Nat.not_lt]
   exact ⟨fun _ => ⟨2,by omega,by omega,by decide,fitL_clean rfl⟩,fun w => by cases w⟩
  | 2,hi =>
   have e0:mxC (mxB MA MQ 2) = [i64 (nAdd MA.1 MQ.1).1,bo (nAdd MA.1 MQ.1).2,i64 (nAdd MA.2.1 MQ.2.1).1,bo (nAdd MA.2.1 MQ.2.1).2,i64 MA.2.2.1,bo MA.2.2.2]:=rfl
   rw [e0]
   simp only [go_sem,k62,kb170,kw153,kb169,k172,k169,k130,kw252o,ks249,k127,kw115,cBR_eq,mB_ptr,mbP_some,stepC_mbQ,hA,hA2,i1,i3,p6,p7,p8,p9,q6,q7,q8,q9,k1,k2,k3,k4,k5,k6,hm1,hm2,hm3,hq1,hq2,hq3,forall_eq,imp_false,Nat.not_lt]
   exact ⟨fun _ => ⟨3,by omega,by omega,by decide,fitL_clean rfl⟩,fun w => by cases w⟩
  | 3,hi =>
   have e0:mxC (mxB MA MQ 3) = [i64 (nAdd MA.1 MQ.1).1,bo (nAdd MA.1 MQ.1).2,i64 (nAdd MA.2.1 MQ.2.1).1,bo (nAdd MA.2.1 MQ.2.1).2,i64 (nAdd MA.2.2 MQ.2.2).1,bo (nAdd MA.2.2 MQ.2.2).2]:=rfl
   rw [e0]
   simp only [go_sem,k62,kb170,kw153,kb169,k172,k169,k130,kw252o,ks249,k127,kw115,cBR_eq,mB_ptr,mbP_some,stepC_mbQ,hA,hA2,i1,i3,p6,p7,p8,p9,q6,q7,q8,q9,k1,k2,k3,k4,k5,k6,hm1,hm2,hm3,hq1,hq2,hq3,forall_eq,imp_false,Nat.not_lt]
   have hof:∀ v,updB B a.toNat v b.toNat = B b.toNat:=fun v => updB_off hne
   simp only [hof]
   have iop:∀ v:V2,inR v.1.1 → inR v.2.1 → inR (vOpp v).1.1 ∧ inR (vOpp v).2.1:=fun v w1 w2 => ⟨of_eq_true (iNeg w1),of_eq_true (iNeg w2)⟩
   refine ⟨fun w => absurd w (by simp),fun _ => ⟨(iop _ (of_eq_true iVAdd1) (of_eq_true iVAdd2)).1,(iop _ (of_eq_true iVAdd1) (of_eq_true iVAdd2)).2,fun w => ?_,fun w => ?_⟩⟩
   ·rw [if_pos (show (solS (mxB MA MQ 3).1 (mxB MA MQ 3).2.1 (mxB MA MQ 3).2.1 (mxB MA MQ 3).2.2 _).1 = true from w)]
    first | exact ⟨i3,rfl⟩ | rfl
   ·rw [if_neg (show ¬ (solS (mxB MA MQ 3).1 (mxB MA MQ 3).2.1 (mxB MA MQ 3).2.1 (mxB MA MQ 3).2.2 _).1 = true from fun w2 => by rw [show (solS (mxB MA MQ 3).1 (mxB MA MQ 3).2.1 (mxB MA MQ 3).2.1 (mxB MA MQ 3).2.2 _).1 = false from w] at w2; cases w2)]
  | i + 4,hi => exact absurd hi (by omega)
 ·cases hF
def bndT (N:Nat) (B:Nat → Bd) (k a b:Int) (pa pb:V2) (ln dt:Nb):Nat → Bd:=
 if cjS N k a b pa pb ln = 0 ∧ 0 < whV dt.1 then
  (if k = 1 then grbT B a.toNat pa pb (nDiv (nRat 1 5) dt) else if k = 2 then rodT B a.toNat b.toNat pa pb ln (nDiv (nRat 1 5) dt) else pinT B a.toNat b.toNat pa pb (nDiv (nRat 1 5) dt)) else B
theorem cj_ok {N:Nat} {k a b:Int} {pa pb:V2} {ln:Nb} (h:cjS N k a b pa pb ln = 0):(k = 1 ∨ k = 2 ∨ k = 3) ∧ 0 ≤ a ∧ a < N ∧ (k ≠ 1 → 0 ≤ b ∧ b < N ∧ a ≠ b):=by
 unfold cjS at h
 split at h
 ·omega
 ·split at h
  ·omega
  ·omega
theorem whV_0:whV 0 = 0:=by decide
theorem cmpS_le {x:Int}:(cmpS x 0 ≤ 0) = (x ≤ 0):=by
 unfold cmpS
 apply propext
 (repeat' split) <;> omega
def bndF:Nat → (Nat → List AV) → List AV → Option (List Prop × AV × (Nat → List AV))
 | N,get,[.agg [.v (.int .i64 k),.v (.int .i64 a),.v (.int .i64 b),.v (.int .i64 x),.v (.bool e),.v (.int .i64 y),.v (.bool f),.v (.int .i64 z),.v (.bool g),.v (.int .i64 u),.v (.bool h),.v (.int .i64 l),.v (.bool m)],.agg [.v (.int .i64 r),.v (.bool q)]] => some ([get = bsC (bsD get),inBs N (bsD get),N ≤ 1000,inR x,inR y,inR z,inR u,inR l,inR r],.tup [],bsC (bndT N (bsD get) k a b ((x,e),(y,f)) ((z,g),(u,h)) (l,m) (r,q)))
 | _,_,_ => none
def mBnd:MCon:=mcT 27 92 96 bndF
theorem con58m:MConOK prog 58 mBnd:=MConOK.mcT (G:=[(36,kj51),(51,c51),(104,.wr mGrb),(105,.wr mRod),(106,.wr mPin),(52,k132),(78,k168)]) (H:=[(3,⟨[(9,.call)],[]⟩)]) (.cons konj51 (.cons con51 (.mcons con104m (.mcons con105m (.mcons con106m (.cons kon132 (.cons kon168 .nil))))))) func58 fun N get rest ob val get' hF hob hcl => by
 unfold bndF at hF
 split at hF
 ·rename_i k a b x e y f z g u h l m r q
  cases hF
  have h1:get = bsC (bsD get):=hob _ (by simp)
  have hB:inBs N (bsD get):=hob _ (by simp)
  have hN:N ≤ 1000:=hob _ (by simp)
  have k1:inR x:=hob _ (by simp)
  have k2:inR y:=hob _ (by simp)
  have k3:inR z:=hob _ (by simp)
  have k4:inR u:=hob _ (by simp)
  have k5:inR l:=hob _ (by simp)
  have k6:inR r:=hob _ (by simp)
  clear hob
  generalize bsD get = B at *
  subst h1
  refine ⟨by simp [clean],rfl,fun i _ => rfl,by kernel_rfl,bodyM_go (rs:=[]) rfl rfl ?_⟩
  have hNi:inR (N:Int):=inRo (by omega)
  by_cases h1:k = 1
  ·subst h1
   simp only [go_sem,kj51,c51,k132,k168,mGrb,grbF,mRod,rodF,mPin,pinF,hN,hNi,hB,k1,k2,k3,k4,k5,k6,cmpS_le,whV_0]
   simp only [forall_eq]
   refine ⟨fun w => ?_,fun w => ?_⟩
   ·have e1:bndT N B 1 a b ((x,e),(y,f)) ((z,g),(u,h)) (l,m) (r,q) = B:=if_neg fun c => by
     rcases w with w | w
     ·rw [c.1] at w; simp at w
     ·have w:=cmpS_le.mp w
      have c2:0 < whV r:=c.2
      omega
    rw [e1]
   ·have hc:cjS N 1 a b ((x,e),(y,f)) ((z,g),(u,h)) (l,m) = 0:=by simpa using w.1
    have hp:0 < whV r:=by
     have w2:=w.2
     rw [cmpS_le] at w2
     omega
    have e1:bndT N B 1 a b ((x,e),(y,f)) ((z,g),(u,h)) (l,m) (r,q) = _:=if_pos ⟨hc,hp⟩
    rw [if_pos rfl] at e1
    obtain ⟨_,j1,j2,j3⟩:=cj_ok hc
    rw [e1]
    exact ⟨inRo (by omega),j1,j2,rfl⟩
  by_cases h2:k = 2
  ·subst h2
   simp only [go_sem,kj51,c51,k132,k168,mGrb,grbF,mRod,rodF,mPin,pinF,hN,hNi,hB,k1,k2,k3,k4,k5,k6,cmpS_le,whV_0]
   simp only [forall_eq]
   refine ⟨fun w => ?_,fun w => ?_⟩
   ·have e1:bndT N B 2 a b ((x,e),(y,f)) ((z,g),(u,h)) (l,m) (r,q) = B:=if_neg fun c => by
     rcases w with w | w
     ·rw [c.1] at w; simp at w
     ·have w:=cmpS_le.mp w
      have c2:0 < whV r:=c.2
      omega
    rw [e1]
   ·have hc:cjS N 2 a b ((x,e),(y,f)) ((z,g),(u,h)) (l,m) = 0:=by simpa using w.1
    have hp:0 < whV r:=by
     have w2:=w.2
     rw [cmpS_le] at w2
     omega
    have e1:bndT N B 2 a b ((x,e),(y,f)) ((z,g),(u,h)) (l,m) (r,q) = _:=if_pos ⟨hc,hp⟩
    rw [if_neg (by omega),if_pos rfl] at e1
    obtain ⟨_,j1,j2,j3⟩:=cj_ok hc
    obtain ⟨j4,j5,j6⟩:=j3 (by omega)
    rw [e1]
    exact ⟨inRo (by omega),j1,j2,j4,j5,j6,rfl⟩
  by_cases h3:k = 3
  ·subst h3
   simp only [go_sem,kj51,c51,k132,k168,mGrb,grbF,mRod,rodF,mPin,pinF,hN,hNi,hB,k1,k2,k3,k4,k5,k6,cmpS_le,whV_0]
   simp only [forall_eq]
   refine ⟨fun w => ?_,fun w => ?_⟩
   ·have e1:bndT N B 3 a b ((x,e),(y,f)) ((z,g),(u,h)) (l,m) (r,q) = B:=if_neg fun c => by
     rcases w with w | w
     ·rw [c.1] at w; simp at w
     ·have w:=cmpS_le.mp w
      have c2:0 < whV r:=c.2
      omega
    rw [e1]
   ·have hc:cjS N 3 a b ((x,e),(y,f)) ((z,g),(u,h)) (l,m) = 0:=by simpa using w.1
    have hp:0 < whV r:=by
     have w2:=w.2
     rw [cmpS_le] at w2
     omega
    have e1:bndT N B 3 a b ((x,e),(y,f)) ((z,g),(u,h)) (l,m) (r,q) = _:=if_pos ⟨hc,hp⟩
    rw [if_neg (by omega),if_neg (by omega)] at e1
    obtain ⟨_,j1,j2,j3⟩:=cj_ok hc
    obtain ⟨j4,j5,j6⟩:=j3 (by omega)
    rw [e1]
    exact ⟨inRo (by omega),j1,j2,j4,j5,j6,rfl⟩
  have hc:cjS N k a b ((x,e),(y,f)) ((z,g),(u,h)) (l,m) ≠ 0:=fun c => by
   have:=(cj_ok c).1
   omega
  have e1:bndT N B k a b ((x,e),(y,f)) ((z,g),(u,h)) (l,m) (r,q) = B:=if_neg fun c => hc c.1
  simp only [go_sem,kj51,c51,k132,k168,mGrb,grbF,mRod,rodF,mPin,pinF,hN,hNi,hB,k1,k2,k3,k4,k5,k6,cmpS_le,whV_0]
  rw [e1]
  intro w hw z2 hz2
  exact ⟨fun _ => rfl,fun w2 => absurd (hw ▸ w2.1) (by simpa using hc)⟩
 ·cases hF
end Go.Ax
end
section
set_option maxHeartbeats 4000000
set_option maxRecDepth 100000
namespace Go.Ax
open Go.Proofs Go.Proofs.Tryz
end Go.Ax
end
section
set_option maxHeartbeats 4000000
set_option maxRecDepth 100000
namespace Go.Ax
open Go.Proofs Go.Proofs.Tryz
theorem inBs_upd1 {N:Nat} {B:Nat → Bd} {i:Nat} {u:Bd} (h:inBs N B) (hu:inB u) (hu2:u.n ≤ 1000):inBs N (updB B i u):=fun k hk => by
 unfold updB
 split
 ·exact ⟨hu,hu2⟩
 ·exact h k hk
theorem bnd_in {N:Nat} {B:Nat → Bd} {k a b:Int} {pa pb:V2} {ln dt:Nb} (h:inBs N B):inBs N (bndT N B k a b pa pb ln dt):=by
 unfold bndT
 split
 ·rename_i hc
  obtain ⟨jk,a1,a2,jj⟩:=cj_ok hc.1
  obtain ⟨i1,i2⟩:=h a.toNat (by omega)
  split
  ·unfold grbT
   split
   ·exact inBs_upd1 h (inB_psh i1) (by rw [psh_n]; exact i2)
   ·exact h
  rename_i hk
  obtain ⟨b1,b2,b3⟩:=jj hk
  obtain ⟨i3,i4⟩:=h b.toNat (by omega)
  split
  ·unfold rodT apaA apaB
   split
   ·exact inBs_upd h (inB_psh i1) (by rw [psh_n]; exact i2) (inB_psh i3) (by rw [psh_n]; exact i4)
   ·exact h
  ·unfold pinT
   split
   ·exact inBs_upd h (inB_psh i1) (by rw [psh_n]; exact i2) (inB_psh i3) (by rw [psh_n]; exact i4)
   ·exact h
 ·exact h
def csC (C:Nat → Ct):Nat → List AV:=fun i => contC (C i)
def csD (g:Nat → List AV):Nat → Ct:=fun i => contD (g i)
theorem csD_C {C:Nat → Ct}:csD (csC C) = C:=rfl
theorem csC_at {C:Nat → Ct} {i:Nat}:csC C i = contC (C i):=(rfl)
attribute [go_sem] csD_C csC_at
def inCs (M:Nat) (C:Nat → Ct):Prop:=∀ i,i < M → inC (C i) ∧ (C i).n ≤ 1000
theorem byt55:bytesT prog 55 = 136:=by kernel_rfl
structure Jt where
 k:Int
 a:Int
 b:Int
 x:Int
 e:Bool
 y:Int
 f:Bool
 z:Int
 g:Bool
 u:Int
 h:Bool
 l:Int
 m:Bool
def jtC (j:Jt):List AV:=[i64 j.k,i64 j.a,i64 j.b,i64 j.x,bo j.e,i64 j.y,bo j.f,i64 j.z,bo j.g,i64 j.u,bo j.h,i64 j.l,bo j.m]
def jtD (l:List AV):Jt:=⟨gi l 0,gi l 1,gi l 2,gi l 3,gib l 4,gi l 5,gib l 6,gi l 7,gib l 8,gi l 9,gib l 10,gi l 11,gib l 12⟩
def jsC (J:Nat → Jt):Nat → List AV:=fun i => jtC (J i)
def jsD (g:Nat → List AV):Nat → Jt:=fun i => jtD (g i)
theorem jsD_C {J:Nat → Jt}:jsD (jsC J) = J:=rfl
theorem jsC_at {J:Nat → Jt} {i:Nat}:jsC J i = jtC (J i):=(rfl)
def inJ (j:Jt):Prop:=inR j.x ∧ inR j.y ∧ inR j.z ∧ inR j.u ∧ inR j.l
def inJs (L:Nat) (J:Nat → Jt):Prop:=∀ i,i < L → inJ (J i)
attribute [go_sem] jsD_C
def bndJ (N:Nat) (B:Nat → Bd) (j:Jt) (dt:Nb):Nat → Bd:=bndT N B j.k j.a j.b ((j.x,j.e),(j.y,j.f)) ((j.z,j.g),(j.u,j.h)) (j.l,j.m) dt
def bndL (N:Nat) (J:Nat → Jt) (dt:Nb) (B:Nat → Bd):Nat → (Nat → Bd)
 | 0 => B
 | i + 1 => bndJ N (bndL N J dt B i) (J i) dt
def updC (C:Nat → Ct) (i:Nat) (c:Ct):Nat → Ct:=fun j => if j = i then c else C j
structure Sv where
 B:Nat → Bd
 C:Nat → Ct
def hitL (N:Nat) (s:Sv):Nat → Sv
 | 0 => s
 | i + 1 => ⟨hitT N (hitL N s i).B ((hitL N s i).C i),updC (hitL N s i).C i (hitC N (hitL N s i).B ((hitL N s i).C i))⟩
def rndS (N M L:Nat) (J:Nat → Jt) (dt:Nb) (s:Sv):Nat → Sv
 | 0 => s
 | i + 1 => hitL N ⟨bndL N J dt (rndS N M L J dt s i).B L,(rndS N M L J dt s i).C⟩ M
def parL (N:Nat) (C:Nat → Ct) (B:Nat → Bd):Nat → (Nat → Bd)
 | 0 => B
 | i + 1 => parT N (parL N C B i) (C i)
def rdN (r:Int):Nat:=(max 0 (min r 16)).toNat
def solT (N M L:Nat) (B:Nat → Bd) (C:Nat → Ct) (J:Nat → Jt) (r:Int) (dt:Nb):Sv:=⟨parL N (rndS N M L J dt ⟨B,C⟩ (rdN r)).C (rndS N M L J dt ⟨B,C⟩ (rdN r)).B M,(rndS N M L J dt ⟨B,C⟩ (rdN r)).C⟩
theorem bndL_in {N:Nat} {J:Nat → Jt} {dt:Nb} {B:Nat → Bd} (h:inBs N B):∀ i,inBs N (bndL N J dt B i)
 | 0 => h
 | i + 1 => bnd_in (bndL_in h i)
theorem inCs_upd {M:Nat} {C:Nat → Ct} {i:Nat} {c:Ct} (h:inCs M C) (hc:inC c) (hn:c.n ≤ 1000):inCs M (updC C i c):=fun k hk => by
 unfold updC
 split
 ·exact ⟨hc,hn⟩
 ·exact h k hk
theorem hitL_in {N M:Nat} {s:Sv} (h:inBs N s.B) (hc:inCs M s.C):∀ i,i ≤ M → inBs N (hitL N s i).B ∧ inCs M (hitL N s i).C
 | 0,_ => ⟨h,hc⟩
 | i + 1,hi => by
  obtain ⟨h1,h2⟩:=hitL_in h hc i (by omega)
  obtain ⟨k1,k2⟩:=h2 i (by omega)
  exact ⟨hitT_in h1 k1,inCs_upd h2 (hitC_in h1 k1) (by rw [hitC_n]; exact k2)⟩
theorem rndS_in {N M L:Nat} {J:Nat → Jt} {dt:Nb} {s:Sv} (h:inBs N s.B) (hc:inCs M s.C):∀ i,inBs N (rndS N M L J dt s i).B ∧ inCs M (rndS N M L J dt s i).C
 | 0 => ⟨h,hc⟩
 | i + 1 => by
  obtain ⟨h1,h2⟩:=rndS_in h hc i
  exact hitL_in (s:=⟨bndL N J dt (rndS N M L J dt s i).B L,(rndS N M L J dt s i).C⟩) (bndL_in h1 L) h2 M (Nat.le_refl M)
theorem parL_in {N:Nat} {C:Nat → Ct} {B:Nat → Bd} (h:inBs N B):∀ i,inBs N (parL N C B i)
 | 0 => h
 | i + 1 => par_in (parL_in h i)
theorem csC_upd {C:Nat → Ct} {i:Nat} {c:Ct}:(fun j => if j = i then contC c else csC C j) = csC (updC C i c):=funext fun j => by
 unfold csC updC
 split <;> rfl
theorem famN_updC {M:Nat} {C:Nat → Ct} {i:Nat} {c:Ct}:famN M 15 55 (fun j => if j = i then contC c else csC C j) none = famN M 15 55 (csC (updC C i c)) none:=by rw [csC_upd]
theorem famN_updC2 {M:Nat} {C:Nat → Ct} {i:Nat} {c:Ct}:famN M 15 55 (fun j => if j = i then contC c else contC (C j)) none = famN M 15 55 (csC (updC C i c)) none:=famN_updC
theorem famCl_cs {M:Nat} {C:Nat → Ct}:famCl (famN M 15 55 (csC C) none) = True:=famCl_Nt fun _ _ => rfl
attribute [go_sem] famN_updC famN_updC2 famCl_cs
def kSol:Con
 | [.ro N 27 g,.ro M 15 c,.ro L 13 j,.v (.int .i64 r),.agg [.v (.int .i64 d),.v (.bool q)]] => some ([g = bsC (bsD g),c = csC (csD c),j = jsC (jsD j),N ≤ 1000,inBs N (bsD g),M ≤ 1000,inCs M (csD c),L ≤ 1000,inJs L (jsD j),inR r,inR d],
  .tup [.ro N 27 (bsC (solT N M L (bsD g) (csD c) (jsD j) r (d,q)).B),.ro M 15 (csC (solT N M L (bsD g) (csD c) (jsD j) r (d,q)).C)])
 | _ => none
def zCt:List AV:=[i64 0,i64 0,i64 0,bo false,i64 0,bo false,.v (.slice none 0 0),i64 0,bo false,i64 0,bo false,i64 0,bo false,i64 0,bo false]
def gZ (C:Nat → Ct) (i:Nat):Nat → List AV:=fun j => if j < i then contC (C j) else zCt
theorem gZ_0 {C:Nat → Ct} {j:Nat}:gZ C 0 j = zCt:=if_neg (Nat.not_lt_zero j)
theorem gZ_lt {C:Nat → Ct} {i j:Nat} (h:j < i):gZ C i j = contC (C j):=if_pos h
theorem gZ_cl {C:Nat → Ct} {i j:Nat}:cleanCs (gZ C i j) = true:=by
 unfold gZ
 split <;> rfl
theorem gZ_st {C:Nat → Ct} {i j:Nat}:(if j = i then contC (C i) ++ List.drop 15 (gZ C i i) else gZ C i j) = gZ C (i + 1) j:=by
 by_cases h:j = i
 ·subst h
  rw [if_pos rfl,gZ_lt (Nat.lt_succ_self j),show gZ C j j = zCt from if_neg (Nat.lt_irrefl j)]
  rfl
 ·rw [if_neg h]
  unfold gZ
  by_cases h2:j < i
  ·rw [if_pos h2,if_pos (by omega)]
  ·rw [if_neg h2,if_neg (by omega)]
theorem rdN_lt {r:Int} {k:Nat}:((k:Int) < max 0 (min r 16)) = (k < rdN r):=by
 unfold rdN
 apply propext
 omega
theorem con17:ConOK prog 17 kSol:=ConOK.of (G:=[(56,.wr mNlay),(57,kCon),(58,.wr mBnd),(59,.wr mHit),(60,.wr mPar),(61,.wr mNtel)]) (H:=[]) (.mcons con56m (.cons con57 (.mcons con58m (.mcons con59m (.mcons con60m (.mcons con61m .nil)))))) func17 fun l ob rr hc hob => by
 unfold kSol at hc
 split at hc
 ·rename_i N g M c L j r d q
  cases hc
  have e1:g = bsC (bsD g):=hob _ (by simp)
  have e2:c = csC (csD c):=hob _ (by simp)
  have e3:j = jsC (jsD j):=hob _ (by simp)
  have hN:N ≤ 1000:=hob _ (by simp)
  have hB:inBs N (bsD g):=hob _ (by simp)
  have hM:M ≤ 1000:=hob _ (by simp)
  have hC:inCs M (csD c):=hob _ (by simp)
  have hL:L ≤ 1000:=hob _ (by simp)
  have hJ:inJs L (jsD j):=hob _ (by simp)
  have hr:inR r:=hob _ (by simp)
  have hd:inR d:=hob _ (by simp)
  clear hob
  generalize bsD g = B at *
  generalize csD c = C at *
  generalize jsD j = J at *
  subst e1 e2 e3
  refine ⟨by kernel_rfl,fnVC_go (rs:=[.tmp 10,.tmp 11]) rfl rfl ?_⟩
  simp only [go_sem,kCon,hN,hB]
  refine ⟨by omega,by omega,by rw [byt55]; omega,?_⟩
  refine loopC_go (fun (i:Nat) => i ≤ M) (fun i => M - i) (fun i => [(28,i64 (i:Int))]) (fun i => [(8,famN M 15 55 (gZ C i) none)]) [4,0] [29,30,31,32,15,14,33,34,35,36,37,38,28] 0 (by kernel_rfl) ?_ (Nat.zero_le _) ?_ ?_
  ·intro i _; simp [goodNames,asg]
  ·simp only [go_sem]
   exact fun j _ => by rw [gZ_0]; exact fitL_clean rfl
  intro i hi
  by_cases hiM:i < M
  ·obtain ⟨i1,i2⟩:=hC i hiM
   simp only [go_sem,kCon,i1,i2,forall_eq]
   refine ⟨fun h => ⟨by omega,h,by omega,h,hiM,i + 1,by omega,by omega,by rw [wrap_in (inRo (by omega))]; rfl,fun j _ => ?_⟩,fun h => absurd hiM (by omega)⟩
   rw [gZ_st]
   exact fitL_clean gZ_cl
  ·simp only [go_sem,kCon,forall_eq]
   refine ⟨fun h => absurd h (by omega),fun _ => ?_⟩
   have e:M = i:=by omega
   subst e
   have hR16:rdN r ≤ 16:=by unfold rdN; omega
   generalize hR:rdN r = R at *
   obtain ⟨S,hS⟩:∃ S:Nat → Sv,S = rndS N M L J (d,q) ⟨B,C⟩:=⟨_,rfl⟩
   have s0:S 0 = ⟨B,C⟩:=by rw [hS]; rfl
   have sI:∀ k,inBs N (S k).B ∧ inCs M (S k).C:=fun k => by rw [hS]; exact rndS_in (s:=⟨B,C⟩) hB hC k
   refine loopC_go (fun (k:Nat) => k ≤ R) (fun k => R - k) (fun k => [(42,i64 (k:Int))]) (fun k => [(4,famT 4 N 27 92 96 (bsC (S k).B)),(8,famN M 15 55 (csC (S k).C) none)]) [0] [43,44,45,46,47,48,49,17,50,51,52,53,54,46,55,56,57,58,59,18,60,61,62,63,64,65,57,66,42] 0 (by kernel_rfl) ?_ (Nat.zero_le _) ?_ ?_
   ·intro i _; simp [goodNames,asg]
   ·simp only [go_sem,s0]
    exact ⟨fitF_T (by omega) fun _ _ => rfl,fun j hj => by rw [gZ_lt hj]; exact fitL_clean rfl⟩
   intro k hk
   simp only [go_sem,kCon,forall_eq]
   have hkr:((k:Int) < max 0 (min r 16)) ↔ k < R:=by rw [← hR]; exact iff_of_eq rdN_lt
   have hSk:=sI k
   refine ⟨fun hkR => ?_,fun hkR => ?_⟩ <;> rw [hkr] at hkR
   ·obtain ⟨T,hT⟩:∃ T:Nat → Nat → Bd,T = bndL N J (d,q) (S k).B:=⟨_,rfl⟩
    have t0:T 0 = (S k).B:=by rw [hT]; rfl
    have tI:∀ i,inBs N (T i):=fun i => by rw [hT]; exact bndL_in hSk.1 i
    refine loopC_go (fun (i:Nat) => i ≤ L) (fun i => L - i) (fun i => [(46,i64 (i:Int))]) (fun i => [(4,famT 4 N 27 92 96 (bsC (T i)))]) [8,0] [47,48,49,17,50,51,52,53,54,46] 0 (by kernel_rfl) ?_ (Nat.zero_le _) ?_ ?_
    ·intro i _; simp [goodNames,asg]
    ·simp only [go_sem,t0]
     exact fitF_T (by omega) fun _ _ => rfl
    intro i hi
    by_cases hiL:i < L
    ·obtain ⟨j1,j2,j3,j4,j5⟩:=hJ i hiL
     simp only [go_sem,kCon,jsC_at,jtC,mBnd,bndF,hN,tI,j1,j2,j3,j4,j5,hd,forall_eq]
     refine ⟨fun h => ⟨by omega,h,i + 1,by omega,by omega,by rw [wrap_in (inRo (by omega))]; rfl,?_⟩,fun h => absurd hiL (by omega)⟩
     have e:T (i + 1) = bndJ N (T i) (J i) (d,q):=by rw [hT]; rfl
     rw [e]
     exact fitF_T (by omega) fun _ _ => rfl
    simp only [go_sem,kCon,forall_eq]
    refine ⟨fun h => absurd h (by omega),fun _ => ?_⟩
    have e:L = i:=by omega
    subst e
    obtain ⟨U,hU⟩:∃ U:Nat → Sv,U = hitL N ⟨T L,(S k).C⟩:=⟨_,rfl⟩
    have u0:U 0 = ⟨T L,(S k).C⟩:=by rw [hU]; rfl
    have uI:∀ i,i ≤ M → inBs N (U i).B ∧ inCs M (U i).C:=fun i hi => by rw [hU]; exact hitL_in (s:=⟨T L,(S k).C⟩) (tI L) hSk.2 i hi
    refine loopC_go (fun (i:Nat) => i ≤ M) (fun i => M - i) (fun i => [(57,i64 (i:Int))]) (fun i => [(4,famT 4 N 27 92 96 (bsC (U i).B)),(8,famN M 15 55 (csC (U i).C) none)]) [0] [58,59,18,60,61,62,63,64,65,57] 0 (by kernel_rfl) ?_ (Nat.zero_le _) ?_ ?_
    ·intro i _; simp [goodNames,asg]
    ·simp only [go_sem,u0]
     exact ⟨fitF_T (by omega) fun _ _ => rfl,fun j hj => fitL_clean rfl⟩
    intro i hi
    by_cases hiM:i < M
    ·obtain ⟨v1,v2⟩:=uI i hi
     obtain ⟨w1,w2⟩:=v2 i hiM
     simp only [go_sem,kCon,mHit,hitF,hN,v1,w1,w2,forall_eq]
     refine ⟨fun h => ⟨by omega,h,by decide,hiM,i + 1,by omega,by omega,by rw [wrap_in (inRo (by omega))]; rfl,?_⟩,fun h => absurd hiM (by omega)⟩
     have e:U (i + 1) = ⟨hitT N (U i).B ((U i).C i),updC (U i).C i (hitC N (U i).B ((U i).C i))⟩:=by rw [hU]; rfl
     rw [e]
     exact ⟨fitF_T (by omega) fun _ _ => rfl,fun j hj => fitL_clean rfl⟩
    simp only [go_sem,kCon,forall_eq]
    refine ⟨fun h => absurd h (by omega),fun _ => ?_⟩
    have e:M = i:=by omega
    subst e
    have e:S (k + 1) = U M:=by rw [hU,hT,hS]; rfl
    refine ⟨k + 1,by omega,by omega,by rw [wrap_in (inRo (by omega))]; rfl,?_⟩
    rw [e]
    exact ⟨fitF_T (by omega) fun _ _ => rfl,fun j hj => fitL_clean rfl⟩
   ·have e:R = k:=by omega
    subst e
    obtain ⟨V,hV⟩:∃ V:Nat → Nat → Bd,V = parL N (S R).C (S R).B:=⟨_,rfl⟩
    have v0:V 0 = (S R).B:=by rw [hV]; rfl
    have vI:∀ i,inBs N (V i):=fun i => by rw [hV]; exact parL_in hSk.1 i
    refine loopC_go (fun (i:Nat) => i ≤ M) (fun i => M - i) (fun i => [(69,i64 (i:Int))]) (fun i => [(4,famT 4 N 27 92 96 (bsC (V i)))]) [8,0] [70,71,72,20,73,74,75,76,69] 0 (by kernel_rfl) ?_ (Nat.zero_le _) ?_ ?_
    ·intro i _; simp [goodNames,asg]
    ·simp only [go_sem,v0]
     exact fitF_T (by omega) fun _ _ => rfl
    intro i hi
    by_cases hiM:i < M
    ·obtain ⟨w1,w2⟩:=hSk.2 i hiM
     simp only [go_sem,kCon,mPar,parF,hN,vI,w1,w2,forall_eq]
     refine ⟨fun h => ⟨by omega,h,hiM,i + 1,by omega,by omega,by rw [wrap_in (inRo (by omega))]; rfl,?_⟩,fun h => absurd hiM (by omega)⟩
     have e:V (i + 1) = parT N (V i) ((S R).C i):=by rw [hV]; rfl
     rw [e]
     exact fitF_T (by omega) fun _ _ => rfl
    simp only [go_sem,kCon,hN,forall_eq]
    refine ⟨fun h => absurd h (by omega),fun _ => ?_⟩
    have e:M = i:=by omega
    subst e
    have e:solT N M L B C J r (d,q) = ⟨V M,(S R).C⟩:=by rw [hV,hS]; unfold solT; rw [hR]
    rw [e]
    rfl
 ·cases hc
end Go.Ax
end