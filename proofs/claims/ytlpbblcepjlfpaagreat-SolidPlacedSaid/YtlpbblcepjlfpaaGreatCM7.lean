/-
  Manifolds: two that are the same.
-/
import Derived.Test.YtlpbblcepjlfpaaGreatCM6
set_option linter.unusedVariables false
set_option linter.unusedSimpArgs false
section
set_option maxHeartbeats 4000000
set_option maxRecDepth 100000
namespace Go.Ax
open Go.Proofs
theorem aEq71 {a0 b0:Int} {a1 b1:Bool} {a2 b2:Int} {a3 b3:Bool} {a4 b4:Int} {a5 b5:Bool}:aEq Tryz.prog 71 (.agg [i64 a0,bo a1,i64 a2,bo a3,i64 a4,bo a5]) (.agg [i64 b0,bo b1,i64 b2,bo b3,i64 b4,bo b5]) = some ((((a0 == b0) && ((a1 == b1) && true)) && (((a2 == b2) && ((a3 == b3) && true)) && true)) && (((a4 == b4) && ((a5 == b5) && true)) && true)):=by kernel_rfl
theorem eq71 {xo yo:Operand} {neg:Bool} {a0 b0:Int} {a1 b1:Bool} {a2 b2:Int} {a3 b3:Bool} {a4 b4:Int} {a5 b5:Bool}:eqE Tryz.prog neg 71 xo yo (.agg [i64 a0,bo a1,i64 a2,bo a3,i64 a4,bo a5]) (.agg [i64 b0,bo b1,i64 b2,bo b3,i64 b4,bo b5]) = some ⟨[],.v (.bool (negV neg ((((a0 == b0) && ((a1 == b1) && true)) && (((a2 == b2) && ((a3 == b3) && true)) && true)) && (((a4 == b4) && ((a5 == b5) && true)) && true)))),.none⟩:=eqE_agg aEq71
attribute [go_sem] eq71
theorem gx_pts0 {X Y:Nat → Int}:gx (fun j => [i64 (X j),i64 (Y j)]) 0 = X:=(rfl)
theorem gx_pts1 {X Y:Nat → Int}:gx (fun j => [i64 (X j),i64 (Y j)]) 1 = Y:=(rfl)
theorem eqE_ownnil {P:Program} {q:TypeId} {xo yo:Operand} {neg:Bool} {r f n sz:Nat} {e:TypeId} (h:P.underlying q = some (.slice e)):eqE P neg q xo yo (.own r f (n + 1) sz) (.v (.slice none 0 0)) = some ⟨[],.v (.bool (negV neg false)),.none⟩:=by
 have e1:aNil P q (.own r f (n + 1) sz) (.v (.slice none 0 0)) = some false:=by
  show (match P.underlying q with | some (.slice _) => some false | _ => none) = _
  rw [h]
 have e2:aEq P q (.own r f (n + 1) sz) (.v (.slice none 0 0)) = some false:=by
  unfold aEq
  rw [e1]
 unfold eqE
 rw [e2]
theorem eqE_nilS {P:Program} {q:TypeId} {xo yo:Operand} {neg:Bool} {e:TypeId} (h:P.underlying q = some (.slice e)):eqE P neg q xo yo (.v (.slice none 0 0)) (.v (.slice none 0 0)) = some ⟨[],.v (.bool (negV neg true)),.none⟩:=by
 have he:pureRun P (Op.equal q (.slice none 0 0) (.slice none 0 0)) = some true:=by
  show pureRun P (Op.equalIn (9999 + 1) q (.slice none 0 0) (.slice none 0 0)) = _
  unfold Op.equalIn
  show pureRun P (Sem.bind _ _) = _
  rw [pureRun_bind,pureRun_under h]
  rfl
 unfold eqE
 have h0:aEq P q (.v (.slice none 0 0)) (.v (.slice none 0 0)) = none:=by
  unfold aEq
  show (match eqOkT P q with | true => _ | false => _) = _
  cases eqOkT P q <;> rfl
 rw [h0]
 dsimp only [flat]
 have hg:∀ op,eqGuard op q xo yo (.slice none 0 0) (.slice none 0 0) = Sem.pure ():=fun op => by
  cases op <;> rfl
 rw [hg]
 cases neg
 ·show (match pureRun P (Sem.bind (Op.equal q (.slice none 0 0) (.slice none 0 0)) fun b => Sem.pure (Value.bool b)) with | some v => _ | none => _) = _
  rw [pureRun_bind,he]; rfl
 ·show (match pureRun P (Sem.bind (Op.equal q (.slice none 0 0) (.slice none 0 0)) fun b => Sem.pure (Value.bool (!b))) with | some v => _ | none => _) = _
  rw [pureRun_bind,he]; rfl
theorem eq56n {xo yo:Operand} {neg:Bool}:eqE Tryz.prog neg 56 xo yo (.v (.slice none 0 0)) (.v (.slice none 0 0)) = some ⟨[],.v (.bool (negV neg true)),.none⟩:=eqE_nilS Tryz.underlying56
theorem eq56o1 {xo yo:Operand} {neg:Bool} {r f sz:Nat}:eqE Tryz.prog neg 56 xo yo (.own r f 1 sz) (.v (.slice none 0 0)) = some ⟨[],.v (.bool (negV neg false)),.none⟩:=eqE_ownnil (n:=0) Tryz.underlying56
theorem eq56o2 {xo yo:Operand} {neg:Bool} {r f sz:Nat}:eqE Tryz.prog neg 56 xo yo (.own r f 2 sz) (.v (.slice none 0 0)) = some ⟨[],.v (.bool (negV neg false)),.none⟩:=eqE_ownnil (n:=1) Tryz.underlying56
attribute [go_sem] eq56n eq56o1 eq56o2
def zV:V2:=((0,false),(0,false))
def tchC (p:V2) (d:Nb):List AV:=[i64 p.1.1,bo p.1.2,i64 p.2.1,bo p.2.2,i64 d.1,bo d.2]
def tchs (P:Nat → V2) (D:Nat → Nb):Nat → List AV:=fun j => tchC (P j) (D j)
def manC (v:V2) (n:Nat) (P:Nat → V2) (D:Nat → Nb):AV:=.agg [i64 v.1.1,bo v.1.2,i64 v.2.1,bo v.2.2,.ro n 6 (tchs P D)]
end Go.Ax
end
section
/-
  How forms touch: what is computed, and the reference's small parts.
-/
set_option maxHeartbeats 4000000
set_option maxRecDepth 100000
namespace Go.Ax
open Go.Proofs
structure Mf where
 nv:V2
 n:Nat
 P:Nat → V2
 D:Nat → Nb
abbrev mfA (m:Mf):AV:=manC m.nv m.n m.P m.D
def mf0:Mf:=⟨zV,0,fun _ => zV,fun _ => (0,false)⟩
def mf1 (nv p:V2) (d:Nb):Mf:=⟨nv,1,fun _ => p,fun _ => d⟩
def oneV:V2:=((4294967296,false),(0,false))
def edN (n:Nat) (X Y:Nat → Int) (i:Nat):V2:=vNorm (X i) (Y i) (X (nxt n i)) (Y (nxt n i))
def twN (d:V2):V2:=if (vUnit d).1 = true then (vUnit d).2 else oneV
def twD (d:V2) (r s:Int):Nb:=nPos (nSub (nRat (IntKind.i64.wrap (r + s)) 256) (vLen d))
def twP (x y r:Int) (d:V2) (e:Nb):V2:=vAdd (vLoc x y) (vScale (twN d) (nSub (nRat r 256) (nDiv e (nInt 2))))
def twoS (x y r x' y' r':Int):Mf:=mf1 (twN (vLoc (mnW x x') (mnW y y'))) (twP x y r (vLoc (mnW x x') (mnW y y')) (twD (vLoc (mnW x x') (mnW y y')) r r')) (twD (vLoc (mnW x x') (mnW y y')) r r')
def deepS (n:Nat) (X Y:Nat → Int) (x y r:Int) (s:AxT):Mf:=
 mf1 (edN n X Y s.2.1.toNat) (vSub (vLoc x y) (vScale (edN n X Y s.2.1.toNat) (nRat r 256))) (nPos (nNeg s.2.2))
def rdT (n:Nat) (X Y:Nat → Int) (x y:Int) (i:Nat):Nb:=
 nCl (nRat (dtW (mnW (X i) x) (mnW (Y i) y) (mnW (X i) (X (nxt n i))) (mnW (Y i) (Y (nxt n i)))) (dtW (mnW (X i) (X (nxt n i))) (mnW (Y i) (Y (nxt n i))) (mnW (X i) (X (nxt n i))) (mnW (Y i) (Y (nxt n i))))) (0,false) (4294967296,false)
def rdP (n:Nat) (X Y:Nat → Int) (x y:Int) (i:Nat):V2:=vAdd (vLoc (X i) (Y i)) (vScale (vLoc (mnW (X i) (X (nxt n i))) (mnW (Y i) (Y (nxt n i)))) (rdT n X Y x y i))
def rdM (n:Nat) (X Y:Nat → Int) (x y:Int) (i:Nat):V2:=vSub (vLoc x y) (rdP n X Y x y i)
def rdL (n:Nat) (X Y:Nat → Int) (x y:Int) (i:Nat):Nb:=vLen (rdM n X Y x y i)
def rdV (n:Nat) (X Y:Nat → Int) (x y:Int) (i:Nat):V2:=
 if (0 < (rdT n X Y x y i).1 ∧ (rdT n X Y x y i).1 < 4294967296) ∨ (vUnit (rdM n X Y x y i)).1 = false then vNorm (X i) (Y i) (X (nxt n i)) (Y (nxt n i)) else (vUnit (rdM n X Y x y i)).2
def leI (h:Nat → Nb):Nat → Nat
 | 0 => 0
 | i + 1 => if cmpS (whV (h (i + 1)).1) (whV (h (leI h i)).1) < 0 then i + 1 else leI h i
def rdS (n:Nat) (X Y:Nat → Int) (x y r:Int):Mf:=
 mf1 (rdV n X Y x y (leI (rdL n X Y x y) (n - 1))) (rdP n X Y x y (leI (rdL n X Y x y) (n - 1))) (nPos (nSub (nRat r 256) (rdL n X Y x y (leI (rdL n X Y x y) (n - 1)))))
def pdS (n:Nat) (X Y:Nat → Int) (x y r:Int):Mf:=if inS n X Y x y = true then deepS n X Y x y r (axSt n (gD n X Y x y r) 0 (gD n X Y x y r) 2) else rdS n X Y x y r
def cutS (x y:V2) (i j:Nb):V2:=vAdd x (vScale (vSub y x) (nDiv i (nSub i j)))
def clpX (x y:V2) (i j:Nb):V2:=if i.1 < 0 ∧ 0 ≤ j.1 then cutS x y i j else x
def clpY (x y:V2) (i j:Nb):V2:=if j.1 < 0 ∧ 0 ≤ i.1 then cutS y x j i else y
def agK (m:Nat) (Z T:Nat → Int) (nv:V2) (j:Nat):Nb:=vDot (vNorm (Z j) (T j) (Z (nxt m j)) (T (nxt m j))) nv
def fx0 (X Y Z T:Nat → Int) (i j:Nat):V2:=vLoc (mnW (X i) (Z j)) (mnW (Y i) (T j))
def flT (n:Nat) (X Y:Nat → Int) (i:Nat):V2:=(vUnit (vOf (mnW (X i) (X (nxt n i))) (mnW (Y i) (Y (nxt n i))))).2
def flE (n:Nat) (X Y:Nat → Int) (i:Nat):Nb:=vLen (vLoc (mnW (X i) (X (nxt n i))) (mnW (Y i) (Y (nxt n i))))
def cl1X (t x y:V2):V2:=clpX x y (vDot t x) (vDot t y)
def cl1Y (t x y:V2):V2:=clpY x y (vDot t x) (vDot t y)
def cl2X (t x y:V2) (e:Nb):V2:=clpX x y (nSub e (vDot t x)) (nSub e (vDot t y))
def cl2Y (t x y:V2) (e:Nb):V2:=clpY x y (nSub e (vDot t x)) (nSub e (vDot t y))
def flX (t x y:V2) (e:Nb):V2:=cl2X t (cl1X t x y) (cl1Y t x y) e
def flY (t x y:V2) (e:Nb):V2:=cl2Y t (cl1X t x y) (cl1Y t x y) e
def flM (nv p x y:V2):Mf:=
 if (vDot nv x).1 ≤ 0 then
  (if (vDot nv y).1 ≤ 0 then ⟨nv,2,fun j => if j = 0 then vAdd p x else vAdd p y,fun j => if j = 0 then nNeg (vDot nv x) else nNeg (vDot nv y)⟩ else mf1 nv (vAdd p x) (nNeg (vDot nv x)))
 else mf1 nv (vAdd p y) (nNeg (vDot nv y))
def edH (n:Nat) (X Y Z T:Nat → Int) (i j:Nat):Nb:=hgt (X i) (Y i) (X (nxt n i)) (Y (nxt n i)) (Z j) (T j)
def flJ (n:Nat) (X Y:Nat → Int) (m:Nat) (Z T:Nat → Int) (i:Nat):Nat:=leI (agK m Z T (edN n X Y i)) (m - 1)
def flW (n:Nat) (X Y:Nat → Int) (m:Nat) (Z T:Nat → Int) (i:Nat):Nat:=leI (edH n X Y Z T i) (m - 1)
def flA (n:Nat) (X Y:Nat → Int) (m:Nat) (Z T:Nat → Int) (i j:Nat):V2:=flX (flT n X Y i) (fx0 X Y Z T i j) (fx0 X Y Z T i (nxt m j)) (flE n X Y i)
def flB (n:Nat) (X Y:Nat → Int) (m:Nat) (Z T:Nat → Int) (i j:Nat):V2:=flY (flT n X Y i) (fx0 X Y Z T i j) (fx0 X Y Z T i (nxt m j)) (flE n X Y i)
def flK (nv p a b q:V2) (d:Nb):Mf:=if (vDot nv a).1 ≤ 0 ∨ (vDot nv b).1 ≤ 0 then flM nv p a b else mf1 nv q d
def flS (n:Nat) (X Y:Nat → Int) (m:Nat) (Z T:Nat → Int) (i:Nat):Mf:=
 flK (edN n X Y i) (vLoc (X i) (Y i)) (flA n X Y m Z T i (flJ n X Y m Z T i)) (flB n X Y m Z T i (flJ n X Y m Z T i)) (vLoc (Z (flW n X Y m Z T i)) (T (flW n X Y m Z T i))) (nPos (nNeg (edH n X Y Z T i (flW n X Y m Z T i))))
def trnS (m:Mf):Mf:=⟨vScale m.nv (nInt (-1)),m.n,m.P,m.D⟩
def clipS (k x y r:Int) (n:Nat) (X Y:Nat → Int) (k' x' y' r':Int) (m:Nat) (Z T:Nat → Int):Mf:=
 if checkS k x y r n X Y = 0 ∧ checkS k' x' y' r' m Z T = 0 ∧ apS k x y r n X Y k' x' y' r' m Z T = false then
  (if k = 1 then (if k' = 1 then twoS x y r x' y' r' else trnS (pdS m Z T x y r))
   else if k' = 1 then pdS n X Y x' y' r'
   else if (axS k x y r n X Y k' x' y' r' m Z T).1 = 0 then flS n X Y m Z T (axS k x y r n X Y k' x' y' r' m Z T).2.1.toNat
   else trnS (flS m Z T n X Y (axS k x y r n X Y k' x' y' r' m Z T).2.1.toNat))
 else mf0
def clipB (k x y r:Int) (n:Nat) (X Y:Nat → Int) (k' x' y' r':Int) (m:Nat) (Z T:Nat → Int):Bool:=
 decide (checkS k x y r n X Y = 0 ∧ checkS k' x' y' r' m Z T = 0 ∧ apS k x y r n X Y k' x' y' r' m Z T = false)
end Go.Ax
end
section
/-
  How a polygon and a disc touch, by the reference.
-/
set_option maxHeartbeats 4000000
set_option maxRecDepth 100000
namespace Go.Ax
open Go.Proofs
end Go.Ax
end
section
/-
  How two polygons touch, by the reference.
-/
set_option maxHeartbeats 4000000
set_option maxRecDepth 100000
namespace Go.Ax
open Go.Proofs
end Go.Ax
end
section
/-
  How forms touch: all numbers of it are int64s.
-/
set_option maxHeartbeats 4000000
set_option maxRecDepth 100000
namespace Go.Ax
open Go.Proofs
end Go.Ax
end
section
/-
  How forms touch, and bodies, by the reference.
-/
set_option maxHeartbeats 4000000
set_option maxRecDepth 100000
namespace Go.Ax
open Go.Proofs
theorem bnd_man {v:V2} {n:Nat} {P:Nat → V2} {D:Nat → Nb}:bnd (manC v n P D) = .agg [i64 v.1.1,bo v.1.2,i64 v.2.1,bo v.2.2,.ro n 6 (tchs P D)]:=(rfl)
attribute [go_sem] bnd_man
def clipA (k x y r:Int) (n:Nat) (X Y:Nat → Int) (k' x' y' r':Int) (m:Nat) (Z T:Nat → Int):AV:=.tup [mfA (clipS k x y r n X Y k' x' y' r' m Z T),bo (clipB k x y r n X Y k' x' y' r' m Z T)]
theorem bnd_clip {k x y r:Int} {n:Nat} {X Y:Nat → Int} {k' x' y' r':Int} {m:Nat} {Z T:Nat → Int}:clipA k x y r n X Y k' x' y' r' m Z T = .tup [.agg [i64 (clipS k x y r n X Y k' x' y' r' m Z T).nv.1.1,bo (clipS k x y r n X Y k' x' y' r' m Z T).nv.1.2,i64 (clipS k x y r n X Y k' x' y' r' m Z T).nv.2.1,bo (clipS k x y r n X Y k' x' y' r' m Z T).nv.2.2,.ro (clipS k x y r n X Y k' x' y' r' m Z T).n 6 (tchs (clipS k x y r n X Y k' x' y' r' m Z T).P (clipS k x y r n X Y k' x' y' r' m Z T).D)],bo (clipB k x y r n X Y k' x' y' r' m Z T)]:=(rfl)
attribute [go_sem] bnd_clip
end Go.Ax
end
section
/-
  How forms touch, by the program: its small parts.
-/
set_option maxHeartbeats 4000000
set_option maxRecDepth 100000
namespace Go.Ax
open Go.Proofs
def sgC (x y:V2):List AV:=[i64 x.1.1,bo x.1.2,i64 x.2.1,bo x.2.2,i64 y.1.1,bo y.1.2,i64 y.2.1,bo y.2.2]
def clpG:List AV → List AV → Option (List Prop × AV × List AV)
 | [.v (.int .i64 x),.v (.bool e),.v (.int .i64 y),.v (.bool f),.v (.int .i64 a),.v (.bool g),.v (.int .i64 b),.v (.bool h)],[.agg [.v (.int .i64 i),.v (.bool k)],.agg [.v (.int .i64 j),.v (.bool l)]] =>
  some ([inR x,inR y,inR a,inR b,inR i,inR j],.tup [],sgC (clpX ((x,e),(y,f)) ((a,g),(b,h)) (i,k) (j,l)) (clpY ((x,e),(y,f)) ((a,g),(b,h)) (i,k) (j,l)))
 | _,_ => none
def mClp:MCon:=mc1 8 clpG
end Go.Ax
end
section
/-
  A polygon and a disc, by the program; against which edge.
-/
set_option maxHeartbeats 4000000
set_option maxRecDepth 100000
namespace Go.Ax
open Go.Proofs
end Go.Ax
end
section
/-
  Against which edge a polygon lies, by the program.
-/
set_option maxHeartbeats 4000000
set_option maxRecDepth 100000
namespace Go.Ax
open Go.Proofs
section
variable {n j:Nat} {X Y:Nat → Int} {nv:V2}
end
end Go.Ax
end
section
/-
  Ways and boxes.
-/
set_option maxHeartbeats 4000000
set_option maxRecDepth 100000
namespace Go.Ax
open Go.Proofs
section
variable {P:Program} {G:Ctx} {key:Nat} {d:Option Tmp} {q ty:TypeId} {pos:String} {af:Array Edge} {gd:Option (Nat × Bool)} {g:Option Bool} {ρ0:Operand → AV} {m:Mem}
def idzE (P:Program) (q:TypeId) (a b:AV):Option Eff:=match flat a with
 | some x => match flat b with
  | some y => match pureRun P (Instr.index q x y) with
   | some v => some ⟨[],ofVal v,.none⟩
   | none => none
  | none => none
 | none => none
theorem aStep_idz {x i:Operand}:aStep P G key g ⟨d,.index q x i,ty,pos,af,gd⟩ ρ0 m = idzE P q (strip (ρ0 x)) (strip (ρ0 i)):=by
 show effOf (aPure P (fun x => strip (ρ0 x)) ⟨d,.index q x i,ty,pos,af,gd⟩) = _
 unfold aPure idzE
 dsimp only [Op.operands,List.map,flatAll]
 cases hx:flat (strip (ρ0 x)) with
 | none => rfl
 | some vx =>
  dsimp only
  cases hi:flat (strip (ρ0 i)) with
  | none => rfl
  | some vi =>
   dsimp only
   have:execOp (fun x => (flat (strip (ρ0 x))).getD undef) ⟨d,.index q x i,ty,pos,af,gd⟩ = Sem.bind (Instr.index q vx vi) fun v => Sem.pure (Next.value v):=by
    show Sem.bind (Instr.index q ((flat (strip (ρ0 x))).getD undef) ((flat (strip (ρ0 i))).getD undef)) (fun v => Sem.pure (Next.value v)) = _
    rw [hx,hi]; rfl
   rw [this,pureRun_bind]
   cases pureRun P (Instr.index q vx vi) <;> rfl
end
theorem idx125_0 {a b:Int}:idzE Tryz.prog 138 (.agg [i64 a,i64 b]) (.v (.int .i64 0)) = some ⟨[],i64 a,.none⟩:=by kernel_rfl
theorem idx125_1 {a b:Int}:idzE Tryz.prog 138 (.agg [i64 a,i64 b]) (.v (.int .i64 1)) = some ⟨[],i64 b,.none⟩:=by kernel_rfl
attribute [go_sem] aStep_idz idx125_0 idx125_1
end Go.Ax
end
section
/-
  How two polygons touch, by the program.
-/
set_option maxHeartbeats 4000000
set_option maxRecDepth 100000
namespace Go.Ax
open Go.Proofs
theorem idx168_0 {a b c d:Int} {e f g h:Bool}:idzE Tryz.prog 168 (.agg [i64 a,bo e,i64 b,bo f,i64 c,bo g,i64 d,bo h]) (.v (.int .i64 0)) = some ⟨[],.agg [i64 a,bo e,i64 b,bo f],.none⟩:=by kernel_rfl
theorem idx168_1 {a b c d:Int} {e f g h:Bool}:idzE Tryz.prog 168 (.agg [i64 a,bo e,i64 b,bo f,i64 c,bo g,i64 d,bo h]) (.v (.int .i64 1)) = some ⟨[],.agg [i64 c,bo g,i64 d,bo h],.none⟩:=by kernel_rfl
attribute [go_sem] idx168_0 idx168_1
def clpQ (r:Nat) (fam:Fam) (pre:List Prop) (s:V2 × V2):Option Eff:=some ⟨pre,.tup [],.many [(r,wb1 fam (sgC s.1 s.2))] none⟩
def clpE (r:Nat) (fam:Fam):Option (List Prop × AV × List AV) → Option Eff
 | some (ob,val,cs) => some ⟨((fam 0).n = 1) :: (8 = (fam 0).sz) :: (cleanCs ((fam 0).get 0) = true) :: famOK r fam :: ob,val,.many [(r,wb1 fam cs)] none⟩
 | none => none
def clpB (r:Nat):Option Fam → List AV → Option Eff
 | some fam,rest => clpE r fam (clpG ((fam 0).get 0) rest)
 | none,_ => none
theorem mClp_bx {key:Nat} {m:Mem} {r:Nat} {rest:List AV}:mClp key m (.bx r 0 :: rest) = clpB r (look m r) rest:=by
 show (match look m r with
  | some fam => (match clpG ((fam 0).get 0) rest with
   | some (ob,val,cs) => some (⟨((fam 0).n = 1) :: (8 = (fam 0).sz) :: (cleanCs ((fam 0).get 0) = true) :: famOK r fam :: ob,val,.many [(r,wb1 fam cs)] none⟩:Eff)
   | none => none)
  | none => none) = _
 generalize look m r = x
 cases x with
 | none => rfl
 | some fam =>
  unfold clpB
  dsimp only
  generalize clpG ((fam 0).get 0) rest = y
  cases y <;> rfl
section
variable {P:Program} {G:Ctx} {H:Hots} {K0:AEx → St → Prop} {hot:Option Hot} {ops:Array Oper} {d:Option Tmp} {rest:List Oper} {i:Nat} {st:List Fr} {t:Slots} {m:Mem} {nx r:Nat} {fam:Fam} {o pre ob:List Prop} {s:V2 × V2}
theorem stepC_clpQ:stepC P G H K0 hot ops d rest i st t m nx (withOb o (bndE (aMut none (clpQ r fam pre s)))) = (∀ s',s' = s → stepC P G H K0 hot ops d rest i st t m nx (withOb o (some ⟨pre,.tup [],.many [(r,wb1 fam (sgC s'.1 s'.2))] none⟩))):=by
 rw [bndE_eq]
 apply propext
 constructor
 ·rintro h b' rfl; exact h
 ·intro h; exact h s rfl
end
theorem clpB_eq {r:Nat} {T:TypeId} {x y a b i j:Int} {e f g h k l:Bool}:clpB r (some (fam1 T 8 [i64 x,bo e,i64 y,bo f,i64 a,bo g,i64 b,bo h] none)) [.agg [i64 i,bo k],.agg [i64 j,bo l]] = clpQ r (fam1 T 8 [i64 x,bo e,i64 y,bo f,i64 a,bo g,i64 b,bo h] none) [(1:Nat) = 1,8 = 8,True,famOK r (fam1 T 8 [i64 x,bo e,i64 y,bo f,i64 a,bo g,i64 b,bo h] none),inR x,inR y,inR a,inR b,inR i,inR j] (clpX ((x,e),(y,f)) ((a,g),(b,h)) (i,k) (j,l),clpY ((x,e),(y,f)) ((a,g),(b,h)) (i,k) (j,l)):=by
 have h1:cleanCs [i64 x,bo e,i64 y,bo f,i64 a,bo g,i64 b,bo h] = true:=rfl
 have h2:(cleanCs [i64 x,bo e,i64 y,bo f,i64 a,bo g,i64 b,bo h] = true) = True:=eq_true h1
 have e:clpB r (some (fam1 T 8 [i64 x,bo e,i64 y,bo f,i64 a,bo g,i64 b,bo h] none)) [.agg [i64 i,bo k],.agg [i64 j,bo l]] = clpQ r (fam1 T 8 [i64 x,bo e,i64 y,bo f,i64 a,bo g,i64 b,bo h] none) [(1:Nat) = 1,8 = 8,cleanCs [i64 x,bo e,i64 y,bo f,i64 a,bo g,i64 b,bo h] = true,famOK r (fam1 T 8 [i64 x,bo e,i64 y,bo f,i64 a,bo g,i64 b,bo h] none),inR x,inR y,inR a,inR b,inR i,inR j] (clpX ((x,e),(y,f)) ((a,g),(b,h)) (i,k) (j,l),clpY ((x,e),(y,f)) ((a,g),(b,h)) (i,k) (j,l)):=rfl
 rw [e,h2]
attribute [go_sem] mClp_bx stepC_clpQ clpB_eq wb1_1
section
variable {nv p a b:V2}
end
end Go.Ax
end
section
/-
  How two forms touch, by the program.
-/
set_option maxHeartbeats 4000000
set_option maxRecDepth 100000
namespace Go.Ax
open Go.Proofs
end Go.Ax
end
section
/-
  Plane geometry: what is inside a convex polygon is on no line's far side.
-/
set_option maxHeartbeats 4000000
namespace Go.Ax
end Go.Ax
end
section
/-
  What a way meets of a polygon: the least and the greatest of the crossings.
-/
set_option maxHeartbeats 4000000
namespace Go.Ax
end Go.Ax
end
section
/-
  A way that passes a spot of a box meets the box; what a way meets of a polygon is in it.
-/
set_option maxHeartbeats 4000000
namespace Go.Ax
end Go.Ax
end
section
/-
  What a way meets of a polygon.
-/
set_option maxHeartbeats 4000000
namespace Go.Ax
theorem mnS_le' {Z:Nat → Int}:∀ {n j:Nat},j < n → mnS Z n ≤ Z j
 | 0,j,h => absurd h (Nat.not_lt_zero j)
 | i + 1,j,h => by
  unfold mnS
  split
  ·rename_i e; subst e
   rw [show j = 0 by omega]; exact Int.le_refl _
  ·by_cases e:j = i
   ·subst e; exact Int.min_le_right _ _
   ·exact Int.le_trans (Int.min_le_left _ _) (mnS_le' (by omega))
theorem mxS_ge' {Z:Nat → Int}:∀ {n j:Nat},j < n → Z j ≤ mxS Z n
 | 0,j,h => absurd h (Nat.not_lt_zero j)
 | i + 1,j,h => by
  unfold mxS
  split
  ·rename_i e; subst e
   rw [show j = 0 by omega]; exact Int.le_refl _
  ·by_cases e:j = i
   ·subst e; exact Int.le_max_right _ _
   ·exact Int.le_trans (mxS_ge' (by omega)) (Int.le_max_left _ _)
theorem mnS_at {Z:Nat → Int}:∀ {n:Nat},0 < n → ∃ j,j < n ∧ mnS Z n = Z j
 | i + 1,h => by
  unfold mnS
  split
  ·exact ⟨0,by omega,rfl⟩
  ·obtain ⟨j,j1,j2⟩:=mnS_at (Z:=Z) (n:=i) (by omega)
   by_cases e:mnS Z i ≤ Z i
   ·exact ⟨j,by omega,by rw [Int.min_eq_left e,j2]⟩
   ·exact ⟨i,by omega,by rw [Int.min_eq_right (by omega)]⟩
theorem mxS_at {Z:Nat → Int}:∀ {n:Nat},0 < n → ∃ j,j < n ∧ mxS Z n = Z j
 | i + 1,h => by
  unfold mxS
  split
  ·exact ⟨0,by omega,rfl⟩
  ·obtain ⟨j,j1,j2⟩:=mxS_at (Z:=Z) (n:=i) (by omega)
   by_cases e:mxS Z i ≤ Z i
   ·exact ⟨i,by omega,by rw [Int.max_eq_right e]⟩
   ·exact ⟨j,by omega,by rw [Int.max_eq_left (by omega),j2]⟩
theorem bx_valid {n:Nat} {X Y:Nat → Int} (h0:0 < n) (hv:∀ i,i < n → validS (X i) (Y i) = true):checkBoxS (mnS X n) (mnS Y n) (mxS X n) (mxS Y n) = 0:=by
 obtain ⟨i,i1,i2⟩:=mnS_at (Z:=X) h0
 obtain ⟨j,j1,j2⟩:=mnS_at (Z:=Y) h0
 obtain ⟨k,k1,k2⟩:=mxS_at (Z:=X) h0
 obtain ⟨l,l1,l2⟩:=mxS_at (Z:=Y) h0
 have a1:=validS_iff.1 (hv i i1)
 have a2:=validS_iff.1 (hv j j1)
 have a3:=validS_iff.1 (hv k k1)
 have a4:=validS_iff.1 (hv l l1)
 have b1:=mxS_ge' (Z:=X) i1
 have b2:=mxS_ge' (Z:=Y) j1
 exact checkBoxS_iff.2 (by omega)
end Go.Ax
end
section
/-
  What a way meets of a disc.
-/
set_option maxHeartbeats 4000000
namespace Go.Ax
end Go.Ax
end
section
/-
  Numbers that are not flagged, and how great they are.
-/
set_option maxHeartbeats 4000000
namespace Go.Ax
def gd (a:Nb) (B:Int):Prop:=a.2 = false ∧ -B ≤ a.1 ∧ a.1 ≤ B
end Go.Ax
end
section
/-
  When a way meets a disc: it is no flagged number.
-/
set_option maxHeartbeats 4000000
namespace Go.Ax
end Go.Ax
end
section
/-
  Unit vectors have the length 1, but for 256 parts.
-/
set_option maxHeartbeats 4000000
namespace Go.Ax
end Go.Ax
end
section
/-
  A disc that is off all edges of a polygon, its middle not being in it, has no spot in common with it.
-/
set_option maxHeartbeats 4000000
namespace Go.Ax
end Go.Ax
end
section
/-
  A disc that is off all edges of a polygon, its middle not being in it, has no spot in common with it.
-/
set_option maxHeartbeats 4000000
namespace Go.Ax
end Go.Ax
end
section
/-
  A disc that is off all edges of a polygon, its middle not being in it, has no spot in common with it.
-/
set_option maxHeartbeats 4000000
namespace Go.Ax
end Go.Ax
end
section
/-
  Polygons that an edge separates have no spot in common.
-/
set_option maxHeartbeats 4000000
namespace Go.Ax
end Go.Ax
end
section
/-
  Forms that are apart have no spot in common; no form is apart from itself.
-/
set_option maxHeartbeats 4000000
namespace Go.Ax
end Go.Ax
end
section
/-
  Where forms touch: between the ends of an edge; directions of length 1.
-/
set_option maxHeartbeats 4000000
set_option maxRecDepth 100000
namespace Go.Ax
def bt (lo hi:Int) (a:Nb):Prop:=a.2 = false ∧ lo ≤ a.1 ∧ a.1 ≤ hi
def bx (a b c d:Int) (v:V2):Prop:=bt a c v.1 ∧ bt b d v.2
end Go.Ax
end
section
/-
  How forms touch: one or two places, near both forms, none with a depth below 0, in a direction of length 1.
-/
set_option maxHeartbeats 4000000
set_option maxRecDepth 100000
namespace Go.Ax
theorem boxD {k x y r:Int} {n:Nat} {X Y:Nat → Int} (hc:checkS k x y r n X Y = 0) (hk:k = 1):boxS k x y r n X Y 0 = x - r ∧ boxS k x y r n X Y 1 = y - r ∧ boxS k x y r n X Y 2 = x + r ∧ boxS k x y r n X Y 3 = y + r:=
 ⟨boxS_disc (q:=0) hc hk,boxS_disc (q:=1) hc hk,boxS_disc (q:=2) hc hk,boxS_disc (q:=3) hc hk⟩
theorem boxP {k x y r:Int} {n:Nat} {X Y:Nat → Int} (hc:checkS k x y r n X Y = 0) (hk:k ≠ 1):boxS k x y r n X Y 0 = mnS X n ∧ boxS k x y r n X Y 1 = mnS Y n ∧ boxS k x y r n X Y 2 = mxS X n ∧ boxS k x y r n X Y 3 = mxS Y n:=
 ⟨boxS_poly (q:=0) hc hk,boxS_poly (q:=1) hc hk,boxS_poly (q:=2) hc hk,boxS_poly (q:=3) hc hk⟩
end Go.Ax
end
section
/-
  Sine and cosine ars they are computed: their squares sum up to one, but for 2^-19. Plain arithmetic.
-/
namespace Go.Ax
def pev:List Int → Int → Int
 | [],_ => 0
 | c :: cs,y => c + y * pev cs y
def padd:List Int → List Int → List Int
 | [],q => q
 | a :: p,[] => a :: p
 | a :: p,b :: q => (a + b) :: padd p q
def psm (k:Int):List Int → List Int
 | [] => []
 | a :: p => k * a :: psm k p
def pmul:List Int → List Int → List Int
 | [],_ => []
 | a :: p,q => padd (psm a q) (0 :: pmul p q)
def pcomp:List Int → List Int → List Int
 | [],_ => []
 | a :: p,q => padd [a] (pmul q (pcomp p q))
def pabs:List Int → Int → Int
 | [],_ => 0
 | c :: cs,B => (if c < 0 then -c else c) + B * pabs cs B
theorem pev_add (y:Int):∀ p q:List Int,pev (padd p q) y = pev p y + pev q y
 | [],q => by simp [padd,pev]
 | a :: p,[] => by simp [padd,pev]
 | a :: p,b :: q => by simp only [padd,pev,pev_add y p q]; grind
theorem pev_sm (k y:Int):∀ p:List Int,pev (psm k p) y = k * pev p y
 | [] => by simp [psm,pev]
 | a :: p => by simp only [psm,pev,pev_sm k y p]; grind
theorem pev_mul (y:Int):∀ p q:List Int,pev (pmul p q) y = pev p y * pev q y
 | [],q => by simp [pmul,pev]
 | a :: p,q => by simp only [pmul,pev,pev_add,pev_sm,pev_mul y p q]; grind
theorem pev_comp (y:Int) (q:List Int):∀ p:List Int,pev (pcomp p q) y = pev p (pev q y)
 | [] => by simp [pcomp,pev]
 | a :: p => by simp only [pcomp,pev,pev_add,pev_mul,pev_comp y q p]; grind
theorem pev_bd {y B:Int} (h0:0 ≤ y) (h1:y ≤ B):∀ cs:List Int,0 ≤ pabs cs B ∧ -(pabs cs B) ≤ pev cs y ∧ pev cs y ≤ pabs cs B
 | [] => by simp [pabs,pev]
 | c :: cs => by
  obtain ⟨k0,k1,k2⟩:=pev_bd h0 h1 cs
  have m1:y * pev cs y ≤ y * pabs cs B:=Int.mul_le_mul_of_nonneg_left k2 h0
  have m2:y * -(pabs cs B) ≤ y * pev cs y:=Int.mul_le_mul_of_nonneg_left k1 h0
  have m3:y * pabs cs B ≤ B * pabs cs B:=Int.mul_le_mul_of_nonneg_right h1 k0
  have m4:0 ≤ y * pabs cs B:=Int.mul_nonneg h0 k0
  rw [Int.mul_neg] at m2
  simp only [pabs,pev]
  split <;> refine ⟨?_,?_,?_⟩ <;> omega
def serT:List Int:=[0,4768988719006436111262234168778648423474656980035636955663595829178822894077063921902894844467270927543474141934655026171951583604355055887615953102486438762529161216000,0,(-43087899414213674021824125643264255072305462219207007284242456456798725817691141891220050084051744617156383553793407931128471747317646658681962496000),0,116789985381818398160573898299231102288065772677584217151319844983904676864291965346766500211691480339536943806187305008155852800,0,(-150742804613711681364039825115385279235570281032314673924162220557576589258871909346252821120275293038182400),0,113496997394961198577319469229027706569291890953579835547744303126809085079968756531200,0,(-55933495975544804015926845529165017287291580706094561614752645120),0,19436928798524005033027957576502600238366720,0,(-5017514388048998039552),0,1]
def serN:Int:=4768988719006436111262234168778648423474656980035636955663595829178822894077063921902894844467270927543474141934655026171951583604355055887615953102486438762529161216000
def serG (q:Int):List Int:=padd (padd (pmul serT serT) (pmul (pcomp serT [q,-1]) (pcomp serT [q,-1]))) [-(serN * 4294967296 * (serN * 4294967296))]
theorem serG_small:pabs (serG 6746518852) 6746518852 * 1048576 ≤ serN * 4294967296 * (serN * 4294967296):=by decide +kernel
theorem serG_small':pabs (serG 6746518851) 6746518851 * 1048576 ≤ serN * 4294967296 * (serN * 4294967296):=by decide +kernel
theorem pev_G {q y:Int}:pev (serG q) y = pev serT y * pev serT y + pev serT (q - y) * pev serT (q - y) - serN * 4294967296 * (serN * 4294967296):=by
 unfold serG
 simp only [pev_add,pev_mul,pev_comp,pev]
 have e:q + y * (-1 + y * 0) = q - y:=by grind
 rw [e]
 generalize pev serT y = a
 generalize pev serT (q - y) = b
 generalize serN = n
 grind
theorem ser_circle {q y:Int} (hq:q = 6746518852 ∨ q = 6746518851) (h0:0 ≤ y) (h1:y ≤ q) :
  -(serN * 4294967296 * (serN * 4294967296)) ≤ 1048576 * (pev serT y * pev serT y + pev serT (q - y) * pev serT (q - y) - serN * 4294967296 * (serN * 4294967296)) ∧
  1048576 * (pev serT y * pev serT y + pev serT (q - y) * pev serT (q - y) - serN * 4294967296 * (serN * 4294967296)) ≤ serN * 4294967296 * (serN * 4294967296):=by
 rw [← pev_G]
 obtain ⟨k0,k1,k2⟩:=pev_bd h0 h1 (serG q)
 have hs:pabs (serG q) q * 1048576 ≤ serN * 4294967296 * (serN * 4294967296):=by
  rcases hq with rfl | rfl
  ·exact serG_small
  ·exact serG_small'
 generalize serN * 4294967296 * (serN * 4294967296) = M at *
 omega
theorem td_err {x k:Int} (hk:0 < k):-k < x - x.tdiv k * k ∧ x - x.tdiv k * k < k:=by
 rcases Int.le_total 0 x with h | h
 ·rw [Int.tdiv_eq_ediv_of_nonneg h]
  have h1:=Int.emod_nonneg x (by omega:k ≠ 0)
  have h2:=Int.emod_lt_of_pos x hk
  have h3:=Int.emod_add_mul_ediv x k
  rw [Int.mul_comm k] at h3
  omega
 ·have e:x.tdiv k = -((-x).tdiv k):=by rw [Int.neg_tdiv,Int.neg_neg]
  rw [e,Int.tdiv_eq_ediv_of_nonneg (by omega)]
  have h1:=Int.emod_nonneg (-x) (by omega:k ≠ 0)
  have h2:=Int.emod_lt_of_pos (-x) hk
  have h3:=Int.emod_add_mul_ediv (-x) k
  rw [Int.mul_comm k] at h3
  rw [Int.neg_mul]
  omega
theorem ab_mul {a b A B:Int} (ha:-A ≤ a ∧ a ≤ A) (hb:-B ≤ b ∧ b ≤ B):-(A * B) ≤ a * b ∧ a * b ≤ A * B:=by
 have hA:0 ≤ A:=by omega
 have hB:0 ≤ B:=by omega
 rcases Int.le_total 0 a with h | h
 ·have k1:a * b ≤ a * B:=Int.mul_le_mul_of_nonneg_left hb.2 h
  have k2:a * -B ≤ a * b:=Int.mul_le_mul_of_nonneg_left hb.1 h
  have k3:a * B ≤ A * B:=Int.mul_le_mul_of_nonneg_right ha.2 hB
  rw [Int.mul_neg] at k2
  omega
 ·have k1:-a * b ≤ -a * B:=Int.mul_le_mul_of_nonneg_left hb.2 (by omega)
  have k2:-a * -B ≤ -a * b:=Int.mul_le_mul_of_nonneg_left hb.1 (by omega)
  have k3:-a * B ≤ A * B:=Int.mul_le_mul_of_nonneg_right (by omega) hB
  simp only [Int.mul_neg,Int.neg_mul] at k1 k2 k3
  omega
def facM (k:Nat):Int:=2 * ((k:Int) + 1) * (2 * ((k:Int) + 1) + 1)
def tq (y:Int):Nat → Int
 | 0 => y
 | k + 1 => -((((tq y k * y).tdiv 4294967296 * y).tdiv 4294967296 * 4294967296).tdiv (facM k * 4294967296))
def sq (y:Int):Nat → Int
 | 0 => y
 | k + 1 => sq y k + tq y (k + 1)
def mq:Nat → Int
 | 0 => 1
 | k + 1 => mq k * (facM k * (4294967296 * 4294967296))
def xq (y:Int):Nat → Int
 | 0 => y
 | k + 1 => -(xq y k * (y * y))
theorem tq_neg (y:Int):∀ k,tq (-y) k = -tq y k
 | 0 => rfl
 | k + 1 => by
  simp only [tq,tq_neg y k,Int.mul_neg,Int.neg_tdiv,Int.neg_mul,Int.neg_neg]
theorem sq_neg (y:Int):∀ k,sq (-y) k = -sq y k
 | 0 => rfl
 | k + 1 => by simp only [sq,sq_neg y k,tq_neg]; omega
theorem ser_step {t y m:Int} (ht:-6746518852 ≤ t ∧ t ≤ 6746518852) (hy:-6746518852 ≤ y ∧ y ≤ 6746518852) (hm:6 ≤ m) :
  (-13493037704 ≤ (t * y).tdiv 4294967296 ∧ (t * y).tdiv 4294967296 ≤ 13493037704) ∧
  (-26986075408 ≤ ((t * y).tdiv 4294967296 * y).tdiv 4294967296 ∧ ((t * y).tdiv 4294967296 * y).tdiv 4294967296 ≤ 26986075408) ∧
  (-6746518852 ≤ -((((t * y).tdiv 4294967296 * y).tdiv 4294967296 * 4294967296).tdiv (m * 4294967296)) ∧ -((((t * y).tdiv 4294967296 * y).tdiv 4294967296 * 4294967296).tdiv (m * 4294967296)) ≤ 6746518852) ∧
  (-(3 + m) * 18446744073709551616 ≤ -((((t * y).tdiv 4294967296 * y).tdiv 4294967296 * 4294967296).tdiv (m * 4294967296)) * (m * 18446744073709551616) + t * (y * y) ∧
   -((((t * y).tdiv 4294967296 * y).tdiv 4294967296 * 4294967296).tdiv (m * 4294967296)) * (m * 18446744073709551616) + t * (y * y) ≤ (3 + m) * 18446744073709551616):=by
 have e3:=td_err (x:=t * y) (k:=4294967296) (by decide)
 have m3:=ab_mul ht hy
 generalize hA:(t * y).tdiv 4294967296 = a at *
 have ba:-13493037704 ≤ a ∧ a ≤ 13493037704:=by omega
 have e2:=td_err (x:=a * y) (k:=4294967296) (by decide)
 have m2:=ab_mul ba hy
 generalize hB:(a * y).tdiv 4294967296 = b at *
 have bb:-26986075408 ≤ b ∧ b ≤ 26986075408:=by omega
 have hm':0 < m * 4294967296:=by omega
 have e1:=td_err (x:=b * 4294967296) (k:=m * 4294967296) hm'
 generalize hC:(b * 4294967296).tdiv (m * 4294967296) = c at *
 have e1':c * (m * 4294967296) = (c * m) * 4294967296:=by grind
 rw [e1'] at e1
 have e0:-m < b - c * m ∧ b - c * m < m:=by omega
 have bc:-6746518852 ≤ c ∧ c ≤ 6746518852:=by
  constructor
  ·refine Int.not_lt.1 fun h => ?_
   have:c * m ≤ (-6746518853) * m:=Int.mul_le_mul_of_nonneg_right (by omega) (by omega)
   omega
  ·refine Int.not_lt.1 fun h => ?_
   have:6746518853 * m ≤ c * m:=Int.mul_le_mul_of_nonneg_right (by omega) (by omega)
   omega
 refine ⟨ba,bb,by omega,?_⟩
 have r3:-4294967296 ≤ t * y - a * 4294967296 ∧ t * y - a * 4294967296 ≤ 4294967296:=by omega
 have k3:=ab_mul r3 hy
 have id1:-c * (m * 18446744073709551616) + t * (y * y) = (t * y - a * 4294967296) * y + (a * y - b * 4294967296) * 4294967296 + (b - c * m) * 18446744073709551616:=by grind
 rw [id1]
 omega
theorem facM_ge (k:Nat):6 ≤ facM k:=by
 unfold facM
 have h1:(2:Int) * ((k:Int) + 1) ≥ 2:=by omega
 have h2:(2:Int) * ((k:Int) + 1) + 1 ≥ 3:=by omega
 have:=Int.mul_le_mul h1 h2 (by omega) (by omega)
 omega
theorem facM_ge1 (k:Nat):20 ≤ facM (k + 1):=by
 unfold facM
 have h1:(2:Int) * (((k + 1:Nat):Int) + 1) ≥ 4:=by omega
 have h2:(2:Int) * (((k + 1:Nat):Int) + 1) + 1 ≥ 5:=by omega
 have:=Int.mul_le_mul h1 h2 (by omega) (by omega)
 omega
theorem mq_pos:∀ k,0 < mq k
 | 0 => by decide
 | k + 1 => by
  simp only [mq]
  have:=facM_ge k
  exact Int.mul_pos (mq_pos k) (Int.mul_pos (by omega) (by decide))
theorem tq_le {y:Int} (hy:-6746518852 ≤ y ∧ y ≤ 6746518852):∀ k,-6746518852 ≤ tq y k ∧ tq y k ≤ 6746518852
 | 0 => hy
 | k + 1 => (ser_step (tq_le hy k) hy (facM_ge k)).2.2.1
theorem err_step {t t' y m M X d:Int} (hM:0 < M) (hy:-6746518852 ≤ y ∧ y ≤ 6746518852) (hd:0 ≤ d) (hd2:d ≤ 2) (h:-(d * M) ≤ t * M - X ∧ t * M - X ≤ d * M)
  (he:-(3 + m) * 18446744073709551616 ≤ t' * (m * 18446744073709551616) + t * (y * y) ∧ t' * (m * 18446744073709551616) + t * (y * y) ≤ (3 + m) * 18446744073709551616) (hm:3 * d + 3 ≤ m) :
  -(2 * (M * (m * (4294967296 * 4294967296)))) ≤ t' * (M * (m * (4294967296 * 4294967296))) - -(X * (y * y)) ∧ t' * (M * (m * (4294967296 * 4294967296))) - -(X * (y * y)) ≤ 2 * (M * (m * (4294967296 * 4294967296))):=by
 have hyy:=ab_mul hy hy
 have y0:0 ≤ y * y:=by
  rcases Int.le_total 0 y with h | h
  ·exact Int.mul_nonneg h h
  ·have:=Int.mul_nonneg (show 0 ≤ -y by omega) (show 0 ≤ -y by omega)
   rwa [Int.neg_mul_neg] at this
 have id1:t' * (M * (m * (4294967296 * 4294967296))) - -(X * (y * y)) = M * (t' * (m * 18446744073709551616) + t * (y * y)) - (t * M - X) * (y * y):=by grind
 rw [id1]
 generalize t * M - X = e at *
 generalize t' * (m * 18446744073709551616) + t * (y * y) = f at *
 generalize y * y = q at *
 have k1:=ab_mul (a:=e) (A:=d * M) h (b:=q) (B:=3 * 18446744073709551616) (by omega)
 have k2:M * f ≤ M * ((3 + m) * 18446744073709551616):=Int.mul_le_mul_of_nonneg_left he.2 (by omega)
 have k3:M * (-(3 + m) * 18446744073709551616) ≤ M * f:=Int.mul_le_mul_of_nonneg_left he.1 (by omega)
 have k4:M * (3 * d + 3) ≤ M * m:=Int.mul_le_mul_of_nonneg_left hm (by omega)
 have j1:M * ((3 + m) * 18446744073709551616) = (3 * M + M * m) * 18446744073709551616:=by grind
 have j2:M * (-(3 + m) * 18446744073709551616) = -((3 * M + M * m) * 18446744073709551616):=by grind
 have j3:d * M * (3 * 18446744073709551616) = (3 * (M * d)) * 18446744073709551616:=by grind
 have j4:M * (3 * d + 3) = 3 * (M * d) + 3 * M:=by grind
 have j5:M * (m * (4294967296 * 4294967296)) = (M * m) * 18446744073709551616:=by grind
 rw [j1] at k2
 rw [j2] at k3
 rw [j3] at k1
 rw [j4] at k4
 rw [j5]
 omega
theorem ser_err {y:Int} (hy:-6746518852 ≤ y ∧ y ≤ 6746518852):∀ k,-(2 * mq (k + 1)) ≤ tq y (k + 1) * mq (k + 1) - xq y (k + 1) ∧ tq y (k + 1) * mq (k + 1) - xq y (k + 1) ≤ 2 * mq (k + 1)
 | 0 => by
  have h:=ser_step (t:=tq y 0) hy hy (facM_ge 0)
  exact err_step (d:=0) (t:=tq y 0) (M:=mq 0) (X:=xq y 0) (m:=facM 0) (mq_pos 0) hy (by omega) (by omega) (by simp [tq,mq,xq]) h.2.2.2 (by have:=facM_ge 0; omega)
 | k + 1 => by
  have h:=ser_step (tq_le hy (k + 1)) hy (facM_ge (k + 1))
  exact err_step (d:=2) (t:=tq y (k + 1)) (M:=mq (k + 1)) (X:=xq y (k + 1)) (m:=facM (k + 1)) (mq_pos _) hy (by omega) (by omega) (ser_err hy k) h.2.2.2 (by have:=facM_ge1 k; omega)
theorem mq_1:mq 1 * 43087899414213674021824125643264255072305462219207007284242456456798725817691141891220050084051744617156383553793407931128471747317646658681962496000 = serN:=by decide +kernel
theorem mq_2:mq 2 * 116789985381818398160573898299231102288065772677584217151319844983904676864291965346766500211691480339536943806187305008155852800 = serN:=by decide +kernel
theorem mq_3:mq 3 * 150742804613711681364039825115385279235570281032314673924162220557576589258871909346252821120275293038182400 = serN:=by decide +kernel
theorem mq_4:mq 4 * 113496997394961198577319469229027706569291890953579835547744303126809085079968756531200 = serN:=by decide +kernel
theorem mq_5:mq 5 * 55933495975544804015926845529165017287291580706094561614752645120 = serN:=by decide +kernel
theorem mq_6:mq 6 * 19436928798524005033027957576502600238366720 = serN:=by decide +kernel
theorem mq_7:mq 7 * 5017514388048998039552 = serN:=by decide +kernel
theorem mq_8:mq 8 * 1 = serN:=by decide +kernel
theorem err_R {t M X r N:Int} (hM:0 < M) (hr:0 ≤ r) (e:M * r = N) (h:-(2 * M) ≤ t * M - X ∧ t * M - X ≤ 2 * M):-(2 * N) ≤ t * N - X * r ∧ t * N - X * r ≤ 2 * N:=by
 have k1:=Int.mul_le_mul_of_nonneg_right h.1 hr
 have k2:=Int.mul_le_mul_of_nonneg_right h.2 hr
 subst e
 have j1:-(2 * M) * r = -(2 * (M * r)):=by grind
 have j2:(t * M - X) * r = t * (M * r) - X * r:=by grind
 have j3:2 * M * r = 2 * (M * r):=by grind
 rw [j1,j2] at k1
 rw [j2,j3] at k2
 exact ⟨k1,k2⟩
theorem ser_sum {y:Int} (hy:-6746518852 ≤ y ∧ y ≤ 6746518852):-(16 * serN) ≤ sq y 8 * serN - pev serT y ∧ sq y 8 * serN - pev serT y ≤ 16 * serN:=by
 have e1:-(2 * serN) ≤ tq y 1 * serN - xq y 1 * 43087899414213674021824125643264255072305462219207007284242456456798725817691141891220050084051744617156383553793407931128471747317646658681962496000 ∧ tq y 1 * serN - xq y 1 * 43087899414213674021824125643264255072305462219207007284242456456798725817691141891220050084051744617156383553793407931128471747317646658681962496000 ≤ 2 * serN:=err_R (mq_pos 1) (by decide) mq_1 (ser_err hy 0)
 have e2:-(2 * serN) ≤ tq y 2 * serN - xq y 2 * 116789985381818398160573898299231102288065772677584217151319844983904676864291965346766500211691480339536943806187305008155852800 ∧ tq y 2 * serN - xq y 2 * 116789985381818398160573898299231102288065772677584217151319844983904676864291965346766500211691480339536943806187305008155852800 ≤ 2 * serN:=err_R (mq_pos 2) (by decide) mq_2 (ser_err hy 1)
 have e3:-(2 * serN) ≤ tq y 3 * serN - xq y 3 * 150742804613711681364039825115385279235570281032314673924162220557576589258871909346252821120275293038182400 ∧ tq y 3 * serN - xq y 3 * 150742804613711681364039825115385279235570281032314673924162220557576589258871909346252821120275293038182400 ≤ 2 * serN:=err_R (mq_pos 3) (by decide) mq_3 (ser_err hy 2)
 have e4:-(2 * serN) ≤ tq y 4 * serN - xq y 4 * 113496997394961198577319469229027706569291890953579835547744303126809085079968756531200 ∧ tq y 4 * serN - xq y 4 * 113496997394961198577319469229027706569291890953579835547744303126809085079968756531200 ≤ 2 * serN:=err_R (mq_pos 4) (by decide) mq_4 (ser_err hy 3)
 have e5:-(2 * serN) ≤ tq y 5 * serN - xq y 5 * 55933495975544804015926845529165017287291580706094561614752645120 ∧ tq y 5 * serN - xq y 5 * 55933495975544804015926845529165017287291580706094561614752645120 ≤ 2 * serN:=err_R (mq_pos 5) (by decide) mq_5 (ser_err hy 4)
 have e6:-(2 * serN) ≤ tq y 6 * serN - xq y 6 * 19436928798524005033027957576502600238366720 ∧ tq y 6 * serN - xq y 6 * 19436928798524005033027957576502600238366720 ≤ 2 * serN:=err_R (mq_pos 6) (by decide) mq_6 (ser_err hy 5)
 have e7:-(2 * serN) ≤ tq y 7 * serN - xq y 7 * 5017514388048998039552 ∧ tq y 7 * serN - xq y 7 * 5017514388048998039552 ≤ 2 * serN:=err_R (mq_pos 7) (by decide) mq_7 (ser_err hy 6)
 have e8:-(2 * serN) ≤ tq y 8 * serN - xq y 8 * 1 ∧ tq y 8 * serN - xq y 8 * 1 ≤ 2 * serN:=err_R (mq_pos 8) (by decide) mq_8 (ser_err hy 7)
 have hs:sq y 8 * serN = y * serN + tq y 1 * serN + tq y 2 * serN + tq y 3 * serN + tq y 4 * serN + tq y 5 * serN + tq y 6 * serN + tq y 7 * serN + tq y 8 * serN:=by
  simp only [sq]
  generalize serN = n
  grind
 have hp:pev serT y = y * serN + xq y 1 * 43087899414213674021824125643264255072305462219207007284242456456798725817691141891220050084051744617156383553793407931128471747317646658681962496000 + xq y 2 * 116789985381818398160573898299231102288065772677584217151319844983904676864291965346766500211691480339536943806187305008155852800 + xq y 3 * 150742804613711681364039825115385279235570281032314673924162220557576589258871909346252821120275293038182400 + xq y 4 * 113496997394961198577319469229027706569291890953579835547744303126809085079968756531200 + xq y 5 * 55933495975544804015926845529165017287291580706094561614752645120 + xq y 6 * 19436928798524005033027957576502600238366720 + xq y 7 * 5017514388048998039552 + xq y 8 * 1:=by
  simp only [xq,pev,serT,serN]
  grind
 rw [hs,hp]
 omega
theorem sq_circle0 {q y:Int} (hq:q = 6746518852 ∨ q = 6746518851) (h0:0 ≤ y) (h1:y ≤ q) :
  -35184372088832 ≤ sq y 8 * sq y 8 + sq (q - y) 8 * sq (q - y) 8 - 18446744073709551616 ∧ sq y 8 * sq y 8 + sq (q - y) 8 * sq (q - y) 8 - 18446744073709551616 ≤ 35184372088832:=by
 have hc:=ser_circle hq h0 h1
 have ha:=ser_sum (y:=y) (by omega)
 have hb:=ser_sum (y:=q - y) (by omega)
 generalize sq y 8 = S at *
 generalize sq (q - y) 8 = C at *
 generalize pev serT y = A at *
 generalize pev serT (q - y) = B at *
 have hN:0 < serN:=by decide +kernel
 have hN1:1000000 ≤ serN:=by decide +kernel
 generalize serN = N at *
 have sqA:0 ≤ A * A:=by
  rcases Int.le_total 0 A with h | h
  ·exact Int.mul_nonneg h h
  ·have:=Int.mul_nonneg (show 0 ≤ -A by omega) (show 0 ≤ -A by omega)
   rwa [Int.neg_mul_neg] at this
 have sqB:0 ≤ B * B:=by
  rcases Int.le_total 0 B with h | h
  ·exact Int.mul_nonneg h h
  ·have:=Int.mul_nonneg (show 0 ≤ -B by omega) (show 0 ≤ -B by omega)
   rwa [Int.neg_mul_neg] at this
 have jN:N * 4294967296 * (N * 4294967296) = (N * N) * 18446744073709551616:=by grind
 rw [jN] at hc
 have nn:0 < N * N:=Int.mul_pos hN hN
 have big:∀ X:Int,X * X ≤ (N * N) * 18446744073709551616 * 2 → -(2 * (N * 4294967296)) ≤ X ∧ X ≤ 2 * (N * 4294967296):=fun X hX => by
  have p0:0 < N * 4294967296:=by omega
  constructor
  ·refine Int.not_lt.1 fun h => ?_
   have h1:2 * (N * 4294967296) ≤ -X:=by omega
   have h2:=Int.mul_le_mul h1 h1 (by omega) (by omega)
   have h3:2 * (N * 4294967296) * (2 * (N * 4294967296)) = (N * N) * 18446744073709551616 * 4:=by grind
   have h4:-X * -X = X * X:=by grind
   rw [h3,h4] at h2
   omega
  ·refine Int.not_lt.1 fun h => ?_
   have h1:2 * (N * 4294967296) ≤ X:=by omega
   have h2:=Int.mul_le_mul h1 h1 (by omega) (by omega)
   have h3:2 * (N * 4294967296) * (2 * (N * 4294967296)) = (N * N) * 18446744073709551616 * 4:=by grind
   rw [h3] at h2
   omega
 have bA:=big A (by omega)
 have bB:=big B (by omega)
 have err:∀ X s:Int,-(2 * (N * 4294967296)) ≤ X ∧ X ≤ 2 * (N * 4294967296) → -(16 * N) ≤ s * N - X ∧ s * N - X ≤ 16 * N → -((N * N) * 300000000000) ≤ (s * s) * (N * N) - X * X ∧ (s * s) * (N * N) - X * X ≤ (N * N) * 300000000000:=fun X s hX hs => by
  have id1:(s * s) * (N * N) - X * X = (s * N - X) * (s * N - X) + 2 * ((s * N - X) * X):=by grind
  rw [id1]
  have k1:=ab_mul hs hs
  have k2:=ab_mul hs hX
  have j1:16 * N * (16 * N) = (N * N) * 256:=by grind
  have j2:16 * N * (2 * (N * 4294967296)) = (N * N) * 137438953472:=by grind
  rw [j1] at k1
  rw [j2] at k2
  omega
 have eA:=err A S bA ha
 have eB:=err B C bB hb
 have fin:∀ z:Int,z * (N * N) ≤ (N * N) * 18000000000000 → z ≤ 18000000000000:=fun z hz => Int.not_lt.1 fun h => by
  have:=Int.mul_lt_mul_of_pos_left h nn
  rw [Int.mul_comm] at this
  have e:N * N * z = z * (N * N):=Int.mul_comm _ _
  omega
 have u1:(S * S + C * C - 18446744073709551616) * (N * N) ≤ (N * N) * 18000000000000 + (N * N) * 600000000000:=by
  have e:(S * S + C * C - 18446744073709551616) * (N * N) = S * S * (N * N) + C * C * (N * N) - (N * N) * 18446744073709551616:=by grind
  rw [e]; omega
 have u2:-((N * N) * 18000000000000 + (N * N) * 600000000000) ≤ (S * S + C * C - 18446744073709551616) * (N * N):=by
  have e:(S * S + C * C - 18446744073709551616) * (N * N) = S * S * (N * N) + C * C * (N * N) - (N * N) * 18446744073709551616:=by grind
  rw [e]; omega
 have fin2:∀ z:Int,z * (N * N) ≤ (N * N) * 35184372088832 → z ≤ 35184372088832:=fun z hz => Int.not_lt.1 fun h => by
  have h2:=Int.mul_lt_mul_of_pos_left h nn
  have e:N * N * z = z * (N * N):=Int.mul_comm _ _
  omega
 constructor
 ·have:=fin2 (-(S * S + C * C - 18446744073709551616)) (by rw [Int.neg_mul]; omega)
  omega
 ·exact fin2 _ (by omega)
theorem sq_circle {y z:Int} (hy:-6746518852 ≤ y ∧ y ≤ 6746518852) {q:Int} (hq:q = 6746518852 ∨ q = 6746518851) (h1:(if y < 0 then -y else y) ≤ q) (hz:(if z < 0 then -z else z) = q - (if y < 0 then -y else y)) :
  -35184372088832 ≤ sq y 8 * sq y 8 + sq z 8 * sq z 8 - 18446744073709551616 ∧ sq y 8 * sq y 8 + sq z 8 * sq z 8 - 18446744073709551616 ≤ 35184372088832:=by
 have h:=sq_circle0 (y:=if y < 0 then -y else y) hq (by split <;> omega) h1
 rw [← hz] at h
 have e:∀ x:Int,sq (if x < 0 then -x else x) 8 * sq (if x < 0 then -x else x) 8 = sq x 8 * sq x 8:=fun x => by
  split
  ·rw [sq_neg,Int.neg_mul_neg]
  ·rfl
 rw [e,e] at h
 exact h
end Go.Ax
end
section
/-
  The sine's series, ars plain numbers.
-/
set_option maxHeartbeats 4000000
set_option maxRecDepth 100000
namespace Go.Ax
open Go.Proofs
theorem whF_in {x:Int} (h:-1000000000000000000 ≤ x):whF x false = false:=by
 unfold whF
 simp
 omega
theorem whV_in {x:Int} (h:-1000000000000000000 ≤ x) (h2:x ≤ 1000000000000000000):whV x = x:=by
 unfold whV
 split <;> omega
theorem ftV_in {x:Int} (h:-1000000000000000000 ≤ x) (h2:x ≤ 1000000000000000000):ftV x = x:=by
 unfold ftV
 (repeat' split) <;> omega
theorem ftF_in {x:Int} (h:-1000000000000000000 ≤ x) (h2:x ≤ 1000000000000000000):ftF x = false:=by
 unfold ftF
 simp
 omega
theorem td_le {x A:Int} (h:-(A * 4294967296) ≤ x ∧ x ≤ A * 4294967296):-A ≤ x.tdiv 4294967296 ∧ x.tdiv 4294967296 ≤ A:=by
 have e:=@td_err x 4294967296 (by omega)
 omega
theorem nMul_in {t y:Int} (ht:-100000000000 ≤ t ∧ t ≤ 100000000000) (hy:-6746518852 ≤ y ∧ y ≤ 6746518852):nMul (t,false) (y,false) = ((t * y).tdiv 4294967296,false) ∧ (-200000000000 ≤ (t * y).tdiv 4294967296 ∧ (t * y).tdiv 4294967296 ≤ 200000000000):=by
 have h:=ab_mul ht hy
 have h2:=@td_le (t * y) 200000000000 (by omega)
 refine ⟨?_,h2⟩
 unfold nMul
 dsimp only
 rw [whV_in (by omega) (by omega),whV_in (by omega) (by omega),ftV_in (by omega) (by omega),ftF_in (by omega) (by omega),whF_in (by omega),whF_in (by omega)]
 rfl
theorem nInt_in {n:Int} (h:0 ≤ n ∧ n ≤ 1000000):nInt n = (n * 4294967296,false):=by
 unfold nInt
 rw [ftV_in (by omega) (by omega),ftF_in (by omega) (by omega)]
 rfl
theorem facM_le {k:Nat} (h:k < 8):facM k ≤ 1000:=by
 unfold facM
 match k,h with
 | 0,_ | 1,_ | 2,_ | 3,_ | 4,_ | 5,_ | 6,_ | 7,_ => decide
 | k + 8,h => omega
theorem snT_eq {y:Int} (hy:-6746518852 ≤ y ∧ y ≤ 6746518852):∀ k,k ≤ 8 → snT (y,false) k = (tq y k,false)
 | 0,_ => rfl
 | k + 1,hk => by
  have ht:=tq_le hy k
  have g1:=facM_ge k
  have g2:=@facM_le k (by omega)
  obtain ⟨s1,s2,s3,s4⟩:=ser_step (m:=facM k) ht hy g1
  show nNeg (nDiv (nMul (nMul (snT (y,false) k) (y,false)) (y,false)) (nInt (facM k))) = _
  rw [snT_eq hy k (by omega),(nMul_in (by omega) hy).1,(nMul_in (by omega) hy).1,nInt_in (by omega)]
  show nNeg (nDiv _ _) = (-((((tq y k * y).tdiv 4294967296 * y).tdiv 4294967296 * 4294967296).tdiv (facM k * 4294967296)),false)
  generalize ((tq y k * y).tdiv 4294967296 * y).tdiv 4294967296 = u at *
  unfold nDiv raV raF
  dsimp only
  rw [whV_in (by omega) (by omega),whV_in (by omega) (by omega),if_neg (by omega),if_neg (by omega)]
  generalize (u * 4294967296).tdiv (facM k * 4294967296) = v at *
  rw [ftV_in (by omega) (by omega),ftF_in (by omega) (by omega),whF_in (by omega),whF_in (by omega)]
  unfold nNeg
  dsimp only
  rw [whV_in (by omega) (by omega)]
  show (-v,whF v false) = _
  rw [whF_in (by omega)]
theorem sqj_le {y:Int} (hy:-6746518852 ≤ y ∧ y ≤ 6746518852):∀ k:Nat,k ≤ 8 → -((k + 1:Int) * 6746518852) ≤ sq y k ∧ sq y k ≤ (k + 1:Int) * 6746518852
 | 0,_ => by
  show _ ≤ y ∧ y ≤ _
  omega
 | k + 1,hk => by
  have h1:=sqj_le hy k (by omega)
  have h2:=tq_le hy (k + 1)
  show _ ≤ sq y k + tq y (k + 1) ∧ sq y k + tq y (k + 1) ≤ _
  omega
theorem snS_eq {y:Int} (hy:-6746518852 ≤ y ∧ y ≤ 6746518852):∀ k,k ≤ 8 → snS (y,false) k = (sq y k,false)
 | 0,_ => rfl
 | k + 1,hk => by
  have h1:=sqj_le hy k (by omega)
  have h2:=tq_le hy (k + 1)
  show nAdd (snS (y,false) k) (snT (y,false) (k + 1)) = (sq y k + tq y (k + 1),false)
  rw [snS_eq hy k (by omega),snT_eq hy (k + 1) hk]
  unfold nAdd
  dsimp only
  rw [whV_in (by omega) (by omega),whV_in (by omega) (by omega),ftV_in (by omega) (by omega),ftF_in (by omega) (by omega),whF_in (by omega),whF_in (by omega)]
  rfl
end Go.Ax
end
section
/-
  Made polygons are convex.
-/
set_option maxHeartbeats 4000000
set_option maxRecDepth 100000
namespace Go.Ax
open Go.Proofs
theorem mul_ge {M T:Int} (hM:64 ≤ M) (hT:64 ≤ T):64 * M ≤ M * T ∧ 64 * T ≤ M * T:=by
 have h1:M * 64 ≤ M * T:=Int.mul_le_mul_of_nonneg_left hT (by omega)
 have h2:64 * T ≤ M * T:=Int.mul_le_mul_of_nonneg_right hM (by omega)
 omega
theorem tri_cvx {M T:Int} (hM:64 ≤ M) (hT:64 ≤ T) {X Y:Nat → Int} (x0:X 0 = -M) (x1:X 1 = M) (x2:X 2 = 0) (y0:Y 0 = -T) (y1:Y 1 = -T) (y2:Y 2 = T):cvxS 3 X Y = true:=by
 obtain ⟨p1,p2⟩:=mul_ge hM hT
 unfold cvxS
 refine decide_eq_true fun i hi => ?_
 match i,hi with
 | 0,_ =>
  rw [show nxt 3 0 = 1 from rfl,show nxt2 3 0 = 2 from rfl,x0,x1,x2,y0,y1,y2]
  refine ⟨?_,fun j hj k1 k2 => ?_⟩
  ·simp only [Int.sub_mul,Int.mul_sub,Int.add_mul,Int.mul_add,Int.neg_mul,Int.mul_neg,Int.zero_mul,Int.mul_zero,Int.mul_comm T M,Int.neg_neg,ab]
   (repeat' split) <;> omega
  ·match j,hj,k1,k2 with
   | 0,_,k1,k2 => exact absurd rfl k1
   | 1,_,k1,k2 => exact absurd rfl k2
   | 2,_,_,_ =>
    rw [x2,y2]
    simp only [Int.sub_mul,Int.mul_sub,Int.add_mul,Int.mul_add,Int.neg_mul,Int.mul_neg,Int.zero_mul,Int.mul_zero,Int.mul_comm T M,Int.neg_neg,ab]
    omega
   | j + 3,h,_,_ => omega
 | 1,_ =>
  rw [show nxt 3 1 = 2 from rfl,show nxt2 3 1 = 0 from rfl,x0,x1,x2,y0,y1,y2]
  refine ⟨?_,fun j hj k1 k2 => ?_⟩
  ·simp only [Int.sub_mul,Int.mul_sub,Int.add_mul,Int.mul_add,Int.neg_mul,Int.mul_neg,Int.zero_mul,Int.mul_zero,Int.mul_comm T M,Int.neg_neg,ab]
   (repeat' split) <;> omega
  ·match j,hj,k1,k2 with
   | 0,_,_,_ =>
    rw [x0,y0]
    simp only [Int.sub_mul,Int.mul_sub,Int.add_mul,Int.mul_add,Int.neg_mul,Int.mul_neg,Int.zero_mul,Int.mul_zero,Int.mul_comm T M,Int.neg_neg,ab]
    omega
   | 1,_,k1,k2 => exact absurd rfl k1
   | 2,_,k1,k2 => exact absurd rfl k2
   | j + 3,h,_,_ => omega
 | 2,_ =>
  rw [show nxt 3 2 = 0 from rfl,show nxt2 3 2 = 1 from rfl,x0,x1,x2,y0,y1,y2]
  refine ⟨?_,fun j hj k1 k2 => ?_⟩
  ·simp only [Int.sub_mul,Int.mul_sub,Int.add_mul,Int.mul_add,Int.neg_mul,Int.mul_neg,Int.zero_mul,Int.mul_zero,Int.mul_comm T M,Int.neg_neg,ab]
   (repeat' split) <;> omega
  ·match j,hj,k1,k2 with
   | 0,_,k1,k2 => exact absurd rfl k2
   | 1,_,_,_ =>
    rw [x1,y1]
    simp only [Int.sub_mul,Int.mul_sub,Int.add_mul,Int.mul_add,Int.neg_mul,Int.mul_neg,Int.zero_mul,Int.mul_zero,Int.mul_comm T M,Int.neg_neg,ab]
    omega
   | 2,_,k1,k2 => exact absurd rfl k1
   | j + 3,h,_,_ => omega
 | i + 3,h => omega
end Go.Ax
end
section
/-
  Made polygons of five and eight corners are convex.
-/
set_option maxHeartbeats 4000000
set_option maxRecDepth 100000
namespace Go.Ax
open Go.Proofs
theorem pen_cvx {M T h:Int} (hM:64 ≤ M) (hT:64 ≤ T) (h1:2 * h ≤ M) (h2:M ≤ 2 * h + 1) {X Y:Nat → Int} (x0:X 0 = -h) (y0:Y 0 = -T) (x1:X 1 = h) (y1:Y 1 = -T) (x2:X 2 = M) (y2:Y 2 = 0) (x3:X 3 = 0) (y3:Y 3 = T) (x4:X 4 = -M) (y4:Y 4 = 0):cvxS 5 X Y = true:=by
 obtain ⟨p1,p2⟩:=mul_ge hM hT
 have q1:(2 * h) * T ≤ M * T:=Int.mul_le_mul_of_nonneg_right h1 (by omega)
 have q2:M * T ≤ (2 * h + 1) * T:=Int.mul_le_mul_of_nonneg_right h2 (by omega)
 have q3:h * 64 ≤ h * T:=Int.mul_le_mul_of_nonneg_left hT (by omega)
 rw [Int.mul_assoc] at q1
 rw [Int.add_mul,Int.mul_assoc,Int.one_mul] at q2
 unfold cvxS
 refine decide_eq_true fun i hi => ?_
 match i,hi with
 | 0,_ =>
  rw [show nxt 5 0 = 1 from rfl,show nxt2 5 0 = 2 from rfl,x0,x1,x2,y0,y1,y2]
  refine ⟨?_,fun j hj k1 k2 => ?_⟩
  ·simp only [Int.sub_mul,Int.mul_sub,Int.add_mul,Int.mul_add,Int.neg_mul,Int.mul_neg,Int.zero_mul,Int.mul_zero,Int.mul_comm T M,Int.mul_comm T h,Int.neg_neg,ab]
   (repeat' split) <;> omega
  ·match j,hj,k1,k2 with
   | 0,_,k1,k2 => exact absurd rfl k1
   | 1,_,k1,k2 => exact absurd rfl k2
   | 2,_,_,_ =>
    rw [x2,y2]
    simp only [Int.sub_mul,Int.mul_sub,Int.add_mul,Int.mul_add,Int.neg_mul,Int.mul_neg,Int.zero_mul,Int.mul_zero,Int.mul_comm T M,Int.mul_comm T h,Int.neg_neg,ab]
    omega
   | 3,_,_,_ =>
    rw [x3,y3]
    simp only [Int.sub_mul,Int.mul_sub,Int.add_mul,Int.mul_add,Int.neg_mul,Int.mul_neg,Int.zero_mul,Int.mul_zero,Int.mul_comm T M,Int.mul_comm T h,Int.neg_neg,ab]
    omega
   | 4,_,_,_ =>
    rw [x4,y4]
    simp only [Int.sub_mul,Int.mul_sub,Int.add_mul,Int.mul_add,Int.neg_mul,Int.mul_neg,Int.zero_mul,Int.mul_zero,Int.mul_comm T M,Int.mul_comm T h,Int.neg_neg,ab]
    omega
   | j + 5,h,_,_ => omega
 | 1,_ =>
  rw [show nxt 5 1 = 2 from rfl,show nxt2 5 1 = 3 from rfl,x1,x2,x3,y1,y2,y3]
  refine ⟨?_,fun j hj k1 k2 => ?_⟩
  ·simp only [Int.sub_mul,Int.mul_sub,Int.add_mul,Int.mul_add,Int.neg_mul,Int.mul_neg,Int.zero_mul,Int.mul_zero,Int.mul_comm T M,Int.mul_comm T h,Int.neg_neg,ab]
   (repeat' split) <;> omega
  ·match j,hj,k1,k2 with
   | 0,_,_,_ =>
    rw [x0,y0]
    simp only [Int.sub_mul,Int.mul_sub,Int.add_mul,Int.mul_add,Int.neg_mul,Int.mul_neg,Int.zero_mul,Int.mul_zero,Int.mul_comm T M,Int.mul_comm T h,Int.neg_neg,ab]
    omega
   | 1,_,k1,k2 => exact absurd rfl k1
   | 2,_,k1,k2 => exact absurd rfl k2
   | 3,_,_,_ =>
    rw [x3,y3]
    simp only [Int.sub_mul,Int.mul_sub,Int.add_mul,Int.mul_add,Int.neg_mul,Int.mul_neg,Int.zero_mul,Int.mul_zero,Int.mul_comm T M,Int.mul_comm T h,Int.neg_neg,ab]
    omega
   | 4,_,_,_ =>
    rw [x4,y4]
    simp only [Int.sub_mul,Int.mul_sub,Int.add_mul,Int.mul_add,Int.neg_mul,Int.mul_neg,Int.zero_mul,Int.mul_zero,Int.mul_comm T M,Int.mul_comm T h,Int.neg_neg,ab]
    omega
   | j + 5,h,_,_ => omega
 | 2,_ =>
  rw [show nxt 5 2 = 3 from rfl,show nxt2 5 2 = 4 from rfl,x2,x3,x4,y2,y3,y4]
  refine ⟨?_,fun j hj k1 k2 => ?_⟩
  ·simp only [Int.sub_mul,Int.mul_sub,Int.add_mul,Int.mul_add,Int.neg_mul,Int.mul_neg,Int.zero_mul,Int.mul_zero,Int.mul_comm T M,Int.mul_comm T h,Int.neg_neg,ab]
   (repeat' split) <;> omega
  ·match j,hj,k1,k2 with
   | 0,_,_,_ =>
    rw [x0,y0]
    simp only [Int.sub_mul,Int.mul_sub,Int.add_mul,Int.mul_add,Int.neg_mul,Int.mul_neg,Int.zero_mul,Int.mul_zero,Int.mul_comm T M,Int.mul_comm T h,Int.neg_neg,ab]
    omega
   | 1,_,_,_ =>
    rw [x1,y1]
    simp only [Int.sub_mul,Int.mul_sub,Int.add_mul,Int.mul_add,Int.neg_mul,Int.mul_neg,Int.zero_mul,Int.mul_zero,Int.mul_comm T M,Int.mul_comm T h,Int.neg_neg,ab]
    omega
   | 2,_,k1,k2 => exact absurd rfl k1
   | 3,_,k1,k2 => exact absurd rfl k2
   | 4,_,_,_ =>
    rw [x4,y4]
    simp only [Int.sub_mul,Int.mul_sub,Int.add_mul,Int.mul_add,Int.neg_mul,Int.mul_neg,Int.zero_mul,Int.mul_zero,Int.mul_comm T M,Int.mul_comm T h,Int.neg_neg,ab]
    omega
   | j + 5,h,_,_ => omega
 | 3,_ =>
  rw [show nxt 5 3 = 4 from rfl,show nxt2 5 3 = 0 from rfl,x3,x4,x0,y3,y4,y0]
  refine ⟨?_,fun j hj k1 k2 => ?_⟩
  ·simp only [Int.sub_mul,Int.mul_sub,Int.add_mul,Int.mul_add,Int.neg_mul,Int.mul_neg,Int.zero_mul,Int.mul_zero,Int.mul_comm T M,Int.mul_comm T h,Int.neg_neg,ab]
   (repeat' split) <;> omega
  ·match j,hj,k1,k2 with
   | 0,_,_,_ =>
    rw [x0,y0]
    simp only [Int.sub_mul,Int.mul_sub,Int.add_mul,Int.mul_add,Int.neg_mul,Int.mul_neg,Int.zero_mul,Int.mul_zero,Int.mul_comm T M,Int.mul_comm T h,Int.neg_neg,ab]
    omega
   | 1,_,_,_ =>
    rw [x1,y1]
    simp only [Int.sub_mul,Int.mul_sub,Int.add_mul,Int.mul_add,Int.neg_mul,Int.mul_neg,Int.zero_mul,Int.mul_zero,Int.mul_comm T M,Int.mul_comm T h,Int.neg_neg,ab]
    omega
   | 2,_,_,_ =>
    rw [x2,y2]
    simp only [Int.sub_mul,Int.mul_sub,Int.add_mul,Int.mul_add,Int.neg_mul,Int.mul_neg,Int.zero_mul,Int.mul_zero,Int.mul_comm T M,Int.mul_comm T h,Int.neg_neg,ab]
    omega
   | 3,_,k1,k2 => exact absurd rfl k1
   | 4,_,k1,k2 => exact absurd rfl k2
   | j + 5,h,_,_ => omega
 | 4,_ =>
  rw [show nxt 5 4 = 0 from rfl,show nxt2 5 4 = 1 from rfl,x4,x0,x1,y4,y0,y1]
  refine ⟨?_,fun j hj k1 k2 => ?_⟩
  ·simp only [Int.sub_mul,Int.mul_sub,Int.add_mul,Int.mul_add,Int.neg_mul,Int.mul_neg,Int.zero_mul,Int.mul_zero,Int.mul_comm T M,Int.mul_comm T h,Int.neg_neg,ab]
   (repeat' split) <;> omega
  ·match j,hj,k1,k2 with
   | 0,_,k1,k2 => exact absurd rfl k2
   | 1,_,_,_ =>
    rw [x1,y1]
    simp only [Int.sub_mul,Int.mul_sub,Int.add_mul,Int.mul_add,Int.neg_mul,Int.mul_neg,Int.zero_mul,Int.mul_zero,Int.mul_comm T M,Int.mul_comm T h,Int.neg_neg,ab]
    omega
   | 2,_,_,_ =>
    rw [x2,y2]
    simp only [Int.sub_mul,Int.mul_sub,Int.add_mul,Int.mul_add,Int.neg_mul,Int.mul_neg,Int.zero_mul,Int.mul_zero,Int.mul_comm T M,Int.mul_comm T h,Int.neg_neg,ab]
    omega
   | 3,_,_,_ =>
    rw [x3,y3]
    simp only [Int.sub_mul,Int.mul_sub,Int.add_mul,Int.mul_add,Int.neg_mul,Int.mul_neg,Int.zero_mul,Int.mul_zero,Int.mul_comm T M,Int.mul_comm T h,Int.neg_neg,ab]
    omega
   | 4,_,k1,k2 => exact absurd rfl k1
   | j + 5,h,_,_ => omega
 | i + 5,h => omega
theorem oct_cvx {M h:Int} (hM:64 ≤ M) (h1:2 * h ≤ M) (h2:M ≤ 2 * h + 1) {X Y:Nat → Int} (x0:X 0 = M) (y0:Y 0 = -h) (x1:X 1 = M) (y1:Y 1 = h) (x2:X 2 = h) (y2:Y 2 = M) (x3:X 3 = -h) (y3:Y 3 = M) (x4:X 4 = -M) (y4:Y 4 = h) (x5:X 5 = -M) (y5:Y 5 = -h) (x6:X 6 = -h) (y6:Y 6 = -M) (x7:X 7 = h) (y7:Y 7 = -M):cvxS 8 X Y = true:=by
 have p1:64 * M ≤ M * M:=Int.mul_le_mul_of_nonneg_right hM (by omega)
 have q1:(2 * h) * M ≤ M * M:=Int.mul_le_mul_of_nonneg_right h1 (by omega)
 have q2:M * M ≤ (2 * h + 1) * M:=Int.mul_le_mul_of_nonneg_right h2 (by omega)
 have q3:h * (2 * h) ≤ h * M:=Int.mul_le_mul_of_nonneg_left h1 (by omega)
 have q4:h * M ≤ h * (2 * h + 1):=Int.mul_le_mul_of_nonneg_left h2 (by omega)
 have q5:32 * h ≤ h * h:=Int.mul_le_mul_of_nonneg_right (by omega) (by omega)
 rw [Int.mul_assoc] at q1
 rw [Int.add_mul,Int.mul_assoc,Int.one_mul] at q2
 rw [Int.mul_left_comm] at q3
 rw [Int.mul_add,Int.mul_left_comm,Int.mul_one] at q4
 unfold cvxS
 refine decide_eq_true fun i hi => ?_
 match i,hi with
 | 0,_ =>
  rw [show nxt 8 0 = 1 from rfl,show nxt2 8 0 = 2 from rfl,x0,x1,x2,y0,y1,y2]
  refine ⟨?_,fun j hj k1 k2 => ?_⟩
  ·simp only [Int.sub_mul,Int.mul_sub,Int.add_mul,Int.mul_add,Int.neg_mul,Int.mul_neg,Int.zero_mul,Int.mul_zero,Int.mul_comm M h,Int.neg_neg,ab]
   (repeat' split) <;> omega
  ·match j,hj,k1,k2 with
   | 0,_,k1,k2 => exact absurd rfl k1
   | 1,_,k1,k2 => exact absurd rfl k2
   | 2,_,_,_ =>
    rw [x2,y2]
    simp only [Int.sub_mul,Int.mul_sub,Int.add_mul,Int.mul_add,Int.neg_mul,Int.mul_neg,Int.zero_mul,Int.mul_zero,Int.mul_comm M h,Int.neg_neg,ab]
    omega
   | 3,_,_,_ =>
    rw [x3,y3]
    simp only [Int.sub_mul,Int.mul_sub,Int.add_mul,Int.mul_add,Int.neg_mul,Int.mul_neg,Int.zero_mul,Int.mul_zero,Int.mul_comm M h,Int.neg_neg,ab]
    omega
   | 4,_,_,_ =>
    rw [x4,y4]
    simp only [Int.sub_mul,Int.mul_sub,Int.add_mul,Int.mul_add,Int.neg_mul,Int.mul_neg,Int.zero_mul,Int.mul_zero,Int.mul_comm M h,Int.neg_neg,ab]
    omega
   | 5,_,_,_ =>
    rw [x5,y5]
    simp only [Int.sub_mul,Int.mul_sub,Int.add_mul,Int.mul_add,Int.neg_mul,Int.mul_neg,Int.zero_mul,Int.mul_zero,Int.mul_comm M h,Int.neg_neg,ab]
    omega
   | 6,_,_,_ =>
    rw [x6,y6]
    simp only [Int.sub_mul,Int.mul_sub,Int.add_mul,Int.mul_add,Int.neg_mul,Int.mul_neg,Int.zero_mul,Int.mul_zero,Int.mul_comm M h,Int.neg_neg,ab]
    omega
   | 7,_,_,_ =>
    rw [x7,y7]
    simp only [Int.sub_mul,Int.mul_sub,Int.add_mul,Int.mul_add,Int.neg_mul,Int.mul_neg,Int.zero_mul,Int.mul_zero,Int.mul_comm M h,Int.neg_neg,ab]
    omega
   | j + 8,h,_,_ => omega
 | 1,_ =>
  rw [show nxt 8 1 = 2 from rfl,show nxt2 8 1 = 3 from rfl,x1,x2,x3,y1,y2,y3]
  refine ⟨?_,fun j hj k1 k2 => ?_⟩
  ·simp only [Int.sub_mul,Int.mul_sub,Int.add_mul,Int.mul_add,Int.neg_mul,Int.mul_neg,Int.zero_mul,Int.mul_zero,Int.mul_comm M h,Int.neg_neg,ab]
   (repeat' split) <;> omega
  ·match j,hj,k1,k2 with
   | 0,_,_,_ =>
    rw [x0,y0]
    simp only [Int.sub_mul,Int.mul_sub,Int.add_mul,Int.mul_add,Int.neg_mul,Int.mul_neg,Int.zero_mul,Int.mul_zero,Int.mul_comm M h,Int.neg_neg,ab]
    omega
   | 1,_,k1,k2 => exact absurd rfl k1
   | 2,_,k1,k2 => exact absurd rfl k2
   | 3,_,_,_ =>
    rw [x3,y3]
    simp only [Int.sub_mul,Int.mul_sub,Int.add_mul,Int.mul_add,Int.neg_mul,Int.mul_neg,Int.zero_mul,Int.mul_zero,Int.mul_comm M h,Int.neg_neg,ab]
    omega
   | 4,_,_,_ =>
    rw [x4,y4]
    simp only [Int.sub_mul,Int.mul_sub,Int.add_mul,Int.mul_add,Int.neg_mul,Int.mul_neg,Int.zero_mul,Int.mul_zero,Int.mul_comm M h,Int.neg_neg,ab]
    omega
   | 5,_,_,_ =>
    rw [x5,y5]
    simp only [Int.sub_mul,Int.mul_sub,Int.add_mul,Int.mul_add,Int.neg_mul,Int.mul_neg,Int.zero_mul,Int.mul_zero,Int.mul_comm M h,Int.neg_neg,ab]
    omega
   | 6,_,_,_ =>
    rw [x6,y6]
    simp only [Int.sub_mul,Int.mul_sub,Int.add_mul,Int.mul_add,Int.neg_mul,Int.mul_neg,Int.zero_mul,Int.mul_zero,Int.mul_comm M h,Int.neg_neg,ab]
    omega
   | 7,_,_,_ =>
    rw [x7,y7]
    simp only [Int.sub_mul,Int.mul_sub,Int.add_mul,Int.mul_add,Int.neg_mul,Int.mul_neg,Int.zero_mul,Int.mul_zero,Int.mul_comm M h,Int.neg_neg,ab]
    omega
   | j + 8,h,_,_ => omega
 | 2,_ =>
  rw [show nxt 8 2 = 3 from rfl,show nxt2 8 2 = 4 from rfl,x2,x3,x4,y2,y3,y4]
  refine ⟨?_,fun j hj k1 k2 => ?_⟩
  ·simp only [Int.sub_mul,Int.mul_sub,Int.add_mul,Int.mul_add,Int.neg_mul,Int.mul_neg,Int.zero_mul,Int.mul_zero,Int.mul_comm M h,Int.neg_neg,ab]
   (repeat' split) <;> omega
  ·match j,hj,k1,k2 with
   | 0,_,_,_ =>
    rw [x0,y0]
    simp only [Int.sub_mul,Int.mul_sub,Int.add_mul,Int.mul_add,Int.neg_mul,Int.mul_neg,Int.zero_mul,Int.mul_zero,Int.mul_comm M h,Int.neg_neg,ab]
    omega
   | 1,_,_,_ =>
    rw [x1,y1]
    simp only [Int.sub_mul,Int.mul_sub,Int.add_mul,Int.mul_add,Int.neg_mul,Int.mul_neg,Int.zero_mul,Int.mul_zero,Int.mul_comm M h,Int.neg_neg,ab]
    omega
   | 2,_,k1,k2 => exact absurd rfl k1
   | 3,_,k1,k2 => exact absurd rfl k2
   | 4,_,_,_ =>
    rw [x4,y4]
    simp only [Int.sub_mul,Int.mul_sub,Int.add_mul,Int.mul_add,Int.neg_mul,Int.mul_neg,Int.zero_mul,Int.mul_zero,Int.mul_comm M h,Int.neg_neg,ab]
    omega
   | 5,_,_,_ =>
    rw [x5,y5]
    simp only [Int.sub_mul,Int.mul_sub,Int.add_mul,Int.mul_add,Int.neg_mul,Int.mul_neg,Int.zero_mul,Int.mul_zero,Int.mul_comm M h,Int.neg_neg,ab]
    omega
   | 6,_,_,_ =>
    rw [x6,y6]
    simp only [Int.sub_mul,Int.mul_sub,Int.add_mul,Int.mul_add,Int.neg_mul,Int.mul_neg,Int.zero_mul,Int.mul_zero,Int.mul_comm M h,Int.neg_neg,ab]
    omega
   | 7,_,_,_ =>
    rw [x7,y7]
    simp only [Int.sub_mul,Int.mul_sub,Int.add_mul,Int.mul_add,Int.neg_mul,Int.mul_neg,Int.zero_mul,Int.mul_zero,Int.mul_comm M h,Int.neg_neg,ab]
    omega
   | j + 8,h,_,_ => omega
 | 3,_ =>
  rw [show nxt 8 3 = 4 from rfl,show nxt2 8 3 = 5 from rfl,x3,x4,x5,y3,y4,y5]
  refine ⟨?_,fun j hj k1 k2 => ?_⟩
  ·simp only [Int.sub_mul,Int.mul_sub,Int.add_mul,Int.mul_add,Int.neg_mul,Int.mul_neg,Int.zero_mul,Int.mul_zero,Int.mul_comm M h,Int.neg_neg,ab]
   (repeat' split) <;> omega
  ·match j,hj,k1,k2 with
   | 0,_,_,_ =>
    rw [x0,y0]
    simp only [Int.sub_mul,Int.mul_sub,Int.add_mul,Int.mul_add,Int.neg_mul,Int.mul_neg,Int.zero_mul,Int.mul_zero,Int.mul_comm M h,Int.neg_neg,ab]
    omega
   | 1,_,_,_ =>
    rw [x1,y1]
    simp only [Int.sub_mul,Int.mul_sub,Int.add_mul,Int.mul_add,Int.neg_mul,Int.mul_neg,Int.zero_mul,Int.mul_zero,Int.mul_comm M h,Int.neg_neg,ab]
    omega
   | 2,_,_,_ =>
    rw [x2,y2]
    simp only [Int.sub_mul,Int.mul_sub,Int.add_mul,Int.mul_add,Int.neg_mul,Int.mul_neg,Int.zero_mul,Int.mul_zero,Int.mul_comm M h,Int.neg_neg,ab]
    omega
   | 3,_,k1,k2 => exact absurd rfl k1
   | 4,_,k1,k2 => exact absurd rfl k2
   | 5,_,_,_ =>
    rw [x5,y5]
    simp only [Int.sub_mul,Int.mul_sub,Int.add_mul,Int.mul_add,Int.neg_mul,Int.mul_neg,Int.zero_mul,Int.mul_zero,Int.mul_comm M h,Int.neg_neg,ab]
    omega
   | 6,_,_,_ =>
    rw [x6,y6]
    simp only [Int.sub_mul,Int.mul_sub,Int.add_mul,Int.mul_add,Int.neg_mul,Int.mul_neg,Int.zero_mul,Int.mul_zero,Int.mul_comm M h,Int.neg_neg,ab]
    omega
   | 7,_,_,_ =>
    rw [x7,y7]
    simp only [Int.sub_mul,Int.mul_sub,Int.add_mul,Int.mul_add,Int.neg_mul,Int.mul_neg,Int.zero_mul,Int.mul_zero,Int.mul_comm M h,Int.neg_neg,ab]
    omega
   | j + 8,h,_,_ => omega
 | 4,_ =>
  rw [show nxt 8 4 = 5 from rfl,show nxt2 8 4 = 6 from rfl,x4,x5,x6,y4,y5,y6]
  refine ⟨?_,fun j hj k1 k2 => ?_⟩
  ·simp only [Int.sub_mul,Int.mul_sub,Int.add_mul,Int.mul_add,Int.neg_mul,Int.mul_neg,Int.zero_mul,Int.mul_zero,Int.mul_comm M h,Int.neg_neg,ab]
   (repeat' split) <;> omega
  ·match j,hj,k1,k2 with
   | 0,_,_,_ =>
    rw [x0,y0]
    simp only [Int.sub_mul,Int.mul_sub,Int.add_mul,Int.mul_add,Int.neg_mul,Int.mul_neg,Int.zero_mul,Int.mul_zero,Int.mul_comm M h,Int.neg_neg,ab]
    omega
   | 1,_,_,_ =>
    rw [x1,y1]
    simp only [Int.sub_mul,Int.mul_sub,Int.add_mul,Int.mul_add,Int.neg_mul,Int.mul_neg,Int.zero_mul,Int.mul_zero,Int.mul_comm M h,Int.neg_neg,ab]
    omega
   | 2,_,_,_ =>
    rw [x2,y2]
    simp only [Int.sub_mul,Int.mul_sub,Int.add_mul,Int.mul_add,Int.neg_mul,Int.mul_neg,Int.zero_mul,Int.mul_zero,Int.mul_comm M h,Int.neg_neg,ab]
    omega
   | 3,_,_,_ =>
    rw [x3,y3]
    simp only [Int.sub_mul,Int.mul_sub,Int.add_mul,Int.mul_add,Int.neg_mul,Int.mul_neg,Int.zero_mul,Int.mul_zero,Int.mul_comm M h,Int.neg_neg,ab]
    omega
   | 4,_,k1,k2 => exact absurd rfl k1
   | 5,_,k1,k2 => exact absurd rfl k2
   | 6,_,_,_ =>
    rw [x6,y6]
    simp only [Int.sub_mul,Int.mul_sub,Int.add_mul,Int.mul_add,Int.neg_mul,Int.mul_neg,Int.zero_mul,Int.mul_zero,Int.mul_comm M h,Int.neg_neg,ab]
    omega
   | 7,_,_,_ =>
    rw [x7,y7]
    simp only [Int.sub_mul,Int.mul_sub,Int.add_mul,Int.mul_add,Int.neg_mul,Int.mul_neg,Int.zero_mul,Int.mul_zero,Int.mul_comm M h,Int.neg_neg,ab]
    omega
   | j + 8,h,_,_ => omega
 | 5,_ =>
  rw [show nxt 8 5 = 6 from rfl,show nxt2 8 5 = 7 from rfl,x5,x6,x7,y5,y6,y7]
  refine ⟨?_,fun j hj k1 k2 => ?_⟩
  ·simp only [Int.sub_mul,Int.mul_sub,Int.add_mul,Int.mul_add,Int.neg_mul,Int.mul_neg,Int.zero_mul,Int.mul_zero,Int.mul_comm M h,Int.neg_neg,ab]
   (repeat' split) <;> omega
  ·match j,hj,k1,k2 with
   | 0,_,_,_ =>
    rw [x0,y0]
    simp only [Int.sub_mul,Int.mul_sub,Int.add_mul,Int.mul_add,Int.neg_mul,Int.mul_neg,Int.zero_mul,Int.mul_zero,Int.mul_comm M h,Int.neg_neg,ab]
    omega
   | 1,_,_,_ =>
    rw [x1,y1]
    simp only [Int.sub_mul,Int.mul_sub,Int.add_mul,Int.mul_add,Int.neg_mul,Int.mul_neg,Int.zero_mul,Int.mul_zero,Int.mul_comm M h,Int.neg_neg,ab]
    omega
   | 2,_,_,_ =>
    rw [x2,y2]
    simp only [Int.sub_mul,Int.mul_sub,Int.add_mul,Int.mul_add,Int.neg_mul,Int.mul_neg,Int.zero_mul,Int.mul_zero,Int.mul_comm M h,Int.neg_neg,ab]
    omega
   | 3,_,_,_ =>
    rw [x3,y3]
    simp only [Int.sub_mul,Int.mul_sub,Int.add_mul,Int.mul_add,Int.neg_mul,Int.mul_neg,Int.zero_mul,Int.mul_zero,Int.mul_comm M h,Int.neg_neg,ab]
    omega
   | 4,_,_,_ =>
    rw [x4,y4]
    simp only [Int.sub_mul,Int.mul_sub,Int.add_mul,Int.mul_add,Int.neg_mul,Int.mul_neg,Int.zero_mul,Int.mul_zero,Int.mul_comm M h,Int.neg_neg,ab]
    omega
   | 5,_,k1,k2 => exact absurd rfl k1
   | 6,_,k1,k2 => exact absurd rfl k2
   | 7,_,_,_ =>
    rw [x7,y7]
    simp only [Int.sub_mul,Int.mul_sub,Int.add_mul,Int.mul_add,Int.neg_mul,Int.mul_neg,Int.zero_mul,Int.mul_zero,Int.mul_comm M h,Int.neg_neg,ab]
    omega
   | j + 8,h,_,_ => omega
 | 6,_ =>
  rw [show nxt 8 6 = 7 from rfl,show nxt2 8 6 = 0 from rfl,x6,x7,x0,y6,y7,y0]
  refine ⟨?_,fun j hj k1 k2 => ?_⟩
  ·simp only [Int.sub_mul,Int.mul_sub,Int.add_mul,Int.mul_add,Int.neg_mul,Int.mul_neg,Int.zero_mul,Int.mul_zero,Int.mul_comm M h,Int.neg_neg,ab]
   (repeat' split) <;> omega
  ·match j,hj,k1,k2 with
   | 0,_,_,_ =>
    rw [x0,y0]
    simp only [Int.sub_mul,Int.mul_sub,Int.add_mul,Int.mul_add,Int.neg_mul,Int.mul_neg,Int.zero_mul,Int.mul_zero,Int.mul_comm M h,Int.neg_neg,ab]
    omega
   | 1,_,_,_ =>
    rw [x1,y1]
    simp only [Int.sub_mul,Int.mul_sub,Int.add_mul,Int.mul_add,Int.neg_mul,Int.mul_neg,Int.zero_mul,Int.mul_zero,Int.mul_comm M h,Int.neg_neg,ab]
    omega
   | 2,_,_,_ =>
    rw [x2,y2]
    simp only [Int.sub_mul,Int.mul_sub,Int.add_mul,Int.mul_add,Int.neg_mul,Int.mul_neg,Int.zero_mul,Int.mul_zero,Int.mul_comm M h,Int.neg_neg,ab]
    omega
   | 3,_,_,_ =>
    rw [x3,y3]
    simp only [Int.sub_mul,Int.mul_sub,Int.add_mul,Int.mul_add,Int.neg_mul,Int.mul_neg,Int.zero_mul,Int.mul_zero,Int.mul_comm M h,Int.neg_neg,ab]
    omega
   | 4,_,_,_ =>
    rw [x4,y4]
    simp only [Int.sub_mul,Int.mul_sub,Int.add_mul,Int.mul_add,Int.neg_mul,Int.mul_neg,Int.zero_mul,Int.mul_zero,Int.mul_comm M h,Int.neg_neg,ab]
    omega
   | 5,_,_,_ =>
    rw [x5,y5]
    simp only [Int.sub_mul,Int.mul_sub,Int.add_mul,Int.mul_add,Int.neg_mul,Int.mul_neg,Int.zero_mul,Int.mul_zero,Int.mul_comm M h,Int.neg_neg,ab]
    omega
   | 6,_,k1,k2 => exact absurd rfl k1
   | 7,_,k1,k2 => exact absurd rfl k2
   | j + 8,h,_,_ => omega
 | 7,_ =>
  rw [show nxt 8 7 = 0 from rfl,show nxt2 8 7 = 1 from rfl,x7,x0,x1,y7,y0,y1]
  refine ⟨?_,fun j hj k1 k2 => ?_⟩
  ·simp only [Int.sub_mul,Int.mul_sub,Int.add_mul,Int.mul_add,Int.neg_mul,Int.mul_neg,Int.zero_mul,Int.mul_zero,Int.mul_comm M h,Int.neg_neg,ab]
   (repeat' split) <;> omega
  ·match j,hj,k1,k2 with
   | 0,_,k1,k2 => exact absurd rfl k2
   | 1,_,_,_ =>
    rw [x1,y1]
    simp only [Int.sub_mul,Int.mul_sub,Int.add_mul,Int.mul_add,Int.neg_mul,Int.mul_neg,Int.zero_mul,Int.mul_zero,Int.mul_comm M h,Int.neg_neg,ab]
    omega
   | 2,_,_,_ =>
    rw [x2,y2]
    simp only [Int.sub_mul,Int.mul_sub,Int.add_mul,Int.mul_add,Int.neg_mul,Int.mul_neg,Int.zero_mul,Int.mul_zero,Int.mul_comm M h,Int.neg_neg,ab]
    omega
   | 3,_,_,_ =>
    rw [x3,y3]
    simp only [Int.sub_mul,Int.mul_sub,Int.add_mul,Int.mul_add,Int.neg_mul,Int.mul_neg,Int.zero_mul,Int.mul_zero,Int.mul_comm M h,Int.neg_neg,ab]
    omega
   | 4,_,_,_ =>
    rw [x4,y4]
    simp only [Int.sub_mul,Int.mul_sub,Int.add_mul,Int.mul_add,Int.neg_mul,Int.mul_neg,Int.zero_mul,Int.mul_zero,Int.mul_comm M h,Int.neg_neg,ab]
    omega
   | 5,_,_,_ =>
    rw [x5,y5]
    simp only [Int.sub_mul,Int.mul_sub,Int.add_mul,Int.mul_add,Int.neg_mul,Int.mul_neg,Int.zero_mul,Int.mul_zero,Int.mul_comm M h,Int.neg_neg,ab]
    omega
   | 6,_,_,_ =>
    rw [x6,y6]
    simp only [Int.sub_mul,Int.mul_sub,Int.add_mul,Int.mul_add,Int.neg_mul,Int.mul_neg,Int.zero_mul,Int.mul_zero,Int.mul_comm M h,Int.neg_neg,ab]
    omega
   | 7,_,k1,k2 => exact absurd rfl k1
   | j + 8,h,_,_ => omega
 | i + 8,h => omega
end Go.Ax
end
section
/-
  Made shapes are sound.
-/
set_option maxHeartbeats 4000000
set_option maxRecDepth 100000
namespace Go.Ax
open Go.Proofs
theorem mk_lo {a b c:Int} (i:Nat) (hi:i < mkN a):lo (mkX a b c i) ∧ lo (mkY a b c i):=by
 have b1:=@mkM_bd b b
 have b2:=@mkM_bd b c
 have t1:(mkM b b).tdiv 2 = mkM b b / 2:=Int.tdiv_eq_ediv_of_nonneg (by omega)
 have t2:(-mkM b b).tdiv 2 = -(mkM b b / 2):=by rw [Int.neg_tdiv,t1]
 unfold mkX mkY mkP
 unfold mkN at hi
 by_cases k0:modS a 5 = 0
 ·rw [if_pos k0] at hi; omega
 rw [if_neg k0] at hi
 by_cases k1:modS a 5 = 1
 ·rw [if_pos k1] at hi; omega
 rw [if_neg k1] at hi
 rw [t1,t2]
 generalize mkM b b = M at *
 generalize mkM b c = T at *
 by_cases k2:modS a 5 = 2
 ·rw [if_pos k2] at hi
  rw [if_pos k2]
  match i with
  | 0 => show lo (-M) ∧ lo (-T); unfold lo; omega
  | 1 => show lo M ∧ lo (-T); unfold lo; omega
  | 2 => show lo 0 ∧ lo T; unfold lo; omega
  | q + 3 => omega
 rw [if_neg k2] at hi
 rw [if_neg k2]
 by_cases k3:modS a 5 = 3
 ·rw [if_pos k3] at hi
  rw [if_pos k3]
  match i with
  | 0 => show lo (-(M / 2)) ∧ lo (-T); unfold lo; omega
  | 1 => show lo (M / 2) ∧ lo (-T); unfold lo; omega
  | 2 => show lo M ∧ lo 0; unfold lo; omega
  | 3 => show lo 0 ∧ lo T; unfold lo; omega
  | 4 => show lo (-M) ∧ lo 0; unfold lo; omega
  | q + 5 => omega
 rw [if_neg k3] at hi
 rw [if_neg k3]
 match i with
 | 0 => show lo M ∧ lo (-(M / 2)); unfold lo; omega
 | 1 => show lo M ∧ lo (M / 2); unfold lo; omega
 | 2 => show lo (M / 2) ∧ lo M; unfold lo; omega
 | 3 => show lo (-(M / 2)) ∧ lo M; unfold lo; omega
 | 4 => show lo (-M) ∧ lo (M / 2); unfold lo; omega
 | 5 => show lo (-M) ∧ lo (-(M / 2)); unfold lo; omega
 | 6 => show lo (-(M / 2)) ∧ lo (-M); unfold lo; omega
 | 7 => show lo (M / 2) ∧ lo (-M); unfold lo; omega
 | q + 8 => omega
theorem mk_cvx {a b c:Int} (k0:modS a 5 ≠ 0) (k1:modS a 5 ≠ 1):cvxS (mkN a) (mkX a b c) (mkY a b c) = true:=by
 have b1:=@mkM_bd b b
 have b2:=@mkM_bd b c
 have t1:(mkM b b).tdiv 2 = mkM b b / 2:=Int.tdiv_eq_ediv_of_nonneg (by omega)
 have t2:(-mkM b b).tdiv 2 = -(mkM b b / 2):=by rw [Int.neg_tdiv,t1]
 by_cases k2:modS a 5 = 2
 ·rw [show mkN a = 3 from by unfold mkN; rw [if_neg k0,if_neg k1,if_pos k2]]
  refine tri_cvx (M:=mkM b b) (T:=mkM b c) (by omega) (by omega) ?_ ?_ ?_ ?_ ?_ ?_ <;> (first | unfold mkX | unfold mkY) <;> unfold mkP <;> rw [if_pos k2] <;> rfl
 by_cases k3:modS a 5 = 3
 ·rw [show mkN a = 5 from by unfold mkN; rw [if_neg k0,if_neg k1,if_neg k2,if_pos k3]]
  refine pen_cvx (M:=mkM b b) (T:=mkM b c) (h:=mkM b b / 2) (by omega) (by omega) (by omega) (by omega) ?_ ?_ ?_ ?_ ?_ ?_ ?_ ?_ ?_ ?_ <;> (first | unfold mkX | unfold mkY) <;> unfold mkP <;> rw [if_neg k2,if_pos k3,t1,t2] <;> rfl
 ·rw [show mkN a = 8 from by unfold mkN; rw [if_neg k0,if_neg k1,if_neg k2,if_neg k3]]
  refine oct_cvx (M:=mkM b b) (h:=mkM b b / 2) (by omega) (by omega) (by omega) ?_ ?_ ?_ ?_ ?_ ?_ ?_ ?_ ?_ ?_ ?_ ?_ ?_ ?_ ?_ ?_ <;> (first | unfold mkX | unfold mkY) <;> unfold mkP <;> rw [if_neg k2,if_neg k3,t1,t2] <;> rfl
theorem mk_chk {a b c:Int}:chkS (mkK a) (mkR a b) (mkH a b b) (mkH a b c) (mkN a) (mkX a b c) (mkY a b c) = 0:=by
 have w1:=@mkW_bd b b
 have w2:=@mkW_bd b c
 by_cases k0:modS a 5 = 0
 ·unfold chkS mkK mkR mkH mkN
  rw [if_pos k0,if_pos k0,if_pos k0,if_pos k0,if_pos k0,if_pos rfl,if_neg (by simp),if_pos w1]
 by_cases k1:modS a 5 = 1
 ·unfold chkS mkK mkR mkH mkN
  rw [if_neg k0,if_neg k0,if_neg k0,if_neg k0,if_neg k0,if_pos k1,if_pos k1,if_pos k1,if_pos k1,if_neg (by decide),if_pos rfl,if_neg (by simp),if_pos ⟨w1,w2⟩]
 have hN:3 ≤ mkN a ∧ mkN a ≤ 8:=by
  unfold mkN
  rw [if_neg k0,if_neg k1]
  (repeat' split) <;> omega
 have e1:mkK a = 3:=by unfold mkK; rw [if_neg k0,if_neg k1]
 have e2:mkR a b = 0:=if_neg k0
 have e3:∀ v,mkH a b v = 0:=fun v => by unfold mkH; rw [if_neg k0,if_neg k1]
 unfold chkS
 rw [e1,e2,e3,e3,if_neg (by decide),if_neg (by decide),if_pos rfl,if_neg (by omega),if_pos mk_lo,if_pos (mk_cvx k0 k1)]
end Go.Ax
end
section
/-
  Made bodies: their weights.
-/
set_option maxHeartbeats 4000000
set_option maxRecDepth 100000
namespace Go.Ax
open Go.Proofs
theorem foAt_bd {x s:Int} (h:1 ≤ s ∧ s ≤ 4000):-17179869184000 ≤ x.tmod (s * 4294967296) ∧ x.tmod (s * 4294967296) ≤ 17179869184000:=by
 have h1:x.tmod (s * 4294967296) < s * 4294967296:=Int.tmod_lt_of_pos x (by omega)
 have h2:-(s * 4294967296) < x.tmod (s * 4294967296):=Int.lt_tmod_of_pos x (by omega)
 omega
end Go.Ax
end
section
/-
  Turns made of numbers are on the circle.
-/
set_option maxHeartbeats 4000000
set_option maxRecDepth 100000
namespace Go.Ax
open Go.Proofs
def abZ (x:Int):Int:=if x < 0 then -x else x
theorem qt_pair {p:Int} (h:-13493037704 ≤ p ∧ p ≤ 13493037704):∃ q,(q = 6746518852 ∨ q = 6746518851) ∧ (-6746518852 ≤ qtV p ∧ qtV p ≤ 6746518852) ∧ abZ (qtV p) ≤ q ∧ (-6746518852 ≤ qtV (if 13493037704 < p + 6746518852 then p + 6746518852 - 26986075409 else p + 6746518852) ∧ qtV (if 13493037704 < p + 6746518852 then p + 6746518852 - 26986075409 else p + 6746518852) ≤ 6746518852) ∧ abZ (qtV (if 13493037704 < p + 6746518852 then p + 6746518852 - 26986075409 else p + 6746518852)) = q - abZ (qtV p):=by
 by_cases h1:6746518852 < p
 ·refine ⟨6746518851,.inr rfl,?_⟩
  rw [if_pos (by omega)]
  unfold qtV abZ
  (repeat' split) <;> omega
 ·refine ⟨6746518852,.inl rfl,?_⟩
  rw [if_neg (by omega)]
  unfold qtV abZ
  (repeat' split) <;> omega
theorem wpV_sh {p:Int} (h:-13493037704 ≤ p ∧ p ≤ 13493037704):wpV (p + 6746518852) = if 13493037704 < p + 6746518852 then p + 6746518852 - 26986075409 else p + 6746518852:=by
 have e:(p + 6746518852).tmod 26986075409 = p + 6746518852:=by
  rcases Int.le_total 0 (p + 6746518852) with k | k
  ·rw [Int.tmod_eq_emod_of_nonneg k,Int.emod_eq_of_lt k (by omega)]
  ·have e2:p + 6746518852 = -(-(p + 6746518852)):=by omega
   rw [e2,Int.neg_tmod,Int.tmod_eq_emod_of_nonneg (by omega),Int.emod_eq_of_lt (by omega) (by omega)]
 unfold wpV
 rw [e]
 split
 ·rfl
 ·rw [if_neg (by omega)]
def cl1 (x:Int):Int:=max (-4294967296) (min x 4294967296)
theorem snV_q {v:Int} (h:-1000000000000000 ≤ v ∧ v ≤ 1000000000000000):snV v false = cl1 (sq (qtV (wpV v)) 8) ∧ snF v false = false:=by
 have hp:=@wpV_le v
 have hy:-6746518852 ≤ qtV (wpV v) ∧ qtV (wpV v) ≤ 6746518852:=by
  obtain ⟨q,h1,h2,h3,h4,h5⟩:=qt_pair hp
  exact h2
 have hs:=sqj_le hy 8 (by omega)
 have e:snY v false = (qtV (wpV v),false):=by
  unfold snY
  rw [whV_in (by omega) (by omega),whF_in (by omega)]
 unfold snV snF
 rw [e,snS_eq hy 8 (by omega)]
 dsimp only
 rw [whV_in (by omega) (by omega),whF_in (by omega)]
 exact ⟨rfl,rfl⟩
theorem csV_q {v:Int} (h:-1000000000000000 ≤ v ∧ v ≤ 1000000000000000):csV v false = cl1 (sq (qtV (if 13493037704 < wpV v + 6746518852 then wpV v + 6746518852 - 26986075409 else wpV v + 6746518852)) 8) ∧ csF v false = false:=by
 have hp:=@wpV_le v
 have e:nAdd (wpV (whV v),whF v false) (6746518852,false) = (wpV v + 6746518852,false):=by
  rw [whV_in (by omega) (by omega),whF_in (by omega)]
  unfold nAdd
  dsimp only
  rw [whV_in (by omega) (by omega),whV_in (by omega) (by omega),ftV_in (by omega) (by omega),ftF_in (by omega) (by omega),whF_in (by omega),whF_in (by omega)]
  rfl
 have k:=@snV_q (wpV v + 6746518852) (by omega)
 rw [wpV_sh hp] at k
 unfold csV csF
 rw [e]
 exact k
theorem big_sq {x:Int} (h:4294967296 ≤ x ∨ x ≤ -4294967296):18446744073709551616 ≤ x * x:=by
 rcases h with h | h
 ·have:=Int.mul_le_mul h h (by omega) (by omega)
  omega
 ·have:=Int.mul_le_mul (a:=4294967296) (b:=4294967296) (c:=-x) (d:=-x) (by omega) (by omega) (by omega) (by omega)
  rw [Int.neg_mul_neg] at this
  omega
theorem cl1_sq {x:Int}:(cl1 x * cl1 x = x * x ∧ x * x ≤ 18446744073709551616) ∨ (cl1 x * cl1 x = 18446744073709551616 ∧ 18446744073709551616 ≤ x * x):=by
 by_cases h1:4294967296 < x
 ·refine .inr ⟨?_,big_sq (.inl (by omega))⟩
  rw [show cl1 x = 4294967296 from by unfold cl1; omega]
  rfl
 by_cases h2:x < -4294967296
 ·refine .inr ⟨?_,big_sq (.inr (by omega))⟩
  rw [show cl1 x = -4294967296 from by unfold cl1; omega]
  rfl
 ·refine .inl ⟨by rw [show cl1 x = x from by unfold cl1; omega],?_⟩
  have:=ab_mul (a:=x) (b:=x) (A:=4294967296) (B:=4294967296) (by omega) (by omega)
  omega
theorem sq_nn (x:Int):0 ≤ x * x:=by
 rcases Int.le_total 0 x with h | h
 ·exact Int.mul_nonneg h h
 ·have:=Int.mul_nonneg (a:=-x) (b:=-x) (by omega) (by omega)
  rw [Int.neg_mul_neg] at this
  exact this
theorem cl1_bd {x:Int}:-4294967296 ≤ cl1 x ∧ cl1 x ≤ 4294967296:=by unfold cl1; omega
theorem cl_circle {a b:Int} (h:-35184372088832 ≤ a * a + b * b - 18446744073709551616 ∧ a * a + b * b - 18446744073709551616 ≤ 35184372088832) :
  -35184372088832 ≤ cl1 a * cl1 a + cl1 b * cl1 b - 18446744073709551616 ∧ cl1 a * cl1 a + cl1 b * cl1 b - 18446744073709551616 ≤ 35184372088832:=by
 have ha:=sq_nn a
 have hb:=sq_nn b
 generalize ea:a * a = A at *
 generalize eb:b * b = B at *
 have ca:=@cl1_sq a
 have cb:=@cl1_sq b
 rw [ea] at ca
 rw [eb] at cb
 generalize cl1 a * cl1 a = P at *
 generalize cl1 b * cl1 b = Q at *
 omega
theorem foRot_ok (u:Int):rotS (foRot u).1.1 (foRot u).1.2 (foRot u).2.1 (foRot u).2.2 = 0:=by
 have hv:-1000000000000000 ≤ u.tmod (8 * 4294967296) ∧ u.tmod (8 * 4294967296) ≤ 1000000000000000:=by
  have h1:u.tmod (8 * 4294967296) < 8 * 4294967296:=Int.tmod_lt_of_pos u (by omega)
  have h2:-(8 * 4294967296) < u.tmod (8 * 4294967296):=Int.lt_tmod_of_pos u (by omega)
  omega
 unfold foRot
 dsimp only
 generalize u.tmod (8 * 4294967296) = v at *
 have hp:=@wpV_le v
 obtain ⟨q,q1,q2,q3,q4,q5⟩:=qt_pair hp
 have hc:=sq_circle q2 q1 q3 q5
 obtain ⟨s1,s2⟩:=snV_q hv
 obtain ⟨c1,c2⟩:=csV_q hv
 rw [s1,s2,c1,c2]
 generalize sq (qtV (wpV v)) 8 = S at *
 generalize sq (qtV (if 13493037704 < wpV v + 6746518852 then wpV v + 6746518852 - 26986075409 else wpV v + 6746518852)) 8 = C at *
 have hk:=cl_circle hc
 have k1:=@cl1_bd S
 have k2:=@cl1_bd C
 have e:(nDot (cl1 C,false) (cl1 C,false) (cl1 S,false) (cl1 S,false)).1 = (cl1 C * cl1 C + cl1 S * cl1 S).tdiv 4294967296:=by
  unfold nDot
  dsimp only
  rw [whV_in (by omega) (by omega),whV_in (by omega) (by omega)]
  have:=@td_err (cl1 C * cl1 C + cl1 S * cl1 S) 4294967296 (by omega)
  exact ftV_in (by omega) (by omega)
 have hd:=@td_err (cl1 C * cl1 C + cl1 S * cl1 S) 4294967296 (by omega)
 unfold rotS
 rw [e,whF_in (by omega),whF_in (by omega)]
 refine if_neg ?_
 simp
 omega
end Go.Ax
end
section
/-
  Made bodies are sound, and have a mass.
-/
set_option maxHeartbeats 4000000
set_option maxRecDepth 100000
namespace Go.Ax
open Go.Proofs
theorem far_no {x:Int} (h:-17592186044416 ≤ x ∧ x ≤ 17592186044416):farB (x,false) = false:=by
 unfold farB
 dsimp only
 rw [whF_in (by omega),whV_in (by omega) (by omega)]
 have:¬ 17592186044416 < ab x:=by unfold ab; split <;> omega
 rw [decide_eq_false this]
 rfl
theorem mk_place {a b c x y u s:Int} (hs:1 ≤ s ∧ s ≤ 4000):plErr (mkK a) (mkR a b) (mkH a b b) (mkH a b c) (mkN a) (mkX a b c) (mkY a b c) (foAt x y s) (foRot u) = 0:=by
 have h1:=@foAt_bd x s hs
 have h2:=@foAt_bd y s hs
 unfold plErr
 rw [if_neg (by rw [mk_chk]; simp),if_neg (by rw [foRot_ok]; simp)]
 unfold foAt
 dsimp only
 rw [far_no (by omega),far_no (by omega)]
 rfl
theorem cor_lo {a b c:Int} (i:Nat) (hi:i < corN (mkK a) (mkR a b) (mkH a b b) (mkH a b c) (mkN a) (mkX a b c) (mkY a b c)):lo (corX (mkK a) (mkH a b b) (mkH a b c) (mkX a b c) i) ∧ lo (corY (mkK a) (mkH a b b) (mkH a b c) (mkY a b c) i):=by
 have w1:=@mkW_bd b b
 have w2:=@mkW_bd b c
 have h1:∀ v,0 ≤ mkH a b v ∧ mkH a b v ≤ 4096:=fun v => by
  have:=@mkW_bd b v
  unfold mkH
  (repeat' split) <;> omega
 have h2:=h1 b
 have h3:=h1 c
 unfold corN at hi
 rw [if_pos mk_chk] at hi
 unfold corX corY
 split at hi
 ·rename_i hk
  rw [if_pos hk,if_pos hk]
  match i with
  | 0 => show lo (-mkH a b b) ∧ lo (-mkH a b c); unfold lo; omega
  | 1 => show lo (mkH a b b) ∧ lo (-mkH a b c); unfold lo; omega
  | 2 => show lo (mkH a b b) ∧ lo (mkH a b c); unfold lo; omega
  | 3 => show lo (-mkH a b b) ∧ lo (mkH a b c); unfold lo; omega
  | i + 4 => omega
 ·rename_i hk
  rw [if_neg hk,if_neg hk]
  exact mk_lo i hi
end Go.Ax
end
section
/-
  Corners with a margin stay convex when they are turned and rounded.
-/
set_option maxHeartbeats 4000000
set_option maxRecDepth 100000
namespace Go.Ax
open Go.Proofs
def mg (ax ay bx byy cx cy:Int):Prop:=2 * (ab (bx - ax) + ab (byy - ay) + (ab (cx - ax) + ab (cy - ay))) + 8 ≤ (bx - ax) * (cy - ay) - (byy - ay) * (cx - ax)
def mrg (n:Nat) (X Y:Nat → Int):Prop:=∀ i,i < n → ∀ j,j < n → j ≠ i → j ≠ nxt n i → mg (X i) (Y i) (X (nxt n i)) (Y (nxt n i)) (X j) (Y j)
theorem abs_mul (x y:Int):ab (x * y) = ab x * ab y:=by rw [ab_natAbs,ab_natAbs,ab_natAbs,Int.natAbs_mul]; rfl
theorem abs_le (x:Int):x ≤ ab x ∧ -x ≤ ab x:=by unfold ab; split <;> omega
theorem abs_add (x y:Int):ab (x + y) ≤ ab x + ab y:=by unfold ab; (repeat' split) <;> omega
theorem abs_sub (x y:Int):ab (x - y) ≤ ab x + ab y:=by unfold ab; (repeat' split) <;> omega
theorem abs_bil {p q g h H K:Int} (hg:ab g ≤ H) (hh:ab h ≤ H) (hp:ab p + ab q ≤ K):ab (p * h - q * g) ≤ H * K:=by
 have h1:=abs_sub (p * h) (q * g)
 rw [abs_mul,abs_mul] at h1
 have k1:ab p * ab h ≤ ab p * H:=Int.mul_le_mul_of_nonneg_left hh (ab_nonneg _)
 have k2:ab q * ab g ≤ ab q * H:=Int.mul_le_mul_of_nonneg_left hg (ab_nonneg _)
 have k3:(ab p + ab q) * H ≤ K * H:=Int.mul_le_mul_of_nonneg_right hp (by have:=ab_nonneg g; omega)
 rw [Int.add_mul] at k3
 rw [Int.mul_comm H K]
 omega
theorem abs_lin {c s x y S:Int} (hS:ab c + ab s ≤ S):ab (c * x - s * y) + ab (s * x + c * y) ≤ S * (ab x + ab y):=by
 have h1:=abs_sub (c * x) (s * y)
 have h2:=abs_add (s * x) (c * y)
 rw [abs_mul,abs_mul] at h1 h2
 have k:(ab c + ab s) * (ab x + ab y) ≤ S * (ab x + ab y):=Int.mul_le_mul_of_nonneg_right hS (by have:=ab_nonneg x; have:=ab_nonneg y; omega)
 have e:(ab c + ab s) * (ab x + ab y) = ab c * ab x + ab s * ab y + (ab s * ab x + ab c * ab y):=by
  rw [Int.add_mul,Int.mul_add,Int.mul_add]; omega
 omega
theorem rot_cross {c s ex ey fx fy d1 d2 g1 g2:Int} (hc:18446462598732840960 ≤ c * c + s * s) (hS:ab c + ab s ≤ 6442450944)
  (h1:ab d1 ≤ 4294967808) (h2:ab d2 ≤ 4294967808) (h3:ab g1 ≤ 4294967808) (h4:ab g2 ≤ 4294967808)
  (hm:2 * (ab ex + ab ey + (ab fx + ab fy)) + 8 ≤ ex * fy - ey * fx) :
  0 < (c * ex - s * ey + d1) * (s * fx + c * fy + g2) - (s * ex + c * ey + d2) * (c * fx - s * fy + g1):=by
 have e:(c * ex - s * ey + d1) * (s * fx + c * fy + g2) - (s * ex + c * ey + d2) * (c * fx - s * fy + g1)
   = (c * c + s * s) * (ex * fy - ey * fx) + ((c * ex - s * ey) * g2 - (s * ex + c * ey) * g1) - ((c * fx - s * fy) * d2 - (s * fx + c * fy) * d1) + (d1 * g2 - d2 * g1):=by grind
 have b1:=abs_bil (p:=c * ex - s * ey) (q:=s * ex + c * ey) h3 h4 (abs_lin hS)
 have b2:=abs_bil (p:=c * fx - s * fy) (q:=s * fx + c * fy) h1 h2 (abs_lin hS)
 have b3:=abs_bil (p:=d1) (q:=d2) (K:=8589935616) h3 h4 (by omega)
 have m:=Int.mul_le_mul_of_nonneg_right hc (show 0 ≤ ex * fy - ey * fx by have:=ab_nonneg ex; have:=ab_nonneg ey; have:=ab_nonneg fx; have:=ab_nonneg fy; omega)
 rw [e]
 have l1:=abs_le ((c * ex - s * ey) * g2 - (s * ex + c * ey) * g1)
 have l2:=abs_le ((c * fx - s * fy) * d2 - (s * fx + c * fy) * d1)
 have l3:=abs_le (d1 * g2 - d2 * g1)
 have n1:=ab_nonneg ex
 have n2:=ab_nonneg ey
 have n3:=ab_nonneg fx
 have n4:=ab_nonneg fy
 generalize ab ex + ab ey = E at *
 generalize ab fx + ab fy = F at *
 generalize ex * fy - ey * fx = M at *
 generalize (c * c + s * s) * M = Q at *
 generalize (c * ex - s * ey) * g2 - (s * ex + c * ey) * g1 = r1 at *
 generalize (c * fx - s * fy) * d2 - (s * fx + c * fy) * d1 = r2 at *
 generalize d1 * g2 - d2 * g1 = r3 at *
 have hE:0 ≤ E:=by omega
 have hF:0 ≤ F:=by omega
 clear n1 n2 n3 n4 e h1 h2 h3 h4 hS hc
 omega
theorem rot_sum {c s:Int} (h:c * c + s * s ≤ 18447025548686262272):ab c + ab s ≤ 6442450944:=by
 refine Int.not_lt.1 fun hn => ?_
 have a1:=ab_nonneg c
 have a2:=ab_nonneg s
 have e1:ab c * ab c = c * c:=by rw [← abs_mul]; have:=sq0 c; unfold ab; rw [if_neg (by omega)]
 have e2:ab s * ab s = s * s:=by rw [← abs_mul]; have:=sq0 s; unfold ab; rw [if_neg (by omega)]
 have q:=sq0 (ab c - ab s)
 have w:6442450945 * 6442450945 ≤ (ab c + ab s) * (ab c + ab s):=Int.mul_le_mul hn hn (by omega) (by omega)
 have e3:(ab c - ab s) * (ab c - ab s) = ab c * ab c - 2 * (ab c * ab s) + ab s * ab s:=by grind
 have e4:(ab c + ab s) * (ab c + ab s) = ab c * ab c + 2 * (ab c * ab s) + ab s * ab s:=by grind
 rw [e3] at q
 rw [e4] at w
 omega
theorem foRot_bd (u:Int):(foRot u).1.2 = false ∧ (foRot u).2.2 = false ∧ (-4294967296 ≤ (foRot u).1.1 ∧ (foRot u).1.1 ≤ 4294967296) ∧ (-4294967296 ≤ (foRot u).2.1 ∧ (foRot u).2.1 ≤ 4294967296) ∧
  18446708889337462784 ≤ (foRot u).1.1 * (foRot u).1.1 + (foRot u).2.1 * (foRot u).2.1 ∧ (foRot u).1.1 * (foRot u).1.1 + (foRot u).2.1 * (foRot u).2.1 ≤ 18446779258081640448:=by
 have hv:-1000000000000000 ≤ u.tmod (8 * 4294967296) ∧ u.tmod (8 * 4294967296) ≤ 1000000000000000:=by
  have h1:u.tmod (8 * 4294967296) < 8 * 4294967296:=Int.tmod_lt_of_pos u (by omega)
  have h2:-(8 * 4294967296) < u.tmod (8 * 4294967296):=Int.lt_tmod_of_pos u (by omega)
  omega
 unfold foRot
 dsimp only
 generalize u.tmod (8 * 4294967296) = v at *
 have hp:=@wpV_le v
 obtain ⟨q,q1,q2,q3,q4,q5⟩:=qt_pair hp
 have hc:=sq_circle q2 q1 q3 q5
 obtain ⟨s1,s2⟩:=snV_q hv
 obtain ⟨c1,c2⟩:=csV_q hv
 rw [s1,s2,c1,c2]
 generalize sq (qtV (wpV v)) 8 = S at *
 generalize sq (qtV (if 13493037704 < wpV v + 6746518852 then wpV v + 6746518852 - 26986075409 else wpV v + 6746518852)) 8 = C at *
 have hk:=cl_circle hc
 exact ⟨rfl,rfl,cl1_bd,cl1_bd,by omega,by omega⟩
theorem nRat_loc {x:Int} (h:lo x):nRat x 256 = (x * 16777216,false):=by
 unfold lo at h
 have e:(x * 4294967296).tdiv 256 = x * 16777216:=by
  rw [show x * 4294967296 = x * 16777216 * 256 by omega]
  exact Int.mul_tdiv_cancel _ (by decide)
 unfold nRat raV raF
 rw [if_neg (by decide),if_neg (by decide),e,ftV_of (by unfold rg; omega),ftF_of (by unfold rg; omega)]
 rfl
theorem nAdd_in {a b:Int} (ha:-4611686018427387903 ≤ a ∧ a ≤ 4611686018427387903) (hb:-4611686018427387903 ≤ b ∧ b ≤ 4611686018427387903):nAdd (a,false) (b,false) = (a + b,false):=by
 unfold nAdd
 dsimp only
 rw [whV_of (by unfold rg; omega),whV_of (by unfold rg; omega),whF_of (by unfold rg; omega),whF_of (by unfold rg; omega),ftV_of (by unfold rg; omega),ftF_of (by unfold rg; omega)]
 rfl
theorem nNeg_in {a:Int} (ha:-4611686018427387903 ≤ a ∧ a ≤ 4611686018427387903):nNeg (a,false) = (-a,false):=by
 unfold nNeg
 dsimp only
 rw [whV_of (by unfold rg; omega),whF_of (by unfold rg; omega)]
theorem nDot_loc {c s x y:Int} (hc:-4294967296 ≤ c ∧ c ≤ 4294967296) (hs:-4294967296 ≤ s ∧ s ≤ 4294967296) (hx:lo x) (hy:lo y) :
  ∃ t,nDot (c,false) (x * 16777216,false) (s,false) (y * 16777216,false) = (t,false) ∧ -256 ≤ 256 * t - (c * x + s * y) ∧ 256 * t - (c * x + s * y) ≤ 256 ∧ -35184372088832 ≤ c * x + s * y ∧ c * x + s * y ≤ 35184372088832:=by
 have m1:=mul_bd (A:=4294967296) (B:=4096) (by omega) hc hx
 have m2:=mul_bd (A:=4294967296) (B:=4096) (by omega) hs hy
 have e:c * (x * 16777216) + s * (y * 16777216) = (c * x + s * y) * 16777216:=by rw [← Int.mul_assoc,← Int.mul_assoc,← Int.add_mul]
 have d:=td_err (x:=(c * x + s * y) * 16777216) (k:=4294967296) (by decide)
 refine ⟨((c * x + s * y) * 16777216).tdiv 4294967296,?_,by omega,by omega,by omega,by omega⟩
 unfold nDot
 dsimp only
 unfold lo at hx hy
 rw [whV_of (by unfold rg; omega),whV_of (by unfold rg; omega),whV_of (by unfold rg; omega),whV_of (by unfold rg; omega),whF_of (by unfold rg; omega),whF_of (by unfold rg; omega),whF_of (by unfold rg; omega),whF_of (by unfold rg; omega),e,
  ftV_of (by unfold rg; omega),ftF_of (by unfold rg; omega)]
 rfl
theorem spV_in {a:Int} (h:-18014398509481984 ≤ a ∧ a ≤ 18014398509481984):spV (a,false) = (a * 256 + 2147483648) / 4294967296:=by
 have e:nInt 256 = (1099511627776,false):=by decide
 have e2:(a * 1099511627776).tdiv 4294967296 = a * 256:=by
  rw [show a * 1099511627776 = a * 256 * 4294967296 by omega]
  exact Int.mul_tdiv_cancel _ (by decide)
 unfold spV nMul
 rw [e]
 dsimp only
 rw [whV_of (v:=a) (by unfold rg; omega),whV_of (v:=1099511627776) (by unfold rg; omega),e2,ftV_of (by unfold rg; omega),whV_of (by unfold rg; omega)]
theorem pl_err {ax ay c s x y:Int} (ha:-17592186044416 ≤ ax ∧ ax ≤ 17592186044416) (ha2:-17592186044416 ≤ ay ∧ ay ≤ 17592186044416) (hc:-4294967296 ≤ c ∧ c ≤ 4294967296) (hs:-4294967296 ≤ s ∧ s ≤ 4294967296) (hx:lo x) (hy:lo y) :
  (∃ d,4294967296 * spV (plPt ((ax,false),(ay,false)) ((c,false),(s,false)) x y).1 = 256 * ax + (c * x - s * y) + d ∧ ab d ≤ 2147483904) ∧
  (∃ d,4294967296 * spV (plPt ((ax,false),(ay,false)) ((c,false),(s,false)) x y).2 = 256 * ay + (s * x + c * y) + d ∧ ab d ≤ 2147483904):=by
 obtain ⟨t,h1,h2,h3,h4,h5⟩:=nDot_loc hc (s:=-s) (by omega) hx hy
 obtain ⟨t',k1,k2,k3,k4,k5⟩:=nDot_loc hs (s:=c) hc hx hy
 rw [Int.neg_mul] at h2 h3 h4 h5
 have e:plPt ((ax,false),(ay,false)) ((c,false),(s,false)) x y = ((ax + t,false),(ay + t',false)):=by
  unfold plPt vAdd vApply vLoc
  dsimp only
  rw [nRat_loc hx,nRat_loc hy,nNeg_in (by omega),h1,k1,nAdd_in (by omega) (by omega),nAdd_in (by omega) (by omega)]
 rw [e]
 dsimp only
 rw [spV_in (by omega),spV_in (by omega)]
 refine ⟨⟨4294967296 * (((ax + t) * 256 + 2147483648) / 4294967296) - (256 * ax + (c * x - s * y)),by omega,?_⟩,⟨4294967296 * (((ay + t') * 256 + 2147483648) / 4294967296) - (256 * ay + (s * x + c * y)),by omega,?_⟩⟩
 ·have:=Int.emod_nonneg ((ax + t) * 256 + 2147483648) (show (4294967296:Int) ≠ 0 by decide)
  have:=Int.emod_lt_of_pos ((ax + t) * 256 + 2147483648) (show (0:Int) < 4294967296 by decide)
  have:=Int.emod_add_mul_ediv ((ax + t) * 256 + 2147483648) 4294967296
  unfold ab
  split <;> omega
 ·have:=Int.emod_nonneg ((ay + t') * 256 + 2147483648) (show (4294967296:Int) ≠ 0 by decide)
  have:=Int.emod_lt_of_pos ((ay + t') * 256 + 2147483648) (show (0:Int) < 4294967296 by decide)
  have:=Int.emod_add_mul_ediv ((ay + t') * 256 + 2147483648) 4294967296
  unfold ab
  split <;> omega
theorem turn_of {ax ay bx byy cx cy D1 D2 F1 F2:Int} (h1:4294967296 * (bx - ax) = D1) (h2:4294967296 * (byy - ay) = D2) (h3:4294967296 * (cx - ax) = F1) (h4:4294967296 * (cy - ay) = F2) (h:0 < D1 * F2 - D2 * F1):0 < turnS ax ay bx byy cx cy:=by
 unfold turnS
 have e:D1 * F2 - D2 * F1 = 18446744073709551616 * ((bx - ax) * (cy - ay) - (byy - ay) * (cx - ax)):=by
  rw [← h1,← h2,← h3,← h4]; grind
 omega
theorem pl_cvx {n:Nat} {X Y:Nat → Int} {ax ay c s:Int} (hn:3 ≤ n) (hl:∀ i,i < n → lo (X i) ∧ lo (Y i)) (hm:mrg n X Y) (ha:-17179869184000 ≤ ax ∧ ax ≤ 17179869184000) (ha2:-17179869184000 ≤ ay ∧ ay ≤ 17179869184000)
  (hc:-4294967296 ≤ c ∧ c ≤ 4294967296) (hs:-4294967296 ≤ s ∧ s ≤ 4294967296) (h1:18446462598732840960 ≤ c * c + s * s) (h2:c * c + s * s ≤ 18447025548686262272) {Z T:Nat → Int}
  (hZ:∀ i,i < n → Z i = spV (plPt ((ax,false),(ay,false)) ((c,false),(s,false)) (X i) (Y i)).1) (hT:∀ i,i < n → T i = spV (plPt ((ax,false),(ay,false)) ((c,false),(s,false)) (X i) (Y i)).2):convexS n Z T = true:=by
 have hE:∀ i,i < n → (∃ d,4294967296 * Z i = 256 * ax + (c * X i - s * Y i) + d ∧ ab d ≤ 2147483904) ∧ (∃ d,4294967296 * T i = 256 * ay + (s * X i + c * Y i) + d ∧ ab d ≤ 2147483904):=fun i hi => by
  rw [hZ i hi,hT i hi]
  exact pl_err (by omega) (by omega) hc hs (hl i hi).1 (hl i hi).2
 refine convexS_iff.2 ⟨hn,fun i hi => ?_,fun i hi j hj k1 k2 => ?_⟩
 ·obtain ⟨⟨d,q1,q2⟩,⟨g,q3,q4⟩⟩:=hE i hi
  have m1:=mul_bd (A:=4294967296) (B:=4096) (by omega) hc (hl i hi).1
  have m2:=mul_bd (A:=4294967296) (B:=4096) (by omega) hs (hl i hi).2
  have m3:=mul_bd (A:=4294967296) (B:=4096) (by omega) hs (hl i hi).1
  have m4:=mul_bd (A:=4294967296) (B:=4096) (by omega) hc (hl i hi).2
  have a1:=abs_le d
  have a2:=abs_le g
  rw [validS_iff]
  omega
 ·have hx:=nxt_lt hi
  obtain ⟨⟨d,q1,q2⟩,⟨g,q3,q4⟩⟩:=hE i hi
  obtain ⟨⟨d',q5,q6⟩,⟨g',q7,q8⟩⟩:=hE _ hx
  obtain ⟨⟨d'',q9,q10⟩,⟨g'',q11,q12⟩⟩:=hE j hj
  have hmm:=hm i hi j hj k1 k2
  have b1:=abs_sub d' d
  have b2:=abs_sub g' g
  have b3:=abs_sub d'' d
  have b4:=abs_sub g'' g
  have r:=rot_cross (ex:=X (nxt n i) - X i) (ey:=Y (nxt n i) - Y i) (fx:=X j - X i) (fy:=Y j - Y i) (d1:=d' - d) (d2:=g' - g) (g1:=d'' - d) (g2:=g'' - g) h1 (rot_sum h2) (by omega) (by omega) (by omega) (by omega) hmm
  have e:∀ x y z w:Int,c * (x - y) - s * (z - w) = c * x - s * z - (c * y - s * w):=fun x y z w => by grind
  have e':∀ x y z w:Int,s * (x - y) + c * (z - w) = s * x + c * z - (s * y + c * w):=fun x y z w => by grind
  refine turn_of (D1:=c * (X (nxt n i) - X i) - s * (Y (nxt n i) - Y i) + (d' - d)) (D2:=s * (X (nxt n i) - X i) + c * (Y (nxt n i) - Y i) + (g' - g)) (F1:=c * (X j - X i) - s * (Y j - Y i) + (d'' - d)) (F2:=s * (X j - X i) + c * (Y j - Y i) + (g'' - g)) ?_ ?_ ?_ ?_ r
  ·rw [e]; omega
  ·rw [e']; omega
  ·rw [e]; omega
  ·rw [e']; omega
theorem pl_mid {n:Nat} {X Y:Nat → Int} {ax ay c s:Int} (hl:∀ i,i < n → lo (X i) ∧ lo (Y i)) (hm:∀ i,i < n → mg (X i) (Y i) (X (nxt n i)) (Y (nxt n i)) 0 0) (ha:-17179869184000 ≤ ax ∧ ax ≤ 17179869184000) (ha2:-17179869184000 ≤ ay ∧ ay ≤ 17179869184000)
  (hc:-4294967296 ≤ c ∧ c ≤ 4294967296) (hs:-4294967296 ≤ s ∧ s ≤ 4294967296) (h1:18446462598732840960 ≤ c * c + s * s) (h2:c * c + s * s ≤ 18447025548686262272) {Z T:Nat → Int}
  (hZ:∀ i,i < n → Z i = spV (plPt ((ax,false),(ay,false)) ((c,false),(s,false)) (X i) (Y i)).1) (hT:∀ i,i < n → T i = spV (plPt ((ax,false),(ay,false)) ((c,false),(s,false)) (X i) (Y i)).2) (i:Nat) (hi:i < n) :
  0 < turnS (Z i) (T i) (Z (nxt n i)) (T (nxt n i)) (spV (ax,false)) (spV (ay,false)):=by
 have hE:∀ i,i < n → (∃ d,4294967296 * Z i = 256 * ax + (c * X i - s * Y i) + d ∧ ab d ≤ 2147483904) ∧ (∃ d,4294967296 * T i = 256 * ay + (s * X i + c * Y i) + d ∧ ab d ≤ 2147483904):=fun i hi => by
  rw [hZ i hi,hT i hi]
  exact pl_err (by omega) (by omega) hc hs (hl i hi).1 (hl i hi).2
 have hM:∀ a:Int,(-17179869184000 ≤ a ∧ a ≤ 17179869184000) → ∃ d,4294967296 * spV (a,false) = 256 * a + d ∧ ab d ≤ 2147483904:=fun a h => by
  rw [spV_in (by omega)]
  refine ⟨4294967296 * ((a * 256 + 2147483648) / 4294967296) - 256 * a,by omega,?_⟩
  have:=Int.emod_nonneg (a * 256 + 2147483648) (show (4294967296:Int) ≠ 0 by decide)
  have:=Int.emod_lt_of_pos (a * 256 + 2147483648) (show (0:Int) < 4294967296 by decide)
  have:=Int.emod_add_mul_ediv (a * 256 + 2147483648) 4294967296
  unfold ab
  split <;> omega
 obtain ⟨⟨d,q1,q2⟩,⟨g,q3,q4⟩⟩:=hE i hi
 obtain ⟨⟨d',q5,q6⟩,⟨g',q7,q8⟩⟩:=hE _ (nxt_lt hi)
 obtain ⟨d'',q9,q10⟩:=hM ax ha
 obtain ⟨g'',q11,q12⟩:=hM ay ha2
 have hmm:=hm i hi
 have b1:=abs_sub d' d
 have b2:=abs_sub g' g
 have b3:=abs_sub d'' d
 have b4:=abs_sub g'' g
 have r:=rot_cross (ex:=X (nxt n i) - X i) (ey:=Y (nxt n i) - Y i) (fx:=0 - X i) (fy:=0 - Y i) (d1:=d' - d) (d2:=g' - g) (g1:=d'' - d) (g2:=g'' - g) h1 (rot_sum h2) (by omega) (by omega) (by omega) (by omega) hmm
 have e:∀ x y z w:Int,c * (x - y) - s * (z - w) = c * x - s * z - (c * y - s * w):=fun x y z w => by grind
 have e':∀ x y z w:Int,s * (x - y) + c * (z - w) = s * x + c * z - (s * y + c * w):=fun x y z w => by grind
 refine turn_of (D1:=c * (X (nxt n i) - X i) - s * (Y (nxt n i) - Y i) + (d' - d)) (D2:=s * (X (nxt n i) - X i) + c * (Y (nxt n i) - Y i) + (g' - g)) (F1:=c * (0 - X i) - s * (0 - Y i) + (d'' - d)) (F2:=s * (0 - X i) + c * (0 - Y i) + (g'' - g)) ?_ ?_ ?_ ?_ r
 ·rw [e]; omega
 ·rw [e']; omega
 ·rw [e]; omega
 ·rw [e']; omega
end Go.Ax
end