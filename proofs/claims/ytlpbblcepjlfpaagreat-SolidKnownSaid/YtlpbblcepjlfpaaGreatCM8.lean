/-
  How two polygons touch, by the program.
-/
import Derived.Test.YtlpbblcepjlfpaaGreatCM7
import Derived.ShutString
import Derived.ChangeOld
import Derived.Below
set_option linter.unusedVariables false
set_option linter.unusedSimpArgs false
section
set_option maxHeartbeats 4000000
set_option maxRecDepth 100000
namespace Go.Ax
open Go.Proofs
theorem idx168_0 {a b c d:Int} {e f g h:Bool}:idzE Tryz.prog 168 (.agg [i64 a,bo e,i64 b,bo f,i64 c,bo g,i64 d,bo h]) (.v (.int .i64 0)) = some ⟨[],.agg [i64 a,bo e,i64 b,bo f],.none⟩:=by kernel_rfl
theorem idx168_1 {a b c d:Int} {e f g h:Bool}:idzE Tryz.prog 168 (.agg [i64 a,bo e,i64 b,bo f,i64 c,bo g,i64 d,bo h]) (.v (.int .i64 1)) = some ⟨[],.agg [i64 c,bo g,i64 d,bo h],.none⟩:=by kernel_rfl
attribute [go_sem] idx168_0 idx168_1
def clpQ (r:Nat) (fam:Fam) (pre:List Prop) (s:V2 × V2):Option Eff:=some ⟨pre,.tup [],.many [(r,wb1 fam (sgC s.1 s.2))] none⟩
def clpE (r:Nat) (fam:Fam):Option (List Prop × AV × List AV) → Option Eff
 | some (ob,val,cs) => some ⟨((fam 0).n = 1) :: (8 = (fam 0).sz) :: (cleanCs ((fam 0).get 0) = true) :: famOK r fam :: ob,val,.many [(r,wb1 fam cs)] none⟩
 | none => none
def clpB (r:Nat):Option Fam → List AV → Option Eff
 | some fam,rest => clpE r fam (clpG ((fam 0).get 0) rest)
 | none,_ => none
theorem mClp_bx {key:Nat} {m:Mem} {r:Nat} {rest:List AV}:mClp key m (.bx r 0 :: rest) = clpB r (look m r) rest:=by
 show (match look m r with
  | some fam => (match clpG ((fam 0).get 0) rest with
   | some (ob,val,cs) => some (⟨((fam 0).n = 1) :: (8 = (fam 0).sz) :: (cleanCs ((fam 0).get 0) = true) :: famOK r fam :: ob,val,.many [(r,wb1 fam cs)] none⟩:Eff)
   | none => none)
  | none => none) = _
 generalize look m r = x
 cases x with
 | none => rfl
 | some fam =>
  unfold clpB
  dsimp only
  generalize clpG ((fam 0).get 0) rest = y
  cases y <;> rfl
section
variable {P:Program} {G:Ctx} {H:Hots} {K0:AEx → St → Prop} {hot:Option Hot} {ops:Array Oper} {d:Option Tmp} {rest:List Oper} {i:Nat} {st:List Fr} {t:Slots} {m:Mem} {nx r:Nat} {fam:Fam} {o pre ob:List Prop} {s:V2 × V2}
theorem stepC_clpQ:stepC P G H K0 hot ops d rest i st t m nx (withOb o (bndE (aMut none (clpQ r fam pre s)))) = (∀ s',s' = s → stepC P G H K0 hot ops d rest i st t m nx (withOb o (some ⟨pre,.tup [],.many [(r,wb1 fam (sgC s'.1 s'.2))] none⟩))):=by
 rw [bndE_eq]
 apply propext
 constructor
 ·rintro h b' rfl; exact h
 ·intro h; exact h s rfl
end
theorem clpB_eq {r:Nat} {T:TypeId} {x y a b i j:Int} {e f g h k l:Bool}:clpB r (some (fam1 T 8 [i64 x,bo e,i64 y,bo f,i64 a,bo g,i64 b,bo h] none)) [.agg [i64 i,bo k],.agg [i64 j,bo l]] = clpQ r (fam1 T 8 [i64 x,bo e,i64 y,bo f,i64 a,bo g,i64 b,bo h] none) [(1:Nat) = 1,8 = 8,True,famOK r (fam1 T 8 [i64 x,bo e,i64 y,bo f,i64 a,bo g,i64 b,bo h] none),inR x,inR y,inR a,inR b,inR i,inR j] (clpX ((x,e),(y,f)) ((a,g),(b,h)) (i,k) (j,l),clpY ((x,e),(y,f)) ((a,g),(b,h)) (i,k) (j,l)):=by
 have h1:cleanCs [i64 x,bo e,i64 y,bo f,i64 a,bo g,i64 b,bo h] = true:=rfl
 have h2:(cleanCs [i64 x,bo e,i64 y,bo f,i64 a,bo g,i64 b,bo h] = true) = True:=eq_true h1
 have e:clpB r (some (fam1 T 8 [i64 x,bo e,i64 y,bo f,i64 a,bo g,i64 b,bo h] none)) [.agg [i64 i,bo k],.agg [i64 j,bo l]] = clpQ r (fam1 T 8 [i64 x,bo e,i64 y,bo f,i64 a,bo g,i64 b,bo h] none) [(1:Nat) = 1,8 = 8,cleanCs [i64 x,bo e,i64 y,bo f,i64 a,bo g,i64 b,bo h] = true,famOK r (fam1 T 8 [i64 x,bo e,i64 y,bo f,i64 a,bo g,i64 b,bo h] none),inR x,inR y,inR a,inR b,inR i,inR j] (clpX ((x,e),(y,f)) ((a,g),(b,h)) (i,k) (j,l),clpY ((x,e),(y,f)) ((a,g),(b,h)) (i,k) (j,l)):=rfl
 rw [e,h2]
attribute [go_sem] mClp_bx stepC_clpQ clpB_eq wb1_1
def flRw (nv p a b:V2):Nat → Mem
 | 0 => [(81,fam1 58 5 [i64 nv.1.1,bo nv.1.2,i64 nv.2.1,bo nv.2.2,.v (.slice none 0 0)] none)]
 | k + 1 => [(81,fam1 58 5 [i64 nv.1.1,bo nv.1.2,i64 nv.2.1,bo nv.2.2,.own 89 0 (k + 1) 6] none),(89,famN (k + 1) 6 71 (tchs (tcP nv p a b) (tcD nv a b)) none)]
section
variable {nv p a b:V2}
theorem flRw_0:flRw nv p a b 0 = [(81,fam1 58 5 [i64 nv.1.1,bo nv.1.2,i64 nv.2.1,bo nv.2.2,.v (.slice none 0 0)] none)]:=(rfl)
theorem flRw_1:flRw nv p a b 1 = [(81,fam1 58 5 [i64 nv.1.1,bo nv.1.2,i64 nv.2.1,bo nv.2.2,.own 89 0 1 6] none),(89,famN 1 6 71 (tchs (tcP nv p a b) (tcD nv a b)) none)]:=(rfl)
theorem flRw_2:flRw nv p a b 2 = [(81,fam1 58 5 [i64 nv.1.1,bo nv.1.2,i64 nv.2.1,bo nv.2.2,.own 89 0 2 6] none),(89,famN 2 6 71 (tchs (tcP nv p a b) (tcD nv a b)) none)]:=(rfl)
end
theorem tch_a {nv p a b:V2} (ha:(vDot nv a).1 ≤ 0):tchs (tcP nv p a b) (tcD nv a b) 0 = [i64 (vAdd p a).1.1,bo (vAdd p a).1.2,i64 (vAdd p a).2.1,bo (vAdd p a).2.2,i64 (nNeg (vDot nv a)).1,bo (nNeg (vDot nv a)).2]:=by
 rw [tchs_at]
 unfold tchC tcP tcD
 rw [if_pos ⟨ha,rfl⟩,if_pos ⟨ha,rfl⟩]
theorem tch_b {nv p a b:V2} {q:Nat} (h:¬ ((vDot nv a).1 ≤ 0 ∧ q = 0)):tchs (tcP nv p a b) (tcD nv a b) q = [i64 (vAdd p b).1.1,bo (vAdd p b).1.2,i64 (vAdd p b).2.1,bo (vAdd p b).2.2,i64 (nNeg (vDot nv b)).1,bo (nNeg (vDot nv b)).2]:=by
 rw [tchs_at]
 unfold tchC tcP tcD
 rw [if_neg h,if_neg h]
theorem vc63 (n:Nat) (X Y:Nat → Int) (m:Nat) (Z T:Nat → Int) (i:Nat) (hX:∀ i,i < n → inR (X i) ∧ inR (Y i)) (hZ:∀ i,i < m → inR (Z i) ∧ inR (T i)) (hi:i < n) (hn:n ≤ 1000) (hm:m ≤ 1000) (m0:0 < m) (vX:∀ i,i < n → validS (X i) (Y i) = true) (vZ:∀ i,i < m → validS (Z i) (T i) = true) :
  fnVC Tryz.prog [(122,k122),(120,k173),(123,k123),(104,c104),(124,k176),(109,k165),(47,k63),(114,k161),(126,k178),(125,.wr mClp),(112,k160),(96,k130),(127,k179),(128,k180),(87,c87),(111,k167)] [(6,⟨[(10,.made 9)],[]⟩),(7,⟨[(8,.call)],[]⟩),(8,⟨[(12,.call)],[]⟩),(15,⟨[(13,.slot 16)],[]⟩),(19,⟨[(13,.made 11),(14,.made 12)],[]⟩),(25,⟨[(2,.slot 20),(3,.slot 21)],[(1,[.slot 20])]⟩),(27,⟨[(8,.slot 16)],[]⟩)] Tryz.f63 [.agg [.ro n 2 fun i => [i64 (X i),i64 (Y i)]],.agg [.ro m 2 fun i => [i64 (Z i),i64 (T i)]],i64 (i:Int)] (alk (mfA (flS n X Y m Z T i))):=by
 refine fnVC_go (rs:=[.cell 6 58]) rfl rfl ?_
 have hg:spots n fun i => [i64 (X i),i64 (Y i)]:=fun i hi => ⟨rfl,hX i hi⟩
 have hg':spots m fun i => [i64 (Z i),i64 (T i)]:=fun i hi => ⟨rfl,hZ i hi⟩
 have hil:=nxt_lt hi
 simp only [go_sem,k122,k173,k123,c104,k176,k165,k63,k161,k178,k160,k130,k179,k180,c87,k167,sgC,gx_pts0,gx_pts1,hg,hg',hn,hm,m0,Int.toNat_natCast,vX i hi,vX _ hil]
 have eN:vNorm (X i) (Y i) (X (nxt n i)) (Y (nxt n i)) = edN n X Y i:=rfl
 have eJ:leI (agK m Z T (edN n X Y i)) (m - 1) = flJ n X Y m Z T i:=rfl
 have hJ:flJ n X Y m Z T i < m:=by
  have:=leI_lt (h:=agK m Z T (edN n X Y i)) (m - 1)
  unfold flJ
  omega
 have hJn:=nxt_lt hJ
 have hxi:=hX i hi
 have hxn:=hX _ hil
 have hzj:=hZ _ hJ
 have hzn:=hZ _ hJn
 have eT:(vUnit (vOf (mnW (X i) (X (nxt n i))) (mnW (Y i) (Y (nxt n i))))).2 = flT n X Y i:=rfl
 have eE:vLen (vLoc (mnW (X i) (X (nxt n i))) (mnW (Y i) (Y (nxt n i)))) = flE n X Y i:=rfl
 simp only [eN,eJ]
 generalize hJq:flJ n X Y m Z T i = J at *
 have e0:vLoc (mnW (X i) (Z J)) (mnW (Y i) (T J)) = fx0 X Y Z T i J:=rfl
 have e1:vLoc (mnW (X i) (Z (nxt m J))) (mnW (Y i) (T (nxt m J))) = fx0 X Y Z T i (nxt m J):=rfl
 have i1:∀ j,inR (fx0 X Y Z T i j).1.1:=fun j => of_eq_true iLoc1
 have i2:∀ j,inR (fx0 X Y Z T i j).2.1:=fun j => of_eq_true iLoc2
 have c1:clpX (fx0 X Y Z T i J) (fx0 X Y Z T i (nxt m J)) (vDot (flT n X Y i) (fx0 X Y Z T i J)) (vDot (flT n X Y i) (fx0 X Y Z T i (nxt m J))) = cl1X (flT n X Y i) (fx0 X Y Z T i J) (fx0 X Y Z T i (nxt m J)):=rfl
 have c2:clpY (fx0 X Y Z T i J) (fx0 X Y Z T i (nxt m J)) (vDot (flT n X Y i) (fx0 X Y Z T i J)) (vDot (flT n X Y i) (fx0 X Y Z T i (nxt m J))) = cl1Y (flT n X Y i) (fx0 X Y Z T i J) (fx0 X Y Z T i (nxt m J)):=rfl
 have c3:clpX (cl1X (flT n X Y i) (fx0 X Y Z T i J) (fx0 X Y Z T i (nxt m J))) (cl1Y (flT n X Y i) (fx0 X Y Z T i J) (fx0 X Y Z T i (nxt m J))) (nSub (flE n X Y i) (vDot (flT n X Y i) (cl1X (flT n X Y i) (fx0 X Y Z T i J) (fx0 X Y Z T i (nxt m J))))) (nSub (flE n X Y i) (vDot (flT n X Y i) (cl1Y (flT n X Y i) (fx0 X Y Z T i J) (fx0 X Y Z T i (nxt m J))))) = flA n X Y m Z T i J:=rfl
 have c4:clpY (cl1X (flT n X Y i) (fx0 X Y Z T i J) (fx0 X Y Z T i (nxt m J))) (cl1Y (flT n X Y i) (fx0 X Y Z T i J) (fx0 X Y Z T i (nxt m J))) (nSub (flE n X Y i) (vDot (flT n X Y i) (cl1X (flT n X Y i) (fx0 X Y Z T i J) (fx0 X Y Z T i (nxt m J))))) (nSub (flE n X Y i) (vDot (flT n X Y i) (cl1Y (flT n X Y i) (fx0 X Y Z T i J) (fx0 X Y Z T i (nxt m J))))) = flB n X Y m Z T i J:=rfl
 simp only [forall_eq,mnW_eq,eT,eE,e0,e1,c1,c2,c3,c4]
 have iA:inR (flA n X Y m Z T i J).1.1 ∧ inR (flA n X Y m Z T i J).2.1:=⟨clpX_in1 (clpX_in1 (i1 _)),clpX_in2 (clpX_in2 (i2 _))⟩
 have iB:inR (flB n X Y m Z T i J).1.1 ∧ inR (flB n X Y m Z T i J).2.1:=⟨clpY_in1 (clpY_in1 (i1 _)),clpY_in2 (clpY_in2 (i2 _))⟩
 have iw:∀ a b,inR (mnW a b):=fun a b => wrap_inR _
 refine ⟨by omega,by omega,by omega,vZ,iw _ _,iw _ _,iw _ _,iw _ _,iw _ _,iw _ _,iw _ _,iw _ _,clpX_in1 (i1 _),clpX_in2 (i2 _),clpY_in1 (i1 _),clpY_in2 (i2 _),clpX_in1 (i1 _),clpX_in2 (i2 _),clpY_in1 (i1 _),clpY_in2 (i2 _),?_⟩
 have hS:flS n X Y m Z T i = flK (edN n X Y i) (vLoc (X i) (Y i)) (flA n X Y m Z T i J) (flB n X Y m Z T i J) (vLoc (Z (flW n X Y m Z T i)) (T (flW n X Y m Z T i))) (nPos (nNeg (edH n X Y Z T i (flW n X Y m Z T i)))):=by unfold flS; rw [hJq]
 rw [hS]
 generalize flA n X Y m Z T i J = a at *
 generalize flB n X Y m Z T i J = b at *
 have iN:inR (edN n X Y i).1.1 ∧ inR (edN n X Y i).2.1:=⟨of_eq_true iNorm1,of_eq_true iNorm2⟩
 generalize hnv:edN n X Y i = nv at *
 have b71:bytesT Tryz.prog 71 = 48:=byt71
 refine loopN_go (fun (s:Nat) => s ≤ 2) (fun s => 2 - s) (fun s => [(91,i64 (s:Int))]) (fun s => flRw nv (vLoc (X i) (Y i)) a b (tcN nv a b s)) [55,44,36,25,24,16,10,9,2,1,0] [92,93,18,94,95,96,19,97,98,99,100,101,102,103,104,105,106,107,108,109,110,111,112,113,91] 1 0 (by kernel_rfl) (Nat.zero_le _) ⟨[],?_,?_,?_,?_⟩ ?_
 ·simp only [go_sem]
 ·simp only [go_sem,tcN_0,flRw_0]
 ·simp only [go_sem]
 ·simp [goodNames,asg,tcN_0,flRw_0]
 intro s hs
 match s with
 | 0 =>
  rw [tcN_0]
  simp only [go_sem,k122,k173,k123,c104,k176,k165,k63,k161,k178,k160,k130,k179,k180,c87,k167,sgC,gx_pts0,gx_pts1,hg,hg',hn,hm,hxi,iA,iB,iN,b71,flRw_0]
  simp only [Int.reduceBEq,Bool.false_eq_true,false_imp_iff,true_imp_iff,true_and,and_true,reduceCtorEq]
  refine ⟨fun ha z hz => ⟨1,by omega,by omega,[(89,some 113)],?_⟩,fun ha z hz => ⟨1,by omega,by omega,[],?_⟩⟩
  ·rw [tcN_1,if_pos ha]
   simp only [go_sem,flRw_1]
   refine ⟨by rw [hz]; decide,fun q hq => ?_,by simp [goodNames,asg]⟩
   have e:q = 0:=by omega
   subst e
   rw [tch_a (b:=b) ha]
   exact fitL_clean rfl
  ·rw [tcN_1,if_neg ha]
   simp only [go_sem,flRw_0]
   exact ⟨by rw [hz]; decide,by simp [goodNames,asg]⟩
 | 1 =>
  by_cases ha:(vDot nv a).1 ≤ 0
  ·rw [tcN_1,if_pos ha]
   simp only [go_sem,k122,k173,k123,c104,k176,k165,k63,k161,k178,k160,k130,k179,k180,c87,k167,sgC,gx_pts0,gx_pts1,hg,hg',hn,hm,hxi,iA,iB,iN,b71,flRw_1]
   simp only [Int.reduceBEq,Bool.false_eq_true,false_imp_iff,true_imp_iff,true_and,and_true,reduceCtorEq]
   refine ⟨fun hb z hz => ⟨2,by omega,by omega,[(89,some 113)],?_⟩,fun hb z hz => ⟨2,by omega,by omega,[(89,some 89)],?_⟩⟩
   ·rw [tcN_2,tcN_1,if_pos ha,if_pos hb]
    simp only [go_sem,flRw_2]
    refine ⟨by rw [hz]; decide,fun q hq => ?_,by simp [goodNames,asg]⟩
    by_cases e:q = 0
    ·subst e
     rw [if_pos (by omega)]
     exact fitL_clean rfl
    ·have e:q = 1:=by omega
     subst e
     rw [if_neg (by omega),tch_b (fun u => by have:=u.2; omega)]
     exact fitL_clean rfl
   ·rw [tcN_2,tcN_1,if_pos ha,if_neg hb]
    simp only [go_sem,flRw_1]
    exact ⟨by rw [hz]; decide,fun q hq => fitL_clean rfl,by simp [goodNames,asg]⟩
  ·rw [tcN_1,if_neg ha]
   simp only [go_sem,k122,k173,k123,c104,k176,k165,k63,k161,k178,k160,k130,k179,k180,c87,k167,sgC,gx_pts0,gx_pts1,hg,hg',hn,hm,hxi,iA,iB,iN,b71,flRw_0]
   simp only [Int.reduceBEq,Bool.false_eq_true,false_imp_iff,true_imp_iff,true_and,and_true,reduceCtorEq]
   refine ⟨fun hb z hz => ⟨2,by omega,by omega,[(89,some 113)],?_⟩,fun hb z hz => ⟨2,by omega,by omega,[],?_⟩⟩
   ·rw [tcN_2,tcN_1,if_neg ha,if_pos hb]
    simp only [go_sem,flRw_1]
    refine ⟨by rw [hz]; decide,fun q hq => ?_,by simp [goodNames,asg]⟩
    have e:q = 0:=by omega
    subst e
    rw [tch_b (fun u => ha u.1)]
    exact fitL_clean rfl
   ·rw [tcN_2,tcN_1,if_neg ha,if_neg hb]
    simp only [go_sem,flRw_0]
    exact ⟨by rw [hz]; decide,by simp [goodNames,asg]⟩
 | 2 =>
  by_cases h0:tcN nv a b 2 = 0
  ·rw [h0]
   simp only [go_sem,k122,k173,k123,c104,k176,k165,k63,k161,k178,k160,k130,k179,k180,c87,k167,sgC,gx_pts0,gx_pts1,hg,hg',hn,hm,hxi,iA,iB,iN,b71,flRw_0,Option.toList_some,Option.toList_none,List.nil_append,List.cons_append,List.append_nil]
   have hno:¬ 0 < tcN nv a b 2:=by omega
   rw [flK_no hno]
   refine ⟨fun h => h.elim,fun _ => ⟨fun h => (by cases h),fun _ => ?_⟩⟩
   have e00:vDot nv (vLoc (mnW (X i) (Z 0)) (mnW (Y i) (T 0))) = edH n X Y Z T i 0:=by
    rw [← hnv]
    rfl
   have em:((m:Int) - 1).toNat = m - 1:=by omega
   rw [e00,em]
   refine ⟨by omega,by omega,by omega,?_⟩
   refine loopC_go (fun (j:Nat) => j ≤ m - 1) (fun j => m - 1 - j) (fun j => [(133,i64 (j:Int))])
    (fun j => [(106,fam1 36 2 [i64 (edH n X Y Z T i (leI (edH n X Y Z T i) j)).1,bo (edH n X Y Z T i (leI (edH n X Y Z T i) j)).2] none),(105,fam1 29 2 [i64 (Z (leI (edH n X Y Z T i) j)),i64 (T (leI (edH n X Y Z T i) j))] none)]) [81,55,44,36,25,24,16,10,9,2,1,0] [134,135,136,23,137,138,139,140,24,141,142,143,144,145,146,147,133] 0 (by kernel_rfl) ?_ (Nat.zero_le _) ?_ ?_
   ·intro j _; simp [goodNames,asg]
   ·simp only [go_sem,leI_0]
    repeat' (first | rfl | apply And.intro)
   intro l hl
   simp only [go_sem,k122,k173,k123,c104,k176,k165,k63,k161,k178,k160,k130,k179,k180,c87,k167,gx_pts0,gx_pts1,hg,hg',hn,hm,hxi,iA,iB,iN,b71]
   have eH:∀ q,vDot nv (vLoc (mnW (X i) (Z q)) (mnW (Y i) (T q))) = edH n X Y Z T i q:=fun q => by
    rw [← hnv]
    rfl
   simp only [forall_eq,mnW_eq,eH]
   refine ⟨fun hin => ⟨by omega,hin,fun hc => ⟨l + 1,by omega,by omega,by rw [wrap_in (by unfold inR; omega)]; rfl,?_⟩,fun hc => ⟨l + 1,by omega,by omega,by rw [wrap_in (by unfold inR; omega)]; rfl,?_⟩⟩,fun hin => ?_⟩
   ·have e2:leI (edH n X Y Z T i) (l + 1) = 1 + l:=(if_pos (by rw [Nat.add_comm] at hc; exact hc)).trans (Nat.add_comm _ _)
    rw [e2]
    exact ⟨⟨rfl,rfl⟩,rfl,rfl⟩
   ·have e2:leI (edH n X Y Z T i) (l + 1) = leI (edH n X Y Z T i) l:=if_neg (by rw [Nat.add_comm] at hc; exact hc)
    rw [e2]
    exact ⟨⟨rfl,rfl⟩,rfl,rfl⟩
   ·have e2:l = m - 1:=by omega
    subst e2
    have hW:leI (edH n X Y Z T i) (m - 1) < m:=by
     have:=leI_lt (h:=edH n X Y Z T i) (m - 1)
     omega
    have hzw:=hZ _ hW
    have hr:inR (edH n X Y Z T i (leI (edH n X Y Z T i) (m - 1))).1:=rg_inR hgt_rg
    exact ⟨hzw.1,hzw.2,hr,of_eq_true (iNeg hr),alk_one rfl⟩
  ·rcases (show tcN nv a b 2 = 1 ∨ tcN nv a b 2 = 2 by rw [tcN_2,tcN_1] at h0 ⊢; split at h0 <;> split at h0 <;> simp_all) with h1 | h1
   ·rw [h1]
    simp only [go_sem,k122,k173,k123,c104,k176,k165,k63,k161,k178,k160,k130,k179,k180,c87,k167,sgC,gx_pts0,gx_pts1,hg,hg',hn,hm,hxi,iA,iB,iN,b71,flRw_1]
    refine ⟨fun h => h.elim,fun _ => ⟨fun _ => ?_,fun h => (by cases h)⟩⟩
    obtain ⟨k1,k2,k3⟩:=flK_tc (p:=vLoc (X i) (Y i)) (q:=vLoc (Z (flW n X Y m Z T i)) (T (flW n X Y m Z T i))) (d:=nPos (nNeg (edH n X Y Z T i (flW n X Y m Z T i)))) (show 0 < tcN nv a b 2 by omega)
    rw [h1] at k2 k3
    refine alk_mf k1 k2 fun q hq => ?_
    rw [(k3 q hq).1,(k3 q hq).2]
    rfl
   ·rw [h1]
    simp only [go_sem,k122,k173,k123,c104,k176,k165,k63,k161,k178,k160,k130,k179,k180,c87,k167,sgC,gx_pts0,gx_pts1,hg,hg',hn,hm,hxi,iA,iB,iN,b71,flRw_2]
    refine ⟨fun h => h.elim,fun _ => ⟨fun _ => ?_,fun h => (by cases h)⟩⟩
    obtain ⟨k1,k2,k3⟩:=flK_tc (p:=vLoc (X i) (Y i)) (q:=vLoc (Z (flW n X Y m Z T i)) (T (flW n X Y m Z T i))) (d:=nPos (nNeg (edH n X Y Z T i (flW n X Y m Z T i)))) (show 0 < tcN nv a b 2 by omega)
    rw [h1] at k2 k3
    refine alk_mf k1 k2 fun q hq => ?_
    rw [(k3 q hq).1,(k3 q hq).2]
    rfl
 | q + 3 => omega
def k63f:Con
 | [.agg [.ro n 2 g],.agg [.ro m 2 g'],.v (.int .i64 i)] => some ([spots n g,spots m g',0 ≤ i,i < n,n ≤ 1000,m ≤ 1000,0 < m,∀ i,i < n → validS (gx g 0 i) (gx g 1 i) = true,∀ i,i < m → validS (gx g' 0 i) (gx g' 1 i) = true],mfA (flS n (gx g 0) (gx g 1) m (gx g' 0) (gx g' 1) i.toNat))
 | _ => none
theorem con63:ConOK Tryz.prog 63 k63f:=ConOK.goR (G:=[(122,k122),(120,k173),(123,k123),(104,c104),(124,k176),(109,k165),(47,k63),(114,k161),(126,k178),(125,.wr mClp),(112,k160),(96,k130),(127,k179),(128,k180),(87,c87),(111,k167)]) (H:=[(6,⟨[(10,.made 9)],[]⟩),(7,⟨[(8,.call)],[]⟩),(8,⟨[(12,.call)],[]⟩),(15,⟨[(13,.slot 16)],[]⟩),(19,⟨[(13,.made 11),(14,.made 12)],[]⟩),(25,⟨[(2,.slot 20),(3,.slot 21)],[(1,[.slot 20])]⟩),(27,⟨[(8,.slot 16)],[]⟩)]) (.cons kon122 (.cons kon173 (.cons con123 (.cons con104 (.cons kon176 (.cons kon165 (.cons kon63 (.cons kon161 (.cons kon178 (.mcons con125m (.cons kon160 (.cons kon130 (.cons kon179 (.cons kon180 (.cons con87 (.cons kon167 .nil)))))))))))))))) Tryz.func63 fun l ob rr hc hob => by
 unfold k63f at hc
 split at hc
 ·rename_i n g m g' i
  cases hc
  have hs:spots n g:=hob _ (by simp)
  have hs':spots m g':=hob _ (by simp)
  have i0:0 ≤ i:=hob _ (by simp)
  have i1:i < n:=hob _ (by simp)
  have e:i = (i.toNat:Int):=by omega
  refine ⟨[.agg [.ro n 2 fun i => [i64 (gx g 0 i),i64 (gx g 1 i)]],.agg [.ro m 2 fun i => [i64 (gx g' 0 i),i64 (gx g' 1 i)]],i64 (i.toNat:Int)],fun w I vs h => ?_,by kernel_rfl,vc63 n _ _ m _ _ i.toNat (fun i hi => (hs i hi).2) (fun i hi => (hs' i hi).2) (by omega) (hob _ (by simp)) (hob _ (by simp)) (hob _ (by simp)) (hob _ (by simp)) (hob _ (by simp))⟩
  rw [← e]
  obtain ⟨x1,xs,rfl,p1,p2⟩:=h.inv
  obtain ⟨x2,ys,rfl,p3,p4⟩:=p2.inv
  exact .cons (Rs_poly hs _ p1) (.cons (Rs_poly hs' _ p3) p4)
 ·cases hc
end Go.Ax
end
section
/-
  How two forms touch, by the program.
-/
set_option maxHeartbeats 4000000
set_option maxRecDepth 100000
namespace Go.Ax
open Go.Proofs
theorem vc19 (k x y r:Int) (n:Nat) (g:Nat → List AV) (k' x' y' r':Int) (m:Nat) (g':Nat → List AV) (hg:spots n g) (hg':spots m g') (hn:n ≤ 9223372036854775806) (hm:m ≤ 9223372036854775806) (h1:inR x) (h2:inR y) (h3:inR r) (h4:inR x') (h5:inR y') (h6:inR r') :
  fnVC Tryz.prog [(57,c57),(58,c58),(59,k59),(61,k61),(60,kbak),(62,k94),(63,k63f)] [(9,⟨[(5,.slot 4)],[]⟩),(11,⟨[(4,.slot 4)],[]⟩),(12,⟨[(6,.made 4),(7,.made 5)],[]⟩)] Tryz.f19 [formA k x y r n g,formA k' x' y' r' m g'] (alk (clipA k x y r n (gx g 0) (gx g 1) k' x' y' r' m (gx g' 0) (gx g' 1))):=by
 refine fnVC_go (rs:=[.cell 4 58,.tmp 5]) rfl rfl ?_
 have h0:¬ (checkS k x y r n (gx g 0) (gx g 1) = 0 ∧ checkS k' x' y' r' m (gx g' 0) (gx g' 1) = 0 ∧ apS k x y r n (gx g 0) (gx g 1) k' x' y' r' m (gx g' 0) (gx g' 1) = false) → alk (clipA k x y r n (gx g 0) (gx g 1) k' x' y' r' m (gx g' 0) (gx g' 1)) (.tup [.agg [i64 0,bo false,i64 0,bo false,.v (.slice none 0 0)],bo false]):=fun h => by
  unfold clipA
  rw [show clipS k x y r n (gx g 0) (gx g 1) k' x' y' r' m (gx g' 0) (gx g' 1) = mf0 from if_neg h,show clipB k x y r n (gx g 0) (gx g 1) k' x' y' r' m (gx g' 0) (gx g' 1) = false from decide_eq_false h]
  exact alk_form alk_nil6
 obtain ⟨U,hU⟩:∃ U,clipA k x y r n (gx g 0) (gx g 1) k' x' y' r' m (gx g' 0) (gx g' 1) = U:=⟨_,rfl⟩
 rw [hU] at h0 ⊢
 by_cases hA:checkS k x y r n (gx g 0) (gx g 1) = 0
 ·by_cases hB:checkS k' x' y' r' m (gx g' 0) (gx g' 1) = 0
  ·by_cases hk:k = 1
   ·by_cases hk':k' = 1
    ·have eb:bothS k x y r n g k' x' y' r' m g' = .tup [.iface 107 (.agg [i64 x,i64 y,i64 r]),.iface 107 (.agg [i64 x',i64 y',i64 r']),bo true]:=by unfold bothS; rw [if_pos hA,if_pos hk,if_pos hB,if_pos hk']
     simp only [go_sem,c57,c58,k59,k61,kbak,k94,k63f,c57,eb,c58,c90a,c90d,c90e,c90f,k94,k94p,k94q,k94r,k94d,hg,hg',hn,hm,h1,h2,h3,h4,h5,h6]
     simp only [false_imp_iff,true_imp_iff,reduceCtorEq,true_and,and_true,Bool.false_eq_true]
     have eap:apS k x y r n (gx g 0) (gx g 1) k' x' y' r' m (gx g' 0) (gx g' 1) = ddS x y r x' y' r':=by unfold apS; rw [if_pos ⟨hA,hB⟩,if_pos hk,if_pos hk']
     intro z hz z1 hz1
     refine ⟨fun q => h0 fun w => ?_,fun q => ?_⟩
     ·rw [w.2.2,← hz1] at eap
      rcases q with q | q
      ·rw [hz] at q; cases q
      ·rw [q] at eap; cases eap
     ·have hall:=And.intro hA (And.intro hB (eap.trans (hz1.symm.trans q.2)))
      have eB:clipB k x y r n (gx g 0) (gx g 1) k' x' y' r' m (gx g' 0) (gx g' 1) = true:=decide_eq_true hall
      have eS:clipS k x y r n (gx g 0) (gx g 1) k' x' y' r' m (gx g' 0) (gx g' 1) = _:=if_pos hall
      rw [← hU]
      unfold clipA
      rw [eB,eS,if_pos hk,if_pos hk']
      exact fun _ _ _ h => h
    ·have eb:bothS k x y r n g k' x' y' r' m g' = .tup [.iface 107 (.agg [i64 x,i64 y,i64 r]),.iface 112 (.agg [.ro m 2 g']),bo true]:=by unfold bothS; rw [if_pos hA,if_pos hk,if_pos hB,if_neg hk']
     simp only [go_sem,c57,c58,k59,k61,kbak,k94,k63f,c57,eb,c58,c90a,c90d,c90e,c90f,k94,k94p,k94q,k94r,k94d,hg,hg',hn,hm,h1,h2,h3,h4,h5,h6]
     simp only [false_imp_iff,true_imp_iff,reduceCtorEq,true_and,and_true,Bool.false_eq_true]
     have eap:apS k x y r n (gx g 0) (gx g 1) k' x' y' r' m (gx g' 0) (gx g' 1) = outS m (gx g' 0) (gx g' 1) x y r:=by unfold apS; rw [if_pos ⟨hA,hB⟩,if_pos hk,if_neg hk']
     have fB:=fig_n hB hk'
     intro z hz z1 hz1
     refine ⟨fun _ => trivial,fun _ => trivial,fun _ => (check_1 hB).2.2.1,fun _ => (check_1 hA).2.1,fun q => h0 fun w => ?_,fun q => ⟨by omega,by omega,(check_1 hB).2.2.1,(check_1 hA).2.1,fun a1 e1 a2 e2 a3 e3 a4 e4 => ⟨(pdS_in (n:=m) (X:=gx g' 0) (Y:=gx g' 1) (x:=x) (y:=y) (r:=r)).1.1,(pdS_in (n:=m) (X:=gx g' 0) (Y:=gx g' 1) (x:=x) (y:=y) (r:=r)).1.2,?_⟩⟩⟩
     ·rw [w.2.2,← hz1] at eap
      rcases q with q | q
      ·rw [hz] at q; cases q
      ·rw [q] at eap; cases eap
     ·have hall:=And.intro hA (And.intro hB (eap.trans (hz1.symm.trans q.2)))
      have eB:clipB k x y r n (gx g 0) (gx g 1) k' x' y' r' m (gx g' 0) (gx g' 1) = true:=decide_eq_true hall
      have eS:clipS k x y r n (gx g 0) (gx g 1) k' x' y' r' m (gx g' 0) (gx g' 1) = _:=if_pos hall
      rw [← hU]
      unfold clipA
      rw [eB,eS,if_pos hk,if_neg hk']
      rw [e1,e2,e3,e4]
      exact fun _ _ _ h => h
   ·by_cases hk':k' = 1
    ·have eb:bothS k x y r n g k' x' y' r' m g' = .tup [.iface 112 (.agg [.ro n 2 g]),.iface 107 (.agg [i64 x',i64 y',i64 r']),bo true]:=by unfold bothS; rw [if_pos hA,if_neg hk,if_pos hB,if_pos hk']
     simp only [go_sem,c57,c58,k59,k61,kbak,k94,k63f,c57,eb,c58,c90a,c90d,c90e,c90f,k94,k94p,k94q,k94r,k94d,hg,hg',hn,hm,h1,h2,h3,h4,h5,h6]
     simp only [false_imp_iff,true_imp_iff,reduceCtorEq,true_and,and_true,Bool.false_eq_true]
     have eap:apS k x y r n (gx g 0) (gx g 1) k' x' y' r' m (gx g' 0) (gx g' 1) = outS n (gx g 0) (gx g 1) x' y' r':=by unfold apS; rw [if_pos ⟨hA,hB⟩,if_neg hk,if_pos hk']
     have fA:=fig_n hA hk
     intro z hz z1 hz1
     refine ⟨fun _ => trivial,fun _ => trivial,fun _ => (check_1 hA).2.2.1,fun _ => (check_1 hB).2.1,fun q => h0 fun w => ?_,fun q => ⟨by omega,by omega,(check_1 hA).2.2.1,(check_1 hB).2.1,?_⟩⟩
     ·rw [w.2.2,← hz1] at eap
      rcases q with q | q
      ·rw [hz] at q; cases q
      ·rw [q] at eap; cases eap
     ·have hall:=And.intro hA (And.intro hB (eap.trans (hz1.symm.trans q.2)))
      have eB:clipB k x y r n (gx g 0) (gx g 1) k' x' y' r' m (gx g' 0) (gx g' 1) = true:=decide_eq_true hall
      have eS:clipS k x y r n (gx g 0) (gx g 1) k' x' y' r' m (gx g' 0) (gx g' 1) = _:=if_pos hall
      rw [← hU]
      unfold clipA
      rw [eB,eS,if_neg hk,if_pos hk']
      exact fun _ _ _ h => h
    ·have eb:bothS k x y r n g k' x' y' r' m g' = .tup [.iface 112 (.agg [.ro n 2 g]),.iface 112 (.agg [.ro m 2 g']),bo true]:=by unfold bothS; rw [if_pos hA,if_neg hk,if_pos hB,if_neg hk']
     simp only [go_sem,c57,c58,k59,k61,kbak,k94,k63f,c57,eb,c58,c90a,c90d,c90e,c90f,k94,k94p,k94q,k94r,k94d,hg,hg',hn,hm,h1,h2,h3,h4,h5,h6]
     simp only [false_imp_iff,true_imp_iff,reduceCtorEq,true_and,and_true,Bool.false_eq_true]
     have eap:apS k x y r n (gx g 0) (gx g 1) k' x' y' r' m (gx g' 0) (gx g' 1) = (clrS n (gx g 0) (gx g 1) m (gx g' 0) (gx g' 1) || clrS m (gx g' 0) (gx g' 1) n (gx g 0) (gx g 1)):=by unfold apS; rw [if_pos ⟨hA,hB⟩,if_neg hk,if_neg hk']
     have fA:=fig_n hA hk
     have fB:=fig_n hB hk'
     have eX:axS k x y r n (gx g 0) (gx g 1) k' x' y' r' m (gx g' 0) (gx g' 1) = axSt n (gP n (gx g 0) (gx g 1) m (gx g' 0) (gx g' 1)) m (gP m (gx g' 0) (gx g' 1) n (gx g 0) (gx g 1)) 2:=by
      unfold axS
      rw [if_pos ⟨hA,hB⟩,if_neg hk,if_neg hk']
     have hi:=axSt_ix2 (n:=n) (m:=m) (G:=gP n (gx g 0) (gx g 1) m (gx g' 0) (gx g' 1)) (G':=gP m (gx g' 0) (gx g' 1) n (gx g 0) (gx g 1)) (by omega)
     have vA:=(check_1 hA).2.2.1
     have vB:=(check_1 hB).2.2.1
     have eS:apS k x y r n (gx g 0) (gx g 1) k' x' y' r' m (gx g' 0) (gx g' 1) = false → clipS k x y r n (gx g 0) (gx g 1) k' x' y' r' m (gx g' 0) (gx g' 1) = _:=fun w => (if_pos ⟨hA,hB,w⟩:clipS k x y r n (gx g 0) (gx g 1) k' x' y' r' m (gx g' 0) (gx g' 1) = _)
     rw [if_neg hk,if_neg hk',eX] at eS
     generalize axSt n (gP n (gx g 0) (gx g 1) m (gx g' 0) (gx g' 1)) m (gP m (gx g' 0) (gx g' 1) n (gx g 0) (gx g 1)) 2 = s at *
     clear eX
     intro z hz z1 hz1
     refine ⟨fun _ => trivial,fun _ => trivial,fun _ => vA,fun _ => trivial,fun _ => trivial,fun _ => vB,fun q => h0 fun w => ?_,fun q => ⟨by omega,by omega,vA,by omega,by omega,vB,fun q3 => ⟨by have:s.1 = 0:=(by simpa using q3); omega,by have:s.1 = 0:=(by simpa using q3); omega,by omega,by omega,by omega,vA,vB,?_⟩,fun q3 => ⟨by have:¬ s.1 = 0:=(by simpa using q3); omega,by have:¬ s.1 = 0:=(by simpa using q3); omega,by omega,by omega,by omega,vB,vA,fun a1 e1 a2 e2 a3 e3 a4 e4 => ⟨(flS_in (n:=m) (X:=gx g' 0) (Y:=gx g' 1) (m:=n) (Z:=gx g 0) (T:=gx g 1) (i:=s.2.1.toNat)).1.1,(flS_in (n:=m) (X:=gx g' 0) (Y:=gx g' 1) (m:=n) (Z:=gx g 0) (T:=gx g 1) (i:=s.2.1.toNat)).1.2,?_⟩⟩⟩⟩
     ·rw [w.2.2,← hz1] at eap
      rcases q with q | q
      ·rw [hz] at q; cases q
      ·rw [q] at eap; cases eap
     ·have w:=eap.trans (hz1.symm.trans q.2)
      have e:s.1 = 0:=by simpa using q3
      have eB:clipB k x y r n (gx g 0) (gx g 1) k' x' y' r' m (gx g' 0) (gx g' 1) = true:=decide_eq_true ⟨hA,hB,w⟩
      rw [← hU]
      unfold clipA
      rw [eB,eS w,if_pos e]
      exact fun _ _ _ h => h
     ·have w:=eap.trans (hz1.symm.trans q.2)
      have e:¬ s.1 = 0:=by simpa using q3
      have eB:clipB k x y r n (gx g 0) (gx g 1) k' x' y' r' m (gx g' 0) (gx g' 1) = true:=decide_eq_true ⟨hA,hB,w⟩
      rw [← hU]
      unfold clipA
      rw [eB,eS w,if_neg e,e1,e2,e3,e4]
      exact fun _ _ _ h => h
  ·have h0':=h0 fun q => hB q.2.1
   by_cases hk:k = 1
   ·have eb:bothS k x y r n g k' x' y' r' m g' = .tup [.iface 107 (.agg [i64 x,i64 y,i64 r]),.v .nilIface,bo false]:=by unfold bothS; rw [if_pos hA,if_pos hk,if_neg hB]
    simp only [go_sem,c57,c58,k59,k61,kbak,k94,k63f,c57,eb,c58,c90a,c90d,c90e,c90f,hg,hg',hn,hm,h1,h2,h3,h4,h5,h6]
    exact fun z hz z1 hz1 => ⟨fun h => (by rw [hz] at h; cases h),fun _ => h0',fun q => (by rw [hz] at q; cases q.1)⟩
   ·have eb:bothS k x y r n g k' x' y' r' m g' = .tup [.iface 112 (.agg [.ro n 2 g]),.v .nilIface,bo false]:=by unfold bothS; rw [if_pos hA,if_neg hk,if_neg hB]
    simp only [go_sem,c57,c58,k59,k61,kbak,k94,k63f,c57,eb,c58,c90a,c90d,c90e,c90f,hg,hg',hn,hm,h1,h2,h3,h4,h5,h6]
    exact fun z hz z1 hz1 => ⟨fun h => (by rw [hz] at h; cases h),fun _ => h0',fun q => (by rw [hz] at q; cases q.1)⟩
 ·have h0':=h0 fun q => hA q.1
  by_cases hB:checkS k' x' y' r' m (gx g' 0) (gx g' 1) = 0
  ·by_cases hk':k' = 1
   ·have eb:bothS k x y r n g k' x' y' r' m g' = .tup [.v .nilIface,.iface 107 (.agg [i64 x',i64 y',i64 r']),bo false]:=by unfold bothS; rw [if_neg hA,if_pos hB,if_pos hk']
    simp only [go_sem,c57,c58,k59,k61,kbak,k94,k63f,c57,eb,c58,c90a,c90d,c90e,c90f,hg,hg',hn,hm,h1,h2,h3,h4,h5,h6]
    exact fun z hz z1 hz1 => ⟨fun h => (by rw [hz] at h; cases h),fun _ => h0',fun q => (by rw [hz] at q; cases q.1)⟩
   ·have eb:bothS k x y r n g k' x' y' r' m g' = .tup [.v .nilIface,.iface 112 (.agg [.ro m 2 g']),bo false]:=by unfold bothS; rw [if_neg hA,if_pos hB,if_neg hk']
    simp only [go_sem,c57,c58,k59,k61,kbak,k94,k63f,c57,eb,c58,c90a,c90d,c90e,c90f,hg,hg',hn,hm,h1,h2,h3,h4,h5,h6]
    exact fun z hz z1 hz1 => ⟨fun h => (by rw [hz] at h; cases h),fun _ => h0',fun q => (by rw [hz] at q; cases q.1)⟩
  ·have eb:bothS k x y r n g k' x' y' r' m g' = .tup [.v .nilIface,.v .nilIface,bo false]:=by unfold bothS; rw [if_neg hA,if_neg hB]
   simp only [go_sem,c57,c58,k59,k61,kbak,k94,k63f,c57,eb,c58,c90a,c90d,c90e,c90f,hg,hg',hn,hm,h1,h2,h3,h4,h5,h6]
   exact fun z hz z1 hz1 => ⟨fun h => (by rw [hz] at h; cases h),fun _ => h0',fun q => (by rw [hz] at q; cases q.1)⟩
theorem con19:ConOK Tryz.prog 19 c20:=ConOK.goR (G:=[(57,c57),(58,c58),(59,k59),(61,k61),(60,kbak),(62,k94),(63,k63f)]) (H:=[(9,⟨[(5,.slot 4)],[]⟩),(11,⟨[(4,.slot 4)],[]⟩),(12,⟨[(6,.made 4),(7,.made 5)],[]⟩)]) (.cons con57 (.cons con58 (.cons con59 (.cons con61 (.cons konbak (.cons kon94 (.cons con63 .nil))))))) Tryz.func19 fun l ob rr hc hob => by
 unfold c20 at hc
 split at hc
 ·rename_i k x y r n g k' x' y' r' m g'
  cases hc
  exact ⟨_,fun w I vs h => h,by kernel_rfl,vc19 k x y r n g k' x' y' r' m g' (hob _ (by simp)) (hob _ (by simp)) (hob _ (by simp)) (hob _ (by simp)) (hob _ (by simp)) (hob _ (by simp)) (hob _ (by simp)) (hob _ (by simp)) (hob _ (by simp)) (hob _ (by simp))⟩
 ·cases hc
end Go.Ax
end
section
/-
  Plane geometry: what is inside a convex polygon is on no line's far side.
-/
set_option maxHeartbeats 4000000
namespace Go.Ax
end Go.Ax
end
section
/-
  What a way meets of a polygon: the least and the greatest of the crossings.
-/
set_option maxHeartbeats 4000000
namespace Go.Ax
end Go.Ax
end
section
/-
  A way that passes a spot of a box meets the box; what a way meets of a polygon is in it.
-/
set_option maxHeartbeats 4000000
namespace Go.Ax
end Go.Ax
end
section
/-
  What a way meets of a polygon.
-/
set_option maxHeartbeats 4000000
namespace Go.Ax
end Go.Ax
end
section
/-
  What a way meets of a disc.
-/
set_option maxHeartbeats 4000000
namespace Go.Ax
end Go.Ax
end
section
/-
  Numbers that are not flagged, and how great they are.
-/
set_option maxHeartbeats 4000000
namespace Go.Ax
def gd (a:Nb) (B:Int):Prop:=a.2 = false ∧ -B ≤ a.1 ∧ a.1 ≤ B
end Go.Ax
end
section
/-
  When a way meets a disc: it is no flagged number.
-/
set_option maxHeartbeats 4000000
namespace Go.Ax
end Go.Ax
end
section
/-
  Unit vectors have the length 1, but for 256 parts.
-/
set_option maxHeartbeats 4000000
namespace Go.Ax
end Go.Ax
end
section
/-
  A disc that is off all edges of a polygon, its middle not being in it, has no spot in common with it.
-/
set_option maxHeartbeats 4000000
namespace Go.Ax
end Go.Ax
end
section
/-
  A disc that is off all edges of a polygon, its middle not being in it, has no spot in common with it.
-/
set_option maxHeartbeats 4000000
namespace Go.Ax
end Go.Ax
end
section
/-
  A disc that is off all edges of a polygon, its middle not being in it, has no spot in common with it.
-/
set_option maxHeartbeats 4000000
namespace Go.Ax
end Go.Ax
end
section
/-
  Polygons that an edge separates have no spot in common.
-/
set_option maxHeartbeats 4000000
namespace Go.Ax
end Go.Ax
end
section
/-
  Forms that are apart have no spot in common; no form is apart from itself.
-/
set_option maxHeartbeats 4000000
namespace Go.Ax
end Go.Ax
end
section
/-
  Where forms touch: between the ends of an edge; directions of length 1.
-/
set_option maxHeartbeats 4000000
set_option maxRecDepth 100000
namespace Go.Ax
def bt (lo hi:Int) (a:Nb):Prop:=a.2 = false ∧ lo ≤ a.1 ∧ a.1 ≤ hi
def bx (a b c d:Int) (v:V2):Prop:=bt a c v.1 ∧ bt b d v.2
end Go.Ax
end
section
/-
  How forms touch: one or two places, near both forms, none with a depth below 0, in a direction of length 1.
-/
set_option maxHeartbeats 4000000
set_option maxRecDepth 100000
namespace Go.Ax
end Go.Ax
end
section
/-
  Sine and cosine ars they are computed: their squares sum up to one, but for 2^-19. Plain arithmetic.
-/
namespace Go.Ax
def facM (k:Nat):Int:=2 * ((k:Int) + 1) * (2 * ((k:Int) + 1) + 1)
def tq (y:Int):Nat → Int
 | 0 => y
 | k + 1 => -((((tq y k * y).tdiv 4294967296 * y).tdiv 4294967296 * 4294967296).tdiv (facM k * 4294967296))
def sq (y:Int):Nat → Int
 | 0 => y
 | k + 1 => sq y k + tq y (k + 1)
end Go.Ax
end
section
/-
  The sine's series, ars plain numbers.
-/
set_option maxHeartbeats 4000000
set_option maxRecDepth 100000
namespace Go.Ax
open Go.Proofs
end Go.Ax
end
section
/-
  Made polygons are convex.
-/
set_option maxHeartbeats 4000000
set_option maxRecDepth 100000
namespace Go.Ax
open Go.Proofs
end Go.Ax
end
section
/-
  Made polygons of five and eight corners are convex.
-/
set_option maxHeartbeats 4000000
set_option maxRecDepth 100000
namespace Go.Ax
open Go.Proofs
end Go.Ax
end
section
/-
  Made shapes are sound.
-/
set_option maxHeartbeats 4000000
set_option maxRecDepth 100000
namespace Go.Ax
open Go.Proofs
end Go.Ax
end
section
/-
  Made bodies: their weights.
-/
set_option maxHeartbeats 4000000
set_option maxRecDepth 100000
namespace Go.Ax
open Go.Proofs
end Go.Ax
end
section
/-
  Turns made of numbers are on the circle.
-/
set_option maxHeartbeats 4000000
set_option maxRecDepth 100000
namespace Go.Ax
open Go.Proofs
end Go.Ax
end
section
/-
  Made bodies are sound, and have a mass.
-/
set_option maxHeartbeats 4000000
set_option maxRecDepth 100000
namespace Go.Ax
open Go.Proofs
end Go.Ax
end
section
/-
  Corners with a margin stay convex when they are turned and rounded.
-/
set_option maxHeartbeats 4000000
set_option maxRecDepth 100000
namespace Go.Ax
open Go.Proofs
end Go.Ax
end
section
/-
  Made polygons have a margin.
-/
set_option maxHeartbeats 4000000
set_option maxRecDepth 100000
namespace Go.Ax
open Go.Proofs
end Go.Ax
end
section
/-
  Forms made of numbers are sound.
-/
set_option maxHeartbeats 4000000
set_option maxRecDepth 100000
namespace Go.Ax
open Go.Proofs
end Go.Ax
end
section
/-
  Made forms within 12 units are near, and not great.
-/
set_option maxHeartbeats 4000000
set_option maxRecDepth 100000
namespace Go.Ax
open Go.Proofs
end Go.Ax
end
section
/-
  The order of two forms does not matter; no form is apart from itself.
-/
set_option maxHeartbeats 4000000
namespace Go.Ax
end Go.Ax
end
section
/-
  Two convex polygons that a line keeps apart are kept apart by the line of an edge.
-/
set_option maxHeartbeats 4000000
namespace Go.Ax
end Go.Ax
end
section
/-
  Forms whose boxes do not meet are apart.
-/
set_option maxHeartbeats 4000000
namespace Go.Ax
end Go.Ax
end
section
/-
  SolidTouches: its body.
-/
set_option maxHeartbeats 4000000
set_option maxRecDepth 100000
namespace Go.Ax
open Go.Proofs
section
variable {a b c x y u s:Int}
end
end Go.Ax
end
section
/-
  SolidPlaced: its body.
-/
set_option maxHeartbeats 4000000
set_option maxRecDepth 100000
namespace Go.Ax
open Go.Proofs
theorem bnd_ro2 {n sz:Nat} {f:Nat → List AV}:bnd (.ro n sz f) = .ro n sz f:=(rfl)
end Go.Ax
end
section
/-
  SolidKnown: its body.
-/
set_option maxHeartbeats 4000000
set_option maxRecDepth 100000
namespace Go.Ax
open Go.Proofs
def sqX (x:Int) (i:Nat):Int:=match i with
 | 0 => x - 256
 | 1 => x + 256
 | 2 => x + 256
 | _ => x - 256
def sqY (i:Nat):Int:=match i with
 | 0 => -256
 | 1 => -256
 | 2 => 256
 | _ => 256
abbrev sqA (x:Int):AV:=formA 2 x 0 0 4 fun i => [i64 (sqX x i),i64 (sqY i)]
abbrev dcA (x:Int):AV:=formA 1 x 0 256 0 fun i => [i64 (sqX x i),i64 (sqY i)]
theorem alk_nil4 {f:Nat → List AV}:alk (.ro 0 4 f) (.v (.slice none 0 0)):=fun w ρ v hR => by
 cases hR
 exact .ro 0 0 (Nat.le_refl _) (fun h => absurd h (by omega)) (fun h => absurd h (by omega)) (fun i h => absurd h (by omega)) (fun i k h => absurd h (by omega)) (fun i k c x h => absurd h (by omega))
def c33:Con
 | [.v (.int .i64 k),.v (.int .i64 x)] => some ([k = 1 ∨ k = 2,-1000 ≤ x,x ≤ 1000],if k = 1 then dcA x else sqA x)
 | _ => none
theorem con33:ConOK Tryz.prog 33 c33:=ConOK.goR (G:=[]) (H:=[]) .nil Tryz.func33 fun l ob rr hc hob => by
 unfold c33 at hc
 split at hc
 ·rename_i k x
  cases hc
  have h_0:k = 1 ∨ k = 2:=hob _ (by simp)
  have h_1:-1000 ≤ x:=hob _ (by simp)
  have h_2:x ≤ 1000:=hob _ (by simp)
  refine ⟨_,fun w I vs h => h,by kernel_rfl,fnVC_go (rs:=[.cell 4 31]) rfl rfl ?_⟩
  simp only [go_sem,forall_eq]
  refine ⟨fun h => ?_,fun h => ?_⟩
  ·have h:k = 1:=of_decide_eq_true h
   subst h
   rw [if_pos rfl]
   exact alk_shape alk_nil
  ·have h:¬ k = 1:=of_decide_eq_false h
   have h:k = 2:=by omega
   subst h
   rw [if_neg (by decide)]
   refine alk_shape (alk_ro fun i hi => ?_)
   have w1:IntKind.i64.wrap (x - 256) = x - 256:=wrap_in (by unfold inR; omega)
   have w2:IntKind.i64.wrap (x + 256) = x + 256:=wrap_in (by unfold inR; omega)
   rw [w1,w2]
   match i with
   | 0 => rfl
   | 1 => rfl
   | 2 => rfl
   | 3 => rfl
   | q + 4 => omega
 ·cases hc
def k8n:Con
 | [.agg [.v (.int .i64 k),.v (.int .i64 r),.v (.int .i64 w),.v (.int .i64 t),.v (.slice none 0 0)],.agg [.v (.int .i64 x),.v (.bool e),.v (.int .i64 y),.v (.bool f),.v (.int .i64 c),.v (.bool o),.v (.int .i64 s),.v (.bool p)]] => some ([inR x,inR y,inR c,inR s],plA k r w t 0 (fun _ => 0) (fun _ => 0) ((x,e),(y,f)) ((c,o),(s,p)))
 | _ => none
theorem kon8n:ConOK Tryz.prog 8 k8n:=ConOK.goR (G:=[(41,c41),(42,c42),(43,c43),(44,c44),(45,c45),(47,k63),(46,k62)]) (H:=[(9,⟨[(7,.made 6)],[]⟩),(15,⟨[(10,.slot 8)],[]⟩)]) (.cons con41 (.cons con42 (.cons con43 (.cons con44 (.cons con45 (.cons kon63 (.cons kon62 .nil))))))) Tryz.func8 fun l ob rr hc hob => by
 unfold k8n at hc
 split at hc
 ·rename_i k r w t x e y f c o s p
  cases hc
  refine ⟨[shapeA k r w t 0 fun i => [i64 0,i64 0],poseA ((x,e),(y,f)) ((c,o),(s,p))],fun w I vs h => ?_,by kernel_rfl,vc8 k r w t 0 _ _ (fun i hi => absurd hi (by omega)) (by omega) _ _ (hob _ (by simp)) (hob _ (by simp)) (hob _ (by simp)) (hob _ (by simp))⟩
  obtain ⟨x1,xs,rfl,p1,p2⟩:=h.inv
  exact .cons (alk_shape alk_nil _ _ _ p1) p2
 ·cases hc
def k29n:Con
 | [.v (.slice none 0 0)] => some ([],.agg [i64 0,i64 0,i64 0,i64 0])
 | _ => none
theorem kon29n:ConOK Tryz.prog 29 k29n:=ConOK.go (G:=[(15,c15)]) (H:=[(9,⟨[(11,.slot 3),(13,.slot 3)],[(8,[.slot 3])]⟩),(10,⟨[(11,.slot 3),(13,.slot 3)],[(8,[.slot 3])]⟩)]) (.cons con15 .nil) Tryz.func29 fun l ob rr hc hob => by
 unfold k29n at hc
 split at hc
 ·cases hc
  refine ⟨[.ro 0 4 fun i => [i64 0,i64 0,i64 0,i64 0]],fun w I vs h => ?_,by kernel_rfl,vc29 0 _ _ _ _ (fun i hi => absurd hi (by omega)) (by omega)⟩
  obtain ⟨x1,xs,rfl,p1,p2⟩:=h.inv
  exact .cons (alk_nil4 _ _ _ p1) p2
 ·cases hc
def kSaE:Con
 | [.agg [.v (.int .i64 x),.v (.bool e),.v (.int .i64 y),.v (.bool f),.ro n 6 g],.agg [.v (.int .i64 x'),.v (.bool e'),.v (.int .i64 y'),.v (.bool f'),.ro m 6 g']] => some ([n ≤ 1000,x' = x,e' = e,y' = y,f' = f,m = n,∀ i,i < n → g i = tchs (tchP g) (tchD g) i,∀ i,i < n → g' i = tchs (tchP g) (tchD g) i],bo true)
 | _ => none
theorem konSaE:ConOK Tryz.prog 21 kSaE:=ConOK.go (G:=[]) (H:=[]) .nil Tryz.func21 fun l ob rr hc hob => by
 unfold kSaE at hc
 split at hc
 ·rename_i x e y f n g x' e' y' f' m g'
  cases hc
  have h0:n ≤ 1000:=hob _ (by simp)
  have h1:x' = x:=hob _ (by simp)
  have h2:e' = e:=hob _ (by simp)
  have h3:y' = y:=hob _ (by simp)
  have h4:f' = f:=hob _ (by simp)
  have h5:m = n:=hob _ (by simp)
  have h6:∀ i,i < n → g i = tchs (tchP g) (tchD g) i:=hob _ (by simp)
  have h7:∀ i,i < n → g' i = tchs (tchP g) (tchD g) i:=hob _ (by simp)
  subst h1 h2 h3 h4 h5
  refine ⟨[manC ((x',e'),(y',f')) m (tchP g) (tchD g),manC ((x',e'),(y',f')) m (tchP g) (tchD g)],fun w I vs h => ?_,by kernel_rfl,vc21 ((x',e'),(y',f')) m (tchP g) (tchD g) h0⟩
  obtain ⟨x1,xs,rfl,p1,p2⟩:=h.inv
  obtain ⟨x2,ys,rfl,p3,p4⟩:=p2.inv
  exact .cons (alk_shape (alk_ro6 h6) _ _ _ p1) (.cons (alk_shape (alk_ro6 h7) _ _ _ p3) p4)
 ·cases hc
theorem inR_lt {x:Int} (h:-10000000000 ≤ x ∧ x ≤ 10000000000):inR x:=by unfold inR; omega
def pX (i:Nat):Int:=plX 2 256 256 (fun _ => 0) (fun _ => 0) ((0,false),(0,false)) ((4294967296,false),(0,false)) i
def pY (i:Nat):Int:=plY 2 256 256 (fun _ => 0) (fun _ => 0) ((0,false),(0,false)) ((4294967296,false),(0,false)) i
theorem sq_sp {x:Int} {n:Nat} (h:-1000 ≤ x ∧ x ≤ 1000):spots n fun i => [i64 (sqX x i),i64 (sqY i)]:=fun i _ => by
 refine ⟨rfl,?_,?_⟩
 ·show inR (sqX x i)
  unfold sqX inR
  split <;> omega
 ·show inR (sqY i)
  unfold sqY inR
  split <;> omega
theorem e33a:c33 [i64 2,i64 0] = some ([(2:Int) = 1 ∨ (2:Int) = 2,(-1000:Int) ≤ 0,(0:Int) ≤ 1000],sqA 0):=rfl
theorem e33b:c33 [i64 1,i64 512] = some ([(1:Int) = 1 ∨ (1:Int) = 2,(-1000:Int) ≤ 512,(512:Int) ≤ 1000],dcA 512):=rfl
theorem e33c:c33 [i64 1,i64 513] = some ([(1:Int) = 1 ∨ (1:Int) = 2,(-1000:Int) ≤ 513,(513:Int) ≤ 1000],dcA 513):=rfl
theorem e33d:c33 [i64 2,i64 300] = some ([(2:Int) = 1 ∨ (2:Int) = 2,(-1000:Int) ≤ 300,(300:Int) ≤ 1000],sqA 300):=rfl
theorem e8:k8n [.agg [i64 2,i64 0,i64 256,i64 256,.v (.slice none 0 0)],.agg [i64 0,bo false,i64 0,bo false,i64 4294967296,bo false,i64 0,bo false]] = some ([inR 0,inR 0,inR 4294967296,inR 0],.tup [formA 2 0 0 0 4 fun i => [i64 (pX i),i64 (pY i)],i64 0]):=by kernel_rfl
theorem e22:c22 [formA 2 0 0 0 4 fun i => [i64 (pX i),i64 (pY i)],sqA 0] = some ([spots 4 fun i => [i64 (pX i),i64 (pY i)],spots 4 fun i => [i64 (sqX 0 i),i64 (sqY i)],4 ≤ 9223372036854775806,4 ≤ 9223372036854775806],bo true):=by kernel_rfl
theorem e12:c12 [formA 2 0 0 0 4 fun i => [i64 (pX i),i64 (pY i)]] = some ([spots 4 fun i => [i64 (pX i),i64 (pY i)],4 ≤ 9223372036854775806,inR 0,inR 0,inR 0],.agg [i64 (-256),i64 (-256),i64 256,i64 256]):=by kernel_rfl
theorem e24a:c24 [sqA 0,dcA 512] = some ([spots 4 fun i => [i64 (sqX 0 i),i64 (sqY i)],spots 0 fun i => [i64 (sqX 512 i),i64 (sqY i)],4 ≤ 9223372036854775806,0 ≤ 9223372036854775806,inR 0,inR 0,inR 0,inR 512,inR 0,inR 256],bo false):=by kernel_rfl
theorem e24b:c24 [sqA 0,dcA 513] = some ([spots 4 fun i => [i64 (sqX 0 i),i64 (sqY i)],spots 0 fun i => [i64 (sqX 513 i),i64 (sqY i)],4 ≤ 9223372036854775806,0 ≤ 9223372036854775806,inR 0,inR 0,inR 0,inR 513,inR 0,inR 256],bo true):=by kernel_rfl
def kMf:Mf:=clipS 2 0 0 0 4 (sqX 0) sqY 1 512 0 256 0 (sqX 512) sqY
theorem e20:c20 [sqA 0,dcA 512] = some ([spots 4 fun i => [i64 (sqX 0 i),i64 (sqY i)],spots 0 fun i => [i64 (sqX 512 i),i64 (sqY i)],4 ≤ 9223372036854775806,0 ≤ 9223372036854775806,inR 0,inR 0,inR 0,inR 512,inR 0,inR 256],.tup [.agg [i64 4294967296,bo false,i64 0,bo false,.ro 1 6 (tchs kMf.P kMf.D)],bo true]):=by
 have h1:kMf.nv = ((4294967296,false),(0,false)):=by kernel_rfl
 have h2:kMf.n = 1:=by kernel_rfl
 have h3:clipB 2 0 0 0 4 (sqX 0) sqY 1 512 0 256 0 (sqX 512) sqY = true:=by kernel_rfl
 have e:c20 [sqA 0,dcA 512] = some ([spots 4 fun i => [i64 (sqX 0 i),i64 (sqY i)],spots 0 fun i => [i64 (sqX 512 i),i64 (sqY i)],4 ≤ 9223372036854775806,0 ≤ 9223372036854775806,inR 0,inR 0,inR 0,inR 512,inR 0,inR 256],.tup [.agg [i64 kMf.nv.1.1,bo kMf.nv.1.2,i64 kMf.nv.2.1,bo kMf.nv.2.2,.ro kMf.n 6 (tchs kMf.P kMf.D)],bo (clipB 2 0 0 0 4 (sqX 0) sqY 1 512 0 256 0 (sqX 512) sqY)]):=rfl
 rw [e,h1,h2,h3]
theorem kMf_0:tchs kMf.P kMf.D 0 = [i64 4294967296,bo false,i64 0,bo false,i64 0,bo false]:=by
 have h1:kMf.P 0 = ((4294967296,false),(0,false)):=by kernel_rfl
 have h2:kMf.D 0 = (0,false):=by kernel_rfl
 rw [tchs_at,h1,h2]
 rfl
theorem kMf_0':tchC (tchP (tchs kMf.P kMf.D) 0) (tchD (tchs kMf.P kMf.D) 0) = [i64 4294967296,bo false,i64 0,bo false,i64 0,bo false]:=by
 unfold tchP tchD
 rw [kMf_0]
 rfl
theorem e34:c34 [sqA 0,sqA 300] = some ([spots 4 fun i => [i64 (sqX 0 i),i64 (sqY i)],spots 4 fun i => [i64 (sqX 300 i),i64 (sqY i)],4 ≤ 9223372036854775806,4 ≤ 9223372036854775806,inR 0,inR 0,inR 0,inR 300,inR 0,inR 0],.agg [bo false,i64 0,i64 1,i64 (-3556769792),bo false]):=by kernel_rfl
theorem e35a:k54 [i64 (-212),i64 256] = some ([inR (-212),inR 256],.agg [i64 (-3556769792),bo false]):=by kernel_rfl
theorem e35b:k54 [i64 43,i64 150] = some ([inR 43,inR 150],.agg [i64 1231223958,bo false]):=by kernel_rfl
theorem e36a:c36 [sqA 0,.agg [i64 (-512),i64 0],.agg [i64 512,i64 0]] = some ([spots 4 fun i => [i64 (sqX 0 i),i64 (sqY i)],4 ≤ 9223372036854775806,inR 0,inR 0,inR 0,inR (-512),inR 0,inR 512,inR 0],.agg [bo true,i64 1073741824,bo false,i64 (-4294967296),bo false,i64 0,bo false]):=by kernel_rfl
theorem e36b:c36 [sqA 0,.agg [i64 0,i64 0],.agg [i64 9,i64 0]] = some ([spots 4 fun i => [i64 (sqX 0 i),i64 (sqY i)],4 ≤ 9223372036854775806,inR 0,inR 0,inR 0,inR 0,inR 0,inR 9,inR 0],.agg [bo true,i64 0,bo false,i64 0,bo false,i64 0,bo false]):=by kernel_rfl
theorem e37b:c37 [.ro 4 2 fun i => [i64 (sqX 0 i),i64 (sqY i)]] = some ([spots 4 fun i => [i64 (sqX 0 i),i64 (sqY i)],4 ≤ 9223372036854775806],bo true):=by kernel_rfl
def rev4:Nat → List AV:=rowsOf 2 [i64 (sqX 0 3),i64 (sqY 3),i64 (sqX 0 2),i64 (sqY 2),i64 (sqX 0 1),i64 (sqY 1),i64 (sqX 0 0),i64 (sqY 0)]
theorem e37a:c37 [.ro 4 2 (rowsOf 2 [i64 (sqX 0 3),i64 (sqY 3),i64 (sqX 0 2),i64 (sqY 2),i64 (sqX 0 1),i64 (sqY 1),i64 (sqX 0 0),i64 (sqY 0)])] = some ([spots 4 rev4,4 ≤ 9223372036854775806],bo false):=by kernel_rfl
theorem rev4_sp:spots 4 rev4:=fun i hi => by
 have h:∀ i,i < 4 → rev4 i = [i64 (gi (rev4 i) 0),i64 (gi (rev4 i) 1)] ∧ (-1000 ≤ gi (rev4 i) 0 ∧ gi (rev4 i) 0 ≤ 1000) ∧ (-1000 ≤ gi (rev4 i) 1 ∧ gi (rev4 i) 1 ≤ 1000):=fun i hi => by
  match i with
  | 0 => exact ⟨rfl,by decide,by decide⟩
  | 1 => exact ⟨rfl,by decide,by decide⟩
  | 2 => exact ⟨rfl,by decide,by decide⟩
  | 3 => exact ⟨rfl,by decide,by decide⟩
  | q + 4 => omega
 obtain ⟨a,b,c⟩:=h i hi
 exact ⟨a,inR_lt (by unfold gx; omega),inR_lt (by unfold gx; omega)⟩
def two5:Nat → List AV:=rowsOf 5 [i64 1,i64 512,i64 0,i64 256,.ro 0 2 fun i => [i64 (sqX 512 i),i64 (sqY i)],i64 2,i64 0,i64 0,i64 0,.ro 4 2 fun i => [i64 (sqX 0 i),i64 (sqY i)]]
theorem two5_ok:forms 2 two5:=fun i hi => by
 match i with
 | 0 => exact ⟨rfl,inR_lt (by decide),inR_lt (by decide),inR_lt (by decide),sq_sp (by omega),by show 0 ≤ 9223372036854775806; omega⟩
 | 1 => exact ⟨rfl,inR_lt (by decide),inR_lt (by decide),inR_lt (by decide),sq_sp (by omega),by show 4 ≤ 9223372036854775806; omega⟩
 | q + 2 => omega
theorem e39:c39 [.agg [i64 (-600),i64 0],.agg [i64 600,i64 0],.ro 2 5 (rowsOf 5 [i64 1,i64 512,i64 0,i64 256,.ro 0 2 fun i => [i64 (sqX 512 i),i64 (sqY i)],i64 2,i64 0,i64 0,i64 0,.ro 4 2 fun i => [i64 (sqX 0 i),i64 (sqY i)]])] = some ([2 ≤ 1000,forms 2 two5,inR (-600),inR 0,inR 600,inR 0],.tup [i64 1,.agg [bo true,i64 1231223958,bo false,i64 (-4294967296),bo false,i64 0,bo false]]):=by kernel_rfl
theorem e38:c38 [.agg [i64 0,i64 0,i64 1,i64 1],.agg [i64 (-1),i64 2],.agg [i64 2,i64 (-1)]] = some ([inR 0,inR 0,inR 1,inR 1,inR (-1),inR 2,inR 2,inR (-1)],bo true):=by kernel_rfl
theorem vc6:fnVC Tryz.prog [(33,c33),(8,k8n),(22,c22),(12,c12),(24,c24),(19,c20),(21,kSaE),(34,c34),(35,k54),(36,c36),(37,c37),(29,k29n),(38,c38),(39,c39),(16,c16)] [] Tryz.f6 [] (· = bo true):=by
 refine fnVC_go (rs:=[.tmp 0]) rfl rfl ?_
 have s0:spots 4 fun i => [i64 (sqX 0 i),i64 (sqY i)]:=sq_sp (by omega)
 have s1:spots 0 fun i => [i64 (sqX 512 i),i64 (sqY i)]:=sq_sp (by omega)
 have s2:spots 0 fun i => [i64 (sqX 513 i),i64 (sqY i)]:=sq_sp (by omega)
 have s3:spots 4 fun i => [i64 (sqX 300 i),i64 (sqY i)]:=sq_sp (by omega)
 have s4:spots 4 fun i => [i64 (pX i),i64 (pY i)]:=fun i _ => ⟨rfl,spV_inR,spV_inR⟩
 have i0:inR 0:=inR_lt (by omega)
 have i1:inR 4294967296:=inR_lt (by omega)
 have i2:inR 512:=inR_lt (by omega)
 have i3:inR 513:=inR_lt (by omega)
 have i4:inR 256:=inR_lt (by omega)
 have i5:inR 300:=inR_lt (by omega)
 have i6:inR (-512):=inR_lt (by omega)
 have i7:inR 9:=inR_lt (by omega)
 have i9:inR (-600):=inR_lt (by omega)
 have i10:inR 600:=inR_lt (by omega)
 have i11:inR 43:=inR_lt (by omega)
 have i12:inR 150:=inR_lt (by omega)
 have i13:inR (-1):=inR_lt (by omega)
 have i14:inR 1:=inR_lt (by omega)
 have i15:inR 2:=inR_lt (by omega)
 have i8:inR (-212):=inR_lt (by omega)
 simp only [go_sem,forall_eq,bnd_ro2,bne_self_eq_false,beq_self_eq_true,Bool.or_self,Bool.not_false,Bool.or_false,e33a,e33b,e33c,e33d,e8,e22,e12,e24a,e24b,e20,e34,e35a,e35b,e36a,e36b,e37a,e37b,rev4_sp,e38,e39,two5_ok,k29n,s0,s1,s2,s3,s4,i0,i1,i2,i3,i4,i5,i6,i7,i8,i9,i10,i11,i12,i13,i14,i15,kSaE,c16]
 refine ⟨.inr trivial,.inl trivial,fun h => ?_,fun _ => ⟨fun _ => .inl trivial,fun h => ?_,fun _ => ⟨fun _ i hi => ?_,fun _ i hi => ?_,fun h => ?_,fun _ => ⟨.inr trivial,fun h => ?_,fun _ => ⟨fun h => ?_,fun _ h => ?_⟩⟩⟩⟩⟩
 ·rcases h with h | h
  ·exact h
  ·cases h
 ·rcases h with h | h
  ·exact h
  ·cases h
 ·obtain rfl:i = 0:=by omega
  rw [tchs_at (P:=tchP _),kMf_0',kMf_0]
 ·obtain rfl:i = 0:=by omega
  rw [tchs_at (P:=tchP _),kMf_0']
  rfl
 ·rcases h with h | h <;> cases h
 ·cases h
 ·cases h
 ·rcases h with (h | h) | h
  ·exact h
  ·cases h
  ·cases h
end Go.Ax
end
section
/-
  The frame of a law: its arguments ars abstract values, and what they read ars behind the call.
-/
namespace Go.Ax
open Go.ChangeShapes Go.WideShapes Go.ChangeAt Go.RowKit
inductive ShV where
 | int (k:IntKind)
 | bool
 | agg (es:List Sh)
 | slice (sz:Nat) (es:List Sh)
def shV (P:Program) (t:TypeId):Option ShV:=
 match P.underlying t with
 | some .bool => some .bool
 | some (.int k) => some (.int k)
 | some (.slice _) => match shT P 6 t with
  | some [.slice sz es] => some (.slice sz es)
  | _ => none
 | some (.struct _) => (shT P 6 t).map .agg
 | some (.array _ _) => (shT P 6 t).map .agg
 | _ => none
def fitV:ShV → AV → Prop
 | .int k,a => ∃ n,a = .v (.int k n) ∧ (Lit.int k n).wf = true
 | .bool,a => ∃ b,a = .v (.bool b)
 | .agg es,a => ∃ l,a = .agg l ∧ fitS es l
 | .slice sz es,a => ∃ (n:Nat) (get:Nat → List AV),a = .ro n sz get ∧ n ≤ maxLen ∧ ∀ i,fitS es (get i)
def shVs (P:Program):List TypeId → Option (List ShV)
 | [] => some []
 | t :: ts => match shV P t,shVs P ts with
  | some s,some r => some (s :: r)
  | _,_ => none
def fitVs:List ShV → List AV → Prop
 | [],l => l = []
 | s :: ss,l => ∃ a r,l = a :: r ∧ fitV s a ∧ fitVs ss r
section
variable {H:Type} {enc:TypeId × Value → H} {P:Program} {w:World} {spare:Nat → Bool} {held:Bool} {base:Nat}
theorem okWide_agg_struct {t:TypeId} {fs:Array Field} {v:Value} (ht:P.underlying t = some (.struct fs)) (h:Value.okWide P w .any base t v):∃ cs,v = .agg cs:=by
 obtain ⟨cs,h,_⟩:=okWide_struct ht h
 exact ⟨cs,h⟩
theorem trod_agg_array {t e:TypeId} {n:Nat} {v:Value} {x:DataW H} {ps:List MemPlace} (ht:P.underlying t = some (.array n e)) (h:Value.okWide P w .any base t v):∃ cs,v = .agg cs:=by
 cases v <;> simp [Value.okWide,Value.ok,ht] at h <;> exact ⟨_,rfl⟩
theorem arg_read {t:TypeId} {s:ShV} {v:Value} {x:DataW H} {ps:List MemPlace} (hs:shV P t = some s) (ho:Value.okWide P w .any base t v) (h:DataW.Trod enc P w 0 spare held t v x ps):∃ a,fitV s a ∧ R w (.ext (All w)) a v:=by
 unfold shV at hs
 split at hs
 ·rename_i hu
  cases hs
  obtain ⟨b,rfl⟩:=okWide_bool hu ho
  exact ⟨_,⟨b,rfl⟩,.v⟩
 ·rename_i k hu
  cases hs
  obtain ⟨n,rfl,_,_,hw⟩:=open_int hu ho h
  exact ⟨_,⟨n,rfl,hw⟩,.v⟩
 ·rename_i e hu
  split at hs
  ·rename_i sz es he
   cases hs
   obtain ⟨a,len,cap,rfl⟩:=okWide_slice hu ho
   obtain ⟨n,get,h1,h2,h3⟩:=slice_read he h
   exact ⟨_,⟨n,get,rfl,h1,h2⟩,h3⟩
  ·cases hs
 ·rename_i fs hu
  obtain ⟨es,he,rfl⟩:=Option.map_eq_some_iff.1 hs
  obtain ⟨cs,rfl⟩:=okWide_agg_struct hu ho
  obtain ⟨l,h1,h2⟩:=agg_read he h
  exact ⟨_,⟨l,rfl,h1⟩,h2⟩
 ·rename_i n e hu
  obtain ⟨es,he,rfl⟩:=Option.map_eq_some_iff.1 hs
  obtain ⟨cs,rfl⟩:=trod_agg_array (x:=x) (ps:=ps) hu ho
  obtain ⟨l,h1,h2⟩:=agg_read he h
  exact ⟨_,⟨l,rfl,h1⟩,h2⟩
 ·cases hs
theorem args_read:∀ {ts:List TypeId} {ss:List ShV} {vs:List Value} {ds:List (DataW H)} {ps:List MemPlace},shVs P ts = some ss → (∀ (j:Nat) t v,ts[j]? = some t → vs[j]? = some v → Value.okWide P w .any base t v) →
  DataW.TrodAll enc P w 0 spare held ts vs ds ps → ∃ l,fitVs ss l ∧ Rs w (.ext (All w)) l vs
 | [],ss,vs,ds,ps,hs,ho,h => by
  simp only [shVs,Option.some.injEq] at hs
  subst hs
  obtain ⟨rfl,rfl,rfl⟩:=trodAll_nil h
  exact ⟨[],rfl,.nil⟩
 | t :: ts,ss,vs,ds,ps,hs,ho,h => by
  simp only [shVs] at hs
  split at hs
  ·rename_i s r h1 h2
   cases hs
   obtain ⟨v,vs',d,ds',p,q,rfl,rfl,rfl,h3,h4⟩:=trodAll_cons h
   obtain ⟨a,a1,a2⟩:=arg_read h1 (ho 0 t v rfl rfl) h3
   obtain ⟨l,b1,b2⟩:=args_read h2 (fun j t v hj hv => ho (j + 1) t v (by simpa using hj) (by simpa using hv)) h4
   exact ⟨a :: l,⟨a,l,rfl,a1,b1⟩,Rs.cons a2 b2⟩
  ·cases hs
def readOK (P:Program) (ts:List TypeId):Bool:=ts.all fun t => P.readableRec t && decide (t < P.types.size)
theorem args_stay {W W':World} (hl:laidOutB P = true) (hb:Below W.heap.size W W'):∀ {ts:List TypeId} {vs:List Value} {ds:List (DataW H)} {ps:List MemPlace},readOK P ts = true →
  DataW.TrodAll enc P W 0 (fun _ => true) true ts vs ds ps → ∃ ps,DataW.TrodAll enc P W' 0 (fun b => decide (b < W.heap.size)) true ts vs ds ps
 | [],vs,ds,ps,_,h => by
  obtain ⟨rfl,rfl,rfl⟩:=trodAll_nil h
  exact ⟨[],rfl⟩
 | t :: ts,vs,ds,ps,hr,h => by
  obtain ⟨v,vs',d,ds',p,q,rfl,rfl,rfl,h3,h4⟩:=trodAll_cons h
  simp only [readOK,List.all_cons,Bool.and_eq_true,decide_eq_true_eq] at hr
  obtain ⟨q',h5⟩:=args_stay hl hb (by simpa [readOK] using hr.2) h4
  refine ⟨_,trodAll_cons_mk (Below.trod hl hr.1.1 hr.1.2 h3 hb ?_) h5⟩
  obtain ⟨m,hm⟩:=h3
  exact DataW.trod_lt m _ _ _ hm
end
end Go.Ax
end