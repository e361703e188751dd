/-
  How two polygons touch, by the program.
-/
import Derived.Test.YtlpbblcepjlfpaaGreatCM7
set_option linter.unusedVariables false
set_option linter.unusedSimpArgs false
section
set_option maxHeartbeats 4000000
set_option maxRecDepth 100000
namespace Go.Ax
open Go.Proofs
theorem idx168_0 {a b c d:Int} {e f g h:Bool}:idzE Tryz.prog 168 (.agg [i64 a,bo e,i64 b,bo f,i64 c,bo g,i64 d,bo h]) (.v (.int .i64 0)) = some ⟨[],.agg [i64 a,bo e,i64 b,bo f],.none⟩:=by kernel_rfl
theorem idx168_1 {a b c d:Int} {e f g h:Bool}:idzE Tryz.prog 168 (.agg [i64 a,bo e,i64 b,bo f,i64 c,bo g,i64 d,bo h]) (.v (.int .i64 1)) = some ⟨[],.agg [i64 c,bo g,i64 d,bo h],.none⟩:=by kernel_rfl
attribute [go_sem] idx168_0 idx168_1
def clpQ (r:Nat) (fam:Fam) (pre:List Prop) (s:V2 × V2):Option Eff:=some ⟨pre,.tup [],.many [(r,wb1 fam (sgC s.1 s.2))] none⟩
def clpE (r:Nat) (fam:Fam):Option (List Prop × AV × List AV) → Option Eff
 | some (ob,val,cs) => some ⟨((fam 0).n = 1) :: (8 = (fam 0).sz) :: (cleanCs ((fam 0).get 0) = true) :: famOK r fam :: ob,val,.many [(r,wb1 fam cs)] none⟩
 | none => none
def clpB (r:Nat):Option Fam → List AV → Option Eff
 | some fam,rest => clpE r fam (clpG ((fam 0).get 0) rest)
 | none,_ => none
theorem mClp_bx {key:Nat} {m:Mem} {r:Nat} {rest:List AV}:mClp key m (.bx r 0 :: rest) = clpB r (look m r) rest:=by
 show (match look m r with
  | some fam => (match clpG ((fam 0).get 0) rest with
   | some (ob,val,cs) => some (⟨((fam 0).n = 1) :: (8 = (fam 0).sz) :: (cleanCs ((fam 0).get 0) = true) :: famOK r fam :: ob,val,.many [(r,wb1 fam cs)] none⟩:Eff)
   | none => none)
  | none => none) = _
 generalize look m r = x
 cases x with
 | none => rfl
 | some fam =>
  unfold clpB
  dsimp only
  generalize clpG ((fam 0).get 0) rest = y
  cases y <;> rfl
section
variable {P:Program} {G:Ctx} {H:Hots} {K0:AEx → St → Prop} {hot:Option Hot} {ops:Array Oper} {d:Option Tmp} {rest:List Oper} {i:Nat} {st:List Fr} {t:Slots} {m:Mem} {nx r:Nat} {fam:Fam} {o pre ob:List Prop} {s:V2 × V2}
theorem stepC_clpQ:stepC P G H K0 hot ops d rest i st t m nx (withOb o (bndE (aMut none (clpQ r fam pre s)))) = (∀ s',s' = s → stepC P G H K0 hot ops d rest i st t m nx (withOb o (some ⟨pre,.tup [],.many [(r,wb1 fam (sgC s'.1 s'.2))] none⟩))):=by
 rw [bndE_eq]
 apply propext
 constructor
 ·rintro h b' rfl; exact h
 ·intro h; exact h s rfl
end
theorem clpB_eq {r:Nat} {T:TypeId} {x y a b i j:Int} {e f g h k l:Bool}:clpB r (some (fam1 T 8 [i64 x,bo e,i64 y,bo f,i64 a,bo g,i64 b,bo h] none)) [.agg [i64 i,bo k],.agg [i64 j,bo l]] = clpQ r (fam1 T 8 [i64 x,bo e,i64 y,bo f,i64 a,bo g,i64 b,bo h] none) [(1:Nat) = 1,8 = 8,True,famOK r (fam1 T 8 [i64 x,bo e,i64 y,bo f,i64 a,bo g,i64 b,bo h] none),inR x,inR y,inR a,inR b,inR i,inR j] (clpX ((x,e),(y,f)) ((a,g),(b,h)) (i,k) (j,l),clpY ((x,e),(y,f)) ((a,g),(b,h)) (i,k) (j,l)):=by
 have h1:cleanCs [i64 x,bo e,i64 y,bo f,i64 a,bo g,i64 b,bo h] = true:=rfl
 have h2:(cleanCs [i64 x,bo e,i64 y,bo f,i64 a,bo g,i64 b,bo h] = true) = True:=eq_true h1
 have e:clpB r (some (fam1 T 8 [i64 x,bo e,i64 y,bo f,i64 a,bo g,i64 b,bo h] none)) [.agg [i64 i,bo k],.agg [i64 j,bo l]] = clpQ r (fam1 T 8 [i64 x,bo e,i64 y,bo f,i64 a,bo g,i64 b,bo h] none) [(1:Nat) = 1,8 = 8,cleanCs [i64 x,bo e,i64 y,bo f,i64 a,bo g,i64 b,bo h] = true,famOK r (fam1 T 8 [i64 x,bo e,i64 y,bo f,i64 a,bo g,i64 b,bo h] none),inR x,inR y,inR a,inR b,inR i,inR j] (clpX ((x,e),(y,f)) ((a,g),(b,h)) (i,k) (j,l),clpY ((x,e),(y,f)) ((a,g),(b,h)) (i,k) (j,l)):=rfl
 rw [e,h2]
attribute [go_sem] mClp_bx stepC_clpQ clpB_eq wb1_1
def flRw (nv p a b:V2):Nat → Mem
 | 0 => [(81,fam1 58 5 [i64 nv.1.1,bo nv.1.2,i64 nv.2.1,bo nv.2.2,.v (.slice none 0 0)] none)]
 | k + 1 => [(81,fam1 58 5 [i64 nv.1.1,bo nv.1.2,i64 nv.2.1,bo nv.2.2,.own 89 0 (k + 1) 6] none),(89,famN (k + 1) 6 71 (tchs (tcP nv p a b) (tcD nv a b)) none)]
section
variable {nv p a b:V2}
theorem flRw_0:flRw nv p a b 0 = [(81,fam1 58 5 [i64 nv.1.1,bo nv.1.2,i64 nv.2.1,bo nv.2.2,.v (.slice none 0 0)] none)]:=(rfl)
theorem flRw_1:flRw nv p a b 1 = [(81,fam1 58 5 [i64 nv.1.1,bo nv.1.2,i64 nv.2.1,bo nv.2.2,.own 89 0 1 6] none),(89,famN 1 6 71 (tchs (tcP nv p a b) (tcD nv a b)) none)]:=(rfl)
theorem flRw_2:flRw nv p a b 2 = [(81,fam1 58 5 [i64 nv.1.1,bo nv.1.2,i64 nv.2.1,bo nv.2.2,.own 89 0 2 6] none),(89,famN 2 6 71 (tchs (tcP nv p a b) (tcD nv a b)) none)]:=(rfl)
end
theorem tch_a {nv p a b:V2} (ha:(vDot nv a).1 ≤ 0):tchs (tcP nv p a b) (tcD nv a b) 0 = [i64 (vAdd p a).1.1,bo (vAdd p a).1.2,i64 (vAdd p a).2.1,bo (vAdd p a).2.2,i64 (nNeg (vDot nv a)).1,bo (nNeg (vDot nv a)).2]:=by
 rw [tchs_at]
 unfold tchC tcP tcD
 rw [if_pos ⟨ha,rfl⟩,if_pos ⟨ha,rfl⟩]
theorem tch_b {nv p a b:V2} {q:Nat} (h:¬ ((vDot nv a).1 ≤ 0 ∧ q = 0)):tchs (tcP nv p a b) (tcD nv a b) q = [i64 (vAdd p b).1.1,bo (vAdd p b).1.2,i64 (vAdd p b).2.1,bo (vAdd p b).2.2,i64 (nNeg (vDot nv b)).1,bo (nNeg (vDot nv b)).2]:=by
 rw [tchs_at]
 unfold tchC tcP tcD
 rw [if_neg h,if_neg h]
theorem vc63 (n:Nat) (X Y:Nat → Int) (m:Nat) (Z T:Nat → Int) (i:Nat) (hX:∀ i,i < n → inR (X i) ∧ inR (Y i)) (hZ:∀ i,i < m → inR (Z i) ∧ inR (T i)) (hi:i < n) (hn:n ≤ 1000) (hm:m ≤ 1000) (m0:0 < m) (vX:∀ i,i < n → validS (X i) (Y i) = true) (vZ:∀ i,i < m → validS (Z i) (T i) = true) :
  fnVC Tryz.prog [(122,k122),(120,k173),(123,k123),(104,c104),(124,k176),(109,k165),(47,k63),(114,k161),(126,k178),(125,.wr mClp),(112,k160),(96,k130),(127,k179),(128,k180),(87,c87),(111,k167)] [(6,⟨[(10,.made 9)],[]⟩),(7,⟨[(8,.call)],[]⟩),(8,⟨[(12,.call)],[]⟩),(15,⟨[(13,.slot 16)],[]⟩),(19,⟨[(13,.made 11),(14,.made 12)],[]⟩),(25,⟨[(2,.slot 20),(3,.slot 21)],[(1,[.slot 20])]⟩),(27,⟨[(8,.slot 16)],[]⟩)] Tryz.f63 [.agg [.ro n 2 fun i => [i64 (X i),i64 (Y i)]],.agg [.ro m 2 fun i => [i64 (Z i),i64 (T i)]],i64 (i:Int)] (alk (mfA (flS n X Y m Z T i))):=by
 refine fnVC_go (rs:=[.cell 6 58]) rfl rfl ?_
 have hg:spots n fun i => [i64 (X i),i64 (Y i)]:=fun i hi => ⟨rfl,hX i hi⟩
 have hg':spots m fun i => [i64 (Z i),i64 (T i)]:=fun i hi => ⟨rfl,hZ i hi⟩
 have hil:=nxt_lt hi
 simp only [go_sem,k122,k173,k123,c104,k176,k165,k63,k161,k178,k160,k130,k179,k180,c87,k167,sgC,gx_pts0,gx_pts1,hg,hg',hn,hm,m0,Int.toNat_natCast,vX i hi,vX _ hil]
 have eN:vNorm (X i) (Y i) (X (nxt n i)) (Y (nxt n i)) = edN n X Y i:=rfl
 have eJ:leI (agK m Z T (edN n X Y i)) (m - 1) = flJ n X Y m Z T i:=rfl
 have hJ:flJ n X Y m Z T i < m:=by
  have:=leI_lt (h:=agK m Z T (edN n X Y i)) (m - 1)
  unfold flJ
  omega
 have hJn:=nxt_lt hJ
 have hxi:=hX i hi
 have hxn:=hX _ hil
 have hzj:=hZ _ hJ
 have hzn:=hZ _ hJn
 have eT:(vUnit (vOf (mnW (X i) (X (nxt n i))) (mnW (Y i) (Y (nxt n i))))).2 = flT n X Y i:=rfl
 have eE:vLen (vLoc (mnW (X i) (X (nxt n i))) (mnW (Y i) (Y (nxt n i)))) = flE n X Y i:=rfl
 simp only [eN,eJ]
 generalize hJq:flJ n X Y m Z T i = J at *
 have e0:vLoc (mnW (X i) (Z J)) (mnW (Y i) (T J)) = fx0 X Y Z T i J:=rfl
 have e1:vLoc (mnW (X i) (Z (nxt m J))) (mnW (Y i) (T (nxt m J))) = fx0 X Y Z T i (nxt m J):=rfl
 have i1:∀ j,inR (fx0 X Y Z T i j).1.1:=fun j => of_eq_true iLoc1
 have i2:∀ j,inR (fx0 X Y Z T i j).2.1:=fun j => of_eq_true iLoc2
 have c1:clpX (fx0 X Y Z T i J) (fx0 X Y Z T i (nxt m J)) (vDot (flT n X Y i) (fx0 X Y Z T i J)) (vDot (flT n X Y i) (fx0 X Y Z T i (nxt m J))) = cl1X (flT n X Y i) (fx0 X Y Z T i J) (fx0 X Y Z T i (nxt m J)):=rfl
 have c2:clpY (fx0 X Y Z T i J) (fx0 X Y Z T i (nxt m J)) (vDot (flT n X Y i) (fx0 X Y Z T i J)) (vDot (flT n X Y i) (fx0 X Y Z T i (nxt m J))) = cl1Y (flT n X Y i) (fx0 X Y Z T i J) (fx0 X Y Z T i (nxt m J)):=rfl
 have c3:clpX (cl1X (flT n X Y i) (fx0 X Y Z T i J) (fx0 X Y Z T i (nxt m J))) (cl1Y (flT n X Y i) (fx0 X Y Z T i J) (fx0 X Y Z T i (nxt m J))) (nSub (flE n X Y i) (vDot (flT n X Y i) (cl1X (flT n X Y i) (fx0 X Y Z T i J) (fx0 X Y Z T i (nxt m J))))) (nSub (flE n X Y i) (vDot (flT n X Y i) (cl1Y (flT n X Y i) (fx0 X Y Z T i J) (fx0 X Y Z T i (nxt m J))))) = flA n X Y m Z T i J:=rfl
 have c4:clpY (cl1X (flT n X Y i) (fx0 X Y Z T i J) (fx0 X Y Z T i (nxt m J))) (cl1Y (flT n X Y i) (fx0 X Y Z T i J) (fx0 X Y Z T i (nxt m J))) (nSub (flE n X Y i) (vDot (flT n X Y i) (cl1X (flT n X Y i) (fx0 X Y Z T i J) (fx0 X Y Z T i (nxt m J))))) (nSub (flE n X Y i) (vDot (flT n X Y i) (cl1Y (flT n X Y i) (fx0 X Y Z T i J) (fx0 X Y Z T i (nxt m J))))) = flB n X Y m Z T i J:=rfl
 simp only [forall_eq,mnW_eq,eT,eE,e0,e1,c1,c2,c3,c4]
 have iA:inR (flA n X Y m Z T i J).1.1 ∧ inR (flA n X Y m Z T i J).2.1:=⟨clpX_in1 (clpX_in1 (i1 _)),clpX_in2 (clpX_in2 (i2 _))⟩
 have iB:inR (flB n X Y m Z T i J).1.1 ∧ inR (flB n X Y m Z T i J).2.1:=⟨clpY_in1 (clpY_in1 (i1 _)),clpY_in2 (clpY_in2 (i2 _))⟩
 have iw:∀ a b,inR (mnW a b):=fun a b => wrap_inR _
 refine ⟨by omega,by omega,by omega,vZ,iw _ _,iw _ _,iw _ _,iw _ _,iw _ _,iw _ _,iw _ _,iw _ _,clpX_in1 (i1 _),clpX_in2 (i2 _),clpY_in1 (i1 _),clpY_in2 (i2 _),clpX_in1 (i1 _),clpX_in2 (i2 _),clpY_in1 (i1 _),clpY_in2 (i2 _),?_⟩
 have hS:flS n X Y m Z T i = flK (edN n X Y i) (vLoc (X i) (Y i)) (flA n X Y m Z T i J) (flB n X Y m Z T i J) (vLoc (Z (flW n X Y m Z T i)) (T (flW n X Y m Z T i))) (nPos (nNeg (edH n X Y Z T i (flW n X Y m Z T i)))):=by unfold flS; rw [hJq]
 rw [hS]
 generalize flA n X Y m Z T i J = a at *
 generalize flB n X Y m Z T i J = b at *
 have iN:inR (edN n X Y i).1.1 ∧ inR (edN n X Y i).2.1:=⟨of_eq_true iNorm1,of_eq_true iNorm2⟩
 generalize hnv:edN n X Y i = nv at *
 have b71:bytesT Tryz.prog 71 = 48:=byt71
 refine loopN_go (fun (s:Nat) => s ≤ 2) (fun s => 2 - s) (fun s => [(91,i64 (s:Int))]) (fun s => flRw nv (vLoc (X i) (Y i)) a b (tcN nv a b s)) [55,44,36,25,24,16,10,9,2,1,0] [92,93,18,94,95,96,19,97,98,99,100,101,102,103,104,105,106,107,108,109,110,111,112,113,91] 1 0 (by kernel_rfl) (Nat.zero_le _) ⟨[],?_,?_,?_,?_⟩ ?_
 ·simp only [go_sem]
 ·simp only [go_sem,tcN_0,flRw_0]
 ·simp only [go_sem]
 ·simp [goodNames,asg,tcN_0,flRw_0]
 intro s hs
 match s with
 | 0 =>
  rw [tcN_0]
  simp only [go_sem,k122,k173,k123,c104,k176,k165,k63,k161,k178,k160,k130,k179,k180,c87,k167,sgC,gx_pts0,gx_pts1,hg,hg',hn,hm,hxi,iA,iB,iN,b71,flRw_0]
  simp only [Int.reduceBEq,Bool.false_eq_true,false_imp_iff,true_imp_iff,true_and,and_true,reduceCtorEq]
  refine ⟨fun ha z hz => ⟨1,by omega,by omega,[(89,some 113)],?_⟩,fun ha z hz => ⟨1,by omega,by omega,[],?_⟩⟩
  ·rw [tcN_1,if_pos ha]
   simp only [go_sem,flRw_1]
   refine ⟨by rw [hz]; decide,fun q hq => ?_,by simp [goodNames,asg]⟩
   have e:q = 0:=by omega
   subst e
   rw [tch_a (b:=b) ha]
   exact fitL_clean rfl
  ·rw [tcN_1,if_neg ha]
   simp only [go_sem,flRw_0]
   exact ⟨by rw [hz]; decide,by simp [goodNames,asg]⟩
 | 1 =>
  by_cases ha:(vDot nv a).1 ≤ 0
  ·rw [tcN_1,if_pos ha]
   simp only [go_sem,k122,k173,k123,c104,k176,k165,k63,k161,k178,k160,k130,k179,k180,c87,k167,sgC,gx_pts0,gx_pts1,hg,hg',hn,hm,hxi,iA,iB,iN,b71,flRw_1]
   simp only [Int.reduceBEq,Bool.false_eq_true,false_imp_iff,true_imp_iff,true_and,and_true,reduceCtorEq]
   refine ⟨fun hb z hz => ⟨2,by omega,by omega,[(89,some 113)],?_⟩,fun hb z hz => ⟨2,by omega,by omega,[(89,some 89)],?_⟩⟩
   ·rw [tcN_2,tcN_1,if_pos ha,if_pos hb]
    simp only [go_sem,flRw_2]
    refine ⟨by rw [hz]; decide,fun q hq => ?_,by simp [goodNames,asg]⟩
    by_cases e:q = 0
    ·subst e
     rw [if_pos (by omega)]
     exact fitL_clean rfl
    ·have e:q = 1:=by omega
     subst e
     rw [if_neg (by omega),tch_b (fun u => by have:=u.2; omega)]
     exact fitL_clean rfl
   ·rw [tcN_2,tcN_1,if_pos ha,if_neg hb]
    simp only [go_sem,flRw_1]
    exact ⟨by rw [hz]; decide,fun q hq => fitL_clean rfl,by simp [goodNames,asg]⟩
  ·rw [tcN_1,if_neg ha]
   simp only [go_sem,k122,k173,k123,c104,k176,k165,k63,k161,k178,k160,k130,k179,k180,c87,k167,sgC,gx_pts0,gx_pts1,hg,hg',hn,hm,hxi,iA,iB,iN,b71,flRw_0]
   simp only [Int.reduceBEq,Bool.false_eq_true,false_imp_iff,true_imp_iff,true_and,and_true,reduceCtorEq]
   refine ⟨fun hb z hz => ⟨2,by omega,by omega,[(89,some 113)],?_⟩,fun hb z hz => ⟨2,by omega,by omega,[],?_⟩⟩
   ·rw [tcN_2,tcN_1,if_neg ha,if_pos hb]
    simp only [go_sem,flRw_1]
    refine ⟨by rw [hz]; decide,fun q hq => ?_,by simp [goodNames,asg]⟩
    have e:q = 0:=by omega
    subst e
    rw [tch_b (fun u => ha u.1)]
    exact fitL_clean rfl
   ·rw [tcN_2,tcN_1,if_neg ha,if_neg hb]
    simp only [go_sem,flRw_0]
    exact ⟨by rw [hz]; decide,by simp [goodNames,asg]⟩
 | 2 =>
  by_cases h0:tcN nv a b 2 = 0
  ·rw [h0]
   simp only [go_sem,k122,k173,k123,c104,k176,k165,k63,k161,k178,k160,k130,k179,k180,c87,k167,sgC,gx_pts0,gx_pts1,hg,hg',hn,hm,hxi,iA,iB,iN,b71,flRw_0,Option.toList_some,Option.toList_none,List.nil_append,List.cons_append,List.append_nil]
   have hno:¬ 0 < tcN nv a b 2:=by omega
   rw [flK_no hno]
   refine ⟨fun h => h.elim,fun _ => ⟨fun h => (by cases h),fun _ => ?_⟩⟩
   have e00:vDot nv (vLoc (mnW (X i) (Z 0)) (mnW (Y i) (T 0))) = edH n X Y Z T i 0:=by
    rw [← hnv]
    rfl
   have em:((m:Int) - 1).toNat = m - 1:=by omega
   rw [e00,em]
   refine ⟨by omega,by omega,by omega,?_⟩
   refine loopC_go (fun (j:Nat) => j ≤ m - 1) (fun j => m - 1 - j) (fun j => [(133,i64 (j:Int))])
    (fun j => [(106,fam1 36 2 [i64 (edH n X Y Z T i (leI (edH n X Y Z T i) j)).1,bo (edH n X Y Z T i (leI (edH n X Y Z T i) j)).2] none),(105,fam1 29 2 [i64 (Z (leI (edH n X Y Z T i) j)),i64 (T (leI (edH n X Y Z T i) j))] none)]) [81,55,44,36,25,24,16,10,9,2,1,0] [134,135,136,23,137,138,139,140,24,141,142,143,144,145,146,147,133] 0 (by kernel_rfl) ?_ (Nat.zero_le _) ?_ ?_
   ·intro j _; simp [goodNames,asg]
   ·simp only [go_sem,leI_0]
    repeat' (first | rfl | apply And.intro)
   intro l hl
   simp only [go_sem,k122,k173,k123,c104,k176,k165,k63,k161,k178,k160,k130,k179,k180,c87,k167,gx_pts0,gx_pts1,hg,hg',hn,hm,hxi,iA,iB,iN,b71]
   have eH:∀ q,vDot nv (vLoc (mnW (X i) (Z q)) (mnW (Y i) (T q))) = edH n X Y Z T i q:=fun q => by
    rw [← hnv]
    rfl
   simp only [forall_eq,mnW_eq,eH]
   refine ⟨fun hin => ⟨by omega,hin,fun hc => ⟨l + 1,by omega,by omega,by rw [wrap_in (by unfold inR; omega)]; rfl,?_⟩,fun hc => ⟨l + 1,by omega,by omega,by rw [wrap_in (by unfold inR; omega)]; rfl,?_⟩⟩,fun hin => ?_⟩
   ·have e2:leI (edH n X Y Z T i) (l + 1) = 1 + l:=(if_pos (by rw [Nat.add_comm] at hc; exact hc)).trans (Nat.add_comm _ _)
    rw [e2]
    exact ⟨⟨rfl,rfl⟩,rfl,rfl⟩
   ·have e2:leI (edH n X Y Z T i) (l + 1) = leI (edH n X Y Z T i) l:=if_neg (by rw [Nat.add_comm] at hc; exact hc)
    rw [e2]
    exact ⟨⟨rfl,rfl⟩,rfl,rfl⟩
   ·have e2:l = m - 1:=by omega
    subst e2
    have hW:leI (edH n X Y Z T i) (m - 1) < m:=by
     have:=leI_lt (h:=edH n X Y Z T i) (m - 1)
     omega
    have hzw:=hZ _ hW
    have hr:inR (edH n X Y Z T i (leI (edH n X Y Z T i) (m - 1))).1:=rg_inR hgt_rg
    exact ⟨hzw.1,hzw.2,hr,of_eq_true (iNeg hr),alk_one rfl⟩
  ·rcases (show tcN nv a b 2 = 1 ∨ tcN nv a b 2 = 2 by rw [tcN_2,tcN_1] at h0 ⊢; split at h0 <;> split at h0 <;> simp_all) with h1 | h1
   ·rw [h1]
    simp only [go_sem,k122,k173,k123,c104,k176,k165,k63,k161,k178,k160,k130,k179,k180,c87,k167,sgC,gx_pts0,gx_pts1,hg,hg',hn,hm,hxi,iA,iB,iN,b71,flRw_1]
    refine ⟨fun h => h.elim,fun _ => ⟨fun _ => ?_,fun h => (by cases h)⟩⟩
    obtain ⟨k1,k2,k3⟩:=flK_tc (p:=vLoc (X i) (Y i)) (q:=vLoc (Z (flW n X Y m Z T i)) (T (flW n X Y m Z T i))) (d:=nPos (nNeg (edH n X Y Z T i (flW n X Y m Z T i)))) (show 0 < tcN nv a b 2 by omega)
    rw [h1] at k2 k3
    refine alk_mf k1 k2 fun q hq => ?_
    rw [(k3 q hq).1,(k3 q hq).2]
    rfl
   ·rw [h1]
    simp only [go_sem,k122,k173,k123,c104,k176,k165,k63,k161,k178,k160,k130,k179,k180,c87,k167,sgC,gx_pts0,gx_pts1,hg,hg',hn,hm,hxi,iA,iB,iN,b71,flRw_2]
    refine ⟨fun h => h.elim,fun _ => ⟨fun _ => ?_,fun h => (by cases h)⟩⟩
    obtain ⟨k1,k2,k3⟩:=flK_tc (p:=vLoc (X i) (Y i)) (q:=vLoc (Z (flW n X Y m Z T i)) (T (flW n X Y m Z T i))) (d:=nPos (nNeg (edH n X Y Z T i (flW n X Y m Z T i)))) (show 0 < tcN nv a b 2 by omega)
    rw [h1] at k2 k3
    refine alk_mf k1 k2 fun q hq => ?_
    rw [(k3 q hq).1,(k3 q hq).2]
    rfl
 | q + 3 => omega
def k63f:Con
 | [.agg [.ro n 2 g],.agg [.ro m 2 g'],.v (.int .i64 i)] => some ([spots n g,spots m g',0 ≤ i,i < n,n ≤ 1000,m ≤ 1000,0 < m,∀ i,i < n → validS (gx g 0 i) (gx g 1 i) = true,∀ i,i < m → validS (gx g' 0 i) (gx g' 1 i) = true],mfA (flS n (gx g 0) (gx g 1) m (gx g' 0) (gx g' 1) i.toNat))
 | _ => none
theorem con63:ConOK Tryz.prog 63 k63f:=ConOK.goR (G:=[(122,k122),(120,k173),(123,k123),(104,c104),(124,k176),(109,k165),(47,k63),(114,k161),(126,k178),(125,.wr mClp),(112,k160),(96,k130),(127,k179),(128,k180),(87,c87),(111,k167)]) (H:=[(6,⟨[(10,.made 9)],[]⟩),(7,⟨[(8,.call)],[]⟩),(8,⟨[(12,.call)],[]⟩),(15,⟨[(13,.slot 16)],[]⟩),(19,⟨[(13,.made 11),(14,.made 12)],[]⟩),(25,⟨[(2,.slot 20),(3,.slot 21)],[(1,[.slot 20])]⟩),(27,⟨[(8,.slot 16)],[]⟩)]) (.cons kon122 (.cons kon173 (.cons con123 (.cons con104 (.cons kon176 (.cons kon165 (.cons kon63 (.cons kon161 (.cons kon178 (.mcons con125m (.cons kon160 (.cons kon130 (.cons kon179 (.cons kon180 (.cons con87 (.cons kon167 .nil)))))))))))))))) Tryz.func63 fun l ob rr hc hob => by
 unfold k63f at hc
 split at hc
 ·rename_i n g m g' i
  cases hc
  have hs:spots n g:=hob _ (by simp)
  have hs':spots m g':=hob _ (by simp)
  have i0:0 ≤ i:=hob _ (by simp)
  have i1:i < n:=hob _ (by simp)
  have e:i = (i.toNat:Int):=by omega
  refine ⟨[.agg [.ro n 2 fun i => [i64 (gx g 0 i),i64 (gx g 1 i)]],.agg [.ro m 2 fun i => [i64 (gx g' 0 i),i64 (gx g' 1 i)]],i64 (i.toNat:Int)],fun w I vs h => ?_,by kernel_rfl,vc63 n _ _ m _ _ i.toNat (fun i hi => (hs i hi).2) (fun i hi => (hs' i hi).2) (by omega) (hob _ (by simp)) (hob _ (by simp)) (hob _ (by simp)) (hob _ (by simp)) (hob _ (by simp))⟩
  rw [← e]
  obtain ⟨x1,xs,rfl,p1,p2⟩:=h.inv
  obtain ⟨x2,ys,rfl,p3,p4⟩:=p2.inv
  exact .cons (Rs_poly hs _ p1) (.cons (Rs_poly hs' _ p3) p4)
 ·cases hc
end Go.Ax
end
section
/-
  How two forms touch, by the program.
-/
set_option maxHeartbeats 4000000
set_option maxRecDepth 100000
namespace Go.Ax
open Go.Proofs
theorem vc19 (k x y r:Int) (n:Nat) (g:Nat → List AV) (k' x' y' r':Int) (m:Nat) (g':Nat → List AV) (hg:spots n g) (hg':spots m g') (hn:n ≤ 9223372036854775806) (hm:m ≤ 9223372036854775806) (h1:inR x) (h2:inR y) (h3:inR r) (h4:inR x') (h5:inR y') (h6:inR r') :
  fnVC Tryz.prog [(57,c57),(58,c58),(59,k59),(61,k61),(60,kbak),(62,k94),(63,k63f)] [(9,⟨[(5,.slot 4)],[]⟩),(11,⟨[(4,.slot 4)],[]⟩),(12,⟨[(6,.made 4),(7,.made 5)],[]⟩)] Tryz.f19 [formA k x y r n g,formA k' x' y' r' m g'] (alk (clipA k x y r n (gx g 0) (gx g 1) k' x' y' r' m (gx g' 0) (gx g' 1))):=by
 refine fnVC_go (rs:=[.cell 4 58,.tmp 5]) rfl rfl ?_
 have h0:¬ (checkS k x y r n (gx g 0) (gx g 1) = 0 ∧ checkS k' x' y' r' m (gx g' 0) (gx g' 1) = 0 ∧ apS k x y r n (gx g 0) (gx g 1) k' x' y' r' m (gx g' 0) (gx g' 1) = false) → alk (clipA k x y r n (gx g 0) (gx g 1) k' x' y' r' m (gx g' 0) (gx g' 1)) (.tup [.agg [i64 0,bo false,i64 0,bo false,.v (.slice none 0 0)],bo false]):=fun h => by
  unfold clipA
  rw [show clipS k x y r n (gx g 0) (gx g 1) k' x' y' r' m (gx g' 0) (gx g' 1) = mf0 from if_neg h,show clipB k x y r n (gx g 0) (gx g 1) k' x' y' r' m (gx g' 0) (gx g' 1) = false from decide_eq_false h]
  exact alk_form alk_nil6
 obtain ⟨U,hU⟩:∃ U,clipA k x y r n (gx g 0) (gx g 1) k' x' y' r' m (gx g' 0) (gx g' 1) = U:=⟨_,rfl⟩
 rw [hU] at h0 ⊢
 by_cases hA:checkS k x y r n (gx g 0) (gx g 1) = 0
 ·by_cases hB:checkS k' x' y' r' m (gx g' 0) (gx g' 1) = 0
  ·by_cases hk:k = 1
   ·by_cases hk':k' = 1
    ·have eb:bothS k x y r n g k' x' y' r' m g' = .tup [.iface 107 (.agg [i64 x,i64 y,i64 r]),.iface 107 (.agg [i64 x',i64 y',i64 r']),bo true]:=by unfold bothS; rw [if_pos hA,if_pos hk,if_pos hB,if_pos hk']
     simp only [go_sem,c57,c58,k59,k61,kbak,k94,k63f,c57,eb,c58,c90a,c90d,c90e,c90f,k94,k94p,k94q,k94r,k94d,hg,hg',hn,hm,h1,h2,h3,h4,h5,h6]
     simp only [false_imp_iff,true_imp_iff,reduceCtorEq,true_and,and_true,Bool.false_eq_true]
     have eap:apS k x y r n (gx g 0) (gx g 1) k' x' y' r' m (gx g' 0) (gx g' 1) = ddS x y r x' y' r':=by unfold apS; rw [if_pos ⟨hA,hB⟩,if_pos hk,if_pos hk']
     intro z hz z1 hz1
     refine ⟨fun q => h0 fun w => ?_,fun q => ?_⟩
     ·rw [w.2.2,← hz1] at eap
      rcases q with q | q
      ·rw [hz] at q; cases q
      ·rw [q] at eap; cases eap
     ·have hall:=And.intro hA (And.intro hB (eap.trans (hz1.symm.trans q.2)))
      have eB:clipB k x y r n (gx g 0) (gx g 1) k' x' y' r' m (gx g' 0) (gx g' 1) = true:=decide_eq_true hall
      have eS:clipS k x y r n (gx g 0) (gx g 1) k' x' y' r' m (gx g' 0) (gx g' 1) = _:=if_pos hall
      rw [← hU]
      unfold clipA
      rw [eB,eS,if_pos hk,if_pos hk']
      exact fun _ _ _ h => h
    ·have eb:bothS k x y r n g k' x' y' r' m g' = .tup [.iface 107 (.agg [i64 x,i64 y,i64 r]),.iface 112 (.agg [.ro m 2 g']),bo true]:=by unfold bothS; rw [if_pos hA,if_pos hk,if_pos hB,if_neg hk']
     simp only [go_sem,c57,c58,k59,k61,kbak,k94,k63f,c57,eb,c58,c90a,c90d,c90e,c90f,k94,k94p,k94q,k94r,k94d,hg,hg',hn,hm,h1,h2,h3,h4,h5,h6]
     simp only [false_imp_iff,true_imp_iff,reduceCtorEq,true_and,and_true,Bool.false_eq_true]
     have eap:apS k x y r n (gx g 0) (gx g 1) k' x' y' r' m (gx g' 0) (gx g' 1) = outS m (gx g' 0) (gx g' 1) x y r:=by unfold apS; rw [if_pos ⟨hA,hB⟩,if_pos hk,if_neg hk']
     have fB:=fig_n hB hk'
     intro z hz z1 hz1
     refine ⟨fun _ => trivial,fun _ => trivial,fun _ => (check_1 hB).2.2.1,fun _ => (check_1 hA).2.1,fun q => h0 fun w => ?_,fun q => ⟨by omega,by omega,(check_1 hB).2.2.1,(check_1 hA).2.1,fun a1 e1 a2 e2 a3 e3 a4 e4 => ⟨(pdS_in (n:=m) (X:=gx g' 0) (Y:=gx g' 1) (x:=x) (y:=y) (r:=r)).1.1,(pdS_in (n:=m) (X:=gx g' 0) (Y:=gx g' 1) (x:=x) (y:=y) (r:=r)).1.2,?_⟩⟩⟩
     ·rw [w.2.2,← hz1] at eap
      rcases q with q | q
      ·rw [hz] at q; cases q
      ·rw [q] at eap; cases eap
     ·have hall:=And.intro hA (And.intro hB (eap.trans (hz1.symm.trans q.2)))
      have eB:clipB k x y r n (gx g 0) (gx g 1) k' x' y' r' m (gx g' 0) (gx g' 1) = true:=decide_eq_true hall
      have eS:clipS k x y r n (gx g 0) (gx g 1) k' x' y' r' m (gx g' 0) (gx g' 1) = _:=if_pos hall
      rw [← hU]
      unfold clipA
      rw [eB,eS,if_pos hk,if_neg hk']
      rw [e1,e2,e3,e4]
      exact fun _ _ _ h => h
   ·by_cases hk':k' = 1
    ·have eb:bothS k x y r n g k' x' y' r' m g' = .tup [.iface 112 (.agg [.ro n 2 g]),.iface 107 (.agg [i64 x',i64 y',i64 r']),bo true]:=by unfold bothS; rw [if_pos hA,if_neg hk,if_pos hB,if_pos hk']
     simp only [go_sem,c57,c58,k59,k61,kbak,k94,k63f,c57,eb,c58,c90a,c90d,c90e,c90f,k94,k94p,k94q,k94r,k94d,hg,hg',hn,hm,h1,h2,h3,h4,h5,h6]
     simp only [false_imp_iff,true_imp_iff,reduceCtorEq,true_and,and_true,Bool.false_eq_true]
     have eap:apS k x y r n (gx g 0) (gx g 1) k' x' y' r' m (gx g' 0) (gx g' 1) = outS n (gx g 0) (gx g 1) x' y' r':=by unfold apS; rw [if_pos ⟨hA,hB⟩,if_neg hk,if_pos hk']
     have fA:=fig_n hA hk
     intro z hz z1 hz1
     refine ⟨fun _ => trivial,fun _ => trivial,fun _ => (check_1 hA).2.2.1,fun _ => (check_1 hB).2.1,fun q => h0 fun w => ?_,fun q => ⟨by omega,by omega,(check_1 hA).2.2.1,(check_1 hB).2.1,?_⟩⟩
     ·rw [w.2.2,← hz1] at eap
      rcases q with q | q
      ·rw [hz] at q; cases q
      ·rw [q] at eap; cases eap
     ·have hall:=And.intro hA (And.intro hB (eap.trans (hz1.symm.trans q.2)))
      have eB:clipB k x y r n (gx g 0) (gx g 1) k' x' y' r' m (gx g' 0) (gx g' 1) = true:=decide_eq_true hall
      have eS:clipS k x y r n (gx g 0) (gx g 1) k' x' y' r' m (gx g' 0) (gx g' 1) = _:=if_pos hall
      rw [← hU]
      unfold clipA
      rw [eB,eS,if_neg hk,if_pos hk']
      exact fun _ _ _ h => h
    ·have eb:bothS k x y r n g k' x' y' r' m g' = .tup [.iface 112 (.agg [.ro n 2 g]),.iface 112 (.agg [.ro m 2 g']),bo true]:=by unfold bothS; rw [if_pos hA,if_neg hk,if_pos hB,if_neg hk']
     simp only [go_sem,c57,c58,k59,k61,kbak,k94,k63f,c57,eb,c58,c90a,c90d,c90e,c90f,k94,k94p,k94q,k94r,k94d,hg,hg',hn,hm,h1,h2,h3,h4,h5,h6]
     simp only [false_imp_iff,true_imp_iff,reduceCtorEq,true_and,and_true,Bool.false_eq_true]
     have eap:apS k x y r n (gx g 0) (gx g 1) k' x' y' r' m (gx g' 0) (gx g' 1) = (clrS n (gx g 0) (gx g 1) m (gx g' 0) (gx g' 1) || clrS m (gx g' 0) (gx g' 1) n (gx g 0) (gx g 1)):=by unfold apS; rw [if_pos ⟨hA,hB⟩,if_neg hk,if_neg hk']
     have fA:=fig_n hA hk
     have fB:=fig_n hB hk'
     have eX:axS k x y r n (gx g 0) (gx g 1) k' x' y' r' m (gx g' 0) (gx g' 1) = axSt n (gP n (gx g 0) (gx g 1) m (gx g' 0) (gx g' 1)) m (gP m (gx g' 0) (gx g' 1) n (gx g 0) (gx g 1)) 2:=by
      unfold axS
      rw [if_pos ⟨hA,hB⟩,if_neg hk,if_neg hk']
     have hi:=axSt_ix2 (n:=n) (m:=m) (G:=gP n (gx g 0) (gx g 1) m (gx g' 0) (gx g' 1)) (G':=gP m (gx g' 0) (gx g' 1) n (gx g 0) (gx g 1)) (by omega)
     have vA:=(check_1 hA).2.2.1
     have vB:=(check_1 hB).2.2.1
     have eS:apS k x y r n (gx g 0) (gx g 1) k' x' y' r' m (gx g' 0) (gx g' 1) = false → clipS k x y r n (gx g 0) (gx g 1) k' x' y' r' m (gx g' 0) (gx g' 1) = _:=fun w => (if_pos ⟨hA,hB,w⟩:clipS k x y r n (gx g 0) (gx g 1) k' x' y' r' m (gx g' 0) (gx g' 1) = _)
     rw [if_neg hk,if_neg hk',eX] at eS
     generalize axSt n (gP n (gx g 0) (gx g 1) m (gx g' 0) (gx g' 1)) m (gP m (gx g' 0) (gx g' 1) n (gx g 0) (gx g 1)) 2 = s at *
     clear eX
     intro z hz z1 hz1
     refine ⟨fun _ => trivial,fun _ => trivial,fun _ => vA,fun _ => trivial,fun _ => trivial,fun _ => vB,fun q => h0 fun w => ?_,fun q => ⟨by omega,by omega,vA,by omega,by omega,vB,fun q3 => ⟨by have:s.1 = 0:=(by simpa using q3); omega,by have:s.1 = 0:=(by simpa using q3); omega,by omega,by omega,by omega,vA,vB,?_⟩,fun q3 => ⟨by have:¬ s.1 = 0:=(by simpa using q3); omega,by have:¬ s.1 = 0:=(by simpa using q3); omega,by omega,by omega,by omega,vB,vA,fun a1 e1 a2 e2 a3 e3 a4 e4 => ⟨(flS_in (n:=m) (X:=gx g' 0) (Y:=gx g' 1) (m:=n) (Z:=gx g 0) (T:=gx g 1) (i:=s.2.1.toNat)).1.1,(flS_in (n:=m) (X:=gx g' 0) (Y:=gx g' 1) (m:=n) (Z:=gx g 0) (T:=gx g 1) (i:=s.2.1.toNat)).1.2,?_⟩⟩⟩⟩
     ·rw [w.2.2,← hz1] at eap
      rcases q with q | q
      ·rw [hz] at q; cases q
      ·rw [q] at eap; cases eap
     ·have w:=eap.trans (hz1.symm.trans q.2)
      have e:s.1 = 0:=by simpa using q3
      have eB:clipB k x y r n (gx g 0) (gx g 1) k' x' y' r' m (gx g' 0) (gx g' 1) = true:=decide_eq_true ⟨hA,hB,w⟩
      rw [← hU]
      unfold clipA
      rw [eB,eS w,if_pos e]
      exact fun _ _ _ h => h
     ·have w:=eap.trans (hz1.symm.trans q.2)
      have e:¬ s.1 = 0:=by simpa using q3
      have eB:clipB k x y r n (gx g 0) (gx g 1) k' x' y' r' m (gx g' 0) (gx g' 1) = true:=decide_eq_true ⟨hA,hB,w⟩
      rw [← hU]
      unfold clipA
      rw [eB,eS w,if_neg e,e1,e2,e3,e4]
      exact fun _ _ _ h => h
  ·have h0':=h0 fun q => hB q.2.1
   by_cases hk:k = 1
   ·have eb:bothS k x y r n g k' x' y' r' m g' = .tup [.iface 107 (.agg [i64 x,i64 y,i64 r]),.v .nilIface,bo false]:=by unfold bothS; rw [if_pos hA,if_pos hk,if_neg hB]
    simp only [go_sem,c57,c58,k59,k61,kbak,k94,k63f,c57,eb,c58,c90a,c90d,c90e,c90f,hg,hg',hn,hm,h1,h2,h3,h4,h5,h6]
    exact fun z hz z1 hz1 => ⟨fun h => (by rw [hz] at h; cases h),fun _ => h0',fun q => (by rw [hz] at q; cases q.1)⟩
   ·have eb:bothS k x y r n g k' x' y' r' m g' = .tup [.iface 112 (.agg [.ro n 2 g]),.v .nilIface,bo false]:=by unfold bothS; rw [if_pos hA,if_neg hk,if_neg hB]
    simp only [go_sem,c57,c58,k59,k61,kbak,k94,k63f,c57,eb,c58,c90a,c90d,c90e,c90f,hg,hg',hn,hm,h1,h2,h3,h4,h5,h6]
    exact fun z hz z1 hz1 => ⟨fun h => (by rw [hz] at h; cases h),fun _ => h0',fun q => (by rw [hz] at q; cases q.1)⟩
 ·have h0':=h0 fun q => hA q.1
  by_cases hB:checkS k' x' y' r' m (gx g' 0) (gx g' 1) = 0
  ·by_cases hk':k' = 1
   ·have eb:bothS k x y r n g k' x' y' r' m g' = .tup [.v .nilIface,.iface 107 (.agg [i64 x',i64 y',i64 r']),bo false]:=by unfold bothS; rw [if_neg hA,if_pos hB,if_pos hk']
    simp only [go_sem,c57,c58,k59,k61,kbak,k94,k63f,c57,eb,c58,c90a,c90d,c90e,c90f,hg,hg',hn,hm,h1,h2,h3,h4,h5,h6]
    exact fun z hz z1 hz1 => ⟨fun h => (by rw [hz] at h; cases h),fun _ => h0',fun q => (by rw [hz] at q; cases q.1)⟩
   ·have eb:bothS k x y r n g k' x' y' r' m g' = .tup [.v .nilIface,.iface 112 (.agg [.ro m 2 g']),bo false]:=by unfold bothS; rw [if_neg hA,if_pos hB,if_neg hk']
    simp only [go_sem,c57,c58,k59,k61,kbak,k94,k63f,c57,eb,c58,c90a,c90d,c90e,c90f,hg,hg',hn,hm,h1,h2,h3,h4,h5,h6]
    exact fun z hz z1 hz1 => ⟨fun h => (by rw [hz] at h; cases h),fun _ => h0',fun q => (by rw [hz] at q; cases q.1)⟩
  ·have eb:bothS k x y r n g k' x' y' r' m g' = .tup [.v .nilIface,.v .nilIface,bo false]:=by unfold bothS; rw [if_neg hA,if_neg hB]
   simp only [go_sem,c57,c58,k59,k61,kbak,k94,k63f,c57,eb,c58,c90a,c90d,c90e,c90f,hg,hg',hn,hm,h1,h2,h3,h4,h5,h6]
   exact fun z hz z1 hz1 => ⟨fun h => (by rw [hz] at h; cases h),fun _ => h0',fun q => (by rw [hz] at q; cases q.1)⟩
theorem con19:ConOK Tryz.prog 19 c20:=ConOK.goR (G:=[(57,c57),(58,c58),(59,k59),(61,k61),(60,kbak),(62,k94),(63,k63f)]) (H:=[(9,⟨[(5,.slot 4)],[]⟩),(11,⟨[(4,.slot 4)],[]⟩),(12,⟨[(6,.made 4),(7,.made 5)],[]⟩)]) (.cons con57 (.cons con58 (.cons con59 (.cons con61 (.cons konbak (.cons kon94 (.cons con63 .nil))))))) Tryz.func19 fun l ob rr hc hob => by
 unfold c20 at hc
 split at hc
 ·rename_i k x y r n g k' x' y' r' m g'
  cases hc
  exact ⟨_,fun w I vs h => h,by kernel_rfl,vc19 k x y r n g k' x' y' r' m g' (hob _ (by simp)) (hob _ (by simp)) (hob _ (by simp)) (hob _ (by simp)) (hob _ (by simp)) (hob _ (by simp)) (hob _ (by simp)) (hob _ (by simp)) (hob _ (by simp)) (hob _ (by simp))⟩
 ·cases hc
end Go.Ax
end
section
/-
  Plane geometry: what is inside a convex polygon is on no line's far side.
-/
set_option maxHeartbeats 4000000
namespace Go.Ax
end Go.Ax
end
section
/-
  What a way meets of a polygon: the least and the greatest of the crossings.
-/
set_option maxHeartbeats 4000000
namespace Go.Ax
end Go.Ax
end
section
/-
  A way that passes a spot of a box meets the box; what a way meets of a polygon is in it.
-/
set_option maxHeartbeats 4000000
namespace Go.Ax
end Go.Ax
end
section
/-
  What a way meets of a polygon.
-/
set_option maxHeartbeats 4000000
namespace Go.Ax
theorem mnS_le' {Z:Nat → Int}:∀ {n j:Nat},j < n → mnS Z n ≤ Z j
 | 0,j,h => absurd h (Nat.not_lt_zero j)
 | i + 1,j,h => by
  unfold mnS
  split
  ·rename_i e; subst e
   rw [show j = 0 by omega]; exact Int.le_refl _
  ·by_cases e:j = i
   ·subst e; exact Int.min_le_right _ _
   ·exact Int.le_trans (Int.min_le_left _ _) (mnS_le' (by omega))
theorem mxS_ge' {Z:Nat → Int}:∀ {n j:Nat},j < n → Z j ≤ mxS Z n
 | 0,j,h => absurd h (Nat.not_lt_zero j)
 | i + 1,j,h => by
  unfold mxS
  split
  ·rename_i e; subst e
   rw [show j = 0 by omega]; exact Int.le_refl _
  ·by_cases e:j = i
   ·subst e; exact Int.le_max_right _ _
   ·exact Int.le_trans (mxS_ge' (by omega)) (Int.le_max_left _ _)
theorem mnS_at {Z:Nat → Int}:∀ {n:Nat},0 < n → ∃ j,j < n ∧ mnS Z n = Z j
 | i + 1,h => by
  unfold mnS
  split
  ·exact ⟨0,by omega,rfl⟩
  ·obtain ⟨j,j1,j2⟩:=mnS_at (Z:=Z) (n:=i) (by omega)
   by_cases e:mnS Z i ≤ Z i
   ·exact ⟨j,by omega,by rw [Int.min_eq_left e,j2]⟩
   ·exact ⟨i,by omega,by rw [Int.min_eq_right (by omega)]⟩
theorem mxS_at {Z:Nat → Int}:∀ {n:Nat},0 < n → ∃ j,j < n ∧ mxS Z n = Z j
 | i + 1,h => by
  unfold mxS
  split
  ·exact ⟨0,by omega,rfl⟩
  ·obtain ⟨j,j1,j2⟩:=mxS_at (Z:=Z) (n:=i) (by omega)
   by_cases e:mxS Z i ≤ Z i
   ·exact ⟨i,by omega,by rw [Int.max_eq_right e]⟩
   ·exact ⟨j,by omega,by rw [Int.max_eq_left (by omega),j2]⟩
theorem bx_valid {n:Nat} {X Y:Nat → Int} (h0:0 < n) (hv:∀ i,i < n → validS (X i) (Y i) = true):checkBoxS (mnS X n) (mnS Y n) (mxS X n) (mxS Y n) = 0:=by
 obtain ⟨i,i1,i2⟩:=mnS_at (Z:=X) h0
 obtain ⟨j,j1,j2⟩:=mnS_at (Z:=Y) h0
 obtain ⟨k,k1,k2⟩:=mxS_at (Z:=X) h0
 obtain ⟨l,l1,l2⟩:=mxS_at (Z:=Y) h0
 have a1:=validS_iff.1 (hv i i1)
 have a2:=validS_iff.1 (hv j j1)
 have a3:=validS_iff.1 (hv k k1)
 have a4:=validS_iff.1 (hv l l1)
 have b1:=mxS_ge' (Z:=X) i1
 have b2:=mxS_ge' (Z:=Y) j1
 exact checkBoxS_iff.2 (by omega)
end Go.Ax
end
section
/-
  What a way meets of a disc.
-/
set_option maxHeartbeats 4000000
namespace Go.Ax
end Go.Ax
end
section
/-
  Numbers that are not flagged, and how great they are.
-/
set_option maxHeartbeats 4000000
namespace Go.Ax
def gd (a:Nb) (B:Int):Prop:=a.2 = false ∧ -B ≤ a.1 ∧ a.1 ≤ B
theorem gd_wh {a:Nb} {B:Int} (h:gd a B) (hB:B ≤ 9223372036854775807):whV a.1 = a.1 ∧ whF a.1 a.2 = false:=by
 obtain ⟨h1,h2,h3⟩:=h
 have hr:rg a.1:=by unfold rg; omega
 exact ⟨whV_of hr,by rw [whF_of hr]; exact h1⟩
theorem ft_bd {v C:Int} (h:-C ≤ v ∧ v ≤ C) (hC:C ≤ 9223372036854775807):ftV v = v ∧ ftF v = false:=by
 unfold ftV ftF
 rw [if_neg (by omega),if_neg (by omega),decide_eq_false (by omega)]
 exact ⟨rfl,rfl⟩
theorem tdiv_bd {v C k:Int} (hk:0 < k) (h:-(C * k) ≤ v ∧ v ≤ C * k):-C ≤ v.tdiv k ∧ v.tdiv k ≤ C:=by
 by_cases s:0 ≤ v
 ·rw [Int.tdiv_eq_ediv_of_nonneg s]
  have h1:0 ≤ v / k:=Int.ediv_nonneg s (by omega)
  have h2:v / k ≤ C:=Int.ediv_le_of_le_mul hk h.2
  omega
 ·have e:v.tdiv k = -((-v) / k):=by
   rw [← Int.tdiv_eq_ediv_of_nonneg (show 0 ≤ -v by omega),Int.neg_tdiv,Int.neg_neg]
  rw [e]
  have h1:0 ≤ (-v) / k:=Int.ediv_nonneg (by omega) (by omega)
  have h2:(-v) / k ≤ C:=Int.ediv_le_of_le_mul hk (by omega)
  omega
theorem gd_mul {a b:Nb} {A B C:Int} (ha:gd a A) (hb:gd b B) (hA:0 ≤ A) (lA:A ≤ 9223372036854775807) (lB:B ≤ 9223372036854775807) (h:A * B ≤ C * 4294967296) (lC:C ≤ 9223372036854775807):gd (nMul a b) C:=by
 obtain ⟨w1,w2⟩:=gd_wh ha lA
 obtain ⟨w3,w4⟩:=gd_wh hb lB
 have m:=mul_bd hA ha.2 hb.2
 have t:=tdiv_bd (v:=a.1 * b.1) (C:=C) (k:=4294967296) (by omega) (by omega)
 obtain ⟨f1,f2⟩:=ft_bd t lC
 unfold nMul
 rw [w1,w2,w3,w4,f1,f2]
 exact ⟨rfl,t⟩
theorem gd_dot {a b c d:Nb} {A B C D E:Int} (ha:gd a A) (hb:gd b B) (hc:gd c C) (hd:gd d D) (hA:0 ≤ A) (hC:0 ≤ C) (lA:A ≤ 9223372036854775807) (lB:B ≤ 9223372036854775807) (lC:C ≤ 9223372036854775807) (lD:D ≤ 9223372036854775807)
  (h:A * B + C * D ≤ E * 4294967296) (lE:E ≤ 9223372036854775807):gd (nDot a b c d) E:=by
 obtain ⟨w1,w2⟩:=gd_wh ha lA
 obtain ⟨w3,w4⟩:=gd_wh hb lB
 obtain ⟨w5,w6⟩:=gd_wh hc lC
 obtain ⟨w7,w8⟩:=gd_wh hd lD
 have m:=mul_bd hA ha.2 hb.2
 have m2:=mul_bd hC hc.2 hd.2
 have t:=tdiv_bd (v:=a.1 * b.1 + c.1 * d.1) (C:=E) (k:=4294967296) (by omega) (by omega)
 obtain ⟨f1,f2⟩:=ft_bd t lE
 unfold nDot
 rw [w1,w2,w3,w4,w5,w6,w7,w8,f1,f2]
 exact ⟨rfl,t⟩
theorem gd_sub {a b:Nb} {A B:Int} (ha:gd a A) (hb:gd b B) (hA:0 ≤ A) (hB:0 ≤ B) (l:A + B ≤ 9223372036854775807):gd (nSub a b) (A + B):=by
 obtain ⟨w1,w2⟩:=gd_wh ha (by omega)
 obtain ⟨w3,w4⟩:=gd_wh hb (by omega)
 have t:-(A + B) ≤ a.1 - b.1 ∧ a.1 - b.1 ≤ A + B:=by have:=ha.2; have:=hb.2; omega
 obtain ⟨f1,f2⟩:=ft_bd t l
 unfold nSub
 rw [w1,w2,w3,w4,f1,f2]
 exact ⟨rfl,t⟩
theorem gd_neg {a:Nb} {A:Int} (ha:gd a A) (l:A ≤ 9223372036854775807):gd (nNeg a) A:=by
 obtain ⟨w1,w2⟩:=gd_wh ha l
 unfold nNeg
 rw [w1,w2]
 exact ⟨rfl,by have:=ha.2; dsimp only; omega⟩
theorem gd_rat {s S:Int} (h:-S ≤ s ∧ s ≤ S) (l:S ≤ 549755813887):nRat s 256 = (s * 16777216,false):=by
 have e:(s * 4294967296).tdiv 256 = s * 16777216:=by
  rw [show s * 4294967296 = (s * 16777216) * 256 by omega,Int.mul_tdiv_cancel _ (by omega)]
 have t:-(S * 16777216) ≤ s * 16777216 ∧ s * 16777216 ≤ S * 16777216:=by omega
 obtain ⟨f1,f2⟩:=ft_bd t (by omega)
 unfold nRat raV raF
 rw [if_neg (by omega),if_neg (by omega),e,f1,f2]
 rfl
theorem gd_div {a b:Nb} {A C L:Int} (ha:gd a A) (lA:A ≤ 9223372036854775807) (hb:b.2 = false) (hL:0 < L) (hb1:L ≤ b.1) (hb2:b.1 ≤ 9223372036854775807) (hC:0 ≤ C) (h:A * 4294967296 ≤ C * L) (lC:C ≤ 9223372036854775807):gd (nDiv a b) C:=by
 obtain ⟨w1,w2⟩:=gd_wh ha lA
 obtain ⟨w3,w4⟩:=gd_wh (a:=b) (B:=9223372036854775807) ⟨hb,by omega,hb2⟩ (by omega)
 have k:C * L ≤ C * b.1:=Int.mul_le_mul_of_nonneg_left hb1 hC
 have t:=tdiv_bd (v:=a.1 * 4294967296) (C:=C) (k:=b.1) (by omega) (by have:=ha.2; omega)
 obtain ⟨f1,f2⟩:=ft_bd t lC
 unfold nDiv raV raF
 rw [w1,w2,w3,w4,if_neg (by omega),if_neg (by omega),f1,f2]
 exact ⟨rfl,t⟩
theorem isq_bd {n r:Nat} (hn:n < 340282366920938463463374607431768211456) (h:n ≤ r * r):isq n ≤ r:=by
 refine Nat.not_lt.1 fun q => ?_
 have:=(isq_ok hn).1
 have:=Nat.mul_le_mul q q
 have e:(r + 1) * (r + 1) = r * r + r + r + 1:=by rw [Nat.add_mul,Nat.mul_add]; omega
 have e2:r.succ * r.succ = (r + 1) * (r + 1):=rfl
 omega
theorem isq_lo {n r:Nat} (hn:n < 340282366920938463463374607431768211456) (h:r * r ≤ n):r ≤ isq n:=by
 refine Nat.not_lt.1 fun q => ?_
 have:=(isq_ok hn).2
 have:=Nat.mul_le_mul q q
 have e2:(isq n).succ * (isq n).succ = (isq n + 1) * (isq n + 1):=rfl
 omega
end Go.Ax
end
section
/-
  When a way meets a disc: it is no flagged number.
-/
set_option maxHeartbeats 4000000
namespace Go.Ax
theorem hyp_ok {a b:Nb} {S:Int} (ha:gd a S) (hb:gd b S) (h0:0 ≤ S) (l:S ≤ 2305843009213693951):(nHyp a b).2 = false ∧ a.1 ≤ (nHyp a b).1 ∧ -a.1 ≤ (nHyp a b).1 ∧ b.1 ≤ (nHyp a b).1 ∧ -b.1 ≤ (nHyp a b).1 ∧ (nHyp a b).1 ≤ 2 * S:=by
 obtain ⟨w1,w2⟩:=gd_wh ha (by omega)
 obtain ⟨w3,w4⟩:=gd_wh hb (by omega)
 have m1:=mul_bd h0 ha.2 ha.2
 have m2:=mul_bd h0 hb.2 hb.2
 have s1:=sq0 a.1
 have s2:=sq0 b.1
 have lS:S * S ≤ 2305843009213693951 * 2305843009213693951:=by
  have h1:S * S ≤ 2305843009213693951 * S:=Int.mul_le_mul_of_nonneg_right l h0
  have h2:2305843009213693951 * S ≤ 2305843009213693951 * 2305843009213693951:=Int.mul_le_mul_of_nonneg_left l (by omega)
  omega
 have hN:(((a.1 * a.1 + b.1 * b.1).toNat:Nat):Int) = a.1 * a.1 + b.1 * b.1:=Int.toNat_of_nonneg (by omega)
 have kk:(a.1 * a.1 + b.1 * b.1).toNat < 340282366920938463463374607431768211456:=by omega
 have up:isq (a.1 * a.1 + b.1 * b.1).toNat ≤ (2 * S).toNat:=by
  refine isq_bd kk ?_
  have e1:(((2 * S).toNat:Nat):Int) = 2 * S:=Int.toNat_of_nonneg (by omega)
  have e2:(((2 * S).toNat * (2 * S).toNat:Nat):Int) = (2 * S) * (2 * S):=by rw [Int.natCast_mul,e1]
  have e3:(2 * S) * (2 * S) = 4 * (S * S):=by grind
  omega
 have lo:∀ z:Int,z * z ≤ a.1 * a.1 + b.1 * b.1 → z ≤ (isq (a.1 * a.1 + b.1 * b.1).toNat:Int):=fun z hz => by
  by_cases hz0:z ≤ 0
  ·omega
  ·have e1:((z.toNat:Nat):Int) = z:=Int.toNat_of_nonneg (by omega)
   have e2:((z.toNat * z.toNat:Nat):Int) = z * z:=by rw [Int.natCast_mul,e1]
   have:=isq_lo (r:=z.toNat) kk (by omega)
   omega
 have e1:(-a.1) * (-a.1) = a.1 * a.1:=Int.neg_mul_neg ..
 have e2:(-b.1) * (-b.1) = b.1 * b.1:=Int.neg_mul_neg ..
 have l1:=lo a.1 (by omega)
 have l2:=lo (-a.1) (by omega)
 have l3:=lo b.1 (by omega)
 have l4:=lo (-b.1) (by omega)
 unfold nHyp
 rw [w1,w2,w3,w4]
 generalize isq (a.1 * a.1 + b.1 * b.1).toNat = q at *
 obtain ⟨f1,f2⟩:=ft_bd (v:=(q:Int)) (C:=2 * S) (by omega) (by omega)
 rw [f1,f2]
 exact ⟨rfl,l1,l2,l3,l4,by dsimp only; omega⟩
theorem gd_zero {B:Int} (h:0 ≤ B):gd (0,false) B:=⟨rfl,by dsimp only; omega⟩
theorem un_ok {x y S:Int} (hx:-S ≤ x ∧ x ≤ S) (hy:-S ≤ y ∧ y ≤ S) (h0:0 ≤ S) (l:S ≤ 70368744177664):gd (unS x false y false).2.1 4294967296 ∧ gd (unS x false y false).2.2 4294967296:=by
 have hB:gd (unB x y).1 281474976710656 ∧ gd (unB x y).2 281474976710656:=by
  unfold unB
  split
  ·rename_i h
   have h1:-16777216 ≤ x ∧ x ≤ 16777216:=by have:=h.1; unfold ab at this; split at this <;> omega
   have h2:-16777216 ≤ y ∧ y ≤ 16777216:=by have:=h.2; unfold ab at this; split at this <;> omega
   exact ⟨⟨rfl,by dsimp only; omega⟩,⟨rfl,by dsimp only; omega⟩⟩
  ·exact ⟨⟨rfl,by dsimp only; omega⟩,⟨rfl,by dsimp only; omega⟩⟩
 obtain ⟨k1,k2,k3,k4,k5,k6⟩:=hyp_ok hB.1 hB.2 (by omega) (by omega)
 unfold unS
 split
 ·exact ⟨gd_zero (by omega),gd_zero (by omega)⟩
 ·split
  ·exact ⟨gd_zero (by omega),gd_zero (by omega)⟩
  ·rename_i hn
   have hne:(nHyp (unB x y).1 (unB x y).2).1 ≠ 0:=fun q => hn (.inr q)
   generalize nHyp (unB x y).1 (unB x y).2 = H at *
   have hH:0 < H.1:=by omega
   refine ⟨gd_div (A:=H.1) (L:=H.1) ⟨hB.1.1,by omega⟩ (by omega) k1 hH (Int.le_refl _) (by omega) (by omega) (by omega) (by omega),gd_div (A:=H.1) (L:=H.1) ⟨hB.2.1,by omega⟩ (by omega) k1 hH (Int.le_refl _) (by omega) (by omega) (by omega) (by omega)⟩
end Go.Ax
end
section
/-
  Unit vectors have the length 1, but for 256 parts.
-/
set_option maxHeartbeats 4000000
namespace Go.Ax
theorem aSq (x:Int):ab x * ab x = x * x:=by
 unfold ab
 split
 ·rw [Int.neg_mul_neg]
 ·rfl
theorem aMul (x y:Int):ab (x * y) = ab x * ab y:=by rw [ab_natAbs,ab_natAbs,ab_natAbs,Int.natAbs_mul]; rfl
theorem td_ab {x q:Int} (hq:0 < q):ab (x.tdiv q) * q ≤ ab x ∧ ab x < (ab (x.tdiv q) + 1) * q:=by
 have key:∀ y:Int,0 ≤ y → y / q * q ≤ y ∧ y < (y / q + 1) * q ∧ 0 ≤ y / q:=fun y hy =>
  ⟨Int.ediv_mul_le y (by omega),Int.lt_ediv_add_one_mul_self y hq,Int.ediv_nonneg hy (by omega)⟩
 by_cases s:0 ≤ x
 ·obtain ⟨k1,k2,k3⟩:=key x s
  rw [Int.tdiv_eq_ediv_of_nonneg s]
  have e1:ab x = x:=by unfold ab; rw [if_neg (by omega)]
  have e2:ab (x / q) = x / q:=by unfold ab; rw [if_neg (by omega)]
  rw [e1,e2]
  exact ⟨k1,k2⟩
 ·obtain ⟨k1,k2,k3⟩:=key (-x) (by omega)
  have e:x.tdiv q = -((-x) / q):=by
   rw [← Int.tdiv_eq_ediv_of_nonneg (show 0 ≤ -x by omega),Int.neg_tdiv,Int.neg_neg]
  have e1:ab x = -x:=by unfold ab; rw [if_pos (by omega)]
  have e2:ab (x.tdiv q) = (-x) / q:=by rw [e]; unfold ab; split <;> omega
  rw [e1,e2]
  exact ⟨k1,k2⟩
theorem sq_mono {a b:Int} (h0:0 ≤ a) (h:a ≤ b):a * a ≤ b * b:=Int.mul_le_mul h h h0 (by omega)
theorem unit_sq {u v q:Int} (hq:16777216 ≤ q) (h1:q * q ≤ u * u + v * v) (h2:u * u + v * v < (q + 1) * (q + 1)) :
  4294967292 * 4294967292 ≤ (u * 4294967296).tdiv q * (u * 4294967296).tdiv q + (v * 4294967296).tdiv q * (v * 4294967296).tdiv q ∧
  (u * 4294967296).tdiv q * (u * 4294967296).tdiv q + (v * 4294967296).tdiv q * (v * 4294967296).tdiv q < 4294967553 * 4294967553:=by
 obtain ⟨a1,a2⟩:=@td_ab (u * 4294967296) q (by omega)
 obtain ⟨b1,b2⟩:=@td_ab (v * 4294967296) q (by omega)
 rw [aMul,show ab 4294967296 = 4294967296 from rfl] at a1 a2 b1 b2
 rw [← aSq u,← aSq v] at h1 h2
 rw [← aSq ((u * 4294967296).tdiv q),← aSq ((v * 4294967296).tdiv q)]
 have nu:=ab_nonneg u
 have nv:=ab_nonneg v
 have na:=ab_nonneg ((u * 4294967296).tdiv q)
 have nb:=ab_nonneg ((v * 4294967296).tdiv q)
 generalize ab ((u * 4294967296).tdiv q) = A at *
 generalize ab ((v * 4294967296).tdiv q) = B at *
 generalize ab u = U at *
 generalize ab v = V at *
 have s1:=sq_mono (Int.mul_nonneg na (show 0 ≤ q by omega)) a1
 have s2:=sq_mono (Int.mul_nonneg nb (show 0 ≤ q by omega)) b1
 have e1:A * q * (A * q) = A * A * (q * q):=by grind
 have e2:B * q * (B * q) = B * B * (q * q):=by grind
 have e3:U * 4294967296 * (U * 4294967296) = 18446744073709551616 * (U * U):=by grind
 have e4:V * 4294967296 * (V * 4294967296) = 18446744073709551616 * (V * V):=by grind
 rw [e1,e3] at s1
 rw [e2,e4] at s2
 have up:A * A + B * B < 4294967553 * 4294967553:=by
  refine Int.not_le.1 fun hn => ?_
  have k1:4294967553 * 4294967553 * (q * q) ≤ (A * A + B * B) * (q * q):=Int.mul_le_mul_of_nonneg_right hn (Int.mul_nonneg (by omega) (by omega))
  rw [Int.add_mul] at k1
  have k2:=sq_mono (a:=4294967296 * (q + 1)) (b:=4294967553 * q) (by omega) (by omega)
  have e5:4294967296 * (q + 1) * (4294967296 * (q + 1)) = 18446744073709551616 * ((q + 1) * (q + 1)):=by grind
  have e6:4294967553 * q * (4294967553 * q) = 4294967553 * 4294967553 * (q * q):=by grind
  rw [e5,e6] at k2
  omega
 refine ⟨?_,up⟩
 have t1:=sq_mono (a:=U * 4294967296) (b:=(A + 1) * q) (by omega) (by omega)
 have t2:=sq_mono (a:=V * 4294967296) (b:=(B + 1) * q) (by omega) (by omega)
 rw [e3] at t1
 rw [e4] at t2
 have e7:(A + 1) * q * ((A + 1) * q) = (A + 1) * (A + 1) * (q * q):=by grind
 have e8:(B + 1) * q * ((B + 1) * q) = (B + 1) * (B + 1) * (q * q):=by grind
 rw [e7] at t1
 rw [e8] at t2
 have lo:18446744073709551616 ≤ (A + 1) * (A + 1) + (B + 1) * (B + 1):=by
  refine Int.not_lt.1 fun hn => ?_
  have k1:((A + 1) * (A + 1) + (B + 1) * (B + 1)) * (q * q) < 18446744073709551616 * (q * q):=Int.mul_lt_mul_of_pos_right hn (Int.mul_pos (by omega) (by omega))
  rw [Int.add_mul] at k1
  omega
 have hA:A < 4294967553:=by
  refine Int.not_le.1 fun hn => ?_
  have:=sq_mono (by decide) hn
  have:=Int.mul_nonneg nb nb
  omega
 have hB:B < 4294967553:=by
  refine Int.not_le.1 fun hn => ?_
  have:=sq_mono (by decide) hn
  have:=Int.mul_nonneg na na
  omega
 have e9:(A + 1) * (A + 1) = A * A + 2 * A + 1:=by grind
 have e10:(B + 1) * (B + 1) = B * B + 2 * B + 1:=by grind
 omega
theorem hyp_sq {u v:Int} (hu:-281474976710656 ≤ u ∧ u ≤ 281474976710656) (hv:-281474976710656 ≤ v ∧ v ≤ 281474976710656):∃ q,nHyp (u,false) (v,false) = (q,false) ∧ 0 ≤ q ∧ q * q ≤ u * u + v * v ∧ u * u + v * v < (q + 1) * (q + 1) ∧ q ≤ 562949953421312:=by
 have m1:=mul_bd (A:=281474976710656) (B:=281474976710656) (by omega) hu hu
 have m2:=mul_bd (A:=281474976710656) (B:=281474976710656) (by omega) hv hv
 have s1:=sq0 u
 have s2:=sq0 v
 have hN:(((u * u + v * v).toNat:Nat):Int) = u * u + v * v:=Int.toNat_of_nonneg (by omega)
 obtain ⟨k1,k2⟩:=isq_ok (n:=(u * u + v * v).toNat) (by omega)
 have hq:isq (u * u + v * v).toNat ≤ 562949953421312:=by
  refine isq_bd (by omega) ?_
  omega
 have e:nHyp (u,false) (v,false) = ((isq (u * u + v * v).toNat:Int),false):=by
  unfold nHyp
  dsimp only
  rw [whV_of (by unfold rg; omega),whV_of (by unfold rg; omega),whF_of (by unfold rg; omega),whF_of (by unfold rg; omega),ftV_of (by unfold rg; omega),ftF_of (by unfold rg; omega)]
  rfl
 refine ⟨(isq (u * u + v * v).toNat:Int),e,Int.natCast_nonneg _,?_,?_,by omega⟩
 ·rw [← Int.natCast_mul]; omega
 ·have:(((isq (u * u + v * v).toNat + 1) * (isq (u * u + v * v).toNat + 1):Nat):Int) = ((isq (u * u + v * v).toNat:Int) + 1) * ((isq (u * u + v * v).toNat:Int) + 1):=by rw [Int.natCast_mul]; rfl
  omega
theorem un_big {x y S:Int} (hx:-S ≤ x ∧ x ≤ S) (hy:-S ≤ y ∧ y ≤ S) (h0:0 ≤ S) (l:S ≤ 70368744177664):∃ u v,unB x y = ((u,false),(v,false)) ∧ (-281474976710656 ≤ u ∧ u ≤ 281474976710656) ∧ (-281474976710656 ≤ v ∧ v ≤ 281474976710656) ∧ ((u = 0 ∧ v = 0) ∨ 16777216 ≤ ab u ∨ 16777216 ≤ ab v):=by
 unfold unB
 split
 ·rename_i h
  have h1:-16777216 ≤ x ∧ x ≤ 16777216:=by have:=h.1; unfold ab at this; split at this <;> omega
  have h2:-16777216 ≤ y ∧ y ≤ 16777216:=by have:=h.2; unfold ab at this; split at this <;> omega
  refine ⟨_,_,rfl,by omega,by omega,?_⟩
  unfold ab
  (repeat' split) <;> omega
 ·rename_i h
  refine ⟨_,_,rfl,by omega,by omega,?_⟩
  omega
theorem un_eq {x y S:Int} (hx:-S ≤ x ∧ x ≤ S) (hy:-S ≤ y ∧ y ≤ S) (h0:0 ≤ S) (l:S ≤ 70368744177664) (h:(unS x false y false).1 = true):∃ a b,(unS x false y false).2 = ((a,false),(b,false)) ∧ 4294967292 * 4294967292 ≤ a * a + b * b ∧ a * a + b * b < 4294967553 * 4294967553 ∧ (-4294967296 ≤ a ∧ a ≤ 4294967296) ∧ (-4294967296 ≤ b ∧ b ≤ 4294967296):=by
 obtain ⟨g1,g2⟩:=un_ok hx hy h0 l
 obtain ⟨u,v,hB,hu,hv,hz⟩:=un_big hx hy h0 l
 obtain ⟨q,e,q0,q1,q2,q3⟩:=hyp_sq hu hv
 have hw1:whF x false = false:=whF_of (by unfold rg; omega)
 have hw2:whF y false = false:=whF_of (by unfold rg; omega)
 have hq:¬ ((nHyp (unB x y).1 (unB x y).2).2 = true ∨ (nHyp (unB x y).1 (unB x y).2).1 = 0):=fun c => by
  unfold unS at h
  rw [if_neg (by rw [hw1,hw2]; simp),if_pos c] at h
  cases h
 have hU:unS x false y false = (true,nDiv (unB x y).1 (nHyp (unB x y).1 (unB x y).2),nDiv (unB x y).2 (nHyp (unB x y).1 (unB x y).2)):=by
  unfold unS
  rw [if_neg (by rw [hw1,hw2]; simp),if_neg hq]
 rw [hB] at hq hU
 dsimp only at hq hU
 rw [e] at hq hU
 have hq0:q ≠ 0:=fun c => hq (.inr c)
 rw [hU] at g1 g2 ⊢
 have big:16777216 ≤ q:=by
  refine Int.not_lt.1 fun hn => ?_
  have k:(q + 1) * (q + 1) ≤ 16777216 * 16777216:=sq_mono (by omega) (by omega)
  have s1:=sq0 u
  have s2:=sq0 v
  rcases hz with ⟨z1,z2⟩ | z | z
  ·subst z1 z2
   have:q * q ≤ 0:=by omega
   have:0 < q * q:=Int.mul_pos (by omega) (by omega)
   omega
  ·have:=sq_mono (a:=16777216) (by decide) z
   rw [aSq] at this
   omega
  ·have:=sq_mono (a:=16777216) (by decide) z
   rw [aSq] at this
   omega
 obtain ⟨r1,r2⟩:=unit_sq big q1 q2
 have ev:∀ w:Int,(-281474976710656 ≤ w ∧ w ≤ 281474976710656) → (nDiv (w,false) (q,false)).2 = false → (nDiv (w,false) (q,false)) = ((w * 4294967296).tdiv q,false):=fun w hw hf => by
  have hval:(nDiv (w,false) (q,false)).1 = (w * 4294967296).tdiv q:=by
   show raV (whV w) (whV q) = _
   rw [whV_of (by unfold rg; omega),whV_of (by unfold rg; omega)]
   unfold raV
   rw [if_neg hq0]
   have t:=tdiv_bd (v:=w * 4294967296) (C:=1208925819614629174706176) (k:=q) (by omega) (by
    have:1208925819614629174706176 * 16777216 ≤ 1208925819614629174706176 * q:=by omega
    omega)
   have hf':raF (whV w) (whV q) = false:=by
    have:(raF (whV w) (whV q) || (whF w false || whF q false)) = false:=hf
    rw [Bool.or_eq_false_iff] at this
    exact this.1
   rw [whV_of (by unfold rg; omega),whV_of (by unfold rg; omega)] at hf'
   unfold raF at hf'
   rw [if_neg hq0] at hf'
   unfold ftF at hf'
   have:=of_decide_eq_false hf'
   exact ftV_of (by unfold rg; omega)
  exact Prod.ext hval hf
 have d1:=ev u hu g1.1
 have d2:=ev v hv g2.1
 dsimp only at g1 g2 ⊢
 rw [d1] at g1 ⊢
 rw [d2] at g2 ⊢
 exact ⟨_,_,rfl,r1,r2,g1.2,g2.2⟩
end Go.Ax
end
section
/-
  A disc that is off all edges of a polygon, its middle not being in it, has no spot in common with it.
-/
set_option maxHeartbeats 4000000
namespace Go.Ax
end Go.Ax
end
section
/-
  A disc that is off all edges of a polygon, its middle not being in it, has no spot in common with it.
-/
set_option maxHeartbeats 4000000
namespace Go.Ax
end Go.Ax
end
section
/-
  A disc that is off all edges of a polygon, its middle not being in it, has no spot in common with it.
-/
set_option maxHeartbeats 4000000
namespace Go.Ax
theorem mnW_v {x y:Int} (hx:-2097152 ≤ x ∧ x ≤ 2097152) (hy:-2097152 ≤ y ∧ y ≤ 2097152):mnW x y = y - x:=wrap_in (by unfold inR; omega)
theorem dtW_v {a b c d:Int} (ha:sm a) (hb:sm b) (hc:sm c) (hd:sm d):dtW a b c d = a * c + b * d:=by
 have h1:=sm_mul ha hc
 have h2:=sm_mul hb hd
 unfold dtW
 rw [wrap_in (x:=a * c) (by unfold inR; omega),wrap_in (x:=b * d) (by unfold inR; omega),wrap_in (by unfold inR; omega)]
end Go.Ax
end
section
/-
  Polygons that an edge separates have no spot in common.
-/
set_option maxHeartbeats 4000000
namespace Go.Ax
end Go.Ax
end
section
/-
  Forms that are apart have no spot in common; no form is apart from itself.
-/
set_option maxHeartbeats 4000000
namespace Go.Ax
end Go.Ax
end
section
/-
  Where forms touch: between the ends of an edge; directions of length 1.
-/
set_option maxHeartbeats 4000000
set_option maxRecDepth 100000
namespace Go.Ax
theorem gd_le {a:Nb} {A B:Int} (h:gd a A) (l:A ≤ B):gd a B:=⟨h.1,by have:=h.2; omega⟩
def uv (v:V2):Prop:=v.1.2 = false ∧ v.2.2 = false ∧ 4294967292 * 4294967292 ≤ v.1.1 * v.1.1 + v.2.1 * v.2.1 ∧ v.1.1 * v.1.1 + v.2.1 * v.2.1 < 4294967553 * 4294967553 ∧ (-4294967296 ≤ v.1.1 ∧ v.1.1 ≤ 4294967296) ∧ (-4294967296 ≤ v.2.1 ∧ v.2.1 ≤ 4294967296)
theorem uv_gd {v:V2} (h:uv v):gd v.1 4294967296 ∧ gd v.2 4294967296:=⟨⟨h.1,h.2.2.2.2.1⟩,h.2.1,h.2.2.2.2.2⟩
theorem uv_len {v:V2} (h:uv v):∃ L,vLen v = (L,false) ∧ 4294967040 ≤ L ∧ L ≤ 4294967552:=by
 obtain ⟨h1,h2,h3,h4,h5,h6⟩:=h
 obtain ⟨q,e,q0,q1,q2,q3⟩:=@hyp_sq v.1.1 v.2.1 (by omega) (by omega)
 refine ⟨q,?_,Int.not_lt.1 fun hn => ?_,Int.not_lt.1 fun hn => ?_⟩
 ·show nHyp v.1 v.2 = _
  rw [show v.1 = (v.1.1,false) from Prod.ext rfl h1,show v.2 = (v.2.1,false) from Prod.ext rfl h2]
  exact e
 ·have:=sq_mono (a:=q + 1) (b:=4294967040) (by omega) (by omega)
  omega
 ·have:=sq_mono (a:=4294967553) (b:=q) (by omega) (by omega)
  omega
theorem uv_un {v:V2} {S:Int} (h1:gd v.1 S) (h2:gd v.2 S) (h0:0 ≤ S) (l:S ≤ 70368744177664) (h:(vUnit v).1 = true):uv (vUnit v).2:=by
 have e:vUnit v = unS v.1.1 false v.2.1 false:=by
  unfold vUnit
  rw [h1.1,h2.1]
 rw [e] at h ⊢
 obtain ⟨a,b,e2,k1,k2,k3,k4⟩:=un_eq h1.2 h2.2 h0 l h
 rw [e2]
 exact ⟨rfl,rfl,k1,k2,k3,k4⟩
theorem un_true {x y S:Int} (hx:-S ≤ x ∧ x ≤ S) (hy:-S ≤ y ∧ y ≤ S) (h0:0 ≤ S) (l:S ≤ 70368744177664) (h:x ≠ 0 ∨ y ≠ 0):(unS x false y false).1 = true:=by
 have hw1:whF x false = false:=whF_of (by unfold rg; omega)
 have hw2:whF y false = false:=whF_of (by unfold rg; omega)
 obtain ⟨u,v,hB,hu,hv,hz⟩:=un_big hx hy h0 l
 obtain ⟨q,e,q0,q1,q2,q3⟩:=hyp_sq hu hv
 have hne:¬ (u = 0 ∧ v = 0):=fun c => by
  unfold unB at hB
  split at hB
  ·have e1:=congrArg (fun p => p.1.1) hB
   have e2:=congrArg (fun p => p.2.1) hB
   dsimp only at e1 e2
   omega
  ·have e1:=congrArg (fun p => p.1.1) hB
   have e2:=congrArg (fun p => p.2.1) hB
   dsimp only at e1 e2
   omega
 have hq:q ≠ 0:=fun c => by
  subst c
  have s1:=sq0 u
  have s2:=sq0 v
  have e1:u * u = 0:=by omega
  have e2:v * v = 0:=by omega
  rcases Int.mul_eq_zero.1 e1 with z | z <;> rcases Int.mul_eq_zero.1 e2 with z' | z' <;> exact hne ⟨z,z'⟩
 unfold unS
 rw [if_neg (by rw [hw1,hw2]; simp),hB]
 dsimp only
 rw [e,if_neg (by simpa using hq)]
theorem int_in {k:Int} (h:-2147483647 ≤ k ∧ k ≤ 2147483647):nInt k = (k * 4294967296,false):=by
 unfold nInt
 rw [ftV_of (by unfold rg; omega),ftF_of (by unfold rg; omega)]
 rfl
theorem loc_in {x y:Int} (hx:-549755813887 ≤ x ∧ x ≤ 549755813887) (hy:-549755813887 ≤ y ∧ y ≤ 549755813887):vLoc x y = ((x * 16777216,false),(y * 16777216,false)):=by
 unfold vLoc
 rw [gd_rat (S:=549755813887) (by omega) (by omega),gd_rat (S:=549755813887) (by omega) (by omega)]
def sml (n:Nat) (X Y:Nat → Int):Prop:=∀ i,i < n → (-12000 ≤ X i ∧ X i ≤ 12000) ∧ (-12000 ≤ Y i ∧ Y i ≤ 12000)
theorem edge_ne {n:Nat} {X Y:Nat → Int} (hc:convexS n X Y = true) {i:Nat} (hi:i < n):X (nxt n i) - X i ≠ 0 ∨ Y (nxt n i) - Y i ≠ 0:=by
 obtain ⟨h3,_,hcv⟩:=convexS_iff.1 hc
 refine Classical.byContradiction fun hn => ?_
 have e1:X (nxt n i) - X i = 0:=by omega
 have e2:Y (nxt n i) - Y i = 0:=by omega
 obtain ⟨k,hk,k1,k2⟩:∃ k,k < n ∧ k ≠ i ∧ k ≠ nxt n i:=by
  by_cases c0:(0:Nat) ≠ i ∧ (0:Nat) ≠ nxt n i
  ·exact ⟨0,by omega,c0⟩
  by_cases c1:(1:Nat) ≠ i ∧ (1:Nat) ≠ nxt n i
  ·exact ⟨1,by omega,c1⟩
  exact ⟨2,by omega,by omega,by omega⟩
 have:=hcv i hi k hk k1 k2
 unfold turnS at this
 rw [e1,e2,Int.zero_mul,Int.zero_mul] at this
 omega
def wid (n:Nat) (X Y:Nat → Int):Prop:=∀ i,i < n → ∀ j,j < n → (-16384 ≤ X j - X i ∧ X j - X i ≤ 16384) ∧ (-16384 ≤ Y j - Y i ∧ Y j - Y i ≤ 16384)
theorem norm_un {a b c d:Int} (h1:-16384 ≤ c - a ∧ c - a ≤ 16384) (h2:-16384 ≤ d - b ∧ d - b ≤ 16384) (hne:c - a ≠ 0 ∨ d - b ≠ 0):uv (vNorm a b c d):=by
 unfold vNorm vOf
 rw [int_in (by omega),int_in (by omega)]
 refine uv_un (S:=70368744177664) ⟨rfl,by dsimp only; omega⟩ ⟨rfl,by dsimp only; omega⟩ (by omega) (by omega) ?_
 unfold vUnit
 dsimp only
 exact un_true (S:=70368744177664) (by omega) (by omega) (by omega) (by omega) (by omega)
theorem edN_un {n:Nat} {X Y:Nat → Int} (hc:convexS n X Y = true) (hw:wid n X Y) {i:Nat} (hi:i < n):uv (edN n X Y i):=
 norm_un (hw i hi _ (nxt_lt hi)).1 (hw i hi _ (nxt_lt hi)).2 (edge_ne hc hi)
theorem mn_in {a b:Int} (ha:-12000 ≤ a ∧ a ≤ 12000) (hb:-12000 ≤ b ∧ b ≤ 12000):mnW a b = b - a:=mnW_v (by omega) (by omega)
theorem flT_un {n:Nat} {X Y:Nat → Int} (hc:convexS n X Y = true) (hs:sml n X Y) (hw:wid n X Y) {i:Nat} (hi:i < n):uv (flT n X Y i):=by
 have s1:=hs i hi
 have s2:=hs _ (nxt_lt hi)
 have w:=hw i hi _ (nxt_lt hi)
 have hne:=edge_ne hc hi
 unfold flT vOf
 rw [mn_in s1.1 s2.1,mn_in s1.2 s2.2,int_in (by omega),int_in (by omega)]
 refine uv_un (S:=70368744177664) ⟨rfl,by dsimp only; omega⟩ ⟨rfl,by dsimp only; omega⟩ (by omega) (by omega) ?_
 unfold vUnit
 dsimp only
 exact un_true (S:=70368744177664) (by omega) (by omega) (by omega) (by omega) (by omega)
def bt (lo hi:Int) (a:Nb):Prop:=a.2 = false ∧ lo ≤ a.1 ∧ a.1 ≤ hi
theorem bt_gd {lo hi:Int} {a:Nb} {B:Int} (h:bt lo hi a) (h1:-B ≤ lo) (h2:hi ≤ B):gd a B:=⟨h.1,by have:=h.2; omega⟩
theorem td_btw {d t:Int} (h0:0 ≤ t) (h1:t ≤ 4294967296):(0 ≤ d → 0 ≤ (d * t).tdiv 4294967296 ∧ (d * t).tdiv 4294967296 ≤ d) ∧ (d ≤ 0 → d ≤ (d * t).tdiv 4294967296 ∧ (d * t).tdiv 4294967296 ≤ 0):=by
 refine ⟨fun hd => ?_,fun hd => ?_⟩
 ·have k1:=Int.mul_nonneg hd h0
  have k2:d * t ≤ d * 4294967296:=Int.mul_le_mul_of_nonneg_left h1 hd
  rw [Int.tdiv_eq_ediv_of_nonneg k1]
  exact ⟨Int.ediv_nonneg k1 (by decide),Int.ediv_le_of_le_mul (by decide) (by omega)⟩
 ·have k1:=Int.mul_nonneg (show 0 ≤ -d by omega) h0
  have k2:-d * t ≤ -d * 4294967296:=Int.mul_le_mul_of_nonneg_left h1 (by omega)
  have e:(d * t).tdiv 4294967296 = -((-d * t) / 4294967296):=by
   rw [← Int.tdiv_eq_ediv_of_nonneg k1,Int.neg_mul,Int.neg_tdiv,Int.neg_neg]
  rw [e]
  have h1:0 ≤ (-d * t) / 4294967296:=Int.ediv_nonneg k1 (by decide)
  have h2:(-d * t) / 4294967296 ≤ -d:=Int.ediv_le_of_le_mul (by decide) (by omega)
  omega
theorem bt_go {x d t:Nb} {lo hi:Int} (hx:bt lo hi x) (hd:d.2 = false) (h1:lo ≤ x.1 + d.1) (h2:x.1 + d.1 ≤ hi) (ht:bt 0 4294967296 t) (l1:-1152921504606846976 ≤ lo) (l2:hi ≤ 1152921504606846976):bt lo hi (nAdd x (nMul d t)):=by
 obtain ⟨x1,x2,x3⟩:=hx
 obtain ⟨t1,t2,t3⟩:=ht
 have k:=@td_btw d.1 t.1 t2 t3
 have em:nMul d t = ((d.1 * t.1).tdiv 4294967296,false):=by
  unfold nMul
  rw [whV_of (v:=d.1) (by unfold rg; omega),whV_of (v:=t.1) (by unfold rg; omega),whF_of (v:=d.1) (by unfold rg; omega),whF_of (v:=t.1) (by unfold rg; omega),t1,hd]
  have:rg ((d.1 * t.1).tdiv 4294967296):=by unfold rg; omega
  rw [ftV_of this,ftF_of this]
  rfl
 rw [em]
 unfold nAdd
 dsimp only
 have hr:-2305843009213693952 ≤ (d.1 * t.1).tdiv 4294967296 ∧ (d.1 * t.1).tdiv 4294967296 ≤ 2305843009213693952:=by omega
 rw [whV_of (v:=x.1) (by unfold rg; omega),whV_of (v:=(d.1 * t.1).tdiv 4294967296) (by unfold rg; omega),whF_of (v:=x.1) (by unfold rg; omega),whF_of (v:=(d.1 * t.1).tdiv 4294967296) (by unfold rg; omega),ftV_of (by unfold rg; omega),ftF_of (by unfold rg; omega),x1]
 exact ⟨rfl,by dsimp only; omega,by dsimp only; omega⟩
theorem bt_part {x y t:Nb} {lo hi:Int} (hx:bt lo hi x) (hy:bt lo hi y) (ht:bt 0 4294967296 t) (l1:-1152921504606846976 ≤ lo) (l2:hi ≤ 1152921504606846976):bt lo hi (nAdd x (nMul (nSub y x) t)):=by
 have hx':=hx
 obtain ⟨x1,x2,x3⟩:=hx
 obtain ⟨y1,y2,y3⟩:=hy
 have es:nSub y x = (y.1 - x.1,false):=by
  unfold nSub
  rw [whV_of (v:=y.1) (by unfold rg; omega),whV_of (v:=x.1) (by unfold rg; omega),whF_of (v:=y.1) (by unfold rg; omega),whF_of (v:=x.1) (by unfold rg; omega),ftV_of (by unfold rg; omega),ftF_of (by unfold rg; omega),x1,y1]
  rfl
 rw [es]
 exact bt_go hx' rfl (by dsimp only; omega) (by dsimp only; omega) ht l1 l2
theorem bt_ratio {i j:Nb} (hi:gd i 4611686018427387903) (hj:gd j 4611686018427387903) (h1:i.1 < 0) (h2:0 ≤ j.1):bt 0 4294967296 (nDiv i (nSub i j)):=by
 obtain ⟨i1,i2,i3⟩:=hi
 obtain ⟨j1,j2,j3⟩:=hj
 have es:nSub i j = (i.1 - j.1,false):=by
  unfold nSub
  rw [whV_of (v:=i.1) (by unfold rg; omega),whV_of (v:=j.1) (by unfold rg; omega),whF_of (v:=i.1) (by unfold rg; omega),whF_of (v:=j.1) (by unfold rg; omega),ftV_of (by unfold rg; omega),ftF_of (by unfold rg; omega),i1,j1]
  rfl
 have e:(i.1 * 4294967296).tdiv (i.1 - j.1) = (-i.1 * 4294967296) / (j.1 - i.1):=by
  rw [← Int.tdiv_eq_ediv_of_nonneg (show 0 ≤ -i.1 * 4294967296 by omega),show -i.1 * 4294967296 = -(i.1 * 4294967296) by omega,show j.1 - i.1 = -(i.1 - j.1) by omega,Int.neg_tdiv,Int.tdiv_neg,Int.neg_neg]
 have k1:0 ≤ (-i.1 * 4294967296) / (j.1 - i.1):=Int.ediv_nonneg (by omega) (by omega)
 have k2:(-i.1 * 4294967296) / (j.1 - i.1) ≤ 4294967296:=Int.ediv_le_of_le_mul (by omega) (by omega)
 rw [es]
 unfold nDiv
 dsimp only
 rw [whV_of (v:=i.1) (by unfold rg; omega),whV_of (v:=i.1 - j.1) (by unfold rg; omega),whF_of (v:=i.1) (by unfold rg; omega),whF_of (v:=i.1 - j.1) (by unfold rg; omega),i1]
 unfold raV raF
 rw [if_neg (by omega),if_neg (by omega),e,ftV_of (by unfold rg; omega),ftF_of (by unfold rg; omega)]
 exact ⟨rfl,k1,k2⟩
def bx (a b c d:Int) (v:V2):Prop:=bt a c v.1 ∧ bt b d v.2
theorem bx_clpX {a b c d:Int} {x y:V2} {i j:Nb} (hx:bx a b c d x) (hy:bx a b c d y) (hi:gd i 4611686018427387903) (hj:gd j 4611686018427387903) (l1:-1152921504606846976 ≤ a) (l2:c ≤ 1152921504606846976) (l3:-1152921504606846976 ≤ b) (l4:d ≤ 1152921504606846976):bx a b c d (clpX x y i j):=by
 unfold clpX
 split
 ·rename_i h
  have t:=bt_ratio hi hj h.1 h.2
  exact ⟨bt_part hx.1 hy.1 t l1 l2,bt_part hx.2 hy.2 t l3 l4⟩
 ·exact hx
theorem bx_clpY {a b c d:Int} {x y:V2} {i j:Nb} (hx:bx a b c d x) (hy:bx a b c d y) (hi:gd i 4611686018427387903) (hj:gd j 4611686018427387903) (l1:-1152921504606846976 ≤ a) (l2:c ≤ 1152921504606846976) (l3:-1152921504606846976 ≤ b) (l4:d ≤ 1152921504606846976):bx a b c d (clpY x y i j):=by
 unfold clpY
 split
 ·rename_i h
  have t:=bt_ratio hj hi h.1 h.2
  exact ⟨bt_part hy.1 hx.1 t l1 l2,bt_part hy.2 hx.2 t l3 l4⟩
 ·exact hy
theorem uv_dot {t x:V2} {B:Int} (ht:uv t) (h1:gd x.1 B) (h2:gd x.2 B) (h0:0 ≤ B) (l:B ≤ 1152921504606846976):gd (vDot t x) (2 * B):=by
 obtain ⟨t1,t2⟩:=uv_gd ht
 exact gd_dot t1 h1 t2 h2 (by omega) (by omega) (by omega) (by omega) (by omega) (by omega) (by omega) (by omega)
theorem fl_bx {a b c d:Int} {t x y:V2} {e:Nb} (ht:uv t) (hx:bx a b c d x) (hy:bx a b c d y) (he:gd e 1125899906842624) (l1:-1125899906842624 ≤ a) (l2:c ≤ 1125899906842624) (l3:-1125899906842624 ≤ b) (l4:d ≤ 1125899906842624) :
  bx a b c d (flX t x y e) ∧ bx a b c d (flY t x y e):=by
 have g:∀ v,bx a b c d v → gd (vDot t v) (2 * 1125899906842624):=fun v hv => uv_dot ht (bt_gd hv.1 l1 l2) (bt_gd hv.2 l3 l4) (by omega) (by omega)
 have w:∀ v,bx a b c d v → gd (vDot t v) 4611686018427387903:=fun v hv => gd_le (g v hv) (by omega)
 have h1:bx a b c d (cl1X t x y):=bx_clpX hx hy (w x hx) (w y hy) (by omega) (by omega) (by omega) (by omega)
 have h2:bx a b c d (cl1Y t x y):=bx_clpY hx hy (w x hx) (w y hy) (by omega) (by omega) (by omega) (by omega)
 have w':∀ v,bx a b c d v → gd (nSub e (vDot t v)) 4611686018427387903:=fun v hv => gd_le (gd_sub he (g v hv) (by omega) (by omega) (by omega)) (by omega)
 exact ⟨bx_clpX h1 h2 (w' _ h1) (w' _ h2) (by omega) (by omega) (by omega) (by omega),bx_clpY h1 h2 (w' _ h1) (w' _ h2) (by omega) (by omega) (by omega) (by omega)⟩
end Go.Ax
end
section
/-
  How forms touch: one or two places, near both forms, none with a depth below 0, in a direction of length 1.
-/
set_option maxHeartbeats 4000000
set_option maxRecDepth 100000
namespace Go.Ax
def tok (a b c d:Int) (M:Mf):Prop:=(1 ≤ M.n ∧ M.n ≤ 2) ∧ uv M.nv ∧ ∀ i,i < M.n → ((M.D i).2 = false ∧ 0 ≤ (M.D i).1 ∧ (M.D i).1 ≤ 1125899906842624) ∧ bx (a * 16777216) (b * 16777216) (c * 16777216) (d * 16777216) (M.P i)
theorem bt_le {a b c d:Int} {x:Nb} (h:bt a b x) (h1:c ≤ a) (h2:b ≤ d):bt c d x:=⟨h.1,by have:=h.2; omega⟩
theorem tok_le {a b c d a' b' c' d':Int} {M:Mf} (h:tok a b c d M) (h1:a' ≤ a) (h2:b' ≤ b) (h3:c ≤ c') (h4:d ≤ d'):tok a' b' c' d' M:=
 ⟨h.1,h.2.1,fun i hi => ⟨(h.2.2 i hi).1,bt_le (h.2.2 i hi).2.1 (by omega) (by omega),bt_le (h.2.2 i hi).2.2 (by omega) (by omega)⟩⟩
theorem tok_one {a b c d:Int} {nv p:V2} {e:Nb} (hn:uv nv) (he:e.2 = false ∧ 0 ≤ e.1 ∧ e.1 ≤ 1125899906842624) (hp:bx (a * 16777216) (b * 16777216) (c * 16777216) (d * 16777216) p):tok a b c d (mf1 nv p e):=
 ⟨⟨Nat.le_refl 1,by show 1 ≤ 2; omega⟩,hn,fun i hi => ⟨he,hp⟩⟩
theorem pos_in {a:Nb} {B:Int} (h:gd a B) (hB:0 ≤ B) (l:B ≤ 9223372036854775807):(nPos a).2 = false ∧ 0 ≤ (nPos a).1 ∧ (nPos a).1 ≤ B ∧ (nPos a).1 = max 0 a.1:=by
 obtain ⟨w1,w2⟩:=gd_wh h l
 have h2:=h.2
 unfold nPos
 rw [w1,w2]
 dsimp only
 refine ⟨rfl,?_,?_,?_⟩ <;> split <;> omega
theorem len_in {v:V2} {S:Int} (h1:gd v.1 S) (h2:gd v.2 S) (h0:0 ≤ S) (l:S ≤ 281474976710656):∃ q,vLen v = (q,false) ∧ 0 ≤ q ∧ v.1.1 ≤ q ∧ -v.1.1 ≤ q ∧ v.2.1 ≤ q ∧ -v.2.1 ≤ q ∧ q ≤ 2 * S:=by
 obtain ⟨k1,k2,k3,k4,k5,k6⟩:=hyp_ok h1 h2 h0 (by omega)
 exact ⟨(nHyp v.1 v.2).1,Prod.ext rfl k1,by omega,k2,k3,k4,k5,k6⟩
theorem wr_in {x:Int} (h:-9223372036854775808 ≤ x ∧ x ≤ 9223372036854775807):IntKind.i64.wrap x = x:=wrap_in (by unfold inR; omega)
theorem rat_in {s:Int} (h:-549755813887 ≤ s ∧ s ≤ 549755813887):nRat s 256 = (s * 16777216,false):=gd_rat (S:=549755813887) (by omega) (by omega)
theorem mul_dir {n k:Nb} {K:Int} (hn:gd n 4294967296) (hk:gd k K) (h0:0 ≤ K) (l:K ≤ 9223372036854775807):gd (nMul n k) K:=
 gd_mul hn hk (by omega) (by omega) l (by omega) l
theorem add_at {x n:Nb} {K:Int} (hx:gd x 1152921504606846976) (hn:gd n K) (h0:0 ≤ K) (l:K ≤ 1152921504606846976):bt (x.1 - K) (x.1 + K) (nAdd x n):=by
 obtain ⟨x1,x2,x3⟩:=hx
 obtain ⟨n1,n2,n3⟩:=hn
 unfold nAdd
 rw [whV_of (v:=x.1) (by unfold rg; omega),whV_of (v:=n.1) (by unfold rg; omega),whF_of (v:=x.1) (by unfold rg; omega),whF_of (v:=n.1) (by unfold rg; omega),ftV_of (by unfold rg; omega),ftF_of (by unfold rg; omega),x1,n1]
 exact ⟨rfl,by dsimp only; omega,by dsimp only; omega⟩
theorem sub_at {x n:Nb} {K:Int} (hx:gd x 1152921504606846976) (hn:gd n K) (h0:0 ≤ K) (l:K ≤ 1152921504606846976):bt (x.1 - K) (x.1 + K) (nSub x n):=by
 obtain ⟨x1,x2,x3⟩:=hx
 obtain ⟨n1,n2,n3⟩:=hn
 unfold nSub
 rw [whV_of (v:=x.1) (by unfold rg; omega),whV_of (v:=n.1) (by unfold rg; omega),whF_of (v:=x.1) (by unfold rg; omega),whF_of (v:=n.1) (by unfold rg; omega),ftV_of (by unfold rg; omega),ftF_of (by unfold rg; omega),x1,n1]
 exact ⟨rfl,by dsimp only; omega,by dsimp only; omega⟩
theorem oneV_uv:uv oneV:=by unfold uv oneV; decide
theorem two_tok {x y r a b s:Int} (hx:-12000 ≤ x ∧ x ≤ 12000) (hy:-12000 ≤ y ∧ y ≤ 12000) (ha:-12000 ≤ a ∧ a ≤ 12000) (hb:-12000 ≤ b ∧ b ≤ 12000) (hr:0 ≤ r ∧ r ≤ 12000) (hs:0 ≤ s ∧ s ≤ 12000) :
  tok (min (x - r) (a - s)) (min (y - r) (b - s)) (max (x + r) (a + s)) (max (y + r) (b + s)) (twoS x y r a b s):=by
 have ed:vLoc (mnW x a) (mnW y b) = (((a - x) * 16777216,false),((b - y) * 16777216,false)):=by rw [mn_in hx ha,mn_in hy hb,loc_in (by omega) (by omega)]
 obtain ⟨q,hq,q0,q1,q2,q3,q4,q5⟩:=@len_in (((a - x) * 16777216,false),((b - y) * 16777216,false)) 402653184000 ⟨rfl,by dsimp only; omega⟩ ⟨rfl,by dsimp only; omega⟩ (by omega) (by omega)
 dsimp only at q1 q2 q3 q4
 have hu:uv (twN (vLoc (mnW x a) (mnW y b))):=by
  rw [ed]
  unfold twN
  split
  ·exact uv_un (S:=402653184000) ⟨rfl,by dsimp only; omega⟩ ⟨rfl,by dsimp only; omega⟩ (by omega) (by omega) ‹_›
  ·exact oneV_uv
 have eD:twD (vLoc (mnW x a) (mnW y b)) r s = (max 0 ((r + s) * 16777216 - q),false):=by
  unfold twD
  rw [ed,hq,wr_in (by omega),rat_in (by omega)]
  have e1:nSub ((r + s) * 16777216,false) (q,false) = ((r + s) * 16777216 - q,false):=by
   unfold nSub
   dsimp only
   rw [whV_of (by unfold rg; omega),whV_of (by unfold rg; omega),whF_of (by unfold rg; omega),whF_of (by unfold rg; omega),ftV_of (by unfold rg; omega),ftF_of (by unfold rg; omega)]
   rfl
  rw [e1]
  obtain ⟨p1,_,_,p4⟩:=pos_in (a:=((r + s) * 16777216 - q,false)) (B:=2305843009213693951) ⟨rfl,by dsimp only; omega⟩ (by omega) (by omega)
  exact Prod.ext p4 p1
 obtain ⟨e,he⟩:∃ e,e = max 0 ((r + s) * 16777216 - q):=⟨_,rfl⟩
 rw [← he] at eD
 have he0:0 ≤ e ∧ e ≤ 402653184000:=by omega
 have eH:nDiv (e,false) (nInt 2) = (e / 2,false):=by
  rw [int_in (by omega)]
  unfold nDiv raV raF
  dsimp only
  have e2:(e * 4294967296).tdiv 8589934592 = e / 2:=by rw [Int.tdiv_eq_ediv_of_nonneg (by omega)]; omega
  rw [whV_of (v:=e) (by unfold rg; omega),whF_of (v:=e) (by unfold rg; omega),show whV (2 * 4294967296) = 8589934592 from rfl,show whF (2 * 4294967296) false = false from rfl,if_neg (by decide),if_neg (by decide),e2,ftV_of (by unfold rg; omega),ftF_of (by unfold rg; omega)]
  rfl
 have eK:nSub (nRat r 256) (nDiv (e,false) (nInt 2)) = (r * 16777216 - e / 2,false):=by
  rw [eH,rat_in (by omega)]
  unfold nSub
  dsimp only
  rw [whV_of (by unfold rg; omega),whV_of (by unfold rg; omega),whF_of (by unfold rg; omega),whF_of (by unfold rg; omega),ftV_of (by unfold rg; omega),ftF_of (by unfold rg; omega)]
  rfl
 unfold twoS
 refine tok_one hu (by rw [eD]; exact ⟨rfl,by dsimp only; omega,by dsimp only; omega⟩) ?_
 rw [eD]
 unfold twP
 rw [eK,loc_in (by omega) (by omega)]
 obtain ⟨u1,u2⟩:=uv_gd hu
 by_cases hc:e / 2 ≤ r * 16777216
 ·have k:gd (r * 16777216 - e / 2,false) (r * 16777216):=⟨rfl,by dsimp only; omega⟩
  have a1:=add_at (x:=(x * 16777216,false)) ⟨rfl,by dsimp only; omega⟩ (mul_dir u1 k (by omega) (by omega)) (by omega) (by omega)
  have a2:=add_at (x:=(y * 16777216,false)) ⟨rfl,by dsimp only; omega⟩ (mul_dir u2 k (by omega) (by omega)) (by omega) (by omega)
  dsimp only at a1 a2
  exact ⟨bt_le a1 (by omega) (by omega),bt_le a2 (by omega) (by omega)⟩
 ·have k:gd (r * 16777216 - e / 2,false) (e / 2 - r * 16777216):=⟨rfl,by dsimp only; omega⟩
  have a1:=add_at (x:=(x * 16777216,false)) ⟨rfl,by dsimp only; omega⟩ (mul_dir u1 k (by omega) (by omega)) (by omega) (by omega)
  have a2:=add_at (x:=(y * 16777216,false)) ⟨rfl,by dsimp only; omega⟩ (mul_dir u2 k (by omega) (by omega)) (by omega) (by omega)
  dsimp only at a1 a2
  exact ⟨bt_le a1 (by omega) (by omega),bt_le a2 (by omega) (by omega)⟩
theorem axF_at {o:Int} {G:Nat → Nb}:∀ i:Nat,0 ≤ (axF o G ax0 (i + 1)).2.1 ∧ (axF o G ax0 (i + 1)).2.1 ≤ i ∧ (axF o G ax0 (i + 1)).2.2 = G (axF o G ax0 (i + 1)).2.1.toNat
 | 0 => by
  rw [axF_hit (.inl (by show (-1:Int) < 0; decide))]
  exact ⟨by show (0:Int) ≤ ((0:Nat):Int); omega,by show ((0:Nat):Int) ≤ ((0:Nat):Int); omega,rfl⟩
 | i + 1 => by
  obtain ⟨h1,h2,h3⟩:=axF_at (o:=o) (G:=G) i
  by_cases c:(axF o G ax0 (i + 1)).2.1 < 0 ∨ 0 < cmpS (whV (G (i + 1)).1) (whV (axF o G ax0 (i + 1)).2.2.1)
  ·rw [axF_hit c]
   refine ⟨?_,?_,?_⟩
   ·show (0:Int) ≤ ((i + 1:Nat):Int); omega
   ·show ((i + 1:Nat):Int) ≤ ((i + 1:Nat):Int); omega
   ·show G (i + 1) = G ((i + 1:Nat):Int).toNat; rw [Int.toNat_natCast]
  ·rw [axF_not c]
   exact ⟨h1,by omega,h3⟩
theorem hgt_gd {n:Nat} {X Y:Nat → Int} {x y:Int} (hc:convexS n X Y = true) (hs:sml n X Y) (hw:wid n X Y) (hx:-12000 ≤ x ∧ x ≤ 12000) (hy:-12000 ≤ y ∧ y ≤ 12000) {i:Nat} (hi:i < n):gd (hgt (X i) (Y i) (X (nxt n i)) (Y (nxt n i)) x y) 805306368000:=by
 have s1:=hs i hi
 have hu:uv (vNorm (X i) (Y i) (X (nxt n i)) (Y (nxt n i))):=edN_un hc hw hi
 unfold hgt
 rw [mn_in s1.1 hx,mn_in s1.2 hy,loc_in (by omega) (by omega)]
 exact gd_le (uv_dot (B:=402653184000) hu ⟨rfl,by dsimp only; omega⟩ ⟨rfl,by dsimp only; omega⟩ (by omega) (by omega)) (by omega)
theorem neg_pos_in {a:Nb} {B:Int} (h:gd a B) (hB:0 ≤ B) (l:B ≤ 1125899906842624):(nPos (nNeg a)).2 = false ∧ 0 ≤ (nPos (nNeg a)).1 ∧ (nPos (nNeg a)).1 ≤ 1125899906842624:=by
 obtain ⟨p1,p2,p3,_⟩:=pos_in (gd_neg h (by omega)) hB (by omega)
 exact ⟨p1,p2,by omega⟩
theorem deep_tok {n:Nat} {X Y:Nat → Int} {x y r:Int} (hc:convexS n X Y = true) (hs:sml n X Y) (hw:wid n X Y) (hx:-12000 ≤ x ∧ x ≤ 12000) (hy:-12000 ≤ y ∧ y ≤ 12000) (hr:0 ≤ r ∧ r ≤ 12000) :
  tok (x - r) (y - r) (x + r) (y + r) (deepS n X Y x y r (axSt n (gD n X Y x y r) 0 (gD n X Y x y r) 2)):=by
 have h3:=(convexS_iff.1 hc).1
 have e:axSt n (gD n X Y x y r) 0 (gD n X Y x y r) 2 = axF 0 (gD n X Y x y r) ax0 n:=rfl
 rw [e]
 obtain ⟨h1,h2,h4⟩:=axF_at (o:=0) (G:=gD n X Y x y r) (n - 1)
 rw [show n - 1 + 1 = n by omega] at h1 h2 h4
 generalize axF 0 (gD n X Y x y r) ax0 n = s at *
 have hi:s.2.1.toNat < n:=by omega
 have hu:=edN_un hc hw hi
 obtain ⟨u1,u2⟩:=uv_gd hu
 have hg:gd (gD n X Y x y r s.2.1.toNat) 1006632960000:=by
  unfold gD
  rw [rat_in (by omega)]
  exact gd_le (gd_sub (B:=201326592000) (hgt_gd hc hs hw hx hy hi) ⟨rfl,by dsimp only; omega⟩ (by omega) (by omega) (by omega)) (by omega)
 unfold deepS
 rw [h4]
 refine tok_one hu (neg_pos_in hg (by omega) (by omega)) ?_
 rw [rat_in (by omega),loc_in (by omega) (by omega)]
 have k:gd (r * 16777216,false) (r * 16777216):=⟨rfl,by dsimp only; omega⟩
 have a1:=sub_at (x:=(x * 16777216,false)) ⟨rfl,by dsimp only; omega⟩ (mul_dir u1 k (by omega) (by omega)) (by omega) (by omega)
 have a2:=sub_at (x:=(y * 16777216,false)) ⟨rfl,by dsimp only; omega⟩ (mul_dir u2 k (by omega) (by omega)) (by omega) (by omega)
 dsimp only at a1 a2
 exact ⟨bt_le a1 (by omega) (by omega),bt_le a2 (by omega) (by omega)⟩
theorem rdT_in {n:Nat} {X Y:Nat → Int} {x y:Int} (hc:convexS n X Y = true) (hs:sml n X Y) (hw:wid n X Y) (hx:-12000 ≤ x ∧ x ≤ 12000) (hy:-12000 ≤ y ∧ y ≤ 12000) {i:Nat} (hi:i < n):bt 0 4294967296 (rdT n X Y x y i):=by
 have s1:=hs i hi
 have s2:=hs _ (nxt_lt hi)
 have w:=hw i hi _ (nxt_lt hi)
 have hne:=edge_ne hc hi
 unfold rdT
 rw [mn_in s1.1 hx,mn_in s1.2 hy,mn_in s1.1 s2.1,mn_in s1.2 s2.2]
 have m1:sm (x - X i):=by unfold sm; omega
 have m2:sm (y - Y i):=by unfold sm; omega
 have e1:sm (X (nxt n i) - X i):=by unfold sm; omega
 have e2:sm (Y (nxt n i) - Y i):=by unfold sm; omega
 rw [dtW_v m1 m2 e1 e2,dtW_v e1 e2 e1 e2]
 generalize X (nxt n i) - X i = ex at *
 generalize Y (nxt n i) - Y i = ey at *
 have b1:=mul_bd (A:=24000) (B:=16384) (by omega) (show -24000 ≤ x - X i ∧ x - X i ≤ 24000 by omega) w.1
 have b2:=mul_bd (A:=24000) (B:=16384) (by omega) (show -24000 ≤ y - Y i ∧ y - Y i ≤ 24000 by omega) w.2
 have p1:=sq0 ex
 have p2:=sq0 ey
 have hp:1 ≤ ex * ex + ey * ey:=by
  rcases hne with h | h
  ·have:0 < ex * ex:=by
    rcases Int.lt_or_gt_of_ne h with q | q
    ·exact Int.mul_pos_of_neg_of_neg q q
    ·exact Int.mul_pos q q
   omega
  ·have:0 < ey * ey:=by
    rcases Int.lt_or_gt_of_ne h with q | q
    ·exact Int.mul_pos_of_neg_of_neg q q
    ·exact Int.mul_pos q q
   omega
 have hA:-786432000 ≤ (x - X i) * ex + (y - Y i) * ey ∧ (x - X i) * ex + (y - Y i) * ey ≤ 786432000:=by omega
 generalize (x - X i) * ex + (y - Y i) * ey = A at *
 generalize ex * ex + ey * ey = B at *
 have t:=tdiv_bd (v:=A * 4294967296) (C:=3377699720527872000) (k:=B) (by omega) (by
  have:3377699720527872000 * 1 ≤ 3377699720527872000 * B:=Int.mul_le_mul_of_nonneg_left hp (by omega)
  omega)
 have e:nRat A B = ((A * 4294967296).tdiv B,false):=by
  unfold nRat raV raF
  rw [if_neg (by omega),if_neg (by omega),ftV_of (by unfold rg; omega),ftF_of (by unfold rg; omega)]
  rfl
 rw [e]
 unfold nCl
 dsimp only
 generalize (A * 4294967296).tdiv B = v at *
 rw [whV_of (v:=v) (by unfold rg; omega),whF_of (v:=v) (by unfold rg; omega),show whV 0 = 0 from rfl,show whV 4294967296 = 4294967296 from rfl,show whF 0 false = false from rfl,show whF 4294967296 false = false from rfl]
 exact ⟨rfl,by dsimp only; omega,by dsimp only; omega⟩
theorem rdP_in {n:Nat} {X Y:Nat → Int} {x y:Int} (hc:convexS n X Y = true) (hs:sml n X Y) (hw:wid n X Y) (hx:-12000 ≤ x ∧ x ≤ 12000) (hy:-12000 ≤ y ∧ y ≤ 12000) {i:Nat} (hi:i < n) :
  bx (mnS X n * 16777216) (mnS Y n * 16777216) (mxS X n * 16777216) (mxS Y n * 16777216) (rdP n X Y x y i):=by
 have s1:=hs i hi
 have s2:=hs _ (nxt_lt hi)
 have t:=rdT_in hc hs hw hx hy hi
 have hn0:=(convexS_iff.1 hc).1
 obtain ⟨j1,g1,e1⟩:=mnS_at (Z:=X) (show 0 < n by omega)
 obtain ⟨j2,g2,e2⟩:=mnS_at (Z:=Y) (show 0 < n by omega)
 obtain ⟨j3,g3,e3⟩:=mxS_at (Z:=X) (show 0 < n by omega)
 obtain ⟨j4,g4,e4⟩:=mxS_at (Z:=Y) (show 0 < n by omega)
 have b1:=hs j1 g1
 have b2:=hs j2 g2
 have b3:=hs j3 g3
 have b4:=hs j4 g4
 have m1:=mnS_le' (Z:=X) hi
 have m2:=mnS_le' (Z:=Y) hi
 have m3:=mxS_ge' (Z:=X) hi
 have m4:=mxS_ge' (Z:=Y) hi
 have m5:=mnS_le' (Z:=X) (nxt_lt hi)
 have m6:=mnS_le' (Z:=Y) (nxt_lt hi)
 have m7:=mxS_ge' (Z:=X) (nxt_lt hi)
 have m8:=mxS_ge' (Z:=Y) (nxt_lt hi)
 unfold rdP
 rw [mn_in s1.1 s2.1,mn_in s1.2 s2.2,loc_in (by omega) (by omega),loc_in (by omega) (by omega)]
 exact ⟨bt_go (x:=(X i * 16777216,false)) (d:=((X (nxt n i) - X i) * 16777216,false)) ⟨rfl,by dsimp only; omega,by dsimp only; omega⟩ rfl (by dsimp only; omega) (by dsimp only; omega) t (by omega) (by omega),
  bt_go (x:=(Y i * 16777216,false)) (d:=((Y (nxt n i) - Y i) * 16777216,false)) ⟨rfl,by dsimp only; omega,by dsimp only; omega⟩ rfl (by dsimp only; omega) (by dsimp only; omega) t (by omega) (by omega)⟩
theorem bx_sml {n:Nat} {X Y:Nat → Int} (hn:0 < n) (hs:sml n X Y) {v:V2} (h:bx (mnS X n * 16777216) (mnS Y n * 16777216) (mxS X n * 16777216) (mxS Y n * 16777216) v):gd v.1 201326592000 ∧ gd v.2 201326592000:=by
 obtain ⟨j1,g1,e1⟩:=mnS_at (Z:=X) hn
 obtain ⟨j2,g2,e2⟩:=mnS_at (Z:=Y) hn
 obtain ⟨j3,g3,e3⟩:=mxS_at (Z:=X) hn
 obtain ⟨j4,g4,e4⟩:=mxS_at (Z:=Y) hn
 have b1:=hs j1 g1
 have b2:=hs j2 g2
 have b3:=hs j3 g3
 have b4:=hs j4 g4
 exact ⟨bt_gd h.1 (by omega) (by omega),bt_gd h.2 (by omega) (by omega)⟩
theorem rd_tok {n:Nat} {X Y:Nat → Int} {x y r:Int} (hc:convexS n X Y = true) (hs:sml n X Y) (hw:wid n X Y) (hx:-12000 ≤ x ∧ x ≤ 12000) (hy:-12000 ≤ y ∧ y ≤ 12000) (hr:0 ≤ r ∧ r ≤ 12000) :
  tok (mnS X n) (mnS Y n) (mxS X n) (mxS Y n) (rdS n X Y x y r):=by
 have h3:=(convexS_iff.1 hc).1
 have hi:leI (rdL n X Y x y) (n - 1) < n:=by
  have:=leI_lt (h:=rdL n X Y x y) (n - 1)
  omega
 unfold rdS
 generalize leI (rdL n X Y x y) (n - 1) = i at *
 have hP:=rdP_in hc hs hw hx hy hi
 obtain ⟨p1,p2⟩:=bx_sml (by omega) hs hP
 have hM:gd (rdM n X Y x y i).1 402653184000 ∧ gd (rdM n X Y x y i).2 402653184000:=by
  unfold rdM
  rw [loc_in (by omega) (by omega)]
  exact ⟨gd_le (gd_sub (A:=201326592000) ⟨rfl,by dsimp only; omega⟩ p1 (by omega) (by omega) (by omega)) (by omega),gd_le (gd_sub (A:=201326592000) ⟨rfl,by dsimp only; omega⟩ p2 (by omega) (by omega) (by omega)) (by omega)⟩
 have hV:uv (rdV n X Y x y i):=by
  unfold rdV
  split
  ·exact edN_un hc hw hi
  ·rename_i h
   refine uv_un hM.1 hM.2 (by omega) (by omega) ?_
   cases hv:(vUnit (rdM n X Y x y i)).1 with
   | true => rfl
   | false => exact absurd (.inr hv) h
 refine tok_one hV ?_ hP
 obtain ⟨q,hq,q0,q1,q2,q3,q4,q5⟩:=len_in hM.1 hM.2 (by omega) (by omega)
 unfold rdL
 rw [hq,rat_in (by omega)]
 obtain ⟨z1,z2,z3,_⟩:=pos_in (gd_sub (a:=(r * 16777216,false)) (b:=(q,false)) (A:=201326592000) (B:=805306368000) ⟨rfl,by dsimp only; omega⟩ ⟨rfl,by dsimp only; omega⟩ (by omega) (by omega) (by omega)) (by omega) (by omega)
 exact ⟨z1,z2,by omega⟩
theorem fl_tok {n:Nat} {X Y:Nat → Int} {m:Nat} {Z T:Nat → Int} (hc:convexS n X Y = true) (hs:sml n X Y) (hw:wid n X Y) (gc:convexS m Z T = true) (gs:sml m Z T) {i:Nat} (hi:i < n) :
  tok (mnS Z m) (mnS T m) (mxS Z m) (mxS T m) (flS n X Y m Z T i):=by
 have h3:=(convexS_iff.1 gc).1
 have hu:=edN_un hc hw hi
 have ht:=flT_un hc hs hw hi
 have s1:=hs i hi
 have s2:=hs _ (nxt_lt hi)
 obtain ⟨j1,g1,e1⟩:=mnS_at (Z:=Z) (show 0 < m by omega)
 obtain ⟨j2,g2,e2⟩:=mnS_at (Z:=T) (show 0 < m by omega)
 obtain ⟨j3,g3,e3⟩:=mxS_at (Z:=Z) (show 0 < m by omega)
 obtain ⟨j4,g4,e4⟩:=mxS_at (Z:=T) (show 0 < m by omega)
 have b1:=gs j1 g1
 have b2:=gs j2 g2
 have b3:=gs j3 g3
 have b4:=gs j4 g4
 have hf:∀ j,j < m → bx ((mnS Z m - X i) * 16777216) ((mnS T m - Y i) * 16777216) ((mxS Z m - X i) * 16777216) ((mxS T m - Y i) * 16777216) (fx0 X Y Z T i j):=fun j hj => by
  have a:=gs j hj
  have m1:=mnS_le' (Z:=Z) hj
  have m2:=mnS_le' (Z:=T) hj
  have m3:=mxS_ge' (Z:=Z) hj
  have m4:=mxS_ge' (Z:=T) hj
  unfold fx0
  rw [mn_in s1.1 a.1,mn_in s1.2 a.2,loc_in (by omega) (by omega)]
  exact ⟨⟨rfl,by dsimp only; omega,by dsimp only; omega⟩,rfl,by dsimp only; omega,by dsimp only; omega⟩
 have hJ:flJ n X Y m Z T i < m:=by
  have:=leI_lt (h:=agK m Z T (edN n X Y i)) (m - 1)
  unfold flJ
  omega
 have hW:flW n X Y m Z T i < m:=by
  have:=leI_lt (h:=edH n X Y Z T i) (m - 1)
  unfold flW
  omega
 have hE:gd (flE n X Y i) 1125899906842624:=by
  unfold flE
  rw [mn_in s1.1 s2.1,mn_in s1.2 s2.2,loc_in (by omega) (by omega)]
  obtain ⟨q,hq,q0,q1,q2,q3,q4,q5⟩:=@len_in (((X (nxt n i) - X i) * 16777216,false),((Y (nxt n i) - Y i) * 16777216,false)) 402653184000 ⟨rfl,by dsimp only; omega⟩ ⟨rfl,by dsimp only; omega⟩ (by omega) (by omega)
  rw [hq]
  exact ⟨rfl,by dsimp only; omega⟩
 have ab:=fl_bx ht (hf _ hJ) (hf _ (nxt_lt hJ)) hE (by omega) (by omega) (by omega) (by omega)
 unfold flS
 have hA:bx ((mnS Z m - X i) * 16777216) ((mnS T m - Y i) * 16777216) ((mxS Z m - X i) * 16777216) ((mxS T m - Y i) * 16777216) (flA n X Y m Z T i (flJ n X Y m Z T i)):=ab.1
 have hB:bx ((mnS Z m - X i) * 16777216) ((mnS T m - Y i) * 16777216) ((mxS Z m - X i) * 16777216) ((mxS T m - Y i) * 16777216) (flB n X Y m Z T i (flJ n X Y m Z T i)):=ab.2
 generalize flA n X Y m Z T i (flJ n X Y m Z T i) = a at *
 generalize flB n X Y m Z T i (flJ n X Y m Z T i) = b at *
 have hadd:∀ v,bx ((mnS Z m - X i) * 16777216) ((mnS T m - Y i) * 16777216) ((mxS Z m - X i) * 16777216) ((mxS T m - Y i) * 16777216) v → bx (mnS Z m * 16777216) (mnS T m * 16777216) (mxS Z m * 16777216) (mxS T m * 16777216) (vAdd (vLoc (X i) (Y i)) v):=fun v hv => by
  have key:∀ (z lo hi:Int) (w:Nb),(-12000 ≤ z ∧ z ≤ 12000) → -12000 ≤ lo → hi ≤ 12000 → bt ((lo - z) * 16777216) ((hi - z) * 16777216) w → bt (lo * 16777216) (hi * 16777216) (nAdd (z * 16777216,false) w):=fun z lo hi w hz hl hh hw => by
   obtain ⟨w1,w2,w3⟩:=hw
   unfold nAdd
   dsimp only
   rw [whV_of (v:=z * 16777216) (by unfold rg; omega),whV_of (v:=w.1) (by unfold rg; omega),whF_of (v:=z * 16777216) (by unfold rg; omega),whF_of (v:=w.1) (by unfold rg; omega),ftV_of (by unfold rg; omega),ftF_of (by unfold rg; omega),w1]
   exact ⟨rfl,by dsimp only; omega,by dsimp only; omega⟩
  rw [loc_in (by omega) (by omega)]
  exact ⟨key _ _ _ _ s1.1 (by omega) (by omega) hv.1,key _ _ _ _ s1.2 (by omega) (by omega) hv.2⟩
 have hdot:∀ v,bx ((mnS Z m - X i) * 16777216) ((mnS T m - Y i) * 16777216) ((mxS Z m - X i) * 16777216) ((mxS T m - Y i) * 16777216) v → gd (vDot (edN n X Y i) v) 805306368000:=fun v hv =>
  gd_le (uv_dot (B:=402653184000) hu (bt_gd hv.1 (by omega) (by omega)) (bt_gd hv.2 (by omega) (by omega)) (by omega) (by omega)) (by omega)
 have hneg:∀ k:Nb,gd k 805306368000 → k.1 ≤ 0 → (nNeg k).2 = false ∧ 0 ≤ (nNeg k).1 ∧ (nNeg k).1 ≤ 1125899906842624:=fun k hk h0 => by
  obtain ⟨w1,w2⟩:=gd_wh hk (by omega)
  have:=hk.2
  unfold nNeg
  rw [w1,w2]
  exact ⟨rfl,by dsimp only; omega,by dsimp only; omega⟩
 unfold flK
 by_cases hk:(vDot (edN n X Y i) a).1 ≤ 0 ∨ (vDot (edN n X Y i) b).1 ≤ 0
 ·rw [if_pos hk]
  unfold flM
  by_cases ha:(vDot (edN n X Y i) a).1 ≤ 0
  ·rw [if_pos ha]
   by_cases hb:(vDot (edN n X Y i) b).1 ≤ 0
   ·rw [if_pos hb]
    refine ⟨⟨by show 1 ≤ 2; omega,Nat.le_refl 2⟩,hu,fun j hj => ?_⟩
    by_cases hj0:j = 0
    ·subst hj0
     exact ⟨hneg _ (hdot a hA) ha,hadd a hA⟩
    ·dsimp only
     rw [if_neg hj0,if_neg hj0]
     exact ⟨hneg _ (hdot b hB) hb,hadd b hB⟩
   ·rw [if_neg hb]
    exact tok_one hu (hneg _ (hdot a hA) ha) (hadd a hA)
  ·rw [if_neg ha]
   exact tok_one hu (hneg _ (hdot b hB) (by omega)) (hadd b hB)
 ·rw [if_neg hk]
  have z:=gs _ hW
  refine tok_one hu (neg_pos_in (hgt_gd hc hs hw z.1 z.2 hi) (by omega) (by omega)) ?_
  have m1:=mnS_le' (Z:=Z) hW
  have m2:=mnS_le' (Z:=T) hW
  have m3:=mxS_ge' (Z:=Z) hW
  have m4:=mxS_ge' (Z:=T) hW
  rw [loc_in (by omega) (by omega)]
  exact ⟨⟨rfl,by dsimp only; omega,by dsimp only; omega⟩,rfl,by dsimp only; omega,by dsimp only; omega⟩
theorem trn_tok {a b c d:Int} {M:Mf} (h:tok a b c d M):tok a b c d (trnS M):=by
 refine ⟨h.1,?_,h.2.2⟩
 obtain ⟨h1,h2,h3,h4,h5,h6⟩:=h.2.1
 have e:∀ x:Nb,x.2 = false → (-4294967296 ≤ x.1 ∧ x.1 ≤ 4294967296) → nMul x (nInt (-1)) = (-x.1,false):=fun x hx hb => by
  rw [int_in (by omega)]
  unfold nMul
  dsimp only
  have e2:(x.1 * (-4294967296)).tdiv 4294967296 = -x.1:=by
   rw [show x.1 * (-4294967296) = -x.1 * 4294967296 by omega]
   exact Int.mul_tdiv_cancel _ (by decide)
  rw [whV_of (v:=x.1) (by unfold rg; omega),whF_of (v:=x.1) (by unfold rg; omega),show whV (-1 * 4294967296) = -4294967296 from rfl,show whF (-1 * 4294967296) false = false from rfl,e2,ftV_of (by unfold rg; omega),ftF_of (by unfold rg; omega),hx]
  rfl
 show uv (vScale M.nv (nInt (-1)))
 unfold vScale
 rw [e _ h1 h5,e _ h2 h6]
 refine ⟨rfl,rfl,?_,?_,by dsimp only; omega,by dsimp only; omega⟩
 ·dsimp only; rw [Int.neg_mul_neg,Int.neg_mul_neg]; exact h3
 ·dsimp only; rw [Int.neg_mul_neg,Int.neg_mul_neg]; exact h4
def nearF (k x y r:Int) (n:Nat) (X Y:Nat → Int):Prop:=(-12000 ≤ x ∧ x ≤ 12000) ∧ (-12000 ≤ y ∧ y ≤ 12000) ∧ r ≤ 12000 ∧ sml n X Y ∧ wid n X Y
theorem boxD {k x y r:Int} {n:Nat} {X Y:Nat → Int} (hc:checkS k x y r n X Y = 0) (hk:k = 1):boxS k x y r n X Y 0 = x - r ∧ boxS k x y r n X Y 1 = y - r ∧ boxS k x y r n X Y 2 = x + r ∧ boxS k x y r n X Y 3 = y + r:=
 ⟨boxS_disc (q:=0) hc hk,boxS_disc (q:=1) hc hk,boxS_disc (q:=2) hc hk,boxS_disc (q:=3) hc hk⟩
theorem boxP {k x y r:Int} {n:Nat} {X Y:Nat → Int} (hc:checkS k x y r n X Y = 0) (hk:k ≠ 1):boxS k x y r n X Y 0 = mnS X n ∧ boxS k x y r n X Y 1 = mnS Y n ∧ boxS k x y r n X Y 2 = mxS X n ∧ boxS k x y r n X Y 3 = mxS Y n:=
 ⟨boxS_poly (q:=0) hc hk,boxS_poly (q:=1) hc hk,boxS_poly (q:=2) hc hk,boxS_poly (q:=3) hc hk⟩
theorem clip_tok {k x y r:Int} {n:Nat} {X Y:Nat → Int} {k' x' y' r':Int} {m:Nat} {Z T:Nat → Int} (hA:checkS k x y r n X Y = 0) (hB:checkS k' x' y' r' m Z T = 0) (hap:apS k x y r n X Y k' x' y' r' m Z T = false) (nA:nearF k x y r n X Y) (nB:nearF k' x' y' r' m Z T) :
  tok (min (boxS k x y r n X Y 0) (boxS k' x' y' r' m Z T 0)) (min (boxS k x y r n X Y 1) (boxS k' x' y' r' m Z T 1)) (max (boxS k x y r n X Y 2) (boxS k' x' y' r' m Z T 2)) (max (boxS k x y r n X Y 3) (boxS k' x' y' r' m Z T 3)) (clipS k x y r n X Y k' x' y' r' m Z T):=by
 have cA:=check_1 hA
 have cB:=check_1 hB
 obtain ⟨a1,a2,a3,a4,a5⟩:=nA
 obtain ⟨b1,b2,b3,b4,b5⟩:=nB
 unfold clipS
 rw [if_pos ⟨hA,hB,hap⟩]
 by_cases hk:k = 1
 ·obtain ⟨r1,_,_,_⟩:=cA.2.2.2.1 hk
  rw [if_pos hk,(boxD hA hk).1,(boxD hA hk).2.1,(boxD hA hk).2.2.1,(boxD hA hk).2.2.2]
  by_cases hk':k' = 1
  ·obtain ⟨r3,_,_,_⟩:=cB.2.2.2.1 hk'
   rw [if_pos hk',(boxD hB hk').1,(boxD hB hk').2.1,(boxD hB hk').2.2.1,(boxD hB hk').2.2.2]
   exact two_tok a1 a2 b1 b2 (by omega) (by omega)
  ·have gc:=(cB.2.2.2.2 hk').2.2
   rw [if_neg hk',(boxP hB hk').1,(boxP hB hk').2.1,(boxP hB hk').2.2.1,(boxP hB hk').2.2.2]
   refine trn_tok ?_
   unfold pdS
   split
   ·exact tok_le (deep_tok (r:=r) gc b4 b5 a1 a2 (by omega)) (Int.min_le_left ..) (Int.min_le_left ..) (Int.le_max_left ..) (Int.le_max_left ..)
   ·exact tok_le (rd_tok (r:=r) gc b4 b5 a1 a2 (by omega)) (Int.min_le_right ..) (Int.min_le_right ..) (Int.le_max_right ..) (Int.le_max_right ..)
 ·have hc:=(cA.2.2.2.2 hk).2.2
  rw [if_neg hk,(boxP hA hk).1,(boxP hA hk).2.1,(boxP hA hk).2.2.1,(boxP hA hk).2.2.2]
  by_cases hk':k' = 1
  ·obtain ⟨r3,_,_,_⟩:=cB.2.2.2.1 hk'
   rw [if_pos hk',(boxD hB hk').1,(boxD hB hk').2.1,(boxD hB hk').2.2.1,(boxD hB hk').2.2.2]
   unfold pdS
   split
   ·exact tok_le (deep_tok (r:=r') hc a4 a5 b1 b2 (by omega)) (Int.min_le_right ..) (Int.min_le_right ..) (Int.le_max_right ..) (Int.le_max_right ..)
   ·exact tok_le (rd_tok (r:=r') hc a4 a5 b1 b2 (by omega)) (Int.min_le_left ..) (Int.min_le_left ..) (Int.le_max_left ..) (Int.le_max_left ..)
  ·have gc:=(cB.2.2.2.2 hk').2.2
   have h3:=(convexS_iff.1 hc).1
   have g3:=(convexS_iff.1 gc).1
   rw [if_neg hk',(boxP hB hk').1,(boxP hB hk').2.1,(boxP hB hk').2.2.1,(boxP hB hk').2.2.2]
   have eX:axS k x y r n X Y k' x' y' r' m Z T = axSt n (gP n X Y m Z T) m (gP m Z T n X Y) 2:=by
    unfold axS
    rw [if_pos ⟨hA,hB⟩,if_neg hk,if_neg hk']
   have hi:=axSt_ix2 (n:=n) (m:=m) (G:=gP n X Y m Z T) (G':=gP m Z T n X Y) (by omega)
   rw [← eX] at hi
   split
   ·exact tok_le (fl_tok hc a4 a5 gc b4 (by omega)) (Int.min_le_right ..) (Int.min_le_right ..) (Int.le_max_right ..) (Int.le_max_right ..)
   ·exact trn_tok (tok_le (fl_tok gc b4 b5 hc a4 (by omega)) (Int.min_le_left ..) (Int.min_le_left ..) (Int.le_max_left ..) (Int.le_max_left ..))
end Go.Ax
end
section
/-
  Sine and cosine ars they are computed: their squares sum up to one, but for 2^-19. Plain arithmetic.
-/
namespace Go.Ax
def pev:List Int → Int → Int
 | [],_ => 0
 | c :: cs,y => c + y * pev cs y
def padd:List Int → List Int → List Int
 | [],q => q
 | a :: p,[] => a :: p
 | a :: p,b :: q => (a + b) :: padd p q
def psm (k:Int):List Int → List Int
 | [] => []
 | a :: p => k * a :: psm k p
def pmul:List Int → List Int → List Int
 | [],_ => []
 | a :: p,q => padd (psm a q) (0 :: pmul p q)
def pcomp:List Int → List Int → List Int
 | [],_ => []
 | a :: p,q => padd [a] (pmul q (pcomp p q))
def pabs:List Int → Int → Int
 | [],_ => 0
 | c :: cs,B => (if c < 0 then -c else c) + B * pabs cs B
theorem pev_add (y:Int):∀ p q:List Int,pev (padd p q) y = pev p y + pev q y
 | [],q => by simp [padd,pev]
 | a :: p,[] => by simp [padd,pev]
 | a :: p,b :: q => by simp only [padd,pev,pev_add y p q]; grind
theorem pev_sm (k y:Int):∀ p:List Int,pev (psm k p) y = k * pev p y
 | [] => by simp [psm,pev]
 | a :: p => by simp only [psm,pev,pev_sm k y p]; grind
theorem pev_mul (y:Int):∀ p q:List Int,pev (pmul p q) y = pev p y * pev q y
 | [],q => by simp [pmul,pev]
 | a :: p,q => by simp only [pmul,pev,pev_add,pev_sm,pev_mul y p q]; grind
theorem pev_comp (y:Int) (q:List Int):∀ p:List Int,pev (pcomp p q) y = pev p (pev q y)
 | [] => by simp [pcomp,pev]
 | a :: p => by simp only [pcomp,pev,pev_add,pev_mul,pev_comp y q p]; grind
theorem pev_bd {y B:Int} (h0:0 ≤ y) (h1:y ≤ B):∀ cs:List Int,0 ≤ pabs cs B ∧ -(pabs cs B) ≤ pev cs y ∧ pev cs y ≤ pabs cs B
 | [] => by simp [pabs,pev]
 | c :: cs => by
  obtain ⟨k0,k1,k2⟩:=pev_bd h0 h1 cs
  have m1:y * pev cs y ≤ y * pabs cs B:=Int.mul_le_mul_of_nonneg_left k2 h0
  have m2:y * -(pabs cs B) ≤ y * pev cs y:=Int.mul_le_mul_of_nonneg_left k1 h0
  have m3:y * pabs cs B ≤ B * pabs cs B:=Int.mul_le_mul_of_nonneg_right h1 k0
  have m4:0 ≤ y * pabs cs B:=Int.mul_nonneg h0 k0
  rw [Int.mul_neg] at m2
  simp only [pabs,pev]
  split <;> refine ⟨?_,?_,?_⟩ <;> omega
def serT:List Int:=[0,4768988719006436111262234168778648423474656980035636955663595829178822894077063921902894844467270927543474141934655026171951583604355055887615953102486438762529161216000,0,(-43087899414213674021824125643264255072305462219207007284242456456798725817691141891220050084051744617156383553793407931128471747317646658681962496000),0,116789985381818398160573898299231102288065772677584217151319844983904676864291965346766500211691480339536943806187305008155852800,0,(-150742804613711681364039825115385279235570281032314673924162220557576589258871909346252821120275293038182400),0,113496997394961198577319469229027706569291890953579835547744303126809085079968756531200,0,(-55933495975544804015926845529165017287291580706094561614752645120),0,19436928798524005033027957576502600238366720,0,(-5017514388048998039552),0,1]
def serN:Int:=4768988719006436111262234168778648423474656980035636955663595829178822894077063921902894844467270927543474141934655026171951583604355055887615953102486438762529161216000
def serG (q:Int):List Int:=padd (padd (pmul serT serT) (pmul (pcomp serT [q,-1]) (pcomp serT [q,-1]))) [-(serN * 4294967296 * (serN * 4294967296))]
theorem serG_small:pabs (serG 6746518852) 6746518852 * 1048576 ≤ serN * 4294967296 * (serN * 4294967296):=by decide +kernel
theorem serG_small':pabs (serG 6746518851) 6746518851 * 1048576 ≤ serN * 4294967296 * (serN * 4294967296):=by decide +kernel
theorem pev_G {q y:Int}:pev (serG q) y = pev serT y * pev serT y + pev serT (q - y) * pev serT (q - y) - serN * 4294967296 * (serN * 4294967296):=by
 unfold serG
 simp only [pev_add,pev_mul,pev_comp,pev]
 have e:q + y * (-1 + y * 0) = q - y:=by grind
 rw [e]
 generalize pev serT y = a
 generalize pev serT (q - y) = b
 generalize serN = n
 grind
theorem ser_circle {q y:Int} (hq:q = 6746518852 ∨ q = 6746518851) (h0:0 ≤ y) (h1:y ≤ q) :
  -(serN * 4294967296 * (serN * 4294967296)) ≤ 1048576 * (pev serT y * pev serT y + pev serT (q - y) * pev serT (q - y) - serN * 4294967296 * (serN * 4294967296)) ∧
  1048576 * (pev serT y * pev serT y + pev serT (q - y) * pev serT (q - y) - serN * 4294967296 * (serN * 4294967296)) ≤ serN * 4294967296 * (serN * 4294967296):=by
 rw [← pev_G]
 obtain ⟨k0,k1,k2⟩:=pev_bd h0 h1 (serG q)
 have hs:pabs (serG q) q * 1048576 ≤ serN * 4294967296 * (serN * 4294967296):=by
  rcases hq with rfl | rfl
  ·exact serG_small
  ·exact serG_small'
 generalize serN * 4294967296 * (serN * 4294967296) = M at *
 omega
theorem td_err {x k:Int} (hk:0 < k):-k < x - x.tdiv k * k ∧ x - x.tdiv k * k < k:=by
 rcases Int.le_total 0 x with h | h
 ·rw [Int.tdiv_eq_ediv_of_nonneg h]
  have h1:=Int.emod_nonneg x (by omega:k ≠ 0)
  have h2:=Int.emod_lt_of_pos x hk
  have h3:=Int.emod_add_mul_ediv x k
  rw [Int.mul_comm k] at h3
  omega
 ·have e:x.tdiv k = -((-x).tdiv k):=by rw [Int.neg_tdiv,Int.neg_neg]
  rw [e,Int.tdiv_eq_ediv_of_nonneg (by omega)]
  have h1:=Int.emod_nonneg (-x) (by omega:k ≠ 0)
  have h2:=Int.emod_lt_of_pos (-x) hk
  have h3:=Int.emod_add_mul_ediv (-x) k
  rw [Int.mul_comm k] at h3
  rw [Int.neg_mul]
  omega
theorem ab_mul {a b A B:Int} (ha:-A ≤ a ∧ a ≤ A) (hb:-B ≤ b ∧ b ≤ B):-(A * B) ≤ a * b ∧ a * b ≤ A * B:=by
 have hA:0 ≤ A:=by omega
 have hB:0 ≤ B:=by omega
 rcases Int.le_total 0 a with h | h
 ·have k1:a * b ≤ a * B:=Int.mul_le_mul_of_nonneg_left hb.2 h
  have k2:a * -B ≤ a * b:=Int.mul_le_mul_of_nonneg_left hb.1 h
  have k3:a * B ≤ A * B:=Int.mul_le_mul_of_nonneg_right ha.2 hB
  rw [Int.mul_neg] at k2
  omega
 ·have k1:-a * b ≤ -a * B:=Int.mul_le_mul_of_nonneg_left hb.2 (by omega)
  have k2:-a * -B ≤ -a * b:=Int.mul_le_mul_of_nonneg_left hb.1 (by omega)
  have k3:-a * B ≤ A * B:=Int.mul_le_mul_of_nonneg_right (by omega) hB
  simp only [Int.mul_neg,Int.neg_mul] at k1 k2 k3
  omega
def facM (k:Nat):Int:=2 * ((k:Int) + 1) * (2 * ((k:Int) + 1) + 1)
def tq (y:Int):Nat → Int
 | 0 => y
 | k + 1 => -((((tq y k * y).tdiv 4294967296 * y).tdiv 4294967296 * 4294967296).tdiv (facM k * 4294967296))
def sq (y:Int):Nat → Int
 | 0 => y
 | k + 1 => sq y k + tq y (k + 1)
def mq:Nat → Int
 | 0 => 1
 | k + 1 => mq k * (facM k * (4294967296 * 4294967296))
def xq (y:Int):Nat → Int
 | 0 => y
 | k + 1 => -(xq y k * (y * y))
theorem tq_neg (y:Int):∀ k,tq (-y) k = -tq y k
 | 0 => rfl
 | k + 1 => by
  simp only [tq,tq_neg y k,Int.mul_neg,Int.neg_tdiv,Int.neg_mul,Int.neg_neg]
theorem sq_neg (y:Int):∀ k,sq (-y) k = -sq y k
 | 0 => rfl
 | k + 1 => by simp only [sq,sq_neg y k,tq_neg]; omega
theorem ser_step {t y m:Int} (ht:-6746518852 ≤ t ∧ t ≤ 6746518852) (hy:-6746518852 ≤ y ∧ y ≤ 6746518852) (hm:6 ≤ m) :
  (-13493037704 ≤ (t * y).tdiv 4294967296 ∧ (t * y).tdiv 4294967296 ≤ 13493037704) ∧
  (-26986075408 ≤ ((t * y).tdiv 4294967296 * y).tdiv 4294967296 ∧ ((t * y).tdiv 4294967296 * y).tdiv 4294967296 ≤ 26986075408) ∧
  (-6746518852 ≤ -((((t * y).tdiv 4294967296 * y).tdiv 4294967296 * 4294967296).tdiv (m * 4294967296)) ∧ -((((t * y).tdiv 4294967296 * y).tdiv 4294967296 * 4294967296).tdiv (m * 4294967296)) ≤ 6746518852) ∧
  (-(3 + m) * 18446744073709551616 ≤ -((((t * y).tdiv 4294967296 * y).tdiv 4294967296 * 4294967296).tdiv (m * 4294967296)) * (m * 18446744073709551616) + t * (y * y) ∧
   -((((t * y).tdiv 4294967296 * y).tdiv 4294967296 * 4294967296).tdiv (m * 4294967296)) * (m * 18446744073709551616) + t * (y * y) ≤ (3 + m) * 18446744073709551616):=by
 have e3:=td_err (x:=t * y) (k:=4294967296) (by decide)
 have m3:=ab_mul ht hy
 generalize hA:(t * y).tdiv 4294967296 = a at *
 have ba:-13493037704 ≤ a ∧ a ≤ 13493037704:=by omega
 have e2:=td_err (x:=a * y) (k:=4294967296) (by decide)
 have m2:=ab_mul ba hy
 generalize hB:(a * y).tdiv 4294967296 = b at *
 have bb:-26986075408 ≤ b ∧ b ≤ 26986075408:=by omega
 have hm':0 < m * 4294967296:=by omega
 have e1:=td_err (x:=b * 4294967296) (k:=m * 4294967296) hm'
 generalize hC:(b * 4294967296).tdiv (m * 4294967296) = c at *
 have e1':c * (m * 4294967296) = (c * m) * 4294967296:=by grind
 rw [e1'] at e1
 have e0:-m < b - c * m ∧ b - c * m < m:=by omega
 have bc:-6746518852 ≤ c ∧ c ≤ 6746518852:=by
  constructor
  ·refine Int.not_lt.1 fun h => ?_
   have:c * m ≤ (-6746518853) * m:=Int.mul_le_mul_of_nonneg_right (by omega) (by omega)
   omega
  ·refine Int.not_lt.1 fun h => ?_
   have:6746518853 * m ≤ c * m:=Int.mul_le_mul_of_nonneg_right (by omega) (by omega)
   omega
 refine ⟨ba,bb,by omega,?_⟩
 have r3:-4294967296 ≤ t * y - a * 4294967296 ∧ t * y - a * 4294967296 ≤ 4294967296:=by omega
 have k3:=ab_mul r3 hy
 have id1:-c * (m * 18446744073709551616) + t * (y * y) = (t * y - a * 4294967296) * y + (a * y - b * 4294967296) * 4294967296 + (b - c * m) * 18446744073709551616:=by grind
 rw [id1]
 omega
theorem facM_ge (k:Nat):6 ≤ facM k:=by
 unfold facM
 have h1:(2:Int) * ((k:Int) + 1) ≥ 2:=by omega
 have h2:(2:Int) * ((k:Int) + 1) + 1 ≥ 3:=by omega
 have:=Int.mul_le_mul h1 h2 (by omega) (by omega)
 omega
theorem facM_ge1 (k:Nat):20 ≤ facM (k + 1):=by
 unfold facM
 have h1:(2:Int) * (((k + 1:Nat):Int) + 1) ≥ 4:=by omega
 have h2:(2:Int) * (((k + 1:Nat):Int) + 1) + 1 ≥ 5:=by omega
 have:=Int.mul_le_mul h1 h2 (by omega) (by omega)
 omega
theorem mq_pos:∀ k,0 < mq k
 | 0 => by decide
 | k + 1 => by
  simp only [mq]
  have:=facM_ge k
  exact Int.mul_pos (mq_pos k) (Int.mul_pos (by omega) (by decide))
theorem tq_le {y:Int} (hy:-6746518852 ≤ y ∧ y ≤ 6746518852):∀ k,-6746518852 ≤ tq y k ∧ tq y k ≤ 6746518852
 | 0 => hy
 | k + 1 => (ser_step (tq_le hy k) hy (facM_ge k)).2.2.1
theorem err_step {t t' y m M X d:Int} (hM:0 < M) (hy:-6746518852 ≤ y ∧ y ≤ 6746518852) (hd:0 ≤ d) (hd2:d ≤ 2) (h:-(d * M) ≤ t * M - X ∧ t * M - X ≤ d * M)
  (he:-(3 + m) * 18446744073709551616 ≤ t' * (m * 18446744073709551616) + t * (y * y) ∧ t' * (m * 18446744073709551616) + t * (y * y) ≤ (3 + m) * 18446744073709551616) (hm:3 * d + 3 ≤ m) :
  -(2 * (M * (m * (4294967296 * 4294967296)))) ≤ t' * (M * (m * (4294967296 * 4294967296))) - -(X * (y * y)) ∧ t' * (M * (m * (4294967296 * 4294967296))) - -(X * (y * y)) ≤ 2 * (M * (m * (4294967296 * 4294967296))):=by
 have hyy:=ab_mul hy hy
 have y0:0 ≤ y * y:=by
  rcases Int.le_total 0 y with h | h
  ·exact Int.mul_nonneg h h
  ·have:=Int.mul_nonneg (show 0 ≤ -y by omega) (show 0 ≤ -y by omega)
   rwa [Int.neg_mul_neg] at this
 have id1:t' * (M * (m * (4294967296 * 4294967296))) - -(X * (y * y)) = M * (t' * (m * 18446744073709551616) + t * (y * y)) - (t * M - X) * (y * y):=by grind
 rw [id1]
 generalize t * M - X = e at *
 generalize t' * (m * 18446744073709551616) + t * (y * y) = f at *
 generalize y * y = q at *
 have k1:=ab_mul (a:=e) (A:=d * M) h (b:=q) (B:=3 * 18446744073709551616) (by omega)
 have k2:M * f ≤ M * ((3 + m) * 18446744073709551616):=Int.mul_le_mul_of_nonneg_left he.2 (by omega)
 have k3:M * (-(3 + m) * 18446744073709551616) ≤ M * f:=Int.mul_le_mul_of_nonneg_left he.1 (by omega)
 have k4:M * (3 * d + 3) ≤ M * m:=Int.mul_le_mul_of_nonneg_left hm (by omega)
 have j1:M * ((3 + m) * 18446744073709551616) = (3 * M + M * m) * 18446744073709551616:=by grind
 have j2:M * (-(3 + m) * 18446744073709551616) = -((3 * M + M * m) * 18446744073709551616):=by grind
 have j3:d * M * (3 * 18446744073709551616) = (3 * (M * d)) * 18446744073709551616:=by grind
 have j4:M * (3 * d + 3) = 3 * (M * d) + 3 * M:=by grind
 have j5:M * (m * (4294967296 * 4294967296)) = (M * m) * 18446744073709551616:=by grind
 rw [j1] at k2
 rw [j2] at k3
 rw [j3] at k1
 rw [j4] at k4
 rw [j5]
 omega
theorem ser_err {y:Int} (hy:-6746518852 ≤ y ∧ y ≤ 6746518852):∀ k,-(2 * mq (k + 1)) ≤ tq y (k + 1) * mq (k + 1) - xq y (k + 1) ∧ tq y (k + 1) * mq (k + 1) - xq y (k + 1) ≤ 2 * mq (k + 1)
 | 0 => by
  have h:=ser_step (t:=tq y 0) hy hy (facM_ge 0)
  exact err_step (d:=0) (t:=tq y 0) (M:=mq 0) (X:=xq y 0) (m:=facM 0) (mq_pos 0) hy (by omega) (by omega) (by simp [tq,mq,xq]) h.2.2.2 (by have:=facM_ge 0; omega)
 | k + 1 => by
  have h:=ser_step (tq_le hy (k + 1)) hy (facM_ge (k + 1))
  exact err_step (d:=2) (t:=tq y (k + 1)) (M:=mq (k + 1)) (X:=xq y (k + 1)) (m:=facM (k + 1)) (mq_pos _) hy (by omega) (by omega) (ser_err hy k) h.2.2.2 (by have:=facM_ge1 k; omega)
theorem mq_1:mq 1 * 43087899414213674021824125643264255072305462219207007284242456456798725817691141891220050084051744617156383553793407931128471747317646658681962496000 = serN:=by decide +kernel
theorem mq_2:mq 2 * 116789985381818398160573898299231102288065772677584217151319844983904676864291965346766500211691480339536943806187305008155852800 = serN:=by decide +kernel
theorem mq_3:mq 3 * 150742804613711681364039825115385279235570281032314673924162220557576589258871909346252821120275293038182400 = serN:=by decide +kernel
theorem mq_4:mq 4 * 113496997394961198577319469229027706569291890953579835547744303126809085079968756531200 = serN:=by decide +kernel
theorem mq_5:mq 5 * 55933495975544804015926845529165017287291580706094561614752645120 = serN:=by decide +kernel
theorem mq_6:mq 6 * 19436928798524005033027957576502600238366720 = serN:=by decide +kernel
theorem mq_7:mq 7 * 5017514388048998039552 = serN:=by decide +kernel
theorem mq_8:mq 8 * 1 = serN:=by decide +kernel
theorem err_R {t M X r N:Int} (hM:0 < M) (hr:0 ≤ r) (e:M * r = N) (h:-(2 * M) ≤ t * M - X ∧ t * M - X ≤ 2 * M):-(2 * N) ≤ t * N - X * r ∧ t * N - X * r ≤ 2 * N:=by
 have k1:=Int.mul_le_mul_of_nonneg_right h.1 hr
 have k2:=Int.mul_le_mul_of_nonneg_right h.2 hr
 subst e
 have j1:-(2 * M) * r = -(2 * (M * r)):=by grind
 have j2:(t * M - X) * r = t * (M * r) - X * r:=by grind
 have j3:2 * M * r = 2 * (M * r):=by grind
 rw [j1,j2] at k1
 rw [j2,j3] at k2
 exact ⟨k1,k2⟩
theorem ser_sum {y:Int} (hy:-6746518852 ≤ y ∧ y ≤ 6746518852):-(16 * serN) ≤ sq y 8 * serN - pev serT y ∧ sq y 8 * serN - pev serT y ≤ 16 * serN:=by
 have e1:-(2 * serN) ≤ tq y 1 * serN - xq y 1 * 43087899414213674021824125643264255072305462219207007284242456456798725817691141891220050084051744617156383553793407931128471747317646658681962496000 ∧ tq y 1 * serN - xq y 1 * 43087899414213674021824125643264255072305462219207007284242456456798725817691141891220050084051744617156383553793407931128471747317646658681962496000 ≤ 2 * serN:=err_R (mq_pos 1) (by decide) mq_1 (ser_err hy 0)
 have e2:-(2 * serN) ≤ tq y 2 * serN - xq y 2 * 116789985381818398160573898299231102288065772677584217151319844983904676864291965346766500211691480339536943806187305008155852800 ∧ tq y 2 * serN - xq y 2 * 116789985381818398160573898299231102288065772677584217151319844983904676864291965346766500211691480339536943806187305008155852800 ≤ 2 * serN:=err_R (mq_pos 2) (by decide) mq_2 (ser_err hy 1)
 have e3:-(2 * serN) ≤ tq y 3 * serN - xq y 3 * 150742804613711681364039825115385279235570281032314673924162220557576589258871909346252821120275293038182400 ∧ tq y 3 * serN - xq y 3 * 150742804613711681364039825115385279235570281032314673924162220557576589258871909346252821120275293038182400 ≤ 2 * serN:=err_R (mq_pos 3) (by decide) mq_3 (ser_err hy 2)
 have e4:-(2 * serN) ≤ tq y 4 * serN - xq y 4 * 113496997394961198577319469229027706569291890953579835547744303126809085079968756531200 ∧ tq y 4 * serN - xq y 4 * 113496997394961198577319469229027706569291890953579835547744303126809085079968756531200 ≤ 2 * serN:=err_R (mq_pos 4) (by decide) mq_4 (ser_err hy 3)
 have e5:-(2 * serN) ≤ tq y 5 * serN - xq y 5 * 55933495975544804015926845529165017287291580706094561614752645120 ∧ tq y 5 * serN - xq y 5 * 55933495975544804015926845529165017287291580706094561614752645120 ≤ 2 * serN:=err_R (mq_pos 5) (by decide) mq_5 (ser_err hy 4)
 have e6:-(2 * serN) ≤ tq y 6 * serN - xq y 6 * 19436928798524005033027957576502600238366720 ∧ tq y 6 * serN - xq y 6 * 19436928798524005033027957576502600238366720 ≤ 2 * serN:=err_R (mq_pos 6) (by decide) mq_6 (ser_err hy 5)
 have e7:-(2 * serN) ≤ tq y 7 * serN - xq y 7 * 5017514388048998039552 ∧ tq y 7 * serN - xq y 7 * 5017514388048998039552 ≤ 2 * serN:=err_R (mq_pos 7) (by decide) mq_7 (ser_err hy 6)
 have e8:-(2 * serN) ≤ tq y 8 * serN - xq y 8 * 1 ∧ tq y 8 * serN - xq y 8 * 1 ≤ 2 * serN:=err_R (mq_pos 8) (by decide) mq_8 (ser_err hy 7)
 have hs:sq y 8 * serN = y * serN + tq y 1 * serN + tq y 2 * serN + tq y 3 * serN + tq y 4 * serN + tq y 5 * serN + tq y 6 * serN + tq y 7 * serN + tq y 8 * serN:=by
  simp only [sq]
  generalize serN = n
  grind
 have hp:pev serT y = y * serN + xq y 1 * 43087899414213674021824125643264255072305462219207007284242456456798725817691141891220050084051744617156383553793407931128471747317646658681962496000 + xq y 2 * 116789985381818398160573898299231102288065772677584217151319844983904676864291965346766500211691480339536943806187305008155852800 + xq y 3 * 150742804613711681364039825115385279235570281032314673924162220557576589258871909346252821120275293038182400 + xq y 4 * 113496997394961198577319469229027706569291890953579835547744303126809085079968756531200 + xq y 5 * 55933495975544804015926845529165017287291580706094561614752645120 + xq y 6 * 19436928798524005033027957576502600238366720 + xq y 7 * 5017514388048998039552 + xq y 8 * 1:=by
  simp only [xq,pev,serT,serN]
  grind
 rw [hs,hp]
 omega
theorem sq_circle0 {q y:Int} (hq:q = 6746518852 ∨ q = 6746518851) (h0:0 ≤ y) (h1:y ≤ q) :
  -35184372088832 ≤ sq y 8 * sq y 8 + sq (q - y) 8 * sq (q - y) 8 - 18446744073709551616 ∧ sq y 8 * sq y 8 + sq (q - y) 8 * sq (q - y) 8 - 18446744073709551616 ≤ 35184372088832:=by
 have hc:=ser_circle hq h0 h1
 have ha:=ser_sum (y:=y) (by omega)
 have hb:=ser_sum (y:=q - y) (by omega)
 generalize sq y 8 = S at *
 generalize sq (q - y) 8 = C at *
 generalize pev serT y = A at *
 generalize pev serT (q - y) = B at *
 have hN:0 < serN:=by decide +kernel
 have hN1:1000000 ≤ serN:=by decide +kernel
 generalize serN = N at *
 have sqA:0 ≤ A * A:=by
  rcases Int.le_total 0 A with h | h
  ·exact Int.mul_nonneg h h
  ·have:=Int.mul_nonneg (show 0 ≤ -A by omega) (show 0 ≤ -A by omega)
   rwa [Int.neg_mul_neg] at this
 have sqB:0 ≤ B * B:=by
  rcases Int.le_total 0 B with h | h
  ·exact Int.mul_nonneg h h
  ·have:=Int.mul_nonneg (show 0 ≤ -B by omega) (show 0 ≤ -B by omega)
   rwa [Int.neg_mul_neg] at this
 have jN:N * 4294967296 * (N * 4294967296) = (N * N) * 18446744073709551616:=by grind
 rw [jN] at hc
 have nn:0 < N * N:=Int.mul_pos hN hN
 have big:∀ X:Int,X * X ≤ (N * N) * 18446744073709551616 * 2 → -(2 * (N * 4294967296)) ≤ X ∧ X ≤ 2 * (N * 4294967296):=fun X hX => by
  have p0:0 < N * 4294967296:=by omega
  constructor
  ·refine Int.not_lt.1 fun h => ?_
   have h1:2 * (N * 4294967296) ≤ -X:=by omega
   have h2:=Int.mul_le_mul h1 h1 (by omega) (by omega)
   have h3:2 * (N * 4294967296) * (2 * (N * 4294967296)) = (N * N) * 18446744073709551616 * 4:=by grind
   have h4:-X * -X = X * X:=by grind
   rw [h3,h4] at h2
   omega
  ·refine Int.not_lt.1 fun h => ?_
   have h1:2 * (N * 4294967296) ≤ X:=by omega
   have h2:=Int.mul_le_mul h1 h1 (by omega) (by omega)
   have h3:2 * (N * 4294967296) * (2 * (N * 4294967296)) = (N * N) * 18446744073709551616 * 4:=by grind
   rw [h3] at h2
   omega
 have bA:=big A (by omega)
 have bB:=big B (by omega)
 have err:∀ X s:Int,-(2 * (N * 4294967296)) ≤ X ∧ X ≤ 2 * (N * 4294967296) → -(16 * N) ≤ s * N - X ∧ s * N - X ≤ 16 * N → -((N * N) * 300000000000) ≤ (s * s) * (N * N) - X * X ∧ (s * s) * (N * N) - X * X ≤ (N * N) * 300000000000:=fun X s hX hs => by
  have id1:(s * s) * (N * N) - X * X = (s * N - X) * (s * N - X) + 2 * ((s * N - X) * X):=by grind
  rw [id1]
  have k1:=ab_mul hs hs
  have k2:=ab_mul hs hX
  have j1:16 * N * (16 * N) = (N * N) * 256:=by grind
  have j2:16 * N * (2 * (N * 4294967296)) = (N * N) * 137438953472:=by grind
  rw [j1] at k1
  rw [j2] at k2
  omega
 have eA:=err A S bA ha
 have eB:=err B C bB hb
 have fin:∀ z:Int,z * (N * N) ≤ (N * N) * 18000000000000 → z ≤ 18000000000000:=fun z hz => Int.not_lt.1 fun h => by
  have:=Int.mul_lt_mul_of_pos_left h nn
  rw [Int.mul_comm] at this
  have e:N * N * z = z * (N * N):=Int.mul_comm _ _
  omega
 have u1:(S * S + C * C - 18446744073709551616) * (N * N) ≤ (N * N) * 18000000000000 + (N * N) * 600000000000:=by
  have e:(S * S + C * C - 18446744073709551616) * (N * N) = S * S * (N * N) + C * C * (N * N) - (N * N) * 18446744073709551616:=by grind
  rw [e]; omega
 have u2:-((N * N) * 18000000000000 + (N * N) * 600000000000) ≤ (S * S + C * C - 18446744073709551616) * (N * N):=by
  have e:(S * S + C * C - 18446744073709551616) * (N * N) = S * S * (N * N) + C * C * (N * N) - (N * N) * 18446744073709551616:=by grind
  rw [e]; omega
 have fin2:∀ z:Int,z * (N * N) ≤ (N * N) * 35184372088832 → z ≤ 35184372088832:=fun z hz => Int.not_lt.1 fun h => by
  have h2:=Int.mul_lt_mul_of_pos_left h nn
  have e:N * N * z = z * (N * N):=Int.mul_comm _ _
  omega
 constructor
 ·have:=fin2 (-(S * S + C * C - 18446744073709551616)) (by rw [Int.neg_mul]; omega)
  omega
 ·exact fin2 _ (by omega)
theorem sq_circle {y z:Int} (hy:-6746518852 ≤ y ∧ y ≤ 6746518852) {q:Int} (hq:q = 6746518852 ∨ q = 6746518851) (h1:(if y < 0 then -y else y) ≤ q) (hz:(if z < 0 then -z else z) = q - (if y < 0 then -y else y)) :
  -35184372088832 ≤ sq y 8 * sq y 8 + sq z 8 * sq z 8 - 18446744073709551616 ∧ sq y 8 * sq y 8 + sq z 8 * sq z 8 - 18446744073709551616 ≤ 35184372088832:=by
 have h:=sq_circle0 (y:=if y < 0 then -y else y) hq (by split <;> omega) h1
 rw [← hz] at h
 have e:∀ x:Int,sq (if x < 0 then -x else x) 8 * sq (if x < 0 then -x else x) 8 = sq x 8 * sq x 8:=fun x => by
  split
  ·rw [sq_neg,Int.neg_mul_neg]
  ·rfl
 rw [e,e] at h
 exact h
end Go.Ax
end
section
/-
  The sine's series, ars plain numbers.
-/
set_option maxHeartbeats 4000000
set_option maxRecDepth 100000
namespace Go.Ax
open Go.Proofs
theorem whF_in {x:Int} (h:-1000000000000000000 ≤ x):whF x false = false:=by
 unfold whF
 simp
 omega
theorem whV_in {x:Int} (h:-1000000000000000000 ≤ x) (h2:x ≤ 1000000000000000000):whV x = x:=by
 unfold whV
 split <;> omega
theorem ftV_in {x:Int} (h:-1000000000000000000 ≤ x) (h2:x ≤ 1000000000000000000):ftV x = x:=by
 unfold ftV
 (repeat' split) <;> omega
theorem ftF_in {x:Int} (h:-1000000000000000000 ≤ x) (h2:x ≤ 1000000000000000000):ftF x = false:=by
 unfold ftF
 simp
 omega
theorem td_le {x A:Int} (h:-(A * 4294967296) ≤ x ∧ x ≤ A * 4294967296):-A ≤ x.tdiv 4294967296 ∧ x.tdiv 4294967296 ≤ A:=by
 have e:=@td_err x 4294967296 (by omega)
 omega
theorem nMul_in {t y:Int} (ht:-100000000000 ≤ t ∧ t ≤ 100000000000) (hy:-6746518852 ≤ y ∧ y ≤ 6746518852):nMul (t,false) (y,false) = ((t * y).tdiv 4294967296,false) ∧ (-200000000000 ≤ (t * y).tdiv 4294967296 ∧ (t * y).tdiv 4294967296 ≤ 200000000000):=by
 have h:=ab_mul ht hy
 have h2:=@td_le (t * y) 200000000000 (by omega)
 refine ⟨?_,h2⟩
 unfold nMul
 dsimp only
 rw [whV_in (by omega) (by omega),whV_in (by omega) (by omega),ftV_in (by omega) (by omega),ftF_in (by omega) (by omega),whF_in (by omega),whF_in (by omega)]
 rfl
theorem nInt_in {n:Int} (h:0 ≤ n ∧ n ≤ 1000000):nInt n = (n * 4294967296,false):=by
 unfold nInt
 rw [ftV_in (by omega) (by omega),ftF_in (by omega) (by omega)]
 rfl
theorem facM_le {k:Nat} (h:k < 8):facM k ≤ 1000:=by
 unfold facM
 match k,h with
 | 0,_ | 1,_ | 2,_ | 3,_ | 4,_ | 5,_ | 6,_ | 7,_ => decide
 | k + 8,h => omega
theorem snT_eq {y:Int} (hy:-6746518852 ≤ y ∧ y ≤ 6746518852):∀ k,k ≤ 8 → snT (y,false) k = (tq y k,false)
 | 0,_ => rfl
 | k + 1,hk => by
  have ht:=tq_le hy k
  have g1:=facM_ge k
  have g2:=@facM_le k (by omega)
  obtain ⟨s1,s2,s3,s4⟩:=ser_step (m:=facM k) ht hy g1
  show nNeg (nDiv (nMul (nMul (snT (y,false) k) (y,false)) (y,false)) (nInt (facM k))) = _
  rw [snT_eq hy k (by omega),(nMul_in (by omega) hy).1,(nMul_in (by omega) hy).1,nInt_in (by omega)]
  show nNeg (nDiv _ _) = (-((((tq y k * y).tdiv 4294967296 * y).tdiv 4294967296 * 4294967296).tdiv (facM k * 4294967296)),false)
  generalize ((tq y k * y).tdiv 4294967296 * y).tdiv 4294967296 = u at *
  unfold nDiv raV raF
  dsimp only
  rw [whV_in (by omega) (by omega),whV_in (by omega) (by omega),if_neg (by omega),if_neg (by omega)]
  generalize (u * 4294967296).tdiv (facM k * 4294967296) = v at *
  rw [ftV_in (by omega) (by omega),ftF_in (by omega) (by omega),whF_in (by omega),whF_in (by omega)]
  unfold nNeg
  dsimp only
  rw [whV_in (by omega) (by omega)]
  show (-v,whF v false) = _
  rw [whF_in (by omega)]
theorem sqj_le {y:Int} (hy:-6746518852 ≤ y ∧ y ≤ 6746518852):∀ k:Nat,k ≤ 8 → -((k + 1:Int) * 6746518852) ≤ sq y k ∧ sq y k ≤ (k + 1:Int) * 6746518852
 | 0,_ => by
  show _ ≤ y ∧ y ≤ _
  omega
 | k + 1,hk => by
  have h1:=sqj_le hy k (by omega)
  have h2:=tq_le hy (k + 1)
  show _ ≤ sq y k + tq y (k + 1) ∧ sq y k + tq y (k + 1) ≤ _
  omega
theorem snS_eq {y:Int} (hy:-6746518852 ≤ y ∧ y ≤ 6746518852):∀ k,k ≤ 8 → snS (y,false) k = (sq y k,false)
 | 0,_ => rfl
 | k + 1,hk => by
  have h1:=sqj_le hy k (by omega)
  have h2:=tq_le hy (k + 1)
  show nAdd (snS (y,false) k) (snT (y,false) (k + 1)) = (sq y k + tq y (k + 1),false)
  rw [snS_eq hy k (by omega),snT_eq hy (k + 1) hk]
  unfold nAdd
  dsimp only
  rw [whV_in (by omega) (by omega),whV_in (by omega) (by omega),ftV_in (by omega) (by omega),ftF_in (by omega) (by omega),whF_in (by omega),whF_in (by omega)]
  rfl
end Go.Ax
end