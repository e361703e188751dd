/-
  Solve, by the program.
-/
import Derived.Test.YtempjfjppjfciaaGreatCM8
set_option linter.unusedVariables false
set_option linter.unusedSimpArgs false
section
set_option maxHeartbeats 4000000
set_option maxRecDepth 100000
namespace Go.Ax
open Go.Proofs
def zCt:List AV:=[i64 0,i64 0,i64 0,bo false,i64 0,bo false,.v (.slice none 0 0),i64 0,bo false,i64 0,bo false,i64 0,bo false,i64 0,bo false]
def gZ (C:Nat → Ct) (i:Nat):Nat → List AV:=fun j => if j < i then contC (C j) else zCt
theorem gZ_0 {C:Nat → Ct} {j:Nat}:gZ C 0 j = zCt:=if_neg (Nat.not_lt_zero j)
theorem gZ_lt {C:Nat → Ct} {i j:Nat} (h:j < i):gZ C i j = contC (C j):=if_pos h
theorem gZ_cl {C:Nat → Ct} {i j:Nat}:cleanCs (gZ C i j) = true:=by
 unfold gZ
 split <;> rfl
theorem gZ_st {C:Nat → Ct} {i j:Nat}:(if j = i then contC (C i) ++ List.drop 15 (gZ C i i) else gZ C i j) = gZ C (i + 1) j:=by
 by_cases h:j = i
 ·subst h
  rw [if_pos rfl,gZ_lt (Nat.lt_succ_self j),show gZ C j j = zCt from if_neg (Nat.lt_irrefl j)]
  rfl
 ·rw [if_neg h]
  unfold gZ
  by_cases h2:j < i
  ·rw [if_pos h2,if_pos (by omega)]
  ·rw [if_neg h2,if_neg (by omega)]
theorem rdN_lt {r:Int} {k:Nat}:((k:Int) < max 0 (min r 16)) = (k < rdN r):=by
 unfold rdN
 apply propext
 omega
theorem con17:ConOK Tryz.prog 17 kSol:=ConOK.of (G:=[(56,.wr mNlay),(57,kCon),(58,.wr mBnd),(59,.wr mHit),(60,.wr mPar),(61,.wr mNtel)]) (H:=[]) (.mcons con56m (.cons con57 (.mcons con58m (.mcons con59m (.mcons con60m (.mcons con61m .nil)))))) Tryz.func17 fun l ob rr hc hob => by
 unfold kSol at hc
 split at hc
 ·rename_i N g M c L j r d q
  cases hc
  have e1:g = bsC (bsD g):=hob _ (by simp)
  have e2:c = csC (csD c):=hob _ (by simp)
  have e3:j = jsC (jsD j):=hob _ (by simp)
  have hN:N ≤ 1000:=hob _ (by simp)
  have hB:inBs N (bsD g):=hob _ (by simp)
  have hM:M ≤ 1000:=hob _ (by simp)
  have hC:inCs M (csD c):=hob _ (by simp)
  have hL:L ≤ 1000:=hob _ (by simp)
  have hJ:inJs L (jsD j):=hob _ (by simp)
  have hr:inR r:=hob _ (by simp)
  have hd:inR d:=hob _ (by simp)
  clear hob
  generalize bsD g = B at *
  generalize csD c = C at *
  generalize jsD j = J at *
  subst e1 e2 e3
  refine ⟨by kernel_rfl,fnVC_go (rs:=[.tmp 10,.tmp 11]) rfl rfl ?_⟩
  simp only [go_sem,kCon,hN,hB]
  refine ⟨by omega,by omega,by rw [byt55]; omega,?_⟩
  refine loopC_go (fun (i:Nat) => i ≤ M) (fun i => M - i) (fun i => [(28,i64 (i:Int))]) (fun i => [(8,famN M 15 55 (gZ C i) none)]) [4,0] [29,30,31,32,15,14,33,34,35,36,37,38,28] 0 (by kernel_rfl) ?_ (Nat.zero_le _) ?_ ?_
  ·intro i _; simp [goodNames,asg]
  ·simp only [go_sem]
   exact fun j _ => by rw [gZ_0]; exact fitL_clean rfl
  intro i hi
  by_cases hiM:i < M
  ·obtain ⟨i1,i2⟩:=hC i hiM
   simp only [go_sem,kCon,i1,i2,forall_eq]
   refine ⟨fun h => ⟨by omega,h,by omega,h,hiM,i + 1,by omega,by omega,by rw [wrap_in (by unfold inR; omega)]; rfl,fun j _ => ?_⟩,fun h => absurd hiM (by omega)⟩
   rw [gZ_st]
   exact fitL_clean gZ_cl
  ·simp only [go_sem,kCon,forall_eq]
   refine ⟨fun h => absurd h (by omega),fun _ => ?_⟩
   have e:M = i:=by omega
   subst e
   have hR16:rdN r ≤ 16:=by unfold rdN; omega
   generalize hR:rdN r = R at *
   obtain ⟨S,hS⟩:∃ S:Nat → Sv,S = rndS N M L J (d,q) ⟨B,C⟩:=⟨_,rfl⟩
   have s0:S 0 = ⟨B,C⟩:=by rw [hS]; rfl
   have sI:∀ k,inBs N (S k).B ∧ inCs M (S k).C:=fun k => by rw [hS]; exact rndS_in (s:=⟨B,C⟩) hB hC k
   refine loopC_go (fun (k:Nat) => k ≤ R) (fun k => R - k) (fun k => [(42,i64 (k:Int))]) (fun k => [(4,famT 4 N 27 92 96 (bsC (S k).B)),(8,famN M 15 55 (csC (S k).C) none)]) [0] [43,44,45,46,47,48,49,17,50,51,52,53,54,46,55,56,57,58,59,18,60,61,62,63,64,65,57,66,42] 0 (by kernel_rfl) ?_ (Nat.zero_le _) ?_ ?_
   ·intro i _; simp [goodNames,asg]
   ·simp only [go_sem,s0]
    exact ⟨fitF_T (by omega) fun _ _ => rfl,fun j hj => by rw [gZ_lt hj]; exact fitL_clean rfl⟩
   intro k hk
   simp only [go_sem,kCon,forall_eq]
   have hkr:((k:Int) < max 0 (min r 16)) ↔ k < R:=by rw [← hR]; exact iff_of_eq rdN_lt
   have hSk:=sI k
   refine ⟨fun hkR => ?_,fun hkR => ?_⟩ <;> rw [hkr] at hkR
   ·obtain ⟨T,hT⟩:∃ T:Nat → Nat → Bd,T = bndL N J (d,q) (S k).B:=⟨_,rfl⟩
    have t0:T 0 = (S k).B:=by rw [hT]; rfl
    have tI:∀ i,inBs N (T i):=fun i => by rw [hT]; exact bndL_in hSk.1 i
    refine loopC_go (fun (i:Nat) => i ≤ L) (fun i => L - i) (fun i => [(46,i64 (i:Int))]) (fun i => [(4,famT 4 N 27 92 96 (bsC (T i)))]) [8,0] [47,48,49,17,50,51,52,53,54,46] 0 (by kernel_rfl) ?_ (Nat.zero_le _) ?_ ?_
    ·intro i _; simp [goodNames,asg]
    ·simp only [go_sem,t0]
     exact fitF_T (by omega) fun _ _ => rfl
    intro i hi
    by_cases hiL:i < L
    ·obtain ⟨j1,j2,j3,j4,j5⟩:=hJ i hiL
     simp only [go_sem,kCon,jsC_at,jtC,mBnd,bndF,hN,tI,j1,j2,j3,j4,j5,hd,forall_eq]
     refine ⟨fun h => ⟨by omega,h,i + 1,by omega,by omega,by rw [wrap_in (by unfold inR; omega)]; rfl,?_⟩,fun h => absurd hiL (by omega)⟩
     have e:T (i + 1) = bndJ N (T i) (J i) (d,q):=by rw [hT]; rfl
     rw [e]
     exact fitF_T (by omega) fun _ _ => rfl
    simp only [go_sem,kCon,forall_eq]
    refine ⟨fun h => absurd h (by omega),fun _ => ?_⟩
    have e:L = i:=by omega
    subst e
    obtain ⟨U,hU⟩:∃ U:Nat → Sv,U = hitL N ⟨T L,(S k).C⟩:=⟨_,rfl⟩
    have u0:U 0 = ⟨T L,(S k).C⟩:=by rw [hU]; rfl
    have uI:∀ i,i ≤ M → inBs N (U i).B ∧ inCs M (U i).C:=fun i hi => by rw [hU]; exact hitL_in (s:=⟨T L,(S k).C⟩) (tI L) hSk.2 i hi
    refine loopC_go (fun (i:Nat) => i ≤ M) (fun i => M - i) (fun i => [(57,i64 (i:Int))]) (fun i => [(4,famT 4 N 27 92 96 (bsC (U i).B)),(8,famN M 15 55 (csC (U i).C) none)]) [0] [58,59,18,60,61,62,63,64,65,57] 0 (by kernel_rfl) ?_ (Nat.zero_le _) ?_ ?_
    ·intro i _; simp [goodNames,asg]
    ·simp only [go_sem,u0]
     exact ⟨fitF_T (by omega) fun _ _ => rfl,fun j hj => fitL_clean rfl⟩
    intro i hi
    by_cases hiM:i < M
    ·obtain ⟨v1,v2⟩:=uI i hi
     obtain ⟨w1,w2⟩:=v2 i hiM
     simp only [go_sem,kCon,mHit,hitF,hN,v1,w1,w2,forall_eq]
     refine ⟨fun h => ⟨by omega,h,by decide,hiM,i + 1,by omega,by omega,by rw [wrap_in (by unfold inR; omega)]; rfl,?_⟩,fun h => absurd hiM (by omega)⟩
     have e:U (i + 1) = ⟨hitT N (U i).B ((U i).C i),updC (U i).C i (hitC N (U i).B ((U i).C i))⟩:=by rw [hU]; rfl
     rw [e]
     exact ⟨fitF_T (by omega) fun _ _ => rfl,fun j hj => fitL_clean rfl⟩
    simp only [go_sem,kCon,forall_eq]
    refine ⟨fun h => absurd h (by omega),fun _ => ?_⟩
    have e:M = i:=by omega
    subst e
    have e:S (k + 1) = U M:=by rw [hU,hT,hS]; rfl
    refine ⟨k + 1,by omega,by omega,by rw [wrap_in (by unfold inR; omega)]; rfl,?_⟩
    rw [e]
    exact ⟨fitF_T (by omega) fun _ _ => rfl,fun j hj => fitL_clean rfl⟩
   ·have e:R = k:=by omega
    subst e
    obtain ⟨V,hV⟩:∃ V:Nat → Nat → Bd,V = parL N (S R).C (S R).B:=⟨_,rfl⟩
    have v0:V 0 = (S R).B:=by rw [hV]; rfl
    have vI:∀ i,inBs N (V i):=fun i => by rw [hV]; exact parL_in hSk.1 i
    refine loopC_go (fun (i:Nat) => i ≤ M) (fun i => M - i) (fun i => [(69,i64 (i:Int))]) (fun i => [(4,famT 4 N 27 92 96 (bsC (V i)))]) [8,0] [70,71,72,20,73,74,75,76,69] 0 (by kernel_rfl) ?_ (Nat.zero_le _) ?_ ?_
    ·intro i _; simp [goodNames,asg]
    ·simp only [go_sem,v0]
     exact fitF_T (by omega) fun _ _ => rfl
    intro i hi
    by_cases hiM:i < M
    ·obtain ⟨w1,w2⟩:=hSk.2 i hiM
     simp only [go_sem,kCon,mPar,parF,hN,vI,w1,w2,forall_eq]
     refine ⟨fun h => ⟨by omega,h,hiM,i + 1,by omega,by omega,by rw [wrap_in (by unfold inR; omega)]; rfl,?_⟩,fun h => absurd hiM (by omega)⟩
     have e:V (i + 1) = parT N (V i) ((S R).C i):=by rw [hV]; rfl
     rw [e]
     exact fitF_T (by omega) fun _ _ => rfl
    simp only [go_sem,kCon,hN,forall_eq]
    refine ⟨fun h => absurd h (by omega),fun _ => ?_⟩
    have e:M = i:=by omega
    subst e
    have e:solT N M L B C J r (d,q) = ⟨V M,(S R).C⟩:=by rw [hV,hS]; unfold solT; rw [hR]
    rw [e]
    rfl
 ·cases hc
end Go.Ax
end
section
/-
  Lists of bodies, contacts and joints ars they are made: equal to proper ones up to their lengths.
-/
set_option maxHeartbeats 4000000
set_option maxRecDepth 100000
namespace Go.Ax
open Go.Proofs
def adB:AV → Option (Prop × AV)
 | .ro N 27 g => some (∀ i,i < N → g i = bsC (bsD g) i,.ro N 27 (bsC (bsD g)))
 | _ => none
def contN (c:Ct):List AV:=[i64 c.a,i64 c.b,i64 c.nv.1.1,bo c.nv.1.2,i64 c.nv.2.1,bo c.nv.2.2,.v (.slice none 0 0),
 i64 c.p0.1,bo c.p0.2,i64 c.p1.1,bo c.p1.2,i64 c.r0.1,bo c.r0.2,i64 c.r1.1,bo c.r1.2]
def rowC (g:Nat → List AV) (i:Nat):Prop:=g i = csC (csD g) i ∨ (g i = contN (csD g i) ∧ (csD g i).n = 0)
def adC:AV → Option (Prop × AV)
 | .ro M 15 g => some (∀ i,i < M → rowC g i,.ro M 15 (csC (csD g)))
 | .v (.slice none 0 0) => some (True,.ro 0 15 (csC (csD fun _ => [])))
 | _ => none
def adJ:AV → Option (Prop × AV)
 | .ro M 13 g => some (∀ i,i < M → g i = jsC (jsD g) i,.ro M 13 (jsC (jsD g)))
 | .v (.slice none 0 0) => some (True,.ro 0 13 (jsC (jsD fun _ => [])))
 | _ => none
theorem ro_nil {w:World} {ρ:Env} {v:Value} {sz:Nat} {f:Nat → List AV} (hR:R w ρ (.v (.slice none 0 0)) v):R w ρ (.ro 0 sz f) v:=by
 cases hR
 exact .ro 0 0 (Nat.le_refl _) (fun h => absurd h (by omega)) (fun h => absurd h (by omega)) (fun i h => absurd h (by omega)) (fun i k h => absurd h (by omega)) (fun i k c x h => absurd h (by omega))
theorem ro_alk {w:World} {ρ:Env} {n sz:Nat} {get get':Nat → List AV} {v:Value} (hl:∀ i,i < n → (get i).length = (get' i).length)
  (h:∀ i,i < n → ∀ (k:Nat) (c':AV),(get' i)[k]? = some c' → ∃ c:AV,(get i)[k]? = some c ∧ ∀ w ρ v,R w ρ c v → R w ρ c' v) (hR:R w ρ (.ro n sz get) v):R w ρ (.ro n sz get') v:=by
 cases hR with
 | ro b o hn ha hi hlen hex hr =>
  refine .ro b o hn ha hi (fun i hi' => by rw [← hl i hi']; exact hlen i hi') hex (fun i k c' x h1 h2 h3 => ?_)
  obtain ⟨c,k1,k2⟩:=h i h1 k c' h2
  exact k2 _ _ _ (hr i k c x h1 k1 h3)
theorem nil_ro6 {w:World} {ρ:Env} {v:Value} {f:Nat → List AV} (hR:R w ρ (.v (.slice none 0 0)) v):R w ρ (.ro 0 6 f) v:=by
 cases hR
 exact .ro 0 0 (Nat.le_refl _) (fun h => absurd h (by omega)) (fun h => absurd h (by omega)) (fun i h => absurd h (by omega)) (fun i k h => absurd h (by omega)) (fun i k c x h => absurd h (by omega))
theorem contN_alk {c:Ct} (h0:c.n = 0) (k:Nat) (c':AV) (h:(contC c)[k]? = some c'):∃ a,(contN c)[k]? = some a ∧ ∀ w ρ v,R w ρ a v → R w ρ c' v:=by
 by_cases hk:k = 6
 ·subst hk
  have e:some (AV.ro c.n 6 (tchs c.P c.D)) = some c':=h
  cases e
  exact ⟨.v (.slice none 0 0),rfl,fun w ρ v hR => by rw [h0]; exact nil_ro6 hR⟩
 ·refine ⟨c',?_,fun _ _ _ hR => hR⟩
  rw [← h]
  match k,hk with
  | 0,_ => rfl
  | 1,_ => rfl
  | 2,_ => rfl
  | 3,_ => rfl
  | 4,_ => rfl
  | 5,_ => rfl
  | 6,hk => exact absurd rfl hk
  | 7,_ => rfl
  | 8,_ => rfl
  | 9,_ => rfl
  | 10,_ => rfl
  | 11,_ => rfl
  | 12,_ => rfl
  | 13,_ => rfl
  | 14,_ => rfl
  | q + 15,_ => rfl
theorem rowC_alk {M:Nat} {g:Nat → List AV} (h:∀ i,i < M → rowC g i) {w:World} {ρ:Env} {v:Value} (hR:R w ρ (.ro M 15 g) v):R w ρ (.ro M 15 (csC (csD g))) v:=by
 refine ro_alk (fun i hi => ?_) (fun i hi k c' hc => ?_) hR
 ·rcases h i hi with q | ⟨q,_⟩ <;> rw [q] <;> rfl
 ·rcases h i hi with q | ⟨q,q0⟩
  ·exact ⟨c',by rw [q]; exact hc,fun _ _ _ hR => hR⟩
  ·rw [q]
   exact contN_alk q0 k c' hc
theorem adB_ok {a a':AV} {p:Prop} (h:adB a = some (p,a')) (hp:p) {w:World} {ρ:Env} {v:Value} (hR:R w ρ a v):R w ρ a' v:=by
 unfold adB at h
 split at h
 ·cases h; exact ro_alike hp hR
 ·cases h
theorem adC_ok {a a':AV} {p:Prop} (h:adC a = some (p,a')) (hp:p) {w:World} {ρ:Env} {v:Value} (hR:R w ρ a v):R w ρ a' v:=by
 unfold adC at h
 split at h
 ·cases h; exact rowC_alk hp hR
 ·cases h; exact ro_nil hR
 ·cases h
theorem adJ_ok {a a':AV} {p:Prop} (h:adJ a = some (p,a')) (hp:p) {w:World} {ρ:Env} {v:Value} (hR:R w ρ a v):R w ρ a' v:=by
 unfold adJ at h
 split at h
 ·cases h; exact ro_alike hp hR
 ·cases h; exact ro_nil hR
 ·cases h
def cLw (c:Con):Con
 | b :: rest => match adB b with
  | some (p,b') => (match c (b' :: rest) with
   | some (ob,r) => some (p :: ob,r)
   | none => none)
  | none => none
 | _ => none
theorem ConOK.cLw {P:Program} {f:FuncId} {c:Con} (h:ConOK P f c):ConOK P f (Ax.cLw c):=by
 intro es ob r hc hob
 unfold Ax.cLw at hc
 split at hc
 ·rename_i b rest
  split at hc
  ·rename_i p b' hb
   split at hc
   ·rename_i ob' r' hF
    cases hc
    intro I w vs hI hRs
    refine h _ _ _ hF (fun q hq => hob q (by simp [hq])) I w vs hI ?_
    obtain ⟨x,xs,rfl,h1,h2⟩:=hRs.inv
    exact .cons (adB_ok hb (hob p (by simp)) h1) h2
   ·cases hc
  ·cases hc
 ·cases hc
def cLs (c:Con):Con
 | b :: k :: j :: rest => match adB b,adC k,adJ j with
  | some (p,b'),some (q,k'),some (s,j') => (match c (b' :: k' :: j' :: rest) with
   | some (ob,r) => some (p :: q :: s :: ob,r)
   | none => none)
  | _,_,_ => none
 | _ => none
theorem ConOK.cLs {P:Program} {f:FuncId} {c:Con} (h:ConOK P f c):ConOK P f (Ax.cLs c):=by
 intro es ob r hc hob
 unfold Ax.cLs at hc
 split at hc
 ·rename_i b k j rest
  split at hc
  ·rename_i p b' q k' s j' hb hk hj
   split at hc
   ·rename_i ob' r' hF
    cases hc
    intro I w vs hI hRs
    refine h _ _ _ hF (fun q hq => hob q (by simp [hq])) I w vs hI ?_
    obtain ⟨x,xs,rfl,h1,h2⟩:=hRs.inv
    obtain ⟨y,ys,rfl,h3,h4⟩:=h2.inv
    obtain ⟨z,zs,rfl,h5,h6⟩:=h4.inv
    exact .cons (adB_ok hb (hob p (by simp)) h1) (.cons (adC_ok hk (hob q (by simp)) h3) (.cons (adJ_ok hj (hob s (by simp)) h5) h6))
   ·cases hc
  ·cases hc
 ·cases hc
section
variable {c:Con} {N M L:Nat} {g g' g'':Nat → List AV} {rest:List AV}
theorem cLw_eq:cLw c (.ro N 27 g :: rest) = (match c (.ro N 27 (bsC (bsD g)) :: rest) with
   | some (ob,r) => some ((∀ i,i < N → g i = bsC (bsD g) i) :: ob,r)
   | none => none):=(rfl)
theorem cLs_eq:cLs c (.ro N 27 g :: .ro M 15 g' :: .ro L 13 g'' :: rest) = (match c (.ro N 27 (bsC (bsD g)) :: .ro M 15 (csC (csD g')) :: .ro L 13 (jsC (jsD g'')) :: rest) with
   | some (ob,r) => some ((∀ i,i < N → g i = bsC (bsD g) i) :: (∀ i,i < M → rowC g' i) :: (∀ i,i < L → g'' i = jsC (jsD g'') i) :: ob,r)
   | none => none):=(rfl)
end
section
variable {b c d e:Bd} {l:List AV}
theorem lenA_body:(bodyC b ++ l).length = 27 + l.length:=by rw [List.length_append]; rfl
theorem take27_body:List.take 27 (bodyC b ++ l) = bodyC b:=(rfl)
theorem take54_body:List.take 54 (bodyC b ++ l) = bodyC b ++ List.take 27 l:=(rfl)
theorem take81_body:List.take 81 (bodyC b ++ l) = bodyC b ++ List.take 54 l:=(rfl)
theorem take108_body:List.take 108 (bodyC b ++ l) = bodyC b ++ List.take 81 l:=(rfl)
theorem drop27_body:List.drop 27 (bodyC b ++ l) = l:=(rfl)
theorem drop54_body:List.drop 54 (bodyC b ++ l) = List.drop 27 l:=(rfl)
theorem drop81_body:List.drop 81 (bodyC b ++ l) = List.drop 54 l:=(rfl)
theorem drop108_body:List.drop 108 (bodyC b ++ l) = List.drop 81 l:=(rfl)
end
attribute [go_sem] lenA_body take27_body take54_body take81_body take108_body drop27_body drop54_body drop81_body drop108_body
theorem purLA_body {b:Bd} {l:List AV} {d:Nat} {m:Mem}:purL d m (bodyC b ++ l) = bodyC b ++ purL d m l:=by
 rw [← purL_eq,← purL_eq,List.map_append,purL_eq,purLd_body]
theorem cleanLA_body {b:Bd} {l:List AV}:cleanL 2 (bodyC b ++ l) = cleanL 2 l:=by
 rw [← cleanL_eq,← cleanL_eq,List.all_append,cleanL_eq (l:=bodyC b),cleanL_body,Bool.true_and]
attribute [go_sem] cleanLA_body
def ros2 (b c:Bd):Nat → List AV:=rowsOf 27 (bodyC b ++ bodyC c)
theorem rows_seal2 {b c:Bd}:rowsOf 27 (bodyC b ++ bodyC c) = ros2 b c:=(rfl)
theorem rowG_r2 {b c:Bd} {d:Nat} {m:Mem}:rowG d m (ros2 b c) = ros2 b c:=by
 unfold ros2
 rw [rowG_rows,purLA_body,purLd_body]
theorem purL_r2 {b c:Bd} {d i:Nat} {m:Mem}:purL d m (ros2 b c i) = ros2 b c i:=by
 unfold ros2 rowsOf
 rw [purL_take,purL_drop,purLA_body,purLd_body]
theorem ros2_0 {b c:Bd}:ros2 b c 0 = bodyC b:=(rfl)
theorem ros2_1 {b c:Bd}:ros2 b c 1 = bodyC c:=(rfl)
theorem bsD_r20 {b c:Bd}:bsD (ros2 b c) 0 = b:=(rfl)
theorem bsD_r21 {b c:Bd}:bsD (ros2 b c) 1 = c:=(rfl)
theorem ros2_ok {b c:Bd}:(∀ i,i < 2 → ros2 b c i = bodyC (bsD (ros2 b c) i)) = True:=eq_true fun i hi => by
 match i with
 | 0 => rfl
 | 1 => rfl
 | q + 2 => omega
theorem inBs_r2 {b c:Bd}:inBs 2 (bsD (ros2 b c)) = ((inB b ∧ b.n ≤ 1000) ∧ (inB c ∧ c.n ≤ 1000)):=propext ⟨fun h => ⟨h 0 (by omega),h 1 (by omega)⟩,fun h i hi => by
 match i with
 | 0 => exact h.1
 | 1 => exact h.2
 | q + 2 => omega⟩
attribute [go_sem] rows_seal2 rowG_r2 purL_r2 ros2_0 ros2_1 bsD_r20 bsD_r21 ros2_ok inBs_r2
theorem lenA_cont {c:Ct} {l:List AV}:(contC c ++ l).length = 15 + l.length:=by rw [List.length_append]; rfl
theorem take15A_cont {c:Ct} {l:List AV}:List.take 15 (contC c ++ l) = contC c:=(rfl)
theorem take30A_cont {c:Ct} {l:List AV}:List.take 30 (contC c ++ l) = contC c ++ List.take 15 l:=(rfl)
theorem drop15A_cont {c:Ct} {l:List AV}:List.drop 15 (contC c ++ l) = l:=(rfl)
theorem drop30A_cont {c:Ct} {l:List AV}:List.drop 30 (contC c ++ l) = List.drop 15 l:=(rfl)
theorem cleanLA_cont {c:Ct} {l:List AV}:cleanL 2 (contC c ++ l) = cleanL 2 l:=by
 rw [← cleanL_eq,← cleanL_eq,List.all_append,cleanL_eq (l:=contC c),cleanL_cont,Bool.true_and]
theorem purLd_cont {c:Ct} {d:Nat} {m:Mem}:purL d m (contC c) = contC c:=by cases d <;> rfl
theorem purLA_cont {c:Ct} {l:List AV} {d:Nat} {m:Mem}:purL d m (contC c ++ l) = contC c ++ purL d m l:=by
 rw [← purL_eq,← purL_eq,List.map_append,purL_eq,purLd_cont]
def cts2 (a b:Ct):Nat → List AV:=rowsOf 15 (contC a ++ contC b)
section
variable {a b:Ct} {d i:Nat} {m:Mem}
theorem rows_sealC2:rowsOf 15 (contC a ++ contC b) = cts2 a b:=(rfl)
theorem rowG_c2:rowG d m (cts2 a b) = cts2 a b:=by
 unfold cts2
 rw [rowG_rows,purLA_cont,purLd_cont]
theorem purL_c2:purL d m (cts2 a b i) = cts2 a b i:=by
 unfold cts2 rowsOf
 rw [purL_take,purL_drop,purLA_cont,purLd_cont]
theorem cts2_0:cts2 a b 0 = contC a:=(rfl)
theorem cts2_1:cts2 a b 1 = contC b:=(rfl)
theorem csD_c20:csD (cts2 a b) 0 = a:=(rfl)
theorem csD_c21:csD (cts2 a b) 1 = b:=(rfl)
theorem cts2_ok:(∀ i,i < 2 → rowC (cts2 a b) i) = True:=eq_true fun i hi => .inl (by
 match i with
 | 0 => rfl
 | 1 => rfl
 | q + 2 => omega)
theorem inCs_c2:inCs 2 (csD (cts2 a b)) = ((inC a ∧ a.n ≤ 1000) ∧ (inC b ∧ b.n ≤ 1000)):=propext ⟨fun h => ⟨h 0 (by omega),h 1 (by omega)⟩,fun h i hi => by
 match i with
 | 0 => exact h.1
 | 1 => exact h.2
 | q + 2 => omega⟩
end
attribute [go_sem] lenA_cont take15A_cont take30A_cont drop15A_cont drop30A_cont cleanLA_cont rows_sealC2 rowG_c2 purL_c2 cts2_0 cts2_1 csD_c20 csD_c21 cts2_ok inCs_c2
theorem plainL_cont {c:Ct}:plainL 1 (contC c) = false:=(rfl)
attribute [go_sem] plainL_cont
def kCntW:Con:=cLw kCnt
theorem con16w:ConOK Tryz.prog 16 kCntW:=con16.cLw
def kParW:Con:=cLw kPar
theorem con19w:ConOK Tryz.prog 19 kParW:=con19.cLw
def kSolW:Con:=cLs kSol
theorem con17w:ConOK Tryz.prog 17 kSolW:=con17.cLs
end Go.Ax
end
section
/-
  Contacts of different bodies: their order does not matter.
-/
set_option maxHeartbeats 4000000
set_option maxRecDepth 100000
namespace Go.Ax
open Go.Proofs
theorem parT_ap {N:Nat} {B:Nat → Bd} {c:Ct} {j:Nat}:parT N B c j = if apB N c.a c.b ∧ c.n ≠ 0 ∧ (nAdd (B c.a.toNat).m (B c.b.toNat).m).1 ≠ 0 then (if j = c.b.toNat then parB (B c.a.toNat) (B c.b.toNat) c else if j = c.a.toNat then parA (B c.a.toNat) (B c.b.toNat) c else B j) else B j:=by
 unfold parT
 split <;> rfl
def dis (c d:Ct):Prop:=c.a.toNat ≠ d.a.toNat ∧ c.a.toNat ≠ d.b.toNat ∧ c.b.toNat ≠ d.a.toNat ∧ c.b.toNat ≠ d.b.toNat
end Go.Ax
end
section
/-
  What pushes and shifts keep, Solve keeps.
-/
set_option maxHeartbeats 4000000
set_option maxRecDepth 100000
namespace Go.Ax
open Go.Proofs
structure kept (Q:Nat → Bd → Prop):Prop where
 psh:∀ i b p j,Q i b → Q i (pshS b p j)
 shf:∀ i b p,Q i b → Q i (shfS b p)
section
variable {Q:Nat → Bd → Prop} {N:Nat} {B:Nat → Bd}
theorem upd_k {j:Nat} {b:Bd} (hB:∀ i,Q i (B i)) (hb:Q j b):∀ i,Q i (updB B j b i):=fun i => by
 unfold updB
 split
 ·rename_i e; rw [e]; exact hb
 ·exact hB i
theorem hitR_k (h:kept Q) {i j:Nat} {a b:Bd} {x n:V2} {pu ru:Nb} (ha:Q i a) (hb:Q j b):Q i (hitR a b x n pu ru).a ∧ Q j (hitR a b x n pu ru).b:=by
 unfold hitR
 dsimp only
 split
 ·exact ⟨ha,hb⟩
 ·split
  ·exact ⟨h.psh _ _ _ _ ha,h.psh _ _ _ _ hb⟩
  ·exact ⟨h.psh _ _ _ _ (h.psh _ _ _ _ ha),h.psh _ _ _ _ (h.psh _ _ _ _ hb)⟩
theorem hitI_k (h:kept Q) {i j:Nat} {a b:Bd} {c:Ct} (ha:Q i a) (hb:Q j b):∀ k,Q i (hitI a b c k).a ∧ Q j (hitI a b c k).b
 | 0 => ⟨ha,hb⟩
 | 1 => hitR_k h ha hb
 | _ + 2 => by
  obtain ⟨h1,h2⟩:=hitR_k h (x:=c.P 0) (n:=c.nv) (pu:=c.p0) (ru:=c.r0) ha hb
  exact hitR_k h (a:=(hit0 a b c).a) (b:=(hit0 a b c).b) h1 h2
theorem hitT_k (h:kept Q) {c:Ct} (hB:∀ i,Q i (B i)):∀ i,Q i (hitT N B c i):=by
 unfold hitT
 split
 ·obtain ⟨h1,h2⟩:=hitI_k h (c:=c) (hB c.a.toNat) (hB c.b.toNat) (min 2 c.n)
  exact upd_k (upd_k hB h1) h2
 ·exact hB
theorem parT_k (h:kept Q) {c:Ct} (hB:∀ i,Q i (B i)):∀ i,Q i (parT N B c i):=by
 unfold parT
 split
 ·exact upd_k (upd_k hB (h.shf _ _ _ (hB _))) (h.shf _ _ _ (hB _))
 ·exact hB
theorem bndT_k (h:kept Q) {k a b:Int} {pa pb:V2} {ln dt:Nb} (hB:∀ i,Q i (B i)):∀ i,Q i (bndT N B k a b pa pb ln dt i):=by
 unfold bndT
 split
 ·split
  ·unfold grbT
   split
   ·exact upd_k hB (h.psh _ _ _ _ (hB _))
   ·exact hB
  ·split
   ·unfold rodT
    split
    ·exact upd_k (upd_k hB (h.psh _ _ _ _ (hB _))) (h.psh _ _ _ _ (hB _))
    ·exact hB
   ·unfold pinT
    split
    ·exact upd_k (upd_k hB (h.psh _ _ _ _ (hB _))) (h.psh _ _ _ _ (hB _))
    ·exact hB
 ·exact hB
theorem bndL_k (h:kept Q) {J:Nat → Jt} {dt:Nb} (hB:∀ i,Q i (B i)):∀ k i,Q i (bndL N J dt B k i)
 | 0 => hB
 | k + 1 => bndT_k h (bndL_k h hB k)
theorem hitL_k (h:kept Q) {s:Sv} (hB:∀ i,Q i (s.B i)):∀ k i,Q i ((hitL N s k).B i)
 | 0 => hB
 | k + 1 => hitT_k h (hitL_k h hB k)
theorem rndS_k (h:kept Q) {M L:Nat} {J:Nat → Jt} {dt:Nb} {s:Sv} (hB:∀ i,Q i (s.B i)):∀ k i,Q i ((rndS N M L J dt s k).B i)
 | 0 => hB
 | k + 1 => hitL_k h (s:=⟨_,_⟩) (bndL_k h (rndS_k h hB k) L) M
theorem parL_k (h:kept Q) {C:Nat → Ct} (hB:∀ i,Q i (B i)):∀ k i,Q i (parL N C B k i)
 | 0 => hB
 | k + 1 => parT_k h (parL_k h hB k)
theorem sol_k (h:kept Q) {M L:Nat} {C:Nat → Ct} {J:Nat → Jt} {r:Int} {dt:Nb} (hB:∀ i,Q i (B i)):∀ i,Q i ((solT N M L B C J r dt).B i):=
 parL_k h (rndS_k h (s:=⟨_,_⟩) hB _) M
end
theorem psh_still {b:Bd} {p j:V2} (h:mvS b = false):pshS b p j = b:=if_pos (by rw [h]; rfl)
theorem shf_idle {b:Bd} {p:V2} (h:idS b = true):shfS b p = b:=if_neg (by rw [h]; simp)
theorem id_still {b:Bd} (h:mvS b = false):idS b = true:=by unfold idS; rw [h]; rfl
theorem go_idle {b:Bd} {t:Nb} (h:idS b = true):goS b t = b:=if_pos h
theorem res_idle {b:Bd} (h:idS b = true):resS b = b:=if_pos h
theorem pul_idle {b:Bd} {g:V2} {t:Nb} (h:idS b = true):pulS b g t = b:=if_pos h
theorem wak_still {b:Bd} (h:mvS b = false):wakS b = b:=if_neg (by rw [h]; simp)
theorem sol_still {N M L:Nat} {B:Nat → Bd} {C:Nat → Ct} {J:Nat → Jt} {r:Int} {dt:Nb} {k:Nat} (h:mvS (B k) = false):(solT N M L B C J r dt).B k = B k:=
 sol_k (Q:=fun i b => i = k → b = B k) ⟨fun i b p j hq e => by rw [hq e]; exact psh_still h,fun i b p hq e => by rw [hq e]; exact shf_idle (id_still h)⟩ (fun i e => by rw [e]) k rfl
theorem par_idle {N:Nat} {B:Nat → Bd} {c:Ct} {k:Nat} (h:idS (B k) = true):parT N B c k = B k:=by
 rw [parT_ap]
 split
 ·split
  ·rename_i e; rw [e] at h ⊢; exact shf_idle h
  ·split
   ·rename_i e; rw [e] at h ⊢; exact shf_idle h
   ·rfl
 ·rfl
end Go.Ax
end
section
/-
  Bodies made of numbers.
-/
set_option maxHeartbeats 4000000
set_option maxRecDepth 100000
namespace Go.Ax
open Go.Proofs
def mkD (dn kd:Int):Int:=if modS kd 4 = 0 then 0 else 1 + modS dn 1000
def nuN (x s:Int):Nb:=(x.tmod (s * 4294967296),false)
def mk0 (a b c x y u dn kd s:Int):Bd:=nwB (mkK a) (mkR a b) (mkH a b b) (mkH a b c) (mkN a) (mkX a b c) (mkY a b c) (foAt x y s) (foRot u) (mkD dn kd) (modS kd 4 != 0)
def mkB (a b c x y u vx vy sp dn kd s:Int):Bd:=
 if modS kd 4 = 1 then { mk0 a b c x y u dn kd s with v:=(nuN vx 200,nuN vy 200),w:=nuN sp 60 }
 else if modS kd 4 = 2 then { mk0 a b c x y u dn kd s with st:=30,sl:=true }
 else if modS kd 4 = 3 then { mk0 a b c x y u dn kd s with sl:=true,fa:=true }
 else mk0 a b c x y u dn kd s
theorem wrD {dn:Int}:IntKind.i64.wrap (1 + modS dn 1000) = 1 + modS dn 1000:=by
 have h:=modS_bd (n:=dn) (m:=1000) (by omega)
 exact wrap_in (by unfold inR; omega)
theorem mk_spots {a b c:Int}:(spots (mkN a) fun i => [i64 (mkX a b c i),i64 (mkY a b c i)]) = True:=eq_true fun i hi => ⟨rfl,mk_inR i hi⟩
theorem snV_inR {x:Int} {f:Bool}:inR (snV x f):=by
 have h:=@snV_rg x f
 unfold rg at h
 unfold inR
 omega
theorem csV_inR {x:Int} {f:Bool}:inR (csV x f):=snV_inR
def kb24:Con
 | [.agg [.v (.int .i64 a),.v (.int .i64 b),.v (.int .i64 c),.v (.int .i64 x),.v (.int .i64 y),.v (.int .i64 u),.v (.int .i64 p),.v (.int .i64 q),.v (.int .i64 r),.v (.int .i64 d),.v (.int .i64 k)],.v (.int .i64 s)] => some ([inR a,inR b,inR c,inR x,inR y,inR u,inR p,inR q,inR r,inR d,inR k,1 ≤ s ∧ s ≤ 1000000],boA (mkB a b c x y u p q r d k s))
 | _ => none
theorem con7:ConOK Tryz.prog 7 kb24:=ConOK.of (G:=[(26,c26),(22,c22),(24,c24),(38,c38),(39,c39)]) (H:=[(5,⟨[(15,.made 14)],[]⟩),(8,⟨[(11,.slot 7),(13,.slot 7)],[]⟩)]) (.cons con26 (.cons con22 (.cons con24 (.cons con38 (.cons con39 .nil))))) Tryz.func7 fun l ob rr hc hob => by
 unfold kb24 at hc
 split at hc
 ·rename_i a b c x y u p q r d k s
  cases hc
  have h_0:inR a:=hob _ (by simp)
  have h_1:inR b:=hob _ (by simp)
  have h_2:inR c:=hob _ (by simp)
  have h_3:inR x:=hob _ (by simp)
  have h_4:inR y:=hob _ (by simp)
  have h_5:inR u:=hob _ (by simp)
  have h_6:inR p:=hob _ (by simp)
  have h_7:inR q:=hob _ (by simp)
  have h_8:inR r:=hob _ (by simp)
  have h_9:inR d:=hob _ (by simp)
  have h_10:inR k:=hob _ (by simp)
  have h_11:1 ≤ s ∧ s ≤ 1000000:=hob _ (by simp)
  clear hob
  refine ⟨by kernel_rfl,fnVC_go (rs:=[.cell 4 40]) rfl rfl ?_⟩
  simp only [go_sem,c26,c22,c24,c38,c39,boA,bodyC,mk_spots,gx_pts0,gx_pts1,wrD,h_0,h_1,h_2,h_3,h_4,h_5,h_6,h_7,h_8,h_9,h_10,h_11]
  simp only [forall_eq,true_imp_iff,true_and,and_true,wrD]
  refine ⟨by unfold inR; omega,by unfold inR; omega,fun g0 => ?_,fun g0 => ?_⟩
  ·have e0:mk0 a b c x y u d k s = nwB (mkK a) (mkR a b) (mkH a b b) (mkH a b c) (mkN a) (mkX a b c) (mkY a b c) (foAt x y s) (foRot u) 0 (modS k 4 != 0):=by
    unfold mk0; rw [show mkD d k = 0 from if_pos (by simpa using g0)]
   exact ⟨mkN_le,tmod_inR h_11,tmod_inR h_11,csV_inR,snV_inR,fun g1 => by
     rw [show mkB a b c x y u p q r d k s = { mk0 a b c x y u d k s with v:=(nuN p 200,nuN q 200),w:=nuN r 60 } from if_pos (by simpa using g1),e0] <;> rfl,
    fun g1 => ⟨fun g2 => by
     rw [show mkB a b c x y u p q r d k s = { mk0 a b c x y u d k s with st:=30,sl:=true } from (if_neg (by simpa using g1)).trans (if_pos (by simpa using g2)),e0] <;> rfl,
    fun g2 => ⟨fun g3 => by
     rw [show mkB a b c x y u p q r d k s = { mk0 a b c x y u d k s with sl:=true,fa:=true } from (if_neg (by simpa using g1)).trans ((if_neg (by simpa using g2)).trans (if_pos (by simpa using g3))),e0] <;> rfl,
    fun g3 => by
     rw [show mkB a b c x y u p q r d k s = mk0 a b c x y u d k s from (if_neg (by simpa using g1)).trans ((if_neg (by simpa using g2)).trans (if_neg (by simpa using g3))),e0] <;> rfl⟩⟩⟩
  ·have e0:mk0 a b c x y u d k s = nwB (mkK a) (mkR a b) (mkH a b b) (mkH a b c) (mkN a) (mkX a b c) (mkY a b c) (foAt x y s) (foRot u) (1 + modS d 1000) (modS k 4 != 0):=by
    unfold mk0; rw [show mkD d k = 1 + modS d 1000 from if_neg (by simpa using g0)]
   exact ⟨mkN_le,tmod_inR h_11,tmod_inR h_11,csV_inR,snV_inR,by have:=modS_bd (n:=d) (m:=1000) (by omega); unfold inR; omega,fun g1 => by
     rw [show mkB a b c x y u p q r d k s = { mk0 a b c x y u d k s with v:=(nuN p 200,nuN q 200),w:=nuN r 60 } from if_pos (by simpa using g1),e0] <;> rfl,
    fun g1 => ⟨fun g2 => by
     rw [show mkB a b c x y u p q r d k s = { mk0 a b c x y u d k s with st:=30,sl:=true } from (if_neg (by simpa using g1)).trans (if_pos (by simpa using g2)),e0] <;> rfl,
    fun g2 => ⟨fun g3 => by
     rw [show mkB a b c x y u p q r d k s = { mk0 a b c x y u d k s with sl:=true,fa:=true } from (if_neg (by simpa using g1)).trans ((if_neg (by simpa using g2)).trans (if_pos (by simpa using g3))),e0] <;> rfl,
    fun g3 => by
     rw [show mkB a b c x y u p q r d k s = mk0 a b c x y u d k s from (if_neg (by simpa using g1)).trans ((if_neg (by simpa using g2)).trans (if_neg (by simpa using g3))),e0] <;> rfl⟩⟩⟩
 ·cases hc
end Go.Ax
end
section
/-
  Times; bodies that are the same, by the program.
-/
set_option maxHeartbeats 4000000
set_option maxRecDepth 100000
namespace Go.Ax
open Go.Proofs
def tiN (n:Int):Int:=16777216 + modS n 1056964608
theorem tiN_bd {n:Int}:16777216 ≤ tiN n ∧ tiN n ≤ 1073741824:=by
 have h:=modS_bd (n:=n) (m:=1056964608) (by omega)
 unfold tiN
 omega
theorem wrT {n:Int}:IntKind.i64.wrap (16777216 + modS n 1056964608) = tiN n:=by
 have h:=@tiN_bd n
 exact wrap_in (by show inR (tiN n); unfold inR; omega)
def kt48:Con
 | [.v (.int .i64 n)] => some ([inR n],nbA (tiN n,false))
 | _ => none
theorem kont48:ConOK Tryz.prog 8 kt48:=ConOK.of (G:=[(26,c26)]) (H:=[]) (.cons con26 .nil) Tryz.func8 fun l ob rr hc hob => by
 unfold kt48 at hc
 split at hc
 ·rename_i n
  cases hc
  have h_0:inR n:=hob _ (by simp)
  refine ⟨by kernel_rfl,fnVC_go (rs:=[.cell 2 27]) rfl rfl ?_⟩
  simp only [go_sem,c26,iMul,iDiv,iInt,iAdd,iSub,iRat,iDot,iHyp,iSq,iNeg,iPos,iAbs,iMx,iMn,iCl,iWh,iLoc1,iLoc2,iVAdd1,iVAdd2,iVSub1,iVSub2,iScale1,iScale2,iVDot,iVCross,iLen,iOf1,iOf2,iUnit1,iUnit2,h_0]
  simp only [forall_eq,wrT]
  exact ⟨by unfold inR; omega,rfl⟩
 ·cases hc
theorem vc83 (n:Nat) (X Y:Nat → Int) (hn:n ≤ 1000):fnVC Tryz.prog [] [] Tryz.f83 [.ro n 2 fun i => [i64 (X i),i64 (Y i)],.ro n 2 fun i => [i64 (X i),i64 (Y i)]] (· = bo true):=by
 refine fnVC_go (rs:=[.tmp 4]) rfl rfl ?_
 simp only [go_sem]
 refine ⟨fun h => by simp at h,fun h => ?_⟩
 refine loopC_go (fun (i:Nat) => i ≤ n) (fun i => n - i) (fun i => [(13,i64 (i:Int))]) (fun _ => []) [] [14,15,5,16,17,18,19,20,21,22,23,24,4,25,13] 0 (by kernel_rfl) ?_ (Nat.zero_le _) ?_ ?_
 ·intro x _; simp [goodNames,asg]
 ·simp only [go_sem]
 intro i hi
 simp only [go_sem,forall_eq,beq_self_eq_true,bne_self_eq_false]
 exact ⟨fun h => ⟨by omega,h,by omega,h,fun _ => ⟨i + 1,by omega,by omega,by rw [wrap_in (by unfold inR; omega)]; rfl⟩⟩,fun _ => trivial⟩
def kSq:Con
 | [.ro n 2 g,b] => some ([spots n g,n ≤ 1000,b = .ro n 2 g],bo true)
 | _ => none
theorem con83:ConOK Tryz.prog 83 kSq:=ConOK.go (G:=[]) (H:=[]) .nil Tryz.func83 fun l ob rr hc hob => by
 unfold kSq at hc
 split at hc
 ·rename_i n g b
  cases hc
  have hs:spots n g:=hob _ (by simp)
  have hn:n ≤ 1000:=hob _ (by simp)
  have hb:b = .ro n 2 g:=hob _ (by simp)
  subst hb
  refine ⟨[.ro n 2 fun i => [i64 (gx g 0 i),i64 (gx g 1 i)],.ro n 2 fun i => [i64 (gx g 0 i),i64 (gx g 1 i)]],fun w I vs h => Rs_two (fun v hv => ro_alike (fun i hi => (hs i hi).1) hv) (fun v hv => ro_alike (fun i hi => (hs i hi).1) hv) h,by kernel_rfl,vc83 n _ _ hn⟩
 ·cases hc
theorem aEq139w {a0 b0:Int} {a1 b1:Int} {a2 b2:Int} {a3 b3:Int}:aEq Tryz.prog 139 (.agg [i64 a0,i64 a1,i64 a2,i64 a3]) (.agg [i64 b0,i64 b1,i64 b2,i64 b3]) = some ((a0 == b0) && ((a1 == b1) && ((a2 == b2) && ((a3 == b3) && true)))):=by kernel_rfl
theorem eq139w {xo yo:Operand} {neg:Bool} {a0 b0:Int} {a1 b1:Int} {a2 b2:Int} {a3 b3:Int}:eqE Tryz.prog neg 139 xo yo (.agg [i64 a0,i64 a1,i64 a2,i64 a3]) (.agg [i64 b0,i64 b1,i64 b2,i64 b3]) = some ⟨[],.v (.bool (negV neg ((a0 == b0) && ((a1 == b1) && ((a2 == b2) && ((a3 == b3) && true)))))),.none⟩:=eqE_agg aEq139w
attribute [go_sem] eq139w
theorem vc40 (k r w t:Int) (n:Nat) (X Y:Nat → Int) (hX:∀ i,i < n → inR (X i) ∧ inR (Y i)) (hn:n ≤ 1000):fnVC Tryz.prog [(83,kSq)] [] Tryz.f40 [shapeA k r w t n fun i => [i64 (X i),i64 (Y i)],shapeA k r w t n fun i => [i64 (X i),i64 (Y i)]] (· = bo true):=by
 refine fnVC_go (rs:=[.tmp 4]) rfl rfl ?_
 have hg:spots n fun i => [i64 (X i),i64 (Y i)]:=fun i hi => ⟨rfl,hX i hi⟩
 simp only [go_sem,kSq,kSq,hg,hn,beq_self_eq_true,Bool.and_self,Bool.and_true]
 exact fun _ => trivial
def kSh:Con
 | [.agg [.v (.int .i64 k),.v (.int .i64 r),.v (.int .i64 w),.v (.int .i64 t),.ro n 2 g],b] => some ([spots n g,n ≤ 1000,b = .agg [i64 k,i64 r,i64 w,i64 t,.ro n 2 g]],bo true)
 | _ => none
theorem con40:ConOK Tryz.prog 40 kSh:=ConOK.go (G:=[(83,kSq)]) (H:=[]) (.cons con83 .nil) Tryz.func40 fun l ob rr hc hob => by
 unfold kSh at hc
 split at hc
 ·rename_i k r w t n g b
  cases hc
  have hs:spots n g:=hob _ (by simp)
  have hn:n ≤ 1000:=hob _ (by simp)
  have hb:b = .agg [i64 k,i64 r,i64 w,i64 t,.ro n 2 g]:=hob _ (by simp)
  subst hb
  exact ⟨[shapeA k r w t n fun i => [i64 (gx g 0 i),i64 (gx g 1 i)],shapeA k r w t n fun i => [i64 (gx g 0 i),i64 (gx g 1 i)]],fun w I vs h => Rs_two (Rs_shape hs) (Rs_shape hs) h,by kernel_rfl,vc40 k r w t n _ _ (fun i hi => (hs i hi).2) hn⟩
 ·cases hc
def kb47:Con:=cB fun b rest => match rest with
 | [a] => some ([inB b,b.n ≤ 1000,a = .agg (bodyC b)],bo true)
 | _ => none
theorem con9:ConOK Tryz.prog 9 kb47:=ConOK.cB (G:=[(40,kSh)]) (H:=[]) (.cons con40 .nil) Tryz.func9 fun b rest ob r hc hob => by
 split at hc
 ·rename_i a
  cases hc
  have h_0:inB b:=hob _ (by simp)
  have h_1:b.n ≤ 1000:=hob _ (by simp)
  have h_2:a = .agg (bodyC b):=hob _ (by simp)
  obtain ⟨b1,b2,b3,b4,b5,b6,b7,b8,b9,b10,b11,b12,b13,b14,b15,b16⟩:=h_0
  have hb:inB b:=hob _ (by simp)
  subst h_2
  refine ⟨by kernel_rfl,fnVC_go (rs:=[.tmp 4]) rfl rfl ?_⟩
  simp only [bodyC,go_sem,kSh,cB_eq,cBR_eq,bodyD_lit,gx_pts0,gx_pts1,spots_can,etaN,etaV,bd_eta,b1,b2,b3,b4,b6,b7,b8,b9,b10,b11,b12,b13,b14,b15,b16,hb,h_1]
  intro z hz
  subst hz
  exact ⟨b5,(fun h => by cases h),by simp⟩
 ·cases hc
end Go.Ax
end
section
/-
  SolverSleeps: its body.
-/
set_option maxHeartbeats 4000000
set_option maxRecDepth 100000
namespace Go.Ax
open Go.Proofs
end Go.Ax
end
section
/-
  A body at rest falls asleep.
-/
set_option maxHeartbeats 4000000
set_option maxRecDepth 100000
namespace Go.Ax
open Go.Proofs
theorem whF_in {x:Int} (h:-1000000000000000000 ≤ x):whF x false = false:=by
 unfold whF
 simp
 omega
theorem whV_in {x:Int} (h:-1000000000000000000 ≤ x) (h2:x ≤ 1000000000000000000):whV x = x:=by
 unfold whV
 split <;> omega
theorem ftV_in {x:Int} (h:-1000000000000000000 ≤ x) (h2:x ≤ 1000000000000000000):ftV x = x:=by
 unfold ftV
 (repeat' split) <;> omega
theorem ftF_in {x:Int} (h:-1000000000000000000 ≤ x) (h2:x ≤ 1000000000000000000):ftF x = false:=by
 unfold ftF
 simp
 omega
end Go.Ax
end
section
/-
  Sine and cosine ars they are computed: their squares sum up to one, but for 2^-19. Plain arithmetic.
-/
namespace Go.Ax
def pev:List Int → Int → Int
 | [],_ => 0
 | c :: cs,y => c + y * pev cs y
def padd:List Int → List Int → List Int
 | [],q => q
 | a :: p,[] => a :: p
 | a :: p,b :: q => (a + b) :: padd p q
def psm (k:Int):List Int → List Int
 | [] => []
 | a :: p => k * a :: psm k p
def pmul:List Int → List Int → List Int
 | [],_ => []
 | a :: p,q => padd (psm a q) (0 :: pmul p q)
def pcomp:List Int → List Int → List Int
 | [],_ => []
 | a :: p,q => padd [a] (pmul q (pcomp p q))
def pabs:List Int → Int → Int
 | [],_ => 0
 | c :: cs,B => (if c < 0 then -c else c) + B * pabs cs B
theorem pev_add (y:Int):∀ p q:List Int,pev (padd p q) y = pev p y + pev q y
 | [],q => by simp [padd,pev]
 | a :: p,[] => by simp [padd,pev]
 | a :: p,b :: q => by simp only [padd,pev,pev_add y p q]; grind
theorem pev_sm (k y:Int):∀ p:List Int,pev (psm k p) y = k * pev p y
 | [] => by simp [psm,pev]
 | a :: p => by simp only [psm,pev,pev_sm k y p]; grind
theorem pev_mul (y:Int):∀ p q:List Int,pev (pmul p q) y = pev p y * pev q y
 | [],q => by simp [pmul,pev]
 | a :: p,q => by simp only [pmul,pev,pev_add,pev_sm,pev_mul y p q]; grind
theorem pev_comp (y:Int) (q:List Int):∀ p:List Int,pev (pcomp p q) y = pev p (pev q y)
 | [] => by simp [pcomp,pev]
 | a :: p => by simp only [pcomp,pev,pev_add,pev_mul,pev_comp y q p]; grind
theorem pev_bd {y B:Int} (h0:0 ≤ y) (h1:y ≤ B):∀ cs:List Int,0 ≤ pabs cs B ∧ -(pabs cs B) ≤ pev cs y ∧ pev cs y ≤ pabs cs B
 | [] => by simp [pabs,pev]
 | c :: cs => by
  obtain ⟨k0,k1,k2⟩:=pev_bd h0 h1 cs
  have m1:y * pev cs y ≤ y * pabs cs B:=Int.mul_le_mul_of_nonneg_left k2 h0
  have m2:y * -(pabs cs B) ≤ y * pev cs y:=Int.mul_le_mul_of_nonneg_left k1 h0
  have m3:y * pabs cs B ≤ B * pabs cs B:=Int.mul_le_mul_of_nonneg_right h1 k0
  have m4:0 ≤ y * pabs cs B:=Int.mul_nonneg h0 k0
  rw [Int.mul_neg] at m2
  simp only [pabs,pev]
  split <;> refine ⟨?_,?_,?_⟩ <;> omega
def serT:List Int:=[0,4768988719006436111262234168778648423474656980035636955663595829178822894077063921902894844467270927543474141934655026171951583604355055887615953102486438762529161216000,0,(-43087899414213674021824125643264255072305462219207007284242456456798725817691141891220050084051744617156383553793407931128471747317646658681962496000),0,116789985381818398160573898299231102288065772677584217151319844983904676864291965346766500211691480339536943806187305008155852800,0,(-150742804613711681364039825115385279235570281032314673924162220557576589258871909346252821120275293038182400),0,113496997394961198577319469229027706569291890953579835547744303126809085079968756531200,0,(-55933495975544804015926845529165017287291580706094561614752645120),0,19436928798524005033027957576502600238366720,0,(-5017514388048998039552),0,1]
def serN:Int:=4768988719006436111262234168778648423474656980035636955663595829178822894077063921902894844467270927543474141934655026171951583604355055887615953102486438762529161216000
def serG (q:Int):List Int:=padd (padd (pmul serT serT) (pmul (pcomp serT [q,-1]) (pcomp serT [q,-1]))) [-(serN * 4294967296 * (serN * 4294967296))]
theorem serG_small:pabs (serG 6746518852) 6746518852 * 1048576 ≤ serN * 4294967296 * (serN * 4294967296):=by decide +kernel
theorem serG_small':pabs (serG 6746518851) 6746518851 * 1048576 ≤ serN * 4294967296 * (serN * 4294967296):=by decide +kernel
theorem pev_G {q y:Int}:pev (serG q) y = pev serT y * pev serT y + pev serT (q - y) * pev serT (q - y) - serN * 4294967296 * (serN * 4294967296):=by
 unfold serG
 simp only [pev_add,pev_mul,pev_comp,pev]
 have e:q + y * (-1 + y * 0) = q - y:=by grind
 rw [e]
 generalize pev serT y = a
 generalize pev serT (q - y) = b
 generalize serN = n
 grind
theorem ser_circle {q y:Int} (hq:q = 6746518852 ∨ q = 6746518851) (h0:0 ≤ y) (h1:y ≤ q) :
  -(serN * 4294967296 * (serN * 4294967296)) ≤ 1048576 * (pev serT y * pev serT y + pev serT (q - y) * pev serT (q - y) - serN * 4294967296 * (serN * 4294967296)) ∧
  1048576 * (pev serT y * pev serT y + pev serT (q - y) * pev serT (q - y) - serN * 4294967296 * (serN * 4294967296)) ≤ serN * 4294967296 * (serN * 4294967296):=by
 rw [← pev_G]
 obtain ⟨k0,k1,k2⟩:=pev_bd h0 h1 (serG q)
 have hs:pabs (serG q) q * 1048576 ≤ serN * 4294967296 * (serN * 4294967296):=by
  rcases hq with rfl | rfl
  ·exact serG_small
  ·exact serG_small'
 generalize serN * 4294967296 * (serN * 4294967296) = M at *
 omega
theorem td_err {x k:Int} (hk:0 < k):-k < x - x.tdiv k * k ∧ x - x.tdiv k * k < k:=by
 rcases Int.le_total 0 x with h | h
 ·rw [Int.tdiv_eq_ediv_of_nonneg h]
  have h1:=Int.emod_nonneg x (by omega:k ≠ 0)
  have h2:=Int.emod_lt_of_pos x hk
  have h3:=Int.emod_add_mul_ediv x k
  rw [Int.mul_comm k] at h3
  omega
 ·have e:x.tdiv k = -((-x).tdiv k):=by rw [Int.neg_tdiv,Int.neg_neg]
  rw [e,Int.tdiv_eq_ediv_of_nonneg (by omega)]
  have h1:=Int.emod_nonneg (-x) (by omega:k ≠ 0)
  have h2:=Int.emod_lt_of_pos (-x) hk
  have h3:=Int.emod_add_mul_ediv (-x) k
  rw [Int.mul_comm k] at h3
  rw [Int.neg_mul]
  omega
theorem ab_mul {a b A B:Int} (ha:-A ≤ a ∧ a ≤ A) (hb:-B ≤ b ∧ b ≤ B):-(A * B) ≤ a * b ∧ a * b ≤ A * B:=by
 have hA:0 ≤ A:=by omega
 have hB:0 ≤ B:=by omega
 rcases Int.le_total 0 a with h | h
 ·have k1:a * b ≤ a * B:=Int.mul_le_mul_of_nonneg_left hb.2 h
  have k2:a * -B ≤ a * b:=Int.mul_le_mul_of_nonneg_left hb.1 h
  have k3:a * B ≤ A * B:=Int.mul_le_mul_of_nonneg_right ha.2 hB
  rw [Int.mul_neg] at k2
  omega
 ·have k1:-a * b ≤ -a * B:=Int.mul_le_mul_of_nonneg_left hb.2 (by omega)
  have k2:-a * -B ≤ -a * b:=Int.mul_le_mul_of_nonneg_left hb.1 (by omega)
  have k3:-a * B ≤ A * B:=Int.mul_le_mul_of_nonneg_right (by omega) hB
  simp only [Int.mul_neg,Int.neg_mul] at k1 k2 k3
  omega
def facM (k:Nat):Int:=2 * ((k:Int) + 1) * (2 * ((k:Int) + 1) + 1)
def tq (y:Int):Nat → Int
 | 0 => y
 | k + 1 => -((((tq y k * y).tdiv 4294967296 * y).tdiv 4294967296 * 4294967296).tdiv (facM k * 4294967296))
def sq (y:Int):Nat → Int
 | 0 => y
 | k + 1 => sq y k + tq y (k + 1)
def mq:Nat → Int
 | 0 => 1
 | k + 1 => mq k * (facM k * (4294967296 * 4294967296))
def xq (y:Int):Nat → Int
 | 0 => y
 | k + 1 => -(xq y k * (y * y))
theorem tq_neg (y:Int):∀ k,tq (-y) k = -tq y k
 | 0 => rfl
 | k + 1 => by
  simp only [tq,tq_neg y k,Int.mul_neg,Int.neg_tdiv,Int.neg_mul,Int.neg_neg]
theorem sq_neg (y:Int):∀ k,sq (-y) k = -sq y k
 | 0 => rfl
 | k + 1 => by simp only [sq,sq_neg y k,tq_neg]; omega
theorem ser_step {t y m:Int} (ht:-6746518852 ≤ t ∧ t ≤ 6746518852) (hy:-6746518852 ≤ y ∧ y ≤ 6746518852) (hm:6 ≤ m) :
  (-13493037704 ≤ (t * y).tdiv 4294967296 ∧ (t * y).tdiv 4294967296 ≤ 13493037704) ∧
  (-26986075408 ≤ ((t * y).tdiv 4294967296 * y).tdiv 4294967296 ∧ ((t * y).tdiv 4294967296 * y).tdiv 4294967296 ≤ 26986075408) ∧
  (-6746518852 ≤ -((((t * y).tdiv 4294967296 * y).tdiv 4294967296 * 4294967296).tdiv (m * 4294967296)) ∧ -((((t * y).tdiv 4294967296 * y).tdiv 4294967296 * 4294967296).tdiv (m * 4294967296)) ≤ 6746518852) ∧
  (-(3 + m) * 18446744073709551616 ≤ -((((t * y).tdiv 4294967296 * y).tdiv 4294967296 * 4294967296).tdiv (m * 4294967296)) * (m * 18446744073709551616) + t * (y * y) ∧
   -((((t * y).tdiv 4294967296 * y).tdiv 4294967296 * 4294967296).tdiv (m * 4294967296)) * (m * 18446744073709551616) + t * (y * y) ≤ (3 + m) * 18446744073709551616):=by
 have e3:=td_err (x:=t * y) (k:=4294967296) (by decide)
 have m3:=ab_mul ht hy
 generalize hA:(t * y).tdiv 4294967296 = a at *
 have ba:-13493037704 ≤ a ∧ a ≤ 13493037704:=by omega
 have e2:=td_err (x:=a * y) (k:=4294967296) (by decide)
 have m2:=ab_mul ba hy
 generalize hB:(a * y).tdiv 4294967296 = b at *
 have bb:-26986075408 ≤ b ∧ b ≤ 26986075408:=by omega
 have hm':0 < m * 4294967296:=by omega
 have e1:=td_err (x:=b * 4294967296) (k:=m * 4294967296) hm'
 generalize hC:(b * 4294967296).tdiv (m * 4294967296) = c at *
 have e1':c * (m * 4294967296) = (c * m) * 4294967296:=by grind
 rw [e1'] at e1
 have e0:-m < b - c * m ∧ b - c * m < m:=by omega
 have bc:-6746518852 ≤ c ∧ c ≤ 6746518852:=by
  constructor
  ·refine Int.not_lt.1 fun h => ?_
   have:c * m ≤ (-6746518853) * m:=Int.mul_le_mul_of_nonneg_right (by omega) (by omega)
   omega
  ·refine Int.not_lt.1 fun h => ?_
   have:6746518853 * m ≤ c * m:=Int.mul_le_mul_of_nonneg_right (by omega) (by omega)
   omega
 refine ⟨ba,bb,by omega,?_⟩
 have r3:-4294967296 ≤ t * y - a * 4294967296 ∧ t * y - a * 4294967296 ≤ 4294967296:=by omega
 have k3:=ab_mul r3 hy
 have id1:-c * (m * 18446744073709551616) + t * (y * y) = (t * y - a * 4294967296) * y + (a * y - b * 4294967296) * 4294967296 + (b - c * m) * 18446744073709551616:=by grind
 rw [id1]
 omega
theorem facM_ge (k:Nat):6 ≤ facM k:=by
 unfold facM
 have h1:(2:Int) * ((k:Int) + 1) ≥ 2:=by omega
 have h2:(2:Int) * ((k:Int) + 1) + 1 ≥ 3:=by omega
 have:=Int.mul_le_mul h1 h2 (by omega) (by omega)
 omega
theorem facM_ge1 (k:Nat):20 ≤ facM (k + 1):=by
 unfold facM
 have h1:(2:Int) * (((k + 1:Nat):Int) + 1) ≥ 4:=by omega
 have h2:(2:Int) * (((k + 1:Nat):Int) + 1) + 1 ≥ 5:=by omega
 have:=Int.mul_le_mul h1 h2 (by omega) (by omega)
 omega
theorem mq_pos:∀ k,0 < mq k
 | 0 => by decide
 | k + 1 => by
  simp only [mq]
  have:=facM_ge k
  exact Int.mul_pos (mq_pos k) (Int.mul_pos (by omega) (by decide))
theorem tq_le {y:Int} (hy:-6746518852 ≤ y ∧ y ≤ 6746518852):∀ k,-6746518852 ≤ tq y k ∧ tq y k ≤ 6746518852
 | 0 => hy
 | k + 1 => (ser_step (tq_le hy k) hy (facM_ge k)).2.2.1
theorem err_step {t t' y m M X d:Int} (hM:0 < M) (hy:-6746518852 ≤ y ∧ y ≤ 6746518852) (hd:0 ≤ d) (hd2:d ≤ 2) (h:-(d * M) ≤ t * M - X ∧ t * M - X ≤ d * M)
  (he:-(3 + m) * 18446744073709551616 ≤ t' * (m * 18446744073709551616) + t * (y * y) ∧ t' * (m * 18446744073709551616) + t * (y * y) ≤ (3 + m) * 18446744073709551616) (hm:3 * d + 3 ≤ m) :
  -(2 * (M * (m * (4294967296 * 4294967296)))) ≤ t' * (M * (m * (4294967296 * 4294967296))) - -(X * (y * y)) ∧ t' * (M * (m * (4294967296 * 4294967296))) - -(X * (y * y)) ≤ 2 * (M * (m * (4294967296 * 4294967296))):=by
 have hyy:=ab_mul hy hy
 have y0:0 ≤ y * y:=by
  rcases Int.le_total 0 y with h | h
  ·exact Int.mul_nonneg h h
  ·have:=Int.mul_nonneg (show 0 ≤ -y by omega) (show 0 ≤ -y by omega)
   rwa [Int.neg_mul_neg] at this
 have id1:t' * (M * (m * (4294967296 * 4294967296))) - -(X * (y * y)) = M * (t' * (m * 18446744073709551616) + t * (y * y)) - (t * M - X) * (y * y):=by grind
 rw [id1]
 generalize t * M - X = e at *
 generalize t' * (m * 18446744073709551616) + t * (y * y) = f at *
 generalize y * y = q at *
 have k1:=ab_mul (a:=e) (A:=d * M) h (b:=q) (B:=3 * 18446744073709551616) (by omega)
 have k2:M * f ≤ M * ((3 + m) * 18446744073709551616):=Int.mul_le_mul_of_nonneg_left he.2 (by omega)
 have k3:M * (-(3 + m) * 18446744073709551616) ≤ M * f:=Int.mul_le_mul_of_nonneg_left he.1 (by omega)
 have k4:M * (3 * d + 3) ≤ M * m:=Int.mul_le_mul_of_nonneg_left hm (by omega)
 have j1:M * ((3 + m) * 18446744073709551616) = (3 * M + M * m) * 18446744073709551616:=by grind
 have j2:M * (-(3 + m) * 18446744073709551616) = -((3 * M + M * m) * 18446744073709551616):=by grind
 have j3:d * M * (3 * 18446744073709551616) = (3 * (M * d)) * 18446744073709551616:=by grind
 have j4:M * (3 * d + 3) = 3 * (M * d) + 3 * M:=by grind
 have j5:M * (m * (4294967296 * 4294967296)) = (M * m) * 18446744073709551616:=by grind
 rw [j1] at k2
 rw [j2] at k3
 rw [j3] at k1
 rw [j4] at k4
 rw [j5]
 omega
theorem ser_err {y:Int} (hy:-6746518852 ≤ y ∧ y ≤ 6746518852):∀ k,-(2 * mq (k + 1)) ≤ tq y (k + 1) * mq (k + 1) - xq y (k + 1) ∧ tq y (k + 1) * mq (k + 1) - xq y (k + 1) ≤ 2 * mq (k + 1)
 | 0 => by
  have h:=ser_step (t:=tq y 0) hy hy (facM_ge 0)
  exact err_step (d:=0) (t:=tq y 0) (M:=mq 0) (X:=xq y 0) (m:=facM 0) (mq_pos 0) hy (by omega) (by omega) (by simp [tq,mq,xq]) h.2.2.2 (by have:=facM_ge 0; omega)
 | k + 1 => by
  have h:=ser_step (tq_le hy (k + 1)) hy (facM_ge (k + 1))
  exact err_step (d:=2) (t:=tq y (k + 1)) (M:=mq (k + 1)) (X:=xq y (k + 1)) (m:=facM (k + 1)) (mq_pos _) hy (by omega) (by omega) (ser_err hy k) h.2.2.2 (by have:=facM_ge1 k; omega)
theorem mq_1:mq 1 * 43087899414213674021824125643264255072305462219207007284242456456798725817691141891220050084051744617156383553793407931128471747317646658681962496000 = serN:=by decide +kernel
theorem mq_2:mq 2 * 116789985381818398160573898299231102288065772677584217151319844983904676864291965346766500211691480339536943806187305008155852800 = serN:=by decide +kernel
theorem mq_3:mq 3 * 150742804613711681364039825115385279235570281032314673924162220557576589258871909346252821120275293038182400 = serN:=by decide +kernel
theorem mq_4:mq 4 * 113496997394961198577319469229027706569291890953579835547744303126809085079968756531200 = serN:=by decide +kernel
theorem mq_5:mq 5 * 55933495975544804015926845529165017287291580706094561614752645120 = serN:=by decide +kernel
theorem mq_6:mq 6 * 19436928798524005033027957576502600238366720 = serN:=by decide +kernel
theorem mq_7:mq 7 * 5017514388048998039552 = serN:=by decide +kernel
theorem mq_8:mq 8 * 1 = serN:=by decide +kernel
theorem err_R {t M X r N:Int} (hM:0 < M) (hr:0 ≤ r) (e:M * r = N) (h:-(2 * M) ≤ t * M - X ∧ t * M - X ≤ 2 * M):-(2 * N) ≤ t * N - X * r ∧ t * N - X * r ≤ 2 * N:=by
 have k1:=Int.mul_le_mul_of_nonneg_right h.1 hr
 have k2:=Int.mul_le_mul_of_nonneg_right h.2 hr
 subst e
 have j1:-(2 * M) * r = -(2 * (M * r)):=by grind
 have j2:(t * M - X) * r = t * (M * r) - X * r:=by grind
 have j3:2 * M * r = 2 * (M * r):=by grind
 rw [j1,j2] at k1
 rw [j2,j3] at k2
 exact ⟨k1,k2⟩
theorem ser_sum {y:Int} (hy:-6746518852 ≤ y ∧ y ≤ 6746518852):-(16 * serN) ≤ sq y 8 * serN - pev serT y ∧ sq y 8 * serN - pev serT y ≤ 16 * serN:=by
 have e1:-(2 * serN) ≤ tq y 1 * serN - xq y 1 * 43087899414213674021824125643264255072305462219207007284242456456798725817691141891220050084051744617156383553793407931128471747317646658681962496000 ∧ tq y 1 * serN - xq y 1 * 43087899414213674021824125643264255072305462219207007284242456456798725817691141891220050084051744617156383553793407931128471747317646658681962496000 ≤ 2 * serN:=err_R (mq_pos 1) (by decide) mq_1 (ser_err hy 0)
 have e2:-(2 * serN) ≤ tq y 2 * serN - xq y 2 * 116789985381818398160573898299231102288065772677584217151319844983904676864291965346766500211691480339536943806187305008155852800 ∧ tq y 2 * serN - xq y 2 * 116789985381818398160573898299231102288065772677584217151319844983904676864291965346766500211691480339536943806187305008155852800 ≤ 2 * serN:=err_R (mq_pos 2) (by decide) mq_2 (ser_err hy 1)
 have e3:-(2 * serN) ≤ tq y 3 * serN - xq y 3 * 150742804613711681364039825115385279235570281032314673924162220557576589258871909346252821120275293038182400 ∧ tq y 3 * serN - xq y 3 * 150742804613711681364039825115385279235570281032314673924162220557576589258871909346252821120275293038182400 ≤ 2 * serN:=err_R (mq_pos 3) (by decide) mq_3 (ser_err hy 2)
 have e4:-(2 * serN) ≤ tq y 4 * serN - xq y 4 * 113496997394961198577319469229027706569291890953579835547744303126809085079968756531200 ∧ tq y 4 * serN - xq y 4 * 113496997394961198577319469229027706569291890953579835547744303126809085079968756531200 ≤ 2 * serN:=err_R (mq_pos 4) (by decide) mq_4 (ser_err hy 3)
 have e5:-(2 * serN) ≤ tq y 5 * serN - xq y 5 * 55933495975544804015926845529165017287291580706094561614752645120 ∧ tq y 5 * serN - xq y 5 * 55933495975544804015926845529165017287291580706094561614752645120 ≤ 2 * serN:=err_R (mq_pos 5) (by decide) mq_5 (ser_err hy 4)
 have e6:-(2 * serN) ≤ tq y 6 * serN - xq y 6 * 19436928798524005033027957576502600238366720 ∧ tq y 6 * serN - xq y 6 * 19436928798524005033027957576502600238366720 ≤ 2 * serN:=err_R (mq_pos 6) (by decide) mq_6 (ser_err hy 5)
 have e7:-(2 * serN) ≤ tq y 7 * serN - xq y 7 * 5017514388048998039552 ∧ tq y 7 * serN - xq y 7 * 5017514388048998039552 ≤ 2 * serN:=err_R (mq_pos 7) (by decide) mq_7 (ser_err hy 6)
 have e8:-(2 * serN) ≤ tq y 8 * serN - xq y 8 * 1 ∧ tq y 8 * serN - xq y 8 * 1 ≤ 2 * serN:=err_R (mq_pos 8) (by decide) mq_8 (ser_err hy 7)
 have hs:sq y 8 * serN = y * serN + tq y 1 * serN + tq y 2 * serN + tq y 3 * serN + tq y 4 * serN + tq y 5 * serN + tq y 6 * serN + tq y 7 * serN + tq y 8 * serN:=by
  simp only [sq]
  generalize serN = n
  grind
 have hp:pev serT y = y * serN + xq y 1 * 43087899414213674021824125643264255072305462219207007284242456456798725817691141891220050084051744617156383553793407931128471747317646658681962496000 + xq y 2 * 116789985381818398160573898299231102288065772677584217151319844983904676864291965346766500211691480339536943806187305008155852800 + xq y 3 * 150742804613711681364039825115385279235570281032314673924162220557576589258871909346252821120275293038182400 + xq y 4 * 113496997394961198577319469229027706569291890953579835547744303126809085079968756531200 + xq y 5 * 55933495975544804015926845529165017287291580706094561614752645120 + xq y 6 * 19436928798524005033027957576502600238366720 + xq y 7 * 5017514388048998039552 + xq y 8 * 1:=by
  simp only [xq,pev,serT,serN]
  grind
 rw [hs,hp]
 omega
theorem sq_circle0 {q y:Int} (hq:q = 6746518852 ∨ q = 6746518851) (h0:0 ≤ y) (h1:y ≤ q) :
  -35184372088832 ≤ sq y 8 * sq y 8 + sq (q - y) 8 * sq (q - y) 8 - 18446744073709551616 ∧ sq y 8 * sq y 8 + sq (q - y) 8 * sq (q - y) 8 - 18446744073709551616 ≤ 35184372088832:=by
 have hc:=ser_circle hq h0 h1
 have ha:=ser_sum (y:=y) (by omega)
 have hb:=ser_sum (y:=q - y) (by omega)
 generalize sq y 8 = S at *
 generalize sq (q - y) 8 = C at *
 generalize pev serT y = A at *
 generalize pev serT (q - y) = B at *
 have hN:0 < serN:=by decide +kernel
 have hN1:1000000 ≤ serN:=by decide +kernel
 generalize serN = N at *
 have sqA:0 ≤ A * A:=by
  rcases Int.le_total 0 A with h | h
  ·exact Int.mul_nonneg h h
  ·have:=Int.mul_nonneg (show 0 ≤ -A by omega) (show 0 ≤ -A by omega)
   rwa [Int.neg_mul_neg] at this
 have sqB:0 ≤ B * B:=by
  rcases Int.le_total 0 B with h | h
  ·exact Int.mul_nonneg h h
  ·have:=Int.mul_nonneg (show 0 ≤ -B by omega) (show 0 ≤ -B by omega)
   rwa [Int.neg_mul_neg] at this
 have jN:N * 4294967296 * (N * 4294967296) = (N * N) * 18446744073709551616:=by grind
 rw [jN] at hc
 have nn:0 < N * N:=Int.mul_pos hN hN
 have big:∀ X:Int,X * X ≤ (N * N) * 18446744073709551616 * 2 → -(2 * (N * 4294967296)) ≤ X ∧ X ≤ 2 * (N * 4294967296):=fun X hX => by
  have p0:0 < N * 4294967296:=by omega
  constructor
  ·refine Int.not_lt.1 fun h => ?_
   have h1:2 * (N * 4294967296) ≤ -X:=by omega
   have h2:=Int.mul_le_mul h1 h1 (by omega) (by omega)
   have h3:2 * (N * 4294967296) * (2 * (N * 4294967296)) = (N * N) * 18446744073709551616 * 4:=by grind
   have h4:-X * -X = X * X:=by grind
   rw [h3,h4] at h2
   omega
  ·refine Int.not_lt.1 fun h => ?_
   have h1:2 * (N * 4294967296) ≤ X:=by omega
   have h2:=Int.mul_le_mul h1 h1 (by omega) (by omega)
   have h3:2 * (N * 4294967296) * (2 * (N * 4294967296)) = (N * N) * 18446744073709551616 * 4:=by grind
   rw [h3] at h2
   omega
 have bA:=big A (by omega)
 have bB:=big B (by omega)
 have err:∀ X s:Int,-(2 * (N * 4294967296)) ≤ X ∧ X ≤ 2 * (N * 4294967296) → -(16 * N) ≤ s * N - X ∧ s * N - X ≤ 16 * N → -((N * N) * 300000000000) ≤ (s * s) * (N * N) - X * X ∧ (s * s) * (N * N) - X * X ≤ (N * N) * 300000000000:=fun X s hX hs => by
  have id1:(s * s) * (N * N) - X * X = (s * N - X) * (s * N - X) + 2 * ((s * N - X) * X):=by grind
  rw [id1]
  have k1:=ab_mul hs hs
  have k2:=ab_mul hs hX
  have j1:16 * N * (16 * N) = (N * N) * 256:=by grind
  have j2:16 * N * (2 * (N * 4294967296)) = (N * N) * 137438953472:=by grind
  rw [j1] at k1
  rw [j2] at k2
  omega
 have eA:=err A S bA ha
 have eB:=err B C bB hb
 have fin:∀ z:Int,z * (N * N) ≤ (N * N) * 18000000000000 → z ≤ 18000000000000:=fun z hz => Int.not_lt.1 fun h => by
  have:=Int.mul_lt_mul_of_pos_left h nn
  rw [Int.mul_comm] at this
  have e:N * N * z = z * (N * N):=Int.mul_comm _ _
  omega
 have u1:(S * S + C * C - 18446744073709551616) * (N * N) ≤ (N * N) * 18000000000000 + (N * N) * 600000000000:=by
  have e:(S * S + C * C - 18446744073709551616) * (N * N) = S * S * (N * N) + C * C * (N * N) - (N * N) * 18446744073709551616:=by grind
  rw [e]; omega
 have u2:-((N * N) * 18000000000000 + (N * N) * 600000000000) ≤ (S * S + C * C - 18446744073709551616) * (N * N):=by
  have e:(S * S + C * C - 18446744073709551616) * (N * N) = S * S * (N * N) + C * C * (N * N) - (N * N) * 18446744073709551616:=by grind
  rw [e]; omega
 have fin2:∀ z:Int,z * (N * N) ≤ (N * N) * 35184372088832 → z ≤ 35184372088832:=fun z hz => Int.not_lt.1 fun h => by
  have h2:=Int.mul_lt_mul_of_pos_left h nn
  have e:N * N * z = z * (N * N):=Int.mul_comm _ _
  omega
 constructor
 ·have:=fin2 (-(S * S + C * C - 18446744073709551616)) (by rw [Int.neg_mul]; omega)
  omega
 ·exact fin2 _ (by omega)
theorem sq_circle {y z:Int} (hy:-6746518852 ≤ y ∧ y ≤ 6746518852) {q:Int} (hq:q = 6746518852 ∨ q = 6746518851) (h1:(if y < 0 then -y else y) ≤ q) (hz:(if z < 0 then -z else z) = q - (if y < 0 then -y else y)) :
  -35184372088832 ≤ sq y 8 * sq y 8 + sq z 8 * sq z 8 - 18446744073709551616 ∧ sq y 8 * sq y 8 + sq z 8 * sq z 8 - 18446744073709551616 ≤ 35184372088832:=by
 have h:=sq_circle0 (y:=if y < 0 then -y else y) hq (by split <;> omega) h1
 rw [← hz] at h
 have e:∀ x:Int,sq (if x < 0 then -x else x) 8 * sq (if x < 0 then -x else x) 8 = sq x 8 * sq x 8:=fun x => by
  split
  ·rw [sq_neg,Int.neg_mul_neg]
  ·rfl
 rw [e,e] at h
 exact h
end Go.Ax
end
section
/-
  The sine's series, ars plain numbers.
-/
set_option maxHeartbeats 4000000
set_option maxRecDepth 100000
namespace Go.Ax
open Go.Proofs
theorem td_le {x A:Int} (h:-(A * 4294967296) ≤ x ∧ x ≤ A * 4294967296):-A ≤ x.tdiv 4294967296 ∧ x.tdiv 4294967296 ≤ A:=by
 have e:=@td_err x 4294967296 (by omega)
 omega
theorem nMul_in {t y:Int} (ht:-100000000000 ≤ t ∧ t ≤ 100000000000) (hy:-6746518852 ≤ y ∧ y ≤ 6746518852):nMul (t,false) (y,false) = ((t * y).tdiv 4294967296,false) ∧ (-200000000000 ≤ (t * y).tdiv 4294967296 ∧ (t * y).tdiv 4294967296 ≤ 200000000000):=by
 have h:=ab_mul ht hy
 have h2:=@td_le (t * y) 200000000000 (by omega)
 refine ⟨?_,h2⟩
 unfold nMul
 dsimp only
 rw [whV_in (by omega) (by omega),whV_in (by omega) (by omega),ftV_in (by omega) (by omega),ftF_in (by omega) (by omega),whF_in (by omega),whF_in (by omega)]
 rfl
theorem nInt_in {n:Int} (h:0 ≤ n ∧ n ≤ 1000000):nInt n = (n * 4294967296,false):=by
 unfold nInt
 rw [ftV_in (by omega) (by omega),ftF_in (by omega) (by omega)]
 rfl
theorem facM_le {k:Nat} (h:k < 8):facM k ≤ 1000:=by
 unfold facM
 match k,h with
 | 0,_ | 1,_ | 2,_ | 3,_ | 4,_ | 5,_ | 6,_ | 7,_ => decide
 | k + 8,h => omega
theorem snT_eq {y:Int} (hy:-6746518852 ≤ y ∧ y ≤ 6746518852):∀ k,k ≤ 8 → snT (y,false) k = (tq y k,false)
 | 0,_ => rfl
 | k + 1,hk => by
  have ht:=tq_le hy k
  have g1:=facM_ge k
  have g2:=@facM_le k (by omega)
  obtain ⟨s1,s2,s3,s4⟩:=ser_step (m:=facM k) ht hy g1
  show nNeg (nDiv (nMul (nMul (snT (y,false) k) (y,false)) (y,false)) (nInt (facM k))) = _
  rw [snT_eq hy k (by omega),(nMul_in (by omega) hy).1,(nMul_in (by omega) hy).1,nInt_in (by omega)]
  show nNeg (nDiv _ _) = (-((((tq y k * y).tdiv 4294967296 * y).tdiv 4294967296 * 4294967296).tdiv (facM k * 4294967296)),false)
  generalize ((tq y k * y).tdiv 4294967296 * y).tdiv 4294967296 = u at *
  unfold nDiv raV raF
  dsimp only
  rw [whV_in (by omega) (by omega),whV_in (by omega) (by omega),if_neg (by omega),if_neg (by omega)]
  generalize (u * 4294967296).tdiv (facM k * 4294967296) = v at *
  rw [ftV_in (by omega) (by omega),ftF_in (by omega) (by omega),whF_in (by omega),whF_in (by omega)]
  unfold nNeg
  dsimp only
  rw [whV_in (by omega) (by omega)]
  show (-v,whF v false) = _
  rw [whF_in (by omega)]
theorem sq_le {y:Int} (hy:-6746518852 ≤ y ∧ y ≤ 6746518852):∀ k:Nat,k ≤ 8 → -((k + 1:Int) * 6746518852) ≤ sq y k ∧ sq y k ≤ (k + 1:Int) * 6746518852
 | 0,_ => by
  show _ ≤ y ∧ y ≤ _
  omega
 | k + 1,hk => by
  have h1:=sq_le hy k (by omega)
  have h2:=tq_le hy (k + 1)
  show _ ≤ sq y k + tq y (k + 1) ∧ sq y k + tq y (k + 1) ≤ _
  omega
theorem snS_eq {y:Int} (hy:-6746518852 ≤ y ∧ y ≤ 6746518852):∀ k,k ≤ 8 → snS (y,false) k = (sq y k,false)
 | 0,_ => rfl
 | k + 1,hk => by
  have h1:=sq_le hy k (by omega)
  have h2:=tq_le hy (k + 1)
  show nAdd (snS (y,false) k) (snT (y,false) (k + 1)) = (sq y k + tq y (k + 1),false)
  rw [snS_eq hy k (by omega),snT_eq hy (k + 1) hk]
  unfold nAdd
  dsimp only
  rw [whV_in (by omega) (by omega),whV_in (by omega) (by omega),ftV_in (by omega) (by omega),ftF_in (by omega) (by omega),whF_in (by omega),whF_in (by omega)]
  rfl
end Go.Ax
end
section
/-
  Made polygons are convex.
-/
set_option maxHeartbeats 4000000
set_option maxRecDepth 100000
namespace Go.Ax
open Go.Proofs
theorem mul_ge {M T:Int} (hM:64 ≤ M) (hT:64 ≤ T):64 * M ≤ M * T ∧ 64 * T ≤ M * T:=by
 have h1:M * 64 ≤ M * T:=Int.mul_le_mul_of_nonneg_left hT (by omega)
 have h2:64 * T ≤ M * T:=Int.mul_le_mul_of_nonneg_right hM (by omega)
 omega
theorem tri_cvx {M T:Int} (hM:64 ≤ M) (hT:64 ≤ T) {X Y:Nat → Int} (x0:X 0 = -M) (x1:X 1 = M) (x2:X 2 = 0) (y0:Y 0 = -T) (y1:Y 1 = -T) (y2:Y 2 = T):cvxS 3 X Y = true:=by
 obtain ⟨p1,p2⟩:=mul_ge hM hT
 unfold cvxS
 refine decide_eq_true fun i hi => ?_
 match i,hi with
 | 0,_ =>
  rw [show nxt 3 0 = 1 from rfl,show nxt2 3 0 = 2 from rfl,x0,x1,x2,y0,y1,y2]
  refine ⟨?_,fun j hj k1 k2 => ?_⟩
  ·simp only [Int.sub_mul,Int.mul_sub,Int.add_mul,Int.mul_add,Int.neg_mul,Int.mul_neg,Int.zero_mul,Int.mul_zero,Int.mul_comm T M,Int.neg_neg,ab]
   (repeat' split) <;> omega
  ·match j,hj,k1,k2 with
   | 0,_,k1,k2 => exact absurd rfl k1
   | 1,_,k1,k2 => exact absurd rfl k2
   | 2,_,_,_ =>
    rw [x2,y2]
    simp only [Int.sub_mul,Int.mul_sub,Int.add_mul,Int.mul_add,Int.neg_mul,Int.mul_neg,Int.zero_mul,Int.mul_zero,Int.mul_comm T M,Int.neg_neg,ab]
    omega
   | j + 3,h,_,_ => omega
 | 1,_ =>
  rw [show nxt 3 1 = 2 from rfl,show nxt2 3 1 = 0 from rfl,x0,x1,x2,y0,y1,y2]
  refine ⟨?_,fun j hj k1 k2 => ?_⟩
  ·simp only [Int.sub_mul,Int.mul_sub,Int.add_mul,Int.mul_add,Int.neg_mul,Int.mul_neg,Int.zero_mul,Int.mul_zero,Int.mul_comm T M,Int.neg_neg,ab]
   (repeat' split) <;> omega
  ·match j,hj,k1,k2 with
   | 0,_,_,_ =>
    rw [x0,y0]
    simp only [Int.sub_mul,Int.mul_sub,Int.add_mul,Int.mul_add,Int.neg_mul,Int.mul_neg,Int.zero_mul,Int.mul_zero,Int.mul_comm T M,Int.neg_neg,ab]
    omega
   | 1,_,k1,k2 => exact absurd rfl k1
   | 2,_,k1,k2 => exact absurd rfl k2
   | j + 3,h,_,_ => omega
 | 2,_ =>
  rw [show nxt 3 2 = 0 from rfl,show nxt2 3 2 = 1 from rfl,x0,x1,x2,y0,y1,y2]
  refine ⟨?_,fun j hj k1 k2 => ?_⟩
  ·simp only [Int.sub_mul,Int.mul_sub,Int.add_mul,Int.mul_add,Int.neg_mul,Int.mul_neg,Int.zero_mul,Int.mul_zero,Int.mul_comm T M,Int.neg_neg,ab]
   (repeat' split) <;> omega
  ·match j,hj,k1,k2 with
   | 0,_,k1,k2 => exact absurd rfl k2
   | 1,_,_,_ =>
    rw [x1,y1]
    simp only [Int.sub_mul,Int.mul_sub,Int.add_mul,Int.mul_add,Int.neg_mul,Int.mul_neg,Int.zero_mul,Int.mul_zero,Int.mul_comm T M,Int.neg_neg,ab]
    omega
   | 2,_,k1,k2 => exact absurd rfl k1
   | j + 3,h,_,_ => omega
 | i + 3,h => omega
end Go.Ax
end
section
/-
  Made polygons of five and eight corners are convex.
-/
set_option maxHeartbeats 4000000
set_option maxRecDepth 100000
namespace Go.Ax
open Go.Proofs
theorem pen_cvx {M T h:Int} (hM:64 ≤ M) (hT:64 ≤ T) (h1:2 * h ≤ M) (h2:M ≤ 2 * h + 1) {X Y:Nat → Int} (x0:X 0 = -h) (y0:Y 0 = -T) (x1:X 1 = h) (y1:Y 1 = -T) (x2:X 2 = M) (y2:Y 2 = 0) (x3:X 3 = 0) (y3:Y 3 = T) (x4:X 4 = -M) (y4:Y 4 = 0):cvxS 5 X Y = true:=by
 obtain ⟨p1,p2⟩:=mul_ge hM hT
 have q1:(2 * h) * T ≤ M * T:=Int.mul_le_mul_of_nonneg_right h1 (by omega)
 have q2:M * T ≤ (2 * h + 1) * T:=Int.mul_le_mul_of_nonneg_right h2 (by omega)
 have q3:h * 64 ≤ h * T:=Int.mul_le_mul_of_nonneg_left hT (by omega)
 rw [Int.mul_assoc] at q1
 rw [Int.add_mul,Int.mul_assoc,Int.one_mul] at q2
 unfold cvxS
 refine decide_eq_true fun i hi => ?_
 match i,hi with
 | 0,_ =>
  rw [show nxt 5 0 = 1 from rfl,show nxt2 5 0 = 2 from rfl,x0,x1,x2,y0,y1,y2]
  refine ⟨?_,fun j hj k1 k2 => ?_⟩
  ·simp only [Int.sub_mul,Int.mul_sub,Int.add_mul,Int.mul_add,Int.neg_mul,Int.mul_neg,Int.zero_mul,Int.mul_zero,Int.mul_comm T M,Int.mul_comm T h,Int.neg_neg,ab]
   (repeat' split) <;> omega
  ·match j,hj,k1,k2 with
   | 0,_,k1,k2 => exact absurd rfl k1
   | 1,_,k1,k2 => exact absurd rfl k2
   | 2,_,_,_ =>
    rw [x2,y2]
    simp only [Int.sub_mul,Int.mul_sub,Int.add_mul,Int.mul_add,Int.neg_mul,Int.mul_neg,Int.zero_mul,Int.mul_zero,Int.mul_comm T M,Int.mul_comm T h,Int.neg_neg,ab]
    omega
   | 3,_,_,_ =>
    rw [x3,y3]
    simp only [Int.sub_mul,Int.mul_sub,Int.add_mul,Int.mul_add,Int.neg_mul,Int.mul_neg,Int.zero_mul,Int.mul_zero,Int.mul_comm T M,Int.mul_comm T h,Int.neg_neg,ab]
    omega
   | 4,_,_,_ =>
    rw [x4,y4]
    simp only [Int.sub_mul,Int.mul_sub,Int.add_mul,Int.mul_add,Int.neg_mul,Int.mul_neg,Int.zero_mul,Int.mul_zero,Int.mul_comm T M,Int.mul_comm T h,Int.neg_neg,ab]
    omega
   | j + 5,h,_,_ => omega
 | 1,_ =>
  rw [show nxt 5 1 = 2 from rfl,show nxt2 5 1 = 3 from rfl,x1,x2,x3,y1,y2,y3]
  refine ⟨?_,fun j hj k1 k2 => ?_⟩
  ·simp only [Int.sub_mul,Int.mul_sub,Int.add_mul,Int.mul_add,Int.neg_mul,Int.mul_neg,Int.zero_mul,Int.mul_zero,Int.mul_comm T M,Int.mul_comm T h,Int.neg_neg,ab]
   (repeat' split) <;> omega
  ·match j,hj,k1,k2 with
   | 0,_,_,_ =>
    rw [x0,y0]
    simp only [Int.sub_mul,Int.mul_sub,Int.add_mul,Int.mul_add,Int.neg_mul,Int.mul_neg,Int.zero_mul,Int.mul_zero,Int.mul_comm T M,Int.mul_comm T h,Int.neg_neg,ab]
    omega
   | 1,_,k1,k2 => exact absurd rfl k1
   | 2,_,k1,k2 => exact absurd rfl k2
   | 3,_,_,_ =>
    rw [x3,y3]
    simp only [Int.sub_mul,Int.mul_sub,Int.add_mul,Int.mul_add,Int.neg_mul,Int.mul_neg,Int.zero_mul,Int.mul_zero,Int.mul_comm T M,Int.mul_comm T h,Int.neg_neg,ab]
    omega
   | 4,_,_,_ =>
    rw [x4,y4]
    simp only [Int.sub_mul,Int.mul_sub,Int.add_mul,Int.mul_add,Int.neg_mul,Int.mul_neg,Int.zero_mul,Int.mul_zero,Int.mul_comm T M,Int.mul_comm T h,Int.neg_neg,ab]
    omega
   | j + 5,h,_,_ => omega
 | 2,_ =>
  rw [show nxt 5 2 = 3 from rfl,show nxt2 5 2 = 4 from rfl,x2,x3,x4,y2,y3,y4]
  refine ⟨?_,fun j hj k1 k2 => ?_⟩
  ·simp only [Int.sub_mul,Int.mul_sub,Int.add_mul,Int.mul_add,Int.neg_mul,Int.mul_neg,Int.zero_mul,Int.mul_zero,Int.mul_comm T M,Int.mul_comm T h,Int.neg_neg,ab]
   (repeat' split) <;> omega
  ·match j,hj,k1,k2 with
   | 0,_,_,_ =>
    rw [x0,y0]
    simp only [Int.sub_mul,Int.mul_sub,Int.add_mul,Int.mul_add,Int.neg_mul,Int.mul_neg,Int.zero_mul,Int.mul_zero,Int.mul_comm T M,Int.mul_comm T h,Int.neg_neg,ab]
    omega
   | 1,_,_,_ =>
    rw [x1,y1]
    simp only [Int.sub_mul,Int.mul_sub,Int.add_mul,Int.mul_add,Int.neg_mul,Int.mul_neg,Int.zero_mul,Int.mul_zero,Int.mul_comm T M,Int.mul_comm T h,Int.neg_neg,ab]
    omega
   | 2,_,k1,k2 => exact absurd rfl k1
   | 3,_,k1,k2 => exact absurd rfl k2
   | 4,_,_,_ =>
    rw [x4,y4]
    simp only [Int.sub_mul,Int.mul_sub,Int.add_mul,Int.mul_add,Int.neg_mul,Int.mul_neg,Int.zero_mul,Int.mul_zero,Int.mul_comm T M,Int.mul_comm T h,Int.neg_neg,ab]
    omega
   | j + 5,h,_,_ => omega
 | 3,_ =>
  rw [show nxt 5 3 = 4 from rfl,show nxt2 5 3 = 0 from rfl,x3,x4,x0,y3,y4,y0]
  refine ⟨?_,fun j hj k1 k2 => ?_⟩
  ·simp only [Int.sub_mul,Int.mul_sub,Int.add_mul,Int.mul_add,Int.neg_mul,Int.mul_neg,Int.zero_mul,Int.mul_zero,Int.mul_comm T M,Int.mul_comm T h,Int.neg_neg,ab]
   (repeat' split) <;> omega
  ·match j,hj,k1,k2 with
   | 0,_,_,_ =>
    rw [x0,y0]
    simp only [Int.sub_mul,Int.mul_sub,Int.add_mul,Int.mul_add,Int.neg_mul,Int.mul_neg,Int.zero_mul,Int.mul_zero,Int.mul_comm T M,Int.mul_comm T h,Int.neg_neg,ab]
    omega
   | 1,_,_,_ =>
    rw [x1,y1]
    simp only [Int.sub_mul,Int.mul_sub,Int.add_mul,Int.mul_add,Int.neg_mul,Int.mul_neg,Int.zero_mul,Int.mul_zero,Int.mul_comm T M,Int.mul_comm T h,Int.neg_neg,ab]
    omega
   | 2,_,_,_ =>
    rw [x2,y2]
    simp only [Int.sub_mul,Int.mul_sub,Int.add_mul,Int.mul_add,Int.neg_mul,Int.mul_neg,Int.zero_mul,Int.mul_zero,Int.mul_comm T M,Int.mul_comm T h,Int.neg_neg,ab]
    omega
   | 3,_,k1,k2 => exact absurd rfl k1
   | 4,_,k1,k2 => exact absurd rfl k2
   | j + 5,h,_,_ => omega
 | 4,_ =>
  rw [show nxt 5 4 = 0 from rfl,show nxt2 5 4 = 1 from rfl,x4,x0,x1,y4,y0,y1]
  refine ⟨?_,fun j hj k1 k2 => ?_⟩
  ·simp only [Int.sub_mul,Int.mul_sub,Int.add_mul,Int.mul_add,Int.neg_mul,Int.mul_neg,Int.zero_mul,Int.mul_zero,Int.mul_comm T M,Int.mul_comm T h,Int.neg_neg,ab]
   (repeat' split) <;> omega
  ·match j,hj,k1,k2 with
   | 0,_,k1,k2 => exact absurd rfl k2
   | 1,_,_,_ =>
    rw [x1,y1]
    simp only [Int.sub_mul,Int.mul_sub,Int.add_mul,Int.mul_add,Int.neg_mul,Int.mul_neg,Int.zero_mul,Int.mul_zero,Int.mul_comm T M,Int.mul_comm T h,Int.neg_neg,ab]
    omega
   | 2,_,_,_ =>
    rw [x2,y2]
    simp only [Int.sub_mul,Int.mul_sub,Int.add_mul,Int.mul_add,Int.neg_mul,Int.mul_neg,Int.zero_mul,Int.mul_zero,Int.mul_comm T M,Int.mul_comm T h,Int.neg_neg,ab]
    omega
   | 3,_,_,_ =>
    rw [x3,y3]
    simp only [Int.sub_mul,Int.mul_sub,Int.add_mul,Int.mul_add,Int.neg_mul,Int.mul_neg,Int.zero_mul,Int.mul_zero,Int.mul_comm T M,Int.mul_comm T h,Int.neg_neg,ab]
    omega
   | 4,_,k1,k2 => exact absurd rfl k1
   | j + 5,h,_,_ => omega
 | i + 5,h => omega
theorem oct_cvx {M h:Int} (hM:64 ≤ M) (h1:2 * h ≤ M) (h2:M ≤ 2 * h + 1) {X Y:Nat → Int} (x0:X 0 = M) (y0:Y 0 = -h) (x1:X 1 = M) (y1:Y 1 = h) (x2:X 2 = h) (y2:Y 2 = M) (x3:X 3 = -h) (y3:Y 3 = M) (x4:X 4 = -M) (y4:Y 4 = h) (x5:X 5 = -M) (y5:Y 5 = -h) (x6:X 6 = -h) (y6:Y 6 = -M) (x7:X 7 = h) (y7:Y 7 = -M):cvxS 8 X Y = true:=by
 have p1:64 * M ≤ M * M:=Int.mul_le_mul_of_nonneg_right hM (by omega)
 have q1:(2 * h) * M ≤ M * M:=Int.mul_le_mul_of_nonneg_right h1 (by omega)
 have q2:M * M ≤ (2 * h + 1) * M:=Int.mul_le_mul_of_nonneg_right h2 (by omega)
 have q3:h * (2 * h) ≤ h * M:=Int.mul_le_mul_of_nonneg_left h1 (by omega)
 have q4:h * M ≤ h * (2 * h + 1):=Int.mul_le_mul_of_nonneg_left h2 (by omega)
 have q5:32 * h ≤ h * h:=Int.mul_le_mul_of_nonneg_right (by omega) (by omega)
 rw [Int.mul_assoc] at q1
 rw [Int.add_mul,Int.mul_assoc,Int.one_mul] at q2
 rw [Int.mul_left_comm] at q3
 rw [Int.mul_add,Int.mul_left_comm,Int.mul_one] at q4
 unfold cvxS
 refine decide_eq_true fun i hi => ?_
 match i,hi with
 | 0,_ =>
  rw [show nxt 8 0 = 1 from rfl,show nxt2 8 0 = 2 from rfl,x0,x1,x2,y0,y1,y2]
  refine ⟨?_,fun j hj k1 k2 => ?_⟩
  ·simp only [Int.sub_mul,Int.mul_sub,Int.add_mul,Int.mul_add,Int.neg_mul,Int.mul_neg,Int.zero_mul,Int.mul_zero,Int.mul_comm M h,Int.neg_neg,ab]
   (repeat' split) <;> omega
  ·match j,hj,k1,k2 with
   | 0,_,k1,k2 => exact absurd rfl k1
   | 1,_,k1,k2 => exact absurd rfl k2
   | 2,_,_,_ =>
    rw [x2,y2]
    simp only [Int.sub_mul,Int.mul_sub,Int.add_mul,Int.mul_add,Int.neg_mul,Int.mul_neg,Int.zero_mul,Int.mul_zero,Int.mul_comm M h,Int.neg_neg,ab]
    omega
   | 3,_,_,_ =>
    rw [x3,y3]
    simp only [Int.sub_mul,Int.mul_sub,Int.add_mul,Int.mul_add,Int.neg_mul,Int.mul_neg,Int.zero_mul,Int.mul_zero,Int.mul_comm M h,Int.neg_neg,ab]
    omega
   | 4,_,_,_ =>
    rw [x4,y4]
    simp only [Int.sub_mul,Int.mul_sub,Int.add_mul,Int.mul_add,Int.neg_mul,Int.mul_neg,Int.zero_mul,Int.mul_zero,Int.mul_comm M h,Int.neg_neg,ab]
    omega
   | 5,_,_,_ =>
    rw [x5,y5]
    simp only [Int.sub_mul,Int.mul_sub,Int.add_mul,Int.mul_add,Int.neg_mul,Int.mul_neg,Int.zero_mul,Int.mul_zero,Int.mul_comm M h,Int.neg_neg,ab]
    omega
   | 6,_,_,_ =>
    rw [x6,y6]
    simp only [Int.sub_mul,Int.mul_sub,Int.add_mul,Int.mul_add,Int.neg_mul,Int.mul_neg,Int.zero_mul,Int.mul_zero,Int.mul_comm M h,Int.neg_neg,ab]
    omega
   | 7,_,_,_ =>
    rw [x7,y7]
    simp only [Int.sub_mul,Int.mul_sub,Int.add_mul,Int.mul_add,Int.neg_mul,Int.mul_neg,Int.zero_mul,Int.mul_zero,Int.mul_comm M h,Int.neg_neg,ab]
    omega
   | j + 8,h,_,_ => omega
 | 1,_ =>
  rw [show nxt 8 1 = 2 from rfl,show nxt2 8 1 = 3 from rfl,x1,x2,x3,y1,y2,y3]
  refine ⟨?_,fun j hj k1 k2 => ?_⟩
  ·simp only [Int.sub_mul,Int.mul_sub,Int.add_mul,Int.mul_add,Int.neg_mul,Int.mul_neg,Int.zero_mul,Int.mul_zero,Int.mul_comm M h,Int.neg_neg,ab]
   (repeat' split) <;> omega
  ·match j,hj,k1,k2 with
   | 0,_,_,_ =>
    rw [x0,y0]
    simp only [Int.sub_mul,Int.mul_sub,Int.add_mul,Int.mul_add,Int.neg_mul,Int.mul_neg,Int.zero_mul,Int.mul_zero,Int.mul_comm M h,Int.neg_neg,ab]
    omega
   | 1,_,k1,k2 => exact absurd rfl k1
   | 2,_,k1,k2 => exact absurd rfl k2
   | 3,_,_,_ =>
    rw [x3,y3]
    simp only [Int.sub_mul,Int.mul_sub,Int.add_mul,Int.mul_add,Int.neg_mul,Int.mul_neg,Int.zero_mul,Int.mul_zero,Int.mul_comm M h,Int.neg_neg,ab]
    omega
   | 4,_,_,_ =>
    rw [x4,y4]
    simp only [Int.sub_mul,Int.mul_sub,Int.add_mul,Int.mul_add,Int.neg_mul,Int.mul_neg,Int.zero_mul,Int.mul_zero,Int.mul_comm M h,Int.neg_neg,ab]
    omega
   | 5,_,_,_ =>
    rw [x5,y5]
    simp only [Int.sub_mul,Int.mul_sub,Int.add_mul,Int.mul_add,Int.neg_mul,Int.mul_neg,Int.zero_mul,Int.mul_zero,Int.mul_comm M h,Int.neg_neg,ab]
    omega
   | 6,_,_,_ =>
    rw [x6,y6]
    simp only [Int.sub_mul,Int.mul_sub,Int.add_mul,Int.mul_add,Int.neg_mul,Int.mul_neg,Int.zero_mul,Int.mul_zero,Int.mul_comm M h,Int.neg_neg,ab]
    omega
   | 7,_,_,_ =>
    rw [x7,y7]
    simp only [Int.sub_mul,Int.mul_sub,Int.add_mul,Int.mul_add,Int.neg_mul,Int.mul_neg,Int.zero_mul,Int.mul_zero,Int.mul_comm M h,Int.neg_neg,ab]
    omega
   | j + 8,h,_,_ => omega
 | 2,_ =>
  rw [show nxt 8 2 = 3 from rfl,show nxt2 8 2 = 4 from rfl,x2,x3,x4,y2,y3,y4]
  refine ⟨?_,fun j hj k1 k2 => ?_⟩
  ·simp only [Int.sub_mul,Int.mul_sub,Int.add_mul,Int.mul_add,Int.neg_mul,Int.mul_neg,Int.zero_mul,Int.mul_zero,Int.mul_comm M h,Int.neg_neg,ab]
   (repeat' split) <;> omega
  ·match j,hj,k1,k2 with
   | 0,_,_,_ =>
    rw [x0,y0]
    simp only [Int.sub_mul,Int.mul_sub,Int.add_mul,Int.mul_add,Int.neg_mul,Int.mul_neg,Int.zero_mul,Int.mul_zero,Int.mul_comm M h,Int.neg_neg,ab]
    omega
   | 1,_,_,_ =>
    rw [x1,y1]
    simp only [Int.sub_mul,Int.mul_sub,Int.add_mul,Int.mul_add,Int.neg_mul,Int.mul_neg,Int.zero_mul,Int.mul_zero,Int.mul_comm M h,Int.neg_neg,ab]
    omega
   | 2,_,k1,k2 => exact absurd rfl k1
   | 3,_,k1,k2 => exact absurd rfl k2
   | 4,_,_,_ =>
    rw [x4,y4]
    simp only [Int.sub_mul,Int.mul_sub,Int.add_mul,Int.mul_add,Int.neg_mul,Int.mul_neg,Int.zero_mul,Int.mul_zero,Int.mul_comm M h,Int.neg_neg,ab]
    omega
   | 5,_,_,_ =>
    rw [x5,y5]
    simp only [Int.sub_mul,Int.mul_sub,Int.add_mul,Int.mul_add,Int.neg_mul,Int.mul_neg,Int.zero_mul,Int.mul_zero,Int.mul_comm M h,Int.neg_neg,ab]
    omega
   | 6,_,_,_ =>
    rw [x6,y6]
    simp only [Int.sub_mul,Int.mul_sub,Int.add_mul,Int.mul_add,Int.neg_mul,Int.mul_neg,Int.zero_mul,Int.mul_zero,Int.mul_comm M h,Int.neg_neg,ab]
    omega
   | 7,_,_,_ =>
    rw [x7,y7]
    simp only [Int.sub_mul,Int.mul_sub,Int.add_mul,Int.mul_add,Int.neg_mul,Int.mul_neg,Int.zero_mul,Int.mul_zero,Int.mul_comm M h,Int.neg_neg,ab]
    omega
   | j + 8,h,_,_ => omega
 | 3,_ =>
  rw [show nxt 8 3 = 4 from rfl,show nxt2 8 3 = 5 from rfl,x3,x4,x5,y3,y4,y5]
  refine ⟨?_,fun j hj k1 k2 => ?_⟩
  ·simp only [Int.sub_mul,Int.mul_sub,Int.add_mul,Int.mul_add,Int.neg_mul,Int.mul_neg,Int.zero_mul,Int.mul_zero,Int.mul_comm M h,Int.neg_neg,ab]
   (repeat' split) <;> omega
  ·match j,hj,k1,k2 with
   | 0,_,_,_ =>
    rw [x0,y0]
    simp only [Int.sub_mul,Int.mul_sub,Int.add_mul,Int.mul_add,Int.neg_mul,Int.mul_neg,Int.zero_mul,Int.mul_zero,Int.mul_comm M h,Int.neg_neg,ab]
    omega
   | 1,_,_,_ =>
    rw [x1,y1]
    simp only [Int.sub_mul,Int.mul_sub,Int.add_mul,Int.mul_add,Int.neg_mul,Int.mul_neg,Int.zero_mul,Int.mul_zero,Int.mul_comm M h,Int.neg_neg,ab]
    omega
   | 2,_,_,_ =>
    rw [x2,y2]
    simp only [Int.sub_mul,Int.mul_sub,Int.add_mul,Int.mul_add,Int.neg_mul,Int.mul_neg,Int.zero_mul,Int.mul_zero,Int.mul_comm M h,Int.neg_neg,ab]
    omega
   | 3,_,k1,k2 => exact absurd rfl k1
   | 4,_,k1,k2 => exact absurd rfl k2
   | 5,_,_,_ =>
    rw [x5,y5]
    simp only [Int.sub_mul,Int.mul_sub,Int.add_mul,Int.mul_add,Int.neg_mul,Int.mul_neg,Int.zero_mul,Int.mul_zero,Int.mul_comm M h,Int.neg_neg,ab]
    omega
   | 6,_,_,_ =>
    rw [x6,y6]
    simp only [Int.sub_mul,Int.mul_sub,Int.add_mul,Int.mul_add,Int.neg_mul,Int.mul_neg,Int.zero_mul,Int.mul_zero,Int.mul_comm M h,Int.neg_neg,ab]
    omega
   | 7,_,_,_ =>
    rw [x7,y7]
    simp only [Int.sub_mul,Int.mul_sub,Int.add_mul,Int.mul_add,Int.neg_mul,Int.mul_neg,Int.zero_mul,Int.mul_zero,Int.mul_comm M h,Int.neg_neg,ab]
    omega
   | j + 8,h,_,_ => omega
 | 4,_ =>
  rw [show nxt 8 4 = 5 from rfl,show nxt2 8 4 = 6 from rfl,x4,x5,x6,y4,y5,y6]
  refine ⟨?_,fun j hj k1 k2 => ?_⟩
  ·simp only [Int.sub_mul,Int.mul_sub,Int.add_mul,Int.mul_add,Int.neg_mul,Int.mul_neg,Int.zero_mul,Int.mul_zero,Int.mul_comm M h,Int.neg_neg,ab]
   (repeat' split) <;> omega
  ·match j,hj,k1,k2 with
   | 0,_,_,_ =>
    rw [x0,y0]
    simp only [Int.sub_mul,Int.mul_sub,Int.add_mul,Int.mul_add,Int.neg_mul,Int.mul_neg,Int.zero_mul,Int.mul_zero,Int.mul_comm M h,Int.neg_neg,ab]
    omega
   | 1,_,_,_ =>
    rw [x1,y1]
    simp only [Int.sub_mul,Int.mul_sub,Int.add_mul,Int.mul_add,Int.neg_mul,Int.mul_neg,Int.zero_mul,Int.mul_zero,Int.mul_comm M h,Int.neg_neg,ab]
    omega
   | 2,_,_,_ =>
    rw [x2,y2]
    simp only [Int.sub_mul,Int.mul_sub,Int.add_mul,Int.mul_add,Int.neg_mul,Int.mul_neg,Int.zero_mul,Int.mul_zero,Int.mul_comm M h,Int.neg_neg,ab]
    omega
   | 3,_,_,_ =>
    rw [x3,y3]
    simp only [Int.sub_mul,Int.mul_sub,Int.add_mul,Int.mul_add,Int.neg_mul,Int.mul_neg,Int.zero_mul,Int.mul_zero,Int.mul_comm M h,Int.neg_neg,ab]
    omega
   | 4,_,k1,k2 => exact absurd rfl k1
   | 5,_,k1,k2 => exact absurd rfl k2
   | 6,_,_,_ =>
    rw [x6,y6]
    simp only [Int.sub_mul,Int.mul_sub,Int.add_mul,Int.mul_add,Int.neg_mul,Int.mul_neg,Int.zero_mul,Int.mul_zero,Int.mul_comm M h,Int.neg_neg,ab]
    omega
   | 7,_,_,_ =>
    rw [x7,y7]
    simp only [Int.sub_mul,Int.mul_sub,Int.add_mul,Int.mul_add,Int.neg_mul,Int.mul_neg,Int.zero_mul,Int.mul_zero,Int.mul_comm M h,Int.neg_neg,ab]
    omega
   | j + 8,h,_,_ => omega
 | 5,_ =>
  rw [show nxt 8 5 = 6 from rfl,show nxt2 8 5 = 7 from rfl,x5,x6,x7,y5,y6,y7]
  refine ⟨?_,fun j hj k1 k2 => ?_⟩
  ·simp only [Int.sub_mul,Int.mul_sub,Int.add_mul,Int.mul_add,Int.neg_mul,Int.mul_neg,Int.zero_mul,Int.mul_zero,Int.mul_comm M h,Int.neg_neg,ab]
   (repeat' split) <;> omega
  ·match j,hj,k1,k2 with
   | 0,_,_,_ =>
    rw [x0,y0]
    simp only [Int.sub_mul,Int.mul_sub,Int.add_mul,Int.mul_add,Int.neg_mul,Int.mul_neg,Int.zero_mul,Int.mul_zero,Int.mul_comm M h,Int.neg_neg,ab]
    omega
   | 1,_,_,_ =>
    rw [x1,y1]
    simp only [Int.sub_mul,Int.mul_sub,Int.add_mul,Int.mul_add,Int.neg_mul,Int.mul_neg,Int.zero_mul,Int.mul_zero,Int.mul_comm M h,Int.neg_neg,ab]
    omega
   | 2,_,_,_ =>
    rw [x2,y2]
    simp only [Int.sub_mul,Int.mul_sub,Int.add_mul,Int.mul_add,Int.neg_mul,Int.mul_neg,Int.zero_mul,Int.mul_zero,Int.mul_comm M h,Int.neg_neg,ab]
    omega
   | 3,_,_,_ =>
    rw [x3,y3]
    simp only [Int.sub_mul,Int.mul_sub,Int.add_mul,Int.mul_add,Int.neg_mul,Int.mul_neg,Int.zero_mul,Int.mul_zero,Int.mul_comm M h,Int.neg_neg,ab]
    omega
   | 4,_,_,_ =>
    rw [x4,y4]
    simp only [Int.sub_mul,Int.mul_sub,Int.add_mul,Int.mul_add,Int.neg_mul,Int.mul_neg,Int.zero_mul,Int.mul_zero,Int.mul_comm M h,Int.neg_neg,ab]
    omega
   | 5,_,k1,k2 => exact absurd rfl k1
   | 6,_,k1,k2 => exact absurd rfl k2
   | 7,_,_,_ =>
    rw [x7,y7]
    simp only [Int.sub_mul,Int.mul_sub,Int.add_mul,Int.mul_add,Int.neg_mul,Int.mul_neg,Int.zero_mul,Int.mul_zero,Int.mul_comm M h,Int.neg_neg,ab]
    omega
   | j + 8,h,_,_ => omega
 | 6,_ =>
  rw [show nxt 8 6 = 7 from rfl,show nxt2 8 6 = 0 from rfl,x6,x7,x0,y6,y7,y0]
  refine ⟨?_,fun j hj k1 k2 => ?_⟩
  ·simp only [Int.sub_mul,Int.mul_sub,Int.add_mul,Int.mul_add,Int.neg_mul,Int.mul_neg,Int.zero_mul,Int.mul_zero,Int.mul_comm M h,Int.neg_neg,ab]
   (repeat' split) <;> omega
  ·match j,hj,k1,k2 with
   | 0,_,_,_ =>
    rw [x0,y0]
    simp only [Int.sub_mul,Int.mul_sub,Int.add_mul,Int.mul_add,Int.neg_mul,Int.mul_neg,Int.zero_mul,Int.mul_zero,Int.mul_comm M h,Int.neg_neg,ab]
    omega
   | 1,_,_,_ =>
    rw [x1,y1]
    simp only [Int.sub_mul,Int.mul_sub,Int.add_mul,Int.mul_add,Int.neg_mul,Int.mul_neg,Int.zero_mul,Int.mul_zero,Int.mul_comm M h,Int.neg_neg,ab]
    omega
   | 2,_,_,_ =>
    rw [x2,y2]
    simp only [Int.sub_mul,Int.mul_sub,Int.add_mul,Int.mul_add,Int.neg_mul,Int.mul_neg,Int.zero_mul,Int.mul_zero,Int.mul_comm M h,Int.neg_neg,ab]
    omega
   | 3,_,_,_ =>
    rw [x3,y3]
    simp only [Int.sub_mul,Int.mul_sub,Int.add_mul,Int.mul_add,Int.neg_mul,Int.mul_neg,Int.zero_mul,Int.mul_zero,Int.mul_comm M h,Int.neg_neg,ab]
    omega
   | 4,_,_,_ =>
    rw [x4,y4]
    simp only [Int.sub_mul,Int.mul_sub,Int.add_mul,Int.mul_add,Int.neg_mul,Int.mul_neg,Int.zero_mul,Int.mul_zero,Int.mul_comm M h,Int.neg_neg,ab]
    omega
   | 5,_,_,_ =>
    rw [x5,y5]
    simp only [Int.sub_mul,Int.mul_sub,Int.add_mul,Int.mul_add,Int.neg_mul,Int.mul_neg,Int.zero_mul,Int.mul_zero,Int.mul_comm M h,Int.neg_neg,ab]
    omega
   | 6,_,k1,k2 => exact absurd rfl k1
   | 7,_,k1,k2 => exact absurd rfl k2
   | j + 8,h,_,_ => omega
 | 7,_ =>
  rw [show nxt 8 7 = 0 from rfl,show nxt2 8 7 = 1 from rfl,x7,x0,x1,y7,y0,y1]
  refine ⟨?_,fun j hj k1 k2 => ?_⟩
  ·simp only [Int.sub_mul,Int.mul_sub,Int.add_mul,Int.mul_add,Int.neg_mul,Int.mul_neg,Int.zero_mul,Int.mul_zero,Int.mul_comm M h,Int.neg_neg,ab]
   (repeat' split) <;> omega
  ·match j,hj,k1,k2 with
   | 0,_,k1,k2 => exact absurd rfl k2
   | 1,_,_,_ =>
    rw [x1,y1]
    simp only [Int.sub_mul,Int.mul_sub,Int.add_mul,Int.mul_add,Int.neg_mul,Int.mul_neg,Int.zero_mul,Int.mul_zero,Int.mul_comm M h,Int.neg_neg,ab]
    omega
   | 2,_,_,_ =>
    rw [x2,y2]
    simp only [Int.sub_mul,Int.mul_sub,Int.add_mul,Int.mul_add,Int.neg_mul,Int.mul_neg,Int.zero_mul,Int.mul_zero,Int.mul_comm M h,Int.neg_neg,ab]
    omega
   | 3,_,_,_ =>
    rw [x3,y3]
    simp only [Int.sub_mul,Int.mul_sub,Int.add_mul,Int.mul_add,Int.neg_mul,Int.mul_neg,Int.zero_mul,Int.mul_zero,Int.mul_comm M h,Int.neg_neg,ab]
    omega
   | 4,_,_,_ =>
    rw [x4,y4]
    simp only [Int.sub_mul,Int.mul_sub,Int.add_mul,Int.mul_add,Int.neg_mul,Int.mul_neg,Int.zero_mul,Int.mul_zero,Int.mul_comm M h,Int.neg_neg,ab]
    omega
   | 5,_,_,_ =>
    rw [x5,y5]
    simp only [Int.sub_mul,Int.mul_sub,Int.add_mul,Int.mul_add,Int.neg_mul,Int.mul_neg,Int.zero_mul,Int.mul_zero,Int.mul_comm M h,Int.neg_neg,ab]
    omega
   | 6,_,_,_ =>
    rw [x6,y6]
    simp only [Int.sub_mul,Int.mul_sub,Int.add_mul,Int.mul_add,Int.neg_mul,Int.mul_neg,Int.zero_mul,Int.mul_zero,Int.mul_comm M h,Int.neg_neg,ab]
    omega
   | 7,_,k1,k2 => exact absurd rfl k1
   | j + 8,h,_,_ => omega
 | i + 8,h => omega
end Go.Ax
end
section
/-
  Made shapes are sound.
-/
set_option maxHeartbeats 4000000
set_option maxRecDepth 100000
namespace Go.Ax
open Go.Proofs
theorem mk_lo {a b c:Int} (i:Nat) (hi:i < mkN a):lo (mkX a b c i) ∧ lo (mkY a b c i):=by
 have b1:=@mkM_bd b b
 have b2:=@mkM_bd b c
 have t1:(mkM b b).tdiv 2 = mkM b b / 2:=Int.tdiv_eq_ediv_of_nonneg (by omega)
 have t2:(-mkM b b).tdiv 2 = -(mkM b b / 2):=by rw [Int.neg_tdiv,t1]
 unfold mkX mkY mkP
 unfold mkN at hi
 by_cases k0:modS a 5 = 0
 ·rw [if_pos k0] at hi; omega
 rw [if_neg k0] at hi
 by_cases k1:modS a 5 = 1
 ·rw [if_pos k1] at hi; omega
 rw [if_neg k1] at hi
 rw [t1,t2]
 generalize mkM b b = M at *
 generalize mkM b c = T at *
 by_cases k2:modS a 5 = 2
 ·rw [if_pos k2] at hi
  rw [if_pos k2]
  match i with
  | 0 => show lo (-M) ∧ lo (-T); unfold lo; omega
  | 1 => show lo M ∧ lo (-T); unfold lo; omega
  | 2 => show lo 0 ∧ lo T; unfold lo; omega
  | q + 3 => omega
 rw [if_neg k2] at hi
 rw [if_neg k2]
 by_cases k3:modS a 5 = 3
 ·rw [if_pos k3] at hi
  rw [if_pos k3]
  match i with
  | 0 => show lo (-(M / 2)) ∧ lo (-T); unfold lo; omega
  | 1 => show lo (M / 2) ∧ lo (-T); unfold lo; omega
  | 2 => show lo M ∧ lo 0; unfold lo; omega
  | 3 => show lo 0 ∧ lo T; unfold lo; omega
  | 4 => show lo (-M) ∧ lo 0; unfold lo; omega
  | q + 5 => omega
 rw [if_neg k3] at hi
 rw [if_neg k3]
 match i with
 | 0 => show lo M ∧ lo (-(M / 2)); unfold lo; omega
 | 1 => show lo M ∧ lo (M / 2); unfold lo; omega
 | 2 => show lo (M / 2) ∧ lo M; unfold lo; omega
 | 3 => show lo (-(M / 2)) ∧ lo M; unfold lo; omega
 | 4 => show lo (-M) ∧ lo (M / 2); unfold lo; omega
 | 5 => show lo (-M) ∧ lo (-(M / 2)); unfold lo; omega
 | 6 => show lo (-(M / 2)) ∧ lo (-M); unfold lo; omega
 | 7 => show lo (M / 2) ∧ lo (-M); unfold lo; omega
 | q + 8 => omega
theorem mk_cvx {a b c:Int} (k0:modS a 5 ≠ 0) (k1:modS a 5 ≠ 1):cvxS (mkN a) (mkX a b c) (mkY a b c) = true:=by
 have b1:=@mkM_bd b b
 have b2:=@mkM_bd b c
 have t1:(mkM b b).tdiv 2 = mkM b b / 2:=Int.tdiv_eq_ediv_of_nonneg (by omega)
 have t2:(-mkM b b).tdiv 2 = -(mkM b b / 2):=by rw [Int.neg_tdiv,t1]
 by_cases k2:modS a 5 = 2
 ·rw [show mkN a = 3 from by unfold mkN; rw [if_neg k0,if_neg k1,if_pos k2]]
  refine tri_cvx (M:=mkM b b) (T:=mkM b c) (by omega) (by omega) ?_ ?_ ?_ ?_ ?_ ?_ <;> (first | unfold mkX | unfold mkY) <;> unfold mkP <;> rw [if_pos k2] <;> rfl
 by_cases k3:modS a 5 = 3
 ·rw [show mkN a = 5 from by unfold mkN; rw [if_neg k0,if_neg k1,if_neg k2,if_pos k3]]
  refine pen_cvx (M:=mkM b b) (T:=mkM b c) (h:=mkM b b / 2) (by omega) (by omega) (by omega) (by omega) ?_ ?_ ?_ ?_ ?_ ?_ ?_ ?_ ?_ ?_ <;> (first | unfold mkX | unfold mkY) <;> unfold mkP <;> rw [if_neg k2,if_pos k3,t1,t2] <;> rfl
 ·rw [show mkN a = 8 from by unfold mkN; rw [if_neg k0,if_neg k1,if_neg k2,if_neg k3]]
  refine oct_cvx (M:=mkM b b) (h:=mkM b b / 2) (by omega) (by omega) (by omega) ?_ ?_ ?_ ?_ ?_ ?_ ?_ ?_ ?_ ?_ ?_ ?_ ?_ ?_ ?_ ?_ <;> (first | unfold mkX | unfold mkY) <;> unfold mkP <;> rw [if_neg k2,if_neg k3,t1,t2] <;> rfl
theorem mk_chk {a b c:Int}:chkS (mkK a) (mkR a b) (mkH a b b) (mkH a b c) (mkN a) (mkX a b c) (mkY a b c) = 0:=by
 have w1:=@mkW_bd b b
 have w2:=@mkW_bd b c
 by_cases k0:modS a 5 = 0
 ·unfold chkS mkK mkR mkH mkN
  rw [if_pos k0,if_pos k0,if_pos k0,if_pos k0,if_pos k0,if_pos rfl,if_neg (by simp),if_pos w1]
 by_cases k1:modS a 5 = 1
 ·unfold chkS mkK mkR mkH mkN
  rw [if_neg k0,if_neg k0,if_neg k0,if_neg k0,if_neg k0,if_pos k1,if_pos k1,if_pos k1,if_pos k1,if_neg (by decide),if_pos rfl,if_neg (by simp),if_pos ⟨w1,w2⟩]
 have hN:3 ≤ mkN a ∧ mkN a ≤ 8:=by
  unfold mkN
  rw [if_neg k0,if_neg k1]
  (repeat' split) <;> omega
 have e1:mkK a = 3:=by unfold mkK; rw [if_neg k0,if_neg k1]
 have e2:mkR a b = 0:=if_neg k0
 have e3:∀ v,mkH a b v = 0:=fun v => by unfold mkH; rw [if_neg k0,if_neg k1]
 unfold chkS
 rw [e1,e2,e3,e3,if_neg (by decide),if_neg (by decide),if_pos rfl,if_neg (by omega),if_pos mk_lo,if_pos (mk_cvx k0 k1)]
end Go.Ax
end
section
/-
  Made bodies: their weights.
-/
set_option maxHeartbeats 4000000
set_option maxRecDepth 100000
namespace Go.Ax
open Go.Proofs
theorem mk_wgE {a b c d k:Int} (hk:modS k 4 ≠ 0):wgE (mkK a) (mkR a b) (mkH a b b) (mkH a b c) (mkN a) (mkX a b c) (mkY a b c) (mkD d k) = 0:=by
 have h:=modS_bd (n:=d) (m:=1000) (by omega)
 have e:mkD d k = 1 + modS d 1000:=if_neg hk
 unfold wgE
 rw [if_neg (by rw [mk_chk]; simp),e,if_neg (by omega)]
theorem foAt_bd {x s:Int} (h:1 ≤ s ∧ s ≤ 4000):-17179869184000 ≤ x.tmod (s * 4294967296) ∧ x.tmod (s * 4294967296) ≤ 17179869184000:=by
 have h1:x.tmod (s * 4294967296) < s * 4294967296:=Int.tmod_lt_of_pos x (by omega)
 have h2:-(s * 4294967296) < x.tmod (s * 4294967296):=Int.lt_tmod_of_pos x (by omega)
 omega
end Go.Ax
end
section
/-
  Turns made of numbers are on the circle.
-/
set_option maxHeartbeats 4000000
set_option maxRecDepth 100000
namespace Go.Ax
open Go.Proofs
def abZ (x:Int):Int:=if x < 0 then -x else x
theorem qt_pair {p:Int} (h:-13493037704 ≤ p ∧ p ≤ 13493037704):∃ q,(q = 6746518852 ∨ q = 6746518851) ∧ (-6746518852 ≤ qtV p ∧ qtV p ≤ 6746518852) ∧ abZ (qtV p) ≤ q ∧ (-6746518852 ≤ qtV (if 13493037704 < p + 6746518852 then p + 6746518852 - 26986075409 else p + 6746518852) ∧ qtV (if 13493037704 < p + 6746518852 then p + 6746518852 - 26986075409 else p + 6746518852) ≤ 6746518852) ∧ abZ (qtV (if 13493037704 < p + 6746518852 then p + 6746518852 - 26986075409 else p + 6746518852)) = q - abZ (qtV p):=by
 by_cases h1:6746518852 < p
 ·refine ⟨6746518851,.inr rfl,?_⟩
  rw [if_pos (by omega)]
  unfold qtV abZ
  (repeat' split) <;> omega
 ·refine ⟨6746518852,.inl rfl,?_⟩
  rw [if_neg (by omega)]
  unfold qtV abZ
  (repeat' split) <;> omega
theorem wpV_sh {p:Int} (h:-13493037704 ≤ p ∧ p ≤ 13493037704):wpV (p + 6746518852) = if 13493037704 < p + 6746518852 then p + 6746518852 - 26986075409 else p + 6746518852:=by
 have e:(p + 6746518852).tmod 26986075409 = p + 6746518852:=by
  rcases Int.le_total 0 (p + 6746518852) with k | k
  ·rw [Int.tmod_eq_emod_of_nonneg k,Int.emod_eq_of_lt k (by omega)]
  ·have e2:p + 6746518852 = -(-(p + 6746518852)):=by omega
   rw [e2,Int.neg_tmod,Int.tmod_eq_emod_of_nonneg (by omega),Int.emod_eq_of_lt (by omega) (by omega)]
 unfold wpV
 rw [e]
 split
 ·rfl
 ·rw [if_neg (by omega)]
def cl1 (x:Int):Int:=max (-4294967296) (min x 4294967296)
theorem snV_q {v:Int} (h:-1000000000000000 ≤ v ∧ v ≤ 1000000000000000):snV v false = cl1 (sq (qtV (wpV v)) 8) ∧ snF v false = false:=by
 have hp:=@wpV_le v
 have hy:-6746518852 ≤ qtV (wpV v) ∧ qtV (wpV v) ≤ 6746518852:=by
  obtain ⟨q,h1,h2,h3,h4,h5⟩:=qt_pair hp
  exact h2
 have hs:=sq_le hy 8 (by omega)
 have e:snY v false = (qtV (wpV v),false):=by
  unfold snY
  rw [whV_in (by omega) (by omega),whF_in (by omega)]
 unfold snV snF
 rw [e,snS_eq hy 8 (by omega)]
 dsimp only
 rw [whV_in (by omega) (by omega),whF_in (by omega)]
 exact ⟨rfl,rfl⟩
theorem csV_q {v:Int} (h:-1000000000000000 ≤ v ∧ v ≤ 1000000000000000):csV v false = cl1 (sq (qtV (if 13493037704 < wpV v + 6746518852 then wpV v + 6746518852 - 26986075409 else wpV v + 6746518852)) 8) ∧ csF v false = false:=by
 have hp:=@wpV_le v
 have e:nAdd (wpV (whV v),whF v false) (6746518852,false) = (wpV v + 6746518852,false):=by
  rw [whV_in (by omega) (by omega),whF_in (by omega)]
  unfold nAdd
  dsimp only
  rw [whV_in (by omega) (by omega),whV_in (by omega) (by omega),ftV_in (by omega) (by omega),ftF_in (by omega) (by omega),whF_in (by omega),whF_in (by omega)]
  rfl
 have k:=@snV_q (wpV v + 6746518852) (by omega)
 rw [wpV_sh hp] at k
 unfold csV csF
 rw [e]
 exact k
theorem big_sq {x:Int} (h:4294967296 ≤ x ∨ x ≤ -4294967296):18446744073709551616 ≤ x * x:=by
 rcases h with h | h
 ·have:=Int.mul_le_mul h h (by omega) (by omega)
  omega
 ·have:=Int.mul_le_mul (a:=4294967296) (b:=4294967296) (c:=-x) (d:=-x) (by omega) (by omega) (by omega) (by omega)
  rw [Int.neg_mul_neg] at this
  omega
theorem cl1_sq {x:Int}:(cl1 x * cl1 x = x * x ∧ x * x ≤ 18446744073709551616) ∨ (cl1 x * cl1 x = 18446744073709551616 ∧ 18446744073709551616 ≤ x * x):=by
 by_cases h1:4294967296 < x
 ·refine .inr ⟨?_,big_sq (.inl (by omega))⟩
  rw [show cl1 x = 4294967296 from by unfold cl1; omega]
  rfl
 by_cases h2:x < -4294967296
 ·refine .inr ⟨?_,big_sq (.inr (by omega))⟩
  rw [show cl1 x = -4294967296 from by unfold cl1; omega]
  rfl
 ·refine .inl ⟨by rw [show cl1 x = x from by unfold cl1; omega],?_⟩
  have:=ab_mul (a:=x) (b:=x) (A:=4294967296) (B:=4294967296) (by omega) (by omega)
  omega
theorem sq_nn (x:Int):0 ≤ x * x:=by
 rcases Int.le_total 0 x with h | h
 ·exact Int.mul_nonneg h h
 ·have:=Int.mul_nonneg (a:=-x) (b:=-x) (by omega) (by omega)
  rw [Int.neg_mul_neg] at this
  exact this
theorem cl1_bd {x:Int}:-4294967296 ≤ cl1 x ∧ cl1 x ≤ 4294967296:=by unfold cl1; omega
theorem cl_circle {a b:Int} (h:-35184372088832 ≤ a * a + b * b - 18446744073709551616 ∧ a * a + b * b - 18446744073709551616 ≤ 35184372088832) :
  -35184372088832 ≤ cl1 a * cl1 a + cl1 b * cl1 b - 18446744073709551616 ∧ cl1 a * cl1 a + cl1 b * cl1 b - 18446744073709551616 ≤ 35184372088832:=by
 have ha:=sq_nn a
 have hb:=sq_nn b
 generalize ea:a * a = A at *
 generalize eb:b * b = B at *
 have ca:=@cl1_sq a
 have cb:=@cl1_sq b
 rw [ea] at ca
 rw [eb] at cb
 generalize cl1 a * cl1 a = P at *
 generalize cl1 b * cl1 b = Q at *
 omega
theorem foRot_ok (u:Int):rotS (foRot u).1.1 (foRot u).1.2 (foRot u).2.1 (foRot u).2.2 = 0:=by
 have hv:-1000000000000000 ≤ u.tmod (8 * 4294967296) ∧ u.tmod (8 * 4294967296) ≤ 1000000000000000:=by
  have h1:u.tmod (8 * 4294967296) < 8 * 4294967296:=Int.tmod_lt_of_pos u (by omega)
  have h2:-(8 * 4294967296) < u.tmod (8 * 4294967296):=Int.lt_tmod_of_pos u (by omega)
  omega
 unfold foRot
 dsimp only
 generalize u.tmod (8 * 4294967296) = v at *
 have hp:=@wpV_le v
 obtain ⟨q,q1,q2,q3,q4,q5⟩:=qt_pair hp
 have hc:=sq_circle q2 q1 q3 q5
 obtain ⟨s1,s2⟩:=snV_q hv
 obtain ⟨c1,c2⟩:=csV_q hv
 rw [s1,s2,c1,c2]
 generalize sq (qtV (wpV v)) 8 = S at *
 generalize sq (qtV (if 13493037704 < wpV v + 6746518852 then wpV v + 6746518852 - 26986075409 else wpV v + 6746518852)) 8 = C at *
 have hk:=cl_circle hc
 have k1:=@cl1_bd S
 have k2:=@cl1_bd C
 have e:(nDot (cl1 C,false) (cl1 C,false) (cl1 S,false) (cl1 S,false)).1 = (cl1 C * cl1 C + cl1 S * cl1 S).tdiv 4294967296:=by
  unfold nDot
  dsimp only
  rw [whV_in (by omega) (by omega),whV_in (by omega) (by omega)]
  have:=@td_err (cl1 C * cl1 C + cl1 S * cl1 S) 4294967296 (by omega)
  exact ftV_in (by omega) (by omega)
 have hd:=@td_err (cl1 C * cl1 C + cl1 S * cl1 S) 4294967296 (by omega)
 unfold rotS
 rw [e,whF_in (by omega),whF_in (by omega)]
 refine if_neg ?_
 simp
 omega
end Go.Ax
end
section
/-
  Made bodies are sound, and have a mass.
-/
set_option maxHeartbeats 4000000
set_option maxRecDepth 100000
namespace Go.Ax
open Go.Proofs
theorem far_no {x:Int} (h:-17592186044416 ≤ x ∧ x ≤ 17592186044416):farB (x,false) = false:=by
 unfold farB
 dsimp only
 rw [whF_in (by omega),whV_in (by omega) (by omega)]
 have:¬ 17592186044416 < ab x:=by unfold ab; split <;> omega
 rw [decide_eq_false this]
 rfl
theorem mk_place {a b c x y u s:Int} (hs:1 ≤ s ∧ s ≤ 4000):plErr (mkK a) (mkR a b) (mkH a b b) (mkH a b c) (mkN a) (mkX a b c) (mkY a b c) (foAt x y s) (foRot u) = 0:=by
 have h1:=@foAt_bd x s hs
 have h2:=@foAt_bd y s hs
 unfold plErr
 rw [if_neg (by rw [mk_chk]; simp),if_neg (by rw [foRot_ok]; simp)]
 unfold foAt
 dsimp only
 rw [far_no (by omega),far_no (by omega)]
 rfl
theorem mk_nwE {a b c x y u d k s:Int} (hs:1 ≤ s ∧ s ≤ 4000):nwE (mkK a) (mkR a b) (mkH a b b) (mkH a b c) (mkN a) (mkX a b c) (mkY a b c) (foAt x y s) (foRot u) (mkD d k) (modS k 4 != 0) = 0:=by
 unfold nwE
 rw [if_neg (by rw [mk_chk]; simp)]
 by_cases hk:modS k 4 = 0
 ·have e:mkD d k = 0:=if_pos hk
  rw [e,mk_place hs,hk]
  rfl
 ·have e:(modS k 4 != 0) = true:=by simpa using hk
  rw [e,if_pos rfl,mk_wgE hk,mk_place hs]
  rfl
end Go.Ax
end
section
/-
  Made bodies have a mass.
-/
set_option maxHeartbeats 4000000
set_option maxRecDepth 100000
namespace Go.Ax
open Go.Proofs
end Go.Ax
end
section
/-
  The body that sleeps.
-/
set_option maxHeartbeats 4000000
set_option maxRecDepth 100000
namespace Go.Ax
open Go.Proofs
theorem mk_wgS_in {k r w t d:Int} {n:Nat} {X Y:Nat → Int}:inR (wgS k r w t n X Y d).1.1 ∧ inR (wgS k r w t n X Y d).2.1:=by
 have q:∀ a b:Nb,inR (nDiv a b).1:=fun a b => by
  have h:rg (nDiv a b).1:=raV_rg
  unfold rg at h
  unfold inR
  omega
 unfold wgS
 split
 ·unfold wgM
  split
  ·exact ⟨q _ _,q _ _⟩
  ·exact ⟨q _ _,q _ _⟩
 ·exact ⟨by unfold inR; decide,by unfold inR; decide⟩
end Go.Ax
end
section
/-
  Made bodies: their weights are not below 0.
-/
set_option maxHeartbeats 4000000
set_option maxRecDepth 100000
namespace Go.Ax
open Go.Proofs
end Go.Ax
end
section
/-
  Made bodies: what they are.
-/
set_option maxHeartbeats 4000000
set_option maxRecDepth 100000
namespace Go.Ax
open Go.Proofs
def mkWt (a b c d k:Int):Nb × Nb:=nwW (mkK a) (mkR a b) (mkH a b b) (mkH a b c) (mkN a) (mkX a b c) (mkY a b c) (mkD d k) (modS k 4 != 0)
theorem mk0_eq {a b c x y u d k s:Int} (hs:1 ≤ s ∧ s ≤ 4000):mk0 a b c x y u d k s = ⟨mkK a,mkR a b,mkH a b b,mkH a b c,mkN a,mkX a b c,mkY a b c,foAt x y s,foRot u,zV,(0,false),(mkWt a b c d k).1,(mkWt a b c d k).2,0,false,false,1⟩:=by
 have hE:=@mk_nwE a b c x y u d k s hs
 unfold mk0 nwB
 rw [if_pos hE]
 rfl
def mkV (p q k:Int):V2:=if modS k 4 = 1 then (nuN p 200,nuN q 200) else zV
def mkO (r k:Int):Nb:=if modS k 4 = 1 then nuN r 60 else (0,false)
def mkSt (k:Int):Int:=if modS k 4 = 2 then 30 else 0
theorem mkB_eq {a b c x y u p q r d k s:Int} (hs:1 ≤ s ∧ s ≤ 4000):mkB a b c x y u p q r d k s = ⟨mkK a,mkR a b,mkH a b b,mkH a b c,mkN a,mkX a b c,mkY a b c,foAt x y s,foRot u,mkV p q k,mkO r k,(mkWt a b c d k).1,(mkWt a b c d k).2,mkSt k,decide (modS k 4 = 2 ∨ modS k 4 = 3),decide (modS k 4 = 3),1⟩:=by
 unfold mkB mkV mkO mkSt
 rw [mk0_eq hs]
 by_cases h1:modS k 4 = 1
 ·rw [if_pos h1,if_pos h1,if_pos h1,if_neg (by omega),decide_eq_false (by omega),decide_eq_false (by omega)]
 ·rw [if_neg h1,if_neg h1,if_neg h1]
  by_cases h2:modS k 4 = 2
  ·rw [if_pos h2,if_pos h2,decide_eq_true (by omega),decide_eq_false (by omega)]
  ·rw [if_neg h2,if_neg h2]
   by_cases h3:modS k 4 = 3
   ·rw [if_pos h3,decide_eq_true (by omega),decide_eq_true h3]
   ·rw [if_neg h3,decide_eq_false (by omega),decide_eq_false h3]
theorem nu_bd {x s:Int} (h:1 ≤ s ∧ s ≤ 200):-858993459200 < (nuN x s).1 ∧ (nuN x s).1 < 858993459200:=by
 have h1:x.tmod (s * 4294967296) < s * 4294967296:=Int.tmod_lt_of_pos x (by omega)
 have h2:-(s * 4294967296) < x.tmod (s * 4294967296):=Int.lt_tmod_of_pos x (by omega)
 show -858993459200 < x.tmod (s * 4294967296) ∧ x.tmod (s * 4294967296) < 858993459200
 omega
theorem mkWt_in {a b c d k:Int}:inR (mkWt a b c d k).1.1 ∧ inR (mkWt a b c d k).2.1:=by
 unfold mkWt nwW
 split
 ·exact mk_wgS_in
 ·exact ⟨by show inR 0; unfold inR; decide,by show inR 0; unfold inR; decide⟩
theorem mkB_in {a b c x y u p q r d k s:Int} (hs:1 ≤ s ∧ s ≤ 4000):inB (mkB a b c x y u p q r d k s):=by
 rw [mkB_eq hs]
 have hm:=@mkWt_in a b c d k
 have w1:=@mkW_bd b b
 have h1:∀ v,inR (mkH a b v):=fun v => by
  have:=@mkW_bd b v
  unfold mkH inR
  (repeat' split) <;> omega
 have hz:inR 0:=by unfold inR; decide
 have hu:∀ x s,1 ≤ s ∧ s ≤ 200 → inR (nuN x s).1:=fun x s h => by
  have:=@nu_bd x s h
  unfold inR; omega
 refine ⟨?_,?_,h1 b,h1 c,fun j hj => mk_inR j hj,tmod_inR (by omega),tmod_inR (by omega),csV_inR,snV_inR,?_,?_,?_,hm.1,hm.2,?_,(by unfold inR; decide:inR 1)⟩
 ·show inR (mkK a)
  unfold mkK inR
  (repeat' split) <;> omega
 ·show inR (mkR a b)
  unfold mkR inR
  (repeat' split) <;> omega
 ·show inR (mkV p q k).1.1
  unfold mkV
  split
  ·exact hu _ _ (by omega)
  ·exact hz
 ·show inR (mkV p q k).2.1
  unfold mkV
  split
  ·exact hu _ _ (by omega)
  ·exact hz
 ·show inR (mkO r k).1
  unfold mkO
  split
  ·exact hu _ _ (by omega)
  ·exact hz
 ·show inR (mkSt k)
  unfold mkSt
  split
  ·unfold inR; decide
  ·exact hz
theorem mkB_n {a b c x y u p q r d k s:Int} (hs:1 ≤ s ∧ s ≤ 4000):(mkB a b c x y u p q r d k s).n ≤ 1000:=by
 rw [mkB_eq hs]
 show mkN a ≤ 1000
 unfold mkN
 (repeat' split) <;> omega
end Go.Ax
end
section
/-
  Impulses lie in the cone of friction.
-/
set_option maxHeartbeats 4000000
set_option maxRecDepth 100000
namespace Go.Ax
open Go.Proofs
end Go.Ax
end
section
/-
  Lists of few bodies.
-/
set_option maxHeartbeats 4000000
set_option maxRecDepth 100000
namespace Go.Ax
open Go.Proofs
end Go.Ax
end
section
/-
  SolverCone: its body.
-/
set_option maxHeartbeats 4000000
set_option maxRecDepth 100000
namespace Go.Ax
open Go.Proofs
structure Th where
 a:Int
 b:Int
 c:Int
 x:Int
 y:Int
 u:Int
 p:Int
 q:Int
 r:Int
 d:Int
 k:Int
def thC (t:Th):List AV:=[i64 t.a,i64 t.b,i64 t.c,i64 t.x,i64 t.y,i64 t.u,i64 t.p,i64 t.q,i64 t.r,i64 t.d,i64 t.k]
def inT (t:Th):Prop:=inR t.a ∧ inR t.b ∧ inR t.c ∧ inR t.x ∧ inR t.y ∧ inR t.u ∧ inR t.p ∧ inR t.q ∧ inR t.r ∧ inR t.d ∧ inR t.k
def mkT (t:Th) (s:Int):Bd:=mkB t.a t.b t.c t.x t.y t.u t.p t.q t.r t.d t.k s
theorem mkT_eq {t:Th} {s:Int}:mkB t.a t.b t.c t.x t.y t.u t.p t.q t.r t.d t.k s = mkT t s:=rfl
theorem mkT_in {t:Th} {s:Int} (hs:1 ≤ s ∧ s ≤ 4000):inB (mkT t s):=mkB_in hs
theorem mkT_n {t:Th} {s:Int} (hs:1 ≤ s ∧ s ≤ 4000):(mkT t s).n ≤ 1000:=mkB_n hs
def ctP (c:Ct) (a b:Nb):Ct:={ c with p0:=a,p1:=b }
def ctR (c:Ct) (a b:Nb):Ct:={ c with r0:=a,r1:=b }
theorem put7_cont {c:Ct} {a b:Int} {e f:Bool}:List.take 7 (contC c) ++ [i64 a,bo e,i64 b,bo f] ++ List.drop 11 (contC c) = contC (ctP c (a,e) (b,f)):=(rfl)
theorem put11_cont {c:Ct} {a b:Int} {e f:Bool}:List.take 11 (contC c) ++ [i64 a,bo e,i64 b,bo f] = contC (ctR c (a,e) (b,f)):=(rfl)
theorem take15_cont {c:Ct}:List.take 15 (contC c) = contC c:=(rfl)
theorem len15_cont {c:Ct}:(contC c).length = 15:=(rfl)
attribute [go_sem] put7_cont put11_cont take15_cont len15_cont
-- dropped 5 bagatelle/bagatellelaw05.SolverCone
end Go.Ax
end
section
/-
  Made bodies: bounds of their weights.
-/
set_option maxHeartbeats 4000000
set_option maxRecDepth 100000
namespace Go.Ax
open Go.Proofs
end Go.Ax
end
section
/-
  The least and the greatest coordinate of a polygon.
-/
set_option maxHeartbeats 4000000
set_option maxRecDepth 100000
namespace Go.Ax
open Go.Proofs
end Go.Ax
end
section
/-
  Numbers that are not flagged, and how great they are.
-/
set_option maxHeartbeats 4000000
namespace Go.Ax
def gd (a:Nb) (B:Int):Prop:=a.2 = false ∧ -B ≤ a.1 ∧ a.1 ≤ B
end Go.Ax
end
section
/-
  When a way meets a disc: it is no flagged number.
-/
set_option maxHeartbeats 4000000
namespace Go.Ax
end Go.Ax
end
section
/-
  Unit vectors have the length 1, but for 256 parts.
-/
set_option maxHeartbeats 4000000
namespace Go.Ax
end Go.Ax
end
section
/-
  Where forms touch: between the ends of an edge; directions of length 1.
-/
set_option maxHeartbeats 4000000
set_option maxRecDepth 100000
namespace Go.Ax
def bt (lo hi:Int) (a:Nb):Prop:=a.2 = false ∧ lo ≤ a.1 ∧ a.1 ≤ hi
def bx (a b c d:Int) (v:V2):Prop:=bt a c v.1 ∧ bt b d v.2
end Go.Ax
end
section
/-
  How forms touch: one or two places, near both forms, none with a depth below 0, in a direction of length 1.
-/
set_option maxHeartbeats 4000000
set_option maxRecDepth 100000
namespace Go.Ax
end Go.Ax
end
section
/-
  How fast a body may be at a touch, against its heft there.
-/
set_option maxHeartbeats 4000000
set_option maxRecDepth 100000
namespace Go.Ax
open Go.Proofs
def calm (b:Bd):Prop:=b.sl = false ∧ ∃ v1 v2 w,b.v = ((v1,false),(v2,false)) ∧ b.w = (w,false) ∧ (-858993459200 ≤ v1 ∧ v1 ≤ 858993459200) ∧ (-858993459200 ≤ v2 ∧ v2 ≤ 858993459200) ∧ (-257698037760 ≤ w ∧ w ≤ 257698037760)
end Go.Ax
end
section
/-
  Corners with a margin stay convex when they are turned and rounded.
-/
set_option maxHeartbeats 4000000
set_option maxRecDepth 100000
namespace Go.Ax
open Go.Proofs
end Go.Ax
end
section
/-
  Made polygons have a margin.
-/
set_option maxHeartbeats 4000000
set_option maxRecDepth 100000
namespace Go.Ax
open Go.Proofs
end Go.Ax
end
section
/-
  Forms made of numbers are sound.
-/
set_option maxHeartbeats 4000000
set_option maxRecDepth 100000
namespace Go.Ax
open Go.Proofs
end Go.Ax
end
section
/-
  Made forms within 12 units are near, and not great.
-/
set_option maxHeartbeats 4000000
set_option maxRecDepth 100000
namespace Go.Ax
open Go.Proofs
end Go.Ax
end
section
/-
  SolverLeaves: its body.
-/
set_option maxHeartbeats 4000000
set_option maxRecDepth 100000
namespace Go.Ax
open Go.Proofs
def thK (t:Th) (k:Int):Th:={ t with k:=k }
end Go.Ax
end
section
/-
  SolverStill: its body.
-/
set_option maxHeartbeats 4000000
set_option maxRecDepth 100000
namespace Go.Ax
open Go.Proofs
section
variable {b:Bd}
theorem dropV_body:List.drop 13 (bodyC b) = [i64 b.v.1.1,bo b.v.1.2,i64 b.v.2.1,bo b.v.2.2,i64 b.w.1,bo b.w.2,i64 b.m.1,bo b.m.2,i64 b.i.1,bo b.i.2,i64 b.st,bo b.sl,bo b.fa,i64 b.ve]:=(rfl)
theorem dropP_body:List.drop 5 (bodyC b) = [i64 b.pl.1.1,bo b.pl.1.2,i64 b.pl.2.1,bo b.pl.2.2,i64 b.rot.1.1,bo b.rot.1.2,i64 b.rot.2.1,bo b.rot.2.2,i64 b.v.1.1,bo b.v.1.2,i64 b.v.2.1,bo b.v.2.2,i64 b.w.1,bo b.w.2,i64 b.m.1,bo b.m.2,i64 b.i.1,bo b.i.2,i64 b.st,bo b.sl,bo b.fa,i64 b.ve]:=(rfl)
end
attribute [go_sem] dropV_body dropP_body
def litJ:Nat → List AV:=rowsOf 13 [i64 3,i64 0,i64 1,i64 0,bo false,i64 0,bo false,i64 0,bo false,i64 0,bo false,i64 0,bo false,i64 1,i64 0,i64 0,i64 0,bo false,i64 0,bo false,i64 4294967296,bo false,i64 0,bo false,i64 0,bo false]
theorem litJ_eq:rowsOf 13 [i64 3,i64 0,i64 1,i64 0,bo false,i64 0,bo false,i64 0,bo false,i64 0,bo false,i64 0,bo false,i64 1,i64 0,i64 0,i64 0,bo false,i64 0,bo false,i64 4294967296,bo false,i64 0,bo false,i64 0,bo false] = litJ:=(rfl)
theorem litJ_at {i:Nat}:List.take 13 (List.drop (i * 13) [i64 3,i64 0,i64 1,i64 0,bo false,i64 0,bo false,i64 0,bo false,i64 0,bo false,i64 0,bo false,i64 1,i64 0,i64 0,i64 0,bo false,i64 0,bo false,i64 4294967296,bo false,i64 0,bo false,i64 0,bo false]) = litJ i:=(rfl)
def cts1 (c:Ct):Nat → List AV:=rowsOf 15 (contC c)
theorem cts1_eq {c:Ct}:rowsOf 15 (contC c) = cts1 c:=(rfl)
theorem litJ_ok:∀ i,i < 2 → litJ i = jsC (jsD litJ) i:=fun i hi => by
 match i,hi with
 | 0,_ => rfl
 | 1,_ => rfl
theorem litJ_in:inJs 2 (jsD litJ):=fun i hi => by
 have hz0:inR 0:=by unfold inR; decide
 have hz1:inR 4294967296:=by unfold inR; decide
 match i,hi with
 | 0,_ => exact ⟨hz0,hz0,hz0,hz0,hz0⟩
 | 1,_ => exact ⟨hz0,hz0,hz1,hz0,hz0⟩
theorem mkT_still {t:Th}:mvS (mkT (thK t 0) 12) = false:=by
 have e:mkT (thK t 0) 12 = _:=mkB_eq (a:=t.a) (b:=t.b) (c:=t.c) (x:=t.x) (y:=t.y) (u:=t.u) (p:=t.p) (q:=t.q) (r:=t.r) (d:=t.d) (k:=0) (s:=12) (by omega)
 rw [e]
 unfold mvS
 show (!((mkWt t.a t.b t.c t.d 0).1.1 == 0 && (mkWt t.a t.b t.c t.d 0).2.1 == 0)) = false
 have h:mkWt t.a t.b t.c t.d 0 = ((0,false),(0,false)):=by
  unfold mkWt nwW
  rw [if_neg (by decide)]
 rw [h]
 rfl
theorem vc3 (t v:Th) (p0 p1 r0 r1 n:Int) (e0 e1 f0 f1:Bool) (ht:inT t) (hv:inT v) (j0:inR p0) (j1:inR p1) (j2:inR r0) (j3:inR r1) (hn:inR n) :
  fnVC Tryz.prog [(7,kb24),(8,kt48),(10,kb10),(9,kb47),(11,kb11),(12,kb12),(13,kb13),(14,kb14),(15,kw67),(16,kCntW),(18,kw55),(17,kSolW),(19,kParW),(20,c20)] [] Tryz.f3 [.agg (thC t),.agg (thC v),.agg [i64 p0,bo e0,i64 p1,bo e1],.agg [i64 r0,bo f0,i64 r1,bo f1],i64 n] (· = bo true):=by
 refine fnVC_go (rs:=[.tmp 10]) rfl rfl ?_
 obtain ⟨a0,a1,a2,a3,a4,a5,a6,a7,a8,a9,a10⟩:=ht
 obtain ⟨b0,b1,b2,b3,b4,b5,b6,b7,b8,b9,b10⟩:=hv
 obtain ⟨A,hA⟩:∃ A,mkT (thK t 0) 12 = A:=⟨_,rfl⟩
 obtain ⟨B,hB⟩:∃ B,mkT v 12 = B:=⟨_,rfl⟩
 have eA:mkB t.a t.b t.c t.x t.y t.u t.p t.q t.r t.d 0 12 = A:=hA
 have iA:inB A:=hA ▸ mkT_in (by omega)
 have iB:inB B:=hB ▸ mkT_in (by omega)
 have nA:A.n ≤ 1000:=hA ▸ mkT_n (by omega)
 have nB:B.n ≤ 1000:=hB ▸ mkT_n (by omega)
 have hm:mvS A = false:=hA ▸ mkT_still
 have hi:=id_still hm
 have hT:inR (tiN n):=by have:=@tiN_bd n; unfold inR; omega
 have h3:inR 3:=by unfold inR; decide
 have hz':inR 0:=by unfold inR; decide
 obtain ⟨q1,q2⟩:=@cnt_in A B 0 1 hz' (by unfold inR; decide)
 have q3:(cntS A B 0 1).n ≤ 1000:=by omega
 have hB2:inBs 2 (bsD (ros2 A B)):=by rw [inBs_r2]; exact ⟨⟨iA,nA⟩,iB,nB⟩
 have hc1:inCs 1 (csD (cts1 (cntS A B 0 1))):=fun i hi => by
  have e:i = 0:=by omega
  subst e
  exact ⟨q1,q3⟩
 have hc2:∀ i,i < 1 → rowC (cts1 (cntS A B 0 1)) i:=fun i hi => by
  have e:i = 0:=by omega
  subst e
  exact .inl rfl
 have s0:(solT 2 1 2 (bsD (ros2 A B)) (csD (cts1 (cntS A B 0 1))) (jsD litJ) 3 (tiN n,false)).B 0 = A:=sol_still (B:=bsD (ros2 A B)) hm
 have p0':parT 2 (bsD (ros2 A B)) (cntS A B 0 1) 0 = A:=par_idle (B:=bsD (ros2 A B)) (id_still hm)
 have hok:∀ i,i < 2 → ros2 A B i = bodyC (bsD (ros2 A B) i):=of_eq_true ros2_ok
 have p1':idS B = true → parT 2 (bsD (ros2 A B)) (cntS A B 0 1) 1 = B:=fun h => par_idle (B:=bsD (ros2 A B)) h
 cases hid:idS B with
 | true =>
  simp only [psh_still hm,go_idle hi,res_idle hi,wak_still hm,pul_idle hi,pul_idle hid,go_idle hid,thC,go_sem,kb24,kt48,kb10,kb47,kb11,kb12,kb13,kb14,kw67,kCntW,kw55,kSolW,kParW,c20,boA,cLw_eq,cLs_eq,cL_eq,cB_eq,kCnt,kSol,kPar,mkT_eq,eA,hB,hid,contD_C,a0,a1,a2,a3,a4,a5,a6,a7,a8,a9,a10,b0,b1,b2,b3,b4,b5,b6,b7,b8,b9,b10,j0,j1,j2,j3,hn,hT]
  simp only [forall_eq]
  simp only [litJ_eq,litJ_at,cts1_eq]
  simp only [iA,nA,iB,nB,q1,q3,hB2,hc1,hc2,hok,h3,s0,p0',p1' hid,litJ_in,beq_self_eq_true,implies_true,true_and,and_true,and_self]
  exact ⟨by simp,fun _ => ⟨iB.2.2.2.2.2.2.2.2.2.2.2.2.1,iB.2.2.2.2.2.2.2.2.2.2.2.2.2.1,by simp,fun _ => ⟨hc2,litJ_ok,fun _ => iB.2.2.2.2.2.2.2.2.2.2.2.2.1,fun _ => iB.2.2.2.2.2.2.2.2.2.2.2.2.2.1,.inr trivial⟩⟩⟩
 | false =>
  simp only [psh_still hm,go_idle hi,res_idle hi,wak_still hm,pul_idle hi,thC,go_sem,kb24,kt48,kb10,kb47,kb11,kb12,kb13,kb14,kw67,kCntW,kw55,kSolW,kParW,c20,boA,cLw_eq,cLs_eq,cL_eq,cB_eq,kCnt,kSol,kPar,mkT_eq,eA,hB,hid,contD_C,a0,a1,a2,a3,a4,a5,a6,a7,a8,a9,a10,b0,b1,b2,b3,b4,b5,b6,b7,b8,b9,b10,j0,j1,j2,j3,hn,hT]
  simp only [forall_eq]
  simp only [litJ_eq,litJ_at,cts1_eq]
  simp only [iA,nA,iB,nB,q1,q3,hB2,hc1,hc2,hok,h3,s0,p0',litJ_in,beq_self_eq_true,implies_true,true_and,and_true,and_self]
  exact ⟨by simp,fun _ => ⟨iB.2.2.2.2.2.2.2.2.2.2.2.2.1,iB.2.2.2.2.2.2.2.2.2.2.2.2.2.1,fun h => (by cases h),fun h => (by cases h.1),fun _ => ⟨hc2,litJ_ok,fun _ => iB.2.2.2.2.2.2.2.2.2.2.2.2.1,fun _ => iB.2.2.2.2.2.2.2.2.2.2.2.2.2.1,fun _ h => h,.inl trivial⟩⟩⟩
end Go.Ax
end