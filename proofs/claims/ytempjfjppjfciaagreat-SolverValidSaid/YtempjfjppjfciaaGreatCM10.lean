/-
  Lists of bodies, contacts and joints ars they are made: equal to proper ones up to their lengths.
-/
import Derived.Test.YtempjfjppjfciaaGreatCM9
set_option linter.unusedVariables false
set_option linter.unusedSimpArgs false
section
set_option maxHeartbeats 4000000
set_option maxRecDepth 100000
namespace Go.Ax
open Go.Proofs Go.Proofs.Tryz
def adB:AV → Option (Prop × AV)
 | .ro N 27 g => some (∀ i,i < N → g i = bsC (bsD g) i,.ro N 27 (bsC (bsD g)))
 | _ => none
def contN (c:Ct):List AV:=[i64 c.a,i64 c.b,i64 c.nv.1.1,bo c.nv.1.2,i64 c.nv.2.1,bo c.nv.2.2,.v (.slice none 0 0),
 i64 c.p0.1,bo c.p0.2,i64 c.p1.1,bo c.p1.2,i64 c.r0.1,bo c.r0.2,i64 c.r1.1,bo c.r1.2]
def rowC (g:Nat → List AV) (i:Nat):Prop:=g i = csC (csD g) i ∨ (g i = contN (csD g i) ∧ (csD g i).n = 0)
def adC:AV → Option (Prop × AV)
 | .ro M 15 g => some (∀ i,i < M → rowC g i,.ro M 15 (csC (csD g)))
 | .v (.slice none 0 0) => some (True,.ro 0 15 (csC (csD fun _ => [])))
 | _ => none
def adJ:AV → Option (Prop × AV)
 | .ro M 13 g => some (∀ i,i < M → g i = jsC (jsD g) i,.ro M 13 (jsC (jsD g)))
 | .v (.slice none 0 0) => some (True,.ro 0 13 (jsC (jsD fun _ => [])))
 | _ => none
theorem ro_nil {w:World} {ρ:Env} {v:Value} {sz:Nat} {f:Nat → List AV} (hR:R w ρ (.v (.slice none 0 0)) v):R w ρ (.ro 0 sz f) v:=by
 cases hR
 exact .ro 0 0 (Nat.le_refl _) (fun h => absurd h (by omega)) (fun h => absurd h (by omega)) (fun i h => absurd h (by omega)) (fun i k h => absurd h (by omega)) (fun i k c x h => absurd h (by omega))
theorem ro_alk {w:World} {ρ:Env} {n sz:Nat} {get get':Nat → List AV} {v:Value} (hl:∀ i,i < n → (get i).length = (get' i).length)
  (h:∀ i,i < n → ∀ (k:Nat) (c':AV),(get' i)[k]? = some c' → ∃ c:AV,(get i)[k]? = some c ∧ ∀ w ρ v,R w ρ c v → R w ρ c' v) (hR:R w ρ (.ro n sz get) v):R w ρ (.ro n sz get') v:=by
 cases hR with
 | ro b o hn ha hi hlen hex hr =>
  refine .ro b o hn ha hi (fun i hi' => by rw [← hl i hi']; exact hlen i hi') hex (fun i k c' x h1 h2 h3 => ?_)
  obtain ⟨c,k1,k2⟩:=h i h1 k c' h2
  exact k2 _ _ _ (hr i k c x h1 k1 h3)
theorem nil_ro6 {w:World} {ρ:Env} {v:Value} {f:Nat → List AV} (hR:R w ρ (.v (.slice none 0 0)) v):R w ρ (.ro 0 6 f) v:=by
 cases hR
 exact .ro 0 0 (Nat.le_refl _) (fun h => absurd h (by omega)) (fun h => absurd h (by omega)) (fun i h => absurd h (by omega)) (fun i k h => absurd h (by omega)) (fun i k c x h => absurd h (by omega))
theorem contN_alk {c:Ct} (h0:c.n = 0) (k:Nat) (c':AV) (h:(contC c)[k]? = some c'):∃ a,(contN c)[k]? = some a ∧ ∀ w ρ v,R w ρ a v → R w ρ c' v:=by
 by_cases hk:k = 6
 ·subst hk
  have e:some (AV.ro c.n 6 (tchs c.P c.D)) = some c':=h
  cases e
  exact ⟨.v (.slice none 0 0),rfl,fun w ρ v hR => by rw [h0]; exact nil_ro6 hR⟩
 ·refine ⟨c',?_,fun _ _ _ hR => hR⟩
  rw [← h]
  match k,hk with
  | 0,_ => rfl
  | 1,_ => rfl
  | 2,_ => rfl
  | 3,_ => rfl
  | 4,_ => rfl
  | 5,_ => rfl
  | 6,hk => exact absurd rfl hk
  | 7,_ => rfl
  | 8,_ => rfl
  | 9,_ => rfl
  | 10,_ => rfl
  | 11,_ => rfl
  | 12,_ => rfl
  | 13,_ => rfl
  | 14,_ => rfl
  | q + 15,_ => rfl
theorem rowC_alk {M:Nat} {g:Nat → List AV} (h:∀ i,i < M → rowC g i) {w:World} {ρ:Env} {v:Value} (hR:R w ρ (.ro M 15 g) v):R w ρ (.ro M 15 (csC (csD g))) v:=by
 refine ro_alk (fun i hi => ?_) (fun i hi k c' hc => ?_) hR
 ·rcases h i hi with q | ⟨q,_⟩ <;> rw [q] <;> rfl
 ·rcases h i hi with q | ⟨q,q0⟩
  ·exact ⟨c',by rw [q]; exact hc,fun _ _ _ hR => hR⟩
  ·rw [q]
   exact contN_alk q0 k c' hc
theorem adB_ok {a a':AV} {p:Prop} (h:adB a = some (p,a')) (hp:p) {w:World} {ρ:Env} {v:Value} (hR:R w ρ a v):R w ρ a' v:=by
 unfold adB at h
 split at h
 ·cases h; exact ro_alike hp hR
 ·cases h
theorem adC_ok {a a':AV} {p:Prop} (h:adC a = some (p,a')) (hp:p) {w:World} {ρ:Env} {v:Value} (hR:R w ρ a v):R w ρ a' v:=by
 unfold adC at h
 split at h
 ·cases h; exact rowC_alk hp hR
 ·cases h; exact ro_nil hR
 ·cases h
theorem adJ_ok {a a':AV} {p:Prop} (h:adJ a = some (p,a')) (hp:p) {w:World} {ρ:Env} {v:Value} (hR:R w ρ a v):R w ρ a' v:=by
 unfold adJ at h
 split at h
 ·cases h; exact ro_alike hp hR
 ·cases h; exact ro_nil hR
 ·cases h
def cLw (c:Con):Con
 | b :: rest => match adB b with
  | some (p,b') => (match c (b' :: rest) with
   | some (ob,r) => some (p :: ob,r)
   | none => none)
  | none => none
 | _ => none
theorem ConOK.cLw {P:Program} {f:FuncId} {c:Con} (h:ConOK P f c):ConOK P f (Ax.cLw c):=by
 intro es ob r hc hob
 unfold Ax.cLw at hc
 split at hc
 ·rename_i b rest
  split at hc
  ·rename_i p b' hb
   split at hc
   ·rename_i ob' r' hF
    cases hc
    intro I w vs hI hRs
    refine h _ _ _ hF (fun q hq => hob q (by simp [hq])) I w vs hI ?_
    obtain ⟨x,xs,rfl,h1,h2⟩:=hRs.inv
    exact .cons (adB_ok hb (hob p (by simp)) h1) h2
   ·cases hc
  ·cases hc
 ·cases hc
def cLs (c:Con):Con
 | b :: k :: j :: rest => match adB b,adC k,adJ j with
  | some (p,b'),some (q,k'),some (s,j') => (match c (b' :: k' :: j' :: rest) with
   | some (ob,r) => some (p :: q :: s :: ob,r)
   | none => none)
  | _,_,_ => none
 | _ => none
theorem ConOK.cLs {P:Program} {f:FuncId} {c:Con} (h:ConOK P f c):ConOK P f (Ax.cLs c):=by
 intro es ob r hc hob
 unfold Ax.cLs at hc
 split at hc
 ·rename_i b k j rest
  split at hc
  ·rename_i p b' q k' s j' hb hk hj
   split at hc
   ·rename_i ob' r' hF
    cases hc
    intro I w vs hI hRs
    refine h _ _ _ hF (fun q hq => hob q (by simp [hq])) I w vs hI ?_
    obtain ⟨x,xs,rfl,h1,h2⟩:=hRs.inv
    obtain ⟨y,ys,rfl,h3,h4⟩:=h2.inv
    obtain ⟨z,zs,rfl,h5,h6⟩:=h4.inv
    exact .cons (adB_ok hb (hob p (by simp)) h1) (.cons (adC_ok hk (hob q (by simp)) h3) (.cons (adJ_ok hj (hob s (by simp)) h5) h6))
   ·cases hc
  ·cases hc
 ·cases hc
section
variable {c:Con} {N M L:Nat} {g g' g'':Nat → List AV} {rest:List AV}
theorem cLw_eq:cLw c (.ro N 27 g :: rest) = (match c (.ro N 27 (bsC (bsD g)) :: rest) with
   | some (ob,r) => some ((∀ i,i < N → g i = bsC (bsD g) i) :: ob,r)
   | none => none):=(rfl)
theorem cLs_eq:cLs c (.ro N 27 g :: .ro M 15 g' :: .ro L 13 g'' :: rest) = (match c (.ro N 27 (bsC (bsD g)) :: .ro M 15 (csC (csD g')) :: .ro L 13 (jsC (jsD g'')) :: rest) with
   | some (ob,r) => some ((∀ i,i < N → g i = bsC (bsD g) i) :: (∀ i,i < M → rowC g' i) :: (∀ i,i < L → g'' i = jsC (jsD g'') i) :: ob,r)
   | none => none):=(rfl)
end
section
variable {b c d e:Bd} {l:List AV}
theorem lenA_body:(bodyC b ++ l).length = 27 + l.length:=by rw [List.length_append]; rfl
theorem take27_body:List.take 27 (bodyC b ++ l) = bodyC b:=(rfl)
theorem take54_body:List.take 54 (bodyC b ++ l) = bodyC b ++ List.take 27 l:=(rfl)
theorem take81_body:List.take 81 (bodyC b ++ l) = bodyC b ++ List.take 54 l:=(rfl)
theorem take108_body:List.take 108 (bodyC b ++ l) = bodyC b ++ List.take 81 l:=(rfl)
theorem drop27_body:List.drop 27 (bodyC b ++ l) = l:=(rfl)
theorem drop54_body:List.drop 54 (bodyC b ++ l) = List.drop 27 l:=(rfl)
theorem drop81_body:List.drop 81 (bodyC b ++ l) = List.drop 54 l:=(rfl)
theorem drop108_body:List.drop 108 (bodyC b ++ l) = List.drop 81 l:=(rfl)
end
attribute [go_sem] lenA_body take27_body take54_body take81_body take108_body drop27_body drop54_body drop81_body drop108_body
theorem purLA_body {b:Bd} {l:List AV} {d:Nat} {m:Mem}:purL d m (bodyC b ++ l) = bodyC b ++ purL d m l:=by
 rw [← purL_eq,← purL_eq,List.map_append,purL_eq,purLd_body]
theorem cleanLA_body {b:Bd} {l:List AV}:cleanL 2 (bodyC b ++ l) = cleanL 2 l:=by
 rw [← cleanL_eq,← cleanL_eq,List.all_append,cleanL_eq (l:=bodyC b),cleanL_body,Bool.true_and]
attribute [go_sem] cleanLA_body
def ros2 (b c:Bd):Nat → List AV:=rowsOf 27 (bodyC b ++ bodyC c)
theorem rows_seal2 {b c:Bd}:rowsOf 27 (bodyC b ++ bodyC c) = ros2 b c:=(rfl)
theorem rowG_r2 {b c:Bd} {d:Nat} {m:Mem}:rowG d m (ros2 b c) = ros2 b c:=by
 unfold ros2
 rw [rowG_rows,purLA_body,purLd_body]
theorem purL_r2 {b c:Bd} {d i:Nat} {m:Mem}:purL d m (ros2 b c i) = ros2 b c i:=by
 unfold ros2 rowsOf
 rw [purL_take,purL_drop,purLA_body,purLd_body]
theorem ros2_0 {b c:Bd}:ros2 b c 0 = bodyC b:=(rfl)
theorem ros2_1 {b c:Bd}:ros2 b c 1 = bodyC c:=(rfl)
theorem bsD_r20 {b c:Bd}:bsD (ros2 b c) 0 = b:=(rfl)
theorem bsD_r21 {b c:Bd}:bsD (ros2 b c) 1 = c:=(rfl)
theorem ros2_ok {b c:Bd}:(∀ i,i < 2 → ros2 b c i = bodyC (bsD (ros2 b c) i)) = True:=eq_true fun i hi => by
 match i with
 | 0 => rfl
 | 1 => rfl
 | q + 2 => omega
theorem inBs_r2 {b c:Bd}:inBs 2 (bsD (ros2 b c)) = ((inB b ∧ b.n ≤ 1000) ∧ (inB c ∧ c.n ≤ 1000)):=propext ⟨fun h => ⟨h 0 (by omega),h 1 (by omega)⟩,fun h i hi => by
 match i with
 | 0 => exact h.1
 | 1 => exact h.2
 | q + 2 => omega⟩
attribute [go_sem] rows_seal2 rowG_r2 purL_r2 ros2_0 ros2_1 bsD_r20 bsD_r21 ros2_ok inBs_r2
theorem lenA_cont {c:Ct} {l:List AV}:(contC c ++ l).length = 15 + l.length:=by rw [List.length_append]; rfl
theorem take15A_cont {c:Ct} {l:List AV}:List.take 15 (contC c ++ l) = contC c:=(rfl)
theorem take30A_cont {c:Ct} {l:List AV}:List.take 30 (contC c ++ l) = contC c ++ List.take 15 l:=(rfl)
theorem drop15A_cont {c:Ct} {l:List AV}:List.drop 15 (contC c ++ l) = l:=(rfl)
theorem drop30A_cont {c:Ct} {l:List AV}:List.drop 30 (contC c ++ l) = List.drop 15 l:=(rfl)
theorem cleanLA_cont {c:Ct} {l:List AV}:cleanL 2 (contC c ++ l) = cleanL 2 l:=by
 rw [← cleanL_eq,← cleanL_eq,List.all_append,cleanL_eq (l:=contC c),cleanL_cont,Bool.true_and]
theorem purLd_cont {c:Ct} {d:Nat} {m:Mem}:purL d m (contC c) = contC c:=by cases d <;> rfl
theorem purLA_cont {c:Ct} {l:List AV} {d:Nat} {m:Mem}:purL d m (contC c ++ l) = contC c ++ purL d m l:=by
 rw [← purL_eq,← purL_eq,List.map_append,purL_eq,purLd_cont]
def cts2 (a b:Ct):Nat → List AV:=rowsOf 15 (contC a ++ contC b)
section
variable {a b:Ct} {d i:Nat} {m:Mem}
theorem rows_sealC2:rowsOf 15 (contC a ++ contC b) = cts2 a b:=(rfl)
theorem rowG_c2:rowG d m (cts2 a b) = cts2 a b:=by
 unfold cts2
 rw [rowG_rows,purLA_cont,purLd_cont]
theorem purL_c2:purL d m (cts2 a b i) = cts2 a b i:=by
 unfold cts2 rowsOf
 rw [purL_take,purL_drop,purLA_cont,purLd_cont]
theorem cts2_0:cts2 a b 0 = contC a:=(rfl)
theorem cts2_1:cts2 a b 1 = contC b:=(rfl)
theorem csD_c20:csD (cts2 a b) 0 = a:=(rfl)
theorem csD_c21:csD (cts2 a b) 1 = b:=(rfl)
theorem cts2_ok:(∀ i,i < 2 → rowC (cts2 a b) i) = True:=eq_true fun i hi => .inl (by
 match i with
 | 0 => rfl
 | 1 => rfl
 | q + 2 => omega)
theorem inCs_c2:inCs 2 (csD (cts2 a b)) = ((inC a ∧ a.n ≤ 1000) ∧ (inC b ∧ b.n ≤ 1000)):=propext ⟨fun h => ⟨h 0 (by omega),h 1 (by omega)⟩,fun h i hi => by
 match i with
 | 0 => exact h.1
 | 1 => exact h.2
 | q + 2 => omega⟩
end
attribute [go_sem] lenA_cont take15A_cont take30A_cont drop15A_cont drop30A_cont cleanLA_cont rows_sealC2 rowG_c2 purL_c2 cts2_0 cts2_1 csD_c20 csD_c21 cts2_ok inCs_c2
theorem plainL_cont {c:Ct}:plainL 1 (contC c) = false:=(rfl)
attribute [go_sem] plainL_cont
def kSolW:Con:=cLs kSol
theorem con17w:ConOK prog 17 kSolW:=con17.cLs
def c121:Con
 | [.agg [.v (.int .i64 a),.v (.int .i64 b)],.agg [.v (.int .i64 c),.v (.int .i64 d)]] => some ([True],i64 (IntKind.i64.wrap (IntKind.i64.wrap (a * c) + IntKind.i64.wrap (b * d))))
 | _ => none
theorem con121:ConOK prog 121 c121:=ConOK.of (G:=[]) (H:=[]) .nil func121 fun l ob rr hc hob => by
 unfold c121 at hc
 split at hc
 ·rename_i a b c d
  cases hc
  have h_0:=ob0 hob
  refine ⟨by kernel_rfl,fnVC_go (rs:=[.tmp 4]) rfl rfl ?_⟩
  simp only [go_sem,iMul,iDiv,iInt,iAdd,iSub,iRat,iDot,iHyp,iSq,iNeg,iPos,iAbs,iMx,iMn,iCl,iWh,iLoc1,iLoc2,iVAdd1,iVAdd2,iVSub1,iVSub2,iScale1,iScale2,iVDot,iVCross,iLen,iOf1,iOf2,iUnit1,iUnit2,h_0]
  simp only [forall_eq]
 ·cases hc
theorem nxt_mod {n i:Nat} (h:i < n):nxt n i = (i + 1) % n:=by
 unfold nxt
 split
 ·rename_i h1; exact (Nat.mod_eq_of_lt h1).symm
 ·have:i + 1 = n:=by omega
  rw [this,Nat.mod_self]
theorem r4_wrap {r:Int} (h:16 ≤ r ∧ r ≤ 4096):IntKind.i64.wrap (IntKind.i64.wrap (IntKind.i64.wrap (r * r) * r) * r) = IntKind.i64.wrap (IntKind.i64.wrap (r * r) * IntKind.i64.wrap (r * r)):=by
 have h1:0 ≤ r * r:=Int.mul_nonneg (by omega) (by omega)
 have h2:r * r ≤ 4096 * 4096:=Int.mul_le_mul h.2 h.2 (by omega) (by omega)
 have e1:IntKind.i64.wrap (r * r) = r * r:=wrap_in (inRo (by omega))
 rw [e1]
 have h3:0 ≤ r * r * r:=Int.mul_nonneg h1 (by omega)
 have h4:r * r * r ≤ 16777216 * 4096:=Int.mul_le_mul (by omega) h.2 (by omega) (by omega)
 have e2:IntKind.i64.wrap (r * r * r) = r * r * r:=wrap_in (inRo (by omega))
 rw [e2,Int.mul_assoc (r * r) r r]
theorem cr_wrap {a b:Int}:IntKind.i64.wrap (a - b) = IntKind.i64.wrap (IntKind.i64.wrap a - IntKind.i64.wrap b):=by
 simp only [wrap_i64]
 omega
theorem cor_in {k r w t:Int} {n:Nat} {X Y:Nat → Int} (h:chkS k r w t n X Y = 0) (hk:¬ k = 1):spots (corN k r w t n X Y) fun i => [i64 (corX k w t X i),i64 (corY k w t Y i)]:=by
 have:=chk_cases h
 unfold corN
 rw [if_pos h]
 intro i hi
 refine ⟨rfl,?_⟩
 show inR (corX k w t X i) ∧ inR (corY k w t Y i)
 unfold corX corY
 by_cases h2:k = 2
 ·simp only [if_pos h2] at hi ⊢
  have h3:16 ≤ w ∧ w ≤ 4096 ∧ 16 ≤ t ∧ t ≤ 4096:=by
   rcases this with q | q | q
   ·exact absurd q.1 hk
   ·exact q.2.2
   ·exact absurd q.1 (by omega)
  match i with
  | 0 => exact (show inR (-w) ∧ inR (-t) from ⟨inRo (by omega),inRo (by omega)⟩)
  | 1 => exact (show inR (w) ∧ inR (-t) from ⟨inRo (by omega),inRo (by omega)⟩)
  | 2 => exact (show inR (w) ∧ inR (t) from ⟨inRo (by omega),inRo (by omega)⟩)
  | q + 3 => exact (show inR (-w) ∧ inR (t) from ⟨inRo (by omega),inRo (by omega)⟩)
 ·simp only [if_neg h2] at hi ⊢
  have h3:=(this.resolve_left (fun q => hk q.1)).resolve_left (fun q => h2 q.1)
  have:=h3.2.2.2.2 i hi
  unfold lo at this
  exact ⟨inRo (by omega),inRo (by omega)⟩
theorem vc64 (k r w t:Int) (n:Nat) (X Y:Nat → Int) (d:Int) (hX:∀ i,i < n → inR (X i) ∧ inR (Y i)) (hn:n ≤ 9223372036854775806) (hr:inR r) (hd:inR d) :
  fnVC prog [(62,c62),(103,k127),(117,c117),(52,k132),(78,k168),(119,c119),(118,c118),(120,c120),(121,c121),(1000000 + 179,c179)] [(9,⟨[(9,.made 8)],[]⟩),(10,⟨[(15,.made 14)],[]⟩),(11,⟨[(7,.slot 4)],[]⟩),(17,⟨[(21,.slot 12)],[]⟩),(18,⟨[(9,.slot 4)],[]⟩)] Tryz.f64 [shapeA k r w t n fun i => [i64 (X i),i64 (Y i)],i64 d] (· = .tup [wgV (wgS k r w t n X Y d),i64 (wgE k r w t n X Y d)]):=by
 refine fnVC_go (rs:=[.cell 4 38,.tmp 5]) rfl rfl ?_
 have hg:spots n fun i => [i64 (X i),i64 (Y i)]:=fun i hi => ⟨rfl,hX i hi⟩
 simp only [go_sem,c62,k127,c117,k132,k168,c119,c118,c120,c121,hg,hn,hd,gx_pts0,gx_pts1]
 have eE0:wgE k r w t n X Y d = if chkS k r w t n X Y ≠ 0 then chkS k r w t n X Y else if d < 1 ∨ 1000 < d then 3 else 0:=rfl
 intro z hz
 subst hz
 refine ⟨fun h => ?_,fun h => ⟨fun h2 => ?_,fun h2 => ?_⟩⟩
 ·have h:chkS k r w t n X Y ≠ 0:=by simpa using h
  rw [if_pos h] at eE0
  have eS:wgS k r w t n X Y d = ((0,false),(0,false)):=if_neg (by rw [eE0]; exact h)
  rw [eS,eE0]
  rfl
 ·have h:chkS k r w t n X Y = 0:=by simpa using h
  rw [if_neg (by simpa using h),if_pos h2] at eE0
  have eS:wgS k r w t n X Y d = ((0,false),(0,false)):=if_neg (by rw [eE0]; decide)
  rw [eS,eE0]
  rfl
 have h:chkS k r w t n X Y = 0:=by simpa using h
 rw [if_neg (by simpa using h),if_neg (by omega)] at eE0
 have eS:wgS k r w t n X Y d = wgM k r w t n X Y d:=if_pos eE0
 rw [eS,eE0]
 refine ⟨fun hk => ?_,fun hk => ?_⟩
 ·have hk:k = 1:=by simpa using hk
  have e:wgM k r w t n X Y d = _:=if_pos hk
  rw [e]
  have hr4:16 ≤ r ∧ r ≤ 4096:=by
   have:=chk_cases h
   omega
  have eh:whV 13493037704 = 13493037704:=by decide
  have ef:whF 13493037704 false = false:=by decide
  simp only [forall_eq,eh,ef,r4_wrap hr4]
  exact ⟨inRo (by omega),inRo (by omega),wrap_inR _,inRo (by omega),inRo (by omega),wrap_inR _,inRo (by omega),rfl⟩
 have hk:¬ k = 1:=by simpa using hk
 have e:wgM k r w t n X Y d = _:=if_neg hk
 rw [e]
 have hN8:1 ≤ corN k r w t n X Y ∧ corN k r w t n X Y ≤ 8:=by
  have:=chk_cases h
  unfold corN
  rw [if_pos h]
  split <;> omega
 have hs:spots (corN k r w t n X Y) fun i => [i64 (corX k w t X i),i64 (corY k w t Y i)]:=cor_in h hk
 generalize corN k r w t n X Y = N at *
 generalize corX k w t X = P at *
 generalize corY k w t Y = Q at *
 refine rangeC_go (fun (i:Nat) => i ≤ N) (fun i => i) (fun i => [(22,fam1 2 1 [i64 (wgB P Q N i)] none),(21,fam1 2 1 [i64 (wgA P Q N i)] none)]) [16,1,0] [66,13,67,68,69,70,71,14,72,73,74,75,76,77,78,79,80,81,82,83,84,85,86,87,88,89,90,91,92,93,94,95] 0 0 (N:=N) (sq:=cornerE N fun i => [i64 (P i),i64 (Q i)]) (ob:=[spots N fun i => [i64 (P i),i64 (Q i)],N ≤ 9223372036854775800]) rfl (owe2 hs (by omega)) (by kernel_rfl) rfl (fun i _ => ⟨rfl,rfl⟩) (Nat.zero_le _) rfl ⟨[],?_,?_,?_⟩ ?_ ?_
 ·simp only [go_sem]
  exact ⟨rfl,rfl⟩
 ·simp only [go_sem]
 ·simp [goodNames,asg]
 ·intro i hi hlt
  have hlt:i < N:=hlt
  have eA:wgA P Q N (i + 1) = IntKind.i64.wrap (wgA P Q N i + IntKind.i64.wrap (IntKind.i64.wrap (P i * Q (nxt N i)) - IntKind.i64.wrap (Q i * P (nxt N i)))):=by
   rw [← cr_wrap,nxt_mod hlt]; rfl
  have eB:wgB P Q N (i + 1) = IntKind.i64.wrap (wgB P Q N i + IntKind.i64.wrap (IntKind.i64.wrap (IntKind.i64.wrap (P i * Q (nxt N i)) - IntKind.i64.wrap (Q i * P (nxt N i))) * IntKind.i64.wrap (IntKind.i64.wrap (IntKind.i64.wrap (IntKind.i64.wrap (P i * P i) + IntKind.i64.wrap (Q i * Q i)) + IntKind.i64.wrap (IntKind.i64.wrap (P i * P (nxt N i)) + IntKind.i64.wrap (Q i * Q (nxt N i)))) + IntKind.i64.wrap (IntKind.i64.wrap (P (nxt N i) * P (nxt N i)) + IntKind.i64.wrap (Q (nxt N i) * Q (nxt N i)))))):=by
   rw [← cr_wrap,nxt_mod hlt]; rfl
  simp only [go_sem,c62,k127,c117,k132,k168,c119,c118,c120,c121,cornerE]
  simp only [forall_eq]
  refine ⟨i + 1,hlt,rfl,[],?_,by simp [goodNames,asg]⟩
  simp only [go_sem,eA,eB]
 ·intro i hi he
  have he:i = N:=he
  rw [he]
  simp only [go_sem,c62,k127,c117,k132,k168,c119,c118,c120,c121]
  have wA:∀ i,inR (wgA P Q N i):=fun i => by
   cases i with
   | zero => show inR 0; unfold inR; omega
   | succ i => exact wrap_inR _
  have wB:∀ i,inR (wgB P Q N i):=fun i => by
   cases i with
   | zero => show inR 0; unfold inR; omega
   | succ i => exact wrap_inR _
  exact ⟨inRo (by omega),wA _,inRo (by omega),wB _,rfl⟩
def c64:Con
 | [.agg [.v (.int .i64 k),.v (.int .i64 r),.v (.int .i64 w),.v (.int .i64 t),.ro n 2 g],.v (.int .i64 d)] => some ([spots n g,n ≤ 9223372036854775806,inR r,inR d],.tup [wgV (wgS k r w t n (gx g 0) (gx g 1) d),i64 (wgE k r w t n (gx g 0) (gx g 1) d)])
 | _ => none
theorem con64:ConOK prog 64 c64:=ConOK.go (G:=[(62,c62),(103,k127),(117,c117),(52,k132),(78,k168),(119,c119),(118,c118),(120,c120),(121,c121),(1000000 + 179,c179)]) (H:=[(9,⟨[(9,.made 8)],[]⟩),(10,⟨[(15,.made 14)],[]⟩),(11,⟨[(7,.slot 4)],[]⟩),(17,⟨[(21,.slot 12)],[]⟩),(18,⟨[(9,.slot 4)],[]⟩)]) (.cons con62 (.cons kon127 (.cons con117 (.cons kon132 (.cons kon168 (.cons con119 (.cons con118 (.cons con120 (.cons con121 (.seq seq179 .nil)))))))))) func64 fun l ob rr hc hob => by
 unfold c64 at hc
 split at hc
 ·rename_i k r w t n g d
  cases hc
  have hs:spots n g:=hob _ (by simp)
  refine ⟨[shapeA k r w t n fun i => [i64 (gx g 0 i),i64 (gx g 1 i)],i64 d],fun w I vs h => ?_,by kernel_rfl,vc64 k r w t n _ _ d (fun i hi => (hs i hi).2) (hob _ (by simp)) (hob _ (by simp)) (hob _ (by simp))⟩
  obtain ⟨x,xs,rfl,h1,h2⟩:=h.inv
  exact .cons (Rs_shape hs _ h1) h2
 ·cases hc
theorem vc23 (k r w t:Int) (n:Nat) (X Y:Nat → Int) (at' rot:V2) (d:Int) (mv:Bool) (hX:∀ i,i < n → inR (X i) ∧ inR (Y i)) (hn:n ≤ 9223372036854775806) (h0:inR at'.1.1) (h1:inR at'.2.1) (h2:inR rot.1.1) (h3:inR rot.2.1) (hr:inR r) (hd:inR d) :
  fnVC prog [(62,c62),(63,c63),(64,c64),(65,c65)] [(4,⟨[(5,.made 4)],[]⟩)] Tryz.f23 [shapeA k r w t n fun i => [i64 (X i),i64 (Y i)],poseA at' rot,i64 d,bo mv] (alk (.tup [boA (nwB k r w t n X Y at' rot d mv),i64 (nwE k r w t n X Y at' rot d mv)])):=by
 refine fnVC_go (rs:=[.cell 8 40,.tmp 9]) rfl rfl ?_
 have hg:spots n fun i => [i64 (X i),i64 (Y i)]:=fun i hi => ⟨rfl,hX i hi⟩
 simp only [go_sem,c62,c63,c64,c65,wgV,hg,hn,hd,gx_pts0,gx_pts1,h0,h1,h2,h3]
 simp only [forall_eq,Int.reduceBEq,Int.reduceBNe,reduceCtorEq,false_imp_iff,true_imp_iff,true_and,and_true]
 have n8:chkS k r w t n X Y = 0 → n ≤ 1000:=fun h => by
  have:=chk_cases h
  omega
 have bad:∀ e:Int,nwE k r w t n X Y at' rot d mv = e → e ≠ 0 → alk (AV.tup [boA (nwB k r w t n X Y at' rot d mv),i64 (nwE k r w t n X Y at' rot d mv)]) (.tup [.agg [i64 0,i64 0,i64 0,i64 0,.v (.slice none 0 0),i64 0,bo false,i64 0,bo false,i64 0,bo false,i64 0,bo false,i64 0,bo false,i64 0,bo false,i64 0,bo false,i64 0,bo false,i64 0,bo false,i64 0,bo false,bo false,i64 0],i64 e]):=fun e he hne => by
  subst he
  rw [show nwB k r w t n X Y at' rot d mv = _ from if_neg hne]
  exact alk_bodyT alk_nil
 have good:∀ m:Nb × Nb,nwE k r w t n X Y at' rot d mv = 0 → nwW k r w t n X Y d mv = m → alk (AV.tup [boA (nwB k r w t n X Y at' rot d mv),i64 (nwE k r w t n X Y at' rot d mv)]) (.tup [.agg [i64 k,i64 r,i64 w,i64 t,.ro n 2 fun i => [i64 (X i),i64 (Y i)],i64 at'.1.1,bo at'.1.2,i64 at'.2.1,bo at'.2.2,i64 rot.1.1,bo rot.1.2,i64 rot.2.1,bo rot.2.2,i64 0,bo false,i64 0,bo false,i64 0,bo false,i64 m.1.1,bo m.1.2,i64 m.2.1,bo m.2.2,i64 0,bo false,bo false,i64 1],i64 0]):=fun m he hm => by
  subst hm
  rw [show nwB k r w t n X Y at' rot d mv = _ from if_pos he,he]
  exact fun _ _ _ h => h
 refine ⟨fun h => bad _ (if_pos (bne_iff_ne.1 h)) (bne_iff_ne.1 h),fun h => ?_⟩
 have h:chkS k r w t n X Y = 0:=by simpa using h
 have eE:nwE k r w t n X Y at' rot d mv = if (if mv = true then wgE k r w t n X Y d else if d ≠ 0 then 3 else 0) ≠ 0 then (if mv = true then wgE k r w t n X Y d else if d ≠ 0 then 3 else 0) else plErr k r w t n X Y at' rot:=if_neg (by simpa using h)
 refine ⟨n8 h,fun hv => ?_,fun hv => ?_⟩
 ·have eW:nwW k r w t n X Y d mv = wgS k r w t n X Y d:=if_pos hv
  rw [if_pos hv] at eE
  refine ⟨hr,fun g => ?_,fun g => ?_⟩
  ·have g:wgE k r w t n X Y d ≠ 0:=by simpa using g
   rw [if_pos g] at eE
   exact bad _ eE g
  ·rw [if_neg (by simpa using g)] at eE
   exact ⟨fun p => bad _ eE (bne_iff_ne.1 p),fun p => good _ (eE.trans (by simpa using p)) eW⟩
 ·have eW:nwW k r w t n X Y d mv = ((0,false),(0,false)):=if_neg (by simp [hv])
  have eI:(if mv = true then wgE k r w t n X Y d else if d ≠ 0 then 3 else 0) = if d ≠ 0 then 3 else 0:=if_neg (by simp [hv])
  rw [eI] at eE
  refine ⟨fun g => ?_,fun g => ?_⟩
  ·have g:d ≠ 0:=by simpa using g
   have eJ:(if d ≠ 0 then (3:Int) else 0) = 3:=if_pos g
   rw [eJ,if_pos (by decide)] at eE
   exact bad _ eE (by decide)
  ·have g:d = 0:=by simpa using g
   have eJ:(if d ≠ 0 then (3:Int) else 0) = 0:=if_neg (by simpa using g)
   rw [eJ,if_neg (by decide)] at eE
   exact ⟨fun p => bad _ eE (bne_iff_ne.1 p),fun p => good _ (eE.trans (by simpa using p)) eW⟩
def c23:Con
 | [.agg [.v (.int .i64 k),.v (.int .i64 r),.v (.int .i64 w),.v (.int .i64 t),.ro n 2 g],.agg [.v (.int .i64 x),.v (.bool e),.v (.int .i64 y),.v (.bool f),.v (.int .i64 c),.v (.bool o),.v (.int .i64 s),.v (.bool p)],.v (.int .i64 d),.v (.bool mv)] => some ([spots n g,n ≤ 9223372036854775806,inR x,inR y,inR c,inR s,inR r,inR d],.tup [boA (nwB k r w t n (gx g 0) (gx g 1) ((x,e),(y,f)) ((c,o),(s,p)) d mv),i64 (nwE k r w t n (gx g 0) (gx g 1) ((x,e),(y,f)) ((c,o),(s,p)) d mv)])
 | _ => none
theorem con23:ConOK prog 23 c23:=ConOK.goR (G:=[(62,c62),(63,c63),(64,c64),(65,c65)]) (H:=[(4,⟨[(5,.made 4)],[]⟩)]) (.cons con62 (.cons con63 (.cons con64 (.cons con65 .nil)))) func23 fun l ob rr hc hob => by
 unfold c23 at hc
 split at hc
 ·rename_i k r w t n g x e y f c o s p d mv
  cases hc
  have hs:spots n g:=hob _ (by simp)
  refine ⟨[shapeA k r w t n fun i => [i64 (gx g 0 i),i64 (gx g 1 i)],poseA ((x,e),(y,f)) ((c,o),(s,p)),i64 d,bo mv],fun w I vs h => ?_,by kernel_rfl,vc23 k r w t n _ _ ((x,e),(y,f)) ((c,o),(s,p)) d mv (fun i hi => (hs i hi).2) (hob _ (by simp)) (hob _ (by simp)) (hob _ (by simp)) (hob _ (by simp)) (hob _ (by simp)) (hob _ (by simp)) (hob _ (by simp))⟩
  obtain ⟨x,xs,rfl,h1,h2⟩:=h.inv
  exact .cons (Rs_shape hs _ h1) h2
 ·cases hc
structure vldB (b:Bd):Prop where
 inb:inB b
 n:b.n ≤ 1000
 chk:chkS b.k b.r b.wd b.ht b.n b.X b.Y = 0
 rot:rotS b.rot.1.1 b.rot.1.2 b.rot.2.1 b.rot.2.2 = 0
 pl:withS b.pl.1 4096 = true ∧ withS b.pl.2 4096 = true
 v:withS b.v.1 256 = true ∧ withS b.v.2 256 = true
 w:withS b.w 64 = true
 wf:(nAdd b.m b.i).2 = false
 m0:0 ≤ b.m.1
 i0:0 ≤ b.i.1
 st:0 ≤ b.st ∧ b.st ≤ 30
 ve:1 ≤ b.ve ∧ b.ve ≤ 1099511627776
 mi:0 < b.m.1 ↔ 0 < b.i.1
 mv:mvS b = false → b.v = zV ∧ b.w = (0,false) ∧ b.st = 0 ∧ b.sl = false ∧ b.fa = false
 sl:b.sl = true ∨ b.fa = true → b.v = zV ∧ b.w = (0,false)
def kb25:Con:=cB fun b rest => match rest with
 | [] => some ([vldB b],i64 0)
 | _ => none
theorem konb25:ConOK prog 25 kb25:=ConOK.cB (G:=[(62,c62),(67,c67),(45,kw123),(68,kSum),(55,kw26)]) (H:=[]) (.cons con62 (.cons con67 (.cons konw123 (.cons konS179 (.cons konw26 .nil))))) func25 fun b rest ob r hc hob => by
 split at hc
 ·cases hc
  have ok:vldB b:=hob _ (by simp)
  obtain ⟨hb,hn,hk,hr,hp,hv,hw,hf,hm,hi,hs,he,hmi,hmv,hsl⟩:=id ok
  obtain ⟨b1,b2,b3,b4,b5,b6,b7,b8,b9,b10,b11,b12,b13,b14,b15,b16⟩:=id hb
  refine ⟨by kernel_rfl,fnVC_go (rs:=[.tmp 2]) rfl rfl ?_⟩
  simp only [bodyC,go_sem,c62,c67,kw123,kSum,kw26,cB_eq,cBR_eq,bodyD_lit,gx_pts0,gx_pts1,spots_can,etaN,etaV,bd_eta,b1,b2,b3,b4,b6,b7,b8,b9,b10,b11,b12,b13,b14,b15,b16]
  clear b1 b2 b3 b4 b6 b7 b8 b9 b10 b11 b12 b13 b14 b15 b16 hob ok
  intro z hz
  refine ⟨b5,by omega,fun h => (by rw [hz,hk] at h; cases h),fun _ z1 hz1 => ?_⟩
  have hz1:z1 = rotS b.rot.1.1 b.rot.1.2 b.rot.2.1 b.rot.2.2:=hz1
  refine ⟨fun h => (by rw [hz1,hr] at h; cases h),fun _ => ?_⟩
  simp only [forall_eq,hp.1,hp.2,hv.1,hv.2,hw,hf]
  clear hz hz1 hk hr hp hv hw hb b5
  have h1:¬ b.st < 0:=by omega
  have h2:¬ 30 < b.st:=by omega
  have h3:¬ b.ve < 1:=by omega
  have h4:¬ 1099511627776 < b.ve:=by omega
  have h5:(decide (0 < b.m.fst) == decide (0 < b.i.fst)) = true:=by
   by_cases q:0 < b.m.1
   ·rw [decide_eq_true q,decide_eq_true (hmi.1 q)]; rfl
   ·rw [decide_eq_false q,decide_eq_false (fun w => q (hmi.2 w))]; rfl
  by_cases hq:(b.sl = true ∨ b.fa = true) ∨ mvS b = false
  ·have q:b.v = zV ∧ b.w = (0,false):=hq.elim hsl fun w => ⟨(hmv w).1,(hmv w).2.1⟩
   cases hM:mvS b with
   | false =>
    obtain ⟨_,_,k1,k2,k3⟩:=hmv hM
    simp [q.1,q.2,zV,h1,h2,h3,h4,h5,hm,hi,k1,k2,k3]
   | true =>
    simp [q.1,q.2,zV,h1,h2,h3,h4,h5,hm,hi]
  ·have q1:b.sl = false:=by cases h:b.sl with | false => rfl | true => exact absurd (.inl (.inl h)) hq
   have q2:b.fa = false:=by cases h:b.fa with | false => rfl | true => exact absurd (.inl (.inr h)) hq
   have q3:mvS b = true:=by cases h:mvS b with | true => rfl | false => exact absurd (.inr h) hq
   simp [q1,q2,q3,h1,h2,h3,h4,h5,hm,hi]
 ·cases hc
def mkD (dn kd:Int):Int:=if modS kd 4 = 0 then 0 else 1 + modS dn 1000
def nuN (x s:Int):Nb:=(x.tmod (s * 4294967296),false)
def mk0 (a b c x y u dn kd s:Int):Bd:=nwB (mkK a) (mkR a b) (mkH a b b) (mkH a b c) (mkN a) (mkX a b c) (mkY a b c) (foAt x y s) (foRot u) (mkD dn kd) (modS kd 4 != 0)
def mkB (a b c x y u vx vy sp dn kd s:Int):Bd:=
 if modS kd 4 = 1 then { mk0 a b c x y u dn kd s with v:=(nuN vx 200,nuN vy 200),w:=nuN sp 60 }
 else if modS kd 4 = 2 then { mk0 a b c x y u dn kd s with st:=30,sl:=true }
 else if modS kd 4 = 3 then { mk0 a b c x y u dn kd s with sl:=true,fa:=true }
 else mk0 a b c x y u dn kd s
theorem wrD {dn:Int}:IntKind.i64.wrap (1 + modS dn 1000) = 1 + modS dn 1000:=by
 have h:=modS_bd (n:=dn) (m:=1000) (by omega)
 exact wrap_in (inRo (by omega))
theorem mk_spots {a b c:Int}:(spots (mkN a) fun i => [i64 (mkX a b c i),i64 (mkY a b c i)]) = True:=eq_true fun i hi => ⟨rfl,mk_inR i hi⟩
theorem snV_inR {x:Int} {f:Bool}:inR (snV x f):=by
 have h:=@snV_rg x f
 unfold rg at h
 unfold inR
 omega
theorem csV_inR {x:Int} {f:Bool}:inR (csV x f):=snV_inR
def kb24:Con
 | [.agg [.v (.int .i64 a),.v (.int .i64 b),.v (.int .i64 c),.v (.int .i64 x),.v (.int .i64 y),.v (.int .i64 u),.v (.int .i64 p),.v (.int .i64 q),.v (.int .i64 r),.v (.int .i64 d),.v (.int .i64 k)],.v (.int .i64 s)] => some ([inR a,inR b,inR c,inR x,inR y,inR u,inR p,inR q,inR r,inR d,inR k,1 ≤ s ∧ s ≤ 1000000],boA (mkB a b c x y u p q r d k s))
 | _ => none
theorem con7:ConOK prog 7 kb24:=ConOK.of (G:=[(26,c26),(22,c22),(24,c24),(38,c38),(39,c39)]) (H:=[(5,⟨[(15,.made 14)],[]⟩),(8,⟨[(11,.slot 7),(13,.slot 7)],[]⟩)]) (.cons con26 (.cons con22 (.cons con24 (.cons con38 (.cons con39 .nil))))) func7 fun l ob rr hc hob => by
 unfold kb24 at hc
 split at hc
 ·rename_i a b c x y u p q r d k s
  cases hc
  have h_0:=ob0 hob
  have h_1:=ob1 hob
  have h_2:=ob2 hob
  have h_3:=ob3 hob
  have h_4:=ob4 hob
  have h_5:=ob5 hob
  have h_6:=ob6 hob
  have h_7:=ob7 hob
  have h_8:=ob8 hob
  have h_9:=ob9 hob
  have h_10:=ob10 hob
  have h_11:=ob11 hob
  clear hob
  refine ⟨by kernel_rfl,fnVC_go (rs:=[.cell 4 40]) rfl rfl ?_⟩
  simp only [go_sem,c26,c22,c24,c38,c39,boA,bodyC,mk_spots,gx_pts0,gx_pts1,wrD,h_0,h_1,h_2,h_3,h_4,h_5,h_6,h_7,h_8,h_9,h_10,h_11]
  simp only [forall_eq,true_imp_iff,true_and,and_true,wrD]
  refine ⟨inRo (by omega),inRo (by omega),fun g0 => ?_,fun g0 => ?_⟩
  ·have e0:mk0 a b c x y u d k s = nwB (mkK a) (mkR a b) (mkH a b b) (mkH a b c) (mkN a) (mkX a b c) (mkY a b c) (foAt x y s) (foRot u) 0 (modS k 4 != 0):=by
    unfold mk0; rw [show mkD d k = 0 from if_pos (by simpa using g0)]
   exact ⟨mkN_le,tmod_inR h_11,tmod_inR h_11,csV_inR,snV_inR,fun g1 => by
     rw [show mkB a b c x y u p q r d k s = { mk0 a b c x y u d k s with v:=(nuN p 200,nuN q 200),w:=nuN r 60 } from if_pos (by simpa using g1),e0] <;> rfl,
    fun g1 => ⟨fun g2 => by
     rw [show mkB a b c x y u p q r d k s = { mk0 a b c x y u d k s with st:=30,sl:=true } from (if_neg (by simpa using g1)).trans (if_pos (by simpa using g2)),e0] <;> rfl,
    fun g2 => ⟨fun g3 => by
     rw [show mkB a b c x y u p q r d k s = { mk0 a b c x y u d k s with sl:=true,fa:=true } from (if_neg (by simpa using g1)).trans ((if_neg (by simpa using g2)).trans (if_pos (by simpa using g3))),e0] <;> rfl,
    fun g3 => by
     rw [show mkB a b c x y u p q r d k s = mk0 a b c x y u d k s from (if_neg (by simpa using g1)).trans ((if_neg (by simpa using g2)).trans (if_neg (by simpa using g3))),e0] <;> rfl⟩⟩⟩
  ·have e0:mk0 a b c x y u d k s = nwB (mkK a) (mkR a b) (mkH a b b) (mkH a b c) (mkN a) (mkX a b c) (mkY a b c) (foAt x y s) (foRot u) (1 + modS d 1000) (modS k 4 != 0):=by
    unfold mk0; rw [show mkD d k = 1 + modS d 1000 from if_neg (by simpa using g0)]
   exact ⟨mkN_le,tmod_inR h_11,tmod_inR h_11,csV_inR,snV_inR,by have:=modS_bd (n:=d) (m:=1000) (by omega); unfold inR; omega,fun g1 => by
     rw [show mkB a b c x y u p q r d k s = { mk0 a b c x y u d k s with v:=(nuN p 200,nuN q 200),w:=nuN r 60 } from if_pos (by simpa using g1),e0] <;> rfl,
    fun g1 => ⟨fun g2 => by
     rw [show mkB a b c x y u p q r d k s = { mk0 a b c x y u d k s with st:=30,sl:=true } from (if_neg (by simpa using g1)).trans (if_pos (by simpa using g2)),e0] <;> rfl,
    fun g2 => ⟨fun g3 => by
     rw [show mkB a b c x y u p q r d k s = { mk0 a b c x y u d k s with sl:=true,fa:=true } from (if_neg (by simpa using g1)).trans ((if_neg (by simpa using g2)).trans (if_pos (by simpa using g3))),e0] <;> rfl,
    fun g3 => by
     rw [show mkB a b c x y u p q r d k s = mk0 a b c x y u d k s from (if_neg (by simpa using g1)).trans ((if_neg (by simpa using g2)).trans (if_neg (by simpa using g3))),e0] <;> rfl⟩⟩⟩
 ·cases hc
def tiN (n:Int):Int:=16777216 + modS n 1056964608
theorem tiN_bd {n:Int}:16777216 ≤ tiN n ∧ tiN n ≤ 1073741824:=by
 have h:=modS_bd (n:=n) (m:=1056964608) (by omega)
 unfold tiN
 omega
theorem wrT {n:Int}:IntKind.i64.wrap (16777216 + modS n 1056964608) = tiN n:=by
 have h:=@tiN_bd n
 exact wrap_in (by show inR (tiN n); unfold inR; omega)
def kt48:Con
 | [.v (.int .i64 n)] => some ([inR n],nbA (tiN n,false))
 | _ => none
theorem kont48:ConOK prog 8 kt48:=ConOK.of (G:=[(26,c26)]) (H:=[]) (.cons con26 .nil) func8 fun l ob rr hc hob => by
 unfold kt48 at hc
 split at hc
 ·rename_i n
  cases hc
  have h_0:=ob0 hob
  refine ⟨by kernel_rfl,fnVC_go (rs:=[.cell 2 27]) rfl rfl ?_⟩
  simp only [go_sem,c26,iMul,iDiv,iInt,iAdd,iSub,iRat,iDot,iHyp,iSq,iNeg,iPos,iAbs,iMx,iMn,iCl,iWh,iLoc1,iLoc2,iVAdd1,iVAdd2,iVSub1,iVSub2,iScale1,iScale2,iVDot,iVCross,iLen,iOf1,iOf2,iUnit1,iUnit2,h_0]
  simp only [forall_eq,wrT]
  exact ⟨inRo (by omega),rfl⟩
 ·cases hc
theorem aEq139w {a0 b0:Int} {a1 b1:Int} {a2 b2:Int} {a3 b3:Int}:aEq prog 139 (.agg [i64 a0,i64 a1,i64 a2,i64 a3]) (.agg [i64 b0,i64 b1,i64 b2,i64 b3]) = some ((a0 == b0) && ((a1 == b1) && ((a2 == b2) && ((a3 == b3) && true)))):=by kernel_rfl
theorem eq139w {xo yo:Operand} {neg:Bool} {a0 b0:Int} {a1 b1:Int} {a2 b2:Int} {a3 b3:Int}:eqE prog neg 139 xo yo (.agg [i64 a0,i64 a1,i64 a2,i64 a3]) (.agg [i64 b0,i64 b1,i64 b2,i64 b3]) = some ⟨[],.v (.bool (negV neg ((a0 == b0) && ((a1 == b1) && ((a2 == b2) && ((a3 == b3) && true)))))),.none⟩:=eqE_agg aEq139w
attribute [go_sem] eq139w
end Go.Ax
end
section
set_option maxHeartbeats 4000000
set_option maxRecDepth 100000
namespace Go.Ax
open Go.Proofs Go.Proofs.Tryz
end Go.Ax
end
section
set_option maxHeartbeats 4000000
set_option maxRecDepth 100000
namespace Go.Ax
open Go.Proofs Go.Proofs.Tryz
theorem whF_in {x:Int} (h:-1000000000000000000 ≤ x):whF x false = false:=by
 unfold whF
 simp
 omega
theorem whV_in {x:Int} (h:-1000000000000000000 ≤ x) (h2:x ≤ 1000000000000000000):whV x = x:=by
 unfold whV
 split <;> omega
theorem ftV_in {x:Int} (h:-1000000000000000000 ≤ x) (h2:x ≤ 1000000000000000000):ftV x = x:=by
 unfold ftV
 (repeat' split) <;> omega
theorem ftF_in {x:Int} (h:-1000000000000000000 ≤ x) (h2:x ≤ 1000000000000000000):ftF x = false:=by
 unfold ftF
 simp
 omega
end Go.Ax
end
section
namespace Go.Ax
def pev:List Int → Int → Int
 | [],_ => 0
 | c :: cs,y => c + y * pev cs y
def padd:List Int → List Int → List Int
 | [],q => q
 | a :: p,[] => a :: p
 | a :: p,b :: q => (a + b) :: padd p q
def psm (k:Int):List Int → List Int
 | [] => []
 | a :: p => k * a :: psm k p
def pmul:List Int → List Int → List Int
 | [],_ => []
 | a :: p,q => padd (psm a q) (0 :: pmul p q)
def pcomp:List Int → List Int → List Int
 | [],_ => []
 | a :: p,q => padd [a] (pmul q (pcomp p q))
def pabs:List Int → Int → Int
 | [],_ => 0
 | c :: cs,B => (if c < 0 then -c else c) + B * pabs cs B
theorem pev_add (y:Int):∀ p q:List Int,pev (padd p q) y = pev p y + pev q y
 | [],q => by simp [padd,pev]
 | a :: p,[] => by simp [padd,pev]
 | a :: p,b :: q => by simp only [padd,pev,pev_add y p q]; grind
theorem pev_sm (k y:Int):∀ p:List Int,pev (psm k p) y = k * pev p y
 | [] => by simp [psm,pev]
 | a :: p => by simp only [psm,pev,pev_sm k y p]; grind
theorem pev_mul (y:Int):∀ p q:List Int,pev (pmul p q) y = pev p y * pev q y
 | [],q => by simp [pmul,pev]
 | a :: p,q => by simp only [pmul,pev,pev_add,pev_sm,pev_mul y p q]; grind
theorem pev_comp (y:Int) (q:List Int):∀ p:List Int,pev (pcomp p q) y = pev p (pev q y)
 | [] => by simp [pcomp,pev]
 | a :: p => by simp only [pcomp,pev,pev_add,pev_mul,pev_comp y q p]; grind
theorem pev_bd {y B:Int} (h0:0 ≤ y) (h1:y ≤ B):∀ cs:List Int,0 ≤ pabs cs B ∧ -(pabs cs B) ≤ pev cs y ∧ pev cs y ≤ pabs cs B
 | [] => by simp [pabs,pev]
 | c :: cs => by
  obtain ⟨k0,k1,k2⟩:=pev_bd h0 h1 cs
  have m1:y * pev cs y ≤ y * pabs cs B:=Int.mul_le_mul_of_nonneg_left k2 h0
  have m2:y * -(pabs cs B) ≤ y * pev cs y:=Int.mul_le_mul_of_nonneg_left k1 h0
  have m3:y * pabs cs B ≤ B * pabs cs B:=Int.mul_le_mul_of_nonneg_right h1 k0
  have m4:0 ≤ y * pabs cs B:=Int.mul_nonneg h0 k0
  rw [Int.mul_neg] at m2
  simp only [pabs,pev]
  split <;> refine ⟨?_,?_,?_⟩ <;> omega
def serT:List Int:=[0,4768988719006436111262234168778648423474656980035636955663595829178822894077063921902894844467270927543474141934655026171951583604355055887615953102486438762529161216000,0,(-43087899414213674021824125643264255072305462219207007284242456456798725817691141891220050084051744617156383553793407931128471747317646658681962496000),0,116789985381818398160573898299231102288065772677584217151319844983904676864291965346766500211691480339536943806187305008155852800,0,(-150742804613711681364039825115385279235570281032314673924162220557576589258871909346252821120275293038182400),0,113496997394961198577319469229027706569291890953579835547744303126809085079968756531200,0,(-55933495975544804015926845529165017287291580706094561614752645120),0,19436928798524005033027957576502600238366720,0,(-5017514388048998039552),0,1]
def serN:Int:=4768988719006436111262234168778648423474656980035636955663595829178822894077063921902894844467270927543474141934655026171951583604355055887615953102486438762529161216000
def serG (q:Int):List Int:=padd (padd (pmul serT serT) (pmul (pcomp serT [q,-1]) (pcomp serT [q,-1]))) [-(serN * 4294967296 * (serN * 4294967296))]
theorem serG_small:pabs (serG 6746518852) 6746518852 * 1048576 ≤ serN * 4294967296 * (serN * 4294967296):=by decide +kernel
theorem serG_small':pabs (serG 6746518851) 6746518851 * 1048576 ≤ serN * 4294967296 * (serN * 4294967296):=by decide +kernel
theorem pev_G {q y:Int}:pev (serG q) y = pev serT y * pev serT y + pev serT (q - y) * pev serT (q - y) - serN * 4294967296 * (serN * 4294967296):=by
 unfold serG
 simp only [pev_add,pev_mul,pev_comp,pev]
 have e:q + y * (-1 + y * 0) = q - y:=by grind
 rw [e]
 generalize pev serT y = a
 generalize pev serT (q - y) = b
 generalize serN = n
 grind
theorem ser_circle {q y:Int} (hq:q = 6746518852 ∨ q = 6746518851) (h0:0 ≤ y) (h1:y ≤ q) :
  -(serN * 4294967296 * (serN * 4294967296)) ≤ 1048576 * (pev serT y * pev serT y + pev serT (q - y) * pev serT (q - y) - serN * 4294967296 * (serN * 4294967296)) ∧
  1048576 * (pev serT y * pev serT y + pev serT (q - y) * pev serT (q - y) - serN * 4294967296 * (serN * 4294967296)) ≤ serN * 4294967296 * (serN * 4294967296):=by
 rw [← pev_G]
 obtain ⟨k0,k1,k2⟩:=pev_bd h0 h1 (serG q)
 have hs:pabs (serG q) q * 1048576 ≤ serN * 4294967296 * (serN * 4294967296):=by
  rcases hq with rfl | rfl
  ·exact serG_small
  ·exact serG_small'
 generalize serN * 4294967296 * (serN * 4294967296) = M at *
 omega
theorem td_err {x k:Int} (hk:0 < k):-k < x - x.tdiv k * k ∧ x - x.tdiv k * k < k:=by
 rcases Int.le_total 0 x with h | h
 ·rw [Int.tdiv_eq_ediv_of_nonneg h]
  have h1:=Int.emod_nonneg x (by omega:k ≠ 0)
  have h2:=Int.emod_lt_of_pos x hk
  have h3:=Int.emod_add_mul_ediv x k
  rw [Int.mul_comm k] at h3
  omega
 ·have e:x.tdiv k = -((-x).tdiv k):=by rw [Int.neg_tdiv,Int.neg_neg]
  rw [e,Int.tdiv_eq_ediv_of_nonneg (by omega)]
  have h1:=Int.emod_nonneg (-x) (by omega:k ≠ 0)
  have h2:=Int.emod_lt_of_pos (-x) hk
  have h3:=Int.emod_add_mul_ediv (-x) k
  rw [Int.mul_comm k] at h3
  rw [Int.neg_mul]
  omega
theorem ab_mul {a b A B:Int} (ha:-A ≤ a ∧ a ≤ A) (hb:-B ≤ b ∧ b ≤ B):-(A * B) ≤ a * b ∧ a * b ≤ A * B:=by
 have hA:0 ≤ A:=by omega
 have hB:0 ≤ B:=by omega
 rcases Int.le_total 0 a with h | h
 ·have k1:a * b ≤ a * B:=Int.mul_le_mul_of_nonneg_left hb.2 h
  have k2:a * -B ≤ a * b:=Int.mul_le_mul_of_nonneg_left hb.1 h
  have k3:a * B ≤ A * B:=Int.mul_le_mul_of_nonneg_right ha.2 hB
  rw [Int.mul_neg] at k2
  omega
 ·have k1:-a * b ≤ -a * B:=Int.mul_le_mul_of_nonneg_left hb.2 (by omega)
  have k2:-a * -B ≤ -a * b:=Int.mul_le_mul_of_nonneg_left hb.1 (by omega)
  have k3:-a * B ≤ A * B:=Int.mul_le_mul_of_nonneg_right (by omega) hB
  simp only [Int.mul_neg,Int.neg_mul] at k1 k2 k3
  omega
def facM (k:Nat):Int:=2 * ((k:Int) + 1) * (2 * ((k:Int) + 1) + 1)
def tq (y:Int):Nat → Int
 | 0 => y
 | k + 1 => -((((tq y k * y).tdiv 4294967296 * y).tdiv 4294967296 * 4294967296).tdiv (facM k * 4294967296))
def sq (y:Int):Nat → Int
 | 0 => y
 | k + 1 => sq y k + tq y (k + 1)
def mq:Nat → Int
 | 0 => 1
 | k + 1 => mq k * (facM k * (4294967296 * 4294967296))
def xq (y:Int):Nat → Int
 | 0 => y
 | k + 1 => -(xq y k * (y * y))
theorem tq_neg (y:Int):∀ k,tq (-y) k = -tq y k
 | 0 => rfl
 | k + 1 => by
  simp only [tq,tq_neg y k,Int.mul_neg,Int.neg_tdiv,Int.neg_mul,Int.neg_neg]
theorem sq_neg (y:Int):∀ k,sq (-y) k = -sq y k
 | 0 => rfl
 | k + 1 => by simp only [sq,sq_neg y k,tq_neg]; omega
theorem ser_step {t y m:Int} (ht:-6746518852 ≤ t ∧ t ≤ 6746518852) (hy:-6746518852 ≤ y ∧ y ≤ 6746518852) (hm:6 ≤ m) :
  (-13493037704 ≤ (t * y).tdiv 4294967296 ∧ (t * y).tdiv 4294967296 ≤ 13493037704) ∧
  (-26986075408 ≤ ((t * y).tdiv 4294967296 * y).tdiv 4294967296 ∧ ((t * y).tdiv 4294967296 * y).tdiv 4294967296 ≤ 26986075408) ∧
  (-6746518852 ≤ -((((t * y).tdiv 4294967296 * y).tdiv 4294967296 * 4294967296).tdiv (m * 4294967296)) ∧ -((((t * y).tdiv 4294967296 * y).tdiv 4294967296 * 4294967296).tdiv (m * 4294967296)) ≤ 6746518852) ∧
  (-(3 + m) * 18446744073709551616 ≤ -((((t * y).tdiv 4294967296 * y).tdiv 4294967296 * 4294967296).tdiv (m * 4294967296)) * (m * 18446744073709551616) + t * (y * y) ∧
   -((((t * y).tdiv 4294967296 * y).tdiv 4294967296 * 4294967296).tdiv (m * 4294967296)) * (m * 18446744073709551616) + t * (y * y) ≤ (3 + m) * 18446744073709551616):=by
 have e3:=td_err (x:=t * y) (k:=4294967296) (by decide)
 have m3:=ab_mul ht hy
 generalize hA:(t * y).tdiv 4294967296 = a at *
 have ba:-13493037704 ≤ a ∧ a ≤ 13493037704:=by omega
 have e2:=td_err (x:=a * y) (k:=4294967296) (by decide)
 have m2:=ab_mul ba hy
 generalize hB:(a * y).tdiv 4294967296 = b at *
 have bb:-26986075408 ≤ b ∧ b ≤ 26986075408:=by omega
 have hm':0 < m * 4294967296:=by omega
 have e1:=td_err (x:=b * 4294967296) (k:=m * 4294967296) hm'
 generalize hC:(b * 4294967296).tdiv (m * 4294967296) = c at *
 have e1':c * (m * 4294967296) = (c * m) * 4294967296:=by grind
 rw [e1'] at e1
 have e0:-m < b - c * m ∧ b - c * m < m:=by omega
 have bc:-6746518852 ≤ c ∧ c ≤ 6746518852:=by
  constructor
  ·refine Int.not_lt.1 fun h => ?_
   have:c * m ≤ (-6746518853) * m:=Int.mul_le_mul_of_nonneg_right (by omega) (by omega)
   omega
  ·refine Int.not_lt.1 fun h => ?_
   have:6746518853 * m ≤ c * m:=Int.mul_le_mul_of_nonneg_right (by omega) (by omega)
   omega
 refine ⟨ba,bb,by omega,?_⟩
 have r3:-4294967296 ≤ t * y - a * 4294967296 ∧ t * y - a * 4294967296 ≤ 4294967296:=by omega
 have k3:=ab_mul r3 hy
 have id1:-c * (m * 18446744073709551616) + t * (y * y) = (t * y - a * 4294967296) * y + (a * y - b * 4294967296) * 4294967296 + (b - c * m) * 18446744073709551616:=by grind
 rw [id1]
 omega
theorem facM_ge (k:Nat):6 ≤ facM k:=by
 unfold facM
 have h1:(2:Int) * ((k:Int) + 1) ≥ 2:=by omega
 have h2:(2:Int) * ((k:Int) + 1) + 1 ≥ 3:=by omega
 have:=Int.mul_le_mul h1 h2 (by omega) (by omega)
 omega
theorem facM_ge1 (k:Nat):20 ≤ facM (k + 1):=by
 unfold facM
 have h1:(2:Int) * (((k + 1:Nat):Int) + 1) ≥ 4:=by omega
 have h2:(2:Int) * (((k + 1:Nat):Int) + 1) + 1 ≥ 5:=by omega
 have:=Int.mul_le_mul h1 h2 (by omega) (by omega)
 omega
theorem mq_pos:∀ k,0 < mq k
 | 0 => by decide
 | k + 1 => by
  simp only [mq]
  have:=facM_ge k
  exact Int.mul_pos (mq_pos k) (Int.mul_pos (by omega) (by decide))
theorem tq_le {y:Int} (hy:-6746518852 ≤ y ∧ y ≤ 6746518852):∀ k,-6746518852 ≤ tq y k ∧ tq y k ≤ 6746518852
 | 0 => hy
 | k + 1 => (ser_step (tq_le hy k) hy (facM_ge k)).2.2.1
theorem err_step {t t' y m M X d:Int} (hM:0 < M) (hy:-6746518852 ≤ y ∧ y ≤ 6746518852) (hd:0 ≤ d) (hd2:d ≤ 2) (h:-(d * M) ≤ t * M - X ∧ t * M - X ≤ d * M)
  (he:-(3 + m) * 18446744073709551616 ≤ t' * (m * 18446744073709551616) + t * (y * y) ∧ t' * (m * 18446744073709551616) + t * (y * y) ≤ (3 + m) * 18446744073709551616) (hm:3 * d + 3 ≤ m) :
  -(2 * (M * (m * (4294967296 * 4294967296)))) ≤ t' * (M * (m * (4294967296 * 4294967296))) - -(X * (y * y)) ∧ t' * (M * (m * (4294967296 * 4294967296))) - -(X * (y * y)) ≤ 2 * (M * (m * (4294967296 * 4294967296))):=by
 have hyy:=ab_mul hy hy
 have y0:0 ≤ y * y:=by
  rcases Int.le_total 0 y with h | h
  ·exact Int.mul_nonneg h h
  ·have:=Int.mul_nonneg (show 0 ≤ -y by omega) (show 0 ≤ -y by omega)
   rwa [Int.neg_mul_neg] at this
 have id1:t' * (M * (m * (4294967296 * 4294967296))) - -(X * (y * y)) = M * (t' * (m * 18446744073709551616) + t * (y * y)) - (t * M - X) * (y * y):=by grind
 rw [id1]
 generalize t * M - X = e at *
 generalize t' * (m * 18446744073709551616) + t * (y * y) = f at *
 generalize y * y = q at *
 have k1:=ab_mul (a:=e) (A:=d * M) h (b:=q) (B:=3 * 18446744073709551616) (by omega)
 have k2:M * f ≤ M * ((3 + m) * 18446744073709551616):=Int.mul_le_mul_of_nonneg_left he.2 (by omega)
 have k3:M * (-(3 + m) * 18446744073709551616) ≤ M * f:=Int.mul_le_mul_of_nonneg_left he.1 (by omega)
 have k4:M * (3 * d + 3) ≤ M * m:=Int.mul_le_mul_of_nonneg_left hm (by omega)
 have j1:M * ((3 + m) * 18446744073709551616) = (3 * M + M * m) * 18446744073709551616:=by grind
 have j2:M * (-(3 + m) * 18446744073709551616) = -((3 * M + M * m) * 18446744073709551616):=by grind
 have j3:d * M * (3 * 18446744073709551616) = (3 * (M * d)) * 18446744073709551616:=by grind
 have j4:M * (3 * d + 3) = 3 * (M * d) + 3 * M:=by grind
 have j5:M * (m * (4294967296 * 4294967296)) = (M * m) * 18446744073709551616:=by grind
 rw [j1] at k2
 rw [j2] at k3
 rw [j3] at k1
 rw [j4] at k4
 rw [j5]
 omega
theorem ser_err {y:Int} (hy:-6746518852 ≤ y ∧ y ≤ 6746518852):∀ k,-(2 * mq (k + 1)) ≤ tq y (k + 1) * mq (k + 1) - xq y (k + 1) ∧ tq y (k + 1) * mq (k + 1) - xq y (k + 1) ≤ 2 * mq (k + 1)
 | 0 => by
  have h:=ser_step (t:=tq y 0) hy hy (facM_ge 0)
  exact err_step (d:=0) (t:=tq y 0) (M:=mq 0) (X:=xq y 0) (m:=facM 0) (mq_pos 0) hy (by omega) (by omega) (by simp [tq,mq,xq]) h.2.2.2 (by have:=facM_ge 0; omega)
 | k + 1 => by
  have h:=ser_step (tq_le hy (k + 1)) hy (facM_ge (k + 1))
  exact err_step (d:=2) (t:=tq y (k + 1)) (M:=mq (k + 1)) (X:=xq y (k + 1)) (m:=facM (k + 1)) (mq_pos _) hy (by omega) (by omega) (ser_err hy k) h.2.2.2 (by have:=facM_ge1 k; omega)
theorem mq_1:mq 1 * 43087899414213674021824125643264255072305462219207007284242456456798725817691141891220050084051744617156383553793407931128471747317646658681962496000 = serN:=by decide +kernel
theorem mq_2:mq 2 * 116789985381818398160573898299231102288065772677584217151319844983904676864291965346766500211691480339536943806187305008155852800 = serN:=by decide +kernel
theorem mq_3:mq 3 * 150742804613711681364039825115385279235570281032314673924162220557576589258871909346252821120275293038182400 = serN:=by decide +kernel
theorem mq_4:mq 4 * 113496997394961198577319469229027706569291890953579835547744303126809085079968756531200 = serN:=by decide +kernel
theorem mq_5:mq 5 * 55933495975544804015926845529165017287291580706094561614752645120 = serN:=by decide +kernel
theorem mq_6:mq 6 * 19436928798524005033027957576502600238366720 = serN:=by decide +kernel
theorem mq_7:mq 7 * 5017514388048998039552 = serN:=by decide +kernel
theorem mq_8:mq 8 * 1 = serN:=by decide +kernel
theorem err_R {t M X r N:Int} (hM:0 < M) (hr:0 ≤ r) (e:M * r = N) (h:-(2 * M) ≤ t * M - X ∧ t * M - X ≤ 2 * M):-(2 * N) ≤ t * N - X * r ∧ t * N - X * r ≤ 2 * N:=by
 have k1:=Int.mul_le_mul_of_nonneg_right h.1 hr
 have k2:=Int.mul_le_mul_of_nonneg_right h.2 hr
 subst e
 have j1:-(2 * M) * r = -(2 * (M * r)):=by grind
 have j2:(t * M - X) * r = t * (M * r) - X * r:=by grind
 have j3:2 * M * r = 2 * (M * r):=by grind
 rw [j1,j2] at k1
 rw [j2,j3] at k2
 exact ⟨k1,k2⟩
theorem ser_sum {y:Int} (hy:-6746518852 ≤ y ∧ y ≤ 6746518852):-(16 * serN) ≤ sq y 8 * serN - pev serT y ∧ sq y 8 * serN - pev serT y ≤ 16 * serN:=by
 have e1:-(2 * serN) ≤ tq y 1 * serN - xq y 1 * 43087899414213674021824125643264255072305462219207007284242456456798725817691141891220050084051744617156383553793407931128471747317646658681962496000 ∧ tq y 1 * serN - xq y 1 * 43087899414213674021824125643264255072305462219207007284242456456798725817691141891220050084051744617156383553793407931128471747317646658681962496000 ≤ 2 * serN:=err_R (mq_pos 1) (by decide) mq_1 (ser_err hy 0)
 have e2:-(2 * serN) ≤ tq y 2 * serN - xq y 2 * 116789985381818398160573898299231102288065772677584217151319844983904676864291965346766500211691480339536943806187305008155852800 ∧ tq y 2 * serN - xq y 2 * 116789985381818398160573898299231102288065772677584217151319844983904676864291965346766500211691480339536943806187305008155852800 ≤ 2 * serN:=err_R (mq_pos 2) (by decide) mq_2 (ser_err hy 1)
 have e3:-(2 * serN) ≤ tq y 3 * serN - xq y 3 * 150742804613711681364039825115385279235570281032314673924162220557576589258871909346252821120275293038182400 ∧ tq y 3 * serN - xq y 3 * 150742804613711681364039825115385279235570281032314673924162220557576589258871909346252821120275293038182400 ≤ 2 * serN:=err_R (mq_pos 3) (by decide) mq_3 (ser_err hy 2)
 have e4:-(2 * serN) ≤ tq y 4 * serN - xq y 4 * 113496997394961198577319469229027706569291890953579835547744303126809085079968756531200 ∧ tq y 4 * serN - xq y 4 * 113496997394961198577319469229027706569291890953579835547744303126809085079968756531200 ≤ 2 * serN:=err_R (mq_pos 4) (by decide) mq_4 (ser_err hy 3)
 have e5:-(2 * serN) ≤ tq y 5 * serN - xq y 5 * 55933495975544804015926845529165017287291580706094561614752645120 ∧ tq y 5 * serN - xq y 5 * 55933495975544804015926845529165017287291580706094561614752645120 ≤ 2 * serN:=err_R (mq_pos 5) (by decide) mq_5 (ser_err hy 4)
 have e6:-(2 * serN) ≤ tq y 6 * serN - xq y 6 * 19436928798524005033027957576502600238366720 ∧ tq y 6 * serN - xq y 6 * 19436928798524005033027957576502600238366720 ≤ 2 * serN:=err_R (mq_pos 6) (by decide) mq_6 (ser_err hy 5)
 have e7:-(2 * serN) ≤ tq y 7 * serN - xq y 7 * 5017514388048998039552 ∧ tq y 7 * serN - xq y 7 * 5017514388048998039552 ≤ 2 * serN:=err_R (mq_pos 7) (by decide) mq_7 (ser_err hy 6)
 have e8:-(2 * serN) ≤ tq y 8 * serN - xq y 8 * 1 ∧ tq y 8 * serN - xq y 8 * 1 ≤ 2 * serN:=err_R (mq_pos 8) (by decide) mq_8 (ser_err hy 7)
 have hs:sq y 8 * serN = y * serN + tq y 1 * serN + tq y 2 * serN + tq y 3 * serN + tq y 4 * serN + tq y 5 * serN + tq y 6 * serN + tq y 7 * serN + tq y 8 * serN:=by
  simp only [sq]
  generalize serN = n
  grind
 have hp:pev serT y = y * serN + xq y 1 * 43087899414213674021824125643264255072305462219207007284242456456798725817691141891220050084051744617156383553793407931128471747317646658681962496000 + xq y 2 * 116789985381818398160573898299231102288065772677584217151319844983904676864291965346766500211691480339536943806187305008155852800 + xq y 3 * 150742804613711681364039825115385279235570281032314673924162220557576589258871909346252821120275293038182400 + xq y 4 * 113496997394961198577319469229027706569291890953579835547744303126809085079968756531200 + xq y 5 * 55933495975544804015926845529165017287291580706094561614752645120 + xq y 6 * 19436928798524005033027957576502600238366720 + xq y 7 * 5017514388048998039552 + xq y 8 * 1:=by
  simp only [xq,pev,serT,serN]
  grind
 rw [hs,hp]
 omega
theorem sq_circle0 {q y:Int} (hq:q = 6746518852 ∨ q = 6746518851) (h0:0 ≤ y) (h1:y ≤ q) :
  -35184372088832 ≤ sq y 8 * sq y 8 + sq (q - y) 8 * sq (q - y) 8 - 18446744073709551616 ∧ sq y 8 * sq y 8 + sq (q - y) 8 * sq (q - y) 8 - 18446744073709551616 ≤ 35184372088832:=by
 have hc:=ser_circle hq h0 h1
 have ha:=ser_sum (y:=y) (by omega)
 have hb:=ser_sum (y:=q - y) (by omega)
 generalize sq y 8 = S at *
 generalize sq (q - y) 8 = C at *
 generalize pev serT y = A at *
 generalize pev serT (q - y) = B at *
 have hN:0 < serN:=by decide +kernel
 have hN1:1000000 ≤ serN:=by decide +kernel
 generalize serN = N at *
 have sqA:0 ≤ A * A:=by
  rcases Int.le_total 0 A with h | h
  ·exact Int.mul_nonneg h h
  ·have:=Int.mul_nonneg (show 0 ≤ -A by omega) (show 0 ≤ -A by omega)
   rwa [Int.neg_mul_neg] at this
 have sqB:0 ≤ B * B:=by
  rcases Int.le_total 0 B with h | h
  ·exact Int.mul_nonneg h h
  ·have:=Int.mul_nonneg (show 0 ≤ -B by omega) (show 0 ≤ -B by omega)
   rwa [Int.neg_mul_neg] at this
 have jN:N * 4294967296 * (N * 4294967296) = (N * N) * 18446744073709551616:=by grind
 rw [jN] at hc
 have nn:0 < N * N:=Int.mul_pos hN hN
 have big:∀ X:Int,X * X ≤ (N * N) * 18446744073709551616 * 2 → -(2 * (N * 4294967296)) ≤ X ∧ X ≤ 2 * (N * 4294967296):=fun X hX => by
  have p0:0 < N * 4294967296:=by omega
  constructor
  ·refine Int.not_lt.1 fun h => ?_
   have h1:2 * (N * 4294967296) ≤ -X:=by omega
   have h2:=Int.mul_le_mul h1 h1 (by omega) (by omega)
   have h3:2 * (N * 4294967296) * (2 * (N * 4294967296)) = (N * N) * 18446744073709551616 * 4:=by grind
   have h4:-X * -X = X * X:=by grind
   rw [h3,h4] at h2
   omega
  ·refine Int.not_lt.1 fun h => ?_
   have h1:2 * (N * 4294967296) ≤ X:=by omega
   have h2:=Int.mul_le_mul h1 h1 (by omega) (by omega)
   have h3:2 * (N * 4294967296) * (2 * (N * 4294967296)) = (N * N) * 18446744073709551616 * 4:=by grind
   rw [h3] at h2
   omega
 have bA:=big A (by omega)
 have bB:=big B (by omega)
 have err:∀ X s:Int,-(2 * (N * 4294967296)) ≤ X ∧ X ≤ 2 * (N * 4294967296) → -(16 * N) ≤ s * N - X ∧ s * N - X ≤ 16 * N → -((N * N) * 300000000000) ≤ (s * s) * (N * N) - X * X ∧ (s * s) * (N * N) - X * X ≤ (N * N) * 300000000000:=fun X s hX hs => by
  have id1:(s * s) * (N * N) - X * X = (s * N - X) * (s * N - X) + 2 * ((s * N - X) * X):=by grind
  rw [id1]
  have k1:=ab_mul hs hs
  have k2:=ab_mul hs hX
  have j1:16 * N * (16 * N) = (N * N) * 256:=by grind
  have j2:16 * N * (2 * (N * 4294967296)) = (N * N) * 137438953472:=by grind
  rw [j1] at k1
  rw [j2] at k2
  omega
 have eA:=err A S bA ha
 have eB:=err B C bB hb
 have fin:∀ z:Int,z * (N * N) ≤ (N * N) * 18000000000000 → z ≤ 18000000000000:=fun z hz => Int.not_lt.1 fun h => by
  have:=Int.mul_lt_mul_of_pos_left h nn
  rw [Int.mul_comm] at this
  have e:N * N * z = z * (N * N):=Int.mul_comm _ _
  omega
 have u1:(S * S + C * C - 18446744073709551616) * (N * N) ≤ (N * N) * 18000000000000 + (N * N) * 600000000000:=by
  have e:(S * S + C * C - 18446744073709551616) * (N * N) = S * S * (N * N) + C * C * (N * N) - (N * N) * 18446744073709551616:=by grind
  rw [e]; omega
 have u2:-((N * N) * 18000000000000 + (N * N) * 600000000000) ≤ (S * S + C * C - 18446744073709551616) * (N * N):=by
  have e:(S * S + C * C - 18446744073709551616) * (N * N) = S * S * (N * N) + C * C * (N * N) - (N * N) * 18446744073709551616:=by grind
  rw [e]; omega
 have fin2:∀ z:Int,z * (N * N) ≤ (N * N) * 35184372088832 → z ≤ 35184372088832:=fun z hz => Int.not_lt.1 fun h => by
  have h2:=Int.mul_lt_mul_of_pos_left h nn
  have e:N * N * z = z * (N * N):=Int.mul_comm _ _
  omega
 constructor
 ·have:=fin2 (-(S * S + C * C - 18446744073709551616)) (by rw [Int.neg_mul]; omega)
  omega
 ·exact fin2 _ (by omega)
theorem sq_circle {y z:Int} (hy:-6746518852 ≤ y ∧ y ≤ 6746518852) {q:Int} (hq:q = 6746518852 ∨ q = 6746518851) (h1:(if y < 0 then -y else y) ≤ q) (hz:(if z < 0 then -z else z) = q - (if y < 0 then -y else y)) :
  -35184372088832 ≤ sq y 8 * sq y 8 + sq z 8 * sq z 8 - 18446744073709551616 ∧ sq y 8 * sq y 8 + sq z 8 * sq z 8 - 18446744073709551616 ≤ 35184372088832:=by
 have h:=sq_circle0 (y:=if y < 0 then -y else y) hq (by split <;> omega) h1
 rw [← hz] at h
 have e:∀ x:Int,sq (if x < 0 then -x else x) 8 * sq (if x < 0 then -x else x) 8 = sq x 8 * sq x 8:=fun x => by
  split
  ·rw [sq_neg,Int.neg_mul_neg]
  ·rfl
 rw [e,e] at h
 exact h
end Go.Ax
end
section
set_option maxHeartbeats 4000000
set_option maxRecDepth 100000
namespace Go.Ax
open Go.Proofs Go.Proofs.Tryz
theorem td_le {x A:Int} (h:-(A * 4294967296) ≤ x ∧ x ≤ A * 4294967296):-A ≤ x.tdiv 4294967296 ∧ x.tdiv 4294967296 ≤ A:=by
 have e:=@td_err x 4294967296 (by omega)
 omega
theorem nMul_in {t y:Int} (ht:-100000000000 ≤ t ∧ t ≤ 100000000000) (hy:-6746518852 ≤ y ∧ y ≤ 6746518852):nMul (t,false) (y,false) = ((t * y).tdiv 4294967296,false) ∧ (-200000000000 ≤ (t * y).tdiv 4294967296 ∧ (t * y).tdiv 4294967296 ≤ 200000000000):=by
 have h:=ab_mul ht hy
 have h2:=@td_le (t * y) 200000000000 (by omega)
 refine ⟨?_,h2⟩
 unfold nMul
 dsimp only
 rw [whV_in (by omega) (by omega),whV_in (by omega) (by omega),ftV_in (by omega) (by omega),ftF_in (by omega) (by omega),whF_in (by omega),whF_in (by omega)]
 rfl
theorem nInt_in {n:Int} (h:0 ≤ n ∧ n ≤ 1000000):nInt n = (n * 4294967296,false):=by
 unfold nInt
 rw [ftV_in (by omega) (by omega),ftF_in (by omega) (by omega)]
 rfl
theorem facM_le {k:Nat} (h:k < 8):facM k ≤ 1000:=by
 unfold facM
 match k,h with
 | 0,_ | 1,_ | 2,_ | 3,_ | 4,_ | 5,_ | 6,_ | 7,_ => decide
 | k + 8,h => omega
theorem snT_eq {y:Int} (hy:-6746518852 ≤ y ∧ y ≤ 6746518852):∀ k,k ≤ 8 → snT (y,false) k = (tq y k,false)
 | 0,_ => rfl
 | k + 1,hk => by
  have ht:=tq_le hy k
  have g1:=facM_ge k
  have g2:=@facM_le k (by omega)
  obtain ⟨s1,s2,s3,s4⟩:=ser_step (m:=facM k) ht hy g1
  show nNeg (nDiv (nMul (nMul (snT (y,false) k) (y,false)) (y,false)) (nInt (facM k))) = _
  rw [snT_eq hy k (by omega),(nMul_in (by omega) hy).1,(nMul_in (by omega) hy).1,nInt_in (by omega)]
  show nNeg (nDiv _ _) = (-((((tq y k * y).tdiv 4294967296 * y).tdiv 4294967296 * 4294967296).tdiv (facM k * 4294967296)),false)
  generalize ((tq y k * y).tdiv 4294967296 * y).tdiv 4294967296 = u at *
  unfold nDiv raV raF
  dsimp only
  rw [whV_in (by omega) (by omega),whV_in (by omega) (by omega),if_neg (by omega),if_neg (by omega)]
  generalize (u * 4294967296).tdiv (facM k * 4294967296) = v at *
  rw [ftV_in (by omega) (by omega),ftF_in (by omega) (by omega),whF_in (by omega),whF_in (by omega)]
  unfold nNeg
  dsimp only
  rw [whV_in (by omega) (by omega)]
  show (-v,whF v false) = _
  rw [whF_in (by omega)]
theorem sq_le {y:Int} (hy:-6746518852 ≤ y ∧ y ≤ 6746518852):∀ k:Nat,k ≤ 8 → -((k + 1:Int) * 6746518852) ≤ sq y k ∧ sq y k ≤ (k + 1:Int) * 6746518852
 | 0,_ => by
  show _ ≤ y ∧ y ≤ _
  omega
 | k + 1,hk => by
  have h1:=sq_le hy k (by omega)
  have h2:=tq_le hy (k + 1)
  show _ ≤ sq y k + tq y (k + 1) ∧ sq y k + tq y (k + 1) ≤ _
  omega
theorem snS_eq {y:Int} (hy:-6746518852 ≤ y ∧ y ≤ 6746518852):∀ k,k ≤ 8 → snS (y,false) k = (sq y k,false)
 | 0,_ => rfl
 | k + 1,hk => by
  have h1:=sq_le hy k (by omega)
  have h2:=tq_le hy (k + 1)
  show nAdd (snS (y,false) k) (snT (y,false) (k + 1)) = (sq y k + tq y (k + 1),false)
  rw [snS_eq hy k (by omega),snT_eq hy (k + 1) hk]
  unfold nAdd
  dsimp only
  rw [whV_in (by omega) (by omega),whV_in (by omega) (by omega),ftV_in (by omega) (by omega),ftF_in (by omega) (by omega),whF_in (by omega),whF_in (by omega)]
  rfl
theorem mul_ge {M T:Int} (hM:64 ≤ M) (hT:64 ≤ T):64 * M ≤ M * T ∧ 64 * T ≤ M * T:=by
 have h1:M * 64 ≤ M * T:=Int.mul_le_mul_of_nonneg_left hT (by omega)
 have h2:64 * T ≤ M * T:=Int.mul_le_mul_of_nonneg_right hM (by omega)
 omega
theorem tri_cvx {M T:Int} (hM:64 ≤ M) (hT:64 ≤ T) {X Y:Nat → Int} (x0:X 0 = -M) (x1:X 1 = M) (x2:X 2 = 0) (y0:Y 0 = -T) (y1:Y 1 = -T) (y2:Y 2 = T):cvxS 3 X Y = true:=by
 obtain ⟨p1,p2⟩:=mul_ge hM hT
 unfold cvxS
 refine decide_eq_true fun i hi => ?_
 match i,hi with
 | 0,_ =>
  rw [show nxt 3 0 = 1 from rfl,show nxt2 3 0 = 2 from rfl,x0,x1,x2,y0,y1,y2]
  refine ⟨?_,fun j hj k1 k2 => ?_⟩
  ·simp only [Int.sub_mul,Int.mul_sub,Int.add_mul,Int.mul_add,Int.neg_mul,Int.mul_neg,Int.zero_mul,Int.mul_zero,Int.mul_comm T M,Int.neg_neg,ab]
   (repeat' split) <;> omega
  ·match j,hj,k1,k2 with
   | 0,_,k1,k2 => exact absurd rfl k1
   | 1,_,k1,k2 => exact absurd rfl k2
   | 2,_,_,_ =>
    rw [x2,y2]
    simp only [Int.sub_mul,Int.mul_sub,Int.add_mul,Int.mul_add,Int.neg_mul,Int.mul_neg,Int.zero_mul,Int.mul_zero,Int.mul_comm T M,Int.neg_neg,ab]
    omega
   | j + 3,h,_,_ => omega
 | 1,_ =>
  rw [show nxt 3 1 = 2 from rfl,show nxt2 3 1 = 0 from rfl,x0,x1,x2,y0,y1,y2]
  refine ⟨?_,fun j hj k1 k2 => ?_⟩
  ·simp only [Int.sub_mul,Int.mul_sub,Int.add_mul,Int.mul_add,Int.neg_mul,Int.mul_neg,Int.zero_mul,Int.mul_zero,Int.mul_comm T M,Int.neg_neg,ab]
   (repeat' split) <;> omega
  ·match j,hj,k1,k2 with
   | 0,_,_,_ =>
    rw [x0,y0]
    simp only [Int.sub_mul,Int.mul_sub,Int.add_mul,Int.mul_add,Int.neg_mul,Int.mul_neg,Int.zero_mul,Int.mul_zero,Int.mul_comm T M,Int.neg_neg,ab]
    omega
   | 1,_,k1,k2 => exact absurd rfl k1
   | 2,_,k1,k2 => exact absurd rfl k2
   | j + 3,h,_,_ => omega
 | 2,_ =>
  rw [show nxt 3 2 = 0 from rfl,show nxt2 3 2 = 1 from rfl,x0,x1,x2,y0,y1,y2]
  refine ⟨?_,fun j hj k1 k2 => ?_⟩
  ·simp only [Int.sub_mul,Int.mul_sub,Int.add_mul,Int.mul_add,Int.neg_mul,Int.mul_neg,Int.zero_mul,Int.mul_zero,Int.mul_comm T M,Int.neg_neg,ab]
   (repeat' split) <;> omega
  ·match j,hj,k1,k2 with
   | 0,_,k1,k2 => exact absurd rfl k2
   | 1,_,_,_ =>
    rw [x1,y1]
    simp only [Int.sub_mul,Int.mul_sub,Int.add_mul,Int.mul_add,Int.neg_mul,Int.mul_neg,Int.zero_mul,Int.mul_zero,Int.mul_comm T M,Int.neg_neg,ab]
    omega
   | 2,_,k1,k2 => exact absurd rfl k1
   | j + 3,h,_,_ => omega
 | i + 3,h => omega
theorem pen_cvx {M T h:Int} (hM:64 ≤ M) (hT:64 ≤ T) (h1:2 * h ≤ M) (h2:M ≤ 2 * h + 1) {X Y:Nat → Int} (x0:X 0 = -h) (y0:Y 0 = -T) (x1:X 1 = h) (y1:Y 1 = -T) (x2:X 2 = M) (y2:Y 2 = 0) (x3:X 3 = 0) (y3:Y 3 = T) (x4:X 4 = -M) (y4:Y 4 = 0):cvxS 5 X Y = true:=by
 obtain ⟨p1,p2⟩:=mul_ge hM hT
 have q1:(2 * h) * T ≤ M * T:=Int.mul_le_mul_of_nonneg_right h1 (by omega)
 have q2:M * T ≤ (2 * h + 1) * T:=Int.mul_le_mul_of_nonneg_right h2 (by omega)
 have q3:h * 64 ≤ h * T:=Int.mul_le_mul_of_nonneg_left hT (by omega)
 rw [Int.mul_assoc] at q1
 rw [Int.add_mul,Int.mul_assoc,Int.one_mul] at q2
 unfold cvxS
 refine decide_eq_true fun i hi => ?_
 match i,hi with
 | 0,_ =>
  rw [show nxt 5 0 = 1 from rfl,show nxt2 5 0 = 2 from rfl,x0,x1,x2,y0,y1,y2]
  refine ⟨?_,fun j hj k1 k2 => ?_⟩
  ·simp only [Int.sub_mul,Int.mul_sub,Int.add_mul,Int.mul_add,Int.neg_mul,Int.mul_neg,Int.zero_mul,Int.mul_zero,Int.mul_comm T M,Int.mul_comm T h,Int.neg_neg,ab]
   (repeat' split) <;> omega
  ·match j,hj,k1,k2 with
   | 0,_,k1,k2 => exact absurd rfl k1
   | 1,_,k1,k2 => exact absurd rfl k2
   | 2,_,_,_ =>
    rw [x2,y2]
    simp only [Int.sub_mul,Int.mul_sub,Int.add_mul,Int.mul_add,Int.neg_mul,Int.mul_neg,Int.zero_mul,Int.mul_zero,Int.mul_comm T M,Int.mul_comm T h,Int.neg_neg,ab]
    omega
   | 3,_,_,_ =>
    rw [x3,y3]
    simp only [Int.sub_mul,Int.mul_sub,Int.add_mul,Int.mul_add,Int.neg_mul,Int.mul_neg,Int.zero_mul,Int.mul_zero,Int.mul_comm T M,Int.mul_comm T h,Int.neg_neg,ab]
    omega
   | 4,_,_,_ =>
    rw [x4,y4]
    simp only [Int.sub_mul,Int.mul_sub,Int.add_mul,Int.mul_add,Int.neg_mul,Int.mul_neg,Int.zero_mul,Int.mul_zero,Int.mul_comm T M,Int.mul_comm T h,Int.neg_neg,ab]
    omega
   | j + 5,h,_,_ => omega
 | 1,_ =>
  rw [show nxt 5 1 = 2 from rfl,show nxt2 5 1 = 3 from rfl,x1,x2,x3,y1,y2,y3]
  refine ⟨?_,fun j hj k1 k2 => ?_⟩
  ·simp only [Int.sub_mul,Int.mul_sub,Int.add_mul,Int.mul_add,Int.neg_mul,Int.mul_neg,Int.zero_mul,Int.mul_zero,Int.mul_comm T M,Int.mul_comm T h,Int.neg_neg,ab]
   (repeat' split) <;> omega
  ·match j,hj,k1,k2 with
   | 0,_,_,_ =>
    rw [x0,y0]
    simp only [Int.sub_mul,Int.mul_sub,Int.add_mul,Int.mul_add,Int.neg_mul,Int.mul_neg,Int.zero_mul,Int.mul_zero,Int.mul_comm T M,Int.mul_comm T h,Int.neg_neg,ab]
    omega
   | 1,_,k1,k2 => exact absurd rfl k1
   | 2,_,k1,k2 => exact absurd rfl k2
   | 3,_,_,_ =>
    rw [x3,y3]
    simp only [Int.sub_mul,Int.mul_sub,Int.add_mul,Int.mul_add,Int.neg_mul,Int.mul_neg,Int.zero_mul,Int.mul_zero,Int.mul_comm T M,Int.mul_comm T h,Int.neg_neg,ab]
    omega
   | 4,_,_,_ =>
    rw [x4,y4]
    simp only [Int.sub_mul,Int.mul_sub,Int.add_mul,Int.mul_add,Int.neg_mul,Int.mul_neg,Int.zero_mul,Int.mul_zero,Int.mul_comm T M,Int.mul_comm T h,Int.neg_neg,ab]
    omega
   | j + 5,h,_,_ => omega
 | 2,_ =>
  rw [show nxt 5 2 = 3 from rfl,show nxt2 5 2 = 4 from rfl,x2,x3,x4,y2,y3,y4]
  refine ⟨?_,fun j hj k1 k2 => ?_⟩
  ·simp only [Int.sub_mul,Int.mul_sub,Int.add_mul,Int.mul_add,Int.neg_mul,Int.mul_neg,Int.zero_mul,Int.mul_zero,Int.mul_comm T M,Int.mul_comm T h,Int.neg_neg,ab]
   (repeat' split) <;> omega
  ·match j,hj,k1,k2 with
   | 0,_,_,_ =>
    rw [x0,y0]
    simp only [Int.sub_mul,Int.mul_sub,Int.add_mul,Int.mul_add,Int.neg_mul,Int.mul_neg,Int.zero_mul,Int.mul_zero,Int.mul_comm T M,Int.mul_comm T h,Int.neg_neg,ab]
    omega
   | 1,_,_,_ =>
    rw [x1,y1]
    simp only [Int.sub_mul,Int.mul_sub,Int.add_mul,Int.mul_add,Int.neg_mul,Int.mul_neg,Int.zero_mul,Int.mul_zero,Int.mul_comm T M,Int.mul_comm T h,Int.neg_neg,ab]
    omega
   | 2,_,k1,k2 => exact absurd rfl k1
   | 3,_,k1,k2 => exact absurd rfl k2
   | 4,_,_,_ =>
    rw [x4,y4]
    simp only [Int.sub_mul,Int.mul_sub,Int.add_mul,Int.mul_add,Int.neg_mul,Int.mul_neg,Int.zero_mul,Int.mul_zero,Int.mul_comm T M,Int.mul_comm T h,Int.neg_neg,ab]
    omega
   | j + 5,h,_,_ => omega
 | 3,_ =>
  rw [show nxt 5 3 = 4 from rfl,show nxt2 5 3 = 0 from rfl,x3,x4,x0,y3,y4,y0]
  refine ⟨?_,fun j hj k1 k2 => ?_⟩
  ·simp only [Int.sub_mul,Int.mul_sub,Int.add_mul,Int.mul_add,Int.neg_mul,Int.mul_neg,Int.zero_mul,Int.mul_zero,Int.mul_comm T M,Int.mul_comm T h,Int.neg_neg,ab]
   (repeat' split) <;> omega
  ·match j,hj,k1,k2 with
   | 0,_,_,_ =>
    rw [x0,y0]
    simp only [Int.sub_mul,Int.mul_sub,Int.add_mul,Int.mul_add,Int.neg_mul,Int.mul_neg,Int.zero_mul,Int.mul_zero,Int.mul_comm T M,Int.mul_comm T h,Int.neg_neg,ab]
    omega
   | 1,_,_,_ =>
    rw [x1,y1]
    simp only [Int.sub_mul,Int.mul_sub,Int.add_mul,Int.mul_add,Int.neg_mul,Int.mul_neg,Int.zero_mul,Int.mul_zero,Int.mul_comm T M,Int.mul_comm T h,Int.neg_neg,ab]
    omega
   | 2,_,_,_ =>
    rw [x2,y2]
    simp only [Int.sub_mul,Int.mul_sub,Int.add_mul,Int.mul_add,Int.neg_mul,Int.mul_neg,Int.zero_mul,Int.mul_zero,Int.mul_comm T M,Int.mul_comm T h,Int.neg_neg,ab]
    omega
   | 3,_,k1,k2 => exact absurd rfl k1
   | 4,_,k1,k2 => exact absurd rfl k2
   | j + 5,h,_,_ => omega
 | 4,_ =>
  rw [show nxt 5 4 = 0 from rfl,show nxt2 5 4 = 1 from rfl,x4,x0,x1,y4,y0,y1]
  refine ⟨?_,fun j hj k1 k2 => ?_⟩
  ·simp only [Int.sub_mul,Int.mul_sub,Int.add_mul,Int.mul_add,Int.neg_mul,Int.mul_neg,Int.zero_mul,Int.mul_zero,Int.mul_comm T M,Int.mul_comm T h,Int.neg_neg,ab]
   (repeat' split) <;> omega
  ·match j,hj,k1,k2 with
   | 0,_,k1,k2 => exact absurd rfl k2
   | 1,_,_,_ =>
    rw [x1,y1]
    simp only [Int.sub_mul,Int.mul_sub,Int.add_mul,Int.mul_add,Int.neg_mul,Int.mul_neg,Int.zero_mul,Int.mul_zero,Int.mul_comm T M,Int.mul_comm T h,Int.neg_neg,ab]
    omega
   | 2,_,_,_ =>
    rw [x2,y2]
    simp only [Int.sub_mul,Int.mul_sub,Int.add_mul,Int.mul_add,Int.neg_mul,Int.mul_neg,Int.zero_mul,Int.mul_zero,Int.mul_comm T M,Int.mul_comm T h,Int.neg_neg,ab]
    omega
   | 3,_,_,_ =>
    rw [x3,y3]
    simp only [Int.sub_mul,Int.mul_sub,Int.add_mul,Int.mul_add,Int.neg_mul,Int.mul_neg,Int.zero_mul,Int.mul_zero,Int.mul_comm T M,Int.mul_comm T h,Int.neg_neg,ab]
    omega
   | 4,_,k1,k2 => exact absurd rfl k1
   | j + 5,h,_,_ => omega
 | i + 5,h => omega
theorem oct_cvx {M h:Int} (hM:64 ≤ M) (h1:2 * h ≤ M) (h2:M ≤ 2 * h + 1) {X Y:Nat → Int} (x0:X 0 = M) (y0:Y 0 = -h) (x1:X 1 = M) (y1:Y 1 = h) (x2:X 2 = h) (y2:Y 2 = M) (x3:X 3 = -h) (y3:Y 3 = M) (x4:X 4 = -M) (y4:Y 4 = h) (x5:X 5 = -M) (y5:Y 5 = -h) (x6:X 6 = -h) (y6:Y 6 = -M) (x7:X 7 = h) (y7:Y 7 = -M):cvxS 8 X Y = true:=by
 have p1:64 * M ≤ M * M:=Int.mul_le_mul_of_nonneg_right hM (by omega)
 have q1:(2 * h) * M ≤ M * M:=Int.mul_le_mul_of_nonneg_right h1 (by omega)
 have q2:M * M ≤ (2 * h + 1) * M:=Int.mul_le_mul_of_nonneg_right h2 (by omega)
 have q3:h * (2 * h) ≤ h * M:=Int.mul_le_mul_of_nonneg_left h1 (by omega)
 have q4:h * M ≤ h * (2 * h + 1):=Int.mul_le_mul_of_nonneg_left h2 (by omega)
 have q5:32 * h ≤ h * h:=Int.mul_le_mul_of_nonneg_right (by omega) (by omega)
 rw [Int.mul_assoc] at q1
 rw [Int.add_mul,Int.mul_assoc,Int.one_mul] at q2
 rw [Int.mul_left_comm] at q3
 rw [Int.mul_add,Int.mul_left_comm,Int.mul_one] at q4
 unfold cvxS
 refine decide_eq_true fun i hi => ?_
 match i,hi with
 | 0,_ =>
  rw [show nxt 8 0 = 1 from rfl,show nxt2 8 0 = 2 from rfl,x0,x1,x2,y0,y1,y2]
  refine ⟨?_,fun j hj k1 k2 => ?_⟩
  ·simp only [Int.sub_mul,Int.mul_sub,Int.add_mul,Int.mul_add,Int.neg_mul,Int.mul_neg,Int.zero_mul,Int.mul_zero,Int.mul_comm M h,Int.neg_neg,ab]
   (repeat' split) <;> omega
  ·match j,hj,k1,k2 with
   | 0,_,k1,k2 => exact absurd rfl k1
   | 1,_,k1,k2 => exact absurd rfl k2
   | 2,_,_,_ =>
    rw [x2,y2]
    simp only [Int.sub_mul,Int.mul_sub,Int.add_mul,Int.mul_add,Int.neg_mul,Int.mul_neg,Int.zero_mul,Int.mul_zero,Int.mul_comm M h,Int.neg_neg,ab]
    omega
   | 3,_,_,_ =>
    rw [x3,y3]
    simp only [Int.sub_mul,Int.mul_sub,Int.add_mul,Int.mul_add,Int.neg_mul,Int.mul_neg,Int.zero_mul,Int.mul_zero,Int.mul_comm M h,Int.neg_neg,ab]
    omega
   | 4,_,_,_ =>
    rw [x4,y4]
    simp only [Int.sub_mul,Int.mul_sub,Int.add_mul,Int.mul_add,Int.neg_mul,Int.mul_neg,Int.zero_mul,Int.mul_zero,Int.mul_comm M h,Int.neg_neg,ab]
    omega
   | 5,_,_,_ =>
    rw [x5,y5]
    simp only [Int.sub_mul,Int.mul_sub,Int.add_mul,Int.mul_add,Int.neg_mul,Int.mul_neg,Int.zero_mul,Int.mul_zero,Int.mul_comm M h,Int.neg_neg,ab]
    omega
   | 6,_,_,_ =>
    rw [x6,y6]
    simp only [Int.sub_mul,Int.mul_sub,Int.add_mul,Int.mul_add,Int.neg_mul,Int.mul_neg,Int.zero_mul,Int.mul_zero,Int.mul_comm M h,Int.neg_neg,ab]
    omega
   | 7,_,_,_ =>
    rw [x7,y7]
    simp only [Int.sub_mul,Int.mul_sub,Int.add_mul,Int.mul_add,Int.neg_mul,Int.mul_neg,Int.zero_mul,Int.mul_zero,Int.mul_comm M h,Int.neg_neg,ab]
    omega
   | j + 8,h,_,_ => omega
 | 1,_ =>
  rw [show nxt 8 1 = 2 from rfl,show nxt2 8 1 = 3 from rfl,x1,x2,x3,y1,y2,y3]
  refine ⟨?_,fun j hj k1 k2 => ?_⟩
  ·simp only [Int.sub_mul,Int.mul_sub,Int.add_mul,Int.mul_add,Int.neg_mul,Int.mul_neg,Int.zero_mul,Int.mul_zero,Int.mul_comm M h,Int.neg_neg,ab]
   (repeat' split) <;> omega
  ·match j,hj,k1,k2 with
   | 0,_,_,_ =>
    rw [x0,y0]
    simp only [Int.sub_mul,Int.mul_sub,Int.add_mul,Int.mul_add,Int.neg_mul,Int.mul_neg,Int.zero_mul,Int.mul_zero,Int.mul_comm M h,Int.neg_neg,ab]
    omega
   | 1,_,k1,k2 => exact absurd rfl k1
   | 2,_,k1,k2 => exact absurd rfl k2
   | 3,_,_,_ =>
    rw [x3,y3]
    simp only [Int.sub_mul,Int.mul_sub,Int.add_mul,Int.mul_add,Int.neg_mul,Int.mul_neg,Int.zero_mul,Int.mul_zero,Int.mul_comm M h,Int.neg_neg,ab]
    omega
   | 4,_,_,_ =>
    rw [x4,y4]
    simp only [Int.sub_mul,Int.mul_sub,Int.add_mul,Int.mul_add,Int.neg_mul,Int.mul_neg,Int.zero_mul,Int.mul_zero,Int.mul_comm M h,Int.neg_neg,ab]
    omega
   | 5,_,_,_ =>
    rw [x5,y5]
    simp only [Int.sub_mul,Int.mul_sub,Int.add_mul,Int.mul_add,Int.neg_mul,Int.mul_neg,Int.zero_mul,Int.mul_zero,Int.mul_comm M h,Int.neg_neg,ab]
    omega
   | 6,_,_,_ =>
    rw [x6,y6]
    simp only [Int.sub_mul,Int.mul_sub,Int.add_mul,Int.mul_add,Int.neg_mul,Int.mul_neg,Int.zero_mul,Int.mul_zero,Int.mul_comm M h,Int.neg_neg,ab]
    omega
   | 7,_,_,_ =>
    rw [x7,y7]
    simp only [Int.sub_mul,Int.mul_sub,Int.add_mul,Int.mul_add,Int.neg_mul,Int.mul_neg,Int.zero_mul,Int.mul_zero,Int.mul_comm M h,Int.neg_neg,ab]
    omega
   | j + 8,h,_,_ => omega
 | 2,_ =>
  rw [show nxt 8 2 = 3 from rfl,show nxt2 8 2 = 4 from rfl,x2,x3,x4,y2,y3,y4]
  refine ⟨?_,fun j hj k1 k2 => ?_⟩
  ·simp only [Int.sub_mul,Int.mul_sub,Int.add_mul,Int.mul_add,Int.neg_mul,Int.mul_neg,Int.zero_mul,Int.mul_zero,Int.mul_comm M h,Int.neg_neg,ab]
   (repeat' split) <;> omega
  ·match j,hj,k1,k2 with
   | 0,_,_,_ =>
    rw [x0,y0]
    simp only [Int.sub_mul,Int.mul_sub,Int.add_mul,Int.mul_add,Int.neg_mul,Int.mul_neg,Int.zero_mul,Int.mul_zero,Int.mul_comm M h,Int.neg_neg,ab]
    omega
   | 1,_,_,_ =>
    rw [x1,y1]
    simp only [Int.sub_mul,Int.mul_sub,Int.add_mul,Int.mul_add,Int.neg_mul,Int.mul_neg,Int.zero_mul,Int.mul_zero,Int.mul_comm M h,Int.neg_neg,ab]
    omega
   | 2,_,k1,k2 => exact absurd rfl k1
   | 3,_,k1,k2 => exact absurd rfl k2
   | 4,_,_,_ =>
    rw [x4,y4]
    simp only [Int.sub_mul,Int.mul_sub,Int.add_mul,Int.mul_add,Int.neg_mul,Int.mul_neg,Int.zero_mul,Int.mul_zero,Int.mul_comm M h,Int.neg_neg,ab]
    omega
   | 5,_,_,_ =>
    rw [x5,y5]
    simp only [Int.sub_mul,Int.mul_sub,Int.add_mul,Int.mul_add,Int.neg_mul,Int.mul_neg,Int.zero_mul,Int.mul_zero,Int.mul_comm M h,Int.neg_neg,ab]
    omega
   | 6,_,_,_ =>
    rw [x6,y6]
    simp only [Int.sub_mul,Int.mul_sub,Int.add_mul,Int.mul_add,Int.neg_mul,Int.mul_neg,Int.zero_mul,Int.mul_zero,Int.mul_comm M h,Int.neg_neg,ab]
    omega
   | 7,_,_,_ =>
    rw [x7,y7]
    simp only [Int.sub_mul,Int.mul_sub,Int.add_mul,Int.mul_add,Int.neg_mul,Int.mul_neg,Int.zero_mul,Int.mul_zero,Int.mul_comm M h,Int.neg_neg,ab]
    omega
   | j + 8,h,_,_ => omega
 | 3,_ =>
  rw [show nxt 8 3 = 4 from rfl,show nxt2 8 3 = 5 from rfl,x3,x4,x5,y3,y4,y5]
  refine ⟨?_,fun j hj k1 k2 => ?_⟩
  ·simp only [Int.sub_mul,Int.mul_sub,Int.add_mul,Int.mul_add,Int.neg_mul,Int.mul_neg,Int.zero_mul,Int.mul_zero,Int.mul_comm M h,Int.neg_neg,ab]
   (repeat' split) <;> omega
  ·match j,hj,k1,k2 with
   | 0,_,_,_ =>
    rw [x0,y0]
    simp only [Int.sub_mul,Int.mul_sub,Int.add_mul,Int.mul_add,Int.neg_mul,Int.mul_neg,Int.zero_mul,Int.mul_zero,Int.mul_comm M h,Int.neg_neg,ab]
    omega
   | 1,_,_,_ =>
    rw [x1,y1]
    simp only [Int.sub_mul,Int.mul_sub,Int.add_mul,Int.mul_add,Int.neg_mul,Int.mul_neg,Int.zero_mul,Int.mul_zero,Int.mul_comm M h,Int.neg_neg,ab]
    omega
   | 2,_,_,_ =>
    rw [x2,y2]
    simp only [Int.sub_mul,Int.mul_sub,Int.add_mul,Int.mul_add,Int.neg_mul,Int.mul_neg,Int.zero_mul,Int.mul_zero,Int.mul_comm M h,Int.neg_neg,ab]
    omega
   | 3,_,k1,k2 => exact absurd rfl k1
   | 4,_,k1,k2 => exact absurd rfl k2
   | 5,_,_,_ =>
    rw [x5,y5]
    simp only [Int.sub_mul,Int.mul_sub,Int.add_mul,Int.mul_add,Int.neg_mul,Int.mul_neg,Int.zero_mul,Int.mul_zero,Int.mul_comm M h,Int.neg_neg,ab]
    omega
   | 6,_,_,_ =>
    rw [x6,y6]
    simp only [Int.sub_mul,Int.mul_sub,Int.add_mul,Int.mul_add,Int.neg_mul,Int.mul_neg,Int.zero_mul,Int.mul_zero,Int.mul_comm M h,Int.neg_neg,ab]
    omega
   | 7,_,_,_ =>
    rw [x7,y7]
    simp only [Int.sub_mul,Int.mul_sub,Int.add_mul,Int.mul_add,Int.neg_mul,Int.mul_neg,Int.zero_mul,Int.mul_zero,Int.mul_comm M h,Int.neg_neg,ab]
    omega
   | j + 8,h,_,_ => omega
 | 4,_ =>
  rw [show nxt 8 4 = 5 from rfl,show nxt2 8 4 = 6 from rfl,x4,x5,x6,y4,y5,y6]
  refine ⟨?_,fun j hj k1 k2 => ?_⟩
  ·simp only [Int.sub_mul,Int.mul_sub,Int.add_mul,Int.mul_add,Int.neg_mul,Int.mul_neg,Int.zero_mul,Int.mul_zero,Int.mul_comm M h,Int.neg_neg,ab]
   (repeat' split) <;> omega
  ·match j,hj,k1,k2 with
   | 0,_,_,_ =>
    rw [x0,y0]
    simp only [Int.sub_mul,Int.mul_sub,Int.add_mul,Int.mul_add,Int.neg_mul,Int.mul_neg,Int.zero_mul,Int.mul_zero,Int.mul_comm M h,Int.neg_neg,ab]
    omega
   | 1,_,_,_ =>
    rw [x1,y1]
    simp only [Int.sub_mul,Int.mul_sub,Int.add_mul,Int.mul_add,Int.neg_mul,Int.mul_neg,Int.zero_mul,Int.mul_zero,Int.mul_comm M h,Int.neg_neg,ab]
    omega
   | 2,_,_,_ =>
    rw [x2,y2]
    simp only [Int.sub_mul,Int.mul_sub,Int.add_mul,Int.mul_add,Int.neg_mul,Int.mul_neg,Int.zero_mul,Int.mul_zero,Int.mul_comm M h,Int.neg_neg,ab]
    omega
   | 3,_,_,_ =>
    rw [x3,y3]
    simp only [Int.sub_mul,Int.mul_sub,Int.add_mul,Int.mul_add,Int.neg_mul,Int.mul_neg,Int.zero_mul,Int.mul_zero,Int.mul_comm M h,Int.neg_neg,ab]
    omega
   | 4,_,k1,k2 => exact absurd rfl k1
   | 5,_,k1,k2 => exact absurd rfl k2
   | 6,_,_,_ =>
    rw [x6,y6]
    simp only [Int.sub_mul,Int.mul_sub,Int.add_mul,Int.mul_add,Int.neg_mul,Int.mul_neg,Int.zero_mul,Int.mul_zero,Int.mul_comm M h,Int.neg_neg,ab]
    omega
   | 7,_,_,_ =>
    rw [x7,y7]
    simp only [Int.sub_mul,Int.mul_sub,Int.add_mul,Int.mul_add,Int.neg_mul,Int.mul_neg,Int.zero_mul,Int.mul_zero,Int.mul_comm M h,Int.neg_neg,ab]
    omega
   | j + 8,h,_,_ => omega
 | 5,_ =>
  rw [show nxt 8 5 = 6 from rfl,show nxt2 8 5 = 7 from rfl,x5,x6,x7,y5,y6,y7]
  refine ⟨?_,fun j hj k1 k2 => ?_⟩
  ·simp only [Int.sub_mul,Int.mul_sub,Int.add_mul,Int.mul_add,Int.neg_mul,Int.mul_neg,Int.zero_mul,Int.mul_zero,Int.mul_comm M h,Int.neg_neg,ab]
   (repeat' split) <;> omega
  ·match j,hj,k1,k2 with
   | 0,_,_,_ =>
    rw [x0,y0]
    simp only [Int.sub_mul,Int.mul_sub,Int.add_mul,Int.mul_add,Int.neg_mul,Int.mul_neg,Int.zero_mul,Int.mul_zero,Int.mul_comm M h,Int.neg_neg,ab]
    omega
   | 1,_,_,_ =>
    rw [x1,y1]
    simp only [Int.sub_mul,Int.mul_sub,Int.add_mul,Int.mul_add,Int.neg_mul,Int.mul_neg,Int.zero_mul,Int.mul_zero,Int.mul_comm M h,Int.neg_neg,ab]
    omega
   | 2,_,_,_ =>
    rw [x2,y2]
    simp only [Int.sub_mul,Int.mul_sub,Int.add_mul,Int.mul_add,Int.neg_mul,Int.mul_neg,Int.zero_mul,Int.mul_zero,Int.mul_comm M h,Int.neg_neg,ab]
    omega
   | 3,_,_,_ =>
    rw [x3,y3]
    simp only [Int.sub_mul,Int.mul_sub,Int.add_mul,Int.mul_add,Int.neg_mul,Int.mul_neg,Int.zero_mul,Int.mul_zero,Int.mul_comm M h,Int.neg_neg,ab]
    omega
   | 4,_,_,_ =>
    rw [x4,y4]
    simp only [Int.sub_mul,Int.mul_sub,Int.add_mul,Int.mul_add,Int.neg_mul,Int.mul_neg,Int.zero_mul,Int.mul_zero,Int.mul_comm M h,Int.neg_neg,ab]
    omega
   | 5,_,k1,k2 => exact absurd rfl k1
   | 6,_,k1,k2 => exact absurd rfl k2
   | 7,_,_,_ =>
    rw [x7,y7]
    simp only [Int.sub_mul,Int.mul_sub,Int.add_mul,Int.mul_add,Int.neg_mul,Int.mul_neg,Int.zero_mul,Int.mul_zero,Int.mul_comm M h,Int.neg_neg,ab]
    omega
   | j + 8,h,_,_ => omega
 | 6,_ =>
  rw [show nxt 8 6 = 7 from rfl,show nxt2 8 6 = 0 from rfl,x6,x7,x0,y6,y7,y0]
  refine ⟨?_,fun j hj k1 k2 => ?_⟩
  ·simp only [Int.sub_mul,Int.mul_sub,Int.add_mul,Int.mul_add,Int.neg_mul,Int.mul_neg,Int.zero_mul,Int.mul_zero,Int.mul_comm M h,Int.neg_neg,ab]
   (repeat' split) <;> omega
  ·match j,hj,k1,k2 with
   | 0,_,_,_ =>
    rw [x0,y0]
    simp only [Int.sub_mul,Int.mul_sub,Int.add_mul,Int.mul_add,Int.neg_mul,Int.mul_neg,Int.zero_mul,Int.mul_zero,Int.mul_comm M h,Int.neg_neg,ab]
    omega
   | 1,_,_,_ =>
    rw [x1,y1]
    simp only [Int.sub_mul,Int.mul_sub,Int.add_mul,Int.mul_add,Int.neg_mul,Int.mul_neg,Int.zero_mul,Int.mul_zero,Int.mul_comm M h,Int.neg_neg,ab]
    omega
   | 2,_,_,_ =>
    rw [x2,y2]
    simp only [Int.sub_mul,Int.mul_sub,Int.add_mul,Int.mul_add,Int.neg_mul,Int.mul_neg,Int.zero_mul,Int.mul_zero,Int.mul_comm M h,Int.neg_neg,ab]
    omega
   | 3,_,_,_ =>
    rw [x3,y3]
    simp only [Int.sub_mul,Int.mul_sub,Int.add_mul,Int.mul_add,Int.neg_mul,Int.mul_neg,Int.zero_mul,Int.mul_zero,Int.mul_comm M h,Int.neg_neg,ab]
    omega
   | 4,_,_,_ =>
    rw [x4,y4]
    simp only [Int.sub_mul,Int.mul_sub,Int.add_mul,Int.mul_add,Int.neg_mul,Int.mul_neg,Int.zero_mul,Int.mul_zero,Int.mul_comm M h,Int.neg_neg,ab]
    omega
   | 5,_,_,_ =>
    rw [x5,y5]
    simp only [Int.sub_mul,Int.mul_sub,Int.add_mul,Int.mul_add,Int.neg_mul,Int.mul_neg,Int.zero_mul,Int.mul_zero,Int.mul_comm M h,Int.neg_neg,ab]
    omega
   | 6,_,k1,k2 => exact absurd rfl k1
   | 7,_,k1,k2 => exact absurd rfl k2
   | j + 8,h,_,_ => omega
 | 7,_ =>
  rw [show nxt 8 7 = 0 from rfl,show nxt2 8 7 = 1 from rfl,x7,x0,x1,y7,y0,y1]
  refine ⟨?_,fun j hj k1 k2 => ?_⟩
  ·simp only [Int.sub_mul,Int.mul_sub,Int.add_mul,Int.mul_add,Int.neg_mul,Int.mul_neg,Int.zero_mul,Int.mul_zero,Int.mul_comm M h,Int.neg_neg,ab]
   (repeat' split) <;> omega
  ·match j,hj,k1,k2 with
   | 0,_,k1,k2 => exact absurd rfl k2
   | 1,_,_,_ =>
    rw [x1,y1]
    simp only [Int.sub_mul,Int.mul_sub,Int.add_mul,Int.mul_add,Int.neg_mul,Int.mul_neg,Int.zero_mul,Int.mul_zero,Int.mul_comm M h,Int.neg_neg,ab]
    omega
   | 2,_,_,_ =>
    rw [x2,y2]
    simp only [Int.sub_mul,Int.mul_sub,Int.add_mul,Int.mul_add,Int.neg_mul,Int.mul_neg,Int.zero_mul,Int.mul_zero,Int.mul_comm M h,Int.neg_neg,ab]
    omega
   | 3,_,_,_ =>
    rw [x3,y3]
    simp only [Int.sub_mul,Int.mul_sub,Int.add_mul,Int.mul_add,Int.neg_mul,Int.mul_neg,Int.zero_mul,Int.mul_zero,Int.mul_comm M h,Int.neg_neg,ab]
    omega
   | 4,_,_,_ =>
    rw [x4,y4]
    simp only [Int.sub_mul,Int.mul_sub,Int.add_mul,Int.mul_add,Int.neg_mul,Int.mul_neg,Int.zero_mul,Int.mul_zero,Int.mul_comm M h,Int.neg_neg,ab]
    omega
   | 5,_,_,_ =>
    rw [x5,y5]
    simp only [Int.sub_mul,Int.mul_sub,Int.add_mul,Int.mul_add,Int.neg_mul,Int.mul_neg,Int.zero_mul,Int.mul_zero,Int.mul_comm M h,Int.neg_neg,ab]
    omega
   | 6,_,_,_ =>
    rw [x6,y6]
    simp only [Int.sub_mul,Int.mul_sub,Int.add_mul,Int.mul_add,Int.neg_mul,Int.mul_neg,Int.zero_mul,Int.mul_zero,Int.mul_comm M h,Int.neg_neg,ab]
    omega
   | 7,_,k1,k2 => exact absurd rfl k1
   | j + 8,h,_,_ => omega
 | i + 8,h => omega
theorem mk_lo {a b c:Int} (i:Nat) (hi:i < mkN a):lo (mkX a b c i) ∧ lo (mkY a b c i):=by
 have b1:=@mkM_bd b b
 have b2:=@mkM_bd b c
 have t1:(mkM b b).tdiv 2 = mkM b b / 2:=Int.tdiv_eq_ediv_of_nonneg (by omega)
 have t2:(-mkM b b).tdiv 2 = -(mkM b b / 2):=by rw [Int.neg_tdiv,t1]
 unfold mkX mkY mkP
 unfold mkN at hi
 by_cases k0:modS a 5 = 0
 ·rw [if_pos k0] at hi; omega
 rw [if_neg k0] at hi
 by_cases k1:modS a 5 = 1
 ·rw [if_pos k1] at hi; omega
 rw [if_neg k1] at hi
 rw [t1,t2]
 generalize mkM b b = M at *
 generalize mkM b c = T at *
 by_cases k2:modS a 5 = 2
 ·rw [if_pos k2] at hi
  rw [if_pos k2]
  match i with
  | 0 => show lo (-M) ∧ lo (-T); unfold lo; omega
  | 1 => show lo M ∧ lo (-T); unfold lo; omega
  | 2 => show lo 0 ∧ lo T; unfold lo; omega
  | q + 3 => omega
 rw [if_neg k2] at hi
 rw [if_neg k2]
 by_cases k3:modS a 5 = 3
 ·rw [if_pos k3] at hi
  rw [if_pos k3]
  match i with
  | 0 => show lo (-(M / 2)) ∧ lo (-T); unfold lo; omega
  | 1 => show lo (M / 2) ∧ lo (-T); unfold lo; omega
  | 2 => show lo M ∧ lo 0; unfold lo; omega
  | 3 => show lo 0 ∧ lo T; unfold lo; omega
  | 4 => show lo (-M) ∧ lo 0; unfold lo; omega
  | q + 5 => omega
 rw [if_neg k3] at hi
 rw [if_neg k3]
 match i with
 | 0 => show lo M ∧ lo (-(M / 2)); unfold lo; omega
 | 1 => show lo M ∧ lo (M / 2); unfold lo; omega
 | 2 => show lo (M / 2) ∧ lo M; unfold lo; omega
 | 3 => show lo (-(M / 2)) ∧ lo M; unfold lo; omega
 | 4 => show lo (-M) ∧ lo (M / 2); unfold lo; omega
 | 5 => show lo (-M) ∧ lo (-(M / 2)); unfold lo; omega
 | 6 => show lo (-(M / 2)) ∧ lo (-M); unfold lo; omega
 | 7 => show lo (M / 2) ∧ lo (-M); unfold lo; omega
 | q + 8 => omega
theorem mk_cvx {a b c:Int} (k0:modS a 5 ≠ 0) (k1:modS a 5 ≠ 1):cvxS (mkN a) (mkX a b c) (mkY a b c) = true:=by
 have b1:=@mkM_bd b b
 have b2:=@mkM_bd b c
 have t1:(mkM b b).tdiv 2 = mkM b b / 2:=Int.tdiv_eq_ediv_of_nonneg (by omega)
 have t2:(-mkM b b).tdiv 2 = -(mkM b b / 2):=by rw [Int.neg_tdiv,t1]
 by_cases k2:modS a 5 = 2
 ·rw [show mkN a = 3 from by unfold mkN; rw [if_neg k0,if_neg k1,if_pos k2]]
  refine tri_cvx (M:=mkM b b) (T:=mkM b c) (by omega) (by omega) ?_ ?_ ?_ ?_ ?_ ?_ <;> (first | unfold mkX | unfold mkY) <;> unfold mkP <;> rw [if_pos k2] <;> rfl
 by_cases k3:modS a 5 = 3
 ·rw [show mkN a = 5 from by unfold mkN; rw [if_neg k0,if_neg k1,if_neg k2,if_pos k3]]
  refine pen_cvx (M:=mkM b b) (T:=mkM b c) (h:=mkM b b / 2) (by omega) (by omega) (by omega) (by omega) ?_ ?_ ?_ ?_ ?_ ?_ ?_ ?_ ?_ ?_ <;> (first | unfold mkX | unfold mkY) <;> unfold mkP <;> rw [if_neg k2,if_pos k3,t1,t2] <;> rfl
 ·rw [show mkN a = 8 from by unfold mkN; rw [if_neg k0,if_neg k1,if_neg k2,if_neg k3]]
  refine oct_cvx (M:=mkM b b) (h:=mkM b b / 2) (by omega) (by omega) (by omega) ?_ ?_ ?_ ?_ ?_ ?_ ?_ ?_ ?_ ?_ ?_ ?_ ?_ ?_ ?_ ?_ <;> (first | unfold mkX | unfold mkY) <;> unfold mkP <;> rw [if_neg k2,if_neg k3,t1,t2] <;> rfl
theorem mk_chk {a b c:Int}:chkS (mkK a) (mkR a b) (mkH a b b) (mkH a b c) (mkN a) (mkX a b c) (mkY a b c) = 0:=by
 have w1:=@mkW_bd b b
 have w2:=@mkW_bd b c
 by_cases k0:modS a 5 = 0
 ·unfold chkS mkK mkR mkH mkN
  rw [if_pos k0,if_pos k0,if_pos k0,if_pos k0,if_pos k0,if_pos rfl,if_neg (by simp),if_pos w1]
 by_cases k1:modS a 5 = 1
 ·unfold chkS mkK mkR mkH mkN
  rw [if_neg k0,if_neg k0,if_neg k0,if_neg k0,if_neg k0,if_pos k1,if_pos k1,if_pos k1,if_pos k1,if_neg (by decide),if_pos rfl,if_neg (by simp),if_pos ⟨w1,w2⟩]
 have hN:3 ≤ mkN a ∧ mkN a ≤ 8:=by
  unfold mkN
  rw [if_neg k0,if_neg k1]
  (repeat' split) <;> omega
 have e1:mkK a = 3:=by unfold mkK; rw [if_neg k0,if_neg k1]
 have e2:mkR a b = 0:=if_neg k0
 have e3:∀ v,mkH a b v = 0:=fun v => by unfold mkH; rw [if_neg k0,if_neg k1]
 unfold chkS
 rw [e1,e2,e3,e3,if_neg (by decide),if_neg (by decide),if_pos rfl,if_neg (by omega),if_pos mk_lo,if_pos (mk_cvx k0 k1)]
theorem mk_wgE {a b c d k:Int} (hk:modS k 4 ≠ 0):wgE (mkK a) (mkR a b) (mkH a b b) (mkH a b c) (mkN a) (mkX a b c) (mkY a b c) (mkD d k) = 0:=by
 have h:=modS_bd (n:=d) (m:=1000) (by omega)
 have e:mkD d k = 1 + modS d 1000:=if_neg hk
 unfold wgE
 rw [if_neg (by rw [mk_chk]; simp),e,if_neg (by omega)]
theorem foAt_bd {x s:Int} (h:1 ≤ s ∧ s ≤ 4000):-17179869184000 ≤ x.tmod (s * 4294967296) ∧ x.tmod (s * 4294967296) ≤ 17179869184000:=by
 have h1:x.tmod (s * 4294967296) < s * 4294967296:=Int.tmod_lt_of_pos x (by omega)
 have h2:-(s * 4294967296) < x.tmod (s * 4294967296):=Int.lt_tmod_of_pos x (by omega)
 omega
def abZ (x:Int):Int:=if x < 0 then -x else x
theorem qt_pair {p:Int} (h:-13493037704 ≤ p ∧ p ≤ 13493037704):∃ q,(q = 6746518852 ∨ q = 6746518851) ∧ (-6746518852 ≤ qtV p ∧ qtV p ≤ 6746518852) ∧ abZ (qtV p) ≤ q ∧ (-6746518852 ≤ qtV (if 13493037704 < p + 6746518852 then p + 6746518852 - 26986075409 else p + 6746518852) ∧ qtV (if 13493037704 < p + 6746518852 then p + 6746518852 - 26986075409 else p + 6746518852) ≤ 6746518852) ∧ abZ (qtV (if 13493037704 < p + 6746518852 then p + 6746518852 - 26986075409 else p + 6746518852)) = q - abZ (qtV p):=by
 by_cases h1:6746518852 < p
 ·refine ⟨6746518851,.inr rfl,?_⟩
  rw [if_pos (by omega)]
  unfold qtV abZ
  (repeat' split) <;> omega
 ·refine ⟨6746518852,.inl rfl,?_⟩
  rw [if_neg (by omega)]
  unfold qtV abZ
  (repeat' split) <;> omega
theorem wpV_sh {p:Int} (h:-13493037704 ≤ p ∧ p ≤ 13493037704):wpV (p + 6746518852) = if 13493037704 < p + 6746518852 then p + 6746518852 - 26986075409 else p + 6746518852:=by
 have e:(p + 6746518852).tmod 26986075409 = p + 6746518852:=by
  rcases Int.le_total 0 (p + 6746518852) with k | k
  ·rw [Int.tmod_eq_emod_of_nonneg k,Int.emod_eq_of_lt k (by omega)]
  ·have e2:p + 6746518852 = -(-(p + 6746518852)):=by omega
   rw [e2,Int.neg_tmod,Int.tmod_eq_emod_of_nonneg (by omega),Int.emod_eq_of_lt (by omega) (by omega)]
 unfold wpV
 rw [e]
 split
 ·rfl
 ·rw [if_neg (by omega)]
def cl1 (x:Int):Int:=max (-4294967296) (min x 4294967296)
theorem snV_q {v:Int} (h:-1000000000000000 ≤ v ∧ v ≤ 1000000000000000):snV v false = cl1 (sq (qtV (wpV v)) 8) ∧ snF v false = false:=by
 have hp:=@wpV_le v
 have hy:-6746518852 ≤ qtV (wpV v) ∧ qtV (wpV v) ≤ 6746518852:=by
  obtain ⟨q,h1,h2,h3,h4,h5⟩:=qt_pair hp
  exact h2
 have hs:=sq_le hy 8 (by omega)
 have e:snY v false = (qtV (wpV v),false):=by
  unfold snY
  rw [whV_in (by omega) (by omega),whF_in (by omega)]
 unfold snV snF
 rw [e,snS_eq hy 8 (by omega)]
 dsimp only
 rw [whV_in (by omega) (by omega),whF_in (by omega)]
 exact ⟨rfl,rfl⟩
theorem csV_q {v:Int} (h:-1000000000000000 ≤ v ∧ v ≤ 1000000000000000):csV v false = cl1 (sq (qtV (if 13493037704 < wpV v + 6746518852 then wpV v + 6746518852 - 26986075409 else wpV v + 6746518852)) 8) ∧ csF v false = false:=by
 have hp:=@wpV_le v
 have e:nAdd (wpV (whV v),whF v false) (6746518852,false) = (wpV v + 6746518852,false):=by
  rw [whV_in (by omega) (by omega),whF_in (by omega)]
  unfold nAdd
  dsimp only
  rw [whV_in (by omega) (by omega),whV_in (by omega) (by omega),ftV_in (by omega) (by omega),ftF_in (by omega) (by omega),whF_in (by omega),whF_in (by omega)]
  rfl
 have k:=@snV_q (wpV v + 6746518852) (by omega)
 rw [wpV_sh hp] at k
 unfold csV csF
 rw [e]
 exact k
theorem big_sq {x:Int} (h:4294967296 ≤ x ∨ x ≤ -4294967296):18446744073709551616 ≤ x * x:=by
 rcases h with h | h
 ·have:=Int.mul_le_mul h h (by omega) (by omega)
  omega
 ·have:=Int.mul_le_mul (a:=4294967296) (b:=4294967296) (c:=-x) (d:=-x) (by omega) (by omega) (by omega) (by omega)
  rw [Int.neg_mul_neg] at this
  omega
theorem cl1_sq {x:Int}:(cl1 x * cl1 x = x * x ∧ x * x ≤ 18446744073709551616) ∨ (cl1 x * cl1 x = 18446744073709551616 ∧ 18446744073709551616 ≤ x * x):=by
 by_cases h1:4294967296 < x
 ·refine .inr ⟨?_,big_sq (.inl (by omega))⟩
  rw [show cl1 x = 4294967296 from by unfold cl1; omega]
  rfl
 by_cases h2:x < -4294967296
 ·refine .inr ⟨?_,big_sq (.inr (by omega))⟩
  rw [show cl1 x = -4294967296 from by unfold cl1; omega]
  rfl
 ·refine .inl ⟨by rw [show cl1 x = x from by unfold cl1; omega],?_⟩
  have:=ab_mul (a:=x) (b:=x) (A:=4294967296) (B:=4294967296) (by omega) (by omega)
  omega
theorem sq_nn (x:Int):0 ≤ x * x:=by
 rcases Int.le_total 0 x with h | h
 ·exact Int.mul_nonneg h h
 ·have:=Int.mul_nonneg (a:=-x) (b:=-x) (by omega) (by omega)
  rw [Int.neg_mul_neg] at this
  exact this
theorem cl1_bd {x:Int}:-4294967296 ≤ cl1 x ∧ cl1 x ≤ 4294967296:=by unfold cl1; omega
theorem cl_circle {a b:Int} (h:-35184372088832 ≤ a * a + b * b - 18446744073709551616 ∧ a * a + b * b - 18446744073709551616 ≤ 35184372088832) :
  -35184372088832 ≤ cl1 a * cl1 a + cl1 b * cl1 b - 18446744073709551616 ∧ cl1 a * cl1 a + cl1 b * cl1 b - 18446744073709551616 ≤ 35184372088832:=by
 have ha:=sq_nn a
 have hb:=sq_nn b
 generalize ea:a * a = A at *
 generalize eb:b * b = B at *
 have ca:=@cl1_sq a
 have cb:=@cl1_sq b
 rw [ea] at ca
 rw [eb] at cb
 generalize cl1 a * cl1 a = P at *
 generalize cl1 b * cl1 b = Q at *
 omega
theorem foRot_ok (u:Int):rotS (foRot u).1.1 (foRot u).1.2 (foRot u).2.1 (foRot u).2.2 = 0:=by
 have hv:-1000000000000000 ≤ u.tmod (8 * 4294967296) ∧ u.tmod (8 * 4294967296) ≤ 1000000000000000:=by
  have h1:u.tmod (8 * 4294967296) < 8 * 4294967296:=Int.tmod_lt_of_pos u (by omega)
  have h2:-(8 * 4294967296) < u.tmod (8 * 4294967296):=Int.lt_tmod_of_pos u (by omega)
  omega
 unfold foRot
 dsimp only
 generalize u.tmod (8 * 4294967296) = v at *
 have hp:=@wpV_le v
 obtain ⟨q,q1,q2,q3,q4,q5⟩:=qt_pair hp
 have hc:=sq_circle q2 q1 q3 q5
 obtain ⟨s1,s2⟩:=snV_q hv
 obtain ⟨c1,c2⟩:=csV_q hv
 rw [s1,s2,c1,c2]
 generalize sq (qtV (wpV v)) 8 = S at *
 generalize sq (qtV (if 13493037704 < wpV v + 6746518852 then wpV v + 6746518852 - 26986075409 else wpV v + 6746518852)) 8 = C at *
 have hk:=cl_circle hc
 have k1:=@cl1_bd S
 have k2:=@cl1_bd C
 have e:(nDot (cl1 C,false) (cl1 C,false) (cl1 S,false) (cl1 S,false)).1 = (cl1 C * cl1 C + cl1 S * cl1 S).tdiv 4294967296:=by
  unfold nDot
  dsimp only
  rw [whV_in (by omega) (by omega),whV_in (by omega) (by omega)]
  have:=@td_err (cl1 C * cl1 C + cl1 S * cl1 S) 4294967296 (by omega)
  exact ftV_in (by omega) (by omega)
 have hd:=@td_err (cl1 C * cl1 C + cl1 S * cl1 S) 4294967296 (by omega)
 unfold rotS
 rw [e,whF_in (by omega),whF_in (by omega)]
 refine if_neg ?_
 simp
 omega
end Go.Ax
end
section
set_option maxHeartbeats 4000000
set_option maxRecDepth 100000
namespace Go.Ax
open Go.Proofs Go.Proofs.Tryz
end Go.Ax
end
section
set_option maxHeartbeats 4000000
namespace Go.Ax
def gd (a:Nb) (B:Int):Prop:=a.2 = false ∧ -B ≤ a.1 ∧ a.1 ≤ B
theorem tdiv_bd {v C k:Int} (hk:0 < k) (h:-(C * k) ≤ v ∧ v ≤ C * k):-C ≤ v.tdiv k ∧ v.tdiv k ≤ C:=by
 by_cases s:0 ≤ v
 ·rw [Int.tdiv_eq_ediv_of_nonneg s]
  have h1:0 ≤ v / k:=Int.ediv_nonneg s (by omega)
  have h2:v / k ≤ C:=Int.ediv_le_of_le_mul hk h.2
  omega
 ·have e:v.tdiv k = -((-v) / k):=by
   rw [← Int.tdiv_eq_ediv_of_nonneg (show 0 ≤ -v by omega),Int.neg_tdiv,Int.neg_neg]
  rw [e]
  have h1:0 ≤ (-v) / k:=Int.ediv_nonneg (by omega) (by omega)
  have h2:(-v) / k ≤ C:=Int.ediv_le_of_le_mul hk (by omega)
  omega
end Go.Ax
end
section
set_option maxHeartbeats 4000000
namespace Go.Ax
end Go.Ax
end
section
set_option maxHeartbeats 4000000
set_option maxRecDepth 100000
namespace Go.Ax
open Go.Proofs Go.Proofs.Tryz
theorem cir_div {X Y n x y e f:Int} (hn:2147483648 ≤ n) (h1:n * n ≤ X * X + Y * Y) (h2:X * X + Y * Y ≤ n * n + 2 * n) (hx:n * x = X * 4294967296 - e) (hy:n * y = Y * 4294967296 - f) (he:-n ≤ e ∧ e ≤ n) (hf:-n ≤ f ∧ f ≤ n) :
  -68719476736 ≤ x * x + y * y - 18446744073709551616 ∧ x * x + y * y - 18446744073709551616 ≤ 68719476736:=by
 have sX:=sq_nn X
 have sY:=sq_nn Y
 have lim:∀ Z:Int,Z * Z ≤ n * n + 2 * n → -(n + 1) ≤ Z ∧ Z ≤ n + 1:=fun Z hZ => by
  have q:∀ W:Int,W * W ≤ n * n + 2 * n → W ≤ n + 1:=fun W hW => by
   refine Int.not_lt.1 fun hlt => ?_
   have:(n + 2) * (n + 2) ≤ W * W:=Int.mul_le_mul (by omega) (by omega) (by omega) (by omega)
   have e2:(n + 2) * (n + 2) = n * n + 4 * n + 4:=by grind
   omega
  have q1:=q Z hZ
  have q2:=q (-Z) (by rw [Int.neg_mul_neg]; exact hZ)
  omega
 have bX:=lim X (by omega)
 have bY:=lim Y (by omega)
 have m1:=ab_mul bX he
 have m2:=ab_mul bY hf
 have m3:=ab_mul he he
 have m4:=ab_mul hf hf
 have s3:=sq_nn e
 have s4:=sq_nn f
 have eN:(n + 1) * n = n * n + n:=by grind
 rw [eN] at m1 m2
 have id1:(n * n) * (x * x + y * y) = 18446744073709551616 * (X * X + Y * Y) - 8589934592 * (X * e + Y * f) + e * e + f * f:=by
  have e1:(n * n) * (x * x + y * y) = (n * x) * (n * x) + (n * y) * (n * y):=by grind
  rw [e1,hx,hy]
  grind
 have k1:2147483648 * n ≤ n * n:=Int.mul_le_mul_of_nonneg_right hn (by omega)
 have hp:0 < n * n:=by omega
 generalize hT:x * x + y * y = T at *
 generalize hNN:n * n = N at *
 generalize hP:X * X + Y * Y = P at *
 generalize X * e = a at *
 generalize Y * f = b at *
 generalize e * e = c at *
 generalize f * f = d at *
 refine ⟨?_,?_⟩
 ·refine Int.not_lt.1 fun hlt => ?_
  have:N * T ≤ N * (18446744073709551616 - 68719476736):=Int.mul_le_mul_of_nonneg_left (by omega) (by omega)
  omega
 ·refine Int.not_lt.1 fun hlt => ?_
  have:N * (18446744073709551616 + 68719476736) ≤ N * T:=Int.mul_le_mul_of_nonneg_left (by omega) (by omega)
  omega
theorem cir_mul {C S c s X Y e f:Int} (h1:-35184372088832 ≤ C * C + S * S - 18446744073709551616 ∧ C * C + S * S - 18446744073709551616 ≤ 35184372088832) (h2:-281479271743489 ≤ c * c + s * s - 18446744073709551616 ∧ c * c + s * s - 18446744073709551616 ≤ 281479271743489)
  (bC:-4294967296 ≤ C ∧ C ≤ 4294967296) (bS:-4294967296 ≤ S ∧ S ≤ 4294967296) (bc:-8589934592 ≤ c ∧ c ≤ 8589934592) (bs:-8589934592 ≤ s ∧ s ≤ 8589934592)
  (hX:X * 4294967296 = C * c + -S * s - e) (hY:Y * 4294967296 = S * c + C * s - f) (he:-4294967296 ≤ e ∧ e ≤ 4294967296) (hf:-4294967296 ≤ f ∧ f ≤ 4294967296) :
  9223372036854775808 ≤ X * X + Y * Y ∧ X * X + Y * Y ≤ 36893488147419103232:=by
 have id1:(C * c + -S * s) * (C * c + -S * s) + (S * c + C * s) * (S * c + C * s) = (C * C + S * S) * (c * c + s * s):=by grind
 have id2:18446744073709551616 * (X * X + Y * Y) = (X * 4294967296) * (X * 4294967296) + (Y * 4294967296) * (Y * 4294967296):=by grind
 rw [hX,hY] at id2
 have a1:=ab_mul bC bc
 have a2:=ab_mul bS bs
 have a3:=ab_mul bS bc
 have a4:=ab_mul bC bs
 have eS:-S * s = -(S * s):=Int.neg_mul ..
 rw [eS] at id1 id2
 generalize hP:C * c + -(S * s) = P at *
 generalize hQ:S * c + C * s = Q at *
 have b1:=ab_mul (a:=P) (b:=e) (A:=147573952589676412928) (B:=4294967296) (by omega) he
 have b2:=ab_mul (a:=Q) (b:=f) (A:=147573952589676412928) (B:=4294967296) (by omega) hf
 have b3:=ab_mul he he
 have b4:=ab_mul hf hf
 have id3:(P - e) * (P - e) + (Q - f) * (Q - f) = (P * P + Q * Q) - 2 * (P * e + Q * f) + e * e + f * f:=by grind
 rw [id3,id1] at id2
 have m1:(18446744073709551616 - 35184372088832) * (18446744073709551616 - 281479271743489) ≤ (C * C + S * S) * (c * c + s * s):=Int.mul_le_mul (by omega) (by omega) (by omega) (by omega)
 have m2:(C * C + S * S) * (c * c + s * s) ≤ (18446744073709551616 + 35184372088832) * (18446744073709551616 + 281479271743489):=Int.mul_le_mul (by omega) (by omega) (by omega) (by omega)
 generalize (C * C + S * S) * (c * c + s * s) = M at *
 generalize X * X + Y * Y = T at *
 generalize P * e = p1 at *
 generalize Q * f = p2 at *
 generalize e * e = p3 at *
 generalize f * f = p4 at *
 omega
theorem an_circle {v:Int} (hv:-1000000000000000 ≤ v ∧ v ≤ 1000000000000000):∃ C S,csV v false = C ∧ snV v false = S ∧ csF v false = false ∧ snF v false = false ∧ (-4294967296 ≤ C ∧ C ≤ 4294967296) ∧ (-4294967296 ≤ S ∧ S ≤ 4294967296) ∧
  (-35184372088832 ≤ C * C + S * S - 18446744073709551616 ∧ C * C + S * S - 18446744073709551616 ≤ 35184372088832):=by
 have hp:=@wpV_le v
 obtain ⟨q,q1,q2,q3,q4,q5⟩:=qt_pair hp
 have hc:=sq_circle q2 q1 q3 q5
 obtain ⟨s1,s2⟩:=snV_q hv
 obtain ⟨c1,c2⟩:=csV_q hv
 generalize sq (qtV (wpV v)) 8 = S at *
 generalize sq (qtV (if 13493037704 < wpV v + 6746518852 then wpV v + 6746518852 - 26986075409 else wpV v + 6746518852)) 8 = C at *
 have hk:=cl_circle hc
 refine ⟨_,_,c1,s1,c2,s2,cl1_bd,cl1_bd,?_⟩
 omega
theorem rot_of {r:V2} (h:rotS r.1.1 r.1.2 r.2.1 r.2.2 = 0) (h1:inR r.1.1) (h2:inR r.2.1):∃ c s,r = ((c,false),(s,false)) ∧ (-8589934592 ≤ c ∧ c ≤ 8589934592) ∧ (-8589934592 ≤ s ∧ s ≤ 8589934592) ∧
  (-281479271743489 ≤ c * c + s * s - 18446744073709551616 ∧ c * c + s * s - 18446744073709551616 ≤ 281479271743489):=by
 obtain ⟨⟨c,e⟩,s,f⟩:=r
 dsimp only at h h1 h2
 unfold rotS at h
 split at h
 ·cases h
 rename_i hn
 have g1:whF c e = false:=by cases q:whF c e with | false => rfl | true => exact absurd (.inl (.inl q)) hn
 have g2:whF s f = false:=by cases q:whF s f with | false => rfl | true => exact absurd (.inl (.inr q)) hn
 have c1:c ≠ -9223372036854775808 ∧ e = false:=by
  unfold whF at g1
  simpa using g1
 have c2:s ≠ -9223372036854775808 ∧ f = false:=by
  unfold whF at g2
  simpa using g2
 have wc:whV c = c:=if_neg c1.1
 have ws:whV s = s:=if_neg c2.1
 have hd:¬ (65536 < (nDot (c,e) (c,e) (s,f) (s,f)).1 - 4294967296 ∨ 65536 < 4294967296 - (nDot (c,e) (c,e) (s,f) (s,f)).1):=fun q => hn (.inr q)
 have en:(nDot (c,e) (c,e) (s,f) (s,f)).1 = ftV ((c * c + s * s).tdiv 4294967296):=by
  unfold nDot
  dsimp only
  rw [wc,ws]
 rw [en] at hd
 have td:=@td_err (c * c + s * s) 4294967296 (by omega)
 have sc:=sq_nn c
 have ss:=sq_nn s
 generalize hT:(c * c + s * s).tdiv 4294967296 = T at *
 have hft:ftV T = T:=by
  unfold ftV at hd ⊢
  (repeat' split) <;> (try rfl) <;> (try (split at hd <;> omega)) <;> omega
 rw [hft] at hd
 have lim:∀ Z:Int,Z * Z ≤ c * c + s * s → -8589934592 ≤ Z ∧ Z ≤ 8589934592:=fun Z hZ => by
  have q:∀ W:Int,W * W ≤ c * c + s * s → W ≤ 8589934592:=fun W hW => by
   refine Int.not_lt.1 fun hlt => ?_
   have:8589934592 * 8589934592 ≤ W * W:=Int.mul_le_mul (by omega) (by omega) (by omega) (by omega)
   omega
  have q1:=q Z hZ
  have q2:=q (-Z) (by rw [Int.neg_mul_neg]; exact hZ)
  omega
 refine ⟨c,s,by rw [c1.2,c2.2],lim c (by omega),lim s (by omega),?_⟩
 omega
theorem spi_ok {r:V2} {v:Int} (h:rotS r.1.1 r.1.2 r.2.1 r.2.2 = 0) (h1:inR r.1.1) (h2:inR r.2.1) (hv:-1000000000000000 ≤ v ∧ v ≤ 1000000000000000) :
  rotS (spiS r (v,false)).1.1 (spiS r (v,false)).1.2 (spiS r (v,false)).2.1 (spiS r (v,false)).2.2 = 0:=by
 obtain ⟨c,s,rfl,bc,bs,h3⟩:=rot_of h h1 h2
 obtain ⟨C,S,e1,e2,e3,e4,bC,bS,h4⟩:=an_circle hv
 unfold spiS
 dsimp only
 rw [e1,e2,e3,e4]
 clear h h1 h2 e1 e2 e3 e4 hv
 have nS:nNeg (S,false) = (-S,false):=by
  unfold nNeg
  dsimp only
  rw [whV_in (by omega) (by omega),whF_in (by omega)]
 have hd:∀ p q t u:Int,(-4294967296 ≤ p ∧ p ≤ 4294967296) → (-8589934592 ≤ q ∧ q ≤ 8589934592) → (-4294967296 ≤ t ∧ t ≤ 4294967296) → (-8589934592 ≤ u ∧ u ≤ 8589934592) → nDot (p,false) (q,false) (t,false) (u,false) = ((p * q + t * u).tdiv 4294967296,false) ∧ (-34359738368 ≤ (p * q + t * u).tdiv 4294967296 ∧ (p * q + t * u).tdiv 4294967296 ≤ 34359738368):=fun p q t u hp hq ht hu => by
  have m1:=ab_mul hp hq
  have m2:=ab_mul ht hu
  have td:=@td_err (p * q + t * u) 4294967296 (by omega)
  have bd:-34359738368 ≤ (p * q + t * u).tdiv 4294967296 ∧ (p * q + t * u).tdiv 4294967296 ≤ 34359738368:=by omega
  refine ⟨?_,bd⟩
  unfold nDot
  dsimp only
  rw [whV_in (by omega) (by omega),whV_in (by omega) (by omega),whV_in (by omega) (by omega),whV_in (by omega) (by omega),whF_in (by omega),whF_in (by omega),whF_in (by omega),whF_in (by omega),ftV_in (by omega) (by omega),ftF_in (by omega) (by omega)]
  rfl
 obtain ⟨dX,bX⟩:=hd C c (-S) s bC bc (by omega) bs
 obtain ⟨dY,bY⟩:=hd S c C s bS bc bC bs
 have tX:=@td_err (C * c + -S * s) 4294967296 (by omega)
 have tY:=@td_err (S * c + C * s) 4294967296 (by omega)
 unfold vCom
 dsimp only
 rw [nS,dX,dY]
 obtain ⟨X,hX⟩:∃ X,X = (C * c + -S * s).tdiv 4294967296:=⟨_,rfl⟩
 obtain ⟨Y,hY⟩:∃ Y,Y = (S * c + C * s).tdiv 4294967296:=⟨_,rfl⟩
 rw [← hX] at tX bX ⊢
 rw [← hY] at tY bY ⊢
 have hm:=cir_mul (X:=X) (Y:=Y) (e:=C * c + -S * s - X * 4294967296) (f:=S * c + C * s - Y * 4294967296) h4 h3 bC bS bc bs (by omega) (by omega) (by omega) (by omega)
 clear tX tY hX hY dX dY hd nS h3 h4
 have sX:=sq_nn X
 have sY:=sq_nn Y
 obtain ⟨N,hN⟩:∃ N:Nat,N = isq (X * X + Y * Y).toNat:=⟨_,rfl⟩
 have kk:(X * X + Y * Y).toNat < 340282366920938463463374607431768211456:=by omega
 obtain ⟨i1,i2⟩:=isq_ok kk
 rw [← hN] at i1 i2
 have j1:(N:Int) * N ≤ X * X + Y * Y:=by
  have:((N * N:Nat):Int) ≤ ((X * X + Y * Y).toNat:Int):=Int.ofNat_le.2 i1
  rw [Int.natCast_mul,Int.toNat_of_nonneg (by omega)] at this
  exact this
 have j2:X * X + Y * Y < ((N:Int) + 1) * (N + 1):=by
  have:((X * X + Y * Y).toNat:Int) < (((N + 1) * (N + 1):Nat):Int):=Int.ofNat_lt.2 i2
  rw [Int.natCast_mul,Int.toNat_of_nonneg (by omega)] at this
  exact this
 have eN:((N:Int) + 1) * (N + 1) = N * N + 2 * N + 1:=by grind
 have n1:2147483648 ≤ (N:Int):=by
  refine Int.not_lt.1 fun hlt => ?_
  have:((N:Int) + 1) * (N + 1) ≤ 2147483648 * 2147483648:=Int.mul_le_mul (by omega) (by omega) (by omega) (by omega)
  omega
 have n2:(N:Int) ≤ 8589934592:=by
  refine Int.not_lt.1 fun hlt => ?_
  have:8589934592 * 8589934592 ≤ (N:Int) * N:=Int.mul_le_mul (by omega) (by omega) (by omega) (by omega)
  omega
 have eH:nHyp (X,false) (Y,false) = ((N:Int),false):=by
  unfold nHyp
  dsimp only
  rw [whV_in (by omega) (by omega),whV_in (by omega) (by omega),whF_in (by omega),whF_in (by omega),← hN,ftV_in (by omega) (by omega),ftF_in (by omega) (by omega)]
  rfl
 rw [eH,if_neg (by dsimp only; omega)]
 have hq:∀ Z:Int,-34359738368 ≤ Z ∧ Z ≤ 34359738368 → nDiv (Z,false) ((N:Int),false) = ((Z * 4294967296).tdiv N,false) ∧ (-68719476736 ≤ (Z * 4294967296).tdiv N ∧ (Z * 4294967296).tdiv N ≤ 68719476736):=fun Z hZ => by
  have bd:-68719476736 ≤ (Z * 4294967296).tdiv N ∧ (Z * 4294967296).tdiv N ≤ 68719476736:=tdiv_bd (by omega) (by omega)
  refine ⟨?_,bd⟩
  unfold nDiv raV raF
  dsimp only
  rw [whV_in (x:=Z) (by omega) (by omega),whV_in (x:=(N:Int)) (by omega) (by omega),if_neg (by omega),if_neg (by omega),ftV_in (by omega) (by omega),ftF_in (by omega) (by omega),whF_in (by omega),whF_in (by omega)]
  rfl
 obtain ⟨qX,bx⟩:=hq X bX
 obtain ⟨qY,by'⟩:=hq Y bY
 have tX:=@td_err (X * 4294967296) N (by omega)
 have tY:=@td_err (Y * 4294967296) N (by omega)
 rw [qX,qY]
 clear qX qY hq
 generalize (X * 4294967296).tdiv N = x at *
 generalize (Y * 4294967296).tdiv N = y at *
 have fin:=cir_div (X:=X) (Y:=Y) (n:=N) (x:=x) (y:=y) (e:=X * 4294967296 - x * N) (f:=Y * 4294967296 - y * N) n1 j1 (by omega) (by rw [Int.mul_comm]; omega) (by rw [Int.mul_comm]; omega) (by omega) (by omega)
 dsimp only
 have mx:=ab_mul bx bx
 have my:=ab_mul by' by'
 have td:=@td_err (x * x + y * y) 4294967296 (by omega)
 have e:(nDot (x,false) (x,false) (y,false) (y,false)).1 = (x * x + y * y).tdiv 4294967296:=by
  unfold nDot
  dsimp only
  rw [whV_in (by omega) (by omega),whV_in (by omega) (by omega)]
  exact ftV_in (by omega) (by omega)
 unfold rotS
 rw [e,whF_in (by omega),whF_in (by omega)]
 refine if_neg ?_
 simp
 omega
def dis (c d:Ct):Prop:=c.a.toNat ≠ d.a.toNat ∧ c.a.toNat ≠ d.b.toNat ∧ c.b.toNat ≠ d.a.toNat ∧ c.b.toNat ≠ d.b.toNat
structure kept (Q:Nat → Bd → Prop):Prop where
 psh:∀ i b p j,Q i b → Q i (pshS b p j)
 shf:∀ i b p,Q i b → Q i (shfS b p)
section
variable {Q:Nat → Bd → Prop} {N:Nat} {B:Nat → Bd}
theorem upd_k {j:Nat} {b:Bd} (hB:∀ i,Q i (B i)) (hb:Q j b):∀ i,Q i (updB B j b i):=fun i => by
 unfold updB
 split
 ·rename_i e; rw [e]; exact hb
 ·exact hB i
theorem hitR_k (h:kept Q) {i j:Nat} {a b:Bd} {x n:V2} {pu ru:Nb} (ha:Q i a) (hb:Q j b):Q i (hitR a b x n pu ru).a ∧ Q j (hitR a b x n pu ru).b:=by
 unfold hitR
 dsimp only
 split
 ·exact ⟨ha,hb⟩
 ·split
  ·exact ⟨h.psh _ _ _ _ ha,h.psh _ _ _ _ hb⟩
  ·exact ⟨h.psh _ _ _ _ (h.psh _ _ _ _ ha),h.psh _ _ _ _ (h.psh _ _ _ _ hb)⟩
theorem hitI_k (h:kept Q) {i j:Nat} {a b:Bd} {c:Ct} (ha:Q i a) (hb:Q j b):∀ k,Q i (hitI a b c k).a ∧ Q j (hitI a b c k).b
 | 0 => ⟨ha,hb⟩
 | 1 => hitR_k h ha hb
 | _ + 2 => by
  obtain ⟨h1,h2⟩:=hitR_k h (x:=c.P 0) (n:=c.nv) (pu:=c.p0) (ru:=c.r0) ha hb
  exact hitR_k h (a:=(hit0 a b c).a) (b:=(hit0 a b c).b) h1 h2
theorem hitT_k (h:kept Q) {c:Ct} (hB:∀ i,Q i (B i)):∀ i,Q i (hitT N B c i):=by
 unfold hitT
 split
 ·obtain ⟨h1,h2⟩:=hitI_k h (c:=c) (hB c.a.toNat) (hB c.b.toNat) (min 2 c.n)
  exact upd_k (upd_k hB h1) h2
 ·exact hB
theorem parT_k (h:kept Q) {c:Ct} (hB:∀ i,Q i (B i)):∀ i,Q i (parT N B c i):=by
 unfold parT
 split
 ·exact upd_k (upd_k hB (h.shf _ _ _ (hB _))) (h.shf _ _ _ (hB _))
 ·exact hB
theorem bndT_k (h:kept Q) {k a b:Int} {pa pb:V2} {ln dt:Nb} (hB:∀ i,Q i (B i)):∀ i,Q i (bndT N B k a b pa pb ln dt i):=by
 unfold bndT
 split
 ·split
  ·unfold grbT
   split
   ·exact upd_k hB (h.psh _ _ _ _ (hB _))
   ·exact hB
  ·split
   ·unfold rodT
    split
    ·exact upd_k (upd_k hB (h.psh _ _ _ _ (hB _))) (h.psh _ _ _ _ (hB _))
    ·exact hB
   ·unfold pinT
    split
    ·exact upd_k (upd_k hB (h.psh _ _ _ _ (hB _))) (h.psh _ _ _ _ (hB _))
    ·exact hB
 ·exact hB
theorem bndL_k (h:kept Q) {J:Nat → Jt} {dt:Nb} (hB:∀ i,Q i (B i)):∀ k i,Q i (bndL N J dt B k i)
 | 0 => hB
 | k + 1 => bndT_k h (bndL_k h hB k)
theorem hitL_k (h:kept Q) {s:Sv} (hB:∀ i,Q i (s.B i)):∀ k i,Q i ((hitL N s k).B i)
 | 0 => hB
 | k + 1 => hitT_k h (hitL_k h hB k)
theorem rndS_k (h:kept Q) {M L:Nat} {J:Nat → Jt} {dt:Nb} {s:Sv} (hB:∀ i,Q i (s.B i)):∀ k i,Q i ((rndS N M L J dt s k).B i)
 | 0 => hB
 | k + 1 => hitL_k h (s:=⟨_,_⟩) (bndL_k h (rndS_k h hB k) L) M
theorem parL_k (h:kept Q) {C:Nat → Ct} (hB:∀ i,Q i (B i)):∀ k i,Q i (parL N C B k i)
 | 0 => hB
 | k + 1 => parT_k h (parL_k h hB k)
theorem sol_k (h:kept Q) {M L:Nat} {C:Nat → Ct} {J:Nat → Jt} {r:Int} {dt:Nb} (hB:∀ i,Q i (B i)):∀ i,Q i ((solT N M L B C J r dt).B i):=
 parL_k h (rndS_k h (s:=⟨_,_⟩) hB _) M
end
theorem go_idle {b:Bd} {t:Nb} (h:idS b = true):goS b t = b:=if_pos h
theorem res_idle {b:Bd} (h:idS b = true):resS b = b:=if_pos h
theorem pul_idle {b:Bd} {g:V2} {t:Nb} (h:idS b = true):pulS b g t = b:=if_pos h
theorem far_no {x:Int} (h:-17592186044416 ≤ x ∧ x ≤ 17592186044416):farB (x,false) = false:=by
 unfold farB
 dsimp only
 rw [whF_in (by omega),whV_in (by omega) (by omega)]
 have:¬ 17592186044416 < ab x:=by unfold ab; split <;> omega
 rw [decide_eq_false this]
 rfl
theorem mk_place {a b c x y u s:Int} (hs:1 ≤ s ∧ s ≤ 4000):plErr (mkK a) (mkR a b) (mkH a b b) (mkH a b c) (mkN a) (mkX a b c) (mkY a b c) (foAt x y s) (foRot u) = 0:=by
 have h1:=@foAt_bd x s hs
 have h2:=@foAt_bd y s hs
 unfold plErr
 rw [if_neg (by rw [mk_chk]; simp),if_neg (by rw [foRot_ok]; simp)]
 unfold foAt
 dsimp only
 rw [far_no (by omega),far_no (by omega)]
 rfl
theorem mk_nwE {a b c x y u d k s:Int} (hs:1 ≤ s ∧ s ≤ 4000):nwE (mkK a) (mkR a b) (mkH a b b) (mkH a b c) (mkN a) (mkX a b c) (mkY a b c) (foAt x y s) (foRot u) (mkD d k) (modS k 4 != 0) = 0:=by
 unfold nwE
 rw [if_neg (by rw [mk_chk]; simp)]
 by_cases hk:modS k 4 = 0
 ·have e:mkD d k = 0:=if_pos hk
  rw [e,mk_place hs,hk]
  rfl
 ·have e:(modS k 4 != 0) = true:=by simpa using hk
  rw [e,if_pos rfl,mk_wgE hk,mk_place hs]
  rfl
theorem cor_lo {a b c:Int} (i:Nat) (hi:i < corN (mkK a) (mkR a b) (mkH a b b) (mkH a b c) (mkN a) (mkX a b c) (mkY a b c)):lo (corX (mkK a) (mkH a b b) (mkH a b c) (mkX a b c) i) ∧ lo (corY (mkK a) (mkH a b b) (mkH a b c) (mkY a b c) i):=by
 have w1:=@mkW_bd b b
 have w2:=@mkW_bd b c
 have h1:∀ v,0 ≤ mkH a b v ∧ mkH a b v ≤ 4096:=fun v => by
  have:=@mkW_bd b v
  unfold mkH
  (repeat' split) <;> omega
 have h2:=h1 b
 have h3:=h1 c
 unfold corN at hi
 rw [if_pos mk_chk] at hi
 unfold corX corY
 split at hi
 ·rename_i hk
  rw [if_pos hk,if_pos hk]
  match i with
  | 0 => show lo (-mkH a b b) ∧ lo (-mkH a b c); unfold lo; omega
  | 1 => show lo (mkH a b b) ∧ lo (-mkH a b c); unfold lo; omega
  | 2 => show lo (mkH a b b) ∧ lo (mkH a b c); unfold lo; omega
  | 3 => show lo (-mkH a b b) ∧ lo (mkH a b c); unfold lo; omega
  | i + 4 => omega
 ·rename_i hk
  rw [if_neg hk,if_neg hk]
  exact mk_lo i hi
theorem crI_bd {P Q:Nat → Int} {n i:Nat} (hl:∀ i,i < n → lo (P i) ∧ lo (Q i)) (hi:i < n):-33554432 ≤ crI P Q n i ∧ crI P Q n i ≤ 33554432:=by
 have hj:(i + 1) % n < n:=Nat.mod_lt _ (by omega)
 have k1:=lo_mul (hl i hi).1 (hl _ hj).2
 have k2:=lo_mul (hl i hi).2 (hl _ hj).1
 unfold crI
 rw [wrap_in (inRo (by omega))]
 omega
theorem tdp {n k lo' hi:Int} (hk:0 < k) (hn:0 ≤ n) (h1:lo' * k ≤ n) (h2:n < hi * k):lo' ≤ n.tdiv k ∧ n.tdiv k < hi:=by
 rw [Int.tdiv_eq_ediv_of_nonneg hn]
 exact ⟨(Int.le_ediv_iff_mul_le hk).2 h1,(Int.ediv_lt_iff_lt_mul hk).2 h2⟩
theorem sq_bd {w:Int} (h:16 ≤ w ∧ w ≤ 4096):256 ≤ w * w ∧ w * w ≤ 16777216:=by
 have h1:=Int.mul_le_mul h.1 h.1 (by omega) (by omega)
 have h2:=Int.mul_le_mul h.2 h.2 (by omega) (by omega)
 omega
theorem mk_wgS_in {k r w t d:Int} {n:Nat} {X Y:Nat → Int}:inR (wgS k r w t n X Y d).1.1 ∧ inR (wgS k r w t n X Y d).2.1:=by
 have q:∀ a b:Nb,inR (nDiv a b).1:=fun a b => by
  have h:rg (nDiv a b).1:=raV_rg
  unfold rg at h
  unfold inR
  omega
 unfold wgS
 split
 ·unfold wgM
  split
  ·exact ⟨q _ _,q _ _⟩
  ·exact ⟨q _ _,q _ _⟩
 ·exact ⟨by unfold inR; decide,by unfold inR; decide⟩
end Go.Ax
end